/- Functions of the program that the laws reach: a plain function each, and that the call comes to its answer if the plain function has one. Printed by a program. -/
import Derived.Test.YtolfkfjjifdmeaaT
import Derived.Test.YtolfkfjjifdmeaaTab
namespace Go.Proofs.Ytolfkfjjifdmeaa
open Eng
set_option linter.unusedVariables false

set_option linter.unusedSectionVars false
set_option maxRecDepth 100000
variable [dsW : DrwS]
noncomputable section
/-! ### laws.a2Long -/
def laws_a2Long (code0 : List Int) (more1 : List Int) : Option (Bool) := some ((decide ((code0.length : Int) > 3000)) || (decide ((more1.length : Int) > 3000)))
theorem laws_a2Long.calls (code0 : List Int) (more1 : List Int) (w : World) (r : Bool) {A_a : Option Addr} {A_an : Nat} (A_c : Nat) (A_h : Rw w A_a 1 encU8 code0) (A_hn : code0.length = A_an) {B_a : Option Addr} {B_an : Nat} (B_c : Nat) (B_h : Rw w B_a 1 encU8 more1) (B_hn : more1.length = B_an) (h : laws_a2Long code0 more1 = some r) :
    Calls Try.prog 4 #[(.slice A_a A_an A_c), (.slice B_a B_an B_c)] w fun e w' => ∃ v, e = .returned v ∧ (v = (.bool r) ∧ Mem w [] [] w') := by
  subst A_hn B_hn
  rw [laws_a2Long] at h
  refine enter (args := [(.slice A_a code0.length A_c), (.slice B_a more1.length B_c)]) Try.func4 rfl Try.ntmps4 (by kernel_rfl) (L := []) (W := []) (Mem.start w) ?_
  refine jc_seq (jc_region (qh [0] (qe (jx_then (jc_seq (jc_region (qf [(0, 0), (0, 0), (0, 0), (0, 0), (0, 1), (0, 1), (0, 1), (0, 0), (0, 0)] (qe (jx_then (jc_ret ?_))))))))))
  obtain rfl := Option.some.inj h
  exact qr [] (fun w hm => ⟨rfl, hm.pk []⟩)
/-! ### spec.l00From -/
def spec_l00From (code0 : List Int) : Option (Gl00Src) := some (⟨code0, 0, 0⟩ : Gl00Src)
theorem spec_l00From.calls (code0 : List Int) (w : World) (r : Gl00Src) {A_a : Option Addr} {A_an : Nat} (A_c : Nat) (A_h : Rw w A_a 1 encU8 code0) (A_hn : code0.length = A_an) (h : spec_l00From code0 = some r) :
    Calls Try.prog 26 #[(.slice A_a A_an A_c)] w fun e w' => ∃ v, e = .returned v ∧ (∃ (pb0 : Nat), v = .pointer (some ⟨pb0, 0, none⟩) ∧ Mem w [] [⟨some pb0, 95, [(.slice A_a A_an A_c), (.int .i64 r.fat), (.int .u64 r.fseed)]⟩] w') := by
  subst A_hn
  rw [spec_l00From] at h
  refine enter (args := [(.slice A_a code0.length A_c)]) Try.func26 rfl Try.ntmps26 (by kernel_rfl) (L := []) (W := []) (Mem.start w) ?_
  refine jc_seq (jc_region (qh [0] (qe (jx_then (jc_seq (jc_region (qh [0,0] (tO (qa 0 (fun b_1 => jkO (qh [0] (qe (jx_then (jc_ret ?_))))))))))))))
  obtain rfl := Option.some.inj h
  exact qr [] (fun w hm => ⟨b_1, rfl, hm.pk [0]⟩)
/-! ### (*spec.l00Src).next -/
def spec_l00Src_next.k_2 (s0 : Gl00Src) (i_1 : Int) : Option (Int × Gl00Src) := (if (decide ((w64 (s0.fat + 1)) ≤ (s0.fcode.length : Int))) = true then some (i_1, (⟨s0.fcode, (w64 (s0.fat + 1)), (u64 ((u64 ((u64 (s0.fseed * 6364136223846793005)) + (u64 i_1))) + 1442695040888963407))⟩ : Gl00Src)) else some ((w64 (bAnd .u64 (bShr .u64 (u64 ((u64 ((u64 (s0.fseed * 6364136223846793005)) + (u64 i_1))) + 1442695040888963407)) 40) 255)), (⟨s0.fcode, (w64 (s0.fat + 1)), (u64 ((u64 ((u64 (s0.fseed * 6364136223846793005)) + (u64 i_1))) + 1442695040888963407))⟩ : Gl00Src)))
def spec_l00Src_next (s0 : Gl00Src) : Option (Int × Gl00Src) := (if (decide (s0.fat < (s0.fcode.length : Int))) = true then (ix s0.fcode s0.fat).bind fun x_3 => spec_l00Src_next.k_2 s0 (w64 x_3) else spec_l00Src_next.k_2 s0 0)
theorem spec_l00Src_next.calls (s0 : Gl00Src) (w : World) (r : Int × Gl00Src) {B_a : Option Addr} {B_an : Nat} (B_c : Nat) (B_h : Rw w B_a 1 encU8 s0.fcode) (B_hn : s0.fcode.length = B_an) (A_b : Nat) (hm0 : Mem w (bs [some A_b]) [⟨some A_b, 95, [(.slice B_a B_an B_c), (.int .i64 s0.fat), (.int .u64 s0.fseed)]⟩] w) (B_ha : s0.fcode ≠ [] → aB B_a ∉ bs [some A_b]) (h : spec_l00Src_next s0 = some r) :
    Calls Try.prog 59 #[(.pointer (some ⟨A_b, 0, none⟩))] w fun e w' => ∃ v, e = .returned v ∧ (v = (.int .i64 r.1) ∧ Mem w (bs [some A_b]) [⟨some A_b, 95, [(.slice B_a B_an B_c), (.int .i64 r.2.fat), (.int .u64 r.2.fseed)]⟩] w') := by
  subst B_hn
  rw [spec_l00Src_next] at h
  refine enter (args := [(.pointer (some ⟨A_b, 0, none⟩))]) Try.func59 rfl Try.ntmps59 (by kernel_rfl) (L := [⟨some A_b, 95, [(.slice B_a s0.fcode.length B_c), (.int .i64 s0.fat), (.int .u64 s0.fseed)]⟩]) (W := bs [some A_b]) hm0 ?_
  refine jc_seq (jc_region (qh [0] (qe (jx_then (jc_seq (jc_region (qh [0] (qe (jx_then (jc_seq (jc_meet (fun (j : Int) => match j with | i_1 => spec_l00Src_next.k_2 s0 i_1 = some r) (fun (j : Int) => match j with | i_1 => [(0, [], (.pointer (some ⟨A_b, 0, none⟩))), (2, [], (.int .i64 0)), (3, [], (.int .i64 i_1))]) (fun (j : Int) => match j with | i_1 => [⟨some A_b, 95, [(.slice B_a s0.fcode.length B_c), (.int .i64 s0.fat), (.int .u64 s0.fseed)]⟩]) ?_ ?_)))))))))))
  ·refine jc_seq (qg [⟨some A_b, 95, [(.slice B_a s0.fcode.length B_c), (.int .i64 s0.fat), (.int .u64 s0.fseed)]⟩] 10 (qd [⟨0, 0, 0⟩,⟨1, 0, 0⟩,⟨2, 0, 0⟩,⟨3, 0, 0⟩,⟨4, 0, 0⟩,⟨5, 0, 0⟩,⟨6, 0, 0⟩,⟨7, 0, 0⟩,⟨8, 0, 0⟩,⟨9, 0, 0⟩] 0 [0] (qz (jx_then (qi h (fun h => ?_) (fun h => ?_))))))
   ·refine qg [⟨some A_b, 95, [(.slice B_a s0.fcode.length B_c), (.int .i64 s0.fat), (.int .u64 s0.fseed)]⟩] 12 (qd [⟨0, 0, 0⟩,⟨1, 0, 0⟩,⟨2, 0, 0⟩,⟨3, 0, 0⟩,⟨4, 0, 0⟩,⟨5, 0, 0⟩,⟨6, 0, 0⟩,⟨7, 0, 0⟩] 4 [0] ?_)
    obtain ⟨x_3, hx_6, h⟩ := bd h
    exact qv 8 0 [0] (fun w hm => idx_run (a := B_a) (len := s0.fcode.length) (s := 1) (j := s0.fat) (by kernel_rfl) (ix_some hx_6).1 (ltn hx_6 rfl) (B_h.sp hx_6)) (qv 9 0 [0] (fun w hm => ld_run (b := aB B_a) (off := (aO B_a + s0.fat.toNat * 1)) (s := 1) (agg := false) (vs := (encU8 x_3)) (by kernel_rfl) (by kernel_rfl) (.inr rfl) ((hm.exRowW B_h B_ha).at hx_6)) (qd [⟨10, 0, 0⟩,⟨11, 0, 0⟩] 0 [0] (qz (qm (w64 x_3) h [0]))))
   ·exact jc_skip (qm 0 h [0])
  ·rintro i_1 h
   replace h : spec_l00Src_next.k_2 s0 i_1 = some r := h
   rw [spec_l00Src_next.k_2] at h
   refine jx_then (jc_seq (jc_region (qh [0,0,0,0,0,0,0] (tO (qs 0 [0] (jkO (qe (jx_then (jc_seq (jc_region (qh [0,0,0,0,0,0,0,0,0,0,0,0] (tO (qs 0 [0] (jkO (qe (jx_then (jc_seq (jc_seq (qg [⟨some A_b, 95, [(.slice B_a s0.fcode.length B_c), (.int .i64 (w64 (s0.fat + 1))), (.int .u64 (u64 ((u64 ((u64 (s0.fseed * 6364136223846793005)) + (u64 i_1))) + 1442695040888963407)))]⟩] 10 (qd [⟨0, 0, 0⟩,⟨1, 0, 0⟩,⟨2, 0, 0⟩,⟨3, 0, 0⟩,⟨4, 0, 0⟩,⟨5, 0, 0⟩,⟨6, 0, 0⟩,⟨7, 0, 0⟩,⟨8, 0, 0⟩,⟨9, 0, 0⟩] 0 [0] (qz (jx_then (qi h (fun h => ?_) (fun h => ?_))))))))))))))))))))))))
   ·refine jc_seq (jc_region (qh [0,0] (qe (jx_then (jc_ret (jx_thenr ?_))))))
    obtain rfl := Option.some.inj h
    exact qr [] (fun w hm => ⟨rfl, hm.pk [0]⟩)
   ·refine jc_skip (jx_then (jc_seq (jc_region (qh [0,0,0,0,0,0,0,0] (qe (jx_then (jc_ret ?_)))))))
    obtain rfl := Option.some.inj h
    exact qr [] (fun w hm => ⟨rfl, hm.pk [0]⟩)
/-! ### (*spec.l00Src).pick -/
def spec_l00Src_pick.k_5 (s0 : Gl00Src) (n1 : Int) (i_2 : Int) (i_3 : Int) (i_4 : Int) : Option (Int × Gl00Src) := (if n1 ≠ 0 then some ((Int.tmod i_4 n1), (⟨s0.fcode, i_2, i_3⟩ : Gl00Src)) else none)
def spec_l00Src_pick (s0 : Gl00Src) (n1 : Int) : Option (Int × Gl00Src) := (if (decide (n1 ≤ 1)) = true then some (0, s0) else (spec_l00Src_next s0).bind fun t_1 => (if (decide (n1 > 200)) = true then (spec_l00Src_next (⟨s0.fcode, t_1.2.fat, t_1.2.fseed⟩ : Gl00Src)).bind fun t_6 => spec_l00Src_pick.k_5 s0 n1 t_6.2.fat t_6.2.fseed (w64 ((w64 (t_1.1 * 256)) + t_6.1)) else spec_l00Src_pick.k_5 s0 n1 t_1.2.fat t_1.2.fseed t_1.1))
theorem spec_l00Src_pick.calls (s0 : Gl00Src) (n1 : Int) (w : World) (r : Int × Gl00Src) {B_a : Option Addr} {B_an : Nat} (B_c : Nat) (B_h : Rw w B_a 1 encU8 s0.fcode) (B_hn : s0.fcode.length = B_an) (A_b : Nat) (hm0 : Mem w (bs [some A_b]) [⟨some A_b, 95, [(.slice B_a B_an B_c), (.int .i64 s0.fat), (.int .u64 s0.fseed)]⟩] w) (B_ha : s0.fcode ≠ [] → aB B_a ∉ bs [some A_b]) (h : spec_l00Src_pick s0 n1 = some r) :
    Calls Try.prog 27 #[(.pointer (some ⟨A_b, 0, none⟩)), (.int .i64 n1)] w fun e w' => ∃ v, e = .returned v ∧ (v = (.int .i64 r.1) ∧ Mem w (bs [some A_b]) [⟨some A_b, 95, [(.slice B_a B_an B_c), (.int .i64 r.2.fat), (.int .u64 r.2.fseed)]⟩] w') := by
  subst B_hn
  rw [spec_l00Src_pick] at h
  refine enter (args := [(.pointer (some ⟨A_b, 0, none⟩)), (.int .i64 n1)]) Try.func27 rfl Try.ntmps27 (by kernel_rfl) (L := [⟨some A_b, 95, [(.slice B_a s0.fcode.length B_c), (.int .i64 s0.fat), (.int .u64 s0.fseed)]⟩]) (W := bs [some A_b]) hm0 ?_
  refine jc_seq (jc_region (qh [0] (qe (jx_then (jc_seq (jc_seq (jc_region (qh [0,0] (qe (jx_then (qi h (fun h => ?_) (fun h => ?_))))))))))))
  ·refine jc_seq (jc_region (qh [0] (qe (jx_then (jc_ret (jx_thenr ?_))))))
   obtain rfl := Option.some.inj h
   exact qr [] (fun w hm => ⟨rfl, hm.pk [0]⟩)
  ·refine jc_skip (jx_then (jc_seq (jc_region (qh [0] ?_))))
   obtain ⟨t_1, ht_3, h⟩ := bd h
   refine tO (pc 0 (fun w hm => spec_l00Src_next.calls s0 w _ B_c (hm.exRowW B_h B_ha) rfl A_b (hm.pass (N := [⟨some A_b, 95, [(.slice B_a s0.fcode.length B_c), (.int .i64 s0.fat), (.int .u64 s0.fseed)]⟩]) [0] (by kernel_rfl) (by kernel_rfl)) (hm.exApart (N := [⟨some A_b, 95, [(.slice B_a s0.fcode.length B_c), (.int .i64 s0.fat), (.int .u64 s0.fseed)]⟩]) B_h B_ha [0] (by kernel_rfl)) ht_3) ?_)
   rintro w v w' hm ⟨rfl, hm'⟩
   refine ⟨_, hm.appW (ps := [(0, ⟨some A_b, 95, [(.slice B_a s0.fcode.length B_c), (.int .i64 t_1.2.fat), (.int .u64 t_1.2.fseed)]⟩)]) (N := []) hm' (by kernel_rfl) (by kernel_rfl), jkO ?_⟩
   clear hm hm'
   refine qh [0] (qe (jx_then (jc_seq (jc_meet (fun (j : Int × Int × Int) => match j with | ⟨i_2, i_3, i_4⟩ => spec_l00Src_pick.k_5 s0 n1 i_2 i_3 i_4 = some r) (fun (j : Int × Int × Int) => match j with | ⟨i_2, i_3, i_4⟩ => [(1, [], (.int .i64 n1)), (4, [], (.int .i64 0)), (5, [], (.int .i64 i_4))]) (fun (j : Int × Int × Int) => match j with | ⟨i_2, i_3, i_4⟩ => [⟨some A_b, 95, [(.slice B_a s0.fcode.length B_c), (.int .i64 i_2), (.int .u64 i_3)]⟩]) ?_ ?_))))
   ·refine jc_seq (jc_region (qh [0,0] (qe (jx_then (qi h (fun h => ?_) (fun h => ?_))))))
    ·refine jc_region (qh [0,0,0] ?_)
     obtain ⟨t_6, ht_8, h⟩ := bd h
     refine tO (pc 0 (fun w hm => spec_l00Src_next.calls (⟨s0.fcode, t_1.2.fat, t_1.2.fseed⟩ : Gl00Src) w _ B_c (hm.exRowW B_h B_ha) rfl A_b (hm.pass (N := [⟨some A_b, 95, [(.slice B_a s0.fcode.length B_c), (.int .i64 t_1.2.fat), (.int .u64 t_1.2.fseed)]⟩]) [0] (by kernel_rfl) (by kernel_rfl)) (hm.exApart (N := [⟨some A_b, 95, [(.slice B_a s0.fcode.length B_c), (.int .i64 t_1.2.fat), (.int .u64 t_1.2.fseed)]⟩]) B_h B_ha [0] (by kernel_rfl)) ht_8) ?_)
     rintro w v w' hm ⟨rfl, hm'⟩
     refine ⟨_, hm.appW (ps := [(0, ⟨some A_b, 95, [(.slice B_a s0.fcode.length B_c), (.int .i64 t_6.2.fat), (.int .u64 t_6.2.fseed)]⟩)]) (N := []) hm' (by kernel_rfl) (by kernel_rfl), jkO ?_⟩
     clear hm hm'
     exact qh [0,0] (qe (qm ⟨t_6.2.fat, t_6.2.fseed, (w64 ((w64 (t_1.1 * 256)) + t_6.1))⟩ h [0]))
    ·exact jc_skip (qm ⟨t_1.2.fat, t_1.2.fseed, t_1.1⟩ h [0])
   ·rintro ⟨i_2, i_3, i_4⟩ h
    replace h : spec_l00Src_pick.k_5 s0 n1 i_2 i_3 i_4 = some r := h
    rw [spec_l00Src_pick.k_5] at h
    refine jx_then (jc_seq (jc_region (qh [0,0] ?_)))
    obtain ⟨hg_6, h⟩ := gd h
    refine tO (p_rem 0 .i64 i_4 n1 (by kernel_rfl) (by kernel_rfl) hg_6 (jkO (qh [0] (qe (jx_then (jc_ret ?_))))))
    obtain rfl := Option.some.inj h
    exact qr [] (fun w hm => ⟨rfl, hm.pk [0]⟩)
/-! ### spec.l02FrameDrawn -/
def spec_l02FrameDrawn.k_6 (s0 : Gl00Src) (t_1 : Int × Gl00Src) (i_3 : Int) (i_4 : Int) (xs_5 : List GHammer) : Option (GFrame × Gl00Src) := some ((⟨(w16 (w64 (4 + t_1.1))), xs_5⟩ : GFrame), (⟨s0.fcode, i_3, i_4⟩ : Gl00Src))
def spec_l02FrameDrawn.l_11 (s0 : Gl00Src) : (Int × Int × (List GHammer) × Int) → Option ((Int × Int × (List GHammer) × Int) ⊕ ((Int × Int × (List GHammer))))
  | (i_7, i_8, xs_9, i_10) => (if (decide (i_10 > 0)) = true then (spec_l00Src_pick (⟨s0.fcode, i_7, i_8⟩ : Gl00Src) 4).bind fun t_13 => (spec_l00Src_pick (⟨s0.fcode, t_13.2.fat, t_13.2.fseed⟩ : Gl00Src) 4).bind fun t_14 => (if xs_9.length + ([(⟨(w8 (w64 (22 + t_13.1))), (w8 (w64 (1 + t_14.1)))⟩ : GHammer)] : List GHammer).length ≤ 4294967296 then some (.inl (t_14.2.fat, t_14.2.fseed, (xs_9 ++ ([(⟨(w8 (w64 (22 + t_13.1))), (w8 (w64 (1 + t_14.1)))⟩ : GHammer)] : List GHammer)), (w64 (i_10 - 1)))) else none) else some (.inr (i_7, i_8, xs_9)))
def spec_l02FrameDrawn (s0 : Gl00Src) : Option (GFrame × Gl00Src) := (spec_l00Src_pick s0 14).bind fun t_1 => (spec_l00Src_pick (⟨s0.fcode, t_1.2.fat, t_1.2.fseed⟩ : Gl00Src) 5).bind fun t_2 => (loop (spec_l02FrameDrawn.l_11 s0) (t_2.2.fat, t_2.2.fseed, [], (w64 (1 + t_2.1)))).bind fun t_12 => spec_l02FrameDrawn.k_6 s0 t_1 t_12.1 t_12.2.1 t_12.2.2
theorem spec_l02FrameDrawn.calls (s0 : Gl00Src) (w : World) (r : GFrame × Gl00Src) {B_a : Option Addr} {B_an : Nat} (B_c : Nat) (B_h : Rw w B_a 1 encU8 s0.fcode) (B_hn : s0.fcode.length = B_an) (A_b : Nat) (hm0 : Mem w (bs [some A_b]) [⟨some A_b, 95, [(.slice B_a B_an B_c), (.int .i64 s0.fat), (.int .u64 s0.fseed)]⟩] w) (B_ha : s0.fcode ≠ [] → aB B_a ∉ bs [some A_b]) (h : spec_l02FrameDrawn s0 = some r) :
    Calls Try.prog 25 #[(.pointer (some ⟨A_b, 0, none⟩))] w fun e w' => ∃ v, e = .returned v ∧ (∃ (o0 : Option Nat) (c0 : Nat) (s0 : List Value) (n0 : Nat), r.1.fHammers.length = n0 ∧ (o0 ≠ none → n0 ≤ c0 ∧ s0.length = (c0 - n0) * 2) ∧ (o0 = none → r.1.fHammers = [] ∧ c0 = 0) ∧ v = .agg #[(.int .i16 r.1.fSteps), .slice (o0.map fun b => ⟨b, 0, none⟩) n0 c0] ∧ Mem w (bs [some A_b]) [⟨some A_b, 95, [(.slice B_a B_an B_c), (.int .i64 r.2.fat), (.int .u64 r.2.fseed)]⟩, ⟨o0, 92, row encGHammer r.1.fHammers s0⟩] w') := by
  subst B_hn
  rw [spec_l02FrameDrawn] at h
  refine enter (args := [(.pointer (some ⟨A_b, 0, none⟩))]) Try.func25 rfl Try.ntmps25 (by kernel_rfl) (L := [⟨some A_b, 95, [(.slice B_a s0.fcode.length B_c), (.int .i64 s0.fat), (.int .u64 s0.fseed)]⟩]) (W := bs [some A_b]) hm0 ?_
  refine jc_seq (jc_region (tO (qa 0 (fun b_1 => jkO (qe (jx_then (jc_seq (jc_region (qh [0] ?_)))))))))
  obtain ⟨t_1, ht_2, h⟩ := bd h
  refine tO (pc 0 (fun w hm => spec_l00Src_pick.calls s0 14 w _ B_c (hm.exRowW B_h B_ha) rfl A_b (hm.pass (N := [⟨some A_b, 95, [(.slice B_a s0.fcode.length B_c), (.int .i64 s0.fat), (.int .u64 s0.fseed)]⟩]) [0] (by kernel_rfl) (by kernel_rfl)) (hm.exApart (N := [⟨some A_b, 95, [(.slice B_a s0.fcode.length B_c), (.int .i64 s0.fat), (.int .u64 s0.fseed)]⟩]) B_h B_ha [0] (by kernel_rfl)) ht_2) ?_)
  rintro w v w' hm ⟨rfl, hm'⟩
  refine ⟨_, hm.appW (ps := [(0, ⟨some A_b, 95, [(.slice B_a s0.fcode.length B_c), (.int .i64 t_1.2.fat), (.int .u64 t_1.2.fseed)]⟩)]) (N := []) hm' (by kernel_rfl) (by kernel_rfl), jkO ?_⟩
  clear hm hm'
  refine qh [0,0,0] (tO (qa 0 (fun b_3 => jkO (tO (qs 0 [2] (jkO (qe (jx_then (jc_seq (jc_seq (jc_region (qh [0] ?_))))))))))))
  obtain ⟨t_2, ht_115, h⟩ := bd h
  refine tO (pc 0 (fun w hm => spec_l00Src_pick.calls (⟨s0.fcode, t_1.2.fat, t_1.2.fseed⟩ : Gl00Src) 5 w _ B_c (hm.exRowW B_h B_ha) rfl A_b (hm.pass (N := [⟨some A_b, 95, [(.slice B_a s0.fcode.length B_c), (.int .i64 t_1.2.fat), (.int .u64 t_1.2.fseed)]⟩]) [0] (by kernel_rfl) (by kernel_rfl)) (hm.exApart (N := [⟨some A_b, 95, [(.slice B_a s0.fcode.length B_c), (.int .i64 t_1.2.fat), (.int .u64 t_1.2.fseed)]⟩]) B_h B_ha [0] (by kernel_rfl)) ht_115) ?_)
  rintro w v w' hm ⟨rfl, hm'⟩
  refine ⟨_, hm.appW (ps := [(0, ⟨some A_b, 95, [(.slice B_a s0.fcode.length B_c), (.int .i64 t_2.2.fat), (.int .u64 t_2.2.fseed)]⟩)]) (N := []) hm' (by kernel_rfl) (by kernel_rfl), jkO ?_⟩
  clear hm hm'
  refine qh [0,0] (qe (jx_then (jc_meet (fun (j : Int × Int × (List GHammer) × (Option Nat) × Nat × (List Value) × Nat) => match j with | ⟨i_3, i_4, xs_5, o_168, cap_169, sp_170, n_171⟩ => spec_l02FrameDrawn.k_6 s0 t_1 i_3 i_4 xs_5 = some r ∧ (xs_5.length = n_171) ∧ ((o_168 ≠ none → n_171 ≤ cap_169 ∧ sp_170.length = (cap_169 - n_171) * 2)) ∧ ((o_168 = none → xs_5 = [] ∧ cap_169 = 0))) (fun (j : Int × Int × (List GHammer) × (Option Nat) × Nat × (List Value) × Nat) => match j with | ⟨i_3, i_4, xs_5, o_168, cap_169, sp_170, n_171⟩ => [(2, [], (.pointer (some ⟨b_1, 0, none⟩))), (3, [], (.pointer (some ⟨b_3, 0, none⟩)))]) (fun (j : Int × Int × (List GHammer) × (Option Nat) × Nat × (List Value) × Nat) => match j with | ⟨i_3, i_4, xs_5, o_168, cap_169, sp_170, n_171⟩ => [⟨some A_b, 95, [(.slice B_a s0.fcode.length B_c), (.int .i64 i_3), (.int .u64 i_4)]⟩, ⟨some b_1, 27, [(.int .i16 0), (.slice none 0 0)]⟩, ⟨some b_3, 27, [(.int .i16 (w16 (w64 (4 + t_1.1)))), (.slice (o_168.map fun b => ⟨b, 0, none⟩) n_171 cap_169)]⟩, ⟨o_168, 92, row encGHammer xs_5 sp_170⟩]) ?_ ?_)))
  ·refine jc_block ?_
   obtain ⟨t_12, ht_225, hr_210⟩ := bd h
   refine jc_ghost 92 encGHammer (jc_loop (fun (s : Int × Int × (List GHammer) × Int) (x : (Option Nat) × Nat × (List Value) × Nat) => match s, x with | ⟨i_7, i_8, xs_9, i_10⟩, ⟨o_204, cap_205, sp_206, n_207⟩ => (xs_9.length = n_207) ∧ ((o_204 ≠ none → n_207 ≤ cap_205 ∧ sp_206.length = (cap_205 - n_207) * 2)) ∧ ((o_204 = none → xs_9 = [] ∧ cap_205 = 0))) (fun (s : Int × Int × (List GHammer) × Int) (x : (Option Nat) × Nat × (List Value) × Nat) => match s, x with | ⟨i_7, i_8, xs_9, i_10⟩, ⟨o_204, cap_205, sp_206, n_207⟩ => [(0, [], (.pointer (some ⟨A_b, 0, none⟩))), (2, [], (.pointer (some ⟨b_1, 0, none⟩))), (3, [], (.pointer (some ⟨b_3, 0, none⟩))), (4, [], (.int .i64 i_10))]) (fun (s : Int × Int × (List GHammer) × Int) (x : (Option Nat) × Nat × (List Value) × Nat) => match s, x with | ⟨i_7, i_8, xs_9, i_10⟩, ⟨o_204, cap_205, sp_206, n_207⟩ => [⟨some A_b, 95, [(.slice B_a s0.fcode.length B_c), (.int .i64 i_7), (.int .u64 i_8)]⟩, ⟨some b_1, 27, [(.int .i16 0), (.slice none 0 0)]⟩, ⟨some b_3, 27, [(.int .i16 (w16 (w64 (4 + t_1.1)))), (.slice (o_204.map fun b => ⟨b, 0, none⟩) n_207 cap_205)]⟩, ⟨o_204, 92, row encGHammer xs_9 sp_206⟩]) ht_225 ⟨none, 0, [], 0⟩ ⟨rfl, (fun e => absurd rfl e), (fun _ => ⟨rfl, rfl⟩)⟩ (by kernel_rfl) [0, 1, 2, 3] (by kernel_rfl) (by kernel_rfl) ?_)
   rintro ⟨i_7, i_8, xs_9, i_10⟩ ⟨o_204, cap_205, sp_206, n_207⟩ y_211 ⟨rfl, hs_208, ho_209⟩ h
   rw [spec_l02FrameDrawn.l_11] at h
   refine jc_seq (jc_seq (jc_region (qh [0,0] (qe (jx_then (qi h (fun h => ?_) (fun h => ?_)))))))
   ·refine jc_skip (jx_then (jc_seq (jc_block (jc_seq (jc_region (qh [0] ?_))))))
    obtain ⟨t_13, ht_214, h⟩ := bd h
    refine tO (pc 0 (fun w hm => spec_l00Src_pick.calls (⟨s0.fcode, i_7, i_8⟩ : Gl00Src) 4 w _ B_c (hm.exRowW B_h B_ha) rfl A_b (hm.pass (N := [⟨some A_b, 95, [(.slice B_a s0.fcode.length B_c), (.int .i64 i_7), (.int .u64 i_8)]⟩]) [0] (by kernel_rfl) (by kernel_rfl)) (hm.exApart (N := [⟨some A_b, 95, [(.slice B_a s0.fcode.length B_c), (.int .i64 i_7), (.int .u64 i_8)]⟩]) B_h B_ha [0] (by kernel_rfl)) ht_214) ?_)
    rintro w v w' hm ⟨rfl, hm'⟩
    refine ⟨_, hm.appW (ps := [(0, ⟨some A_b, 95, [(.slice B_a s0.fcode.length B_c), (.int .i64 t_13.2.fat), (.int .u64 t_13.2.fseed)]⟩)]) (N := []) hm' (by kernel_rfl) (by kernel_rfl), jkO ?_⟩
    clear hm hm'
    refine qh [0,0,0] (tO (qa 0 (fun b_215 => jkO (tO (qs 0 [4] (jkO (qe (jx_then (jc_seq (jc_region (qh [0] ?_)))))))))))
    obtain ⟨t_14, ht_216, h⟩ := bd h
    refine tO (pc 0 (fun w hm => spec_l00Src_pick.calls (⟨s0.fcode, t_13.2.fat, t_13.2.fseed⟩ : Gl00Src) 4 w _ B_c (hm.exRowW B_h B_ha) rfl A_b (hm.pass (N := [⟨some A_b, 95, [(.slice B_a s0.fcode.length B_c), (.int .i64 t_13.2.fat), (.int .u64 t_13.2.fseed)]⟩]) [0] (by kernel_rfl) (by kernel_rfl)) (hm.exApart (N := [⟨some A_b, 95, [(.slice B_a s0.fcode.length B_c), (.int .i64 t_13.2.fat), (.int .u64 t_13.2.fseed)]⟩]) B_h B_ha [0] (by kernel_rfl)) ht_216) ?_)
    rintro w v w' hm ⟨rfl, hm'⟩
    refine ⟨_, hm.appW (ps := [(0, ⟨some A_b, 95, [(.slice B_a s0.fcode.length B_c), (.int .i64 t_14.2.fat), (.int .u64 t_14.2.fseed)]⟩)]) (N := []) hm' (by kernel_rfl) (by kernel_rfl), jkO ?_⟩
    clear hm hm'
    refine qh [0,0,0] (tO (qs 0 [4] (jkO (qe (jx_then (jc_region (qh [0,2,4] (tO (qa 0 (fun b_217 => jkO ?_))))))))))
    obtain ⟨hg_218, h⟩ := gd h
    exact tO (p_apn 0 3 o_204 92 xs_9.length 1 cap_205 2 2 (some ⟨b_217, 0, none⟩) encGHammer xs_9 ([(⟨(w8 (w64 (22 + t_13.1))), (w8 (w64 (1 + t_14.1)))⟩ : GHammer)] : List GHammer) sp_206 (.agg #[(.int .i8 0), (.int .i8 0)]) rfl rfl (by kernel_rfl) (by kernel_rfl) (by kernel_rfl) encGHammer_len encGHammer_cell hs_208 ho_209 (fun w hm => (hm.ow 5 (some b_217) 92 ([(⟨(w8 (w64 (22 + t_13.1))), (w8 (w64 (1 + t_14.1)))⟩ : GHammer)] : List GHammer) [] (fun e => nomatch e) encGHammer_len)) hg_218 (by kernel_rfl) (by kernel_rfl) (fun o_219 cap_220 sp_221 hs_222 ho_223 => jkO (qh [0] (tO (qs 0 [2] (jkO (qe (jx_inn (jx_then (jc_region (qh [0,0,0] (qe (qb (t_14.2.fat, t_14.2.fseed, (xs_9 ++ ([(⟨(w8 (w64 (22 + t_13.1))), (w8 (w64 (1 + t_14.1)))⟩ : GHammer)] : List GHammer)), (w64 (i_10 - 1))) ⟨o_219, cap_220, sp_221, (xs_9 ++ ([(⟨(w8 (w64 (22 + t_13.1))), (w8 (w64 (1 + t_14.1)))⟩ : GHammer)] : List GHammer)).length⟩ h ⟨rfl, hs_222, ho_223⟩ [0, 1, 2, 3])))))))))))))
   ·refine jc_exit (jx_thenx (jx_leave (i_7, i_8, xs_9) (Option.some.inj h).symm (fun e_224 => ?_)))
    subst e_224
    exact jx_ine (qm ⟨i_7, i_8, xs_9, o_204, cap_205, sp_206, xs_9.length⟩ ⟨hr_210, rfl, hs_208, ho_209⟩ [0, 1, 2, 3])
  ·rintro ⟨i_3, i_4, xs_5, o_168, cap_169, sp_170, n_171⟩ ⟨h, rfl, hs_172, ho_173⟩
   replace h : spec_l02FrameDrawn.k_6 s0 t_1 i_3 i_4 xs_5 = some r := h
   rw [spec_l02FrameDrawn.k_6] at h
   refine jx_then (jc_seq (jc_region (qh [2] (tO (qs 0 [1] (jkO (qe (jx_then (jc_ret ?_)))))))))
   obtain rfl := Option.some.inj h
   exact qr [1] (fun w hm => ⟨o_168, cap_169, sp_170, xs_5.length, rfl, hs_172, ho_173, rfl, hm.pk [0, 3]⟩)
/-! ### spec.A2Frame -/
def spec_A2Frame (code0 : List Int) : Option (GFrame) := (spec_l00From code0).bind fun t_1 => (spec_l02FrameDrawn (⟨code0, t_1.fat, t_1.fseed⟩ : Gl00Src)).bind fun t_2 => some t_2.1
theorem spec_A2Frame.calls (code0 : List Int) (w : World) (r : GFrame) {A_a : Option Addr} {A_an : Nat} (A_c : Nat) (A_h : Rw w A_a 1 encU8 code0) (A_hn : code0.length = A_an) (h : spec_A2Frame code0 = some r) :
    Calls Try.prog 5 #[(.slice A_a A_an A_c)] w fun e w' => ∃ v, e = .returned v ∧ (∃ (o0 : Option Nat) (c0 : Nat) (s0 : List Value) (n0 : Nat), r.fHammers.length = n0 ∧ (o0 ≠ none → n0 ≤ c0 ∧ s0.length = (c0 - n0) * 2) ∧ (o0 = none → r.fHammers = [] ∧ c0 = 0) ∧ v = .agg #[(.int .i16 r.fSteps), .slice (o0.map fun b => ⟨b, 0, none⟩) n0 c0] ∧ Mem w [] [⟨o0, 92, row encGHammer r.fHammers s0⟩] w') := by
  subst A_hn
  rw [spec_A2Frame] at h
  refine enter (args := [(.slice A_a code0.length A_c)]) Try.func5 rfl Try.ntmps5 (by kernel_rfl) (L := []) (W := []) (Mem.start w) ?_
  refine jc_seq (jc_region (tO (qa 0 (fun b_1 => jkO (qe (jx_then (jc_seq (jc_region (qh [0] ?_)))))))))
  obtain ⟨t_1, ht_2, h⟩ := bd h
  refine tO (pc 0 (fun w hm => spec_l00From.calls code0 w _ A_c (hm.xr A_h) rfl ht_2) ?_)
  rintro w v w' hm ⟨b_3, rfl, hm'⟩
  refine ⟨_, hm.app hm', jkO ?_⟩
  clear hm hm'
  obtain ⟨t_2, ht_4, h⟩ := bd h
  refine tO (pc 0 (fun w hm => spec_l02FrameDrawn.calls (⟨code0, t_1.fat, t_1.fseed⟩ : Gl00Src) w _ A_c (hm.xr A_h) rfl b_3 (hm.pass (N := [⟨some b_3, 95, [(.slice A_a code0.length A_c), (.int .i64 t_1.fat), (.int .u64 t_1.fseed)]⟩]) [1] (by kernel_rfl) (by kernel_rfl)) (hm.exApart (N := [⟨some b_3, 95, [(.slice A_a code0.length A_c), (.int .i64 t_1.fat), (.int .u64 t_1.fseed)]⟩]) A_h (fun _ => List.not_mem_nil) [1] (by kernel_rfl)) ht_4) ?_)
  rintro w v w' hm ⟨o_5, cap_6, sp_7, _, rfl, hs_8, ho_9, rfl, hm'⟩
  refine ⟨_, hm.appW (ps := [(1, ⟨some b_3, 95, [(.slice A_a code0.length A_c), (.int .i64 t_2.2.fat), (.int .u64 t_2.2.fseed)]⟩)]) (N := [⟨o_5, 92, row encGHammer t_2.1.fHammers sp_7⟩]) hm' (by kernel_rfl) (by kernel_rfl), jkO ?_⟩
  clear hm hm'
  refine tO (qs 0 [0] (jkO (qe (jx_then (jc_ret ?_)))))
  obtain rfl := Option.some.inj h
  exact qr [0] (fun w hm => ⟨o_5, cap_6, sp_7, t_2.1.fHammers.length, rfl, hs_8, ho_9, rfl, hm.pk [2]⟩)
/-! ### (*spec.l00Src).one -/
def spec_l00Src_one (s0 : Gl00Src) (n1 : Int) : Option (Bool × Gl00Src) := (spec_l00Src_pick s0 n1).bind fun t_1 => some ((t_1.1 == 0), (⟨s0.fcode, t_1.2.fat, t_1.2.fseed⟩ : Gl00Src))
theorem spec_l00Src_one.calls (s0 : Gl00Src) (n1 : Int) (w : World) (r : Bool × Gl00Src) {B_a : Option Addr} {B_an : Nat} (B_c : Nat) (B_h : Rw w B_a 1 encU8 s0.fcode) (B_hn : s0.fcode.length = B_an) (A_b : Nat) (hm0 : Mem w (bs [some A_b]) [⟨some A_b, 95, [(.slice B_a B_an B_c), (.int .i64 s0.fat), (.int .u64 s0.fseed)]⟩] w) (B_ha : s0.fcode ≠ [] → aB B_a ∉ bs [some A_b]) (h : spec_l00Src_one s0 n1 = some r) :
    Calls Try.prog 60 #[(.pointer (some ⟨A_b, 0, none⟩)), (.int .i64 n1)] w fun e w' => ∃ v, e = .returned v ∧ (v = (.bool r.1) ∧ Mem w (bs [some A_b]) [⟨some A_b, 95, [(.slice B_a B_an B_c), (.int .i64 r.2.fat), (.int .u64 r.2.fseed)]⟩] w') := by
  subst B_hn
  rw [spec_l00Src_one] at h
  refine enter (args := [(.pointer (some ⟨A_b, 0, none⟩)), (.int .i64 n1)]) Try.func60 rfl Try.ntmps60 (by kernel_rfl) (L := [⟨some A_b, 95, [(.slice B_a s0.fcode.length B_c), (.int .i64 s0.fat), (.int .u64 s0.fseed)]⟩]) (W := bs [some A_b]) hm0 ?_
  refine jc_seq (jc_region (qh [0] (qe (jx_then (jc_seq (jc_region (qh [0,0] ?_)))))))
  obtain ⟨t_1, ht_1, h⟩ := bd h
  refine tO (pc 0 (fun w hm => spec_l00Src_pick.calls s0 n1 w _ B_c (hm.exRowW B_h B_ha) rfl A_b (hm.pass (N := [⟨some A_b, 95, [(.slice B_a s0.fcode.length B_c), (.int .i64 s0.fat), (.int .u64 s0.fseed)]⟩]) [0] (by kernel_rfl) (by kernel_rfl)) (hm.exApart (N := [⟨some A_b, 95, [(.slice B_a s0.fcode.length B_c), (.int .i64 s0.fat), (.int .u64 s0.fseed)]⟩]) B_h B_ha [0] (by kernel_rfl)) ht_1) ?_)
  rintro w v w' hm ⟨rfl, hm'⟩
  refine ⟨_, hm.appW (ps := [(0, ⟨some A_b, 95, [(.slice B_a s0.fcode.length B_c), (.int .i64 t_1.2.fat), (.int .u64 t_1.2.fseed)]⟩)]) (N := []) hm' (by kernel_rfl) (by kernel_rfl), jkO ?_⟩
  clear hm hm'
  refine qh [0,0] (qe (jx_then (jc_ret ?_)))
  obtain rfl := Option.some.inj h
  exact qr [] (fun w hm => ⟨rfl, hm.pk [0]⟩)
/-! ### spec.l02Pin -/
def spec_l02Pin (d0 : Arr 96 Int) (step1 : Int) (track2 : Int) : Option (Bool) := (ix d0.1 step1).bind fun x_1 => (if 0 ≤ (u64 track2) then some ((Int.tmod (bShr .u32 x_1 (u64 track2)) 2) == 1) else none)
theorem spec_l02Pin.calls (d0 : Arr 96 Int) (step1 : Int) (track2 : Int) (w : World) (r : Bool) {A_b A_q : Nat} (A_h : Rw w (some ⟨A_b, A_q, none⟩) 1 encU32 d0.1) (h : spec_l02Pin d0 step1 track2 = some r) :
    Calls Try.prog 77 #[(.pointer (some ⟨A_b, A_q, none⟩)), (.int .i64 step1), (.int .i64 track2)] w fun e w' => ∃ v, e = .returned v ∧ (v = (.bool r) ∧ Mem w [] [] w') := by
  rw [spec_l02Pin] at h
  refine enter (args := [(.pointer (some ⟨A_b, A_q, none⟩)), (.int .i64 step1), (.int .i64 track2)]) Try.func77 rfl Try.ntmps77 (by kernel_rfl) (L := []) (W := []) (Mem.start w) ?_
  refine jc_seq (jc_region (qh [0] (qe (jx_then (jc_seq (jc_region (qh [0,0,0] ?_)))))))
  obtain ⟨x_1, hx_1, h⟩ := bd h
  refine tO (qx 0 (some ⟨A_b, A_q, none⟩) 1 hx_1 d0.2 (A_h.sp hx_1) (jkO (tO (ql 0 false (fun w hm => ((hm.xr A_h).at hx_1)) (jkO (qh [0,0] ?_))))))
  obtain ⟨hg_2, h⟩ := gd h
  refine tO (p_shr 0 .u32 x_1 .u64 (u64 track2) (by kernel_rfl) (by kernel_rfl) hg_2 (jkO (qh [0,0,0] (qe (jx_then (jc_ret ?_))))))
  obtain rfl := Option.some.inj h
  exact qr [] (fun w hm => ⟨rfl, hm.pk []⟩)
/-! ### spec.l02Free -/
def spec_l02Free.k_3 : Option (Bool) := some true
def spec_l02Free.k_8 (i_4 : Int) (q_7 : Bool) : Option ((Int) ⊕ (Bool ⊕ Unit)) := (if q_7 = true then some (.inr (.inl false)) else some (.inl (w64 (i_4 + 1))))
def spec_l02Free.l_5 (f0 : GFrame) (d1 : Arr 96 Int) (step2 : Int) (track3 : Int) (x_2 : GHammer) : Int → Option ((Int) ⊕ (Bool ⊕ Unit))
  | i_4 => (if (decide (i_4 < (w64 x_2.fReady))) = true then (if (w64 f0.fSteps) ≠ 0 then (spec_l02Pin d1 (Int.tmod (w64 (step2 + i_4)) (w64 f0.fSteps)) track3).bind fun t_9 => (if t_9 = true then spec_l02Free.k_8 i_4 true else (if (w64 f0.fSteps) ≠ 0 then (spec_l02Pin d1 (Int.tmod (w64 ((w64 (step2 + (w64 f0.fSteps))) - i_4)) (w64 f0.fSteps)) track3).bind fun t_10 => spec_l02Free.k_8 i_4 t_10 else none)) else none) else some (.inr (.inr ())))
def spec_l02Free (f0 : GFrame) (d1 : Arr 96 Int) (step2 : Int) (track3 : Int) : Option (Bool) := (spec_l02Pin d1 step2 track3).bind fun t_1 => (if t_1 = true then some false else (ix f0.fHammers track3).bind fun x_2 => (loop (spec_l02Free.l_5 f0 d1 step2 track3 x_2) 1).bind fun t_6 => match t_6 with | .inl p => some p | .inr p => spec_l02Free.k_3)
theorem spec_l02Free.calls (f0 : GFrame) (d1 : Arr 96 Int) (step2 : Int) (track3 : Int) (w : World) (r : Bool) {C_a : Option Addr} {C_an : Nat} (C_c : Nat) (C_h : Rw w C_a 2 encGHammer f0.fHammers) (C_hn : f0.fHammers.length = C_an) {D_b D_q : Nat} (D_h : Rw w (some ⟨D_b, D_q, none⟩) 1 encU32 d1.1) (A_b : Nat) (hm0 : Mem w (bs [some A_b]) [⟨some A_b, 27, [(.int .i16 f0.fSteps), (.slice C_a C_an C_c)]⟩] w) (C_ha : f0.fHammers ≠ [] → aB C_a ∉ bs [some A_b]) (D_ha : d1.1 ≠ [] → aB (some ⟨D_b, D_q, none⟩) ∉ bs [some A_b]) (h : spec_l02Free f0 d1 step2 track3 = some r) :
    Calls Try.prog 61 #[(.pointer (some ⟨A_b, 0, none⟩)), (.pointer (some ⟨D_b, D_q, none⟩)), (.int .i64 step2), (.int .i64 track3)] w fun e w' => ∃ v, e = .returned v ∧ (v = (.bool r) ∧ Mem w (bs [some A_b]) [⟨some A_b, 27, [(.int .i16 f0.fSteps), (.slice C_a C_an C_c)]⟩] w') := by
  subst C_hn
  rw [spec_l02Free] at h
  refine enter (args := [(.pointer (some ⟨A_b, 0, none⟩)), (.pointer (some ⟨D_b, D_q, none⟩)), (.int .i64 step2), (.int .i64 track3)]) Try.func61 rfl Try.ntmps61 (by kernel_rfl) (L := [⟨some A_b, 27, [(.int .i16 f0.fSteps), (.slice C_a f0.fHammers.length C_c)]⟩]) (W := bs [some A_b]) hm0 ?_
  refine jc_seq (jc_region (qh [0] (qe (jx_then (jc_seq (jc_seq (jc_region (qh [0,0,0] ?_))))))))
  obtain ⟨t_1, ht_3, h⟩ := bd h
  refine tO (pc 0 (fun w hm => spec_l02Pin.calls d1 step2 track3 w _ (hm.exRowW D_h D_ha) ht_3) ?_)
  rintro w v w' hm ⟨rfl, hm'⟩
  refine ⟨_, hm.app hm', jkO ?_⟩
  clear hm hm'
  refine qe (jx_then (qi h (fun h => ?_) (fun h => ?_)))
  ·refine jc_seq (jc_region (qh [0] (qe (jx_then (jc_ret (jx_thenr ?_))))))
   obtain rfl := Option.some.inj h
   exact qr [] (fun w hm => ⟨rfl, hm.pk [0]⟩)
  ·refine jc_skip (jx_then (jc_seq (jc_region (qh [0,0,0,0,0,0] (qe (jx_then (jc_seq (jc_region (qh [0,0,0,0,0] ?_)))))))))
   obtain ⟨x_2, hx_5, h⟩ := bd h
   refine tO (qx 0 C_a 2 hx_5 rfl (C_h.sp hx_5) (jkO (qh [0] (tO (ql 0 false (fun w hm => (((hm.exRowW C_h C_ha).at hx_5).sub 1 1)) (jkO (qh [0,0] (qe (jx_then (jc_seq (jc_seq (jc_region (qh [0] (qe (jx_then (jc_meet (fun (_ : Unit) => spec_l02Free.k_3 = some r) (fun (_ : Unit) => [(8, [], (.bool false))]) (fun (_ : Unit) => [⟨some A_b, 27, [(.int .i16 f0.fSteps), (.slice C_a f0.fHammers.length C_c)]⟩]) ?_ ?_))))))))))))))))
   ·refine jc_block ?_
    obtain ⟨t_6, ht_93, hr_76⟩ := bd h
    refine jc_loop (fun (s : Int) (x : Unit) => match s, x with | i_4, _ => True) (fun (s : Int) (x : Unit) => match s, x with | i_4, _ => [(1, [], (.pointer (some ⟨D_b, D_q, none⟩))), (2, [], (.int .i64 step2)), (3, [], (.int .i64 track3)), (8, [], (.bool false)), (9, [], (.int .i64 (w64 f0.fSteps))), (10, [], (.int .i64 (w64 x_2.fReady))), (11, [], (.int .i64 i_4))]) (fun (s : Int) (x : Unit) => match s, x with | i_4, _ => [⟨some A_b, 27, [(.int .i16 f0.fSteps), (.slice C_a f0.fHammers.length C_c)]⟩]) ht_93 () trivial (by kernel_rfl) [0] (by kernel_rfl) (by kernel_rfl) ?_
    rintro i_4 _ y_77 _ h
    rw [spec_l02Free.l_5] at h
    refine jc_seq (jc_seq (jc_region (qh [0,0,0] (qe (jx_then (qi h (fun h => ?_) (fun h => ?_)))))))
    ·refine jc_skip (jx_then (jc_seq (jc_block (jc_seq (jc_meet (fun (j : Bool) => match j with | q_7 => spec_l02Free.k_8 i_4 q_7 = some y_77) (fun (j : Bool) => match j with | q_7 => [(1, [], (.pointer (some ⟨D_b, D_q, none⟩))), (2, [], (.int .i64 step2)), (3, [], (.int .i64 track3)), (8, [], (.bool false)), (9, [], (.int .i64 (w64 f0.fSteps))), (10, [], (.int .i64 (w64 x_2.fReady))), (11, [], (.int .i64 i_4)), (54, [], (.bool q_7))]) (fun (j : Bool) => match j with | q_7 => [⟨some A_b, 27, [(.int .i16 f0.fSteps), (.slice C_a f0.fHammers.length C_c)]⟩]) ?_ ?_)))))
     ·refine jc_region (qh [0,0,0,0,0] ?_)
      obtain ⟨hg_87, h⟩ := gd h
      refine tO (p_rem 0 .i64 (w64 (step2 + i_4)) (w64 f0.fSteps) (by kernel_rfl) (by kernel_rfl) hg_87 (jkO (qh [0] ?_)))
      obtain ⟨t_9, ht_88, h⟩ := bd h
      refine tO (pc 0 (fun w hm => spec_l02Pin.calls d1 (Int.tmod (w64 (step2 + i_4)) (w64 f0.fSteps)) track3 w _ (hm.exRowW D_h D_ha) ht_88) ?_)
      rintro w v w' hm ⟨rfl, hm'⟩
      refine ⟨_, hm.app hm', jkO ?_⟩
      clear hm hm'
      refine qf [(0, 0), (0, 1), (0, 1), (0, 1), (0, 1), (0, 1), (0, 1), (0, 1)] (qp 43 h (fun h => ?_) (fun h => ?_))
      ·exact qf [(0, 3), (0, 3), (0, 3), (0, 4)] (qe (qm true h [0]))
      ·obtain ⟨hg_90, h⟩ := gd h
       refine tO (p_rem 2 .i64 (w64 ((w64 (step2 + (w64 f0.fSteps))) - i_4)) (w64 f0.fSteps) (by kernel_rfl) (by kernel_rfl) hg_90 (jkO (qf [(0, 2)] ?_)))
       obtain ⟨t_10, ht_91, h⟩ := bd h
       refine tO (pc 2 (fun w hm => spec_l02Pin.calls d1 (Int.tmod (w64 ((w64 (step2 + (w64 f0.fSteps))) - i_4)) (w64 f0.fSteps)) track3 w _ (hm.exRowW D_h D_ha) ht_91) ?_)
       rintro w v w' hm ⟨rfl, hm'⟩
       refine ⟨_, hm.app hm', jkO ?_⟩
       clear hm hm'
       exact qf [(0, 5)] (qe (qm t_10 h [0]))
     ·rintro q_7 h
      replace h : spec_l02Free.k_8 i_4 q_7 = some y_77 := h
      rw [spec_l02Free.k_8] at h
      refine jx_then (qi h (fun h => ?_) (fun h => ?_))
      ·refine jc_seq (jc_region (qh [0] (qe (jx_then (jc_ret (jx_inr (jx_thenr (jx_leaver (.inl false) (Option.some.inj h).symm (fun e_86 => ?_)))))))))
       subst e_86
       refine jx_inr (jx_thenr (jx_thenr ?_))
       obtain rfl := Option.some.inj hr_76
       exact qr [] (fun w hm => ⟨rfl, hm.pk [0]⟩)
      ·exact jc_skip (jx_inn (jx_then (jc_region (qh [0,0,0] (qe (qb (w64 (i_4 + 1)) () h trivial [0]))))))
    ·refine jc_exit (jx_thenx (jx_leave (.inr ()) (Option.some.inj h).symm (fun e_92 => ?_)))
     subst e_92
     exact jx_ine (qm () hr_76 [0])
   ·rintro _ h
    replace h : spec_l02Free.k_3 = some r := h
    rw [spec_l02Free.k_3] at h
    refine jx_then (jc_seq (jc_region (qh [0] (qe (jx_then (jc_ret ?_))))))
    obtain rfl := Option.some.inj h
    exact qr [] (fun w hm => ⟨rfl, hm.pk [0]⟩)
/-! ### spec.l02Drawn -/
def spec_l02Drawn.k_6 (s0 : Gl00Src) (a_3 : Arr 96 Int) (i_4 : Int) (i_5 : Int) : Option ((Arr 96 Int) × Gl00Src) := some (a_3, (⟨s0.fcode, i_4, i_5⟩ : Gl00Src))
def spec_l02Drawn.k_16 (a_7 : Arr 96 Int) (i_10 : Int) (t_13 : Int × Gl00Src) (t_14 : Int × Gl00Src) (q_15 : Bool) : Option (((Arr 96 Int) × Int × Int × Int) ⊕ (((Arr 96 Int) × Int × Int))) := (if q_15 = true then (ix a_7.1 t_13.1).bind fun x_17 => (if 0 ≤ (u64 t_14.1) then (ix a_7.1 t_13.1).bind fun x_18 => some (.inl ((Arr.set a_7 t_13.1 (bOr .u32 x_17 (bShl .u32 1 (u64 t_14.1)))), t_14.2.fat, t_14.2.fseed, (w64 (i_10 - 1)))) else none) else some (.inl (a_7, t_14.2.fat, t_14.2.fseed, (w64 (i_10 - 1)))))
def spec_l02Drawn.l_11 (s0 : Gl00Src) (f1 : GFrame) (t_1 : Bool × Gl00Src) : ((Arr 96 Int) × Int × Int × Int) → Option (((Arr 96 Int) × Int × Int × Int) ⊕ (((Arr 96 Int) × Int × Int)))
  | (a_7, i_8, i_9, i_10) => (if (decide (i_10 > 0)) = true then (spec_l00Src_pick (⟨s0.fcode, i_8, i_9⟩ : Gl00Src) (w64 f1.fSteps)).bind fun t_13 => (spec_l00Src_pick (⟨s0.fcode, t_13.2.fat, t_13.2.fseed⟩ : Gl00Src) (f1.fHammers.length : Int)).bind fun t_14 => (if t_1.1 = true then spec_l02Drawn.k_16 a_7 i_10 t_13 t_14 true else (spec_l02Free f1 a_7 t_13.1 t_14.1).bind fun t_19 => spec_l02Drawn.k_16 a_7 i_10 t_13 t_14 t_19) else some (.inr (a_7, i_8, i_9)))
def spec_l02Drawn (s0 : Gl00Src) (f1 : GFrame) : Option ((Arr 96 Int) × Gl00Src) := (spec_l00Src_one s0 4).bind fun t_1 => (spec_l00Src_pick (⟨s0.fcode, t_1.2.fat, t_1.2.fseed⟩ : Gl00Src) 12).bind fun t_2 => (loop (spec_l02Drawn.l_11 s0 f1 t_1) ((Arr.rep 96 0), t_2.2.fat, t_2.2.fseed, t_2.1)).bind fun t_12 => spec_l02Drawn.k_6 s0 t_12.1 t_12.2.1 t_12.2.2
theorem spec_l02Drawn.calls (s0 : Gl00Src) (f1 : GFrame) (w : World) (r : (Arr 96 Int) × Gl00Src) {B_a : Option Addr} {B_an : Nat} (B_c : Nat) (B_h : Rw w B_a 1 encU8 s0.fcode) (B_hn : s0.fcode.length = B_an) {G_a : Option Addr} {G_an : Nat} (G_c : Nat) (G_h : Rw w G_a 2 encGHammer f1.fHammers) (G_hn : f1.fHammers.length = G_an) (A_b : Nat) (E_b : Nat) (hm0 : Mem w (bs [some A_b, some E_b]) [⟨some A_b, 95, [(.slice B_a B_an B_c), (.int .i64 s0.fat), (.int .u64 s0.fseed)]⟩, ⟨some E_b, 27, [(.int .i16 f1.fSteps), (.slice G_a G_an G_c)]⟩] w) (B_ha : s0.fcode ≠ [] → aB B_a ∉ bs [some A_b, some E_b]) (G_ha : f1.fHammers ≠ [] → aB G_a ∉ bs [some A_b, some E_b]) (h : spec_l02Drawn s0 f1 = some r) :
    Calls Try.prog 28 #[(.pointer (some ⟨A_b, 0, none⟩)), (.pointer (some ⟨E_b, 0, none⟩))] w fun e w' => ∃ v, e = .returned v ∧ (v = (.agg (row encU32 r.1.1 []).toArray) ∧ Mem w (bs [some A_b, some E_b]) [⟨some A_b, 95, [(.slice B_a B_an B_c), (.int .i64 r.2.fat), (.int .u64 r.2.fseed)]⟩, ⟨some E_b, 27, [(.int .i16 f1.fSteps), (.slice G_a G_an G_c)]⟩] w') := by
  subst B_hn G_hn
  rw [spec_l02Drawn] at h
  refine enter (args := [(.pointer (some ⟨A_b, 0, none⟩)), (.pointer (some ⟨E_b, 0, none⟩))]) Try.func28 rfl Try.ntmps28 (by kernel_rfl) (L := [⟨some A_b, 95, [(.slice B_a s0.fcode.length B_c), (.int .i64 s0.fat), (.int .u64 s0.fseed)]⟩, ⟨some E_b, 27, [(.int .i16 f1.fSteps), (.slice G_a f1.fHammers.length G_c)]⟩]) (W := bs [some A_b, some E_b]) hm0 ?_
  refine jc_seq (jc_region (tO (qa 0 (fun b_1 => jkO (qe (jx_then (jc_seq (jc_region (qh [0] (tO (qa 0 (fun b_2 => jkO (tO (p_sA 0 3 b_2 96 1 58 encU32 (Arr.rep 96 0) (Arr.rep 96 0) (by kernel_rfl) (by kernel_rfl) (by kernel_rfl) encU32_len encU32_cell (by kernel_rfl) (jkO (qe (jx_then (jc_seq (jc_region (qh [0] ?_))))))))))))))))))))
  obtain ⟨t_1, ht_3, h⟩ := bd h
  refine tO (pc 0 (fun w hm => spec_l00Src_one.calls s0 4 w _ B_c (hm.exRowW B_h B_ha) rfl A_b (hm.pass (N := [⟨some A_b, 95, [(.slice B_a s0.fcode.length B_c), (.int .i64 s0.fat), (.int .u64 s0.fseed)]⟩]) [0] (by kernel_rfl) (by kernel_rfl)) (hm.exApart (N := [⟨some A_b, 95, [(.slice B_a s0.fcode.length B_c), (.int .i64 s0.fat), (.int .u64 s0.fseed)]⟩]) B_h B_ha [0] (by kernel_rfl)) ht_3) ?_)
  rintro w v w' hm ⟨rfl, hm'⟩
  refine ⟨_, hm.appW (ps := [(0, ⟨some A_b, 95, [(.slice B_a s0.fcode.length B_c), (.int .i64 t_1.2.fat), (.int .u64 t_1.2.fseed)]⟩)]) (N := []) hm' (by kernel_rfl) (by kernel_rfl), jkO ?_⟩
  clear hm hm'
  refine qh [0] (qe (jx_then (jc_seq (jc_seq (jc_region (qh [0] ?_))))))
  obtain ⟨t_2, ht_85, h⟩ := bd h
  refine tO (pc 0 (fun w hm => spec_l00Src_pick.calls (⟨s0.fcode, t_1.2.fat, t_1.2.fseed⟩ : Gl00Src) 12 w _ B_c (hm.exRowW B_h B_ha) rfl A_b (hm.pass (N := [⟨some A_b, 95, [(.slice B_a s0.fcode.length B_c), (.int .i64 t_1.2.fat), (.int .u64 t_1.2.fseed)]⟩]) [0] (by kernel_rfl) (by kernel_rfl)) (hm.exApart (N := [⟨some A_b, 95, [(.slice B_a s0.fcode.length B_c), (.int .i64 t_1.2.fat), (.int .u64 t_1.2.fseed)]⟩]) B_h B_ha [0] (by kernel_rfl)) ht_85) ?_)
  rintro w v w' hm ⟨rfl, hm'⟩
  refine ⟨_, hm.appW (ps := [(0, ⟨some A_b, 95, [(.slice B_a s0.fcode.length B_c), (.int .i64 t_2.2.fat), (.int .u64 t_2.2.fseed)]⟩)]) (N := []) hm' (by kernel_rfl) (by kernel_rfl), jkO ?_⟩
  clear hm hm'
  refine qh [0] (qe (jx_then (jc_meet (fun (j : (Arr 96 Int) × Int × Int) => match j with | ⟨a_3, i_4, i_5⟩ => spec_l02Drawn.k_6 s0 a_3 i_4 i_5 = some r) (fun (j : (Arr 96 Int) × Int × Int) => match j with | ⟨a_3, i_4, i_5⟩ => [(4, [], (.pointer (some ⟨b_1, 0, none⟩))), (5, [], (.pointer (some ⟨b_2, 0, none⟩)))]) (fun (j : (Arr 96 Int) × Int × Int) => match j with | ⟨a_3, i_4, i_5⟩ => [⟨some A_b, 95, [(.slice B_a s0.fcode.length B_c), (.int .i64 i_4), (.int .u64 i_5)]⟩, ⟨some E_b, 27, [(.int .i16 f1.fSteps), (.slice G_a f1.fHammers.length G_c)]⟩, ⟨(some b_1), 58, row encU32 ((Arr.rep 96 0).1) []⟩, ⟨(some b_2), 58, row encU32 a_3.1 []⟩]) ?_ ?_)))
  ·refine jc_block ?_
   obtain ⟨t_12, ht_165, hr_150⟩ := bd h
   refine jc_loop (fun (s : (Arr 96 Int) × Int × Int × Int) (x : Unit) => match s, x with | ⟨a_7, i_8, i_9, i_10⟩, _ => True) (fun (s : (Arr 96 Int) × Int × Int × Int) (x : Unit) => match s, x with | ⟨a_7, i_8, i_9, i_10⟩, _ => [(0, [], (.pointer (some ⟨A_b, 0, none⟩))), (1, [], (.pointer (some ⟨E_b, 0, none⟩))), (4, [], (.pointer (some ⟨b_1, 0, none⟩))), (5, [], (.pointer (some ⟨b_2, 0, none⟩))), (6, [], (.bool t_1.1)), (7, [], (.int .i64 i_10))]) (fun (s : (Arr 96 Int) × Int × Int × Int) (x : Unit) => match s, x with | ⟨a_7, i_8, i_9, i_10⟩, _ => [⟨some A_b, 95, [(.slice B_a s0.fcode.length B_c), (.int .i64 i_8), (.int .u64 i_9)]⟩, ⟨some E_b, 27, [(.int .i16 f1.fSteps), (.slice G_a f1.fHammers.length G_c)]⟩, ⟨(some b_1), 58, row encU32 ((Arr.rep 96 0).1) []⟩, ⟨(some b_2), 58, row encU32 a_7.1 []⟩]) ht_165 () trivial (by kernel_rfl) [0, 1, 2, 3] (by kernel_rfl) (by kernel_rfl) ?_
   rintro ⟨a_7, i_8, i_9, i_10⟩ _ y_151 _ h
   rw [spec_l02Drawn.l_11] at h
   refine jc_seq (jc_seq (jc_region (qh [0,0] (qe (jx_then (qi h (fun h => ?_) (fun h => ?_)))))))
   ·refine jc_skip (jx_then (jc_seq (jc_block (jc_seq (jc_region (qh [0,0,0,0,1,0] ?_))))))
    obtain ⟨t_13, ht_154, h⟩ := bd h
    refine tO (pc 0 (fun w hm => spec_l00Src_pick.calls (⟨s0.fcode, i_8, i_9⟩ : Gl00Src) (w64 f1.fSteps) w _ B_c (hm.exRowW B_h B_ha) rfl A_b (hm.pass (N := [⟨some A_b, 95, [(.slice B_a s0.fcode.length B_c), (.int .i64 i_8), (.int .u64 i_9)]⟩]) [0] (by kernel_rfl) (by kernel_rfl)) (hm.exApart (N := [⟨some A_b, 95, [(.slice B_a s0.fcode.length B_c), (.int .i64 i_8), (.int .u64 i_9)]⟩]) B_h B_ha [0] (by kernel_rfl)) ht_154) ?_)
    rintro w v w' hm ⟨rfl, hm'⟩
    refine ⟨_, hm.appW (ps := [(0, ⟨some A_b, 95, [(.slice B_a s0.fcode.length B_c), (.int .i64 t_13.2.fat), (.int .u64 t_13.2.fseed)]⟩)]) (N := []) hm' (by kernel_rfl) (by kernel_rfl), jkO ?_⟩
    clear hm hm'
    refine qh [0] (qe (jx_then (jc_seq (jc_region (qh [0,0,0,0,1,0] ?_)))))
    obtain ⟨t_14, ht_155, h⟩ := bd h
    refine tO (pc 0 (fun w hm => spec_l00Src_pick.calls (⟨s0.fcode, t_13.2.fat, t_13.2.fseed⟩ : Gl00Src) (f1.fHammers.length : Int) w _ B_c (hm.exRowW B_h B_ha) rfl A_b (hm.pass (N := [⟨some A_b, 95, [(.slice B_a s0.fcode.length B_c), (.int .i64 t_13.2.fat), (.int .u64 t_13.2.fseed)]⟩]) [0] (by kernel_rfl) (by kernel_rfl)) (hm.exApart (N := [⟨some A_b, 95, [(.slice B_a s0.fcode.length B_c), (.int .i64 t_13.2.fat), (.int .u64 t_13.2.fseed)]⟩]) B_h B_ha [0] (by kernel_rfl)) ht_155) ?_)
    rintro w v w' hm ⟨rfl, hm'⟩
    refine ⟨_, hm.appW (ps := [(0, ⟨some A_b, 95, [(.slice B_a s0.fcode.length B_c), (.int .i64 t_14.2.fat), (.int .u64 t_14.2.fseed)]⟩)]) (N := []) hm' (by kernel_rfl) (by kernel_rfl), jkO ?_⟩
    clear hm hm'
    refine qh [0] (qe (jx_then (jc_seq (jc_meet (fun (j : Bool) => match j with | q_15 => spec_l02Drawn.k_16 a_7 i_10 t_13 t_14 q_15 = some y_151) (fun (j : Bool) => match j with | q_15 => [(0, [], (.pointer (some ⟨A_b, 0, none⟩))), (1, [], (.pointer (some ⟨E_b, 0, none⟩))), (4, [], (.pointer (some ⟨b_1, 0, none⟩))), (5, [], (.pointer (some ⟨b_2, 0, none⟩))), (6, [], (.bool t_1.1)), (7, [], (.int .i64 i_10)), (8, [], (.int .i64 t_13.1)), (9, [], (.int .i64 t_14.1)), (39, [], (.bool q_15))]) (fun (j : Bool) => match j with | q_15 => [⟨some A_b, 95, [(.slice B_a s0.fcode.length B_c), (.int .i64 t_14.2.fat), (.int .u64 t_14.2.fseed)]⟩, ⟨some E_b, 27, [(.int .i16 f1.fSteps), (.slice G_a f1.fHammers.length G_c)]⟩, ⟨(some b_1), 58, row encU32 ((Arr.rep 96 0).1) []⟩, ⟨(some b_2), 58, row encU32 a_7.1 []⟩]) ?_ ?_))))
    ·refine jc_region (qf [(0, 0), (0, 0), (0, 1), (0, 1), (0, 1)] (qp 34 h (fun h => ?_) (fun h => ?_)))
     ·exact qf [(0, 3), (0, 4)] (qe (qm true h [0, 1, 2, 3]))
     ·obtain ⟨t_19, ht_163, h⟩ := bd h
      refine tO (pc 2 (fun w hm => spec_l02Free.calls f1 a_7 t_13.1 t_14.1 w _ G_c (hm.exRowW G_h G_ha) rfl (hm.ow 3 (some b_2) 58 a_7.1 [] (fun e => nomatch e) encU32_len) E_b (hm.pass (N := [⟨some E_b, 27, [(.int .i16 f1.fSteps), (.slice G_a f1.fHammers.length G_c)]⟩]) [1] (by kernel_rfl) (by kernel_rfl)) (hm.exApart (N := [⟨some E_b, 27, [(.int .i16 f1.fSteps), (.slice G_a f1.fHammers.length G_c)]⟩]) G_h G_ha [1] (by kernel_rfl)) (hm.ownApart (S := Int) (N := [⟨some E_b, 27, [(.int .i16 f1.fSteps), (.slice G_a f1.fHammers.length G_c)]⟩]) (hh := 3) (o := (some b_2)) (T := 58) (cs := row encU32 a_7.1 []) (xs := a_7.1) (by kernel_rfl) (fun e => nomatch e) [1] (by kernel_rfl) (by kernel_rfl)) ht_163) ?_)
      rintro w v w' hm ⟨rfl, hm'⟩
      refine ⟨_, hm.appW (ps := [(1, ⟨some E_b, 27, [(.int .i16 f1.fSteps), (.slice G_a f1.fHammers.length G_c)]⟩)]) (N := []) hm' (by kernel_rfl) (by kernel_rfl), jkO ?_⟩
      clear hm hm'
      exact qf [(0, 5)] (qe (qm t_19 h [0, 1, 2, 3]))
    ·rintro q_15 h
     replace h : spec_l02Drawn.k_16 a_7 i_10 t_13 t_14 q_15 = some y_151 := h
     rw [spec_l02Drawn.k_16] at h
     refine jx_then (qi h (fun h => ?_) (fun h => ?_))
     ·refine jc_region (qh [0,0] ?_)
      obtain ⟨x_17, hx_159, h⟩ := bd h
      refine tO (qx 0 (some ⟨b_2, 0, none⟩) 1 hx_159 a_7.2 rfl (jkO (tO (ql 0 false (fun w hm => ((hm.ow 3 (some b_2) 58 a_7.1 [] (fun e => nomatch e) encU32_len).at hx_159)) (jkO (qh [0,0] ?_))))))
      obtain ⟨hg_160, h⟩ := gd h
      refine tO (p_shl 0 .u32 1 .u64 (u64 t_14.1) (by kernel_rfl) (by kernel_rfl) hg_160 (jkO (qh [0] ?_)))
      obtain ⟨x_18, hx_161, h⟩ := bd h
      exact tO (qx 0 (some ⟨b_2, 0, none⟩) 1 hx_161 a_7.2 rfl (jkO (tO (p_str 0 3 b_2 58 encU32 a_7.1 [] t_13.1 (bOr .u32 x_17 (bShl .u32 1 (u64 t_14.1))) 1 0 [(.int .u32 (bOr .u32 x_17 (bShl .u32 1 (u64 t_14.1))))] (by kernel_rfl) (by kernel_rfl) (by kernel_rfl) encU32_len hx_161 (by kernel_rfl) (by kernel_rfl) (jkO (qe (jx_inn (jx_then (jc_region (qh [0,0,0] (qe (qb ((Arr.set a_7 t_13.1 (bOr .u32 x_17 (bShl .u32 1 (u64 t_14.1)))), t_14.2.fat, t_14.2.fseed, (w64 (i_10 - 1))) () h trivial [0, 1, 2, 3]))))))))))))
     ·exact jc_skip (jx_inn (jx_then (jc_region (qh [0,0,0] (qe (qb (a_7, t_14.2.fat, t_14.2.fseed, (w64 (i_10 - 1))) () h trivial [0, 1, 2, 3]))))))
   ·refine jc_exit (jx_thenx (jx_leave (a_7, i_8, i_9) (Option.some.inj h).symm (fun e_164 => ?_)))
    subst e_164
    exact jx_ine (qm ⟨a_7, i_8, i_9⟩ hr_150 [0, 1, 2, 3])
  ·rintro ⟨a_3, i_4, i_5⟩ h
   replace h : spec_l02Drawn.k_6 s0 a_3 i_4 i_5 = some r := h
   rw [spec_l02Drawn.k_6] at h
   refine jx_then (jc_seq (jc_region (tO (p_ldA 0 3 b_2 96 1 58 encU32 a_3 (by kernel_rfl) (by kernel_rfl) (by kernel_rfl) encU32_len (by kernel_rfl) (jkO (tO (p_sA 0 2 b_1 96 1 58 encU32 (Arr.rep 96 0) a_3 (by kernel_rfl) (by kernel_rfl) (by kernel_rfl) encU32_len encU32_cell (by kernel_rfl) (jkO (qe (jx_then (jc_ret ?_)))))))))))
   obtain rfl := Option.some.inj h
   exact jx_retV rfl (rq_arr (b := b_1) (T' := 58) (hh := 2) (mm := 1) encU32 a_3 (by kernel_rfl) (by kernel_rfl) encU32_len (by kernel_rfl) rq_nil) (fun w hm => ⟨rfl, hm.pk [0, 1]⟩)
/-! ### spec.A2Drums -/
def spec_A2Drums.k_6 (xs_3 : List (Arr 96 Int)) (i_4 : Int) (i_5 : Int) : Option ((List (Arr 96 Int))) := some xs_3
def spec_A2Drums.l_11 (code0 : List Int) (f1 : GFrame) : ((List (Arr 96 Int)) × Int × Int × Int) → Option (((List (Arr 96 Int)) × Int × Int × Int) ⊕ (((List (Arr 96 Int)) × Int × Int)))
  | (xs_7, i_8, i_9, i_10) => (if (decide (i_10 > 0)) = true then (spec_l02Drawn (⟨code0, i_8, i_9⟩ : Gl00Src) f1).bind fun t_13 => (if xs_7.length + ([t_13.1] : List (Arr 96 Int)).length ≤ 4294967296 then some (.inl ((xs_7 ++ ([t_13.1] : List (Arr 96 Int))), t_13.2.fat, t_13.2.fseed, (w64 (i_10 - 1)))) else none) else some (.inr (xs_7, i_8, i_9)))
def spec_A2Drums (code0 : List Int) (f1 : GFrame) : Option ((List (Arr 96 Int))) := (spec_l00From code0).bind fun t_1 => (spec_l00Src_pick (⟨code0, t_1.fat, t_1.fseed⟩ : Gl00Src) 6).bind fun t_2 => (loop (spec_A2Drums.l_11 code0 f1) (([] : List (Arr 96 Int)), t_2.2.fat, t_2.2.fseed, t_2.1)).bind fun t_12 => spec_A2Drums.k_6 t_12.1 t_12.2.1 t_12.2.2
theorem spec_A2Drums.calls (code0 : List Int) (f1 : GFrame) (w : World) (r : (List (Arr 96 Int))) {A_a : Option Addr} {A_an : Nat} (A_c : Nat) (A_h : Rw w A_a 1 encU8 code0) (A_hn : code0.length = A_an) {D_a : Option Addr} {D_an : Nat} (D_c : Nat) (D_h : Rw w D_a 2 encGHammer f1.fHammers) (D_hn : f1.fHammers.length = D_an) (h : spec_A2Drums code0 f1 = some r) :
    Calls Try.prog 6 #[(.slice A_a A_an A_c), (.agg #[(.int .i16 f1.fSteps), (.slice D_a D_an D_c)])] w fun e w' => ∃ v, e = .returned v ∧ (∃ (o0 : Option Nat) (c0 : Nat) (s0 : List Value) (n0 : Nat), r.length = n0 ∧ (o0 ≠ none → n0 ≤ c0 ∧ s0.length = (c0 - n0) * 96) ∧ (o0 = none → r = [] ∧ c0 = 0) ∧ v = .slice (o0.map fun b => ⟨b, 0, none⟩) n0 c0 ∧ Mem w [] [⟨o0, 58, row encA96U32 r s0⟩] w') := by
  subst A_hn D_hn
  rw [spec_A2Drums] at h
  refine enter (args := [(.slice A_a code0.length A_c), (.agg #[(.int .i16 f1.fSteps), (.slice D_a f1.fHammers.length D_c)])]) Try.func6 rfl Try.ntmps6 (by kernel_rfl) (L := []) (W := []) (Mem.start w) ?_
  refine jc_seq (jc_region (tO (qa 0 (fun b_1 => jkO (qh [0] (qe (jx_then (jc_seq (jc_region (qh [0] ?_))))))))))
  obtain ⟨t_1, ht_2, h⟩ := bd h
  refine tO (pc 0 (fun w hm => spec_l00From.calls code0 w _ A_c (hm.xr A_h) rfl ht_2) ?_)
  rintro w v w' hm ⟨b_3, rfl, hm'⟩
  refine ⟨_, hm.app hm', jkO ?_⟩
  clear hm hm'
  refine qh [0] (qe (jx_then (jc_seq (jc_region (tO (qa 0 (fun b_4 => jkO (qh [0] (qe (jx_then (jc_seq (jc_seq (jc_region (qh [0] ?_))))))))))))))
  obtain ⟨t_2, ht_104, h⟩ := bd h
  refine tO (pc 0 (fun w hm => spec_l00Src_pick.calls (⟨code0, t_1.fat, t_1.fseed⟩ : Gl00Src) 6 w _ A_c (hm.xr A_h) rfl b_3 (hm.pass (N := [⟨some b_3, 95, [(.slice A_a code0.length A_c), (.int .i64 t_1.fat), (.int .u64 t_1.fseed)]⟩]) [1] (by kernel_rfl) (by kernel_rfl)) (hm.exApart (N := [⟨some b_3, 95, [(.slice A_a code0.length A_c), (.int .i64 t_1.fat), (.int .u64 t_1.fseed)]⟩]) A_h (fun _ => List.not_mem_nil) [1] (by kernel_rfl)) ht_104) ?_)
  rintro w v w' hm ⟨rfl, hm'⟩
  refine ⟨_, hm.appW (ps := [(1, ⟨some b_3, 95, [(.slice A_a code0.length A_c), (.int .i64 t_2.2.fat), (.int .u64 t_2.2.fseed)]⟩)]) (N := []) hm' (by kernel_rfl) (by kernel_rfl), jkO ?_⟩
  clear hm hm'
  refine qh [0] (qe (jx_then (jc_meet (fun (j : (List (Arr 96 Int)) × Int × Int × (Option Nat) × Nat × (List Value) × Nat) => match j with | ⟨xs_3, i_4, i_5, o_151, cap_152, sp_153, n_154⟩ => spec_A2Drums.k_6 xs_3 i_4 i_5 = some r ∧ (xs_3.length = n_154) ∧ ((o_151 ≠ none → n_154 ≤ cap_152 ∧ sp_153.length = (cap_152 - n_154) * 96)) ∧ ((o_151 = none → xs_3 = [] ∧ cap_152 = 0))) (fun (j : (List (Arr 96 Int)) × Int × Int × (Option Nat) × Nat × (List Value) × Nat) => match j with | ⟨xs_3, i_4, i_5, o_151, cap_152, sp_153, n_154⟩ => [(4, [], (.slice none 0 0)), (6, [], (.slice (o_151.map fun b => ⟨b, 0, none⟩) n_154 cap_152))]) (fun (j : (List (Arr 96 Int)) × Int × Int × (Option Nat) × Nat × (List Value) × Nat) => match j with | ⟨xs_3, i_4, i_5, o_151, cap_152, sp_153, n_154⟩ => [⟨some b_1, 27, [(.int .i16 f1.fSteps), (.slice D_a f1.fHammers.length D_c)]⟩, ⟨some b_3, 95, [(.slice A_a code0.length A_c), (.int .i64 i_4), (.int .u64 i_5)]⟩, ⟨o_151, 58, row encA96U32 xs_3 sp_153⟩]) ?_ ?_)))
  ·refine jc_block ?_
   obtain ⟨t_12, ht_202, hr_189⟩ := bd h
   refine jc_loop (fun (s : (List (Arr 96 Int)) × Int × Int × Int) (x : (Option Nat) × Nat × (List Value) × Nat) => match s, x with | ⟨xs_7, i_8, i_9, i_10⟩, ⟨o_183, cap_184, sp_185, n_186⟩ => (xs_7.length = n_186) ∧ ((o_183 ≠ none → n_186 ≤ cap_184 ∧ sp_185.length = (cap_184 - n_186) * 96)) ∧ ((o_183 = none → xs_7 = [] ∧ cap_184 = 0))) (fun (s : (List (Arr 96 Int)) × Int × Int × Int) (x : (Option Nat) × Nat × (List Value) × Nat) => match s, x with | ⟨xs_7, i_8, i_9, i_10⟩, ⟨o_183, cap_184, sp_185, n_186⟩ => [(3, [], (.pointer (some ⟨b_1, 0, none⟩))), (4, [], (.slice none 0 0)), (5, [], (.pointer (some ⟨b_3, 0, none⟩))), (6, [], (.slice (o_183.map fun b => ⟨b, 0, none⟩) n_186 cap_184)), (7, [], (.int .i64 i_10))]) (fun (s : (List (Arr 96 Int)) × Int × Int × Int) (x : (Option Nat) × Nat × (List Value) × Nat) => match s, x with | ⟨xs_7, i_8, i_9, i_10⟩, ⟨o_183, cap_184, sp_185, n_186⟩ => [⟨some b_1, 27, [(.int .i16 f1.fSteps), (.slice D_a f1.fHammers.length D_c)]⟩, ⟨some b_3, 95, [(.slice A_a code0.length A_c), (.int .i64 i_8), (.int .u64 i_9)]⟩, ⟨o_183, 58, row encA96U32 xs_7 sp_185⟩]) ht_202 ⟨(some b_4), 0, [], 0⟩ ⟨rfl, (fun _ => ⟨Nat.le_refl _, by simp⟩), (fun e => nomatch e)⟩ (by kernel_rfl) [0, 1, 2] (by kernel_rfl) (by kernel_rfl) ?_
   rintro ⟨xs_7, i_8, i_9, i_10⟩ ⟨o_183, cap_184, sp_185, n_186⟩ y_190 ⟨rfl, hs_187, ho_188⟩ h
   rw [spec_A2Drums.l_11] at h
   refine jc_seq (jc_seq (jc_region (qh [0,0] (qe (jx_then (qi h (fun h => ?_) (fun h => ?_)))))))
   ·refine jc_skip (jx_then (jc_seq (jc_block (jc_region (qh [0,0] ?_)))))
    obtain ⟨t_13, ht_193, h⟩ := bd h
    refine tO (pc 0 (fun w hm => spec_l02Drawn.calls (⟨code0, i_8, i_9⟩ : Gl00Src) f1 w _ A_c (hm.xr A_h) rfl D_c (hm.xr D_h) rfl b_3 b_1 (hm.pass (N := [⟨some b_3, 95, [(.slice A_a code0.length A_c), (.int .i64 i_8), (.int .u64 i_9)]⟩, ⟨some b_1, 27, [(.int .i16 f1.fSteps), (.slice D_a f1.fHammers.length D_c)]⟩]) [1, 0] (by kernel_rfl) (by kernel_rfl)) (hm.exApart (N := [⟨some b_3, 95, [(.slice A_a code0.length A_c), (.int .i64 i_8), (.int .u64 i_9)]⟩, ⟨some b_1, 27, [(.int .i16 f1.fSteps), (.slice D_a f1.fHammers.length D_c)]⟩]) A_h (fun _ => List.not_mem_nil) [1, 0] (by kernel_rfl)) (hm.exApart (N := [⟨some b_3, 95, [(.slice A_a code0.length A_c), (.int .i64 i_8), (.int .u64 i_9)]⟩, ⟨some b_1, 27, [(.int .i16 f1.fSteps), (.slice D_a f1.fHammers.length D_c)]⟩]) D_h (fun _ => List.not_mem_nil) [1, 0] (by kernel_rfl)) ht_193) ?_)
    rintro w v w' hm ⟨rfl, hm'⟩
    refine ⟨_, hm.appW (ps := [(1, ⟨some b_3, 95, [(.slice A_a code0.length A_c), (.int .i64 t_13.2.fat), (.int .u64 t_13.2.fseed)]⟩), (0, ⟨some b_1, 27, [(.int .i16 f1.fSteps), (.slice D_a f1.fHammers.length D_c)]⟩)]) (N := []) hm' (by kernel_rfl) (by kernel_rfl), jkO ?_⟩
    clear hm hm'
    refine tO (p_bs 0 58 96 1 encA96U32 [(.agg (row encU32 t_13.1.1 []).toArray)] [t_13.1] (by kernel_rfl) (by kernel_rfl) rfl (by kernel_rfl) (by kernel_rfl) encA96U32_len (fun b_194 => jkO ?_))
    obtain ⟨hg_195, h⟩ := gd h
    exact tO (p_apn 0 2 o_183 58 xs_7.length 1 cap_184 96 384 (some ⟨b_194, 0, none⟩) encA96U32 xs_7 ([t_13.1] : List (Arr 96 Int)) sp_185 (.agg (row encU32 (Arr.rep 96 0).1 []).toArray) rfl rfl (by kernel_rfl) (by kernel_rfl) (by kernel_rfl) encA96U32_len encA96U32_cell hs_187 ho_188 (fun w hm => (hm.ow 3 (some b_194) 58 ([t_13.1] : List (Arr 96 Int)) [] (fun e => nomatch e) encA96U32_len)) hg_195 (by kernel_rfl) (by kernel_rfl) (fun o_196 cap_197 sp_198 hs_199 ho_200 => jkO (qh [0] (qe (jx_inn (jx_then (jc_region (qh [0,0,0] (qe (qb ((xs_7 ++ ([t_13.1] : List (Arr 96 Int))), t_13.2.fat, t_13.2.fseed, (w64 (i_10 - 1))) ⟨o_196, cap_197, sp_198, (xs_7 ++ ([t_13.1] : List (Arr 96 Int))).length⟩ h ⟨rfl, hs_199, ho_200⟩ [0, 1, 2]))))))))))
   ·refine jc_exit (jx_thenx (jx_leave (xs_7, i_8, i_9) (Option.some.inj h).symm (fun e_201 => ?_)))
    subst e_201
    exact jx_ine (qm ⟨xs_7, i_8, i_9, o_183, cap_184, sp_185, xs_7.length⟩ ⟨hr_189, rfl, hs_187, ho_188⟩ [0, 1, 2])
  ·rintro ⟨xs_3, i_4, i_5, o_151, cap_152, sp_153, n_154⟩ ⟨h, rfl, hs_155, ho_156⟩
   replace h : spec_A2Drums.k_6 xs_3 i_4 i_5 = some r := h
   rw [spec_A2Drums.k_6] at h
   refine jx_then (jc_seq (jc_region (qh [0,0] (qe (jx_then (jc_ret ?_))))))
   obtain rfl := Option.some.inj h
   exact qr [] (fun w hm => ⟨o_151, cap_152, sp_153, xs_3.length, rfl, hs_155, ho_156, rfl, hm.pk [2]⟩)
/-! ### impl.within -/
def impl_within (n0 : Int) (low1 : Int) (high2 : Int) : Option (Bool) := some ((decide (low1 ≤ n0)) && (decide (n0 ≤ high2)))
theorem impl_within.calls (n0 : Int) (low1 : Int) (high2 : Int) (w : World) (r : Bool) (h : impl_within n0 low1 high2 = some r) :
    Calls Try.prog 54 #[(.int .i64 n0), (.int .i64 low1), (.int .i64 high2)] w fun e w' => ∃ v, e = .returned v ∧ (v = (.bool r) ∧ Mem w [] [] w') := by
  rw [impl_within] at h
  refine enter (args := [(.int .i64 n0), (.int .i64 low1), (.int .i64 high2)]) Try.func54 rfl Try.ntmps54 (by kernel_rfl) (L := []) (W := []) (Mem.start w) ?_
  refine jc_seq (jc_region (qh [0] (qe (jx_then (jc_seq (jc_region (qf [(0, 0), (0, 0), (0, 0), (0, 0), (0, 1), (0, 1), (0, 1), (0, 0), (0, 0)] (qe (jx_then (jc_ret ?_))))))))))
  obtain rfl := Option.some.inj h
  exact qr [] (fun w hm => ⟨rfl, hm.pk []⟩)
/-! ### impl.size[impl.Hammer] -/
def impl_size_Hammer (list0 : List GHammer) : Option (Int) := some (list0.length : Int)
theorem impl_size_Hammer.calls (list0 : List GHammer) (w : World) (r : Int) {A_a : Option Addr} {A_an : Nat} (A_c : Nat) (A_h : Rw w A_a 2 encGHammer list0) (A_hn : list0.length = A_an) (h : impl_size_Hammer list0 = some r) :
    Calls Try.prog 88 #[(.slice A_a A_an A_c)] w fun e w' => ∃ v, e = .returned v ∧ (v = (.int .i64 r) ∧ Mem w [] [] w') := by
  subst A_hn
  rw [impl_size_Hammer] at h
  refine enter (args := [(.slice A_a list0.length A_c)]) Try.func88 rfl Try.ntmps88 (by kernel_rfl) (L := []) (W := []) (Mem.start w) ?_
  refine jc_seq (jc_region (qh [0] (qe (jx_then (jc_seq (jc_region (qh [0,0,0] (qe (jx_then (jc_ret ?_))))))))))
  obtain rfl := Option.some.inj h
  exact qr [] (fun w hm => ⟨rfl, hm.pk []⟩)
/-! ### impl.isPitch -/
def impl_isPitch (n0 : Int) : Option (Bool) := (impl_within n0 0 47).bind fun t_1 => some t_1
theorem impl_isPitch.calls (n0 : Int) (w : World) (r : Bool) (h : impl_isPitch n0 = some r) :
    Calls Try.prog 91 #[(.int .i64 n0)] w fun e w' => ∃ v, e = .returned v ∧ (v = (.bool r) ∧ Mem w [] [] w') := by
  rw [impl_isPitch] at h
  refine enter (args := [(.int .i64 n0)]) Try.func91 rfl Try.ntmps91 (by kernel_rfl) (L := []) (W := []) (Mem.start w) ?_
  refine jc_seq (jc_region (qh [0] (qe (jx_then (jc_seq (jc_region (qh [0] ?_)))))))
  obtain ⟨t_1, ht_1, h⟩ := bd h
  refine tO (pc 0 (fun w hm => impl_within.calls n0 0 47 w _ ht_1) ?_)
  rintro w v w' hm ⟨rfl, hm'⟩
  refine ⟨_, hm.app hm', jkO ?_⟩
  clear hm hm'
  refine qh [0] (qe (jx_then (jc_ret ?_)))
  obtain rfl := Option.some.inj h
  exact qr [] (fun w hm => ⟨rfl, hm.pk []⟩)
/-! ### impl.ValidFrame$1 -/
def impl_ValidFrame_1 (h0 : GHammer) (p1 : GFrame) : Option (Bool) := (impl_isPitch (w64 h0.fPitch)).bind fun t_1 => (if (!t_1) = true then some true else (impl_within (w64 h0.fReady) 1 (if (w64 p1.fSteps) < 20 then (w64 p1.fSteps) else 20)).bind fun t_2 => some (!t_2))
theorem impl_ValidFrame_1.calls (h0 : GHammer) (p1 : GFrame) (w : World) (r : Bool) {F_a : Option Addr} {F_an : Nat} (F_c : Nat) (F_h : Rw w F_a 2 encGHammer p1.fHammers) (F_hn : p1.fHammers.length = F_an) (D_b : Nat) (hm0 : Mem w (bs [some D_b]) [⟨some D_b, 27, [(.int .i16 p1.fSteps), (.slice F_a F_an F_c)]⟩] w) (F_ha : p1.fHammers ≠ [] → aB F_a ∉ bs [some D_b]) (h : impl_ValidFrame_1 h0 p1 = some r) :
    Calls Try.prog 90 #[(.agg #[(.int .i8 h0.fPitch), (.int .i8 h0.fReady)]), (.pointer (some ⟨D_b, 0, none⟩))] w fun e w' => ∃ v, e = .returned v ∧ (v = (.bool r) ∧ Mem w (bs [some D_b]) [⟨some D_b, 27, [(.int .i16 p1.fSteps), (.slice F_a F_an F_c)]⟩] w') := by
  subst F_hn
  rw [impl_ValidFrame_1] at h
  refine enter (args := [(.agg #[(.int .i8 h0.fPitch), (.int .i8 h0.fReady)]), (.pointer (some ⟨D_b, 0, none⟩))]) Try.func90 rfl Try.ntmps90 (by kernel_rfl) (L := [⟨some D_b, 27, [(.int .i16 p1.fSteps), (.slice F_a p1.fHammers.length F_c)]⟩]) (W := bs [some D_b]) hm0 ?_
  refine jc_seq (jc_region (tO (qa 0 (fun b_1 => jkO (qh [0] (qe (jx_then (jc_seq (jc_region (qh [0,1,0] ?_))))))))))
  obtain ⟨t_1, ht_2, h⟩ := bd h
  refine tO (pc 0 (fun w hm => impl_isPitch.calls (w64 h0.fPitch) w _ ht_2) ?_)
  rintro w v w' hm ⟨rfl, hm'⟩
  refine ⟨_, hm.app hm', jkO ?_⟩
  clear hm hm'
  refine qf [(0, 0), (0, 0), (0, 1), (1, 1), (0, 1), (0, 1), (0, 1), (0, 1), (0, 1)] (qp 9 h (fun h => ?_) (fun h => ?_))
  ·refine qf [(0, 3), (0, 3), (0, 4), (0, 0)] (qe (jx_then (jc_ret ?_)))
   obtain rfl := Option.some.inj h
   exact qr [] (fun w hm => ⟨rfl, hm.pk [0]⟩)
  ·obtain ⟨t_2, ht_4, h⟩ := bd h
   refine tO (pc 2 (fun w hm => impl_within.calls (w64 h0.fReady) 1 (if (w64 p1.fSteps) < 20 then (w64 p1.fSteps) else 20) w _ ht_4) ?_)
   rintro w v w' hm ⟨rfl, hm'⟩
   refine ⟨_, hm.app hm', jkO ?_⟩
   clear hm hm'
   refine qf [(0, 2), (0, 5), (0, 0)] (qe (jx_then (jc_ret ?_)))
   obtain rfl := Option.some.inj h
   exact qr [] (fun w hm => ⟨rfl, hm.pk [0]⟩)
/-! ### slices.IndexFunc[[]impl.Hammer,impl.Hammer] -/
def slices_IndexFunc_Hammer_at_impl_ValidFrame_1.k_1 : Option (Int) := some (-1)
def slices_IndexFunc_Hammer_at_impl_ValidFrame_1.l_3 (s0 : List GHammer) (g1c0 : GFrame) : Int → Option ((Int) ⊕ (Int ⊕ Unit))
  | i_2 => (if (decide (i_2 < (s0.length : Int))) = true then (ix s0 i_2).bind fun x_5 => (impl_ValidFrame_1 x_5 g1c0).bind fun t_6 => (if t_6 = true then some (.inr (.inl i_2)) else some (.inl (w64 (i_2 + 1)))) else some (.inr (.inr ())))
def slices_IndexFunc_Hammer_at_impl_ValidFrame_1 (s0 : List GHammer) (g1c0 : GFrame) : Option (Int) := (loop (slices_IndexFunc_Hammer_at_impl_ValidFrame_1.l_3 s0 g1c0) 0).bind fun t_4 => match t_4 with | .inl p => some p | .inr p => slices_IndexFunc_Hammer_at_impl_ValidFrame_1.k_1
theorem slices_IndexFunc_Hammer_at_impl_ValidFrame_1.calls (s0 : List GHammer) (g1c0 : GFrame) (w : World) (r : Int) {A_a : Option Addr} {A_an : Nat} (A_c : Nat) (A_h : Rw w A_a 2 encGHammer s0) (A_hn : s0.length = A_an) {D_a : Option Addr} {D_an : Nat} (D_c : Nat) (D_h : Rw w D_a 2 encGHammer g1c0.fHammers) (D_hn : g1c0.fHammers.length = D_an) (B_b : Nat) (hm0 : Mem w (bs [some B_b]) [⟨some B_b, 27, [(.int .i16 g1c0.fSteps), (.slice D_a D_an D_c)]⟩] w) (A_ha : s0 ≠ [] → aB A_a ∉ bs [some B_b]) (D_ha : g1c0.fHammers ≠ [] → aB D_a ∉ bs [some B_b]) (h : slices_IndexFunc_Hammer_at_impl_ValidFrame_1 s0 g1c0 = some r) :
    Calls Try.prog 97 #[(.slice A_a A_an A_c), (.func (.func 90) #[] #[(.pointer (some ⟨B_b, 0, none⟩))])] w fun e w' => ∃ v, e = .returned v ∧ (v = (.int .i64 r) ∧ Mem w (bs [some B_b]) [⟨some B_b, 27, [(.int .i16 g1c0.fSteps), (.slice D_a D_an D_c)]⟩] w') := by
  subst A_hn D_hn
  rw [slices_IndexFunc_Hammer_at_impl_ValidFrame_1] at h
  refine enter (args := [(.slice A_a s0.length A_c), (.func (.func 90) #[] #[(.pointer (some ⟨B_b, 0, none⟩))])]) Try.func97 rfl Try.ntmps97 (by kernel_rfl) (L := [⟨some B_b, 27, [(.int .i16 g1c0.fSteps), (.slice D_a g1c0.fHammers.length D_c)]⟩]) (W := bs [some B_b]) hm0 ?_
  refine jc_seq (jc_region (qh [0] (qe (jx_then (jc_seq (jc_seq (jc_region (qh [0,0,0] (qe (jx_then (jc_meet (fun (_ : Unit) => slices_IndexFunc_Hammer_at_impl_ValidFrame_1.k_1 = some r) (fun (_ : Unit) => [(4, [], (.int .i64 0))]) (fun (_ : Unit) => [⟨some B_b, 27, [(.int .i16 g1c0.fSteps), (.slice D_a g1c0.fHammers.length D_c)]⟩]) ?_ ?_)))))))))))
  ·refine jc_block ?_
   obtain ⟨t_4, ht_40, hr_31⟩ := bd h
   refine jc_loop (fun (s : Int) (x : Unit) => match s, x with | i_2, _ => True) (fun (s : Int) (x : Unit) => match s, x with | i_2, _ => [(0, [], (.slice A_a s0.length A_c)), (1, [], (.func (.func 90) #[] #[(.pointer (some ⟨B_b, 0, none⟩))])), (4, [], (.int .i64 0)), (7, [], (.int .i64 (s0.length : Int))), (8, [], (.int .i64 i_2))]) (fun (s : Int) (x : Unit) => match s, x with | i_2, _ => [⟨some B_b, 27, [(.int .i16 g1c0.fSteps), (.slice D_a g1c0.fHammers.length D_c)]⟩]) ht_40 () trivial (by kernel_rfl) [0] (by kernel_rfl) (by kernel_rfl) ?_
   rintro i_2 _ y_32 _ h
   rw [slices_IndexFunc_Hammer_at_impl_ValidFrame_1.l_3] at h
   refine jc_seq (jc_region (qh [0] (qe (jx_then (jc_seq (qi h (fun h => ?_) (fun h => ?_)))))))
   ·refine jc_skip (jx_then (jc_seq (jc_block (jc_seq (jc_region (qh [0,0] (qe (jx_then (jc_seq (jc_region (qh [0,0,0] ?_)))))))))))
    obtain ⟨x_5, hx_35, h⟩ := bd h
    refine tO (qx 0 A_a 2 hx_35 rfl (A_h.sp hx_35) (jkO (tO (ql 0 true (fun w hm => ((hm.exRowW A_h A_ha).at hx_35)) (jkO ?_)))))
    obtain ⟨t_6, ht_36, h⟩ := bd h
    refine tO (pc 0 (fun w hm => impl_ValidFrame_1.calls x_5 g1c0 w _ D_c (hm.exRowW D_h D_ha) rfl B_b (hm.pass (N := [⟨some B_b, 27, [(.int .i16 g1c0.fSteps), (.slice D_a g1c0.fHammers.length D_c)]⟩]) [0] (by kernel_rfl) (by kernel_rfl)) (hm.exApart (N := [⟨some B_b, 27, [(.int .i16 g1c0.fSteps), (.slice D_a g1c0.fHammers.length D_c)]⟩]) D_h D_ha [0] (by kernel_rfl)) ht_36) ?_)
    rintro w v w' hm ⟨rfl, hm'⟩
    refine ⟨_, hm.appW (ps := [(0, ⟨some B_b, 27, [(.int .i16 g1c0.fSteps), (.slice D_a g1c0.fHammers.length D_c)]⟩)]) (N := []) hm' (by kernel_rfl) (by kernel_rfl), jkO ?_⟩
    clear hm hm'
    refine qe (jx_then (qi h (fun h => ?_) (fun h => ?_)))
    ·refine jc_seq (jc_region (qh [0,0] (qe (jx_then (jc_ret (jx_inr (jx_thenr (jx_leaver (.inl i_2) (Option.some.inj h).symm (fun e_38 => ?_)))))))))
     subst e_38
     refine jx_inr (jx_thenr (jx_thenr ?_))
     obtain rfl := Option.some.inj hr_31
     exact qr [] (fun w hm => ⟨rfl, hm.pk [0]⟩)
    ·exact jc_skip (jx_inn (jx_then (jc_region (qh [0,0] (qe (qb (w64 (i_2 + 1)) () h trivial [0]))))))
   ·refine jc_exit (jx_thenx (jx_leave (.inr ()) (Option.some.inj h).symm (fun e_39 => ?_)))
    subst e_39
    exact jx_ine (qm () hr_31 [0])
  ·rintro _ h
   replace h : slices_IndexFunc_Hammer_at_impl_ValidFrame_1.k_1 = some r := h
   rw [slices_IndexFunc_Hammer_at_impl_ValidFrame_1.k_1] at h
   refine jx_then (jc_seq (jc_region (qh [0] (qe (jx_then (jc_ret ?_))))))
   obtain rfl := Option.some.inj h
   exact qr [] (fun w hm => ⟨rfl, hm.pk [0]⟩)
/-! ### slices.ContainsFunc[[]impl.Hammer,impl.Hammer] -/
def slices_ContainsFunc_Hammer_at_impl_ValidFrame_1 (s0 : List GHammer) (g1c0 : GFrame) : Option (Bool) := (slices_IndexFunc_Hammer_at_impl_ValidFrame_1 s0 g1c0).bind fun t_1 => some (decide (t_1 ≥ 0))
theorem slices_ContainsFunc_Hammer_at_impl_ValidFrame_1.calls (s0 : List GHammer) (g1c0 : GFrame) (w : World) (r : Bool) {A_a : Option Addr} {A_an : Nat} (A_c : Nat) (A_h : Rw w A_a 2 encGHammer s0) (A_hn : s0.length = A_an) {D_a : Option Addr} {D_an : Nat} (D_c : Nat) (D_h : Rw w D_a 2 encGHammer g1c0.fHammers) (D_hn : g1c0.fHammers.length = D_an) (B_b : Nat) (hm0 : Mem w (bs [some B_b]) [⟨some B_b, 27, [(.int .i16 g1c0.fSteps), (.slice D_a D_an D_c)]⟩] w) (A_ha : s0 ≠ [] → aB A_a ∉ bs [some B_b]) (D_ha : g1c0.fHammers ≠ [] → aB D_a ∉ bs [some B_b]) (h : slices_ContainsFunc_Hammer_at_impl_ValidFrame_1 s0 g1c0 = some r) :
    Calls Try.prog 89 #[(.slice A_a A_an A_c), (.func (.func 90) #[] #[(.pointer (some ⟨B_b, 0, none⟩))])] w fun e w' => ∃ v, e = .returned v ∧ (v = (.bool r) ∧ Mem w (bs [some B_b]) [⟨some B_b, 27, [(.int .i16 g1c0.fSteps), (.slice D_a D_an D_c)]⟩] w') := by
  subst A_hn D_hn
  rw [slices_ContainsFunc_Hammer_at_impl_ValidFrame_1] at h
  refine enter (args := [(.slice A_a s0.length A_c), (.func (.func 90) #[] #[(.pointer (some ⟨B_b, 0, none⟩))])]) Try.func89 rfl Try.ntmps89 (by kernel_rfl) (L := [⟨some B_b, 27, [(.int .i16 g1c0.fSteps), (.slice D_a g1c0.fHammers.length D_c)]⟩]) (W := bs [some B_b]) hm0 ?_
  refine jc_seq (jc_region (qh [0] (qe (jx_then (jc_seq (jc_region (qh [0,0] ?_)))))))
  obtain ⟨t_1, ht_1, h⟩ := bd h
  refine tO (pc 0 (fun w hm => slices_IndexFunc_Hammer_at_impl_ValidFrame_1.calls s0 g1c0 w _ A_c (hm.exRowW A_h A_ha) rfl D_c (hm.exRowW D_h D_ha) rfl B_b (hm.pass (N := [⟨some B_b, 27, [(.int .i16 g1c0.fSteps), (.slice D_a g1c0.fHammers.length D_c)]⟩]) [0] (by kernel_rfl) (by kernel_rfl)) (hm.exApart (N := [⟨some B_b, 27, [(.int .i16 g1c0.fSteps), (.slice D_a g1c0.fHammers.length D_c)]⟩]) A_h A_ha [0] (by kernel_rfl)) (hm.exApart (N := [⟨some B_b, 27, [(.int .i16 g1c0.fSteps), (.slice D_a g1c0.fHammers.length D_c)]⟩]) D_h D_ha [0] (by kernel_rfl)) ht_1) ?_)
  rintro w v w' hm ⟨rfl, hm'⟩
  refine ⟨_, hm.appW (ps := [(0, ⟨some B_b, 27, [(.int .i16 g1c0.fSteps), (.slice D_a g1c0.fHammers.length D_c)]⟩)]) (N := []) hm' (by kernel_rfl) (by kernel_rfl), jkO ?_⟩
  clear hm hm'
  refine qh [0,0] (qe (jx_then (jc_ret ?_)))
  obtain rfl := Option.some.inj h
  exact qr [] (fun w hm => ⟨rfl, hm.pk [0]⟩)
/-! ### impl.ValidFrame -/
def impl_ValidFrame (f0 : GFrame) : Option (Bool) := (impl_within (w64 f0.fSteps) 2 96).bind fun t_1 => (if t_1 = true then (impl_size_Hammer f0.fHammers).bind fun t_2 => (impl_within t_2 1 24).bind fun t_3 => (if t_3 = true then (slices_ContainsFunc_Hammer_at_impl_ValidFrame_1 f0.fHammers f0).bind fun t_4 => some (!t_4) else some false) else some false)
theorem impl_ValidFrame.calls (f0 : GFrame) (w : World) (r : Bool) {C_a : Option Addr} {C_an : Nat} (C_c : Nat) (C_h : Rw w C_a 2 encGHammer f0.fHammers) (C_hn : f0.fHammers.length = C_an) (h : impl_ValidFrame f0 = some r) :
    Calls Try.prog 78 #[(.agg #[(.int .i16 f0.fSteps), (.slice C_a C_an C_c)])] w fun e w' => ∃ v, e = .returned v ∧ (v = (.bool r) ∧ Mem w [] [] w') := by
  subst C_hn
  rw [impl_ValidFrame] at h
  refine enter (args := [(.agg #[(.int .i16 f0.fSteps), (.slice C_a f0.fHammers.length C_c)])]) Try.func78 rfl Try.ntmps78 (by kernel_rfl) (L := []) (W := []) (Mem.start w) ?_
  refine jc_seq (jc_region (tO (qa 0 (fun b_1 => jkO (qh [0] (qe (jx_then (jc_seq (jc_region (qh [0,0,0] ?_))))))))))
  obtain ⟨t_1, ht_2, h⟩ := bd h
  refine tO (pc 0 (fun w hm => impl_within.calls (w64 f0.fSteps) 2 96 w _ ht_2) ?_)
  rintro w v w' hm ⟨rfl, hm'⟩
  refine ⟨_, hm.app hm', jkO ?_⟩
  clear hm hm'
  refine qf [(0, 0), (0, 1), (0, 1)] (qp 7 h (fun h => ?_) (fun h => ?_))
  ·obtain ⟨t_2, ht_4, h⟩ := bd h
   refine tO (pc 2 (fun w hm => impl_size_Hammer.calls f0.fHammers w _ C_c (hm.xr C_h) rfl ht_4) ?_)
   rintro w v w' hm ⟨rfl, hm'⟩
   refine ⟨_, hm.app hm', jkO ?_⟩
   clear hm hm'
   obtain ⟨t_3, ht_5, h⟩ := bd h
   refine tO (pc 2 (fun w hm => impl_within.calls t_2 1 24 w _ ht_5) ?_)
   rintro w v w' hm ⟨rfl, hm'⟩
   refine ⟨_, hm.app hm', jkO ?_⟩
   clear hm hm'
   refine qf [(0, 4), (0, 0), (0, 1), (0, 1), (0, 1)] (qp 13 h (fun h => ?_) (fun h => ?_))
   ·obtain ⟨t_4, ht_7, h⟩ := bd h
    refine tO (pc 2 (fun w hm => slices_ContainsFunc_Hammer_at_impl_ValidFrame_1.calls f0.fHammers f0 w _ C_c (hm.xr C_h) rfl C_c (hm.xr C_h) rfl b_1 (hm.pass (N := [⟨some b_1, 27, [(.int .i16 f0.fSteps), (.slice C_a f0.fHammers.length C_c)]⟩]) [0] (by kernel_rfl) (by kernel_rfl)) (hm.exApart (N := [⟨some b_1, 27, [(.int .i16 f0.fSteps), (.slice C_a f0.fHammers.length C_c)]⟩]) C_h (fun _ => List.not_mem_nil) [0] (by kernel_rfl)) (hm.exApart (N := [⟨some b_1, 27, [(.int .i16 f0.fSteps), (.slice C_a f0.fHammers.length C_c)]⟩]) C_h (fun _ => List.not_mem_nil) [0] (by kernel_rfl)) ht_7) ?_)
    rintro w v w' hm ⟨rfl, hm'⟩
    refine ⟨_, hm.appW (ps := [(0, ⟨some b_1, 27, [(.int .i16 f0.fSteps), (.slice C_a f0.fHammers.length C_c)]⟩)]) (N := []) hm' (by kernel_rfl) (by kernel_rfl), jkO ?_⟩
    clear hm hm'
    refine qf [(0, 2), (0, 4), (0, 0)] (qe (jx_then (jc_ret ?_)))
    obtain rfl := Option.some.inj h
    exact qr [] (fun w hm => ⟨rfl, hm.pk []⟩)
   ·refine qf [(0, 3), (0, 3), (0, 5), (0, 0)] (qe (jx_then (jc_ret ?_)))
    obtain rfl := Option.some.inj h
    exact qr [] (fun w hm => ⟨rfl, hm.pk []⟩)
  ·refine qf [(0, 3), (0, 3), (0, 5), (0, 0), (0, 3), (0, 3), (0, 3), (0, 3), (0, 3), (0, 5), (0, 0)] (qe (jx_then (jc_ret ?_)))
   obtain rfl := Option.some.inj h
   exact qr [] (fun w hm => ⟨rfl, hm.pk []⟩)
/-! ### (impl.Frame).isDrum -/
def impl_Frame_isDrum.k_1 : Option (Bool) := some true
def impl_Frame_isDrum.k_7 (i_2 : Int) (q_6 : Bool) : Option ((Int) ⊕ (Bool ⊕ Unit)) := (if q_6 = true then some (.inr (.inl false)) else some (.inl (w64 (i_2 + 1))))
def impl_Frame_isDrum.l_3 (f0 : GFrame) (d1 : Arr 96 Int) : Int → Option ((Int) ⊕ (Bool ⊕ Unit))
  | i_2 => (if (decide (i_2 < 96)) = true then (ix d1.1 i_2).bind fun x_5 => (if 0 ≤ (f0.fHammers.length : Int) then (if ((bShr .u32 x_5 (f0.fHammers.length : Int)) != 0) = true then impl_Frame_isDrum.k_7 i_2 true else impl_Frame_isDrum.k_7 i_2 ((decide (i_2 ≥ (w64 f0.fSteps))) && (x_5 != 0))) else none) else some (.inr (.inr ())))
def impl_Frame_isDrum (f0 : GFrame) (d1 : Arr 96 Int) : Option (Bool) := (loop (impl_Frame_isDrum.l_3 f0 d1) 0).bind fun t_4 => match t_4 with | .inl p => some p | .inr p => impl_Frame_isDrum.k_1
theorem impl_Frame_isDrum.calls (f0 : GFrame) (d1 : Arr 96 Int) (w : World) (r : Bool) {C_a : Option Addr} {C_an : Nat} (C_c : Nat) (C_h : Rw w C_a 2 encGHammer f0.fHammers) (C_hn : f0.fHammers.length = C_an) (h : impl_Frame_isDrum f0 d1 = some r) :
    Calls Try.prog 81 #[(.agg #[(.int .i16 f0.fSteps), (.slice C_a C_an C_c)]), (.agg (row encU32 d1.1 []).toArray)] w fun e w' => ∃ v, e = .returned v ∧ (v = (.bool r) ∧ Mem w [] [] w') := by
  subst C_hn
  rw [impl_Frame_isDrum] at h
  refine enter (args := [(.agg #[(.int .i16 f0.fSteps), (.slice C_a f0.fHammers.length C_c)]), (.agg (row encU32 d1.1 []).toArray)]) Try.func81 rfl Try.ntmps81 (by kernel_rfl) (L := []) (W := []) (Mem.start w) ?_
  refine jc_seq (jc_region (tO (qa 0 (fun b_1 => jkO (tO (qa 0 (fun b_2 => jkO (qh [0] (qe (jx_then (jc_seq (jc_seq (jc_region (tO (p_ldA 0 1 b_2 96 1 58 encU32 d1 (by kernel_rfl) (by kernel_rfl) (by kernel_rfl) encU32_len (by kernel_rfl) (jkO (qh [0] (qe (jx_then (jc_meet (fun (_ : Unit) => impl_Frame_isDrum.k_1 = some r) (fun (_ : Unit) => [(4, [], (.bool false))]) (fun (_ : Unit) => [⟨some b_1, 27, [(.int .i16 f0.fSteps), (.slice C_a f0.fHammers.length C_c)]⟩, ⟨(some b_2), 58, row encU32 d1.1 []⟩]) ?_ ?_))))))))))))))))))))
  ·refine jc_block ?_
   obtain ⟨t_4, ht_60, hr_48⟩ := bd h
   refine jc_loop (fun (s : Int) (x : Unit) => match s, x with | i_2, _ => True) (fun (s : Int) (x : Unit) => match s, x with | i_2, _ => [(2, [], (.pointer (some ⟨b_1, 0, none⟩))), (4, [], (.bool false)), (7, [], (.agg (row encU32 d1.1 []).toArray)), (8, [], (.int .i64 i_2))]) (fun (s : Int) (x : Unit) => match s, x with | i_2, _ => [⟨some b_1, 27, [(.int .i16 f0.fSteps), (.slice C_a f0.fHammers.length C_c)]⟩, ⟨(some b_2), 58, row encU32 d1.1 []⟩]) ht_60 () trivial (by kernel_rfl) [0, 1] (by kernel_rfl) (by kernel_rfl) ?_
   rintro i_2 _ y_49 _ h
   rw [impl_Frame_isDrum.l_3] at h
   refine jc_seq (jc_region (qh [0] (qe (jx_then (jc_seq (qi h (fun h => ?_) (fun h => ?_)))))))
   ·refine jc_skip (jx_then (jc_seq (jc_block (jc_seq (jc_region (qh [0] ?_))))))
    obtain ⟨x_5, hx_52, h⟩ := bd h
    refine tO (p_ixA 0 encU32 (fun x => (.int .u32 x)) d1 i_2 (by kernel_rfl) (by kernel_rfl) (fun _ => rfl) hx_52 (jkO (qh [0,0] (qe (jx_then (jc_seq (jc_meet (fun (j : Bool) => match j with | q_6 => impl_Frame_isDrum.k_7 i_2 q_6 = some y_49) (fun (j : Bool) => match j with | q_6 => [(2, [], (.pointer (some ⟨b_1, 0, none⟩))), (4, [], (.bool false)), (7, [], (.agg (row encU32 d1.1 []).toArray)), (8, [], (.int .i64 i_2)), (28, [], (.bool q_6))]) (fun (j : Bool) => match j with | q_6 => [⟨some b_1, 27, [(.int .i16 f0.fSteps), (.slice C_a f0.fHammers.length C_c)]⟩, ⟨(some b_2), 58, row encU32 d1.1 []⟩]) ?_ ?_)))))))
    ·refine jc_region (qh [0,0,0,0] ?_)
     obtain ⟨hg_57, h⟩ := gd h
     refine tO (p_shr 0 .u32 x_5 .i64 (f0.fHammers.length : Int) (by kernel_rfl) (by kernel_rfl) hg_57 (jkO (qf [(0, 0), (0, 0), (0, 1), (0, 1), (0, 1), (0, 1), (0, 1)] (qp 18 h (fun h => ?_) (fun h => ?_)))))
     ·exact qf [(0, 3), (0, 3), (0, 3), (0, 3), (0, 4)] (qe (qm true h [0, 1]))
     ·exact qf [(0, 2), (0, 1), (0, 1), (0, 2), (0, 5)] (qe (qm ((decide (i_2 ≥ (w64 f0.fSteps))) && (x_5 != 0)) h [0, 1]))
    ·rintro q_6 h
     replace h : impl_Frame_isDrum.k_7 i_2 q_6 = some y_49 := h
     rw [impl_Frame_isDrum.k_7] at h
     refine jx_then (qi h (fun h => ?_) (fun h => ?_))
     ·refine jc_seq (jc_region (qh [0] (qe (jx_then (jc_ret (jx_inr (jx_thenr (jx_leaver (.inl false) (Option.some.inj h).symm (fun e_56 => ?_)))))))))
      subst e_56
      refine jx_inr (jx_thenr (jx_thenr ?_))
      obtain rfl := Option.some.inj hr_48
      exact qr [] (fun w hm => ⟨rfl, hm.pk []⟩)
     ·exact jc_skip (jx_inn (jx_then (jc_region (qh [0,0] (qe (qb (w64 (i_2 + 1)) () h trivial [0, 1]))))))
   ·refine jc_exit (jx_thenx (jx_leave (.inr ()) (Option.some.inj h).symm (fun e_59 => ?_)))
    subst e_59
    exact jx_ine (qm () hr_48 [0, 1])
  ·rintro _ h
   replace h : impl_Frame_isDrum.k_1 = some r := h
   rw [impl_Frame_isDrum.k_1] at h
   refine jx_then (jc_seq (jc_region (qh [0] (qe (jx_then (jc_ret ?_))))))
   obtain rfl := Option.some.inj h
   exact qr [] (fun w hm => ⟨rfl, hm.pk []⟩)
/-! ### impl.drumCode$1 -/
def impl_drumCode_1 (d0 : Arr 96 Int) (p1 : GFrame) : Option (Bool) := (impl_Frame_isDrum p1 d0).bind fun t_1 => some (!t_1)
theorem impl_drumCode_1.calls (d0 : Arr 96 Int) (p1 : GFrame) (w : World) (r : Bool) {D_a : Option Addr} {D_an : Nat} (D_c : Nat) (D_h : Rw w D_a 2 encGHammer p1.fHammers) (D_hn : p1.fHammers.length = D_an) (B_b : Nat) (hm0 : Mem w (bs [some B_b]) [⟨some B_b, 27, [(.int .i16 p1.fSteps), (.slice D_a D_an D_c)]⟩] w) (D_ha : p1.fHammers ≠ [] → aB D_a ∉ bs [some B_b]) (h : impl_drumCode_1 d0 p1 = some r) :
    Calls Try.prog 80 #[(.agg (row encU32 d0.1 []).toArray), (.pointer (some ⟨B_b, 0, none⟩))] w fun e w' => ∃ v, e = .returned v ∧ (v = (.bool r) ∧ Mem w (bs [some B_b]) [⟨some B_b, 27, [(.int .i16 p1.fSteps), (.slice D_a D_an D_c)]⟩] w') := by
  subst D_hn
  rw [impl_drumCode_1] at h
  refine enter (args := [(.agg (row encU32 d0.1 []).toArray), (.pointer (some ⟨B_b, 0, none⟩))]) Try.func80 rfl Try.ntmps80 (by kernel_rfl) (L := [⟨some B_b, 27, [(.int .i16 p1.fSteps), (.slice D_a p1.fHammers.length D_c)]⟩]) (W := bs [some B_b]) hm0 ?_
  refine jc_seq (jc_region (tO (qa 0 (fun b_1 => jkO (qh [0] (qe (jx_then (jc_seq (jc_region (qh [0] (tO (p_ldA 0 1 b_1 96 1 58 encU32 d0 (by kernel_rfl) (by kernel_rfl) (by kernel_rfl) encU32_len (by kernel_rfl) (jkO ?_)))))))))))))
  obtain ⟨t_1, ht_2, h⟩ := bd h
  refine tO (pc 0 (fun w hm => impl_Frame_isDrum.calls p1 d0 w _ D_c (hm.exRowW D_h D_ha) rfl ht_2) ?_)
  rintro w v w' hm ⟨rfl, hm'⟩
  refine ⟨_, hm.app hm', jkO ?_⟩
  clear hm hm'
  refine qh [0,0] (qe (jx_then (jc_ret ?_)))
  obtain rfl := Option.some.inj h
  exact qr [] (fun w hm => ⟨rfl, hm.pk [0]⟩)
/-! ### slices.IndexFunc[[]impl.Drum,impl.Drum] -/
def slices_IndexFunc_Drum_at_impl_drumCode_1.k_1 : Option (Int) := some (-1)
def slices_IndexFunc_Drum_at_impl_drumCode_1.l_3 (s0 : List (Arr 96 Int)) (g1c0 : GFrame) : Int → Option ((Int) ⊕ (Int ⊕ Unit))
  | i_2 => (if (decide (i_2 < (s0.length : Int))) = true then (ix s0 i_2).bind fun x_5 => (impl_drumCode_1 x_5 g1c0).bind fun t_6 => (if t_6 = true then some (.inr (.inl i_2)) else some (.inl (w64 (i_2 + 1)))) else some (.inr (.inr ())))
def slices_IndexFunc_Drum_at_impl_drumCode_1 (s0 : List (Arr 96 Int)) (g1c0 : GFrame) : Option (Int) := (loop (slices_IndexFunc_Drum_at_impl_drumCode_1.l_3 s0 g1c0) 0).bind fun t_4 => match t_4 with | .inl p => some p | .inr p => slices_IndexFunc_Drum_at_impl_drumCode_1.k_1
theorem slices_IndexFunc_Drum_at_impl_drumCode_1.calls (s0 : List (Arr 96 Int)) (g1c0 : GFrame) (w : World) (r : Int) {A_a : Option Addr} {A_an : Nat} (A_c : Nat) (A_h : Rw w A_a 96 encA96U32 s0) (A_hn : s0.length = A_an) {D_a : Option Addr} {D_an : Nat} (D_c : Nat) (D_h : Rw w D_a 2 encGHammer g1c0.fHammers) (D_hn : g1c0.fHammers.length = D_an) (B_b : Nat) (hm0 : Mem w (bs [some B_b]) [⟨some B_b, 27, [(.int .i16 g1c0.fSteps), (.slice D_a D_an D_c)]⟩] w) (A_ha : s0 ≠ [] → aB A_a ∉ bs [some B_b]) (D_ha : g1c0.fHammers ≠ [] → aB D_a ∉ bs [some B_b]) (h : slices_IndexFunc_Drum_at_impl_drumCode_1 s0 g1c0 = some r) :
    Calls Try.prog 92 #[(.slice A_a A_an A_c), (.func (.func 80) #[] #[(.pointer (some ⟨B_b, 0, none⟩))])] w fun e w' => ∃ v, e = .returned v ∧ (v = (.int .i64 r) ∧ Mem w (bs [some B_b]) [⟨some B_b, 27, [(.int .i16 g1c0.fSteps), (.slice D_a D_an D_c)]⟩] w') := by
  subst A_hn D_hn
  rw [slices_IndexFunc_Drum_at_impl_drumCode_1] at h
  refine enter (args := [(.slice A_a s0.length A_c), (.func (.func 80) #[] #[(.pointer (some ⟨B_b, 0, none⟩))])]) Try.func92 rfl Try.ntmps92 (by kernel_rfl) (L := [⟨some B_b, 27, [(.int .i16 g1c0.fSteps), (.slice D_a g1c0.fHammers.length D_c)]⟩]) (W := bs [some B_b]) hm0 ?_
  refine jc_seq (jc_region (qh [0] (qe (jx_then (jc_seq (jc_seq (jc_region (qh [0,0,0] (qe (jx_then (jc_meet (fun (_ : Unit) => slices_IndexFunc_Drum_at_impl_drumCode_1.k_1 = some r) (fun (_ : Unit) => [(4, [], (.int .i64 0))]) (fun (_ : Unit) => [⟨some B_b, 27, [(.int .i16 g1c0.fSteps), (.slice D_a g1c0.fHammers.length D_c)]⟩]) ?_ ?_)))))))))))
  ·refine jc_block ?_
   obtain ⟨t_4, ht_40, hr_31⟩ := bd h
   refine jc_loop (fun (s : Int) (x : Unit) => match s, x with | i_2, _ => True) (fun (s : Int) (x : Unit) => match s, x with | i_2, _ => [(0, [], (.slice A_a s0.length A_c)), (1, [], (.func (.func 80) #[] #[(.pointer (some ⟨B_b, 0, none⟩))])), (4, [], (.int .i64 0)), (7, [], (.int .i64 (s0.length : Int))), (8, [], (.int .i64 i_2))]) (fun (s : Int) (x : Unit) => match s, x with | i_2, _ => [⟨some B_b, 27, [(.int .i16 g1c0.fSteps), (.slice D_a g1c0.fHammers.length D_c)]⟩]) ht_40 () trivial (by kernel_rfl) [0] (by kernel_rfl) (by kernel_rfl) ?_
   rintro i_2 _ y_32 _ h
   rw [slices_IndexFunc_Drum_at_impl_drumCode_1.l_3] at h
   refine jc_seq (jc_region (qh [0] (qe (jx_then (jc_seq (qi h (fun h => ?_) (fun h => ?_)))))))
   ·refine jc_skip (jx_then (jc_seq (jc_block (jc_seq (jc_region (qh [0,0] (qe (jx_then (jc_seq (jc_region (qh [0,0,0] ?_)))))))))))
    obtain ⟨x_5, hx_35, h⟩ := bd h
    refine tO (qx 0 A_a 96 hx_35 rfl (A_h.sp hx_35) (jkO (tO (p_ldx 0 (aB A_a) (aO A_a + i_2.toNat * 96) (encA96U32 x_5) 96 (by kernel_rfl) (by kernel_rfl) (encA96U32_len x_5) (fun w hm => ((hm.exRowW A_h A_ha).at hx_35)) (jkO ?_)))))
    obtain ⟨t_6, ht_36, h⟩ := bd h
    refine tO (pc 0 (fun w hm => impl_drumCode_1.calls x_5 g1c0 w _ D_c (hm.exRowW D_h D_ha) rfl B_b (hm.pass (N := [⟨some B_b, 27, [(.int .i16 g1c0.fSteps), (.slice D_a g1c0.fHammers.length D_c)]⟩]) [0] (by kernel_rfl) (by kernel_rfl)) (hm.exApart (N := [⟨some B_b, 27, [(.int .i16 g1c0.fSteps), (.slice D_a g1c0.fHammers.length D_c)]⟩]) D_h D_ha [0] (by kernel_rfl)) ht_36) ?_)
    rintro w v w' hm ⟨rfl, hm'⟩
    refine ⟨_, hm.appW (ps := [(0, ⟨some B_b, 27, [(.int .i16 g1c0.fSteps), (.slice D_a g1c0.fHammers.length D_c)]⟩)]) (N := []) hm' (by kernel_rfl) (by kernel_rfl), jkO ?_⟩
    clear hm hm'
    refine qe (jx_then (qi h (fun h => ?_) (fun h => ?_)))
    ·refine jc_seq (jc_region (qh [0,0] (qe (jx_then (jc_ret (jx_inr (jx_thenr (jx_leaver (.inl i_2) (Option.some.inj h).symm (fun e_38 => ?_)))))))))
     subst e_38
     refine jx_inr (jx_thenr (jx_thenr ?_))
     obtain rfl := Option.some.inj hr_31
     exact qr [] (fun w hm => ⟨rfl, hm.pk [0]⟩)
    ·exact jc_skip (jx_inn (jx_then (jc_region (qh [0,0] (qe (qb (w64 (i_2 + 1)) () h trivial [0]))))))
   ·refine jc_exit (jx_thenx (jx_leave (.inr ()) (Option.some.inj h).symm (fun e_39 => ?_)))
    subst e_39
    exact jx_ine (qm () hr_31 [0])
  ·rintro _ h
   replace h : slices_IndexFunc_Drum_at_impl_drumCode_1.k_1 = some r := h
   rw [slices_IndexFunc_Drum_at_impl_drumCode_1.k_1] at h
   refine jx_then (jc_seq (jc_region (qh [0] (qe (jx_then (jc_ret ?_))))))
   obtain rfl := Option.some.inj h
   exact qr [] (fun w hm => ⟨rfl, hm.pk [0]⟩)
/-! ### slices.ContainsFunc[[]impl.Drum,impl.Drum] -/
def slices_ContainsFunc_Drum_at_impl_drumCode_1 (s0 : List (Arr 96 Int)) (g1c0 : GFrame) : Option (Bool) := (slices_IndexFunc_Drum_at_impl_drumCode_1 s0 g1c0).bind fun t_1 => some (decide (t_1 ≥ 0))
theorem slices_ContainsFunc_Drum_at_impl_drumCode_1.calls (s0 : List (Arr 96 Int)) (g1c0 : GFrame) (w : World) (r : Bool) {A_a : Option Addr} {A_an : Nat} (A_c : Nat) (A_h : Rw w A_a 96 encA96U32 s0) (A_hn : s0.length = A_an) {D_a : Option Addr} {D_an : Nat} (D_c : Nat) (D_h : Rw w D_a 2 encGHammer g1c0.fHammers) (D_hn : g1c0.fHammers.length = D_an) (B_b : Nat) (hm0 : Mem w (bs [some B_b]) [⟨some B_b, 27, [(.int .i16 g1c0.fSteps), (.slice D_a D_an D_c)]⟩] w) (A_ha : s0 ≠ [] → aB A_a ∉ bs [some B_b]) (D_ha : g1c0.fHammers ≠ [] → aB D_a ∉ bs [some B_b]) (h : slices_ContainsFunc_Drum_at_impl_drumCode_1 s0 g1c0 = some r) :
    Calls Try.prog 79 #[(.slice A_a A_an A_c), (.func (.func 80) #[] #[(.pointer (some ⟨B_b, 0, none⟩))])] w fun e w' => ∃ v, e = .returned v ∧ (v = (.bool r) ∧ Mem w (bs [some B_b]) [⟨some B_b, 27, [(.int .i16 g1c0.fSteps), (.slice D_a D_an D_c)]⟩] w') := by
  subst A_hn D_hn
  rw [slices_ContainsFunc_Drum_at_impl_drumCode_1] at h
  refine enter (args := [(.slice A_a s0.length A_c), (.func (.func 80) #[] #[(.pointer (some ⟨B_b, 0, none⟩))])]) Try.func79 rfl Try.ntmps79 (by kernel_rfl) (L := [⟨some B_b, 27, [(.int .i16 g1c0.fSteps), (.slice D_a g1c0.fHammers.length D_c)]⟩]) (W := bs [some B_b]) hm0 ?_
  refine jc_seq (jc_region (qh [0] (qe (jx_then (jc_seq (jc_region (qh [0,0] ?_)))))))
  obtain ⟨t_1, ht_1, h⟩ := bd h
  refine tO (pc 0 (fun w hm => slices_IndexFunc_Drum_at_impl_drumCode_1.calls s0 g1c0 w _ A_c (hm.exRowW A_h A_ha) rfl D_c (hm.exRowW D_h D_ha) rfl B_b (hm.pass (N := [⟨some B_b, 27, [(.int .i16 g1c0.fSteps), (.slice D_a g1c0.fHammers.length D_c)]⟩]) [0] (by kernel_rfl) (by kernel_rfl)) (hm.exApart (N := [⟨some B_b, 27, [(.int .i16 g1c0.fSteps), (.slice D_a g1c0.fHammers.length D_c)]⟩]) A_h A_ha [0] (by kernel_rfl)) (hm.exApart (N := [⟨some B_b, 27, [(.int .i16 g1c0.fSteps), (.slice D_a g1c0.fHammers.length D_c)]⟩]) D_h D_ha [0] (by kernel_rfl)) ht_1) ?_)
  rintro w v w' hm ⟨rfl, hm'⟩
  refine ⟨_, hm.appW (ps := [(0, ⟨some B_b, 27, [(.int .i16 g1c0.fSteps), (.slice D_a g1c0.fHammers.length D_c)]⟩)]) (N := []) hm' (by kernel_rfl) (by kernel_rfl), jkO ?_⟩
  clear hm hm'
  refine qh [0,0] (qe (jx_then (jc_ret ?_)))
  obtain rfl := Option.some.inj h
  exact qr [] (fun w hm => ⟨rfl, hm.pk [0]⟩)
/-! ### impl.unless -/
def impl_unless (is0 : Bool) (code1 : Int) : Option (Int) := (if is0 = true then some 0 else some code1)
theorem impl_unless.calls (is0 : Bool) (code1 : Int) (w : World) (r : Int) (h : impl_unless is0 code1 = some r) :
    Calls Try.prog 46 #[(.bool is0), (.int .i64 code1)] w fun e w' => ∃ v, e = .returned v ∧ (v = (.int .i64 r) ∧ Mem w [] [] w') := by
  rw [impl_unless] at h
  refine enter (args := [(.bool is0), (.int .i64 code1)]) Try.func46 rfl Try.ntmps46 (by kernel_rfl) (L := []) (W := []) (Mem.start w) ?_
  refine jc_seq (jc_region (qh [0] (qe (jx_then (jc_seq (jc_seq (jc_region (qh [0] (qe (jx_then (qi h (fun h => ?_) (fun h => ?_))))))))))))
  ·refine jc_seq (jc_region (qh [0] (qe (jx_then (jc_ret (jx_thenr ?_))))))
   obtain rfl := Option.some.inj h
   exact qr [] (fun w hm => ⟨rfl, hm.pk []⟩)
  ·refine jc_skip (jx_then (jc_seq (jc_region (qh [0,0] (qe (jx_then (jc_ret ?_)))))))
   obtain rfl := Option.some.inj h
   exact qr [] (fun w hm => ⟨rfl, hm.pk []⟩)
/-! ### impl.drumCode -/
def impl_drumCode (f0 : GFrame) (list1 : List (Arr 96 Int)) : Option (Int) := (impl_ValidFrame f0).bind fun t_1 => (if t_1 = true then (slices_ContainsFunc_Drum_at_impl_drumCode_1 list1 f0).bind fun t_2 => (impl_unless (!t_2) 1).bind fun t_3 => some t_3 else (impl_unless false 1).bind fun t_4 => some t_4)
theorem impl_drumCode.calls (f0 : GFrame) (list1 : List (Arr 96 Int)) (w : World) (r : Int) {C_a : Option Addr} {C_an : Nat} (C_c : Nat) (C_h : Rw w C_a 2 encGHammer f0.fHammers) (C_hn : f0.fHammers.length = C_an) {D_a : Option Addr} {D_an : Nat} (D_c : Nat) (D_h : Rw w D_a 96 encA96U32 list1) (D_hn : list1.length = D_an) (h : impl_drumCode f0 list1 = some r) :
    Calls Try.prog 62 #[(.agg #[(.int .i16 f0.fSteps), (.slice C_a C_an C_c)]), (.slice D_a D_an D_c)] w fun e w' => ∃ v, e = .returned v ∧ (v = (.int .i64 r) ∧ Mem w [] [] w') := by
  subst C_hn D_hn
  rw [impl_drumCode] at h
  refine enter (args := [(.agg #[(.int .i16 f0.fSteps), (.slice C_a f0.fHammers.length C_c)]), (.slice D_a list1.length D_c)]) Try.func62 rfl Try.ntmps62 (by kernel_rfl) (L := []) (W := []) (Mem.start w) ?_
  refine jc_seq (jc_region (tO (qa 0 (fun b_1 => jkO (qh [0] (qe (jx_then (jc_seq (jc_region (qh [0] ?_))))))))))
  obtain ⟨t_1, ht_2, h⟩ := bd h
  refine tO (pc 0 (fun w hm => impl_ValidFrame.calls f0 w _ C_c (hm.xr C_h) rfl ht_2) ?_)
  rintro w v w' hm ⟨rfl, hm'⟩
  refine ⟨_, hm.app hm', jkO ?_⟩
  clear hm hm'
  refine qf [(0, 0), (0, 1), (0, 1)] (qp 7 h (fun h => ?_) (fun h => ?_))
  ·obtain ⟨t_2, ht_4, h⟩ := bd h
   refine tO (pc 2 (fun w hm => slices_ContainsFunc_Drum_at_impl_drumCode_1.calls list1 f0 w _ D_c (hm.xr D_h) rfl C_c (hm.xr C_h) rfl b_1 (hm.pass (N := [⟨some b_1, 27, [(.int .i16 f0.fSteps), (.slice C_a f0.fHammers.length C_c)]⟩]) [0] (by kernel_rfl) (by kernel_rfl)) (hm.exApart (N := [⟨some b_1, 27, [(.int .i16 f0.fSteps), (.slice C_a f0.fHammers.length C_c)]⟩]) D_h (fun _ => List.not_mem_nil) [0] (by kernel_rfl)) (hm.exApart (N := [⟨some b_1, 27, [(.int .i16 f0.fSteps), (.slice C_a f0.fHammers.length C_c)]⟩]) C_h (fun _ => List.not_mem_nil) [0] (by kernel_rfl)) ht_4) ?_)
   rintro w v w' hm ⟨rfl, hm'⟩
   refine ⟨_, hm.appW (ps := [(0, ⟨some b_1, 27, [(.int .i16 f0.fSteps), (.slice C_a f0.fHammers.length C_c)]⟩)]) (N := []) hm' (by kernel_rfl) (by kernel_rfl), jkO ?_⟩
   clear hm hm'
   refine qf [(0, 2), (0, 4)] ?_
   obtain ⟨t_3, ht_5, h⟩ := bd h
   refine tO (pc 0 (fun w hm => impl_unless.calls (!t_2) 1 w _ ht_5) ?_)
   rintro w v w' hm ⟨rfl, hm'⟩
   refine ⟨_, hm.app hm', jkO ?_⟩
   clear hm hm'
   refine qh [0] (qe (jx_then (jc_ret ?_)))
   obtain rfl := Option.some.inj h
   exact qr [] (fun w hm => ⟨rfl, hm.pk []⟩)
  ·refine qf [(0, 3), (0, 3), (0, 5)] ?_
   obtain ⟨t_4, ht_6, h⟩ := bd h
   refine tO (pc 0 (fun w hm => impl_unless.calls false 1 w _ ht_6) ?_)
   rintro w v w' hm ⟨rfl, hm'⟩
   refine ⟨_, hm.app hm', jkO ?_⟩
   clear hm hm'
   refine qh [0] (qe (jx_then (jc_ret ?_)))
   obtain rfl := Option.some.inj h
   exact qr [] (fun w hm => ⟨rfl, hm.pk []⟩)
/-! ### impl.firstOf -/
def impl_firstOf.k_1 : Option (Int) := some 0
def impl_firstOf.l_3 (codes0 : List Int) : Int → Option ((Int) ⊕ (Int ⊕ Unit))
  | i_2 => (if (decide (i_2 < (codes0.length : Int))) = true then (ix codes0 i_2).bind fun x_5 => (if (x_5 != 0) = true then some (.inr (.inl x_5)) else some (.inl (w64 (i_2 + 1)))) else some (.inr (.inr ())))
def impl_firstOf (codes0 : List Int) : Option (Int) := (loop (impl_firstOf.l_3 codes0) 0).bind fun t_4 => match t_4 with | .inl p => some p | .inr p => impl_firstOf.k_1
theorem impl_firstOf.calls (codes0 : List Int) (w : World) (r : Int) {A_a : Option Addr} {A_an : Nat} (A_c : Nat) (A_h : Rw w A_a 1 encI64 codes0) (A_hn : codes0.length = A_an) (h : impl_firstOf codes0 = some r) :
    Calls Try.prog 45 #[(.slice A_a A_an A_c)] w fun e w' => ∃ v, e = .returned v ∧ (v = (.int .i64 r) ∧ Mem w [] [] w') := by
  subst A_hn
  rw [impl_firstOf] at h
  refine enter (args := [(.slice A_a codes0.length A_c)]) Try.func45 rfl Try.ntmps45 (by kernel_rfl) (L := []) (W := []) (Mem.start w) ?_
  refine jc_seq (jc_region (qh [0] (qe (jx_then (jc_seq (jc_seq (jc_region (qh [0,0,0] (qe (jx_then (jc_meet (fun (_ : Unit) => impl_firstOf.k_1 = some r) (fun (_ : Unit) => [(2, [], (.int .i64 0))]) (fun (_ : Unit) => []) ?_ ?_)))))))))))
  ·refine jc_block ?_
   obtain ⟨t_4, ht_34, hr_26⟩ := bd h
   refine jc_loop (fun (s : Int) (x : Unit) => match s, x with | i_2, _ => True) (fun (s : Int) (x : Unit) => match s, x with | i_2, _ => [(2, [], (.int .i64 0)), (5, [], (.slice A_a codes0.length A_c)), (6, [], (.int .i64 (codes0.length : Int))), (7, [], (.int .i64 i_2))]) (fun (s : Int) (x : Unit) => match s, x with | i_2, _ => []) ht_34 () trivial (by kernel_rfl) [] (by kernel_rfl) (by kernel_rfl) ?_
   rintro i_2 _ y_27 _ h
   rw [impl_firstOf.l_3] at h
   refine jc_seq (jc_region (qh [0] (qe (jx_then (jc_seq (qi h (fun h => ?_) (fun h => ?_)))))))
   ·refine jc_skip (jx_then (jc_seq (jc_block (jc_seq (jc_region ?_)))))
    obtain ⟨x_5, hx_30, h⟩ := bd h
    refine tO (qx 0 A_a 1 hx_30 rfl (A_h.sp hx_30) (jkO (tO (ql 0 false (fun w hm => ((hm.xr A_h).at hx_30)) (jkO (qh [0] (qe (jx_then (jc_seq (jc_region (qh [0,0] (qe (jx_then (qi h (fun h => ?_) (fun h => ?_)))))))))))))))
    ·refine jc_seq (jc_region (qh [0,0] (qe (jx_then (jc_ret (jx_inr (jx_thenr (jx_leaver (.inl x_5) (Option.some.inj h).symm (fun e_32 => ?_)))))))))
     subst e_32
     refine jx_inr (jx_thenr (jx_thenr ?_))
     obtain rfl := Option.some.inj hr_26
     exact qr [] (fun w hm => ⟨rfl, hm.pk []⟩)
    ·exact jc_skip (jx_inn (jx_then (jc_region (qh [0,0] (qe (qb (w64 (i_2 + 1)) () h trivial []))))))
   ·refine jc_exit (jx_thenx (jx_leave (.inr ()) (Option.some.inj h).symm (fun e_33 => ?_)))
    subst e_33
    exact jx_ine (qm () hr_26 [])
  ·rintro _ h
   replace h : impl_firstOf.k_1 = some r := h
   rw [impl_firstOf.k_1] at h
   refine jx_then (jc_seq (jc_region (qh [0] (qe (jx_then (jc_ret ?_))))))
   obtain rfl := Option.some.inj h
   exact qr [] (fun w hm => ⟨rfl, hm.pk []⟩)
/-! ### impl.listCode -/
def impl_listCode (f0 : GFrame) (list1 : List (Arr 96 Int)) : Option (Int) := (impl_drumCode f0 list1).bind fun t_1 => (impl_unless (decide ((list1.length : Int) ≤ 8)) 3).bind fun t_2 => (impl_firstOf ([t_1, t_2] : List Int)).bind fun t_3 => some t_3
theorem impl_listCode.calls (f0 : GFrame) (list1 : List (Arr 96 Int)) (w : World) (r : Int) {C_a : Option Addr} {C_an : Nat} (C_c : Nat) (C_h : Rw w C_a 2 encGHammer f0.fHammers) (C_hn : f0.fHammers.length = C_an) {D_a : Option Addr} {D_an : Nat} (D_c : Nat) (D_h : Rw w D_a 96 encA96U32 list1) (D_hn : list1.length = D_an) (h : impl_listCode f0 list1 = some r) :
    Calls Try.prog 29 #[(.agg #[(.int .i16 f0.fSteps), (.slice C_a C_an C_c)]), (.slice D_a D_an D_c)] w fun e w' => ∃ v, e = .returned v ∧ (v = (.int .i64 r) ∧ Mem w [] [] w') := by
  subst C_hn D_hn
  rw [impl_listCode] at h
  refine enter (args := [(.agg #[(.int .i16 f0.fSteps), (.slice C_a f0.fHammers.length C_c)]), (.slice D_a list1.length D_c)]) Try.func29 rfl Try.ntmps29 (by kernel_rfl) (L := []) (W := []) (Mem.start w) ?_
  refine jc_seq (jc_region (tO (qa 0 (fun b_1 => jkO (qh [0] (qe (jx_then (jc_seq (jc_region (qh [0,0] ?_))))))))))
  obtain ⟨t_1, ht_2, h⟩ := bd h
  refine tO (pc 0 (fun w hm => impl_drumCode.calls f0 list1 w _ C_c (hm.xr C_h) rfl D_c (hm.xr D_h) rfl ht_2) ?_)
  rintro w v w' hm ⟨rfl, hm'⟩
  refine ⟨_, hm.app hm', jkO ?_⟩
  clear hm hm'
  refine qh [0,0,0] ?_
  obtain ⟨t_2, ht_3, h⟩ := bd h
  refine tO (pc 0 (fun w hm => impl_unless.calls (decide ((list1.length : Int) ≤ 8)) 3 w _ ht_3) ?_)
  rintro w v w' hm ⟨rfl, hm'⟩
  refine ⟨_, hm.app hm', jkO ?_⟩
  clear hm hm'
  refine tO (qa 0 (fun b_4 => jkO ?_))
  obtain ⟨t_3, ht_5, h⟩ := bd h
  refine tO (pc 0 (fun w hm => impl_firstOf.calls ([t_1, t_2] : List Int) w _ 2 (hm.ow 1 (some b_4) 2 ([t_1, t_2] : List Int) [] (fun e => nomatch e) encI64_len) rfl ht_5) ?_)
  rintro w v w' hm ⟨rfl, hm'⟩
  refine ⟨_, hm.app hm', jkO ?_⟩
  clear hm hm'
  refine qh [0] (qe (jx_then (jc_ret ?_)))
  obtain rfl := Option.some.inj h
  exact qr [] (fun w hm => ⟨rfl, hm.pk []⟩)
/-! ### (impl.Drum).less -/
def impl_Drum_less.k_2 (a_1 : Arr 96 Int) : Option ((Arr 96 Int)) := some a_1
def impl_Drum_less.l_5 (e1 : Arr 96 Int) : ((Arr 96 Int) × Int) → Option (((Arr 96 Int) × Int) ⊕ ((Arr 96 Int)))
  | (a_3, i_4) => (if (decide (i_4 < 96)) = true then (ix e1.1 i_4).bind fun x_7 => (ix a_3.1 i_4).bind fun x_8 => (ix a_3.1 i_4).bind fun x_9 => some (.inl ((Arr.set a_3 i_4 (bClr .u32 x_8 x_7)), (w64 (i_4 + 1)))) else some (.inr a_3))
def impl_Drum_less (d0 : Arr 96 Int) (e1 : Arr 96 Int) : Option ((Arr 96 Int)) := (loop (impl_Drum_less.l_5 e1) (d0, 0)).bind fun t_6 => impl_Drum_less.k_2 t_6
theorem impl_Drum_less.calls (d0 : Arr 96 Int) (e1 : Arr 96 Int) (w : World) (r : (Arr 96 Int)) (h : impl_Drum_less d0 e1 = some r) :
    Calls Try.prog 82 #[(.agg (row encU32 d0.1 []).toArray), (.agg (row encU32 e1.1 []).toArray)] w fun e w' => ∃ v, e = .returned v ∧ (v = (.agg (row encU32 r.1 []).toArray) ∧ Mem w [] [] w') := by
  rw [impl_Drum_less] at h
  refine enter (args := [(.agg (row encU32 d0.1 []).toArray), (.agg (row encU32 e1.1 []).toArray)]) Try.func82 rfl Try.ntmps82 (by kernel_rfl) (L := []) (W := []) (Mem.start w) ?_
  refine jc_seq (jc_region (tO (qa 0 (fun b_1 => jkO (tO (qa 0 (fun b_2 => jkO (tO (qa 0 (fun b_3 => jkO (qe (jx_then (jc_seq (jc_seq (jc_region (tO (p_ldA 0 1 b_2 96 1 58 encU32 e1 (by kernel_rfl) (by kernel_rfl) (by kernel_rfl) encU32_len (by kernel_rfl) (jkO (qh [0] (qe (jx_then (jc_meet (fun (j : (Arr 96 Int)) => match j with | a_1 => impl_Drum_less.k_2 a_1 = some r) (fun (j : (Arr 96 Int)) => match j with | a_1 => [(2, [], (.pointer (some ⟨b_1, 0, none⟩))), (4, [], (.pointer (some ⟨b_3, 0, none⟩)))]) (fun (j : (Arr 96 Int)) => match j with | a_1 => [⟨(some b_1), 58, row encU32 a_1.1 []⟩, ⟨(some b_2), 58, row encU32 e1.1 []⟩, ⟨(some b_3), 58, row encU32 ((Arr.rep 96 0).1) []⟩]) ?_ ?_))))))))))))))))))))))
  ·refine jc_block ?_
   obtain ⟨t_6, ht_79, hr_71⟩ := bd h
   refine jc_loop (fun (s : (Arr 96 Int) × Int) (x : Unit) => match s, x with | ⟨a_3, i_4⟩, _ => True) (fun (s : (Arr 96 Int) × Int) (x : Unit) => match s, x with | ⟨a_3, i_4⟩, _ => [(2, [], (.pointer (some ⟨b_1, 0, none⟩))), (4, [], (.pointer (some ⟨b_3, 0, none⟩))), (7, [], (.agg (row encU32 e1.1 []).toArray)), (8, [], (.int .i64 i_4))]) (fun (s : (Arr 96 Int) × Int) (x : Unit) => match s, x with | ⟨a_3, i_4⟩, _ => [⟨(some b_1), 58, row encU32 a_3.1 []⟩, ⟨(some b_2), 58, row encU32 e1.1 []⟩, ⟨(some b_3), 58, row encU32 ((Arr.rep 96 0).1) []⟩]) ht_79 () trivial (by kernel_rfl) [0, 1, 2] (by kernel_rfl) (by kernel_rfl) ?_
   rintro ⟨a_3, i_4⟩ _ y_72 _ h
   rw [impl_Drum_less.l_5] at h
   refine jc_seq (jc_region (qh [0] (qe (jx_then (jc_seq (qi h (fun h => ?_) (fun h => ?_)))))))
   ·refine jc_skip (jx_then (jc_seq (jc_block (jc_seq (jc_region (qh [0] ?_))))))
    obtain ⟨x_7, hx_75, h⟩ := bd h
    refine tO (p_ixA 0 encU32 (fun x => (.int .u32 x)) e1 i_4 (by kernel_rfl) (by kernel_rfl) (fun _ => rfl) hx_75 (jkO (qh [0,0] (qe (jx_then (jc_region (qh [0] ?_)))))))
    obtain ⟨x_8, hx_76, h⟩ := bd h
    refine tO (qx 0 (some ⟨b_1, 0, none⟩) 1 hx_76 a_3.2 rfl (jkO (tO (ql 0 false (fun w hm => ((hm.ow 0 (some b_1) 58 a_3.1 [] (fun e => nomatch e) encU32_len).at hx_76)) (jkO (qh [0,0] ?_))))))
    obtain ⟨x_9, hx_77, h⟩ := bd h
    exact tO (qx 0 (some ⟨b_1, 0, none⟩) 1 hx_77 a_3.2 rfl (jkO (tO (p_str 0 0 b_1 58 encU32 a_3.1 [] i_4 (bClr .u32 x_8 x_7) 1 0 [(.int .u32 (bClr .u32 x_8 x_7))] (by kernel_rfl) (by kernel_rfl) (by kernel_rfl) encU32_len hx_77 (by kernel_rfl) (by kernel_rfl) (jkO (qe (jx_inn (jx_then (jc_region (qh [0,0] (qe (qb ((Arr.set a_3 i_4 (bClr .u32 x_8 x_7)), (w64 (i_4 + 1))) () h trivial [0, 1, 2]))))))))))))
   ·refine jc_exit (jx_thenx (jx_leave a_3 (Option.some.inj h).symm (fun e_78 => ?_)))
    subst e_78
    exact jx_ine (qm a_3 hr_71 [0, 1, 2])
  ·rintro a_1 h
   replace h : impl_Drum_less.k_2 a_1 = some r := h
   rw [impl_Drum_less.k_2] at h
   refine jx_then (jc_seq (jc_region (tO (p_ldA 0 0 b_1 96 1 58 encU32 a_1 (by kernel_rfl) (by kernel_rfl) (by kernel_rfl) encU32_len (by kernel_rfl) (jkO (tO (p_sA 0 2 b_3 96 1 58 encU32 (Arr.rep 96 0) a_1 (by kernel_rfl) (by kernel_rfl) (by kernel_rfl) encU32_len encU32_cell (by kernel_rfl) (jkO (qe (jx_then (jc_ret ?_)))))))))))
   obtain rfl := Option.some.inj h
   exact jx_retV rfl (rq_arr (b := b_3) (T' := 58) (hh := 2) (mm := 1) encU32 a_1 (by kernel_rfl) (by kernel_rfl) encU32_len (by kernel_rfl) rq_nil) (fun w hm => ⟨rfl, hm.pk []⟩)
/-! ### math/bits.OnesCount32 -/
def math_bits_OnesCount32 (x0 : Int) : Option (Int) := (sIx (ByteArray.mk #[0, 1, 1, 2, 1, 2, 2, 3, 1, 2, 2, 3, 2, 3, 3, 4, 1, 2, 2, 3, 2, 3, 3, 4, 2, 3, 3, 4, 3, 4, 4, 5, 1, 2, 2, 3, 2, 3, 3, 4, 2, 3, 3, 4, 3, 4, 4, 5, 2, 3, 3, 4, 3, 4, 4, 5, 3, 4, 4, 5, 4, 5, 5, 6, 1, 2, 2, 3, 2, 3, 3, 4, 2, 3, 3, 4, 3, 4, 4, 5, 2, 3, 3, 4, 3, 4, 4, 5, 3, 4, 4, 5, 4, 5, 5, 6, 2, 3, 3, 4, 3, 4, 4, 5, 3, 4, 4, 5, 4, 5, 5, 6, 3, 4, 4, 5, 4, 5, 5, 6, 4, 5, 5, 6, 5, 6, 6, 7, 1, 2, 2, 3, 2, 3, 3, 4, 2, 3, 3, 4, 3, 4, 4, 5, 2, 3, 3, 4, 3, 4, 4, 5, 3, 4, 4, 5, 4, 5, 5, 6, 2, 3, 3, 4, 3, 4, 4, 5, 3, 4, 4, 5, 4, 5, 5, 6, 3, 4, 4, 5, 4, 5, 5, 6, 4, 5, 5, 6, 5, 6, 6, 7, 2, 3, 3, 4, 3, 4, 4, 5, 3, 4, 4, 5, 4, 5, 5, 6, 3, 4, 4, 5, 4, 5, 5, 6, 4, 5, 5, 6, 5, 6, 6, 7, 3, 4, 4, 5, 4, 5, 5, 6, 4, 5, 5, 6, 5, 6, 6, 7, 4, 5, 5, 6, 5, 6, 6, 7, 5, 6, 6, 7, 6, 7, 7, 8]) (bShr .u32 x0 24)).bind fun x_1 => (sIx (ByteArray.mk #[0, 1, 1, 2, 1, 2, 2, 3, 1, 2, 2, 3, 2, 3, 3, 4, 1, 2, 2, 3, 2, 3, 3, 4, 2, 3, 3, 4, 3, 4, 4, 5, 1, 2, 2, 3, 2, 3, 3, 4, 2, 3, 3, 4, 3, 4, 4, 5, 2, 3, 3, 4, 3, 4, 4, 5, 3, 4, 4, 5, 4, 5, 5, 6, 1, 2, 2, 3, 2, 3, 3, 4, 2, 3, 3, 4, 3, 4, 4, 5, 2, 3, 3, 4, 3, 4, 4, 5, 3, 4, 4, 5, 4, 5, 5, 6, 2, 3, 3, 4, 3, 4, 4, 5, 3, 4, 4, 5, 4, 5, 5, 6, 3, 4, 4, 5, 4, 5, 5, 6, 4, 5, 5, 6, 5, 6, 6, 7, 1, 2, 2, 3, 2, 3, 3, 4, 2, 3, 3, 4, 3, 4, 4, 5, 2, 3, 3, 4, 3, 4, 4, 5, 3, 4, 4, 5, 4, 5, 5, 6, 2, 3, 3, 4, 3, 4, 4, 5, 3, 4, 4, 5, 4, 5, 5, 6, 3, 4, 4, 5, 4, 5, 5, 6, 4, 5, 5, 6, 5, 6, 6, 7, 2, 3, 3, 4, 3, 4, 4, 5, 3, 4, 4, 5, 4, 5, 5, 6, 3, 4, 4, 5, 4, 5, 5, 6, 4, 5, 5, 6, 5, 6, 6, 7, 3, 4, 4, 5, 4, 5, 5, 6, 4, 5, 5, 6, 5, 6, 6, 7, 4, 5, 5, 6, 5, 6, 6, 7, 5, 6, 6, 7, 6, 7, 7, 8]) (bAnd .u32 (bShr .u32 x0 16) 255)).bind fun x_2 => (sIx (ByteArray.mk #[0, 1, 1, 2, 1, 2, 2, 3, 1, 2, 2, 3, 2, 3, 3, 4, 1, 2, 2, 3, 2, 3, 3, 4, 2, 3, 3, 4, 3, 4, 4, 5, 1, 2, 2, 3, 2, 3, 3, 4, 2, 3, 3, 4, 3, 4, 4, 5, 2, 3, 3, 4, 3, 4, 4, 5, 3, 4, 4, 5, 4, 5, 5, 6, 1, 2, 2, 3, 2, 3, 3, 4, 2, 3, 3, 4, 3, 4, 4, 5, 2, 3, 3, 4, 3, 4, 4, 5, 3, 4, 4, 5, 4, 5, 5, 6, 2, 3, 3, 4, 3, 4, 4, 5, 3, 4, 4, 5, 4, 5, 5, 6, 3, 4, 4, 5, 4, 5, 5, 6, 4, 5, 5, 6, 5, 6, 6, 7, 1, 2, 2, 3, 2, 3, 3, 4, 2, 3, 3, 4, 3, 4, 4, 5, 2, 3, 3, 4, 3, 4, 4, 5, 3, 4, 4, 5, 4, 5, 5, 6, 2, 3, 3, 4, 3, 4, 4, 5, 3, 4, 4, 5, 4, 5, 5, 6, 3, 4, 4, 5, 4, 5, 5, 6, 4, 5, 5, 6, 5, 6, 6, 7, 2, 3, 3, 4, 3, 4, 4, 5, 3, 4, 4, 5, 4, 5, 5, 6, 3, 4, 4, 5, 4, 5, 5, 6, 4, 5, 5, 6, 5, 6, 6, 7, 3, 4, 4, 5, 4, 5, 5, 6, 4, 5, 5, 6, 5, 6, 6, 7, 4, 5, 5, 6, 5, 6, 6, 7, 5, 6, 6, 7, 6, 7, 7, 8]) (bAnd .u32 (bShr .u32 x0 8) 255)).bind fun x_3 => (sIx (ByteArray.mk #[0, 1, 1, 2, 1, 2, 2, 3, 1, 2, 2, 3, 2, 3, 3, 4, 1, 2, 2, 3, 2, 3, 3, 4, 2, 3, 3, 4, 3, 4, 4, 5, 1, 2, 2, 3, 2, 3, 3, 4, 2, 3, 3, 4, 3, 4, 4, 5, 2, 3, 3, 4, 3, 4, 4, 5, 3, 4, 4, 5, 4, 5, 5, 6, 1, 2, 2, 3, 2, 3, 3, 4, 2, 3, 3, 4, 3, 4, 4, 5, 2, 3, 3, 4, 3, 4, 4, 5, 3, 4, 4, 5, 4, 5, 5, 6, 2, 3, 3, 4, 3, 4, 4, 5, 3, 4, 4, 5, 4, 5, 5, 6, 3, 4, 4, 5, 4, 5, 5, 6, 4, 5, 5, 6, 5, 6, 6, 7, 1, 2, 2, 3, 2, 3, 3, 4, 2, 3, 3, 4, 3, 4, 4, 5, 2, 3, 3, 4, 3, 4, 4, 5, 3, 4, 4, 5, 4, 5, 5, 6, 2, 3, 3, 4, 3, 4, 4, 5, 3, 4, 4, 5, 4, 5, 5, 6, 3, 4, 4, 5, 4, 5, 5, 6, 4, 5, 5, 6, 5, 6, 6, 7, 2, 3, 3, 4, 3, 4, 4, 5, 3, 4, 4, 5, 4, 5, 5, 6, 3, 4, 4, 5, 4, 5, 5, 6, 4, 5, 5, 6, 5, 6, 6, 7, 3, 4, 4, 5, 4, 5, 5, 6, 4, 5, 5, 6, 5, 6, 6, 7, 4, 5, 5, 6, 5, 6, 6, 7, 5, 6, 6, 7, 6, 7, 7, 8]) (bAnd .u32 x0 255)).bind fun x_4 => some (w64 (u8 ((u8 ((u8 (x_1 + x_2)) + x_3)) + x_4)))
theorem math_bits_OnesCount32.calls (x0 : Int) (w : World) (r : Int) (h : math_bits_OnesCount32 x0 = some r) :
    Calls Try.prog 98 #[(.int .u32 x0)] w fun e w' => ∃ v, e = .returned v ∧ (v = (.int .i64 r) ∧ Mem w [] [] w') := by
  rw [math_bits_OnesCount32] at h
  refine enter (args := [(.int .u32 x0)]) Try.func98 rfl Try.ntmps98 (by kernel_rfl) (L := []) (W := []) (Mem.start w) ?_
  refine jc_seq (jc_region (qh [0] (qe (jx_then (jc_seq (qg [] 19 (qd [⟨0, 0, 0⟩,⟨1, 0, 0⟩,⟨3, 0, 0⟩,⟨4, 0, 0⟩,⟨5, 0, 0⟩,⟨8, 0, 0⟩,⟨9, 0, 0⟩,⟨10, 0, 0⟩,⟨13, 0, 0⟩,⟨14, 0, 0⟩] 9 [] ?_)))))))
  obtain ⟨x_1, hx_1, h⟩ := bd h
  refine qv 2 0 [] (fun w hm => six_run (s := (ByteArray.mk #[0, 1, 1, 2, 1, 2, 2, 3, 1, 2, 2, 3, 2, 3, 3, 4, 1, 2, 2, 3, 2, 3, 3, 4, 2, 3, 3, 4, 3, 4, 4, 5, 1, 2, 2, 3, 2, 3, 3, 4, 2, 3, 3, 4, 3, 4, 4, 5, 2, 3, 3, 4, 3, 4, 4, 5, 3, 4, 4, 5, 4, 5, 5, 6, 1, 2, 2, 3, 2, 3, 3, 4, 2, 3, 3, 4, 3, 4, 4, 5, 2, 3, 3, 4, 3, 4, 4, 5, 3, 4, 4, 5, 4, 5, 5, 6, 2, 3, 3, 4, 3, 4, 4, 5, 3, 4, 4, 5, 4, 5, 5, 6, 3, 4, 4, 5, 4, 5, 5, 6, 4, 5, 5, 6, 5, 6, 6, 7, 1, 2, 2, 3, 2, 3, 3, 4, 2, 3, 3, 4, 3, 4, 4, 5, 2, 3, 3, 4, 3, 4, 4, 5, 3, 4, 4, 5, 4, 5, 5, 6, 2, 3, 3, 4, 3, 4, 4, 5, 3, 4, 4, 5, 4, 5, 5, 6, 3, 4, 4, 5, 4, 5, 5, 6, 4, 5, 5, 6, 5, 6, 6, 7, 2, 3, 3, 4, 3, 4, 4, 5, 3, 4, 4, 5, 4, 5, 5, 6, 3, 4, 4, 5, 4, 5, 5, 6, 4, 5, 5, 6, 5, 6, 6, 7, 3, 4, 4, 5, 4, 5, 5, 6, 4, 5, 5, 6, 5, 6, 6, 7, 4, 5, 5, 6, 5, 6, 6, 7, 5, 6, 6, 7, 6, 7, 7, 8])) (j := (bShr .u32 x0 24)) (by kernel_rfl) hx_1) ?_
  obtain ⟨x_2, hx_2, h⟩ := bd h
  refine qv 6 0 [] (fun w hm => six_run (s := (ByteArray.mk #[0, 1, 1, 2, 1, 2, 2, 3, 1, 2, 2, 3, 2, 3, 3, 4, 1, 2, 2, 3, 2, 3, 3, 4, 2, 3, 3, 4, 3, 4, 4, 5, 1, 2, 2, 3, 2, 3, 3, 4, 2, 3, 3, 4, 3, 4, 4, 5, 2, 3, 3, 4, 3, 4, 4, 5, 3, 4, 4, 5, 4, 5, 5, 6, 1, 2, 2, 3, 2, 3, 3, 4, 2, 3, 3, 4, 3, 4, 4, 5, 2, 3, 3, 4, 3, 4, 4, 5, 3, 4, 4, 5, 4, 5, 5, 6, 2, 3, 3, 4, 3, 4, 4, 5, 3, 4, 4, 5, 4, 5, 5, 6, 3, 4, 4, 5, 4, 5, 5, 6, 4, 5, 5, 6, 5, 6, 6, 7, 1, 2, 2, 3, 2, 3, 3, 4, 2, 3, 3, 4, 3, 4, 4, 5, 2, 3, 3, 4, 3, 4, 4, 5, 3, 4, 4, 5, 4, 5, 5, 6, 2, 3, 3, 4, 3, 4, 4, 5, 3, 4, 4, 5, 4, 5, 5, 6, 3, 4, 4, 5, 4, 5, 5, 6, 4, 5, 5, 6, 5, 6, 6, 7, 2, 3, 3, 4, 3, 4, 4, 5, 3, 4, 4, 5, 4, 5, 5, 6, 3, 4, 4, 5, 4, 5, 5, 6, 4, 5, 5, 6, 5, 6, 6, 7, 3, 4, 4, 5, 4, 5, 5, 6, 4, 5, 5, 6, 5, 6, 6, 7, 4, 5, 5, 6, 5, 6, 6, 7, 5, 6, 6, 7, 6, 7, 7, 8])) (j := (bAnd .u32 (bShr .u32 x0 16) 255)) (by kernel_rfl) hx_2) (qd [⟨7, 0, 0⟩] 6 [] ?_)
  obtain ⟨x_3, hx_3, h⟩ := bd h
  refine qv 11 0 [] (fun w hm => six_run (s := (ByteArray.mk #[0, 1, 1, 2, 1, 2, 2, 3, 1, 2, 2, 3, 2, 3, 3, 4, 1, 2, 2, 3, 2, 3, 3, 4, 2, 3, 3, 4, 3, 4, 4, 5, 1, 2, 2, 3, 2, 3, 3, 4, 2, 3, 3, 4, 3, 4, 4, 5, 2, 3, 3, 4, 3, 4, 4, 5, 3, 4, 4, 5, 4, 5, 5, 6, 1, 2, 2, 3, 2, 3, 3, 4, 2, 3, 3, 4, 3, 4, 4, 5, 2, 3, 3, 4, 3, 4, 4, 5, 3, 4, 4, 5, 4, 5, 5, 6, 2, 3, 3, 4, 3, 4, 4, 5, 3, 4, 4, 5, 4, 5, 5, 6, 3, 4, 4, 5, 4, 5, 5, 6, 4, 5, 5, 6, 5, 6, 6, 7, 1, 2, 2, 3, 2, 3, 3, 4, 2, 3, 3, 4, 3, 4, 4, 5, 2, 3, 3, 4, 3, 4, 4, 5, 3, 4, 4, 5, 4, 5, 5, 6, 2, 3, 3, 4, 3, 4, 4, 5, 3, 4, 4, 5, 4, 5, 5, 6, 3, 4, 4, 5, 4, 5, 5, 6, 4, 5, 5, 6, 5, 6, 6, 7, 2, 3, 3, 4, 3, 4, 4, 5, 3, 4, 4, 5, 4, 5, 5, 6, 3, 4, 4, 5, 4, 5, 5, 6, 4, 5, 5, 6, 5, 6, 6, 7, 3, 4, 4, 5, 4, 5, 5, 6, 4, 5, 5, 6, 5, 6, 6, 7, 4, 5, 5, 6, 5, 6, 6, 7, 5, 6, 6, 7, 6, 7, 7, 8])) (j := (bAnd .u32 (bShr .u32 x0 8) 255)) (by kernel_rfl) hx_3) (qd [⟨12, 0, 0⟩] 4 [] ?_)
  obtain ⟨x_4, hx_4, h⟩ := bd h
  refine qv 15 0 [] (fun w hm => six_run (s := (ByteArray.mk #[0, 1, 1, 2, 1, 2, 2, 3, 1, 2, 2, 3, 2, 3, 3, 4, 1, 2, 2, 3, 2, 3, 3, 4, 2, 3, 3, 4, 3, 4, 4, 5, 1, 2, 2, 3, 2, 3, 3, 4, 2, 3, 3, 4, 3, 4, 4, 5, 2, 3, 3, 4, 3, 4, 4, 5, 3, 4, 4, 5, 4, 5, 5, 6, 1, 2, 2, 3, 2, 3, 3, 4, 2, 3, 3, 4, 3, 4, 4, 5, 2, 3, 3, 4, 3, 4, 4, 5, 3, 4, 4, 5, 4, 5, 5, 6, 2, 3, 3, 4, 3, 4, 4, 5, 3, 4, 4, 5, 4, 5, 5, 6, 3, 4, 4, 5, 4, 5, 5, 6, 4, 5, 5, 6, 5, 6, 6, 7, 1, 2, 2, 3, 2, 3, 3, 4, 2, 3, 3, 4, 3, 4, 4, 5, 2, 3, 3, 4, 3, 4, 4, 5, 3, 4, 4, 5, 4, 5, 5, 6, 2, 3, 3, 4, 3, 4, 4, 5, 3, 4, 4, 5, 4, 5, 5, 6, 3, 4, 4, 5, 4, 5, 5, 6, 4, 5, 5, 6, 5, 6, 6, 7, 2, 3, 3, 4, 3, 4, 4, 5, 3, 4, 4, 5, 4, 5, 5, 6, 3, 4, 4, 5, 4, 5, 5, 6, 4, 5, 5, 6, 5, 6, 6, 7, 3, 4, 4, 5, 4, 5, 5, 6, 4, 5, 5, 6, 5, 6, 6, 7, 4, 5, 5, 6, 5, 6, 6, 7, 5, 6, 6, 7, 6, 7, 7, 8])) (j := (bAnd .u32 x0 255)) (by kernel_rfl) hx_4) (qd [⟨16, 0, 0⟩,⟨17, 0, 0⟩,⟨18, 0, 0⟩] 0 [] (qz (jx_then (jc_ret ?_))))
  obtain rfl := Option.some.inj h
  exact qr [] (fun w hm => ⟨rfl, hm.pk []⟩)
/-! ### impl.countBits -/
def impl_countBits (n0 : Int) : Option (Int) := (math_bits_OnesCount32 n0).bind fun t_1 => some t_1
theorem impl_countBits.calls (n0 : Int) (w : World) (r : Int) (h : impl_countBits n0 = some r) :
    Calls Try.prog 93 #[(.int .u32 n0)] w fun e w' => ∃ v, e = .returned v ∧ (v = (.int .i64 r) ∧ Mem w [] [] w') := by
  rw [impl_countBits] at h
  refine enter (args := [(.int .u32 n0)]) Try.func93 rfl Try.ntmps93 (by kernel_rfl) (L := []) (W := []) (Mem.start w) ?_
  refine jc_seq (jc_region (qh [0] (qe (jx_then (jc_seq (jc_region (qh [0] ?_)))))))
  obtain ⟨t_1, ht_1, h⟩ := bd h
  refine tO (pc 0 (fun w hm => math_bits_OnesCount32.calls n0 w _ ht_1) ?_)
  rintro w v w' hm ⟨rfl, hm'⟩
  refine ⟨_, hm.app hm', jkO ?_⟩
  clear hm hm'
  refine qh [0] (qe (jx_then (jc_ret ?_)))
  obtain rfl := Option.some.inj h
  exact qr [] (fun w hm => ⟨rfl, hm.pk []⟩)
/-! ### (impl.Drum).count -/
def impl_Drum_count.k_2 (i_1 : Int) : Option (Int) := some i_1
def impl_Drum_count.l_5 (d0 : Arr 96 Int) : (Int × Int) → Option ((Int × Int) ⊕ (Int))
  | (i_3, i_4) => (if (decide (i_4 < 96)) = true then (ix d0.1 i_4).bind fun x_7 => (impl_countBits x_7).bind fun t_8 => some (.inl ((w64 (i_3 + t_8)), (w64 (i_4 + 1)))) else some (.inr i_3))
def impl_Drum_count (d0 : Arr 96 Int) : Option (Int) := (loop (impl_Drum_count.l_5 d0) (0, 0)).bind fun t_6 => impl_Drum_count.k_2 t_6
theorem impl_Drum_count.calls (d0 : Arr 96 Int) (w : World) (r : Int) (h : impl_Drum_count d0 = some r) :
    Calls Try.prog 83 #[(.agg (row encU32 d0.1 []).toArray)] w fun e w' => ∃ v, e = .returned v ∧ (v = (.int .i64 r) ∧ Mem w [] [] w') := by
  rw [impl_Drum_count] at h
  refine enter (args := [(.agg (row encU32 d0.1 []).toArray)]) Try.func83 rfl Try.ntmps83 (by kernel_rfl) (L := []) (W := []) (Mem.start w) ?_
  refine jc_seq (jc_region (tO (qa 0 (fun b_1 => jkO (qh [0] (qe (jx_then (jc_seq (jc_region (qh [0] (qe (jx_then (jc_seq (jc_seq (jc_region (tO (p_ldA 0 0 b_1 96 1 58 encU32 d0 (by kernel_rfl) (by kernel_rfl) (by kernel_rfl) encU32_len (by kernel_rfl) (jkO (qh [0] (qe (jx_then (jc_meet (fun (j : Int) => match j with | i_1 => impl_Drum_count.k_2 i_1 = some r) (fun (j : Int) => match j with | i_1 => [(2, [], (.int .i64 0)), (3, [], (.int .i64 i_1))]) (fun (j : Int) => match j with | i_1 => [⟨(some b_1), 58, row encU32 d0.1 []⟩]) ?_ ?_))))))))))))))))))))))
  ·refine jc_block ?_
   obtain ⟨t_6, ht_65, hr_58⟩ := bd h
   refine jc_loop (fun (s : Int × Int) (x : Unit) => match s, x with | ⟨i_3, i_4⟩, _ => True) (fun (s : Int × Int) (x : Unit) => match s, x with | ⟨i_3, i_4⟩, _ => [(2, [], (.int .i64 0)), (3, [], (.int .i64 i_3)), (6, [], (.agg (row encU32 d0.1 []).toArray)), (7, [], (.int .i64 i_4))]) (fun (s : Int × Int) (x : Unit) => match s, x with | ⟨i_3, i_4⟩, _ => [⟨(some b_1), 58, row encU32 d0.1 []⟩]) ht_65 () trivial (by kernel_rfl) [0] (by kernel_rfl) (by kernel_rfl) ?_
   rintro ⟨i_3, i_4⟩ _ y_59 _ h
   rw [impl_Drum_count.l_5] at h
   refine jc_seq (jc_region (qh [0] (qe (jx_then (jc_seq (qi h (fun h => ?_) (fun h => ?_)))))))
   ·refine jc_skip (jx_then (jc_seq (jc_block (jc_seq (jc_region ?_)))))
    obtain ⟨x_7, hx_62, h⟩ := bd h
    refine tO (p_ixA 0 encU32 (fun x => (.int .u32 x)) d0 i_4 (by kernel_rfl) (by kernel_rfl) (fun _ => rfl) hx_62 (jkO (qh [0] (qe (jx_then (jc_region (qh [0,0] ?_)))))))
    obtain ⟨t_8, ht_63, h⟩ := bd h
    refine tO (pc 0 (fun w hm => impl_countBits.calls x_7 w _ ht_63) ?_)
    rintro w v w' hm ⟨rfl, hm'⟩
    refine ⟨_, hm.app hm', jkO ?_⟩
    clear hm hm'
    exact qh [0,0] (qe (jx_inn (jx_then (jc_region (qh [0,0] (qe (qb ((w64 (i_3 + t_8)), (w64 (i_4 + 1))) () h trivial [0])))))))
   ·refine jc_exit (jx_thenx (jx_leave i_3 (Option.some.inj h).symm (fun e_64 => ?_)))
    subst e_64
    exact jx_ine (qm i_3 hr_58 [0])
  ·rintro i_1 h
   replace h : impl_Drum_count.k_2 i_1 = some r := h
   rw [impl_Drum_count.k_2] at h
   refine jx_then (jc_seq (jc_region (qh [0,0] (qe (jx_then (jc_ret ?_))))))
   obtain rfl := Option.some.inj h
   exact qr [] (fun w hm => ⟨rfl, hm.pk []⟩)
/-! ### impl.cost -/
def impl_cost (a0 : Arr 96 Int) (b1 : Arr 96 Int) : Option (Int) := (impl_Drum_less a0 b1).bind fun t_1 => (impl_Drum_count t_1).bind fun t_2 => (impl_Drum_less b1 a0).bind fun t_3 => (impl_Drum_count t_3).bind fun t_4 => some (w64 (t_2 + t_4))
theorem impl_cost.calls (a0 : Arr 96 Int) (b1 : Arr 96 Int) (w : World) (r : Int) (h : impl_cost a0 b1 = some r) :
    Calls Try.prog 63 #[(.agg (row encU32 a0.1 []).toArray), (.agg (row encU32 b1.1 []).toArray)] w fun e w' => ∃ v, e = .returned v ∧ (v = (.int .i64 r) ∧ Mem w [] [] w') := by
  rw [impl_cost] at h
  refine enter (args := [(.agg (row encU32 a0.1 []).toArray), (.agg (row encU32 b1.1 []).toArray)]) Try.func63 rfl Try.ntmps63 (by kernel_rfl) (L := []) (W := []) (Mem.start w) ?_
  refine jc_seq (jc_region (tO (qa 0 (fun b_1 => jkO (tO (qa 0 (fun b_2 => jkO (qh [0] (qe (jx_then (jc_seq (qg [⟨(some b_1), 58, row encU32 a0.1 []⟩, ⟨(some b_2), 58, row encU32 b1.1 []⟩] 10 (qv 0 0 [0, 1] (fun w hm => ld_run (b := b_1) (off := 0) (s := 96) (agg := true) (vs := row encU32 a0.1 []) (by kernel_rfl) ((row_len encU32_len a0).trans rfl) (.inl rfl) (hm.all (hh := 0) (T := 58) (by kernel_rfl))) (qv 1 0 [0, 1] (fun w hm => ld_run (b := b_2) (off := 0) (s := 96) (agg := true) (vs := row encU32 b1.1 []) (by kernel_rfl) ((row_len encU32_len b1).trans rfl) (.inl rfl) (hm.all (hh := 1) (T := 58) (by kernel_rfl))) (qv 4 0 [0, 1] (fun w hm => ld_run (b := b_2) (off := 0) (s := 96) (agg := true) (vs := row encU32 b1.1 []) (by kernel_rfl) ((row_len encU32_len b1).trans rfl) (.inl rfl) (hm.all (hh := 1) (T := 58) (by kernel_rfl))) (qv 5 0 [0, 1] (fun w hm => ld_run (b := b_1) (off := 0) (s := 96) (agg := true) (vs := row encU32 a0.1 []) (by kernel_rfl) ((row_len encU32_len a0).trans rfl) (.inl rfl) (hm.all (hh := 0) (T := 58) (by kernel_rfl))) ?_))))))))))))))))
  obtain ⟨t_1, ht_3, h⟩ := bd h
  refine tD 2 (pc 0 (fun w hm => impl_Drum_less.calls a0 b1 w _ ht_3) ?_)
  rintro w v w' hm ⟨rfl, hm'⟩
  refine ⟨_, hm.app hm', kD [0, 1] ?_⟩
  clear hm hm'
  obtain ⟨t_2, ht_4, h⟩ := bd h
  refine tD 3 (pc 0 (fun w hm => impl_Drum_count.calls t_1 w _ ht_4) ?_)
  rintro w v w' hm ⟨rfl, hm'⟩
  refine ⟨_, hm.app hm', kD [0, 1] ?_⟩
  clear hm hm'
  obtain ⟨t_3, ht_5, h⟩ := bd h
  refine tD 6 (pc 0 (fun w hm => impl_Drum_less.calls b1 a0 w _ ht_5) ?_)
  rintro w v w' hm ⟨rfl, hm'⟩
  refine ⟨_, hm.app hm', kD [0, 1] ?_⟩
  clear hm hm'
  obtain ⟨t_4, ht_6, h⟩ := bd h
  refine tD 7 (pc 0 (fun w hm => impl_Drum_count.calls t_3 w _ ht_6) ?_)
  rintro w v w' hm ⟨rfl, hm'⟩
  refine ⟨_, hm.app hm', kD [0, 1] ?_⟩
  clear hm hm'
  refine qd [⟨8, 0, 0⟩,⟨9, 0, 0⟩] 0 [0, 1] (qz (jx_then (jc_ret ?_)))
  obtain rfl := Option.some.inj h
  exact qr [] (fun w hm => ⟨rfl, hm.pk []⟩)
/-! ### impl.costs -/
def impl_costs.k_1 (xt_2165 : List (List Int)) : Option ((List (List Int))) := some xt_2165
def impl_costs.k_7 (xt_2647 : List (List Int)) (i_2 : Int) (xs_6 : List Int) : Option (((List (List Int)) × Int) ⊕ ((List (List Int)))) := (if xt_2647.length + 1 ≤ 4294967296 then some (.inl ((xt_2647 ++ [xs_6]), (w64 (i_2 + 1)))) else none)
def impl_costs.l_10 (list0 : List (Arr 96 Int)) (x_5 : Arr 96 Int) : ((List Int) × Int) → Option (((List Int) × Int) ⊕ ((List Int)))
  | (xs_8, i_9) => (if (decide (i_9 < (list0.length : Int))) = true then (ix list0 i_9).bind fun x_12 => (impl_cost x_5 x_12).bind fun t_13 => (if xs_8.length + ([t_13] : List Int).length ≤ 4294967296 then some (.inl ((xs_8 ++ ([t_13] : List Int)), (w64 (i_9 + 1)))) else none) else some (.inr xs_8))
def impl_costs.l_3 (list0 : List (Arr 96 Int)) : ((List (List Int)) × Int) → Option (((List (List Int)) × Int) ⊕ ((List (List Int))))
  | (xt_2647, i_2) => (if (decide (i_2 < (list0.length : Int))) = true then (ix list0 i_2).bind fun x_5 => (loop (impl_costs.l_10 list0 x_5) (([] : List Int), 0)).bind fun t_11 => impl_costs.k_7 xt_2647 i_2 t_11 else some (.inr xt_2647))
def impl_costs (list0 : List (Arr 96 Int)) : Option ((List (List Int))) := (loop (impl_costs.l_3 list0) (([] : List (List Int)), 0)).bind fun t_4 => impl_costs.k_1 t_4
theorem impl_costs.calls (list0 : List (Arr 96 Int)) (w : World) (r : (List (List Int))) {A_a : Option Addr} {A_an : Nat} (A_c : Nat) (A_h : Rw w A_a 96 encA96U32 list0) (A_hn : list0.length = A_an) (h : impl_costs list0 = some r) :
    Calls Try.prog 30 #[(.slice A_a A_an A_c)] w fun e w' => ∃ v, e = .returned v ∧ (∃ (o0 : Option Nat) (c0 : Nat) (s0 : List Value) (n0 : Nat) (h0 : List Hd), InP h0 r ∧ h0.length = n0 ∧ (o0 ≠ none → n0 ≤ c0 ∧ s0.length = (c0 - n0) * 1) ∧ (o0 = none → h0 = [] ∧ c0 = 0) ∧ v = .slice (o0.map fun b => ⟨b, 0, none⟩) n0 c0 ∧ Mem w [] [⟨o0, 34, row encHd h0 s0⟩, ⟨none, CLU, cluC encI64 h0 r⟩] w') := by
  subst A_hn
  rw [impl_costs] at h
  refine enter (args := [(.slice A_a list0.length A_c)]) Try.func30 rfl Try.ntmps30 (by kernel_rfl) (L := []) (W := []) (Mem.start w) ?_
  refine jc_seq (jc_region (qh [0] (qe (jx_then (jc_seq (jc_region (tO (qa 0 (fun b_1 => jk_clu encI64 (jkO (qh [0] (qe (jx_then (jc_seq (jc_seq (jc_region (qh [0,0,0] (qe (jx_then (jc_meet (fun (j : (List (List Int)) × (List Hd) × (Option Nat) × Nat × (List Value) × Nat) => match j with | ⟨xt_2165, hh_2166, o_2167, cap_2168, sp_2169, n_2170⟩ => impl_costs.k_1 xt_2165 = some r ∧ (hh_2166.length = n_2170) ∧ ((o_2167 ≠ none → n_2170 ≤ cap_2168 ∧ sp_2169.length = (cap_2168 - n_2170) * 1)) ∧ ((o_2167 = none → hh_2166 = [] ∧ cap_2168 = 0)) ∧ (InP hh_2166 xt_2165)) (fun (j : (List (List Int)) × (List Hd) × (Option Nat) × Nat × (List Value) × Nat) => match j with | ⟨xt_2165, hh_2166, o_2167, cap_2168, sp_2169, n_2170⟩ => [(2, [], (.slice none 0 0)), (3, [], (.slice (o_2167.map fun b => ⟨b, 0, none⟩) n_2170 cap_2168))]) (fun (j : (List (List Int)) × (List Hd) × (Option Nat) × Nat × (List Value) × Nat) => match j with | ⟨xt_2165, hh_2166, o_2167, cap_2168, sp_2169, n_2170⟩ => [⟨o_2167, 34, row encHd hh_2166 sp_2169⟩, ⟨none, CLU, cluC encI64 hh_2166 xt_2165⟩]) ?_ ?_))))))))))))))))))))
  ·refine jc_block ?_
   obtain ⟨t_4, ht_2891, hr_2656⟩ := bd h
   refine jc_loop (fun (s : (List (List Int)) × Int) (x : (List Hd) × (Option Nat) × Nat × (List Value) × Nat) => match s, x with | ⟨xt_2647, i_2⟩, ⟨hh_2648, o_2649, cap_2650, sp_2651, n_2652⟩ => (hh_2648.length = n_2652) ∧ ((o_2649 ≠ none → n_2652 ≤ cap_2650 ∧ sp_2651.length = (cap_2650 - n_2652) * 1)) ∧ ((o_2649 = none → hh_2648 = [] ∧ cap_2650 = 0)) ∧ (InP hh_2648 xt_2647)) (fun (s : (List (List Int)) × Int) (x : (List Hd) × (Option Nat) × Nat × (List Value) × Nat) => match s, x with | ⟨xt_2647, i_2⟩, ⟨hh_2648, o_2649, cap_2650, sp_2651, n_2652⟩ => [(0, [], (.slice A_a list0.length A_c)), (2, [], (.slice none 0 0)), (3, [], (.slice (o_2649.map fun b => ⟨b, 0, none⟩) n_2652 cap_2650)), (10, [], (.slice A_a list0.length A_c)), (11, [], (.int .i64 (list0.length : Int))), (12, [], (.int .i64 i_2))]) (fun (s : (List (List Int)) × Int) (x : (List Hd) × (Option Nat) × Nat × (List Value) × Nat) => match s, x with | ⟨xt_2647, i_2⟩, ⟨hh_2648, o_2649, cap_2650, sp_2651, n_2652⟩ => [⟨o_2649, 34, row encHd hh_2648 sp_2651⟩, ⟨none, CLU, cluC encI64 hh_2648 xt_2647⟩]) ht_2891 ⟨([] : List Hd), (some b_1), 0, [], 0⟩ ⟨rfl, (fun _ => ⟨Nat.le_refl _, by simp⟩), (fun e => nomatch e), InP.nil⟩ (by kernel_rfl) [0, 1] (by kernel_rfl) (by kernel_rfl) ?_
   rintro ⟨xt_2647, i_2⟩ ⟨hh_2648, o_2649, cap_2650, sp_2651, n_2652⟩ y_2657 ⟨rfl, hs_2653, ho_2654, hI_2655⟩ h
   rw [impl_costs.l_3] at h
   refine jc_seq (jc_region (qh [0] (qe (jx_then (jc_seq (qi h (fun h => ?_) (fun h => ?_)))))))
   ·refine jc_skip (jx_then (jc_seq (jc_block (jc_seq (jc_region ?_)))))
    obtain ⟨x_5, hx_2660, h⟩ := bd h
    refine tO (qx 0 A_a 96 hx_2660 rfl (A_h.sp hx_2660) (jkO (tO (p_ldx 0 (aB A_a) (aO A_a + i_2.toNat * 96) (encA96U32 x_5) 96 (by kernel_rfl) (by kernel_rfl) (encA96U32_len x_5) (fun w hm => ((hm.xr A_h).at hx_2660)) (jkO (tO (qa 0 (fun b_2661 => jkO (tO (p_sA 0 2 b_2661 96 1 58 encU32 (Arr.rep 96 0) x_5 (by kernel_rfl) (by kernel_rfl) (by kernel_rfl) encU32_len encU32_cell (by kernel_rfl) (jkO (qe (jx_then (jc_seq (jc_region (tO (qa 0 (fun b_2662 => jkO (qh [0] (qe (jx_then (jc_seq (jc_seq (jc_region (qh [0,0,0] (qe (jx_then (jc_meet (fun (j : (List Int) × (Option Nat) × Nat × (List Value) × Nat) => match j with | ⟨xs_6, o_2825, cap_2826, sp_2827, n_2828⟩ => impl_costs.k_7 xt_2647 i_2 xs_6 = some y_2657 ∧ (xs_6.length = n_2828) ∧ ((o_2825 ≠ none → n_2828 ≤ cap_2826 ∧ sp_2827.length = (cap_2826 - n_2828) * 1)) ∧ ((o_2825 = none → xs_6 = [] ∧ cap_2826 = 0))) (fun (j : (List Int) × (Option Nat) × Nat × (List Value) × Nat) => match j with | ⟨xs_6, o_2825, cap_2826, sp_2827, n_2828⟩ => [(0, [], (.slice A_a list0.length A_c)), (2, [], (.slice none 0 0)), (3, [], (.slice (o_2649.map fun b => ⟨b, 0, none⟩) hh_2648.length cap_2650)), (6, [], (.slice (o_2825.map fun b => ⟨b, 0, none⟩) n_2828 cap_2826)), (10, [], (.slice A_a list0.length A_c)), (11, [], (.int .i64 (list0.length : Int))), (12, [], (.int .i64 i_2))]) (fun (j : (List Int) × (Option Nat) × Nat × (List Value) × Nat) => match j with | ⟨xs_6, o_2825, cap_2826, sp_2827, n_2828⟩ => [⟨o_2649, 34, row encHd hh_2648 sp_2651⟩, ⟨none, CLU, cluC encI64 hh_2648 xt_2647⟩, ⟨(some b_2661), 58, row encU32 x_5.1 []⟩, ⟨o_2825, 2, row encI64 xs_6 sp_2827⟩]) ?_ ?_))))))))))))))))))))))))))))
    ·refine jc_block ?_
     obtain ⟨t_11, ht_2889, hr_2874⟩ := bd h
     refine jc_loop (fun (s : (List Int) × Int) (x : (Option Nat) × Nat × (List Value) × Nat) => match s, x with | ⟨xs_8, i_9⟩, ⟨o_2868, cap_2869, sp_2870, n_2871⟩ => (xs_8.length = n_2871) ∧ ((o_2868 ≠ none → n_2871 ≤ cap_2869 ∧ sp_2870.length = (cap_2869 - n_2871) * 1)) ∧ ((o_2868 = none → xs_8 = [] ∧ cap_2869 = 0))) (fun (s : (List Int) × Int) (x : (Option Nat) × Nat × (List Value) × Nat) => match s, x with | ⟨xs_8, i_9⟩, ⟨o_2868, cap_2869, sp_2870, n_2871⟩ => [(0, [], (.slice A_a list0.length A_c)), (2, [], (.slice none 0 0)), (3, [], (.slice (o_2649.map fun b => ⟨b, 0, none⟩) hh_2648.length cap_2650)), (5, [], (.pointer (some ⟨b_2661, 0, none⟩))), (6, [], (.slice (o_2868.map fun b => ⟨b, 0, none⟩) n_2871 cap_2869)), (10, [], (.slice A_a list0.length A_c)), (11, [], (.int .i64 (list0.length : Int))), (12, [], (.int .i64 i_2)), (17, [], (.slice A_a list0.length A_c)), (18, [], (.int .i64 (list0.length : Int))), (19, [], (.int .i64 i_9))]) (fun (s : (List Int) × Int) (x : (Option Nat) × Nat × (List Value) × Nat) => match s, x with | ⟨xs_8, i_9⟩, ⟨o_2868, cap_2869, sp_2870, n_2871⟩ => [⟨o_2649, 34, row encHd hh_2648 sp_2651⟩, ⟨none, CLU, cluC encI64 hh_2648 xt_2647⟩, ⟨(some b_2661), 58, row encU32 x_5.1 []⟩, ⟨o_2868, 2, row encI64 xs_8 sp_2870⟩]) ht_2889 ⟨(some b_2662), 0, [], 0⟩ ⟨rfl, (fun _ => ⟨Nat.le_refl _, by simp⟩), (fun e => nomatch e)⟩ (by kernel_rfl) [0, 1, 2, 3] (by kernel_rfl) (by kernel_rfl) ?_
     rintro ⟨xs_8, i_9⟩ ⟨o_2868, cap_2869, sp_2870, n_2871⟩ y_2875 ⟨rfl, hs_2872, ho_2873⟩ h
     rw [impl_costs.l_10] at h
     refine jc_seq (jc_region (qh [0] (qe (jx_then (jc_seq (qi h (fun h => ?_) (fun h => ?_)))))))
     ·refine jc_skip (jx_then (jc_seq (jc_block (jc_seq (jc_region ?_)))))
      obtain ⟨x_12, hx_2878, h⟩ := bd h
      refine tO (qx 0 A_a 96 hx_2878 rfl (A_h.sp hx_2878) (jkO (tO (p_ldx 0 (aB A_a) (aO A_a + i_9.toNat * 96) (encA96U32 x_12) 96 (by kernel_rfl) (by kernel_rfl) (encA96U32_len x_12) (fun w hm => ((hm.xr A_h).at hx_2878)) (jkO (tO (qa 0 (fun b_2879 => jkO (tO (p_sA 0 4 b_2879 96 1 58 encU32 (Arr.rep 96 0) x_12 (by kernel_rfl) (by kernel_rfl) (by kernel_rfl) encU32_len encU32_cell (by kernel_rfl) (jkO (qe (jx_then (jc_region (qh [0] (tO (p_ldA 0 2 b_2661 96 1 58 encU32 x_5 (by kernel_rfl) (by kernel_rfl) (by kernel_rfl) encU32_len (by kernel_rfl) (jkO (tO (p_ldA 0 4 b_2879 96 1 58 encU32 x_12 (by kernel_rfl) (by kernel_rfl) (by kernel_rfl) encU32_len (by kernel_rfl) (jkO ?_)))))))))))))))))))))
      obtain ⟨t_13, ht_2880, h⟩ := bd h
      refine tO (pc 0 (fun w hm => impl_cost.calls x_5 x_12 w _ ht_2880) ?_)
      rintro w v w' hm ⟨rfl, hm'⟩
      refine ⟨_, hm.app hm', jkO ?_⟩
      clear hm hm'
      refine tO (qa 0 (fun b_2881 => jkO ?_))
      obtain ⟨hg_2882, h⟩ := gd h
      exact tO (p_apn 0 3 o_2868 2 xs_8.length 1 cap_2869 1 8 (some ⟨b_2881, 0, none⟩) encI64 xs_8 ([t_13] : List Int) sp_2870 (.int .i64 0) rfl rfl (by kernel_rfl) (by kernel_rfl) (by kernel_rfl) encI64_len encI64_cell hs_2872 ho_2873 (fun w hm => (hm.ow 5 (some b_2881) 2 ([t_13] : List Int) [] (fun e => nomatch e) encI64_len)) hg_2882 (by kernel_rfl) (by kernel_rfl) (fun o_2883 cap_2884 sp_2885 hs_2886 ho_2887 => jkO (qh [0] (qe (jx_inn (jx_then (jc_region (qh [0,0] (qe (qb ((xs_8 ++ ([t_13] : List Int)), (w64 (i_9 + 1))) ⟨o_2883, cap_2884, sp_2885, (xs_8 ++ ([t_13] : List Int)).length⟩ h ⟨rfl, hs_2886, ho_2887⟩ [0, 1, 2, 3]))))))))))
     ·refine jc_exit (jx_thenx (jx_leave xs_8 (Option.some.inj h).symm (fun e_2888 => ?_)))
      subst e_2888
      exact jx_ine (qm ⟨xs_8, o_2868, cap_2869, sp_2870, xs_8.length⟩ ⟨hr_2874, rfl, hs_2872, ho_2873⟩ [0, 1, 2, 3])
    ·rintro ⟨xs_6, o_2825, cap_2826, sp_2827, n_2828⟩ ⟨h, rfl, hs_2829, ho_2830⟩
     replace h : impl_costs.k_7 xt_2647 i_2 xs_6 = some y_2657 := h
     rw [impl_costs.k_7] at h
     refine jx_then (jc_region (qh [0,0] (tO (qa 0 (fun b_2831 => jkO ?_)))))
     obtain ⟨hg_2832, h⟩ := gd h
     exact tO (p_apn 0 0 o_2649 34 hh_2648.length 1 cap_2650 1 24 (some ⟨b_2831, 0, none⟩) encHd hh_2648 [(Hd.mk (o_2825.map fun b => ⟨b, 0, none⟩) xs_6.length cap_2826)] sp_2651 (.slice none 0 0) rfl rfl (by kernel_rfl) (by kernel_rfl) (by kernel_rfl) encHd_len encHd_cell hs_2653 ho_2654 (fun w hm => (hm.ow 4 (some b_2831) 34 ([(Hd.mk (o_2825.map fun b => ⟨b, 0, none⟩) xs_6.length cap_2826)]) [] (fun e => nomatch e) encHd_len)) (tabbig hI_2655 hg_2832) (by kernel_rfl) (by kernel_rfl) (fun o_2833 cap_2834 sp_2835 hs_2836 ho_2837 => jk_frz (enc := encI64) (hs := hh_2648) (xss := xt_2647) (o := o_2825) (T := 2) (xs := xs_6) (sp := sp_2827) 1 3 xs_6.length cap_2826 hI_2655 (jkO (qh [0] (qe (jx_inn (jx_then (jc_region (qh [0,0] (qe (qb ((xt_2647 ++ [xs_6]), (w64 (i_2 + 1))) ⟨(hh_2648 ++ [(Hd.mk (o_2825.map fun b => ⟨b, 0, none⟩) xs_6.length cap_2826)]), o_2833, cap_2834, sp_2835, (hh_2648 ++ [(Hd.mk (o_2825.map fun b => ⟨b, 0, none⟩) xs_6.length cap_2826)]).length⟩ h ⟨rfl, hs_2836, ho_2837, (hI_2655.snoc (o := o_2825) rfl (fun e => (ho_2830 e).1))⟩ [0, 1])))))))))))
   ·refine jc_exit (jx_thenx (jx_leave xt_2647 (Option.some.inj h).symm (fun e_2890 => ?_)))
    subst e_2890
    exact jx_ine (qm ⟨xt_2647, hh_2648, o_2649, cap_2650, sp_2651, hh_2648.length⟩ ⟨hr_2656, rfl, hs_2653, ho_2654, hI_2655⟩ [0, 1])
  ·rintro ⟨xt_2165, hh_2166, o_2167, cap_2168, sp_2169, n_2170⟩ ⟨h, rfl, hs_2171, ho_2172, hI_2173⟩
   replace h : impl_costs.k_1 xt_2165 = some r := h
   rw [impl_costs.k_1] at h
   refine jx_then (jc_seq (jc_region (qh [0,0] (qe (jx_then (jc_ret ?_))))))
   obtain rfl := Option.some.inj h
   exact qr [] (fun w hm => ⟨o_2167, cap_2168, sp_2169, hh_2166.length, hh_2166, hI_2173, rfl, hs_2171, ho_2172, rfl, hm.pk [0, 1]⟩)
/-! ### impl.CostTable -/
def impl_CostTable (f0 : GFrame) (list1 : List (Arr 96 Int)) : Option ((List (List Int)) × Int) := (impl_listCode f0 list1).bind fun t_1 => (if (t_1 != 0) = true then some ([], t_1) else (impl_costs list1).bind fun t_2 => some (t_2, 0))
theorem impl_CostTable.calls (f0 : GFrame) (list1 : List (Arr 96 Int)) (w : World) (r : (List (List Int)) × Int) {C_a : Option Addr} {C_an : Nat} (C_c : Nat) (C_h : Rw w C_a 2 encGHammer f0.fHammers) (C_hn : f0.fHammers.length = C_an) {D_a : Option Addr} {D_an : Nat} (D_c : Nat) (D_h : Rw w D_a 96 encA96U32 list1) (D_hn : list1.length = D_an) (h : impl_CostTable f0 list1 = some r) :
    Calls Try.prog 7 #[(.agg #[(.int .i16 f0.fSteps), (.slice C_a C_an C_c)]), (.slice D_a D_an D_c)] w fun e w' => ∃ v, e = .returned v ∧ (∃ (o0 : Option Nat) (c0 : Nat) (s0 : List Value) (n0 : Nat) (h0 : List Hd), InP h0 r.1 ∧ h0.length = n0 ∧ (o0 ≠ none → n0 ≤ c0 ∧ s0.length = (c0 - n0) * 1) ∧ (o0 = none → h0 = [] ∧ c0 = 0) ∧ v = .tuple #[.slice (o0.map fun b => ⟨b, 0, none⟩) n0 c0, (.int .i64 r.2)] ∧ Mem w [] [⟨o0, 34, row encHd h0 s0⟩, ⟨none, CLU, cluC encI64 h0 r.1⟩] w') := by
  subst C_hn D_hn
  rw [impl_CostTable] at h
  refine enter (args := [(.agg #[(.int .i16 f0.fSteps), (.slice C_a f0.fHammers.length C_c)]), (.slice D_a list1.length D_c)]) Try.func7 rfl Try.ntmps7 (by kernel_rfl) (L := []) (W := []) (Mem.start w) ?_
  refine jc_seq (jc_region (tO (qa 0 (fun b_1 => jkO (qh [0,0] (qe (jx_then (jc_seq (jc_seq (jc_region (qh [0,0] ?_)))))))))))
  obtain ⟨t_1, ht_4, h⟩ := bd h
  refine tO (pc 0 (fun w hm => impl_listCode.calls f0 list1 w _ C_c (hm.xr C_h) rfl D_c (hm.xr D_h) rfl ht_4) ?_)
  rintro w v w' hm ⟨rfl, hm'⟩
  refine ⟨_, hm.app hm', jkO ?_⟩
  clear hm hm'
  refine qh [0] (qe (jx_then (jc_seq (jc_region (qh [0,0] (qe (jx_then (qi h (fun h => ?_) (fun h => ?_)))))))))
  ·refine jc_seq (jc_region (qh [0,0,0] (qe (jx_then (jc_ret (jx_thenr ?_))))))
   obtain rfl := Option.some.inj h
   exact jx_ghost 34 encHd (jx_clu encI64 (qr [] (fun w hm => ⟨none, 0, [], 0, [], InP.nil, rfl, (fun e => absurd rfl e), (fun _ => ⟨rfl, rfl⟩), rfl, hm.pk [1, 2]⟩)))
  ·refine jc_skip (jx_then (jc_seq (jc_region (qh [0] ?_))))
   obtain ⟨t_2, ht_6, h⟩ := bd h
   refine tO (pc 0 (fun w hm => impl_costs.calls list1 w _ D_c (hm.xr D_h) rfl ht_6) ?_)
   rintro w v w' hm ⟨o_7, cap_8, sp_9, _, hh_12, hI_13, rfl, hs_10, ho_11, rfl, hm'⟩
   refine ⟨_, hm.app hm', jkO ?_⟩
   clear hm hm'
   refine qh [0,0] (qe (jx_then (jc_ret ?_)))
   obtain rfl := Option.some.inj h
   exact qr [] (fun w hm => ⟨o_7, cap_8, sp_9, hh_12.length, hh_12, hI_13, rfl, hs_10, ho_11, rfl, hm.pk [1, 2]⟩)
/-! ### spec.l00In -/
def spec_l00In (n0 : Int) (low1 : Int) (high2 : Int) : Option (Bool) := some ((decide (n0 ≥ low1)) && (decide (n0 ≤ high2)))
theorem spec_l00In.calls (n0 : Int) (low1 : Int) (high2 : Int) (w : World) (r : Bool) (h : spec_l00In n0 low1 high2 = some r) :
    Calls Try.prog 68 #[(.int .i64 n0), (.int .i64 low1), (.int .i64 high2)] w fun e w' => ∃ v, e = .returned v ∧ (v = (.bool r) ∧ Mem w [] [] w') := by
  rw [spec_l00In] at h
  refine enter (args := [(.int .i64 n0), (.int .i64 low1), (.int .i64 high2)]) Try.func68 rfl Try.ntmps68 (by kernel_rfl) (L := []) (W := []) (Mem.start w) ?_
  refine jc_seq (jc_region (qh [0] (qe (jx_then (jc_seq (jc_region (qf [(0, 0), (0, 0), (0, 0), (0, 0), (0, 1), (0, 1), (0, 1), (0, 0), (0, 0)] (qe (jx_then (jc_ret ?_))))))))))
  obtain rfl := Option.some.inj h
  exact qr [] (fun w hm => ⟨rfl, hm.pk []⟩)
/-! ### spec.l00Min -/
def spec_l00Min (a0 : Int) (b1 : Int) : Option (Int) := (if (decide (a0 < b1)) = true then some a0 else some b1)
theorem spec_l00Min.calls (a0 : Int) (b1 : Int) (w : World) (r : Int) (h : spec_l00Min a0 b1 = some r) :
    Calls Try.prog 84 #[(.int .i64 a0), (.int .i64 b1)] w fun e w' => ∃ v, e = .returned v ∧ (v = (.int .i64 r) ∧ Mem w [] [] w') := by
  rw [spec_l00Min] at h
  refine enter (args := [(.int .i64 a0), (.int .i64 b1)]) Try.func84 rfl Try.ntmps84 (by kernel_rfl) (L := []) (W := []) (Mem.start w) ?_
  refine jc_seq (jc_region (qh [0] (qe (jx_then (jc_seq (jc_seq (jc_region (qh [0,0,0] (qe (jx_then (qi h (fun h => ?_) (fun h => ?_))))))))))))
  ·refine jc_seq (jc_region (qh [0,0] (qe (jx_then (jc_ret (jx_thenr ?_))))))
   obtain rfl := Option.some.inj h
   exact qr [] (fun w hm => ⟨rfl, hm.pk []⟩)
  ·refine jc_skip (jx_then (jc_seq (jc_region (qh [0,0] (qe (jx_then (jc_ret ?_)))))))
   obtain rfl := Option.some.inj h
   exact qr [] (fun w hm => ⟨rfl, hm.pk []⟩)
/-! ### spec.l02Frame -/
def spec_l02Frame.k_3 : Option (Bool) := some true
def spec_l02Frame.k_9 (i_4 : Int) (q_8 : Bool) : Option ((Int) ⊕ (Bool ⊕ Unit)) := (if q_8 = true then some (.inr (.inl false)) else some (.inl (w64 (i_4 + 1))))
def spec_l02Frame.l_5 (f0 : GFrame) : Int → Option ((Int) ⊕ (Bool ⊕ Unit))
  | i_4 => (if (decide (i_4 < (f0.fHammers.length : Int))) = true then (ix f0.fHammers i_4).bind fun x_7 => (spec_l00In (w64 x_7.fPitch) 0 47).bind fun t_10 => (if (!t_10) = true then spec_l02Frame.k_9 i_4 true else (spec_l00Min 20 (w64 f0.fSteps)).bind fun t_11 => (spec_l00In (w64 x_7.fReady) 1 t_11).bind fun t_12 => spec_l02Frame.k_9 i_4 (!t_12)) else some (.inr (.inr ())))
def spec_l02Frame.k_2 (f0 : GFrame) (q_1 : Bool) : Option (Bool) := (if q_1 = true then some false else (loop (spec_l02Frame.l_5 f0) 0).bind fun t_6 => match t_6 with | .inl p => some p | .inr p => spec_l02Frame.k_3)
def spec_l02Frame (f0 : GFrame) : Option (Bool) := (spec_l00In (w64 f0.fSteps) 2 96).bind fun t_13 => (if (!t_13) = true then spec_l02Frame.k_2 f0 true else (spec_l00In (f0.fHammers.length : Int) 1 24).bind fun t_14 => spec_l02Frame.k_2 f0 (!t_14))
theorem spec_l02Frame.calls (f0 : GFrame) (w : World) (r : Bool) {C_a : Option Addr} {C_an : Nat} (C_c : Nat) (C_h : Rw w C_a 2 encGHammer f0.fHammers) (C_hn : f0.fHammers.length = C_an) (A_b : Nat) (hm0 : Mem w (bs [some A_b]) [⟨some A_b, 27, [(.int .i16 f0.fSteps), (.slice C_a C_an C_c)]⟩] w) (C_ha : f0.fHammers ≠ [] → aB C_a ∉ bs [some A_b]) (h : spec_l02Frame f0 = some r) :
    Calls Try.prog 64 #[(.pointer (some ⟨A_b, 0, none⟩))] w fun e w' => ∃ v, e = .returned v ∧ (v = (.bool r) ∧ Mem w (bs [some A_b]) [⟨some A_b, 27, [(.int .i16 f0.fSteps), (.slice C_a C_an C_c)]⟩] w') := by
  subst C_hn
  rw [spec_l02Frame] at h
  refine enter (args := [(.pointer (some ⟨A_b, 0, none⟩))]) Try.func64 rfl Try.ntmps64 (by kernel_rfl) (L := [⟨some A_b, 27, [(.int .i16 f0.fSteps), (.slice C_a f0.fHammers.length C_c)]⟩]) (W := bs [some A_b]) hm0 ?_
  refine jc_seq (jc_region (qh [0] (qe (jx_then (jc_seq (jc_seq (jc_meet (fun (j : Bool) => match j with | q_1 => spec_l02Frame.k_2 f0 q_1 = some r) (fun (j : Bool) => match j with | q_1 => [(0, [], (.pointer (some ⟨A_b, 0, none⟩))), (2, [], (.bool false)), (20, [], (.bool q_1))]) (fun (j : Bool) => match j with | q_1 => [⟨some A_b, 27, [(.int .i16 f0.fSteps), (.slice C_a f0.fHammers.length C_c)]⟩]) ?_ ?_)))))))
  ·refine jc_region (qh [0,0,0,0,0] ?_)
   obtain ⟨t_13, ht_100, h⟩ := bd h
   refine tO (pc 0 (fun w hm => spec_l00In.calls (w64 f0.fSteps) 2 96 w _ ht_100) ?_)
   rintro w v w' hm ⟨rfl, hm'⟩
   refine ⟨_, hm.app hm', jkO ?_⟩
   clear hm hm'
   refine qf [(0, 0), (0, 0), (0, 1), (0, 1), (0, 1), (0, 1), (0, 1)] (qp 12 h (fun h => ?_) (fun h => ?_))
   ·exact qf [(0, 3), (0, 3), (0, 4)] (qe (qm true h [0]))
   ·obtain ⟨t_14, ht_102, h⟩ := bd h
    refine tO (pc 2 (fun w hm => spec_l00In.calls (f0.fHammers.length : Int) 1 24 w _ ht_102) ?_)
    rintro w v w' hm ⟨rfl, hm'⟩
    refine ⟨_, hm.app hm', jkO ?_⟩
    clear hm hm'
    exact qf [(0, 2), (0, 5)] (qe (qm (!t_14) h [0]))
  ·rintro q_1 h
   replace h : spec_l02Frame.k_2 f0 q_1 = some r := h
   rw [spec_l02Frame.k_2] at h
   refine jx_then (qi h (fun h => ?_) (fun h => ?_))
   ·refine jc_seq (jc_region (qh [0] (qe (jx_then (jc_ret (jx_thenr ?_))))))
    obtain rfl := Option.some.inj h
    exact qr [] (fun w hm => ⟨rfl, hm.pk [0]⟩)
   ·refine jc_skip (jx_then (jc_seq (jc_seq (jc_region (qh [0] (qe (jx_then (jc_meet (fun (_ : Unit) => spec_l02Frame.k_3 = some r) (fun (_ : Unit) => [(2, [], (.bool false))]) (fun (_ : Unit) => [⟨some A_b, 27, [(.int .i16 f0.fSteps), (.slice C_a f0.fHammers.length C_c)]⟩]) ?_ ?_))))))))
    ·refine jc_block ?_
     obtain ⟨t_6, ht_99, hr_82⟩ := bd h
     refine jc_loop (fun (s : Int) (x : Unit) => match s, x with | i_4, _ => True) (fun (s : Int) (x : Unit) => match s, x with | i_4, _ => [(0, [], (.pointer (some ⟨A_b, 0, none⟩))), (2, [], (.bool false)), (3, [], (.int .i64 i_4))]) (fun (s : Int) (x : Unit) => match s, x with | i_4, _ => [⟨some A_b, 27, [(.int .i16 f0.fSteps), (.slice C_a f0.fHammers.length C_c)]⟩]) ht_99 () trivial (by kernel_rfl) [0] (by kernel_rfl) (by kernel_rfl) ?_
     rintro i_4 _ y_83 _ h
     rw [spec_l02Frame.l_5] at h
     refine jc_seq (jc_seq (jc_region (qh [0,0,0,0,0,0,0] (qe (jx_then (qi h (fun h => ?_) (fun h => ?_)))))))
     ·refine jc_skip (jx_then (jc_seq (jc_block (jc_seq (jc_region (qh [0,0,0,0,0] ?_))))))
      obtain ⟨x_7, hx_86, h⟩ := bd h
      refine tO (qx 0 C_a 2 hx_86 rfl (C_h.sp hx_86) (jkO (tO (ql 0 true (fun w hm => ((hm.exRowW C_h C_ha).at hx_86)) (jkO (tO (qa 0 (fun b_87 => jkO (tO (qs 0 [1] (jkO (qe (jx_then (jc_seq (jc_meet (fun (j : Bool) => match j with | q_8 => spec_l02Frame.k_9 i_4 q_8 = some y_83) (fun (j : Bool) => match j with | q_8 => [(0, [], (.pointer (some ⟨A_b, 0, none⟩))), (2, [], (.bool false)), (3, [], (.int .i64 i_4)), (54, [], (.bool q_8))]) (fun (j : Bool) => match j with | q_8 => [⟨some A_b, 27, [(.int .i16 f0.fSteps), (.slice C_a f0.fHammers.length C_c)]⟩, ⟨some b_87, 92, [(.int .i8 x_7.fPitch), (.int .i8 x_7.fReady)]⟩]) ?_ ?_)))))))))))))))
      ·refine qg [⟨some A_b, 27, [(.int .i16 f0.fSteps), (.slice C_a f0.fHammers.length C_c)]⟩, ⟨some b_87, 92, [(.int .i8 x_7.fPitch), (.int .i8 x_7.fReady)]⟩] 18 (qd [⟨0, 0, 0⟩,⟨1, 1, 0⟩,⟨2, 0, 0⟩] 15 [0, 1] ?_)
       obtain ⟨t_10, ht_94, h⟩ := bd h
       refine tD 3 (pc 0 (fun w hm => spec_l00In.calls (w64 x_7.fPitch) 0 47 w _ ht_94) ?_)
       rintro w v w' hm ⟨rfl, hm'⟩
       refine ⟨_, hm.app hm', kD [0, 1] ?_⟩
       clear hm hm'
       refine qd [⟨4, 0, 0⟩,⟨5, 0, 0⟩,⟨6, 0, 1⟩,⟨7, 1, 1⟩,⟨8, 0, 1⟩,⟨9, 0, 1⟩,⟨10, 0, 1⟩,⟨11, 0, 1⟩,⟨12, 0, 1⟩,⟨13, 0, 1⟩] 4 [0, 1] (jd_split 42 (!t_10) (by kernel_rfl) (fun hc_95 => ?_) (fun hc_95 => ?_))
       ·replace h := ifT hc_95 h
        exact qd [⟨14, 0, 3⟩,⟨15, 0, 3⟩,⟨16, 0, 3⟩,⟨17, 0, 4⟩] 0 [0, 1] (qz (qm true h [0, 1]))
       ·replace h := ifF hc_95 h
        obtain ⟨t_11, ht_96, h⟩ := bd h
        refine tD 14 (pc 2 (fun w hm => spec_l00Min.calls 20 (w64 f0.fSteps) w _ ht_96) ?_)
        rintro w v w' hm ⟨rfl, hm'⟩
        refine ⟨_, hm.app hm', kD [0, 1] ?_⟩
        clear hm hm'
        obtain ⟨t_12, ht_97, h⟩ := bd h
        refine tD 15 (pc 2 (fun w hm => spec_l00In.calls (w64 x_7.fReady) 1 t_11 w _ ht_97) ?_)
        rintro w v w' hm ⟨rfl, hm'⟩
        refine ⟨_, hm.app hm', kD [0, 1] ?_⟩
        clear hm hm'
        exact qd [⟨16, 0, 2⟩,⟨17, 0, 5⟩] 0 [0, 1] (qz (qm (!t_12) h [0, 1]))
      ·rintro q_8 h
       replace h : spec_l02Frame.k_9 i_4 q_8 = some y_83 := h
       rw [spec_l02Frame.k_9] at h
       refine jx_then (qi h (fun h => ?_) (fun h => ?_))
       ·refine jc_seq (jc_region (qh [0] (qe (jx_then (jc_ret (jx_inr (jx_thenr (jx_leaver (.inl false) (Option.some.inj h).symm (fun e_93 => ?_)))))))))
        subst e_93
        refine jx_inr (jx_thenr (jx_thenr ?_))
        obtain rfl := Option.some.inj hr_82
        exact qr [] (fun w hm => ⟨rfl, hm.pk [0]⟩)
       ·exact jc_skip (jx_inn (jx_then (jc_region (qh [0,0,0] (qe (qb (w64 (i_4 + 1)) () h trivial [0]))))))
     ·refine jc_exit (jx_thenx (jx_leave (.inr ()) (Option.some.inj h).symm (fun e_98 => ?_)))
      subst e_98
      exact jx_ine (qm () hr_82 [0])
    ·rintro _ h
     replace h : spec_l02Frame.k_3 = some r := h
     rw [spec_l02Frame.k_3] at h
     refine jx_then (jc_seq (jc_region (qh [0] (qe (jx_then (jc_ret ?_))))))
     obtain rfl := Option.some.inj h
     exact qr [] (fun w hm => ⟨rfl, hm.pk [0]⟩)
/-! ### spec.l02Drum -/
def spec_l02Drum.k_1 : Option (Bool) := some true
def spec_l02Drum.k_6 (i_2 : Int) (q_5 : Bool) : Option ((Int) ⊕ (Bool ⊕ Unit)) := (if q_5 = true then some (.inr (.inl false)) else some (.inl (w64 (i_2 + 1))))
def spec_l02Drum.l_3 (f0 : GFrame) (d1 : Arr 96 Int) : Int → Option ((Int) ⊕ (Bool ⊕ Unit))
  | i_2 => (if (decide (i_2 < 96)) = true then (ix d1.1 i_2).bind fun x_7 => (if 0 ≤ (u64 (f0.fHammers.length : Int)) then (if ((bShr .u32 x_7 (u64 (f0.fHammers.length : Int))) != 0) = true then spec_l02Drum.k_6 i_2 true else (if (decide (i_2 ≥ (w64 f0.fSteps))) = true then (ix d1.1 i_2).bind fun x_8 => spec_l02Drum.k_6 i_2 (x_8 != 0) else spec_l02Drum.k_6 i_2 false)) else none) else some (.inr (.inr ())))
def spec_l02Drum (f0 : GFrame) (d1 : Arr 96 Int) : Option (Bool) := (loop (spec_l02Drum.l_3 f0 d1) 0).bind fun t_4 => match t_4 with | .inl p => some p | .inr p => spec_l02Drum.k_1
theorem spec_l02Drum.calls (f0 : GFrame) (d1 : Arr 96 Int) (w : World) (r : Bool) {C_a : Option Addr} {C_an : Nat} (C_c : Nat) (C_h : Rw w C_a 2 encGHammer f0.fHammers) (C_hn : f0.fHammers.length = C_an) {D_b D_q : Nat} (D_h : Rw w (some ⟨D_b, D_q, none⟩) 1 encU32 d1.1) (A_b : Nat) (hm0 : Mem w (bs [some A_b]) [⟨some A_b, 27, [(.int .i16 f0.fSteps), (.slice C_a C_an C_c)]⟩] w) (C_ha : f0.fHammers ≠ [] → aB C_a ∉ bs [some A_b]) (D_ha : d1.1 ≠ [] → aB (some ⟨D_b, D_q, none⟩) ∉ bs [some A_b]) (h : spec_l02Drum f0 d1 = some r) :
    Calls Try.prog 65 #[(.pointer (some ⟨A_b, 0, none⟩)), (.pointer (some ⟨D_b, D_q, none⟩))] w fun e w' => ∃ v, e = .returned v ∧ (v = (.bool r) ∧ Mem w (bs [some A_b]) [⟨some A_b, 27, [(.int .i16 f0.fSteps), (.slice C_a C_an C_c)]⟩] w') := by
  subst C_hn
  rw [spec_l02Drum] at h
  refine enter (args := [(.pointer (some ⟨A_b, 0, none⟩)), (.pointer (some ⟨D_b, D_q, none⟩))]) Try.func65 rfl Try.ntmps65 (by kernel_rfl) (L := [⟨some A_b, 27, [(.int .i16 f0.fSteps), (.slice C_a f0.fHammers.length C_c)]⟩]) (W := bs [some A_b]) hm0 ?_
  refine jc_seq (jc_region (qh [0] (qe (jx_then (jc_seq (jc_seq (jc_region (qh [0] (qe (jx_then (jc_meet (fun (_ : Unit) => spec_l02Drum.k_1 = some r) (fun (_ : Unit) => [(4, [], (.bool false))]) (fun (_ : Unit) => [⟨some A_b, 27, [(.int .i16 f0.fSteps), (.slice C_a f0.fHammers.length C_c)]⟩]) ?_ ?_)))))))))))
  ·refine jc_block ?_
   obtain ⟨t_4, ht_88, hr_71⟩ := bd h
   refine jc_loop (fun (s : Int) (x : Unit) => match s, x with | i_2, _ => True) (fun (s : Int) (x : Unit) => match s, x with | i_2, _ => [(0, [], (.pointer (some ⟨A_b, 0, none⟩))), (1, [], (.pointer (some ⟨D_b, D_q, none⟩))), (4, [], (.bool false)), (5, [], (.int .i64 i_2))]) (fun (s : Int) (x : Unit) => match s, x with | i_2, _ => [⟨some A_b, 27, [(.int .i16 f0.fSteps), (.slice C_a f0.fHammers.length C_c)]⟩]) ht_88 () trivial (by kernel_rfl) [0] (by kernel_rfl) (by kernel_rfl) ?_
   rintro i_2 _ y_72 _ h
   rw [spec_l02Drum.l_3] at h
   refine jc_seq (jc_seq (jc_region (qh [0,0] (qe (jx_then (qi h (fun h => ?_) (fun h => ?_)))))))
   ·refine jc_skip (jx_then (jc_seq (jc_block (jc_seq (jc_meet (fun (j : Bool) => match j with | q_5 => spec_l02Drum.k_6 i_2 q_5 = some y_72) (fun (j : Bool) => match j with | q_5 => [(0, [], (.pointer (some ⟨A_b, 0, none⟩))), (1, [], (.pointer (some ⟨D_b, D_q, none⟩))), (4, [], (.bool false)), (5, [], (.int .i64 i_2)), (39, [], (.bool q_5))]) (fun (j : Bool) => match j with | q_5 => [⟨some A_b, 27, [(.int .i16 f0.fSteps), (.slice C_a f0.fHammers.length C_c)]⟩]) ?_ ?_)))))
    ·refine qg [⟨some A_b, 27, [(.int .i16 f0.fSteps), (.slice C_a f0.fHammers.length C_c)]⟩] 30 (qd [⟨0, 0, 0⟩,⟨1, 0, 0⟩,⟨2, 0, 0⟩,⟨5, 0, 0⟩,⟨6, 0, 0⟩,⟨7, 0, 0⟩,⟨8, 0, 0⟩,⟨9, 0, 0⟩,⟨10, 0, 0⟩] 21 [0] ?_)
     obtain ⟨x_7, hx_82, h⟩ := bd h
     refine qv 3 0 [0] (fun w hm => idx_run (a := (some ⟨D_b, D_q, none⟩)) (len := 96) (s := 1) (j := i_2) (by kernel_rfl) (ix_some hx_82).1 (ltn hx_82 d1.2) (D_h.sp hx_82)) (qv 4 0 [0] (fun w hm => ld_run (b := aB (some ⟨D_b, D_q, none⟩)) (off := (aO (some ⟨D_b, D_q, none⟩) + i_2.toNat * 1)) (s := 1) (agg := false) (vs := (encU32 x_7)) (by kernel_rfl) (by kernel_rfl) (.inr rfl) ((hm.exRowW D_h D_ha).at hx_82)) ?_)
     obtain ⟨hg_83, h⟩ := gd h
     refine tD 11 (p_shr 0 .u32 x_7 .u64 (u64 (f0.fHammers.length : Int)) (by kernel_rfl) (by kernel_rfl) hg_83 (kD [0] (qd [⟨12, 0, 0⟩,⟨13, 0, 0⟩,⟨14, 0, 1⟩,⟨15, 0, 1⟩,⟨16, 0, 1⟩,⟨17, 0, 1⟩,⟨18, 0, 1⟩,⟨19, 0, 1⟩,⟨20, 0, 1⟩] 9 [0] (jd_split 23 ((bShr .u32 x_7 (u64 (f0.fHammers.length : Int))) != 0) (by kernel_rfl) (fun hc_84 => ?_) (fun hc_84 => ?_)))))
     ·replace h := ifT hc_84 h
      exact qd [⟨21, 0, 3⟩,⟨22, 0, 3⟩,⟨23, 0, 3⟩,⟨24, 0, 3⟩,⟨25, 0, 3⟩,⟨26, 0, 3⟩,⟨27, 0, 3⟩,⟨28, 0, 3⟩,⟨29, 0, 4⟩] 0 [0] (qz (qm true h [0]))
     ·replace h := ifF hc_84 h
      refine qd [⟨21, 0, 2⟩,⟨22, 0, 1⟩,⟨23, 0, 1⟩,⟨24, 0, 1⟩] 5 [0] (jd_split 31 (decide (i_2 ≥ (w64 f0.fSteps))) (by kernel_rfl) (fun hc_85 => ?_) (fun hc_85 => ?_))
      ·replace h := ifT hc_85 h
       obtain ⟨x_8, hx_86, h⟩ := bd h
       exact qv 25 2 [0] (fun w hm => idx_run (a := (some ⟨D_b, D_q, none⟩)) (len := 96) (s := 1) (j := i_2) (by kernel_rfl) (ix_some hx_86).1 (ltn hx_86 d1.2) (D_h.sp hx_86)) (qv 26 2 [0] (fun w hm => ld_run (b := aB (some ⟨D_b, D_q, none⟩)) (off := (aO (some ⟨D_b, D_q, none⟩) + i_2.toNat * 1)) (s := 1) (agg := false) (vs := (encU32 x_8)) (by kernel_rfl) (by kernel_rfl) (.inr rfl) ((hm.exRowW D_h D_ha).at hx_86)) (qd [⟨27, 0, 2⟩,⟨28, 0, 4⟩,⟨29, 0, 5⟩] 0 [0] (qz (qm (x_8 != 0) h [0]))))
      ·replace h := ifF hc_85 h
       exact qd [⟨25, 0, 3⟩,⟨26, 0, 3⟩,⟨27, 0, 3⟩,⟨28, 0, 5⟩,⟨29, 0, 5⟩] 0 [0] (qz (qm false h [0]))
    ·rintro q_5 h
     replace h : spec_l02Drum.k_6 i_2 q_5 = some y_72 := h
     rw [spec_l02Drum.k_6] at h
     refine jx_then (qi h (fun h => ?_) (fun h => ?_))
     ·refine jc_seq (jc_region (qh [0] (qe (jx_then (jc_ret (jx_inr (jx_thenr (jx_leaver (.inl false) (Option.some.inj h).symm (fun e_81 => ?_)))))))))
      subst e_81
      refine jx_inr (jx_thenr (jx_thenr ?_))
      obtain rfl := Option.some.inj hr_71
      exact qr [] (fun w hm => ⟨rfl, hm.pk [0]⟩)
     ·exact jc_skip (jx_inn (jx_then (jc_region (qh [0,0,0] (qe (qb (w64 (i_2 + 1)) () h trivial [0]))))))
   ·refine jc_exit (jx_thenx (jx_leave (.inr ()) (Option.some.inj h).symm (fun e_87 => ?_)))
    subst e_87
    exact jx_ine (qm () hr_71 [0])
  ·rintro _ h
   replace h : spec_l02Drum.k_1 = some r := h
   rw [spec_l02Drum.k_1] at h
   refine jx_then (jc_seq (jc_region (qh [0] (qe (jx_then (jc_ret ?_))))))
   obtain rfl := Option.some.inj h
   exact qr [] (fun w hm => ⟨rfl, hm.pk [0]⟩)
/-! ### spec.l05Asked -/
def spec_l05Asked.k_2 (list1 : List (Arr 96 Int)) : Option (Int) := (if (decide ((list1.length : Int) > 8)) = true then some 3 else some 0)
def spec_l05Asked.l_4 (f0 : GFrame) (list1 : List (Arr 96 Int)) : Int → Option ((Int) ⊕ (Int ⊕ Unit))
  | i_3 => (if (decide (i_3 < (list1.length : Int))) = true then (ix list1 i_3).bind fun x_6 => (spec_l02Drum f0 x_6).bind fun t_7 => (if (!t_7) = true then some (.inr (.inl 1)) else some (.inl (w64 (i_3 + 1)))) else some (.inr (.inr ())))
def spec_l05Asked (f0 : GFrame) (list1 : List (Arr 96 Int)) : Option (Int) := (spec_l02Frame f0).bind fun t_1 => (if (!t_1) = true then some 1 else (loop (spec_l05Asked.l_4 f0 list1) 0).bind fun t_5 => match t_5 with | .inl p => some p | .inr p => spec_l05Asked.k_2 list1)
theorem spec_l05Asked.calls (f0 : GFrame) (list1 : List (Arr 96 Int)) (w : World) (r : Int) {C_a : Option Addr} {C_an : Nat} (C_c : Nat) (C_h : Rw w C_a 2 encGHammer f0.fHammers) (C_hn : f0.fHammers.length = C_an) {D_a : Option Addr} {D_an : Nat} (D_c : Nat) (D_h : Rw w D_a 96 encA96U32 list1) (D_hn : list1.length = D_an) (A_b : Nat) (hm0 : Mem w (bs [some A_b]) [⟨some A_b, 27, [(.int .i16 f0.fSteps), (.slice C_a C_an C_c)]⟩] w) (C_ha : f0.fHammers ≠ [] → aB C_a ∉ bs [some A_b]) (D_ha : list1 ≠ [] → aB D_a ∉ bs [some A_b]) (h : spec_l05Asked f0 list1 = some r) :
    Calls Try.prog 31 #[(.pointer (some ⟨A_b, 0, none⟩)), (.slice D_a D_an D_c)] w fun e w' => ∃ v, e = .returned v ∧ (v = (.int .i64 r) ∧ Mem w (bs [some A_b]) [⟨some A_b, 27, [(.int .i16 f0.fSteps), (.slice C_a C_an C_c)]⟩] w') := by
  subst C_hn D_hn
  rw [spec_l05Asked] at h
  refine enter (args := [(.pointer (some ⟨A_b, 0, none⟩)), (.slice D_a list1.length D_c)]) Try.func31 rfl Try.ntmps31 (by kernel_rfl) (L := [⟨some A_b, 27, [(.int .i16 f0.fSteps), (.slice C_a f0.fHammers.length C_c)]⟩]) (W := bs [some A_b]) hm0 ?_
  refine jc_seq (jc_region (qh [0] (qe (jx_then (jc_seq (jc_seq (jc_region (qh [0] ?_))))))))
  obtain ⟨t_1, ht_3, h⟩ := bd h
  refine tO (pc 0 (fun w hm => spec_l02Frame.calls f0 w _ C_c (hm.exRowW C_h C_ha) rfl A_b (hm.pass (N := [⟨some A_b, 27, [(.int .i16 f0.fSteps), (.slice C_a f0.fHammers.length C_c)]⟩]) [0] (by kernel_rfl) (by kernel_rfl)) (hm.exApart (N := [⟨some A_b, 27, [(.int .i16 f0.fSteps), (.slice C_a f0.fHammers.length C_c)]⟩]) C_h C_ha [0] (by kernel_rfl)) ht_3) ?_)
  rintro w v w' hm ⟨rfl, hm'⟩
  refine ⟨_, hm.appW (ps := [(0, ⟨some A_b, 27, [(.int .i16 f0.fSteps), (.slice C_a f0.fHammers.length C_c)]⟩)]) (N := []) hm' (by kernel_rfl) (by kernel_rfl), jkO ?_⟩
  clear hm hm'
  refine qh [0] (qe (jx_then (qi h (fun h => ?_) (fun h => ?_))))
  ·refine jc_seq (jc_region (qh [0] (qe (jx_then (jc_ret (jx_thenr ?_))))))
   obtain rfl := Option.some.inj h
   exact qr [] (fun w hm => ⟨rfl, hm.pk [0]⟩)
  ·refine jc_skip (jx_then (jc_seq (jc_seq (jc_region (qh [0] (qe (jx_then (jc_meet (fun (_ : Unit) => spec_l05Asked.k_2 list1 = some r) (fun (_ : Unit) => [(1, [], (.slice D_a list1.length D_c)), (4, [], (.int .i64 0))]) (fun (_ : Unit) => [⟨some A_b, 27, [(.int .i16 f0.fSteps), (.slice C_a f0.fHammers.length C_c)]⟩]) ?_ ?_))))))))
   ·refine jc_block ?_
    obtain ⟨t_5, ht_85, hr_76⟩ := bd h
    refine jc_loop (fun (s : Int) (x : Unit) => match s, x with | i_3, _ => True) (fun (s : Int) (x : Unit) => match s, x with | i_3, _ => [(0, [], (.pointer (some ⟨A_b, 0, none⟩))), (1, [], (.slice D_a list1.length D_c)), (4, [], (.int .i64 0)), (5, [], (.int .i64 i_3))]) (fun (s : Int) (x : Unit) => match s, x with | i_3, _ => [⟨some A_b, 27, [(.int .i16 f0.fSteps), (.slice C_a f0.fHammers.length C_c)]⟩]) ht_85 () trivial (by kernel_rfl) [0] (by kernel_rfl) (by kernel_rfl) ?_
    rintro i_3 _ y_77 _ h
    rw [spec_l05Asked.l_4] at h
    refine jc_seq (jc_seq (jc_region (qh [0,0,0,0] (qe (jx_then (qi h (fun h => ?_) (fun h => ?_)))))))
    ·refine jc_skip (jx_then (jc_seq (jc_block (jc_seq (jc_region (qh [0,0,0] ?_))))))
     obtain ⟨x_6, hx_80, h⟩ := bd h
     refine tO (qx 0 D_a 96 hx_80 rfl (D_h.sp hx_80) (jkO ?_))
     obtain ⟨t_7, ht_81, h⟩ := bd h
     refine tO (pc 0 (fun w hm => spec_l02Drum.calls f0 x_6 w _ C_c (hm.exRowW C_h C_ha) rfl ((hm.exRowW D_h D_ha).inArr (fun _ => rfl) encU32_len hx_80) A_b (hm.pass (N := [⟨some A_b, 27, [(.int .i16 f0.fSteps), (.slice C_a f0.fHammers.length C_c)]⟩]) [0] (by kernel_rfl) (by kernel_rfl)) (hm.exApart (N := [⟨some A_b, 27, [(.int .i16 f0.fSteps), (.slice C_a f0.fHammers.length C_c)]⟩]) C_h C_ha [0] (by kernel_rfl)) (fun _ => (hm.exApart (N := [⟨some A_b, 27, [(.int .i16 f0.fSteps), (.slice C_a f0.fHammers.length C_c)]⟩]) D_h D_ha [0] (by kernel_rfl)) (ne_ix hx_80)) ht_81) ?_)
     rintro w v w' hm ⟨rfl, hm'⟩
     refine ⟨_, hm.appW (ps := [(0, ⟨some A_b, 27, [(.int .i16 f0.fSteps), (.slice C_a f0.fHammers.length C_c)]⟩)]) (N := []) hm' (by kernel_rfl) (by kernel_rfl), jkO ?_⟩
     clear hm hm'
     refine qh [0] (qe (jx_then (qi h (fun h => ?_) (fun h => ?_))))
     ·refine jc_seq (jc_region (qh [0] (qe (jx_then (jc_ret (jx_inr (jx_thenr (jx_leaver (.inl 1) (Option.some.inj h).symm (fun e_83 => ?_)))))))))
      subst e_83
      refine jx_inr (jx_thenr (jx_thenr ?_))
      obtain rfl := Option.some.inj hr_76
      exact qr [] (fun w hm => ⟨rfl, hm.pk [0]⟩)
     ·exact jc_skip (jx_inn (jx_then (jc_region (qh [0,0,0] (qe (qb (w64 (i_3 + 1)) () h trivial [0]))))))
    ·refine jc_exit (jx_thenx (jx_leave (.inr ()) (Option.some.inj h).symm (fun e_84 => ?_)))
     subst e_84
     exact jx_ine (qm () hr_76 [0])
   ·rintro _ h
    replace h : spec_l05Asked.k_2 list1 = some r := h
    rw [spec_l05Asked.k_2] at h
    refine jx_then (jc_seq (jc_seq (jc_region (qh [0,0,0] (qe (jx_then (qi h (fun h => ?_) (fun h => ?_))))))))
    ·refine jc_seq (jc_region (qh [0] (qe (jx_then (jc_ret (jx_thenr ?_))))))
     obtain rfl := Option.some.inj h
     exact qr [] (fun w hm => ⟨rfl, hm.pk [0]⟩)
    ·refine jc_skip (jx_then (jc_seq (jc_region (qh [0] (qe (jx_then (jc_ret ?_)))))))
     obtain rfl := Option.some.inj h
     exact qr [] (fun w hm => ⟨rfl, hm.pk [0]⟩)
/-! ### spec.l02Count -/
def spec_l02Count.k_2 (i_1 : Int) : Option (Int) := some i_1
def spec_l02Count.l_5 : (Int × Int) → Option ((Int × Int) ⊕ (Int))
  | (i_3, i_4) => (if (decide (i_3 > 0)) = true then some (.inl ((u32 (Int.tdiv i_3 2)), (w64 (i_4 + (w64 (Int.tmod i_3 2)))))) else some (.inr i_4))
def spec_l02Count (bits0 : Int) : Option (Int) := (loop spec_l02Count.l_5 (bits0, 0)).bind fun t_6 => spec_l02Count.k_2 t_6
theorem spec_l02Count.calls (bits0 : Int) (w : World) (r : Int) (h : spec_l02Count bits0 = some r) :
    Calls Try.prog 94 #[(.int .u32 bits0)] w fun e w' => ∃ v, e = .returned v ∧ (v = (.int .i64 r) ∧ Mem w [] [] w') := by
  rw [spec_l02Count] at h
  refine enter (args := [(.int .u32 bits0)]) Try.func94 rfl Try.ntmps94 (by kernel_rfl) (L := []) (W := []) (Mem.start w) ?_
  refine jc_seq (jc_region (qh [0] (qe (jx_then (jc_seq (jc_region (qh [0] (qe (jx_then (jc_seq (jc_meet (fun (j : Int) => match j with | i_1 => spec_l02Count.k_2 i_1 = some r) (fun (j : Int) => match j with | i_1 => [(2, [], (.int .i64 0)), (3, [], (.int .i64 i_1))]) (fun (j : Int) => match j with | i_1 => []) ?_ ?_)))))))))))
  ·refine jc_block ?_
   obtain ⟨t_6, ht_20, hr_15⟩ := bd h
   refine jc_loop (fun (s : Int × Int) (x : Unit) => match s, x with | ⟨i_3, i_4⟩, _ => True) (fun (s : Int × Int) (x : Unit) => match s, x with | ⟨i_3, i_4⟩, _ => [(0, [], (.int .u32 i_3)), (2, [], (.int .i64 0)), (3, [], (.int .i64 i_4))]) (fun (s : Int × Int) (x : Unit) => match s, x with | ⟨i_3, i_4⟩, _ => []) ht_20 () trivial (by kernel_rfl) [] (by kernel_rfl) (by kernel_rfl) ?_
   rintro ⟨i_3, i_4⟩ _ y_16 _ h
   rw [spec_l02Count.l_5] at h
   refine jc_seq (jc_seq (jc_region (qh [0,0] (qe (jx_then (qi h (fun h => ?_) (fun h => ?_)))))))
   ·exact jc_skip (jx_then (jc_seq (jc_block (jc_region (qh [0,0,0,0,0,0] (qe (jx_inn (jx_then (jc_region (qh [0,0,0] (qe (qb ((u32 (Int.tdiv i_3 2)), (w64 (i_4 + (w64 (Int.tmod i_3 2))))) () h trivial []))))))))))))
   ·refine jc_exit (jx_thenx (jx_leave i_4 (Option.some.inj h).symm (fun e_19 => ?_)))
    subst e_19
    exact jx_ine (qm i_4 hr_15 [])
  ·rintro i_1 h
   replace h : spec_l02Count.k_2 i_1 = some r := h
   rw [spec_l02Count.k_2] at h
   refine jx_then (jc_seq (jc_region (qh [0,0] (qe (jx_then (jc_ret ?_))))))
   obtain rfl := Option.some.inj h
   exact qr [] (fun w hm => ⟨rfl, hm.pk []⟩)
/-! ### spec.l02Moves -/
def spec_l02Moves.k_2 (i_1 : Int) : Option (Int) := some i_1
def spec_l02Moves.l_5 (a0 : Arr 96 Int) (b1 : Arr 96 Int) : (Int × Int) → Option ((Int × Int) ⊕ (Int))
  | (i_3, i_4) => (if (decide (i_4 < 96)) = true then (ix b1.1 i_4).bind fun x_7 => (ix a0.1 i_4).bind fun x_8 => (spec_l02Count (bClr .u32 x_7 x_8)).bind fun t_9 => some (.inl ((w64 (i_3 + t_9)), (w64 (i_4 + 1)))) else some (.inr i_3))
def spec_l02Moves (a0 : Arr 96 Int) (b1 : Arr 96 Int) : Option (Int) := (loop (spec_l02Moves.l_5 a0 b1) (0, 0)).bind fun t_6 => spec_l02Moves.k_2 t_6
theorem spec_l02Moves.calls (a0 : Arr 96 Int) (b1 : Arr 96 Int) (w : World) (r : Int) {A_b A_q : Nat} (A_h : Rw w (some ⟨A_b, A_q, none⟩) 1 encU32 a0.1) {B_b B_q : Nat} (B_h : Rw w (some ⟨B_b, B_q, none⟩) 1 encU32 b1.1) (h : spec_l02Moves a0 b1 = some r) :
    Calls Try.prog 85 #[(.pointer (some ⟨A_b, A_q, none⟩)), (.pointer (some ⟨B_b, B_q, none⟩))] w fun e w' => ∃ v, e = .returned v ∧ (v = (.int .i64 r) ∧ Mem w [] [] w') := by
  rw [spec_l02Moves] at h
  refine enter (args := [(.pointer (some ⟨A_b, A_q, none⟩)), (.pointer (some ⟨B_b, B_q, none⟩))]) Try.func85 rfl Try.ntmps85 (by kernel_rfl) (L := []) (W := []) (Mem.start w) ?_
  refine jc_seq (jc_region (qh [0] (qe (jx_then (jc_seq (jc_region (qh [0] (qe (jx_then (jc_seq (jc_seq (jc_region (qh [0] (qe (jx_then (jc_meet (fun (j : Int) => match j with | i_1 => spec_l02Moves.k_2 i_1 = some r) (fun (j : Int) => match j with | i_1 => [(4, [], (.int .i64 0)), (5, [], (.int .i64 i_1))]) (fun (j : Int) => match j with | i_1 => []) ?_ ?_))))))))))))))))
  ·refine jc_block ?_
   obtain ⟨t_6, ht_76, hr_68⟩ := bd h
   refine jc_loop (fun (s : Int × Int) (x : Unit) => match s, x with | ⟨i_3, i_4⟩, _ => True) (fun (s : Int × Int) (x : Unit) => match s, x with | ⟨i_3, i_4⟩, _ => [(0, [], (.pointer (some ⟨A_b, A_q, none⟩))), (1, [], (.pointer (some ⟨B_b, B_q, none⟩))), (4, [], (.int .i64 0)), (5, [], (.int .i64 i_3)), (6, [], (.int .i64 i_4))]) (fun (s : Int × Int) (x : Unit) => match s, x with | ⟨i_3, i_4⟩, _ => []) ht_76 () trivial (by kernel_rfl) [] (by kernel_rfl) (by kernel_rfl) ?_
   rintro ⟨i_3, i_4⟩ _ y_69 _ h
   rw [spec_l02Moves.l_5] at h
   refine jc_seq (jc_seq (jc_region (qh [0,0] (qe (jx_then (qi h (fun h => ?_) (fun h => ?_)))))))
   ·refine jc_skip (jx_then (jc_seq (jc_block (qg [] 15 (qd [⟨0, 0, 0⟩,⟨1, 0, 0⟩,⟨2, 0, 0⟩,⟨3, 0, 0⟩,⟨6, 0, 0⟩,⟨7, 0, 0⟩,⟨8, 0, 0⟩] 8 [] ?_)))))
    obtain ⟨x_7, hx_72, h⟩ := bd h
    refine qv 4 0 [] (fun w hm => idx_run (a := (some ⟨B_b, B_q, none⟩)) (len := 96) (s := 1) (j := i_4) (by kernel_rfl) (ix_some hx_72).1 (ltn hx_72 b1.2) (B_h.sp hx_72)) (qv 5 0 [] (fun w hm => ld_run (b := aB (some ⟨B_b, B_q, none⟩)) (off := (aO (some ⟨B_b, B_q, none⟩) + i_4.toNat * 1)) (s := 1) (agg := false) (vs := (encU32 x_7)) (by kernel_rfl) (by kernel_rfl) (.inr rfl) ((hm.xr B_h).at hx_72)) ?_)
    obtain ⟨x_8, hx_73, h⟩ := bd h
    refine qv 9 0 [] (fun w hm => idx_run (a := (some ⟨A_b, A_q, none⟩)) (len := 96) (s := 1) (j := i_4) (by kernel_rfl) (ix_some hx_73).1 (ltn hx_73 a0.2) (A_h.sp hx_73)) (qv 10 0 [] (fun w hm => ld_run (b := aB (some ⟨A_b, A_q, none⟩)) (off := (aO (some ⟨A_b, A_q, none⟩) + i_4.toNat * 1)) (s := 1) (agg := false) (vs := (encU32 x_8)) (by kernel_rfl) (by kernel_rfl) (.inr rfl) ((hm.xr A_h).at hx_73)) (qd [⟨11, 0, 0⟩] 3 [] ?_))
    obtain ⟨t_9, ht_74, h⟩ := bd h
    refine tD 12 (pc 0 (fun w hm => spec_l02Count.calls (bClr .u32 x_7 x_8) w _ ht_74) ?_)
    rintro w v w' hm ⟨rfl, hm'⟩
    refine ⟨_, hm.app hm', kD [] ?_⟩
    clear hm hm'
    exact qd [⟨13, 0, 0⟩,⟨14, 0, 0⟩] 0 [] (qz (jx_inn (jx_then (jc_region (qh [0,0,0] (qe (qb ((w64 (i_3 + t_9)), (w64 (i_4 + 1))) () h trivial [])))))))
   ·refine jc_exit (jx_thenx (jx_leave i_3 (Option.some.inj h).symm (fun e_75 => ?_)))
    subst e_75
    exact jx_ine (qm i_3 hr_68 [])
  ·rintro i_1 h
   replace h : spec_l02Moves.k_2 i_1 = some r := h
   rw [spec_l02Moves.k_2] at h
   refine jx_then (jc_seq (jc_region (qh [0,0] (qe (jx_then (jc_ret ?_))))))
   obtain rfl := Option.some.inj h
   exact qr [] (fun w hm => ⟨rfl, hm.pk []⟩)
/-! ### spec.l05Cost -/
def spec_l05Cost (a0 : Arr 96 Int) (b1 : Arr 96 Int) : Option (Int) := (spec_l02Moves a0 b1).bind fun t_1 => (spec_l02Moves b1 a0).bind fun t_2 => some (w64 (t_1 + t_2))
theorem spec_l05Cost.calls (a0 : Arr 96 Int) (b1 : Arr 96 Int) (w : World) (r : Int) {A_b A_q : Nat} (A_h : Rw w (some ⟨A_b, A_q, none⟩) 1 encU32 a0.1) {B_b B_q : Nat} (B_h : Rw w (some ⟨B_b, B_q, none⟩) 1 encU32 b1.1) (h : spec_l05Cost a0 b1 = some r) :
    Calls Try.prog 66 #[(.pointer (some ⟨A_b, A_q, none⟩)), (.pointer (some ⟨B_b, B_q, none⟩))] w fun e w' => ∃ v, e = .returned v ∧ (v = (.int .i64 r) ∧ Mem w [] [] w') := by
  rw [spec_l05Cost] at h
  refine enter (args := [(.pointer (some ⟨A_b, A_q, none⟩)), (.pointer (some ⟨B_b, B_q, none⟩))]) Try.func66 rfl Try.ntmps66 (by kernel_rfl) (L := []) (W := []) (Mem.start w) ?_
  refine jc_seq (jc_region (qh [0] (qe (jx_then (jc_seq (jc_region (qh [0,0] ?_)))))))
  obtain ⟨t_1, ht_1, h⟩ := bd h
  refine tO (pc 0 (fun w hm => spec_l02Moves.calls a0 b1 w _ (hm.xr A_h) (hm.xr B_h) ht_1) ?_)
  rintro w v w' hm ⟨rfl, hm'⟩
  refine ⟨_, hm.app hm', jkO ?_⟩
  clear hm hm'
  refine qh [0,0] ?_
  obtain ⟨t_2, ht_2, h⟩ := bd h
  refine tO (pc 0 (fun w hm => spec_l02Moves.calls b1 a0 w _ (hm.xr B_h) (hm.xr A_h) ht_2) ?_)
  rintro w v w' hm ⟨rfl, hm'⟩
  refine ⟨_, hm.app hm', jkO ?_⟩
  clear hm hm'
  refine qh [0,0] (qe (jx_then (jc_ret ?_)))
  obtain rfl := Option.some.inj h
  exact qr [] (fun w hm => ⟨rfl, hm.pk []⟩)
/-! ### spec.l05Table -/
def spec_l05Table.k_1 (xt_2579 : List (List Int)) : Option ((List (List Int))) := some xt_2579
def spec_l05Table.k_6 (xt_3153 : List (List Int)) (i_2 : Int) (xs_5 : List Int) : Option (((List (List Int)) × Int) ⊕ ((List (List Int)))) := (if xt_3153.length + 1 ≤ 4294967296 then some (.inl ((xt_3153 ++ [xs_5]), (w64 (i_2 + 1)))) else none)
def spec_l05Table.l_9 (list0 : List (Arr 96 Int)) (i_2 : Int) : ((List Int) × Int) → Option (((List Int) × Int) ⊕ ((List Int)))
  | (xs_7, i_8) => (if (decide (i_8 < (list0.length : Int))) = true then (ix list0 i_2).bind fun x_11 => (ix list0 i_8).bind fun x_12 => (spec_l05Cost x_11 x_12).bind fun t_13 => (if xs_7.length + ([t_13] : List Int).length ≤ 4294967296 then some (.inl ((xs_7 ++ ([t_13] : List Int)), (w64 (i_8 + 1)))) else none) else some (.inr xs_7))
def spec_l05Table.l_3 (list0 : List (Arr 96 Int)) : ((List (List Int)) × Int) → Option (((List (List Int)) × Int) ⊕ ((List (List Int))))
  | (xt_3153, i_2) => (if (decide (i_2 < (list0.length : Int))) = true then (loop (spec_l05Table.l_9 list0 i_2) (([] : List Int), 0)).bind fun t_10 => spec_l05Table.k_6 xt_3153 i_2 t_10 else some (.inr xt_3153))
def spec_l05Table (list0 : List (Arr 96 Int)) : Option ((List (List Int))) := (loop (spec_l05Table.l_3 list0) (([] : List (List Int)), 0)).bind fun t_4 => spec_l05Table.k_1 t_4
theorem spec_l05Table.calls (list0 : List (Arr 96 Int)) (w : World) (r : (List (List Int))) {A_a : Option Addr} {A_an : Nat} (A_c : Nat) (A_h : Rw w A_a 96 encA96U32 list0) (A_hn : list0.length = A_an) (h : spec_l05Table list0 = some r) :
    Calls Try.prog 32 #[(.slice A_a A_an A_c)] w fun e w' => ∃ v, e = .returned v ∧ (∃ (o0 : Option Nat) (c0 : Nat) (s0 : List Value) (n0 : Nat) (h0 : List Hd), InP h0 r ∧ h0.length = n0 ∧ (o0 ≠ none → n0 ≤ c0 ∧ s0.length = (c0 - n0) * 1) ∧ (o0 = none → h0 = [] ∧ c0 = 0) ∧ v = .slice (o0.map fun b => ⟨b, 0, none⟩) n0 c0 ∧ Mem w [] [⟨o0, 34, row encHd h0 s0⟩, ⟨none, CLU, cluC encI64 h0 r⟩] w') := by
  subst A_hn
  rw [spec_l05Table] at h
  refine enter (args := [(.slice A_a list0.length A_c)]) Try.func32 rfl Try.ntmps32 (by kernel_rfl) (L := []) (W := []) (Mem.start w) ?_
  refine jc_seq (jc_region (qh [0] (qe (jx_then (jc_seq (jc_region (tO (qa 0 (fun b_1 => jk_clu encI64 (jkO (qh [0] (qe (jx_then (jc_seq (jc_seq (jc_region (qh [0] (qe (jx_then (jc_meet (fun (j : (List (List Int)) × (List Hd) × (Option Nat) × Nat × (List Value) × Nat) => match j with | ⟨xt_2579, hh_2580, o_2581, cap_2582, sp_2583, n_2584⟩ => spec_l05Table.k_1 xt_2579 = some r ∧ (hh_2580.length = n_2584) ∧ ((o_2581 ≠ none → n_2584 ≤ cap_2582 ∧ sp_2583.length = (cap_2582 - n_2584) * 1)) ∧ ((o_2581 = none → hh_2580 = [] ∧ cap_2582 = 0)) ∧ (InP hh_2580 xt_2579)) (fun (j : (List (List Int)) × (List Hd) × (Option Nat) × Nat × (List Value) × Nat) => match j with | ⟨xt_2579, hh_2580, o_2581, cap_2582, sp_2583, n_2584⟩ => [(2, [], (.slice none 0 0)), (3, [], (.slice (o_2581.map fun b => ⟨b, 0, none⟩) n_2584 cap_2582))]) (fun (j : (List (List Int)) × (List Hd) × (Option Nat) × Nat × (List Value) × Nat) => match j with | ⟨xt_2579, hh_2580, o_2581, cap_2582, sp_2583, n_2584⟩ => [⟨o_2581, 34, row encHd hh_2580 sp_2583⟩, ⟨none, CLU, cluC encI64 hh_2580 xt_2579⟩]) ?_ ?_))))))))))))))))))))
  ·refine jc_block ?_
   obtain ⟨t_4, ht_3443, hr_3162⟩ := bd h
   refine jc_loop (fun (s : (List (List Int)) × Int) (x : (List Hd) × (Option Nat) × Nat × (List Value) × Nat) => match s, x with | ⟨xt_3153, i_2⟩, ⟨hh_3154, o_3155, cap_3156, sp_3157, n_3158⟩ => (hh_3154.length = n_3158) ∧ ((o_3155 ≠ none → n_3158 ≤ cap_3156 ∧ sp_3157.length = (cap_3156 - n_3158) * 1)) ∧ ((o_3155 = none → hh_3154 = [] ∧ cap_3156 = 0)) ∧ (InP hh_3154 xt_3153)) (fun (s : (List (List Int)) × Int) (x : (List Hd) × (Option Nat) × Nat × (List Value) × Nat) => match s, x with | ⟨xt_3153, i_2⟩, ⟨hh_3154, o_3155, cap_3156, sp_3157, n_3158⟩ => [(0, [], (.slice A_a list0.length A_c)), (2, [], (.slice none 0 0)), (3, [], (.slice (o_3155.map fun b => ⟨b, 0, none⟩) n_3158 cap_3156)), (4, [], (.int .i64 i_2))]) (fun (s : (List (List Int)) × Int) (x : (List Hd) × (Option Nat) × Nat × (List Value) × Nat) => match s, x with | ⟨xt_3153, i_2⟩, ⟨hh_3154, o_3155, cap_3156, sp_3157, n_3158⟩ => [⟨o_3155, 34, row encHd hh_3154 sp_3157⟩, ⟨none, CLU, cluC encI64 hh_3154 xt_3153⟩]) ht_3443 ⟨([] : List Hd), (some b_1), 0, [], 0⟩ ⟨rfl, (fun _ => ⟨Nat.le_refl _, by simp⟩), (fun e => nomatch e), InP.nil⟩ (by kernel_rfl) [0, 1] (by kernel_rfl) (by kernel_rfl) ?_
   rintro ⟨xt_3153, i_2⟩ ⟨hh_3154, o_3155, cap_3156, sp_3157, n_3158⟩ y_3163 ⟨rfl, hs_3159, ho_3160, hI_3161⟩ h
   rw [spec_l05Table.l_3] at h
   refine jc_seq (jc_seq (jc_region (qh [0,0,0,0] (qe (jx_then (qi h (fun h => ?_) (fun h => ?_)))))))
   ·refine jc_skip (jx_then (jc_seq (jc_block (jc_seq (jc_region (tO (qa 0 (fun b_3166 => jkO (qh [0] (qe (jx_then (jc_seq (jc_seq (jc_region (qh [0] (qe (jx_then (jc_meet (fun (j : (List Int) × (Option Nat) × Nat × (List Value) × Nat) => match j with | ⟨xs_5, o_3365, cap_3366, sp_3367, n_3368⟩ => spec_l05Table.k_6 xt_3153 i_2 xs_5 = some y_3163 ∧ (xs_5.length = n_3368) ∧ ((o_3365 ≠ none → n_3368 ≤ cap_3366 ∧ sp_3367.length = (cap_3366 - n_3368) * 1)) ∧ ((o_3365 = none → xs_5 = [] ∧ cap_3366 = 0))) (fun (j : (List Int) × (Option Nat) × Nat × (List Value) × Nat) => match j with | ⟨xs_5, o_3365, cap_3366, sp_3367, n_3368⟩ => [(0, [], (.slice A_a list0.length A_c)), (2, [], (.slice none 0 0)), (3, [], (.slice (o_3155.map fun b => ⟨b, 0, none⟩) hh_3154.length cap_3156)), (4, [], (.int .i64 i_2)), (5, [], (.slice (o_3365.map fun b => ⟨b, 0, none⟩) n_3368 cap_3366))]) (fun (j : (List Int) × (Option Nat) × Nat × (List Value) × Nat) => match j with | ⟨xs_5, o_3365, cap_3366, sp_3367, n_3368⟩ => [⟨o_3155, 34, row encHd hh_3154 sp_3157⟩, ⟨none, CLU, cluC encI64 hh_3154 xt_3153⟩, ⟨o_3365, 2, row encI64 xs_5 sp_3367⟩]) ?_ ?_))))))))))))))))))
    ·refine jc_block ?_
     obtain ⟨t_10, ht_3441, hr_3422⟩ := bd h
     refine jc_loop (fun (s : (List Int) × Int) (x : (Option Nat) × Nat × (List Value) × Nat) => match s, x with | ⟨xs_7, i_8⟩, ⟨o_3416, cap_3417, sp_3418, n_3419⟩ => (xs_7.length = n_3419) ∧ ((o_3416 ≠ none → n_3419 ≤ cap_3417 ∧ sp_3418.length = (cap_3417 - n_3419) * 1)) ∧ ((o_3416 = none → xs_7 = [] ∧ cap_3417 = 0))) (fun (s : (List Int) × Int) (x : (Option Nat) × Nat × (List Value) × Nat) => match s, x with | ⟨xs_7, i_8⟩, ⟨o_3416, cap_3417, sp_3418, n_3419⟩ => [(0, [], (.slice A_a list0.length A_c)), (2, [], (.slice none 0 0)), (3, [], (.slice (o_3155.map fun b => ⟨b, 0, none⟩) hh_3154.length cap_3156)), (4, [], (.int .i64 i_2)), (5, [], (.slice (o_3416.map fun b => ⟨b, 0, none⟩) n_3419 cap_3417)), (6, [], (.int .i64 i_8))]) (fun (s : (List Int) × Int) (x : (Option Nat) × Nat × (List Value) × Nat) => match s, x with | ⟨xs_7, i_8⟩, ⟨o_3416, cap_3417, sp_3418, n_3419⟩ => [⟨o_3155, 34, row encHd hh_3154 sp_3157⟩, ⟨none, CLU, cluC encI64 hh_3154 xt_3153⟩, ⟨o_3416, 2, row encI64 xs_7 sp_3418⟩]) ht_3441 ⟨(some b_3166), 0, [], 0⟩ ⟨rfl, (fun _ => ⟨Nat.le_refl _, by simp⟩), (fun e => nomatch e)⟩ (by kernel_rfl) [0, 1, 2] (by kernel_rfl) (by kernel_rfl) ?_
     rintro ⟨xs_7, i_8⟩ ⟨o_3416, cap_3417, sp_3418, n_3419⟩ y_3423 ⟨rfl, hs_3420, ho_3421⟩ h
     rw [spec_l05Table.l_9] at h
     refine jc_seq (jc_seq (jc_region (qh [0,0,0,0] (qe (jx_then (qi h (fun h => ?_) (fun h => ?_)))))))
     ·refine jc_skip (jx_then (jc_seq (jc_block (qg [⟨o_3155, 34, row encHd hh_3154 sp_3157⟩, ⟨none, CLU, cluC encI64 hh_3154 xt_3153⟩] 11 (qd [⟨0, 0, 0⟩,⟨1, 0, 0⟩,⟨2, 0, 0⟩,⟨4, 0, 0⟩,⟨5, 0, 0⟩] 6 [0, 1] ?_)))))
      obtain ⟨x_11, hx_3430, h⟩ := bd h
      refine qv 3 0 [0, 1] (fun w hm => idx_run (a := A_a) (len := list0.length) (s := 96) (j := i_2) (by kernel_rfl) (ix_some hx_3430).1 (ltn hx_3430 rfl) (A_h.sp hx_3430)) ?_
      obtain ⟨x_12, hx_3431, h⟩ := bd h
      refine qv 6 0 [0, 1] (fun w hm => idx_run (a := A_a) (len := list0.length) (s := 96) (j := i_8) (by kernel_rfl) (ix_some hx_3431).1 (ltn hx_3431 rfl) (A_h.sp hx_3431)) ?_
      obtain ⟨t_13, ht_3432, h⟩ := bd h
      refine tD 7 (pc 0 (fun w hm => spec_l05Cost.calls x_11 x_12 w _ ((hm.xr A_h).inArr (fun _ => rfl) encU32_len hx_3430) ((hm.xr A_h).inArr (fun _ => rfl) encU32_len hx_3431) ht_3432) ?_)
      rintro w v w' hm ⟨rfl, hm'⟩
      refine ⟨_, hm.app hm', kD [0, 1] ?_⟩
      clear hm hm'
      refine tD 8 (qa 0 (fun b_3433 => kD [0, 1] ?_))
      obtain ⟨hg_3434, h⟩ := gd h
      exact tD 9 (p_apn 0 2 o_3416 2 xs_7.length 1 cap_3417 1 8 (some ⟨b_3433, 0, none⟩) encI64 xs_7 ([t_13] : List Int) sp_3418 (.int .i64 0) rfl rfl (by kernel_rfl) (by kernel_rfl) (by kernel_rfl) encI64_len encI64_cell hs_3420 ho_3421 (fun w hm => (hm.ow 3 (some b_3433) 2 ([t_13] : List Int) [] (fun e => nomatch e) encI64_len)) hg_3434 (by kernel_rfl) (by kernel_rfl) (fun o_3435 cap_3436 sp_3437 hs_3438 ho_3439 => kD [0, 1] (qd [⟨10, 0, 0⟩] 0 [0, 1] (qz (jx_inn (jx_then (jc_region (qh [0,0,0] (qe (qb ((xs_7 ++ ([t_13] : List Int)), (w64 (i_8 + 1))) ⟨o_3435, cap_3436, sp_3437, (xs_7 ++ ([t_13] : List Int)).length⟩ h ⟨rfl, hs_3438, ho_3439⟩ [0, 1, 2]))))))))))
     ·refine jc_exit (jx_thenx (jx_leave xs_7 (Option.some.inj h).symm (fun e_3440 => ?_)))
      subst e_3440
      exact jx_ine (qm ⟨xs_7, o_3416, cap_3417, sp_3418, xs_7.length⟩ ⟨hr_3422, rfl, hs_3420, ho_3421⟩ [0, 1, 2])
    ·rintro ⟨xs_5, o_3365, cap_3366, sp_3367, n_3368⟩ ⟨h, rfl, hs_3369, ho_3370⟩
     replace h : spec_l05Table.k_6 xt_3153 i_2 xs_5 = some y_3163 := h
     rw [spec_l05Table.k_6] at h
     refine jx_then (jc_region (qh [0,0] (tO (qa 0 (fun b_3371 => jkO ?_)))))
     obtain ⟨hg_3372, h⟩ := gd h
     exact tO (p_apn 0 0 o_3155 34 hh_3154.length 1 cap_3156 1 24 (some ⟨b_3371, 0, none⟩) encHd hh_3154 [(Hd.mk (o_3365.map fun b => ⟨b, 0, none⟩) xs_5.length cap_3366)] sp_3157 (.slice none 0 0) rfl rfl (by kernel_rfl) (by kernel_rfl) (by kernel_rfl) encHd_len encHd_cell hs_3159 ho_3160 (fun w hm => (hm.ow 3 (some b_3371) 34 ([(Hd.mk (o_3365.map fun b => ⟨b, 0, none⟩) xs_5.length cap_3366)]) [] (fun e => nomatch e) encHd_len)) (tabbig hI_3161 hg_3372) (by kernel_rfl) (by kernel_rfl) (fun o_3373 cap_3374 sp_3375 hs_3376 ho_3377 => jk_frz (enc := encI64) (hs := hh_3154) (xss := xt_3153) (o := o_3365) (T := 2) (xs := xs_5) (sp := sp_3367) 1 2 xs_5.length cap_3366 hI_3161 (jkO (qh [0] (qe (jx_inn (jx_then (jc_region (qh [0,0,0] (qe (qb ((xt_3153 ++ [xs_5]), (w64 (i_2 + 1))) ⟨(hh_3154 ++ [(Hd.mk (o_3365.map fun b => ⟨b, 0, none⟩) xs_5.length cap_3366)]), o_3373, cap_3374, sp_3375, (hh_3154 ++ [(Hd.mk (o_3365.map fun b => ⟨b, 0, none⟩) xs_5.length cap_3366)]).length⟩ h ⟨rfl, hs_3376, ho_3377, (hI_3161.snoc (o := o_3365) rfl (fun e => (ho_3370 e).1))⟩ [0, 1])))))))))))
   ·refine jc_exit (jx_thenx (jx_leave xt_3153 (Option.some.inj h).symm (fun e_3442 => ?_)))
    subst e_3442
    exact jx_ine (qm ⟨xt_3153, hh_3154, o_3155, cap_3156, sp_3157, hh_3154.length⟩ ⟨hr_3162, rfl, hs_3159, ho_3160, hI_3161⟩ [0, 1])
  ·rintro ⟨xt_2579, hh_2580, o_2581, cap_2582, sp_2583, n_2584⟩ ⟨h, rfl, hs_2585, ho_2586, hI_2587⟩
   replace h : spec_l05Table.k_1 xt_2579 = some r := h
   rw [spec_l05Table.k_1] at h
   refine jx_then (jc_seq (jc_region (qh [0,0] (qe (jx_then (jc_ret ?_))))))
   obtain rfl := Option.some.inj h
   exact qr [] (fun w hm => ⟨o_2581, cap_2582, sp_2583, hh_2580.length, hh_2580, hI_2587, rfl, hs_2585, ho_2586, rfl, hm.pk [0, 1]⟩)
/-! ### spec.CostTable -/
def spec_CostTable (f0 : GFrame) (list1 : List (Arr 96 Int)) : Option ((List (List Int)) × Int) := (spec_l05Asked f0 list1).bind fun t_1 => (if (t_1 != 0) = true then some (([] : List (List Int)), t_1) else (spec_l05Table list1).bind fun t_2 => some (t_2, 0))
theorem spec_CostTable.calls (f0 : GFrame) (list1 : List (Arr 96 Int)) (w : World) (r : (List (List Int)) × Int) {C_a : Option Addr} {C_an : Nat} (C_c : Nat) (C_h : Rw w C_a 2 encGHammer f0.fHammers) (C_hn : f0.fHammers.length = C_an) {D_a : Option Addr} {D_an : Nat} (D_c : Nat) (D_h : Rw w D_a 96 encA96U32 list1) (D_hn : list1.length = D_an) (h : spec_CostTable f0 list1 = some r) :
    Calls Try.prog 8 #[(.agg #[(.int .i16 f0.fSteps), (.slice C_a C_an C_c)]), (.slice D_a D_an D_c)] w fun e w' => ∃ v, e = .returned v ∧ (∃ (o0 : Option Nat) (c0 : Nat) (s0 : List Value) (n0 : Nat) (h0 : List Hd), InP h0 r.1 ∧ h0.length = n0 ∧ (o0 ≠ none → n0 ≤ c0 ∧ s0.length = (c0 - n0) * 1) ∧ (o0 = none → h0 = [] ∧ c0 = 0) ∧ v = .tuple #[.slice (o0.map fun b => ⟨b, 0, none⟩) n0 c0, (.int .i64 r.2)] ∧ Mem w [] [⟨o0, 34, row encHd h0 s0⟩, ⟨none, CLU, cluC encI64 h0 r.1⟩] w') := by
  subst C_hn D_hn
  rw [spec_CostTable] at h
  refine enter (args := [(.agg #[(.int .i16 f0.fSteps), (.slice C_a f0.fHammers.length C_c)]), (.slice D_a list1.length D_c)]) Try.func8 rfl Try.ntmps8 (by kernel_rfl) (L := []) (W := []) (Mem.start w) ?_
  refine jc_seq (jc_region (tO (qa 0 (fun b_1 => jkO (qh [0,0] (qe (jx_then (jc_seq (jc_seq (jc_region (qh [0] ?_)))))))))))
  obtain ⟨t_1, ht_5, h⟩ := bd h
  refine tO (pc 0 (fun w hm => spec_l05Asked.calls f0 list1 w _ C_c (hm.xr C_h) rfl D_c (hm.xr D_h) rfl b_1 (hm.pass (N := [⟨some b_1, 27, [(.int .i16 f0.fSteps), (.slice C_a f0.fHammers.length C_c)]⟩]) [0] (by kernel_rfl) (by kernel_rfl)) (hm.exApart (N := [⟨some b_1, 27, [(.int .i16 f0.fSteps), (.slice C_a f0.fHammers.length C_c)]⟩]) C_h (fun _ => List.not_mem_nil) [0] (by kernel_rfl)) (hm.exApart (N := [⟨some b_1, 27, [(.int .i16 f0.fSteps), (.slice C_a f0.fHammers.length C_c)]⟩]) D_h (fun _ => List.not_mem_nil) [0] (by kernel_rfl)) ht_5) ?_)
  rintro w v w' hm ⟨rfl, hm'⟩
  refine ⟨_, hm.appW (ps := [(0, ⟨some b_1, 27, [(.int .i16 f0.fSteps), (.slice C_a f0.fHammers.length C_c)]⟩)]) (N := []) hm' (by kernel_rfl) (by kernel_rfl), jkO ?_⟩
  clear hm hm'
  refine qh [0] (qe (jx_then (jc_seq (jc_region (qh [0,0] (qe (jx_then (qi h (fun h => ?_) (fun h => ?_)))))))))
  ·refine jc_seq (jc_region (tO (qa 0 (fun b_7 => jk_clu encI64 (jkO (qh [0,0,0] (qe (jx_then (jc_ret (jx_thenr ?_))))))))))
   obtain rfl := Option.some.inj h
   exact qr [] (fun w hm => ⟨(some b_7), 0, [], 0, ([] : List Hd), InP.nil, rfl, (fun _ => ⟨Nat.le_refl _, by simp⟩), (fun e => nomatch e), rfl, hm.pk [1, 2]⟩)
  ·refine jc_skip (jx_then (jc_seq (jc_region (qh [0] ?_))))
   obtain ⟨t_2, ht_8, h⟩ := bd h
   refine tO (pc 0 (fun w hm => spec_l05Table.calls list1 w _ D_c (hm.xr D_h) rfl ht_8) ?_)
   rintro w v w' hm ⟨o_9, cap_10, sp_11, _, hh_14, hI_15, rfl, hs_12, ho_13, rfl, hm'⟩
   refine ⟨_, hm.app hm', jkO ?_⟩
   clear hm hm'
   refine qh [0,0] (qe (jx_then (jc_ret ?_)))
   obtain rfl := Option.some.inj h
   exact qr [] (fun w hm => ⟨o_9, cap_10, sp_11, hh_14.length, hh_14, hI_15, rfl, hs_12, ho_13, rfl, hm.pk [1, 2]⟩)
/-! ### impl.size[impl.Drum] -/
def impl_size_Drum (list0 : List (Arr 96 Int)) : Option (Int) := some (list0.length : Int)
theorem impl_size_Drum.calls (list0 : List (Arr 96 Int)) (w : World) (r : Int) {A_a : Option Addr} {A_an : Nat} (A_c : Nat) (A_h : Rw w A_a 96 encA96U32 list0) (A_hn : list0.length = A_an) (h : impl_size_Drum list0 = some r) :
    Calls Try.prog 48 #[(.slice A_a A_an A_c)] w fun e w' => ∃ v, e = .returned v ∧ (v = (.int .i64 r) ∧ Mem w [] [] w') := by
  subst A_hn
  rw [impl_size_Drum] at h
  refine enter (args := [(.slice A_a list0.length A_c)]) Try.func48 rfl Try.ntmps48 (by kernel_rfl) (L := []) (W := []) (Mem.start w) ?_
  refine jc_seq (jc_region (qh [0] (qe (jx_then (jc_seq (jc_region (qh [0,0,0] (qe (jx_then (jc_ret ?_))))))))))
  obtain rfl := Option.some.inj h
  exact qr [] (fun w hm => ⟨rfl, hm.pk []⟩)
/-! ### impl.startCode -/
def impl_startCode (f0 : GFrame) (list1 : List (Arr 96 Int)) (first2 : Int) : Option (Int) := (impl_listCode f0 list1).bind fun t_1 => (impl_size_Drum list1).bind fun t_2 => (impl_within first2 (-1) (w64 (t_2 - 1))).bind fun t_3 => (impl_unless t_3 2).bind fun t_4 => (impl_unless (decide ((list1.length : Int) > 0)) 6).bind fun t_5 => (impl_firstOf ([t_1, t_4, t_5] : List Int)).bind fun t_6 => some t_6
theorem impl_startCode.calls (f0 : GFrame) (list1 : List (Arr 96 Int)) (first2 : Int) (w : World) (r : Int) {C_a : Option Addr} {C_an : Nat} (C_c : Nat) (C_h : Rw w C_a 2 encGHammer f0.fHammers) (C_hn : f0.fHammers.length = C_an) {D_a : Option Addr} {D_an : Nat} (D_c : Nat) (D_h : Rw w D_a 96 encA96U32 list1) (D_hn : list1.length = D_an) (h : impl_startCode f0 list1 first2 = some r) :
    Calls Try.prog 33 #[(.agg #[(.int .i16 f0.fSteps), (.slice C_a C_an C_c)]), (.slice D_a D_an D_c), (.int .i64 first2)] w fun e w' => ∃ v, e = .returned v ∧ (v = (.int .i64 r) ∧ Mem w [] [] w') := by
  subst C_hn D_hn
  rw [impl_startCode] at h
  refine enter (args := [(.agg #[(.int .i16 f0.fSteps), (.slice C_a f0.fHammers.length C_c)]), (.slice D_a list1.length D_c), (.int .i64 first2)]) Try.func33 rfl Try.ntmps33 (by kernel_rfl) (L := []) (W := []) (Mem.start w) ?_
  refine jc_seq (jc_region (tO (qa 0 (fun b_1 => jkO (qh [0] (qe (jx_then (jc_seq (jc_region (qh [0,0] ?_))))))))))
  obtain ⟨t_1, ht_2, h⟩ := bd h
  refine tO (pc 0 (fun w hm => impl_listCode.calls f0 list1 w _ C_c (hm.xr C_h) rfl D_c (hm.xr D_h) rfl ht_2) ?_)
  rintro w v w' hm ⟨rfl, hm'⟩
  refine ⟨_, hm.app hm', jkO ?_⟩
  clear hm hm'
  refine qh [0,0] ?_
  obtain ⟨t_2, ht_3, h⟩ := bd h
  refine tO (pc 0 (fun w hm => impl_size_Drum.calls list1 w _ D_c (hm.xr D_h) rfl ht_3) ?_)
  rintro w v w' hm ⟨rfl, hm'⟩
  refine ⟨_, hm.app hm', jkO ?_⟩
  clear hm hm'
  refine qh [0] ?_
  obtain ⟨t_3, ht_4, h⟩ := bd h
  refine tO (pc 0 (fun w hm => impl_within.calls first2 (-1) (w64 (t_2 - 1)) w _ ht_4) ?_)
  rintro w v w' hm ⟨rfl, hm'⟩
  refine ⟨_, hm.app hm', jkO ?_⟩
  clear hm hm'
  obtain ⟨t_4, ht_5, h⟩ := bd h
  refine tO (pc 0 (fun w hm => impl_unless.calls t_3 2 w _ ht_5) ?_)
  rintro w v w' hm ⟨rfl, hm'⟩
  refine ⟨_, hm.app hm', jkO ?_⟩
  clear hm hm'
  refine qh [0,0,0] ?_
  obtain ⟨t_5, ht_6, h⟩ := bd h
  refine tO (pc 0 (fun w hm => impl_unless.calls (decide ((list1.length : Int) > 0)) 6 w _ ht_6) ?_)
  rintro w v w' hm ⟨rfl, hm'⟩
  refine ⟨_, hm.app hm', jkO ?_⟩
  clear hm hm'
  refine tO (qa 0 (fun b_7 => jkO ?_))
  obtain ⟨t_6, ht_8, h⟩ := bd h
  refine tO (pc 0 (fun w hm => impl_firstOf.calls ([t_1, t_4, t_5] : List Int) w _ 3 (hm.ow 1 (some b_7) 2 ([t_1, t_4, t_5] : List Int) [] (fun e => nomatch e) encI64_len) rfl ht_8) ?_)
  rintro w v w' hm ⟨rfl, hm'⟩
  refine ⟨_, hm.app hm', jkO ?_⟩
  clear hm hm'
  refine qh [0] (qe (jx_then (jc_ret ?_)))
  obtain rfl := Option.some.inj h
  exact qr [] (fun w hm => ⟨rfl, hm.pk []⟩)
/-! ### impl.begun -/
def impl_begun (first0 : Int) : Option ((List Int)) := (if (decide (first0 < 0)) = true then some [] else some ([first0] : List Int))
theorem impl_begun.calls (first0 : Int) (w : World) (r : (List Int)) (h : impl_begun first0 = some r) :
    Calls Try.prog 35 #[(.int .i64 first0)] w fun e w' => ∃ v, e = .returned v ∧ (∃ (o0 : Option Nat) (c0 : Nat) (s0 : List Value) (n0 : Nat), r.length = n0 ∧ (o0 ≠ none → n0 ≤ c0 ∧ s0.length = (c0 - n0) * 1) ∧ (o0 = none → r = [] ∧ c0 = 0) ∧ v = .slice (o0.map fun b => ⟨b, 0, none⟩) n0 c0 ∧ Mem w [] [⟨o0, 2, row encI64 r s0⟩] w') := by
  rw [impl_begun] at h
  refine enter (args := [(.int .i64 first0)]) Try.func35 rfl Try.ntmps35 (by kernel_rfl) (L := []) (W := []) (Mem.start w) ?_
  refine jc_seq (jc_region (qh [0] (qe (jx_then (jc_seq (jc_seq (jc_region (qh [0,0] (qe (jx_then (qi h (fun h => ?_) (fun h => ?_))))))))))))
  ·refine jc_seq (jc_region (qh [0] (qe (jx_then (jc_ret (jx_thenr ?_))))))
   obtain rfl := Option.some.inj h
   exact jx_ghost 2 encI64 (qr [] (fun w hm => ⟨none, 0, [], 0, rfl, (fun e => absurd rfl e), (fun _ => ⟨rfl, rfl⟩), rfl, hm.pk [0]⟩))
  ·refine jc_skip (jx_then (jc_seq (jc_region (qh [0] (tO (qa 0 (fun b_3 => jkO (qh [0] (qe (jx_then (jc_ret ?_)))))))))))
   obtain rfl := Option.some.inj h
   exact qr [] (fun w hm => ⟨(some b_3), 1, [], 1, rfl, (fun _ => ⟨Nat.le_refl _, by simp⟩), (fun e => nomatch e), rfl, hm.pk [0]⟩)
/-! ### impl.orderCost -/
def impl_orderCost.k_2 (i_1 : Int) : Option (Int) := some i_1
def impl_orderCost.l_5 (table0 : List (List Int)) (order1 : List Int) : (Int × Int) → Option ((Int × Int) ⊕ (Int))
  | (i_3, i_4) => (if (decide (i_4 < (order1.length : Int))) = true then (ix order1 (w64 (i_4 - 1))).bind fun x_7 => (ix table0 x_7).bind fun x_8 => (ix order1 i_4).bind fun x_9 => (ix x_8 x_9).bind fun x_10 => some (.inl ((w64 (i_3 + x_10)), (w64 (i_4 + 1)))) else some (.inr i_3))
def impl_orderCost (table0 : List (List Int)) (order1 : List Int) : Option (Int) := (loop (impl_orderCost.l_5 table0 order1) (0, 1)).bind fun t_6 => impl_orderCost.k_2 t_6
theorem impl_orderCost.calls (table0 : List (List Int)) (order1 : List Int) (w : World) (r : Int) {A_a : Option Addr} {A_an : Nat} (A_c : Nat) {A_hs : List Hd} (A_h : Rw w A_a 1 encHd A_hs) (A_hn : table0.length = A_an) (A_i : Inn w [] 1 encI64 A_hs table0) {B_a : Option Addr} {B_an : Nat} (B_c : Nat) (B_h : Rw w B_a 1 encI64 order1) (B_hn : order1.length = B_an) (h : impl_orderCost table0 order1 = some r) :
    Calls Try.prog 37 #[(.slice A_a A_an A_c), (.slice B_a B_an B_c)] w fun e w' => ∃ v, e = .returned v ∧ (v = (.int .i64 r) ∧ Mem w [] [] w') := by
  subst A_hn B_hn
  rw [impl_orderCost] at h
  refine enter (args := [(.slice A_a table0.length A_c), (.slice B_a order1.length B_c)]) Try.func37 rfl Try.ntmps37 (by kernel_rfl) (L := []) (W := []) (Mem.start w) ?_
  refine jc_seq (jc_region (qh [0] (qe (jx_then (jc_seq (jc_region (qh [0] (qe (jx_then (jc_seq (jc_seq (jc_region (qh [0] (qe (jx_then (jc_meet (fun (j : Int) => match j with | i_1 => impl_orderCost.k_2 i_1 = some r) (fun (j : Int) => match j with | i_1 => [(4, [], (.int .i64 0)), (5, [], (.int .i64 i_1))]) (fun (j : Int) => match j with | i_1 => []) ?_ ?_))))))))))))))))
  ·refine jc_block ?_
   obtain ⟨t_6, ht_88, hr_79⟩ := bd h
   refine jc_loop (fun (s : Int × Int) (x : Unit) => match s, x with | ⟨i_3, i_4⟩, _ => True) (fun (s : Int × Int) (x : Unit) => match s, x with | ⟨i_3, i_4⟩, _ => [(0, [], (.slice A_a table0.length A_c)), (1, [], (.slice B_a order1.length B_c)), (4, [], (.int .i64 0)), (5, [], (.int .i64 i_3)), (6, [], (.int .i64 i_4))]) (fun (s : Int × Int) (x : Unit) => match s, x with | ⟨i_3, i_4⟩, _ => []) ht_88 () trivial (by kernel_rfl) [] (by kernel_rfl) (by kernel_rfl) ?_
   rintro ⟨i_3, i_4⟩ _ y_80 _ h
   rw [impl_orderCost.l_5] at h
   refine jc_seq (jc_seq (jc_region (qh [0,0,0,0] (qe (jx_then (qi h (fun h => ?_) (fun h => ?_)))))))
   ·refine jc_skip (jx_then (jc_seq (jc_block (qg [] 17 (qd [⟨0, 0, 0⟩,⟨1, 0, 0⟩,⟨2, 0, 0⟩,⟨3, 0, 0⟩,⟨4, 0, 0⟩,⟨9, 0, 0⟩,⟨10, 0, 0⟩] 10 [] ?_)))))
    obtain ⟨x_7, hx_83, h⟩ := bd h
    refine qv 5 0 [] (fun w hm => idx_run (a := B_a) (len := order1.length) (s := 1) (j := (w64 (i_4 - 1))) (by kernel_rfl) (ix_some hx_83).1 (ltn hx_83 rfl) (B_h.sp hx_83)) (qv 6 0 [] (fun w hm => ld_run (b := aB B_a) (off := (aO B_a + (w64 (i_4 - 1)).toNat * 1)) (s := 1) (agg := false) (vs := (encI64 x_7)) (by kernel_rfl) (by kernel_rfl) (.inr rfl) ((hm.xr B_h).at hx_83)) ?_)
    obtain ⟨x_8, hx_84, h⟩ := bd h
    refine qv 7 0 [] (fun w hm => idx_run (a := A_a) (len := table0.length) (s := 1) (j := x_7) (by kernel_rfl) (ix_some hx_84).1 (ltn hx_84 rfl) (A_h.sp (A_i.ixh hx_84))) (qv 8 0 [] (fun w hm => ld_run (b := aB A_a) (off := (aO A_a + x_7.toNat * 1)) (s := 1) (agg := false) (vs := encHd (hd A_hs x_7)) (by kernel_rfl) (by kernel_rfl) (.inr rfl) ((hm.xr A_h).at (A_i.ixh hx_84))) ?_)
    obtain ⟨x_9, hx_85, h⟩ := bd h
    refine qv 11 0 [] (fun w hm => idx_run (a := B_a) (len := order1.length) (s := 1) (j := i_4) (by kernel_rfl) (ix_some hx_85).1 (ltn hx_85 rfl) (B_h.sp hx_85)) (qv 12 0 [] (fun w hm => ld_run (b := aB B_a) (off := (aO B_a + i_4.toNat * 1)) (s := 1) (agg := false) (vs := (encI64 x_9)) (by kernel_rfl) (by kernel_rfl) (.inr rfl) ((hm.xr B_h).at hx_85)) ?_)
    obtain ⟨x_10, hx_86, h⟩ := bd h
    exact qv 13 0 [] (fun w hm => idx_run (a := (hd A_hs x_7).a) (len := ((hd A_hs x_7).n)) (s := 1) (j := x_9) (by kernel_rfl) (ix_some hx_86).1 (ltn hx_86 (A_i.get hx_84).2.1) ((A_i.get hx_84).1.sp hx_86)) (qv 14 0 [] (fun w hm => ld_run (b := aB (hd A_hs x_7).a) (off := (aO (hd A_hs x_7).a + x_9.toNat * 1)) (s := 1) (agg := false) (vs := (encI64 x_10)) (by kernel_rfl) (by kernel_rfl) (.inr rfl) ((hm.exRow (A_i.get hx_84).1 List.not_mem_nil).at hx_86)) (qd [⟨15, 0, 0⟩,⟨16, 0, 0⟩] 0 [] (qz (jx_inn (jx_then (jc_region (qh [0,0,0] (qe (qb ((w64 (i_3 + x_10)), (w64 (i_4 + 1))) () h trivial [])))))))))
   ·refine jc_exit (jx_thenx (jx_leave i_3 (Option.some.inj h).symm (fun e_87 => ?_)))
    subst e_87
    exact jx_ine (qm i_3 hr_79 [])
  ·rintro i_1 h
   replace h : impl_orderCost.k_2 i_1 = some r := h
   rw [impl_orderCost.k_2] at h
   refine jx_then (jc_seq (jc_region (qh [0,0] (qe (jx_then (jc_ret ?_))))))
   obtain rfl := Option.some.inj h
   exact qr [] (fun w hm => ⟨rfl, hm.pk []⟩)
/-! ### impl.BestOrder$1 -/
def impl_BestOrder_1 (order0 : List Int) (p1 : List (List Int)) (p2 : Int) (p3 : List Int) : Option (Int × (List Int)) := (impl_orderCost p1 order0).bind fun t_1 => (if ((decide (p2 < 0)) || (decide (t_1 < p2))) = true then some (t_1, order0) else some (p2, p3))
theorem impl_BestOrder_1.calls (order0 : List Int) (p1 : List (List Int)) (p2 : Int) (p3 : List Int) (w : World) (r : Int × (List Int)) {A_a : Option Addr} {A_an : Nat} (A_c : Nat) (A_h : Rw w A_a 1 encI64 order0) (A_hn : order0.length = A_an) {B_a : Option Addr} {B_an : Nat} (B_c : Nat) {B_hs : List Hd} (B_h : Rw w B_a 1 encHd B_hs) (B_hn : p1.length = B_an) {D_a : Option Addr} {D_an : Nat} (D_c : Nat) (D_hn : p3.length = D_an) (B_b : Nat) (C_b : Nat) (D_b : Nat) (hm0 : Mem w (bs [some B_b, some C_b, some D_b]) [⟨some B_b, 31, [(.slice B_a B_an B_c)]⟩, ⟨some C_b, 2, [(.int .i64 p2)]⟩, ⟨some D_b, 34, [(.slice D_a D_an D_c)]⟩] w) (A_ha : order0 ≠ [] → aB A_a ∉ bs [some B_b, some C_b, some D_b]) (B_ha : B_hs ≠ [] → aB B_a ∉ bs [some B_b, some C_b, some D_b]) (B_i : Inn w (bs [some B_b, some C_b, some D_b]) 1 encI64 B_hs p1) (h : impl_BestOrder_1 order0 p1 p2 p3 = some r) :
    Calls Try.prog 36 #[(.slice A_a A_an A_c), (.pointer (some ⟨B_b, 0, none⟩)), (.pointer (some ⟨C_b, 0, none⟩)), (.pointer (some ⟨D_b, 0, none⟩))] w fun e w' => ∃ v, e = .returned v ∧ (∃ (lo : Option Nat) (la : Option Addr) (lc : Nat) (lsp : List Value) (ln : Nat), r.2.length = ln ∧ LsB lo la lc lsp ln r.2 1 [(D_a, D_c, p3), (A_a, A_c, order0)] ∧ v = .tuple #[] ∧ Mem w (bs [some B_b, some C_b, some D_b]) [⟨some B_b, 31, [(.slice B_a B_an B_c)]⟩, ⟨some C_b, 2, [(.int .i64 r.1)]⟩, ⟨some D_b, 34, [(.slice la ln lc)]⟩, ⟨lo, 2, row encI64 r.2 lsp⟩] w') := by
  subst A_hn B_hn D_hn
  rw [impl_BestOrder_1] at h
  refine enter (args := [(.slice A_a order0.length A_c), (.pointer (some ⟨B_b, 0, none⟩)), (.pointer (some ⟨C_b, 0, none⟩)), (.pointer (some ⟨D_b, 0, none⟩))]) Try.func36 rfl Try.ntmps36 (by kernel_rfl) (L := [⟨some B_b, 31, [(.slice B_a p1.length B_c)]⟩, ⟨some C_b, 2, [(.int .i64 p2)]⟩, ⟨some D_b, 34, [(.slice D_a p3.length D_c)]⟩]) (W := bs [some B_b, some C_b, some D_b]) hm0 ?_
  refine jc_ghostX 2 encI64 p3 ?_
  refine jc_seq (jc_region (qh [0,0] ?_))
  obtain ⟨t_1, ht_1, h⟩ := bd h
  refine tO (pc 0 (fun w hm => impl_orderCost.calls p1 order0 w _ B_c (hm.exRowW B_h B_ha) rfl (hm.innPass (N := []) B_i [] (by kernel_rfl)) A_c (hm.exRowW A_h A_ha) rfl ht_1) ?_)
  rintro w v w' hm ⟨rfl, hm'⟩
  refine ⟨_, hm.app hm', jkO ?_⟩
  clear hm hm'
  refine qh [0] (qe (jx_then (jc_seq (jc_region (qf [(1, 0), (0, 0), (0, 0), (0, 1), (1, 1), (0, 1), (0, 0)] (qe (jx_then (qi h (fun h => ?_) (fun h => ?_)))))))))
  ·refine jc_region (qh [0,0] (tO (qs 0 [2] (jk_lsN 3 2 encI64 order0 (jkO (tO (qs 0 [1] (jkO (qe (jx_fall ?_))))))))))
   obtain rfl := Option.some.inj h
   exact qr [] (fun w hm => ⟨(none : Option Nat), A_a, A_c, [], order0.length, rfl, ls1, rfl, hm.pk [0, 1, 2, 3]⟩)
  ·refine jc_skip (jx_fall ?_)
   obtain rfl := Option.some.inj h
   exact qr [] (fun w hm => ⟨(none : Option Nat), D_a, D_c, [], p3.length, rfl, ls0, rfl, hm.pk [0, 1, 2, 3]⟩)
/-! ### slices.Index[[]int64,int64] -/
def slices_Index_int64.k_1 : Option (Int) := some (-1)
def slices_Index_int64.l_3 (s0 : List Int) (v1 : Int) : Int → Option ((Int) ⊕ (Int ⊕ Unit))
  | i_2 => (if (decide (i_2 < (s0.length : Int))) = true then (ix s0 i_2).bind fun x_5 => (if (v1 == x_5) = true then some (.inr (.inl i_2)) else some (.inl (w64 (i_2 + 1)))) else some (.inr (.inr ())))
def slices_Index_int64 (s0 : List Int) (v1 : Int) : Option (Int) := (loop (slices_Index_int64.l_3 s0 v1) 0).bind fun t_4 => match t_4 with | .inl p => some p | .inr p => slices_Index_int64.k_1
theorem slices_Index_int64.calls (s0 : List Int) (v1 : Int) (w : World) (r : Int) {A_a : Option Addr} {A_an : Nat} (A_c : Nat) (A_h : Rw w A_a 1 encI64 s0) (A_hn : s0.length = A_an) (h : slices_Index_int64 s0 v1 = some r) :
    Calls Try.prog 74 #[(.slice A_a A_an A_c), (.int .i64 v1)] w fun e w' => ∃ v, e = .returned v ∧ (v = (.int .i64 r) ∧ Mem w [] [] w') := by
  subst A_hn
  rw [slices_Index_int64] at h
  refine enter (args := [(.slice A_a s0.length A_c), (.int .i64 v1)]) Try.func74 rfl Try.ntmps74 (by kernel_rfl) (L := []) (W := []) (Mem.start w) ?_
  refine jc_seq (jc_region (qh [0] (qe (jx_then (jc_seq (jc_seq (jc_region (qh [0,0,0] (qe (jx_then (jc_meet (fun (_ : Unit) => slices_Index_int64.k_1 = some r) (fun (_ : Unit) => [(4, [], (.int .i64 0))]) (fun (_ : Unit) => []) ?_ ?_)))))))))))
  ·refine jc_block ?_
   obtain ⟨t_4, ht_34, hr_26⟩ := bd h
   refine jc_loop (fun (s : Int) (x : Unit) => match s, x with | i_2, _ => True) (fun (s : Int) (x : Unit) => match s, x with | i_2, _ => [(0, [], (.slice A_a s0.length A_c)), (1, [], (.int .i64 v1)), (4, [], (.int .i64 0)), (7, [], (.int .i64 (s0.length : Int))), (8, [], (.int .i64 i_2))]) (fun (s : Int) (x : Unit) => match s, x with | i_2, _ => []) ht_34 () trivial (by kernel_rfl) [] (by kernel_rfl) (by kernel_rfl) ?_
   rintro i_2 _ y_27 _ h
   rw [slices_Index_int64.l_3] at h
   refine jc_seq (jc_region (qh [0] (qe (jx_then (jc_seq (qi h (fun h => ?_) (fun h => ?_)))))))
   ·refine jc_skip (jx_then (jc_seq (jc_block (jc_seq (jc_region (qh [0,0] (qe (jx_then (jc_seq (jc_region (qh [0,0,0] ?_)))))))))))
    obtain ⟨x_5, hx_30, h⟩ := bd h
    refine tO (qx 0 A_a 1 hx_30 rfl (A_h.sp hx_30) (jkO (tO (ql 0 false (fun w hm => ((hm.xr A_h).at hx_30)) (jkO (qh [0] (qe (jx_then (qi h (fun h => ?_) (fun h => ?_))))))))))
    ·refine jc_seq (jc_region (qh [0,0] (qe (jx_then (jc_ret (jx_inr (jx_thenr (jx_leaver (.inl i_2) (Option.some.inj h).symm (fun e_32 => ?_)))))))))
     subst e_32
     refine jx_inr (jx_thenr (jx_thenr ?_))
     obtain rfl := Option.some.inj hr_26
     exact qr [] (fun w hm => ⟨rfl, hm.pk []⟩)
    ·exact jc_skip (jx_inn (jx_then (jc_region (qh [0,0] (qe (qb (w64 (i_2 + 1)) () h trivial []))))))
   ·refine jc_exit (jx_thenx (jx_leave (.inr ()) (Option.some.inj h).symm (fun e_33 => ?_)))
    subst e_33
    exact jx_ine (qm () hr_26 [])
  ·rintro _ h
   replace h : slices_Index_int64.k_1 = some r := h
   rw [slices_Index_int64.k_1] at h
   refine jx_then (jc_seq (jc_region (qh [0] (qe (jx_then (jc_ret ?_))))))
   obtain rfl := Option.some.inj h
   exact qr [] (fun w hm => ⟨rfl, hm.pk []⟩)
/-! ### slices.Contains[[]int64,int64] -/
def slices_Contains_int64 (s0 : List Int) (v1 : Int) : Option (Bool) := (slices_Index_int64 s0 v1).bind fun t_1 => some (decide (t_1 ≥ 0))
theorem slices_Contains_int64.calls (s0 : List Int) (v1 : Int) (w : World) (r : Bool) {A_a : Option Addr} {A_an : Nat} (A_c : Nat) (A_h : Rw w A_a 1 encI64 s0) (A_hn : s0.length = A_an) (h : slices_Contains_int64 s0 v1 = some r) :
    Calls Try.prog 49 #[(.slice A_a A_an A_c), (.int .i64 v1)] w fun e w' => ∃ v, e = .returned v ∧ (v = (.bool r) ∧ Mem w [] [] w') := by
  subst A_hn
  rw [slices_Contains_int64] at h
  refine enter (args := [(.slice A_a s0.length A_c), (.int .i64 v1)]) Try.func49 rfl Try.ntmps49 (by kernel_rfl) (L := []) (W := []) (Mem.start w) ?_
  refine jc_seq (jc_region (qh [0] (qe (jx_then (jc_seq (jc_region (qh [0,0] ?_)))))))
  obtain ⟨t_1, ht_1, h⟩ := bd h
  refine tO (pc 0 (fun w hm => slices_Index_int64.calls s0 v1 w _ A_c (hm.xr A_h) rfl ht_1) ?_)
  rintro w v w' hm ⟨rfl, hm'⟩
  refine ⟨_, hm.app hm', jkO ?_⟩
  clear hm hm'
  refine qh [0,0] (qe (jx_then (jc_ret ?_)))
  obtain rfl := Option.some.inj h
  exact qr [] (fun w hm => ⟨rfl, hm.pk []⟩)
/-! ### slices.Clone[[]int64,int64] -/
def slices_Clone_int64 (s0 : List Int) : Option ((List Int)) := (if ([] : List Int).length + s0.length ≤ 4294967296 then some (([] : List Int) ++ s0) else none)
theorem slices_Clone_int64.calls (s0 : List Int) (w : World) (r : (List Int)) {A_a : Option Addr} {A_an : Nat} (A_c : Nat) (A_h : Rw w A_a 1 encI64 s0) (A_hn : s0.length = A_an) (h : slices_Clone_int64 s0 = some r) :
    Calls Try.prog 67 #[(.slice A_a A_an A_c)] w fun e w' => ∃ v, e = .returned v ∧ (∃ (o0 : Option Nat) (c0 : Nat) (s0 : List Value) (n0 : Nat), r.length = n0 ∧ (o0 ≠ none → n0 ≤ c0 ∧ s0.length = (c0 - n0) * 1) ∧ (o0 = none → r = [] ∧ c0 = 0) ∧ v = .slice (o0.map fun b => ⟨b, 0, none⟩) n0 c0 ∧ Mem w [] [⟨o0, 2, row encI64 r s0⟩] w') := by
  subst A_hn
  rw [slices_Clone_int64] at h
  refine enter (args := [(.slice A_a s0.length A_c)]) Try.func67 rfl Try.ntmps67 (by kernel_rfl) (L := []) (W := []) (Mem.start w) ?_
  refine jc_seq (jc_region (qh [0] (qe (jx_then (jc_seq (jc_seq (jc_region (qh [0] ?_))))))))
  by_cases hn_4 : A_a = none
  ·have hx0 : s0 = [] := (nil_of A_h hn_4)
   replace h : some [] = some r := by simpa [hx0] using h
   refine tO (p_nil 0 A_a true true (by kernel_rfl) (by kernel_rfl) (by rw [hn_4]; rfl) (jkO (qe (jx_then (jc_cond true (by kernel_rfl) (fun hc_5 => (jc_seq (jc_region (qh [0] (qe (jx_then (jc_ret (jx_thenr ?_)))))))) (fun hc_5 => nomatch hc_5))))))
   obtain rfl := Option.some.inj h
   exact jx_ghost 2 encI64 (qr [] (fun w hm => ⟨none, 0, [], 0, rfl, (fun e => absurd rfl e), (fun _ => ⟨rfl, rfl⟩), rfl, hm.pk [0]⟩))
  ·refine tO (p_nil 0 A_a true false (by kernel_rfl) (by kernel_rfl) (by rw [Option.isNone_eq_false_iff.2 (Option.ne_none_iff_isSome.1 hn_4)]; rfl) (jkO (qe (jx_then (jc_cond false (by kernel_rfl) (fun hc_6 => nomatch hc_6) (fun hc_6 => (jc_skip (jx_then (jc_seq (jc_region (tO (qa 0 (fun b_7 => jkO (qh [0] ?_))))))))))))))
   obtain ⟨hg_8, h⟩ := gd h
   refine tO (p_apn 0 0 (some b_7) 2 0 s0.length 0 1 8 A_a encI64 ([] : List Int) s0 [] (.int .i64 0) rfl rfl (by kernel_rfl) (by kernel_rfl) (by kernel_rfl) encI64_len encI64_cell (fun _ => ⟨Nat.le_refl _, by simp⟩) (fun e => nomatch e) (fun w hm => (hm.xr A_h)) hg_8 (by kernel_rfl) (by kernel_rfl) (fun o_9 cap_10 sp_11 hs_12 ho_13 => jkO (qh [0] (qe (jx_then (jc_ret ?_))))))
   obtain rfl := Option.some.inj h
   exact qr [] (fun w hm => ⟨o_9, cap_10, sp_11, ((([] : List Int) ++ s0).length), rfl, hs_12, ho_13, rfl, hm.pk [0]⟩)
/-! ### impl.orders -/
def impl_orders_at_impl_BestOrder_1.k_6 (xs_3 : List Int) (i_5 : Int) : Option (Int × (List Int)) := some (i_5, xs_3)
def impl_orders_at_impl_BestOrder_1.l_11 (self_ : Int → (List Int) → (List (List Int)) → Int → (List Int) → Option (Int × (List Int))) (n0 : Int) (order1 : List Int) (g2c0 : List (List Int)) : ((List Int) × Int × Int) → Option (((List Int) × Int × Int) ⊕ (((List Int) × Int)))
  | (xs_7, i_9, i_10) => (if (decide (i_10 < n0)) = true then (slices_Contains_int64 order1 i_10).bind fun t_13 => (if (!t_13) = true then (slices_Clone_int64 order1).bind fun t_14 => (if t_14.length + ([i_10] : List Int).length ≤ 4294967296 then (self_ n0 (t_14 ++ ([i_10] : List Int)) g2c0 i_9 xs_7).bind fun t_15 => some (.inl (t_15.2, t_15.1, (w64 (i_10 + 1)))) else none) else some (.inl (xs_7, i_9, (w64 (i_10 + 1))))) else some (.inr (xs_7, i_9)))
def impl_orders_at_impl_BestOrder_1.step (self_ : Int → (List Int) → (List (List Int)) → Int → (List Int) → Option (Int × (List Int))) (n0 : Int) (order1 : List Int) (g2c0 : List (List Int)) (g2c1 : Int) (g2c2 : List Int) : Option (Int × (List Int)) := (if ((order1.length : Int) == n0) = true then (impl_BestOrder_1 order1 g2c0 g2c1 g2c2).bind fun t_1 => some (t_1.1, t_1.2) else (loop (impl_orders_at_impl_BestOrder_1.l_11 self_ n0 order1 g2c0) (g2c2, g2c1, 0)).bind fun t_12 => impl_orders_at_impl_BestOrder_1.k_6 t_12.1 t_12.2)
def impl_orders_at_impl_BestOrder_1.rec_ : Nat → Int → (List Int) → (List (List Int)) → Int → (List Int) → Option (Int × (List Int))
  | 0 => fun n0 order1 g2c0 g2c1 g2c2 => none
  | fu + 1 => impl_orders_at_impl_BestOrder_1.step (impl_orders_at_impl_BestOrder_1.rec_ fu)
def impl_orders_at_impl_BestOrder_1 (n0 : Int) (order1 : List Int) (g2c0 : List (List Int)) (g2c1 : Int) (g2c2 : List Int) : Option (Int × (List Int)) := impl_orders_at_impl_BestOrder_1.rec_ 16 n0 order1 g2c0 g2c1 g2c2
theorem impl_orders_at_impl_BestOrder_1.step_calls (self_ : Int → (List Int) → (List (List Int)) → Int → (List Int) → Option (Int × (List Int))) (hself : ∀ (n0 : Int) (order1 : List Int) (g2c0 : List (List Int)) (g2c1 : Int) (g2c2 : List Int) (w : World) (r : Int × (List Int)) {B_a : Option Addr} {B_an : Nat} (B_c : Nat) (B_h : Rw w B_a 1 encI64 order1) (B_hn : order1.length = B_an) {C_a : Option Addr} {C_an : Nat} (C_c : Nat) {C_hs : List Hd} (C_h : Rw w C_a 1 encHd C_hs) (C_hn : g2c0.length = C_an) {E_a : Option Addr} {E_an : Nat} (E_c : Nat) (E_hn : g2c2.length = E_an) (C_b : Nat) (D_b : Nat) (E_b : Nat) (hm0 : Mem w (bs [some C_b, some D_b, some E_b]) [⟨some C_b, 31, [(.slice C_a C_an C_c)]⟩, ⟨some D_b, 2, [(.int .i64 g2c1)]⟩, ⟨some E_b, 34, [(.slice E_a E_an E_c)]⟩] w) (B_ha : order1 ≠ [] → aB B_a ∉ bs [some C_b, some D_b, some E_b]) (C_ha : C_hs ≠ [] → aB C_a ∉ bs [some C_b, some D_b, some E_b]) (C_i : Inn w (bs [some C_b, some D_b, some E_b]) 1 encI64 C_hs g2c0) (h : self_ n0 order1 g2c0 g2c1 g2c2 = some r),
    Calls Try.prog 34 #[(.int .i64 n0), (.slice B_a B_an B_c), (.func (.func 36) #[] #[(.pointer (some ⟨C_b, 0, none⟩)), (.pointer (some ⟨D_b, 0, none⟩)), (.pointer (some ⟨E_b, 0, none⟩))])] w fun e w' => ∃ v, e = .returned v ∧ (∃ (lo : Option Nat) (la : Option Addr) (lc : Nat) (lsp : List Value) (ln : Nat), r.2.length = ln ∧ LsB lo la lc lsp ln r.2 1 [(E_a, E_c, g2c2), (B_a, B_c, order1)] ∧ v = .tuple #[] ∧ Mem w (bs [some C_b, some D_b, some E_b]) [⟨some C_b, 31, [(.slice C_a C_an C_c)]⟩, ⟨some D_b, 2, [(.int .i64 r.1)]⟩, ⟨some E_b, 34, [(.slice la ln lc)]⟩, ⟨lo, 2, row encI64 r.2 lsp⟩] w')) (n0 : Int) (order1 : List Int) (g2c0 : List (List Int)) (g2c1 : Int) (g2c2 : List Int) (w : World) (r : Int × (List Int)) {B_a : Option Addr} {B_an : Nat} (B_c : Nat) (B_h : Rw w B_a 1 encI64 order1) (B_hn : order1.length = B_an) {C_a : Option Addr} {C_an : Nat} (C_c : Nat) {C_hs : List Hd} (C_h : Rw w C_a 1 encHd C_hs) (C_hn : g2c0.length = C_an) {E_a : Option Addr} {E_an : Nat} (E_c : Nat) (E_hn : g2c2.length = E_an) (C_b : Nat) (D_b : Nat) (E_b : Nat) (hm0 : Mem w (bs [some C_b, some D_b, some E_b]) [⟨some C_b, 31, [(.slice C_a C_an C_c)]⟩, ⟨some D_b, 2, [(.int .i64 g2c1)]⟩, ⟨some E_b, 34, [(.slice E_a E_an E_c)]⟩] w) (B_ha : order1 ≠ [] → aB B_a ∉ bs [some C_b, some D_b, some E_b]) (C_ha : C_hs ≠ [] → aB C_a ∉ bs [some C_b, some D_b, some E_b]) (C_i : Inn w (bs [some C_b, some D_b, some E_b]) 1 encI64 C_hs g2c0) (h : impl_orders_at_impl_BestOrder_1.step self_ n0 order1 g2c0 g2c1 g2c2 = some r) :
    Calls Try.prog 34 #[(.int .i64 n0), (.slice B_a B_an B_c), (.func (.func 36) #[] #[(.pointer (some ⟨C_b, 0, none⟩)), (.pointer (some ⟨D_b, 0, none⟩)), (.pointer (some ⟨E_b, 0, none⟩))])] w fun e w' => ∃ v, e = .returned v ∧ (∃ (lo : Option Nat) (la : Option Addr) (lc : Nat) (lsp : List Value) (ln : Nat), r.2.length = ln ∧ LsB lo la lc lsp ln r.2 1 [(E_a, E_c, g2c2), (B_a, B_c, order1)] ∧ v = .tuple #[] ∧ Mem w (bs [some C_b, some D_b, some E_b]) [⟨some C_b, 31, [(.slice C_a C_an C_c)]⟩, ⟨some D_b, 2, [(.int .i64 r.1)]⟩, ⟨some E_b, 34, [(.slice la ln lc)]⟩, ⟨lo, 2, row encI64 r.2 lsp⟩] w') := by
  subst B_hn C_hn E_hn
  rw [impl_orders_at_impl_BestOrder_1.step] at h
  refine enter (args := [(.int .i64 n0), (.slice B_a order1.length B_c), (.func (.func 36) #[] #[(.pointer (some ⟨C_b, 0, none⟩)), (.pointer (some ⟨D_b, 0, none⟩)), (.pointer (some ⟨E_b, 0, none⟩))])]) Try.func34 rfl Try.ntmps34 (by kernel_rfl) (L := [⟨some C_b, 31, [(.slice C_a g2c0.length C_c)]⟩, ⟨some D_b, 2, [(.int .i64 g2c1)]⟩, ⟨some E_b, 34, [(.slice E_a g2c2.length E_c)]⟩]) (W := bs [some C_b, some D_b, some E_b]) hm0 ?_
  refine jc_ghostX 2 encI64 g2c2 ?_
  refine jc_seq (jc_seq (jc_region (qh [0,0,0,0] (qe (jx_then (qi h (fun h => ?_) (fun h => ?_)))))))
  ·refine jc_seq (jc_region (qh [0,0] ?_))
   obtain ⟨t_1, ht_12, h⟩ := bd h
   refine tO (pc 0 (fun w hm => impl_BestOrder_1.calls order1 g2c0 g2c1 g2c2 w _ B_c (hm.exRowW B_h B_ha) rfl C_c (hm.exRowW C_h C_ha) rfl E_c rfl C_b D_b E_b (hm.pass (N := [⟨some C_b, 31, [(.slice C_a g2c0.length C_c)]⟩, ⟨some D_b, 2, [(.int .i64 g2c1)]⟩, ⟨some E_b, 34, [(.slice E_a g2c2.length E_c)]⟩]) [0, 1, 2] (by kernel_rfl) (by kernel_rfl)) (hm.exApart (N := [⟨some C_b, 31, [(.slice C_a g2c0.length C_c)]⟩, ⟨some D_b, 2, [(.int .i64 g2c1)]⟩, ⟨some E_b, 34, [(.slice E_a g2c2.length E_c)]⟩]) B_h B_ha [0, 1, 2] (by kernel_rfl)) (hm.exApart (N := [⟨some C_b, 31, [(.slice C_a g2c0.length C_c)]⟩, ⟨some D_b, 2, [(.int .i64 g2c1)]⟩, ⟨some E_b, 34, [(.slice E_a g2c2.length E_c)]⟩]) C_h C_ha [0, 1, 2] (by kernel_rfl)) (hm.innPass (N := [⟨some C_b, 31, [(.slice C_a g2c0.length C_c)]⟩, ⟨some D_b, 2, [(.int .i64 g2c1)]⟩, ⟨some E_b, 34, [(.slice E_a g2c2.length E_c)]⟩]) C_i [0, 1, 2] (by kernel_rfl)) ht_12) ?_)
   rintro w v w' hm ⟨o_13, a_2, cap_14, sp_15, _, rfl, hl_16, rfl, hm'⟩
   obtain ⟨o_17, sp_18, hl_19, hM_20⟩ := Mem.ls2 (T := 2) (enc := encI64) (o1 := (none : Option Nat)) (sp1 := []) (xs1 := g2c2) (o := o_13) (sp := sp_15) (xs := t_1.2) (F := [(E_a, E_c, g2c2), (B_a, B_c, order1)]) (hm.appW (ps := [(0, ⟨some C_b, 31, [(.slice C_a g2c0.length C_c)]⟩), (1, ⟨some D_b, 2, [(.int .i64 t_1.1)]⟩), (2, ⟨some E_b, 34, [(.slice a_2 t_1.2.length cap_14)]⟩)]) (N := [⟨o_13, 2, row encI64 t_1.2 sp_15⟩]) hm' (by kernel_rfl) (by kernel_rfl)) 3 4 (by kernel_rfl) (by kernel_rfl) (by kernel_rfl) ls0 rfl (.inl (List.mem_cons_of_mem _ List.mem_cons_self)) rfl hl_16
   refine ⟨_, Mem.pick hM_20 (N := [⟨some C_b, 31, [(.slice C_a g2c0.length C_c)]⟩, ⟨some D_b, 2, [(.int .i64 t_1.1)]⟩, ⟨some E_b, 34, [(.slice a_2 t_1.2.length cap_14)]⟩, ⟨o_17, 2, row encI64 t_1.2 sp_18⟩]) [0, 1, 2, 3] (by kernel_rfl) (by kernel_rfl), jkO ?_⟩
   clear hm hm' hM_20
   refine qe (jx_then (jc_ret (jx_thenr ?_)))
   obtain rfl := Option.some.inj h
   exact qr [] (fun w hm => ⟨o_17, a_2, cap_14, sp_18, t_1.2.length, rfl, hl_19, rfl, hm.pk [0, 1, 2, 3]⟩)
  ·refine jc_skip (jx_then (jc_seq (jc_region (qh [0,0] (qe (jx_then (jc_meet (fun (j : (List Int) × Int × (Option Nat) × (Option Addr) × Nat × (List Value) × Nat) => match j with | ⟨xs_3, i_5, o_113, a_4, cap_114, sp_115, n_116⟩ => impl_orders_at_impl_BestOrder_1.k_6 xs_3 i_5 = some r ∧ (xs_3.length = n_116) ∧ (LsB o_113 a_4 cap_114 sp_115 n_116 xs_3 1 [(E_a, E_c, g2c2), (B_a, B_c, order1)])) (fun (j : (List Int) × Int × (Option Nat) × (Option Addr) × Nat × (List Value) × Nat) => match j with | ⟨xs_3, i_5, o_113, a_4, cap_114, sp_115, n_116⟩ => []) (fun (j : (List Int) × Int × (Option Nat) × (Option Addr) × Nat × (List Value) × Nat) => match j with | ⟨xs_3, i_5, o_113, a_4, cap_114, sp_115, n_116⟩ => [⟨some C_b, 31, [(.slice C_a g2c0.length C_c)]⟩, ⟨some D_b, 2, [(.int .i64 i_5)]⟩, ⟨some E_b, 34, [(.slice a_4 n_116 cap_114)]⟩, ⟨o_113, 2, row encI64 xs_3 sp_115⟩]) ?_ ?_)))))))
   ·refine jc_block ?_
    obtain ⟨t_12, ht_209, hr_180⟩ := bd h
    refine jc_loop (fun (s : (List Int) × Int × Int) (x : (Option Nat) × (Option Addr) × Nat × (List Value) × Nat) => match s, x with | ⟨xs_7, i_9, i_10⟩, ⟨o_175, a_8, cap_176, sp_177, n_178⟩ => (xs_7.length = n_178) ∧ (LsB o_175 a_8 cap_176 sp_177 n_178 xs_7 1 [(E_a, E_c, g2c2), (B_a, B_c, order1)])) (fun (s : (List Int) × Int × Int) (x : (Option Nat) × (Option Addr) × Nat × (List Value) × Nat) => match s, x with | ⟨xs_7, i_9, i_10⟩, ⟨o_175, a_8, cap_176, sp_177, n_178⟩ => [(0, [], (.int .i64 n0)), (1, [], (.slice B_a order1.length B_c)), (2, [], (.func (.func 36) #[] #[(.pointer (some ⟨C_b, 0, none⟩)), (.pointer (some ⟨D_b, 0, none⟩)), (.pointer (some ⟨E_b, 0, none⟩))])), (14, [], (.int .i64 n0)), (15, [], (.int .i64 i_10))]) (fun (s : (List Int) × Int × Int) (x : (Option Nat) × (Option Addr) × Nat × (List Value) × Nat) => match s, x with | ⟨xs_7, i_9, i_10⟩, ⟨o_175, a_8, cap_176, sp_177, n_178⟩ => [⟨some C_b, 31, [(.slice C_a g2c0.length C_c)]⟩, ⟨some D_b, 2, [(.int .i64 i_9)]⟩, ⟨some E_b, 34, [(.slice a_8 n_178 cap_176)]⟩, ⟨o_175, 2, row encI64 xs_7 sp_177⟩]) ht_209 ⟨(none : Option Nat), E_a, E_c, [], g2c2.length⟩ ⟨rfl, ls0⟩ (by kernel_rfl) [0, 1, 2, 3] (by kernel_rfl) (by kernel_rfl) ?_
    rintro ⟨xs_7, i_9, i_10⟩ ⟨o_175, a_8, cap_176, sp_177, n_178⟩ y_181 ⟨rfl, hl_179⟩ h
    rw [impl_orders_at_impl_BestOrder_1.l_11] at h
    refine jc_seq (jc_region (qh [0] (qe (jx_then (jc_seq (qi h (fun h => ?_) (fun h => ?_)))))))
    ·refine jc_skip (jx_then (jc_seq (jc_block (jc_seq (jc_region (qh [0,0] (qe (jx_then (jc_seq (jc_region (qh [0,0] ?_)))))))))))
     obtain ⟨t_13, ht_184, h⟩ := bd h
     refine tO (pc 0 (fun w hm => slices_Contains_int64.calls order1 i_10 w _ B_c (hm.exRowW B_h B_ha) rfl ht_184) ?_)
     rintro w v w' hm ⟨rfl, hm'⟩
     refine ⟨_, hm.app hm', jkO ?_⟩
     clear hm hm'
     refine qh [0] (qe (jx_then (qi h (fun h => ?_) (fun h => ?_))))
     ·refine jc_region (qh [0,0] ?_)
      obtain ⟨t_14, ht_186, h⟩ := bd h
      refine tO (pc 0 (fun w hm => slices_Clone_int64.calls order1 w _ B_c (hm.exRowW B_h B_ha) rfl ht_186) ?_)
      rintro w v w' hm ⟨o_187, cap_188, sp_189, _, rfl, hs_190, ho_191, rfl, hm'⟩
      refine ⟨_, hm.app hm', jkO ?_⟩
      clear hm hm'
      refine qh [0] (tO (qa 0 (fun b_192 => jkO ?_)))
      obtain ⟨hg_193, h⟩ := gd h
      refine tO (p_apn 0 4 o_187 2 t_14.length 1 cap_188 1 8 (some ⟨b_192, 0, none⟩) encI64 t_14 ([i_10] : List Int) sp_189 (.int .i64 0) rfl rfl (by kernel_rfl) (by kernel_rfl) (by kernel_rfl) encI64_len encI64_cell hs_190 ho_191 (fun w hm => (hm.ow 5 (some b_192) 2 ([i_10] : List Int) [] (fun e => nomatch e) encI64_len)) hg_193 (by kernel_rfl) (by kernel_rfl) (fun o_194 cap_195 sp_196 hs_197 ho_198 => jkO (qh [0] ?_)))
      obtain ⟨t_15, ht_199, h⟩ := bd h
      refine tO (pc 0 (fun w hm => hself n0 (t_14 ++ ([i_10] : List Int)) g2c0 i_9 xs_7 w _ cap_195 (hm.ow 4 o_194 2 (t_14 ++ ([i_10] : List Int)) sp_196 (fun e => (ho_198 e).1) encI64_len) rfl C_c (hm.exRowW C_h C_ha) rfl cap_176 rfl C_b D_b E_b (hm.pass (N := [⟨some C_b, 31, [(.slice C_a g2c0.length C_c)]⟩, ⟨some D_b, 2, [(.int .i64 i_9)]⟩, ⟨some E_b, 34, [(.slice a_8 xs_7.length cap_176)]⟩]) [0, 1, 2] (by kernel_rfl) (by kernel_rfl)) (hm.ownApart (S := Int) (N := [⟨some C_b, 31, [(.slice C_a g2c0.length C_c)]⟩, ⟨some D_b, 2, [(.int .i64 i_9)]⟩, ⟨some E_b, 34, [(.slice a_8 xs_7.length cap_176)]⟩]) (hh := 4) (o := o_194) (T := 2) (cs := row encI64 (t_14 ++ ([i_10] : List Int)) sp_196) (xs := (t_14 ++ ([i_10] : List Int))) (by kernel_rfl) (fun e => (ho_198 e).1) [0, 1, 2] (by kernel_rfl) (by kernel_rfl)) (hm.exApart (N := [⟨some C_b, 31, [(.slice C_a g2c0.length C_c)]⟩, ⟨some D_b, 2, [(.int .i64 i_9)]⟩, ⟨some E_b, 34, [(.slice a_8 xs_7.length cap_176)]⟩]) C_h C_ha [0, 1, 2] (by kernel_rfl)) (hm.innPass (N := [⟨some C_b, 31, [(.slice C_a g2c0.length C_c)]⟩, ⟨some D_b, 2, [(.int .i64 i_9)]⟩, ⟨some E_b, 34, [(.slice a_8 xs_7.length cap_176)]⟩]) C_i [0, 1, 2] (by kernel_rfl)) ht_199) ?_)
      rintro w v w' hm ⟨o_200, a_16, cap_201, sp_202, _, rfl, hl_203, rfl, hm'⟩
      obtain ⟨o_204, sp_205, hl_206, hM_207⟩ := Mem.ls3 (T := 2) (enc := encI64) (o1 := o_175) (sp1 := sp_177) (xs1 := xs_7) (o := o_200) (sp := sp_202) (xs := t_15.2) (F := [(E_a, E_c, g2c2), (B_a, B_c, order1)]) (o2 := o_194) (sp2 := sp_196) (xs2 := (t_14 ++ ([i_10] : List Int))) (hm.appW (ps := [(0, ⟨some C_b, 31, [(.slice C_a g2c0.length C_c)]⟩), (1, ⟨some D_b, 2, [(.int .i64 t_15.1)]⟩), (2, ⟨some E_b, 34, [(.slice a_16 t_15.2.length cap_201)]⟩)]) (N := [⟨o_200, 2, row encI64 t_15.2 sp_202⟩]) hm' (by kernel_rfl) (by kernel_rfl)) 3 4 6 (by kernel_rfl) (by kernel_rfl) (by kernel_rfl) (by kernel_rfl) hl_179 rfl hs_197 ho_198 rfl rfl hl_203
      refine ⟨_, Mem.pick hM_207 (N := [⟨some C_b, 31, [(.slice C_a g2c0.length C_c)]⟩, ⟨some D_b, 2, [(.int .i64 t_15.1)]⟩, ⟨some E_b, 34, [(.slice a_16 t_15.2.length cap_201)]⟩, ⟨o_204, 2, row encI64 t_15.2 sp_205⟩, ⟨none, 0, []⟩, ⟨(some b_192), 2, row encI64 ([i_10] : List Int) []⟩]) [0, 1, 2, 3, 4, 5] (by kernel_rfl) (by kernel_rfl), jkO ?_⟩
      clear hm hm' hM_207
      exact qe (jx_inn (jx_then (jc_region (qh [0,0] (qe (qb (t_15.2, t_15.1, (w64 (i_10 + 1))) ⟨o_204, a_16, cap_201, sp_205, t_15.2.length⟩ h ⟨rfl, hl_206⟩ [0, 1, 2, 3]))))))
     ·exact jc_skip (jx_inn (jx_then (jc_region (qh [0,0] (qe (qb (xs_7, i_9, (w64 (i_10 + 1))) ⟨o_175, a_8, cap_176, sp_177, xs_7.length⟩ h ⟨rfl, hl_179⟩ [0, 1, 2, 3]))))))
    ·refine jc_exit (jx_thenx (jx_leave (xs_7, i_9) (Option.some.inj h).symm (fun e_208 => ?_)))
     subst e_208
     exact jx_ine (qm ⟨xs_7, i_9, o_175, a_8, cap_176, sp_177, xs_7.length⟩ ⟨hr_180, rfl, hl_179⟩ [0, 1, 2, 3])
   ·rintro ⟨xs_3, i_5, o_113, a_4, cap_114, sp_115, n_116⟩ ⟨h, rfl, hl_117⟩
    replace h : impl_orders_at_impl_BestOrder_1.k_6 xs_3 i_5 = some r := h
    rw [impl_orders_at_impl_BestOrder_1.k_6] at h
    refine jx_fall ?_
    obtain rfl := Option.some.inj h
    exact qr [] (fun w hm => ⟨o_113, a_4, cap_114, sp_115, xs_3.length, rfl, hl_117, rfl, hm.pk [0, 1, 2, 3]⟩)
theorem impl_orders_at_impl_BestOrder_1.rec_calls (fu : Nat) : ∀ (n0 : Int) (order1 : List Int) (g2c0 : List (List Int)) (g2c1 : Int) (g2c2 : List Int) (w : World) (r : Int × (List Int)) {B_a : Option Addr} {B_an : Nat} (B_c : Nat) (B_h : Rw w B_a 1 encI64 order1) (B_hn : order1.length = B_an) {C_a : Option Addr} {C_an : Nat} (C_c : Nat) {C_hs : List Hd} (C_h : Rw w C_a 1 encHd C_hs) (C_hn : g2c0.length = C_an) {E_a : Option Addr} {E_an : Nat} (E_c : Nat) (E_hn : g2c2.length = E_an) (C_b : Nat) (D_b : Nat) (E_b : Nat) (hm0 : Mem w (bs [some C_b, some D_b, some E_b]) [⟨some C_b, 31, [(.slice C_a C_an C_c)]⟩, ⟨some D_b, 2, [(.int .i64 g2c1)]⟩, ⟨some E_b, 34, [(.slice E_a E_an E_c)]⟩] w) (B_ha : order1 ≠ [] → aB B_a ∉ bs [some C_b, some D_b, some E_b]) (C_ha : C_hs ≠ [] → aB C_a ∉ bs [some C_b, some D_b, some E_b]) (C_i : Inn w (bs [some C_b, some D_b, some E_b]) 1 encI64 C_hs g2c0) (h : impl_orders_at_impl_BestOrder_1.rec_ fu n0 order1 g2c0 g2c1 g2c2 = some r),
    Calls Try.prog 34 #[(.int .i64 n0), (.slice B_a B_an B_c), (.func (.func 36) #[] #[(.pointer (some ⟨C_b, 0, none⟩)), (.pointer (some ⟨D_b, 0, none⟩)), (.pointer (some ⟨E_b, 0, none⟩))])] w fun e w' => ∃ v, e = .returned v ∧ (∃ (lo : Option Nat) (la : Option Addr) (lc : Nat) (lsp : List Value) (ln : Nat), r.2.length = ln ∧ LsB lo la lc lsp ln r.2 1 [(E_a, E_c, g2c2), (B_a, B_c, order1)] ∧ v = .tuple #[] ∧ Mem w (bs [some C_b, some D_b, some E_b]) [⟨some C_b, 31, [(.slice C_a C_an C_c)]⟩, ⟨some D_b, 2, [(.int .i64 r.1)]⟩, ⟨some E_b, 34, [(.slice la ln lc)]⟩, ⟨lo, 2, row encI64 r.2 lsp⟩] w') := by
  induction fu with
  | zero => intros; rename_i h; cases h
  | succ fu ih => exact @impl_orders_at_impl_BestOrder_1.step_calls _ (impl_orders_at_impl_BestOrder_1.rec_ fu) @ih
theorem impl_orders_at_impl_BestOrder_1.calls (n0 : Int) (order1 : List Int) (g2c0 : List (List Int)) (g2c1 : Int) (g2c2 : List Int) (w : World) (r : Int × (List Int)) {B_a : Option Addr} {B_an : Nat} (B_c : Nat) (B_h : Rw w B_a 1 encI64 order1) (B_hn : order1.length = B_an) {C_a : Option Addr} {C_an : Nat} (C_c : Nat) {C_hs : List Hd} (C_h : Rw w C_a 1 encHd C_hs) (C_hn : g2c0.length = C_an) {E_a : Option Addr} {E_an : Nat} (E_c : Nat) (E_hn : g2c2.length = E_an) (C_b : Nat) (D_b : Nat) (E_b : Nat) (hm0 : Mem w (bs [some C_b, some D_b, some E_b]) [⟨some C_b, 31, [(.slice C_a C_an C_c)]⟩, ⟨some D_b, 2, [(.int .i64 g2c1)]⟩, ⟨some E_b, 34, [(.slice E_a E_an E_c)]⟩] w) (B_ha : order1 ≠ [] → aB B_a ∉ bs [some C_b, some D_b, some E_b]) (C_ha : C_hs ≠ [] → aB C_a ∉ bs [some C_b, some D_b, some E_b]) (C_i : Inn w (bs [some C_b, some D_b, some E_b]) 1 encI64 C_hs g2c0) (h : impl_orders_at_impl_BestOrder_1 n0 order1 g2c0 g2c1 g2c2 = some r) :
    Calls Try.prog 34 #[(.int .i64 n0), (.slice B_a B_an B_c), (.func (.func 36) #[] #[(.pointer (some ⟨C_b, 0, none⟩)), (.pointer (some ⟨D_b, 0, none⟩)), (.pointer (some ⟨E_b, 0, none⟩))])] w fun e w' => ∃ v, e = .returned v ∧ (∃ (lo : Option Nat) (la : Option Addr) (lc : Nat) (lsp : List Value) (ln : Nat), r.2.length = ln ∧ LsB lo la lc lsp ln r.2 1 [(E_a, E_c, g2c2), (B_a, B_c, order1)] ∧ v = .tuple #[] ∧ Mem w (bs [some C_b, some D_b, some E_b]) [⟨some C_b, 31, [(.slice C_a C_an C_c)]⟩, ⟨some D_b, 2, [(.int .i64 r.1)]⟩, ⟨some E_b, 34, [(.slice la ln lc)]⟩, ⟨lo, 2, row encI64 r.2 lsp⟩] w') :=
  impl_orders_at_impl_BestOrder_1.rec_calls 16 n0 order1 g2c0 g2c1 g2c2 w r B_c B_h B_hn C_c C_h C_hn E_c E_hn C_b D_b E_b hm0 B_ha C_ha C_i h
/-! ### impl.BestOrder -/
def impl_BestOrder (f0 : GFrame) (list1 : List (Arr 96 Int)) (first2 : Int) : Option ((List Int) × Int × Int) := (impl_startCode f0 list1 first2).bind fun t_1 => (if (t_1 != 0) = true then some ([], 0, t_1) else (impl_costs list1).bind fun t_2 => (impl_begun first2).bind fun t_3 => (impl_orders_at_impl_BestOrder_1 (list1.length : Int) t_3 t_2 (-1) ([] : List Int)).bind fun t_4 => some (t_4.2, t_4.1, 0))
theorem impl_BestOrder.calls (f0 : GFrame) (list1 : List (Arr 96 Int)) (first2 : Int) (w : World) (r : (List Int) × Int × Int) {C_a : Option Addr} {C_an : Nat} (C_c : Nat) (C_h : Rw w C_a 2 encGHammer f0.fHammers) (C_hn : f0.fHammers.length = C_an) {D_a : Option Addr} {D_an : Nat} (D_c : Nat) (D_h : Rw w D_a 96 encA96U32 list1) (D_hn : list1.length = D_an) (h : impl_BestOrder f0 list1 first2 = some r) :
    Calls Try.prog 9 #[(.agg #[(.int .i16 f0.fSteps), (.slice C_a C_an C_c)]), (.slice D_a D_an D_c), (.int .i64 first2)] w fun e w' => ∃ v, e = .returned v ∧ (∃ (o0 : Option Nat) (c0 : Nat) (s0 : List Value) (n0 : Nat), r.1.length = n0 ∧ (o0 ≠ none → n0 ≤ c0 ∧ s0.length = (c0 - n0) * 1) ∧ (o0 = none → r.1 = [] ∧ c0 = 0) ∧ v = .tuple #[.slice (o0.map fun b => ⟨b, 0, none⟩) n0 c0, (.int .i64 r.2.1), (.int .i64 r.2.2)] ∧ Mem w [] [⟨o0, 2, row encI64 r.1 s0⟩] w') := by
  subst C_hn D_hn
  rw [impl_BestOrder] at h
  refine enter (args := [(.agg #[(.int .i16 f0.fSteps), (.slice C_a f0.fHammers.length C_c)]), (.slice D_a list1.length D_c), (.int .i64 first2)]) Try.func9 rfl Try.ntmps9 (by kernel_rfl) (L := []) (W := []) (Mem.start w) ?_
  refine jc_seq (jc_region (tO (qa 0 (fun b_1 => jkO (qh [0,0,0] (qe (jx_then (jc_seq (jc_seq (jc_region (qh [0,0,0] ?_)))))))))))
  obtain ⟨t_1, ht_4, h⟩ := bd h
  refine tO (pc 0 (fun w hm => impl_startCode.calls f0 list1 first2 w _ C_c (hm.xr C_h) rfl D_c (hm.xr D_h) rfl ht_4) ?_)
  rintro w v w' hm ⟨rfl, hm'⟩
  refine ⟨_, hm.app hm', jkO ?_⟩
  clear hm hm'
  refine qh [0] (qe (jx_then (jc_seq (jc_region (qh [0,0] (qe (jx_then (qi h (fun h => ?_) (fun h => ?_)))))))))
  ·refine jc_seq (jc_region (qh [0,0,0,0] (qe (jx_then (jc_ret (jx_thenr ?_))))))
   obtain rfl := Option.some.inj h
   exact jx_ghost 2 encI64 (qr [] (fun w hm => ⟨none, 0, [], 0, rfl, (fun e => absurd rfl e), (fun _ => ⟨rfl, rfl⟩), rfl, hm.pk [1]⟩))
  ·refine jc_skip (jx_then (jc_seq (jc_region (qh [0] ?_))))
   obtain ⟨t_2, ht_6, h⟩ := bd h
   refine tO (pc 0 (fun w hm => impl_costs.calls list1 w _ D_c (hm.xr D_h) rfl ht_6) ?_)
   rintro w v w' hm ⟨o_7, cap_8, sp_9, _, hh_12, hI_13, rfl, hs_10, ho_11, rfl, hm'⟩
   refine ⟨_, hm.app hm', jkO ?_⟩
   clear hm hm'
   refine tO (qa 0 (fun b_14 => jk_ghost 34 encHd (jk_clu encI64 (jkO (tO (qa 0 (fun b_15 => jkO (tO (qa 0 (fun b_16 => jkO (tO (qs 0 [3] (jkO (tO (qs 0 [6] (jkO (tO (qs 0 [7] (jkO (qe (jx_then (jc_seq (jc_region (qh [0,0,0] ?_))))))))))))))))))))))))
   obtain ⟨t_3, ht_17, h⟩ := bd h
   refine tO (pc 0 (fun w hm => impl_begun.calls first2 w _ ht_17) ?_)
   rintro w v w' hm ⟨o_18, cap_19, sp_20, _, rfl, hs_21, ho_22, rfl, hm'⟩
   refine ⟨_, hm.app hm', jkO ?_⟩
   clear hm hm'
   refine qh [0] ?_
   obtain ⟨t_4, ht_23, h⟩ := bd h
   refine tO (jp_ghost 2 encI64 (pc 0 (fun w hm => impl_orders_at_impl_BestOrder_1.calls (list1.length : Int) t_3 t_2 (-1) ([] : List Int) w _ cap_19 (hm.ow 8 o_18 2 t_3 sp_20 (fun e => (ho_22 e).1) encI64_len) rfl cap_8 (hm.ow 1 o_7 34 hh_12 sp_9 (fun e => (ho_11 e).1) encHd_len) (hI_13.1.symm.trans rfl) 0 rfl b_14 b_16 b_15 (hm.pass (N := [⟨some b_14, 31, [(.slice (o_7.map fun b => ⟨b, 0, none⟩) hh_12.length cap_8)]⟩, ⟨some b_16, 2, [(.int .i64 (-1))]⟩, ⟨some b_15, 34, [(.slice ((none : Option Nat).map fun b => ⟨b, 0, none⟩) 0 0)]⟩]) [3, 7, 6] (by kernel_rfl) (by kernel_rfl)) (hm.ownApart (S := Int) (N := [⟨some b_14, 31, [(.slice (o_7.map fun b => ⟨b, 0, none⟩) hh_12.length cap_8)]⟩, ⟨some b_16, 2, [(.int .i64 (-1))]⟩, ⟨some b_15, 34, [(.slice ((none : Option Nat).map fun b => ⟨b, 0, none⟩) 0 0)]⟩]) (hh := 8) (o := o_18) (T := 2) (cs := row encI64 t_3 sp_20) (xs := t_3) (by kernel_rfl) (fun e => (ho_22 e).1) [3, 7, 6] (by kernel_rfl) (by kernel_rfl)) (hm.ownApart (S := Hd) (N := [⟨some b_14, 31, [(.slice (o_7.map fun b => ⟨b, 0, none⟩) hh_12.length cap_8)]⟩, ⟨some b_16, 2, [(.int .i64 (-1))]⟩, ⟨some b_15, 34, [(.slice ((none : Option Nat).map fun b => ⟨b, 0, none⟩) 0 0)]⟩]) (hh := 1) (o := o_7) (T := 34) (cs := row encHd hh_12 sp_9) (xs := hh_12) (by kernel_rfl) (fun e => (ho_11 e).1) [3, 7, 6] (by kernel_rfl) (by kernel_rfl)) (hm.cluPass (N := [⟨some b_14, 31, [(.slice (o_7.map fun b => ⟨b, 0, none⟩) hh_12.length cap_8)]⟩, ⟨some b_16, 2, [(.int .i64 (-1))]⟩, ⟨some b_15, 34, [(.slice ((none : Option Nat).map fun b => ⟨b, 0, none⟩) 0 0)]⟩]) 2 hI_13 encI64_len [3, 7, 6]) ht_23) ?_))
   rintro w v w' hm ⟨o_24, a_5, cap_25, sp_26, _, rfl, hl_27, rfl, hm'⟩
   obtain ⟨o_28, sp_29, hl_30, hM_31⟩ := Mem.ls3 (T := 2) (enc := encI64) (o1 := (none : Option Nat)) (sp1 := []) (xs1 := ([] : List Int)) (o := o_24) (sp := sp_26) (xs := t_4.2) (F := []) (o2 := o_18) (sp2 := sp_20) (xs2 := t_3) (hm.appW (ps := [(3, ⟨some b_14, 31, [(.slice (o_7.map fun b => ⟨b, 0, none⟩) hh_12.length cap_8)]⟩), (7, ⟨some b_16, 2, [(.int .i64 t_4.1)]⟩), (6, ⟨some b_15, 34, [(.slice a_5 t_4.2.length cap_25)]⟩)]) (N := [⟨o_24, 2, row encI64 t_4.2 sp_26⟩]) hm' (by kernel_rfl) (by kernel_rfl)) 9 8 10 (by kernel_rfl) (by kernel_rfl) (by kernel_rfl) (by kernel_rfl) (lsO (fun e => absurd rfl e) (fun _ => ⟨rfl, rfl⟩)) rfl hs_21 ho_22 rfl rfl hl_27
   obtain ⟨rfl, hs_32, ho_33⟩ := hl_30.own
   refine ⟨_, Mem.pick hM_31 (N := [⟨some b_1, 27, [(.int .i16 f0.fSteps), (.slice C_a f0.fHammers.length C_c)]⟩, ⟨o_7, 34, row encHd hh_12 sp_9⟩, ⟨none, CLU, cluC encI64 hh_12 t_2⟩, ⟨some b_14, 31, [(.slice (o_7.map fun b => ⟨b, 0, none⟩) hh_12.length cap_8)]⟩, ⟨(none : Option Nat), 34, row encHd ([] : List Hd) []⟩, ⟨none, CLU, cluC encI64 ([] : List Hd) ([] : List (List Int))⟩, ⟨some b_15, 34, [(.slice (o_28.map fun b => ⟨b, 0, none⟩) t_4.2.length cap_25)]⟩, ⟨some b_16, 2, [(.int .i64 t_4.1)]⟩, ⟨none, 0, []⟩, ⟨o_28, 2, row encI64 t_4.2 sp_29⟩]) [0, 1, 2, 3, 4, 5, 6, 7, 8, 9] (by kernel_rfl) (by kernel_rfl), jkO ?_⟩
   clear hm hm' hM_31
   refine qe (jx_then (jc_seq (qg [⟨some b_1, 27, [(.int .i16 f0.fSteps), (.slice C_a f0.fHammers.length C_c)]⟩, ⟨o_7, 34, row encHd hh_12 sp_9⟩, ⟨none, CLU, cluC encI64 hh_12 t_2⟩, ⟨some b_14, 31, [(.slice (o_7.map fun b => ⟨b, 0, none⟩) hh_12.length cap_8)]⟩, ⟨(none : Option Nat), 34, row encHd ([] : List Hd) []⟩, ⟨none, CLU, cluC encI64 ([] : List Hd) ([] : List (List Int))⟩, ⟨some b_15, 34, [(.slice (o_28.map fun b => ⟨b, 0, none⟩) t_4.2.length cap_25)]⟩, ⟨some b_16, 2, [(.int .i64 t_4.1)]⟩, ⟨none, 0, []⟩, ⟨o_28, 2, row encI64 t_4.2 sp_29⟩] 5 (qd [⟨0, 6, 0⟩,⟨1, 7, 0⟩,⟨2, 0, 0⟩,⟨3, 0, 0⟩,⟨4, 0, 0⟩] 0 [0, 1, 2, 3, 4, 5, 6, 7, 8, 9] (qz (jx_then (jc_ret ?_)))))))
   obtain rfl := Option.some.inj h
   exact qr [] (fun w hm => ⟨o_28, cap_25, sp_29, t_4.2.length, rfl, hs_32, ho_33, rfl, hm.pk [9]⟩)
/-! ### spec.l05First -/
def spec_l05First.k_5 (i_4 : Int) : Option (Int) := some i_4
def spec_l05First.k_3 (list1 : List (Arr 96 Int)) (i_2 : Int) : Option (Int) := (if ((i_2 == 0) && ((list1.length : Int) == 0)) = true then spec_l05First.k_5 6 else spec_l05First.k_5 i_2)
def spec_l05First (f0 : GFrame) (list1 : List (Arr 96 Int)) (first2 : Int) : Option (Int) := (spec_l05Asked f0 list1).bind fun t_1 => (if (t_1 == 0) = true then (spec_l00In first2 (-1) (w64 ((list1.length : Int) - 1))).bind fun t_6 => (if (!t_6) = true then spec_l05First.k_3 list1 2 else spec_l05First.k_3 list1 t_1) else spec_l05First.k_3 list1 t_1)
theorem spec_l05First.calls (f0 : GFrame) (list1 : List (Arr 96 Int)) (first2 : Int) (w : World) (r : Int) {C_a : Option Addr} {C_an : Nat} (C_c : Nat) (C_h : Rw w C_a 2 encGHammer f0.fHammers) (C_hn : f0.fHammers.length = C_an) {D_a : Option Addr} {D_an : Nat} (D_c : Nat) (D_h : Rw w D_a 96 encA96U32 list1) (D_hn : list1.length = D_an) (A_b : Nat) (hm0 : Mem w (bs [some A_b]) [⟨some A_b, 27, [(.int .i16 f0.fSteps), (.slice C_a C_an C_c)]⟩] w) (C_ha : f0.fHammers ≠ [] → aB C_a ∉ bs [some A_b]) (D_ha : list1 ≠ [] → aB D_a ∉ bs [some A_b]) (h : spec_l05First f0 list1 first2 = some r) :
    Calls Try.prog 38 #[(.pointer (some ⟨A_b, 0, none⟩)), (.slice D_a D_an D_c), (.int .i64 first2)] w fun e w' => ∃ v, e = .returned v ∧ (v = (.int .i64 r) ∧ Mem w (bs [some A_b]) [⟨some A_b, 27, [(.int .i16 f0.fSteps), (.slice C_a C_an C_c)]⟩] w') := by
  subst C_hn D_hn
  rw [spec_l05First] at h
  refine enter (args := [(.pointer (some ⟨A_b, 0, none⟩)), (.slice D_a list1.length D_c), (.int .i64 first2)]) Try.func38 rfl Try.ntmps38 (by kernel_rfl) (L := [⟨some A_b, 27, [(.int .i16 f0.fSteps), (.slice C_a f0.fHammers.length C_c)]⟩]) (W := bs [some A_b]) hm0 ?_
  refine jc_seq (jc_region (qh [0] (qe (jx_then (jc_seq (jc_region (qh [0,0] ?_)))))))
  obtain ⟨t_1, ht_1, h⟩ := bd h
  refine tO (pc 0 (fun w hm => spec_l05Asked.calls f0 list1 w _ C_c (hm.exRowW C_h C_ha) rfl D_c (hm.exRowW D_h D_ha) rfl A_b (hm.pass (N := [⟨some A_b, 27, [(.int .i16 f0.fSteps), (.slice C_a f0.fHammers.length C_c)]⟩]) [0] (by kernel_rfl) (by kernel_rfl)) (hm.exApart (N := [⟨some A_b, 27, [(.int .i16 f0.fSteps), (.slice C_a f0.fHammers.length C_c)]⟩]) C_h C_ha [0] (by kernel_rfl)) (hm.exApart (N := [⟨some A_b, 27, [(.int .i16 f0.fSteps), (.slice C_a f0.fHammers.length C_c)]⟩]) D_h D_ha [0] (by kernel_rfl)) ht_1) ?_)
  rintro w v w' hm ⟨rfl, hm'⟩
  refine ⟨_, hm.appW (ps := [(0, ⟨some A_b, 27, [(.int .i16 f0.fSteps), (.slice C_a f0.fHammers.length C_c)]⟩)]) (N := []) hm' (by kernel_rfl) (by kernel_rfl), jkO ?_⟩
  clear hm hm'
  refine qh [0] (qe (jx_then (jc_seq (jc_meet (fun (j : Int) => match j with | i_2 => spec_l05First.k_3 list1 i_2 = some r) (fun (j : Int) => match j with | i_2 => [(1, [], (.slice D_a list1.length D_c)), (6, [], (.int .i64 0)), (7, [], (.int .i64 i_2))]) (fun (j : Int) => match j with | i_2 => [⟨some A_b, 27, [(.int .i16 f0.fSteps), (.slice C_a f0.fHammers.length C_c)]⟩]) ?_ ?_))))
  ·refine jc_seq (jc_region (qf [(0, 0), (0, 0), (0, 0), (0, 1), (0, 1), (0, 1), (0, 1)] (qp 13 h (fun h => ?_) (fun h => ?_))))
   ·obtain ⟨t_6, ht_9, h⟩ := bd h
    refine tO (pc 2 (fun w hm => spec_l00In.calls first2 (-1) (w64 ((list1.length : Int) - 1)) w _ ht_9) ?_)
    rintro w v w' hm ⟨rfl, hm'⟩
    refine ⟨_, hm.app hm', jkO ?_⟩
    clear hm hm'
    refine qf [(0, 2), (0, 4)] (qe (jx_then (qi h (fun h => ?_) (fun h => ?_))))
    ·exact jc_region (qh [0] (qe (qm 2 h [0])))
    ·exact jc_skip (qm t_1 h [0])
   ·exact qf [(0, 3), (0, 3), (0, 5)] (qe (jx_then (jc_cond false (by kernel_rfl) (fun hc_11 => nomatch hc_11) (fun hc_11 => (jc_skip (qm t_1 h [0]))))))
  ·rintro i_2 h
   replace h : spec_l05First.k_3 list1 i_2 = some r := h
   rw [spec_l05First.k_3] at h
   refine jx_then (jc_seq (jc_meet (fun (j : Int) => match j with | i_4 => spec_l05First.k_5 i_4 = some r) (fun (j : Int) => match j with | i_4 => [(6, [], (.int .i64 0)), (7, [], (.int .i64 i_4))]) (fun (j : Int) => match j with | i_4 => [⟨some A_b, 27, [(.int .i16 f0.fSteps), (.slice C_a f0.fHammers.length C_c)]⟩]) ?_ ?_))
   ·refine jc_seq (jc_region (qf [(0, 0), (0, 0), (0, 0), (0, 1), (0, 1), (0, 1), (0, 0)] (qe (jx_then (qi h (fun h => ?_) (fun h => ?_))))))
    ·exact jc_region (qh [0] (qe (qm 6 h [0])))
    ·exact jc_skip (qm i_2 h [0])
   ·rintro i_4 h
    replace h : spec_l05First.k_5 i_4 = some r := h
    rw [spec_l05First.k_5] at h
    refine jx_then (jc_seq (jc_region (qh [0,0] (qe (jx_then (jc_ret ?_))))))
    obtain rfl := Option.some.inj h
    exact qr [] (fun w hm => ⟨rfl, hm.pk [0]⟩)
/-! ### spec.l05Rest -/
def spec_l05Rest.k_8 (at1 : Int) (left2 : Int) (xt_198 : List (List Int)) (i_7 : Int) : Option (Int × (List (List Int))) := (ix xt_198 at1).bind fun x_9 => (ix x_9 left2).bind fun x_10 => some (i_7, (xt_198.set at1.toNat (x_9.set left2.toNat i_7)))
def spec_l05Rest.l_13 (self_ : (List (List Int)) → Int → Int → Bool → (List (List Int)) → Option (Int × (List (List Int)))) (table0 : List (List Int)) (at1 : Int) (left2 : Int) (circle3 : Bool) : ((List (List Int)) × Int × Int) → Option (((List (List Int)) × Int × Int) ⊕ (((List (List Int)) × Int)))
  | (xt_238, i_11, i_12) => (if (decide (i_12 < (table0.length : Int))) = true then (if 0 ≤ (u64 i_12) then (if ((Int.tmod (bShr .i64 left2 (u64 i_12)) 2) == 0) = true then some (.inl (xt_238, i_11, (w64 (i_12 + 1)))) else (ix table0 at1).bind fun x_15 => (ix x_15 i_12).bind fun x_16 => (if 0 ≤ (u64 i_12) then (self_ table0 i_12 (bXor .i64 left2 (bShl .i64 1 (u64 i_12))) circle3 xt_238).bind fun t_17 => (if ((decide (i_11 < 0)) || (decide ((w64 (x_16 + t_17.1)) < i_11))) = true then some (.inl (t_17.2, (w64 (x_16 + t_17.1)), (w64 (i_12 + 1)))) else some (.inl (t_17.2, i_11, (w64 (i_12 + 1))))) else none)) else none) else some (.inr (xt_238, i_11)))
def spec_l05Rest.step (self_ : (List (List Int)) → Int → Int → Bool → (List (List Int)) → Option (Int × (List (List Int)))) (table0 : List (List Int)) (at1 : Int) (left2 : Int) (circle3 : Bool) (known4 : List (List Int)) : Option (Int × (List (List Int))) := (if (left2 == 0) = true then (if circle3 = true then (ix table0 at1).bind fun x_1 => (ix x_1 0).bind fun x_2 => some (x_2, known4) else some (0, known4)) else (ix known4 at1).bind fun x_3 => (ix x_3 left2).bind fun x_4 => (if (decide (x_4 ≥ 0)) = true then (ix known4 at1).bind fun x_5 => (ix x_5 left2).bind fun x_6 => some (x_6, known4) else (loop (spec_l05Rest.l_13 self_ table0 at1 left2 circle3) (known4, (-1), 0)).bind fun t_14 => spec_l05Rest.k_8 at1 left2 t_14.1 t_14.2))
def spec_l05Rest.rec_ : Nat → (List (List Int)) → Int → Int → Bool → (List (List Int)) → Option (Int × (List (List Int)))
  | 0 => fun table0 at1 left2 circle3 known4 => none
  | fu + 1 => spec_l05Rest.step (spec_l05Rest.rec_ fu)
def spec_l05Rest (table0 : List (List Int)) (at1 : Int) (left2 : Int) (circle3 : Bool) (known4 : List (List Int)) : Option (Int × (List (List Int))) := spec_l05Rest.rec_ 16 table0 at1 left2 circle3 known4
theorem spec_l05Rest.step_calls (self_ : (List (List Int)) → Int → Int → Bool → (List (List Int)) → Option (Int × (List (List Int)))) (hself : ∀ (table0 : List (List Int)) (at1 : Int) (left2 : Int) (circle3 : Bool) (known4 : List (List Int)) (w : World) (r : Int × (List (List Int))) {A_a : Option Addr} {A_an : Nat} (A_c : Nat) {A_hs : List Hd} (A_h : Rw w A_a 1 encHd A_hs) (A_hn : table0.length = A_an) {E_a : Option Addr} {E_an : Nat} (E_c : Nat) {E_hs : List Hd} (E_h : Rw w E_a 1 encHd E_hs) (E_hn : known4.length = E_an) (E_I : InP E_hs known4) (E_D : Dst E_hs) (hm0 : Mem w (hbs E_hs) [⟨none, CLU, cluC encI64 E_hs known4⟩] w) (A_ha : A_hs ≠ [] → aB A_a ∉ hbs E_hs) (A_i : Inn w (hbs E_hs) 1 encI64 A_hs table0) (E_ha : E_hs ≠ [] → aB E_a ∉ hbs E_hs) (h : self_ table0 at1 left2 circle3 known4 = some r),
    Calls Try.prog 69 #[(.slice A_a A_an A_c), (.int .i64 at1), (.int .i64 left2), (.bool circle3), (.slice E_a E_an E_c)] w fun e w' => ∃ v, e = .returned v ∧ (InP E_hs r.2 ∧ v = (.int .i64 r.1) ∧ Mem w (hbs E_hs) [⟨none, CLU, cluC encI64 E_hs r.2⟩] w')) (table0 : List (List Int)) (at1 : Int) (left2 : Int) (circle3 : Bool) (known4 : List (List Int)) (w : World) (r : Int × (List (List Int))) {A_a : Option Addr} {A_an : Nat} (A_c : Nat) {A_hs : List Hd} (A_h : Rw w A_a 1 encHd A_hs) (A_hn : table0.length = A_an) {E_a : Option Addr} {E_an : Nat} (E_c : Nat) {E_hs : List Hd} (E_h : Rw w E_a 1 encHd E_hs) (E_hn : known4.length = E_an) (E_I : InP E_hs known4) (E_D : Dst E_hs) (hm0 : Mem w (hbs E_hs) [⟨none, CLU, cluC encI64 E_hs known4⟩] w) (A_ha : A_hs ≠ [] → aB A_a ∉ hbs E_hs) (A_i : Inn w (hbs E_hs) 1 encI64 A_hs table0) (E_ha : E_hs ≠ [] → aB E_a ∉ hbs E_hs) (h : spec_l05Rest.step self_ table0 at1 left2 circle3 known4 = some r) :
    Calls Try.prog 69 #[(.slice A_a A_an A_c), (.int .i64 at1), (.int .i64 left2), (.bool circle3), (.slice E_a E_an E_c)] w fun e w' => ∃ v, e = .returned v ∧ (InP E_hs r.2 ∧ v = (.int .i64 r.1) ∧ Mem w (hbs E_hs) [⟨none, CLU, cluC encI64 E_hs r.2⟩] w') := by
  subst A_hn E_hn
  rw [spec_l05Rest.step] at h
  refine enter (args := [(.slice A_a table0.length A_c), (.int .i64 at1), (.int .i64 left2), (.bool circle3), (.slice E_a known4.length E_c)]) Try.func69 rfl Try.ntmps69 (by kernel_rfl) (L := [⟨none, CLU, cluC encI64 E_hs known4⟩]) (W := hbs E_hs) hm0 ?_
  refine jc_seq (jc_region (qh [0] (qe (jx_then (jc_seq (jc_seq (jc_region (qh [0,0] (qe (jx_then (qi h (fun h => ?_) (fun h => ?_))))))))))))
  ·refine jc_seq (jc_seq (jc_region (qh [0] (qe (jx_then (qi h (fun h => ?_) (fun h => ?_)))))))
   ·refine jc_seq (jc_region (qh [0,0] ?_))
    obtain ⟨x_1, hx_7, h⟩ := bd h
    refine tO (qx 0 A_a 1 hx_7 rfl (A_h.sp (A_i.ixh hx_7)) (jkO (tO (ql 0 false (fun w hm => ((hm.exRowW A_h A_ha).at (A_i.ixh hx_7))) (jkO ?_)))))
    obtain ⟨x_2, hx_8, h⟩ := bd h
    refine tO (qx 0 (hd A_hs at1).a 1 hx_8 (A_i.get hx_7).2.1 ((A_i.get hx_7).1.sp hx_8) (jkO (tO (ql 0 false (fun w hm => ((hm.exRowW (A_i.get hx_7).1 (A_i.get hx_7).2.2).at hx_8)) (jkO (qh [0] (qe (jx_then (jc_ret (jx_thenr (jx_thenr ?_)))))))))))
    obtain rfl := Option.some.inj h
    exact qr [] (fun w hm => ⟨E_I, rfl, hm.pk [0]⟩)
   ·refine jc_skip (jx_then (jc_seq (jc_region (qh [0] (qe (jx_then (jc_ret (jx_thenr ?_))))))))
    obtain rfl := Option.some.inj h
    exact qr [] (fun w hm => ⟨E_I, rfl, hm.pk [0]⟩)
  ·refine jc_skip (jx_then (jc_seq (jc_seq (jc_region (qh [0,0] ?_)))))
   obtain ⟨x_3, hx_14, h⟩ := bd h
   refine tO (qx 0 E_a 1 hx_14 (E_I.1.symm.trans E_I.1) (E_h.sp (E_I.ixh hx_14)) (jkO (tO (ql 0 false (fun w hm => ((hm.exRowW E_h E_ha).at (E_I.ixh hx_14))) (jkO (qh [0] ?_))))))
   obtain ⟨x_4, hx_15, h⟩ := bd h
   refine tO (qx 0 (hd E_hs at1).a 1 hx_15 (E_I.get hx_14).1 (E_I.sp hx_14 hx_15) (jkO (tO (ql 0 false (fun w hm => (((hm.cluInn 0 E_I encI64_len).get hx_14).1.at hx_15)) (jkO (qh [0] (qe (jx_then (qi h (fun h => ?_) (fun h => ?_))))))))))
   ·refine jc_seq (jc_region (qh [0,0] ?_))
    obtain ⟨x_5, hx_17, h⟩ := bd h
    refine tO (qx 0 E_a 1 hx_17 (E_I.1.symm.trans E_I.1) (E_h.sp (E_I.ixh hx_17)) (jkO (tO (ql 0 false (fun w hm => ((hm.exRowW E_h E_ha).at (E_I.ixh hx_17))) (jkO (qh [0] ?_))))))
    obtain ⟨x_6, hx_18, h⟩ := bd h
    refine tO (qx 0 (hd E_hs at1).a 1 hx_18 (E_I.get hx_17).1 (E_I.sp hx_17 hx_18) (jkO (tO (ql 0 false (fun w hm => (((hm.cluInn 0 E_I encI64_len).get hx_17).1.at hx_18)) (jkO (qh [0] (qe (jx_then (jc_ret (jx_thenr ?_))))))))))
    obtain rfl := Option.some.inj h
    exact qr [] (fun w hm => ⟨E_I, rfl, hm.pk [0]⟩)
   ·refine jc_skip (jx_then (jc_seq (jc_region (qh [0] (qe (jx_then (jc_seq (jc_seq (jc_region (qh [0] (qe (jx_then (jc_meet (fun (j : (List (List Int)) × Int) => match j with | ⟨xt_198, i_7⟩ => spec_l05Rest.k_8 at1 left2 xt_198 i_7 = some r ∧ (InP E_hs xt_198)) (fun (j : (List (List Int)) × Int) => match j with | ⟨xt_198, i_7⟩ => [(1, [], (.int .i64 at1)), (2, [], (.int .i64 left2)), (4, [], (.slice E_a known4.length E_c)), (10, [], (.int .i64 0)), (11, [], (.int .i64 i_7))]) (fun (j : (List (List Int)) × Int) => match j with | ⟨xt_198, i_7⟩ => [⟨none, CLU, cluC encI64 E_hs xt_198⟩]) ?_ ?_)))))))))))))
    ·refine jc_block ?_
     obtain ⟨t_14, ht_260, hr_240⟩ := bd h
     refine jc_loop (fun (s : (List (List Int)) × Int × Int) (x : Unit) => match s, x with | ⟨xt_238, i_11, i_12⟩, _ => (InP E_hs xt_238)) (fun (s : (List (List Int)) × Int × Int) (x : Unit) => match s, x with | ⟨xt_238, i_11, i_12⟩, _ => [(0, [], (.slice A_a table0.length A_c)), (1, [], (.int .i64 at1)), (2, [], (.int .i64 left2)), (3, [], (.bool circle3)), (4, [], (.slice E_a known4.length E_c)), (10, [], (.int .i64 0)), (11, [], (.int .i64 i_11)), (12, [], (.int .i64 i_12))]) (fun (s : (List (List Int)) × Int × Int) (x : Unit) => match s, x with | ⟨xt_238, i_11, i_12⟩, _ => [⟨none, CLU, cluC encI64 E_hs xt_238⟩]) ht_260 () E_I (by kernel_rfl) [0] (by kernel_rfl) (by kernel_rfl) ?_
     rintro ⟨xt_238, i_11, i_12⟩ _ y_241 hI_239 h
     rw [spec_l05Rest.l_13] at h
     refine jc_seq (jc_seq (jc_region (qh [0,0,0,0] (qe (jx_then (qi h (fun h => ?_) (fun h => ?_)))))))
     ·refine jc_skip (jx_then (jc_seq (jc_block (jc_seq (jc_seq (jc_region (qh [0,0,0] ?_)))))))
      obtain ⟨hg_246, h⟩ := gd h
      refine tO (p_shr 0 .i64 left2 .u64 (u64 i_12) (by kernel_rfl) (by kernel_rfl) hg_246 (jkO (qh [0,0] (qe (jx_then (qi h (fun h => ?_) (fun h => ?_)))))))
      ·exact jc_exit (jx_thenx (jx_ine (jx_then (jc_region (qh [0,0,0] (qe (qb (xt_238, i_11, (w64 (i_12 + 1))) () h hI_239 [0])))))))
      ·refine jc_skip (jx_then (jc_seq (qg [] 19 (qd [⟨0, 0, 0⟩,⟨1, 0, 0⟩,⟨4, 0, 0⟩,⟨7, 0, 0⟩,⟨8, 0, 0⟩,⟨9, 0, 0⟩,⟨10, 0, 0⟩,⟨11, 0, 0⟩,⟨14, 0, 0⟩,⟨15, 0, 0⟩] 9 [] ?_))))
       obtain ⟨x_15, hx_253, h⟩ := bd h
       refine qv 2 0 [] (fun w hm => idx_run (a := A_a) (len := table0.length) (s := 1) (j := at1) (by kernel_rfl) (ix_some hx_253).1 (ltn hx_253 rfl) (A_h.sp (A_i.ixh hx_253))) (qv 3 0 [] (fun w hm => ld_run (b := aB A_a) (off := (aO A_a + at1.toNat * 1)) (s := 1) (agg := false) (vs := encHd (hd A_hs at1)) (by kernel_rfl) (by kernel_rfl) (.inr rfl) ((hm.exRowW A_h A_ha).at (A_i.ixh hx_253))) ?_)
       obtain ⟨x_16, hx_254, h⟩ := bd h
       refine qv 5 0 [] (fun w hm => idx_run (a := (hd A_hs at1).a) (len := ((hd A_hs at1).n)) (s := 1) (j := i_12) (by kernel_rfl) (ix_some hx_254).1 (ltn hx_254 (A_i.get hx_253).2.1) ((A_i.get hx_253).1.sp hx_254)) (qv 6 0 [] (fun w hm => ld_run (b := aB (hd A_hs at1).a) (off := (aO (hd A_hs at1).a + i_12.toNat * 1)) (s := 1) (agg := false) (vs := (encI64 x_16)) (by kernel_rfl) (by kernel_rfl) (.inr rfl) ((hm.exRowW (A_i.get hx_253).1 (A_i.get hx_253).2.2).at hx_254)) ?_)
       obtain ⟨hg_255, h⟩ := gd h
       refine tD 12 (p_shl 0 .i64 1 .u64 (u64 i_12) (by kernel_rfl) (by kernel_rfl) hg_255 (kD [] (qd [⟨13, 0, 0⟩] 3 [] ?_)))
       obtain ⟨t_17, ht_256, h⟩ := bd h
       refine tD 16 (pc 0 (fun w hm => hself table0 i_12 (bXor .i64 left2 (bShl .i64 1 (u64 i_12))) circle3 xt_238 w _ A_c (hm.exRowW A_h A_ha) rfl E_c (hm.exRowW E_h E_ha) (hI_239.1.symm.trans E_I.1) hI_239 E_D (hm.cluM 0 hI_239) (hm.exApartM (enc := encI64) 0 hI_239 A_h A_ha) (hm.innPassM (enc := encI64) 0 hI_239 A_i) E_ha ht_256) ?_)
       rintro w v w' hm ⟨hI_257, rfl, hm'⟩
       refine ⟨_, hm.appC 0 hI_239 hm', kD [] ?_⟩
       clear hm hm'
       refine qd [⟨17, 0, 0⟩,⟨18, 0, 0⟩] 0 [] (qz (jx_then (jc_seq (jc_region (qf [(0, 0), (0, 0), (0, 0), (0, 1), (0, 1), (0, 1), (0, 0)] (qe (jx_then (qi h (fun h => ?_) (fun h => ?_)))))))))
       ·exact jc_region (qh [0,0] (qe (jx_inn (jx_then (jc_region (qh [0,0,0] (qe (qb (t_17.2, (w64 (x_16 + t_17.1)), (w64 (i_12 + 1))) () h hI_257 [0]))))))))
       ·exact jc_skip (jx_inn (jx_then (jc_region (qh [0,0,0] (qe (qb (t_17.2, i_11, (w64 (i_12 + 1))) () h hI_257 [0]))))))
     ·refine jc_exit (jx_thenx (jx_leave (xt_238, i_11) (Option.some.inj h).symm (fun e_259 => ?_)))
      subst e_259
      exact jx_ine (qm ⟨xt_238, i_11⟩ ⟨hr_240, hI_239⟩ [0])
    ·rintro ⟨xt_198, i_7⟩ ⟨h, hI_199⟩
     replace h : spec_l05Rest.k_8 at1 left2 xt_198 i_7 = some r := h
     rw [spec_l05Rest.k_8] at h
     refine jx_then (jc_seq (jc_region (qh [0,0] ?_)))
     obtain ⟨x_9, hx_200, h⟩ := bd h
     refine tO (qx 0 E_a 1 hx_200 (hI_199.1.symm.trans E_I.1) (E_h.sp (hI_199.ixh hx_200)) (jkO (tO (ql 0 false (fun w hm => ((hm.exRowW E_h E_ha).at (hI_199.ixh hx_200))) (jkO (qh [0,0] ?_))))))
     obtain ⟨x_10, hx_201, h⟩ := bd h
     refine tO (qx 0 (hd E_hs at1).a 1 hx_201 (hI_199.get hx_200).1 (hI_199.sp hx_200 hx_201) (jkO (tO (p_strM 0 0 encI64 E_hs xt_198 at1 left2 x_9 x_10 i_7 1 (by kernel_rfl) (by kernel_rfl) (by kernel_rfl) (by kernel_rfl) hI_199 E_D hx_200 hx_201 encI64_len (by kernel_rfl) (jkO (qe (jx_then (jc_seq (jc_region (qh [0,0] (qe (jx_then (jc_ret ?_)))))))))))))
     obtain rfl := Option.some.inj h
     exact qr [] (fun w hm => ⟨(hI_199.set hx_200 List.length_set), rfl, hm.pk [0]⟩)
theorem spec_l05Rest.rec_calls (fu : Nat) : ∀ (table0 : List (List Int)) (at1 : Int) (left2 : Int) (circle3 : Bool) (known4 : List (List Int)) (w : World) (r : Int × (List (List Int))) {A_a : Option Addr} {A_an : Nat} (A_c : Nat) {A_hs : List Hd} (A_h : Rw w A_a 1 encHd A_hs) (A_hn : table0.length = A_an) {E_a : Option Addr} {E_an : Nat} (E_c : Nat) {E_hs : List Hd} (E_h : Rw w E_a 1 encHd E_hs) (E_hn : known4.length = E_an) (E_I : InP E_hs known4) (E_D : Dst E_hs) (hm0 : Mem w (hbs E_hs) [⟨none, CLU, cluC encI64 E_hs known4⟩] w) (A_ha : A_hs ≠ [] → aB A_a ∉ hbs E_hs) (A_i : Inn w (hbs E_hs) 1 encI64 A_hs table0) (E_ha : E_hs ≠ [] → aB E_a ∉ hbs E_hs) (h : spec_l05Rest.rec_ fu table0 at1 left2 circle3 known4 = some r),
    Calls Try.prog 69 #[(.slice A_a A_an A_c), (.int .i64 at1), (.int .i64 left2), (.bool circle3), (.slice E_a E_an E_c)] w fun e w' => ∃ v, e = .returned v ∧ (InP E_hs r.2 ∧ v = (.int .i64 r.1) ∧ Mem w (hbs E_hs) [⟨none, CLU, cluC encI64 E_hs r.2⟩] w') := by
  induction fu with
  | zero => intros; rename_i h; cases h
  | succ fu ih => exact @spec_l05Rest.step_calls _ (spec_l05Rest.rec_ fu) @ih
theorem spec_l05Rest.calls (table0 : List (List Int)) (at1 : Int) (left2 : Int) (circle3 : Bool) (known4 : List (List Int)) (w : World) (r : Int × (List (List Int))) {A_a : Option Addr} {A_an : Nat} (A_c : Nat) {A_hs : List Hd} (A_h : Rw w A_a 1 encHd A_hs) (A_hn : table0.length = A_an) {E_a : Option Addr} {E_an : Nat} (E_c : Nat) {E_hs : List Hd} (E_h : Rw w E_a 1 encHd E_hs) (E_hn : known4.length = E_an) (E_I : InP E_hs known4) (E_D : Dst E_hs) (hm0 : Mem w (hbs E_hs) [⟨none, CLU, cluC encI64 E_hs known4⟩] w) (A_ha : A_hs ≠ [] → aB A_a ∉ hbs E_hs) (A_i : Inn w (hbs E_hs) 1 encI64 A_hs table0) (E_ha : E_hs ≠ [] → aB E_a ∉ hbs E_hs) (h : spec_l05Rest table0 at1 left2 circle3 known4 = some r) :
    Calls Try.prog 69 #[(.slice A_a A_an A_c), (.int .i64 at1), (.int .i64 left2), (.bool circle3), (.slice E_a E_an E_c)] w fun e w' => ∃ v, e = .returned v ∧ (InP E_hs r.2 ∧ v = (.int .i64 r.1) ∧ Mem w (hbs E_hs) [⟨none, CLU, cluC encI64 E_hs r.2⟩] w') :=
  spec_l05Rest.rec_calls 16 table0 at1 left2 circle3 known4 w r A_c A_h A_hn E_c E_h E_hn E_I E_D hm0 A_ha A_i E_ha h
end

end Go.Proofs.Ytolfkfjjifdmeaa
