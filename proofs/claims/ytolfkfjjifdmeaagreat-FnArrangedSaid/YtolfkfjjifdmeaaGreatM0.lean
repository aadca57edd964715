/- Functions of the program that the laws reach: a plain function each, and that the call comes to its answer if the plain function has one. Printed by a program. -/
import Derived.Test.YtolfkfjjifdmeaaGreatT
import Derived.Test.YtolfkfjjifdmeaaGreatRange
import Derived.RangeFuncBox
import Derived.Shelf.Abstract
import Derived.WalkKit
import Derived.OwnWalkIn
import Derived.TacticsInMore
import Derived.LoopNIn
import Derived.LoopIn
namespace Go.Proofs.YtolfkfjjifdmeaaGreat
open Eng
set_option linter.unusedVariables false

set_option linter.unusedSectionVars false
set_option maxRecDepth 100000
variable [dsW : DrwS]
noncomputable section
/-! ### laws.a2Long -/
def laws_a2Long (code0 : List Int) (more1 : List Int) : Option (Bool) := some ((decide ((code0.length : Int) > 3000)) || (decide ((more1.length : Int) > 3000)))
theorem laws_a2Long.calls (code0 : List Int) (more1 : List Int) (w : World) (r : Bool) {A_a : Option Addr} {A_an : Nat} (A_c : Nat) (A_h : Rw w A_a 1 encU8 code0) (A_hn : code0.length = A_an) {B_a : Option Addr} {B_an : Nat} (B_c : Nat) (B_h : Rw w B_a 1 encU8 more1) (B_hn : more1.length = B_an) (h : laws_a2Long code0 more1 = some r) :
    Calls Tryz.prog 6 #[(.slice A_a A_an A_c), (.slice B_a B_an B_c)] w fun e w' => ∃ v, e = .returned v ∧ (v = (.bool r) ∧ Mem w [] [] w') := by
  subst A_hn B_hn
  rw [laws_a2Long] at h
  refine enter (args := [(.slice A_a code0.length A_c), (.slice B_a more1.length B_c)]) Tryz.func6 rfl Tryz.ntmps6 (by kernel_rfl) (L := []) (W := []) (Mem.start w) ?_
  refine jc_seq (jc_region (qh [0] (qe (jx_then (jc_seq (jc_region (qf [(0, 0), (0, 0), (0, 0), (0, 0), (0, 1), (0, 1), (0, 1), (0, 0), (0, 0)] (qe (jx_then (jc_ret ?_))))))))))
  obtain rfl := Option.some.inj h
  exact qr [] (fun w hm => ⟨rfl, hm.pk []⟩)
/-! ### spec.l00From -/
def spec_l00From (code0 : List Int) : Option (Gl00Src) := some (⟨code0, 0, 0⟩ : Gl00Src)
theorem spec_l00From.calls (code0 : List Int) (w : World) (r : Gl00Src) {A_a : Option Addr} {A_an : Nat} (A_c : Nat) (A_h : Rw w A_a 1 encU8 code0) (A_hn : code0.length = A_an) (h : spec_l00From code0 = some r) :
    Calls Tryz.prog 57 #[(.slice A_a A_an A_c)] w fun e w' => ∃ v, e = .returned v ∧ (∃ (pb0 : Nat), v = .pointer (some ⟨pb0, 0, none⟩) ∧ Mem w [] [⟨some pb0, 179, [(.slice A_a A_an A_c), (.int .i64 r.fat), (.int .u64 r.fseed)]⟩] w') := by
  subst A_hn
  rw [spec_l00From] at h
  refine enter (args := [(.slice A_a code0.length A_c)]) Tryz.func57 rfl Tryz.ntmps57 (by kernel_rfl) (L := []) (W := []) (Mem.start w) ?_
  refine jc_seq (jc_region (qh [0] (qe (jx_then (jc_seq (jc_region (qh [0,0] (tO (qa 0 (fun b_1 => jkO (qh [0] (qe (jx_then (jc_ret ?_))))))))))))))
  obtain rfl := Option.some.inj h
  exact qr [] (fun w hm => ⟨b_1, rfl, hm.pk [0]⟩)
/-! ### (*spec.l00Src).next -/
def spec_l00Src_next.k_2 (s0 : Gl00Src) (i_1 : Int) : Option (Int × Gl00Src) := (if (decide ((w64 (s0.fat + 1)) ≤ (s0.fcode.length : Int))) = true then some (i_1, (⟨s0.fcode, (w64 (s0.fat + 1)), (u64 ((u64 ((u64 (s0.fseed * 6364136223846793005)) + (u64 i_1))) + 1442695040888963407))⟩ : Gl00Src)) else some ((w64 (bAnd .u64 (bShr .u64 (u64 ((u64 ((u64 (s0.fseed * 6364136223846793005)) + (u64 i_1))) + 1442695040888963407)) 40) 255)), (⟨s0.fcode, (w64 (s0.fat + 1)), (u64 ((u64 ((u64 (s0.fseed * 6364136223846793005)) + (u64 i_1))) + 1442695040888963407))⟩ : Gl00Src)))
def spec_l00Src_next (s0 : Gl00Src) : Option (Int × Gl00Src) := (if (decide (s0.fat < (s0.fcode.length : Int))) = true then (ix s0.fcode s0.fat).bind fun x_3 => spec_l00Src_next.k_2 s0 (w64 x_3) else spec_l00Src_next.k_2 s0 0)
theorem spec_l00Src_next.calls (s0 : Gl00Src) (w : World) (r : Int × Gl00Src) {B_a : Option Addr} {B_an : Nat} (B_c : Nat) (B_h : Rw w B_a 1 encU8 s0.fcode) (B_hn : s0.fcode.length = B_an) (A_b : Nat) (hm0 : Mem w (bs [some A_b]) [⟨some A_b, 179, [(.slice B_a B_an B_c), (.int .i64 s0.fat), (.int .u64 s0.fseed)]⟩] w) (B_ha : s0.fcode ≠ [] → aB B_a ∉ bs [some A_b]) (h : spec_l00Src_next s0 = some r) :
    Calls Tryz.prog 166 #[(.pointer (some ⟨A_b, 0, none⟩))] w fun e w' => ∃ v, e = .returned v ∧ (v = (.int .i64 r.1) ∧ Mem w (bs [some A_b]) [⟨some A_b, 179, [(.slice B_a B_an B_c), (.int .i64 r.2.fat), (.int .u64 r.2.fseed)]⟩] w') := by
  subst B_hn
  rw [spec_l00Src_next] at h
  refine enter (args := [(.pointer (some ⟨A_b, 0, none⟩))]) Tryz.func166 rfl Tryz.ntmps166 (by kernel_rfl) (L := [⟨some A_b, 179, [(.slice B_a s0.fcode.length B_c), (.int .i64 s0.fat), (.int .u64 s0.fseed)]⟩]) (W := bs [some A_b]) hm0 ?_
  refine jc_seq (jc_region (qh [0] (qe (jx_then (jc_seq (jc_region (qh [0] (qe (jx_then (jc_seq (jc_meet (fun (j : Int) => match j with | i_1 => spec_l00Src_next.k_2 s0 i_1 = some r) (fun (j : Int) => match j with | i_1 => [(0, [], (.pointer (some ⟨A_b, 0, none⟩))), (2, [], (.int .i64 0)), (3, [], (.int .i64 i_1))]) (fun (j : Int) => match j with | i_1 => [⟨some A_b, 179, [(.slice B_a s0.fcode.length B_c), (.int .i64 s0.fat), (.int .u64 s0.fseed)]⟩]) ?_ ?_)))))))))))
  ·refine jc_seq (qg [⟨some A_b, 179, [(.slice B_a s0.fcode.length B_c), (.int .i64 s0.fat), (.int .u64 s0.fseed)]⟩] 10 (qd [⟨0, 0, 0⟩,⟨1, 0, 0⟩,⟨2, 0, 0⟩,⟨3, 0, 0⟩,⟨4, 0, 0⟩,⟨5, 0, 0⟩,⟨6, 0, 0⟩,⟨7, 0, 0⟩,⟨8, 0, 0⟩,⟨9, 0, 0⟩] 0 [0] (qz (jx_then (qi h (fun h => ?_) (fun h => ?_))))))
   ·refine qg [⟨some A_b, 179, [(.slice B_a s0.fcode.length B_c), (.int .i64 s0.fat), (.int .u64 s0.fseed)]⟩] 12 (qd [⟨0, 0, 0⟩,⟨1, 0, 0⟩,⟨2, 0, 0⟩,⟨3, 0, 0⟩,⟨4, 0, 0⟩,⟨5, 0, 0⟩,⟨6, 0, 0⟩,⟨7, 0, 0⟩] 4 [0] ?_)
    obtain ⟨x_3, hx_6, h⟩ := bd h
    exact qv 8 0 [0] (fun w hm => idx_run (a := B_a) (len := s0.fcode.length) (s := 1) (j := s0.fat) (by kernel_rfl) (ix_some hx_6).1 (ltn hx_6 rfl) (B_h.sp hx_6)) (qv 9 0 [0] (fun w hm => ld_run (b := aB B_a) (off := (aO B_a + s0.fat.toNat * 1)) (s := 1) (agg := false) (vs := (encU8 x_3)) (by kernel_rfl) (by kernel_rfl) (.inr rfl) ((hm.exRowW B_h B_ha).at hx_6)) (qd [⟨10, 0, 0⟩,⟨11, 0, 0⟩] 0 [0] (qz (qm (w64 x_3) h [0]))))
   ·exact jc_skip (qm 0 h [0])
  ·rintro i_1 h
   replace h : spec_l00Src_next.k_2 s0 i_1 = some r := h
   rw [spec_l00Src_next.k_2] at h
   refine jx_then (jc_seq (jc_region (qh [0,0,0,0,0,0,0] (tO (qs 0 [0] (jkO (qe (jx_then (jc_seq (jc_region (qh [0,0,0,0,0,0,0,0,0,0,0,0] (tO (qs 0 [0] (jkO (qe (jx_then (jc_seq (jc_seq (qg [⟨some A_b, 179, [(.slice B_a s0.fcode.length B_c), (.int .i64 (w64 (s0.fat + 1))), (.int .u64 (u64 ((u64 ((u64 (s0.fseed * 6364136223846793005)) + (u64 i_1))) + 1442695040888963407)))]⟩] 10 (qd [⟨0, 0, 0⟩,⟨1, 0, 0⟩,⟨2, 0, 0⟩,⟨3, 0, 0⟩,⟨4, 0, 0⟩,⟨5, 0, 0⟩,⟨6, 0, 0⟩,⟨7, 0, 0⟩,⟨8, 0, 0⟩,⟨9, 0, 0⟩] 0 [0] (qz (jx_then (qi h (fun h => ?_) (fun h => ?_))))))))))))))))))))))))
   ·refine jc_seq (jc_region (qh [0,0] (qe (jx_then (jc_ret (jx_thenr ?_))))))
    obtain rfl := Option.some.inj h
    exact qr [] (fun w hm => ⟨rfl, hm.pk [0]⟩)
   ·refine jc_skip (jx_then (jc_seq (jc_region (qh [0,0,0,0,0,0,0,0] (qe (jx_then (jc_ret ?_)))))))
    obtain rfl := Option.some.inj h
    exact qr [] (fun w hm => ⟨rfl, hm.pk [0]⟩)
/-! ### (*spec.l00Src).pick -/
def spec_l00Src_pick.k_5 (s0 : Gl00Src) (n1 : Int) (i_2 : Int) (i_3 : Int) (i_4 : Int) : Option (Int × Gl00Src) := (if n1 ≠ 0 then some ((Int.tmod i_4 n1), (⟨s0.fcode, i_2, i_3⟩ : Gl00Src)) else none)
def spec_l00Src_pick (s0 : Gl00Src) (n1 : Int) : Option (Int × Gl00Src) := (if (decide (n1 ≤ 1)) = true then some (0, s0) else (spec_l00Src_next s0).bind fun t_1 => (if (decide (n1 > 200)) = true then (spec_l00Src_next (⟨s0.fcode, t_1.2.fat, t_1.2.fseed⟩ : Gl00Src)).bind fun t_6 => spec_l00Src_pick.k_5 s0 n1 t_6.2.fat t_6.2.fseed (w64 ((w64 (t_1.1 * 256)) + t_6.1)) else spec_l00Src_pick.k_5 s0 n1 t_1.2.fat t_1.2.fseed t_1.1))
theorem spec_l00Src_pick.calls (s0 : Gl00Src) (n1 : Int) (w : World) (r : Int × Gl00Src) {B_a : Option Addr} {B_an : Nat} (B_c : Nat) (B_h : Rw w B_a 1 encU8 s0.fcode) (B_hn : s0.fcode.length = B_an) (A_b : Nat) (hm0 : Mem w (bs [some A_b]) [⟨some A_b, 179, [(.slice B_a B_an B_c), (.int .i64 s0.fat), (.int .u64 s0.fseed)]⟩] w) (B_ha : s0.fcode ≠ [] → aB B_a ∉ bs [some A_b]) (h : spec_l00Src_pick s0 n1 = some r) :
    Calls Tryz.prog 93 #[(.pointer (some ⟨A_b, 0, none⟩)), (.int .i64 n1)] w fun e w' => ∃ v, e = .returned v ∧ (v = (.int .i64 r.1) ∧ Mem w (bs [some A_b]) [⟨some A_b, 179, [(.slice B_a B_an B_c), (.int .i64 r.2.fat), (.int .u64 r.2.fseed)]⟩] w') := by
  subst B_hn
  rw [spec_l00Src_pick] at h
  refine enter (args := [(.pointer (some ⟨A_b, 0, none⟩)), (.int .i64 n1)]) Tryz.func93 rfl Tryz.ntmps93 (by kernel_rfl) (L := [⟨some A_b, 179, [(.slice B_a s0.fcode.length B_c), (.int .i64 s0.fat), (.int .u64 s0.fseed)]⟩]) (W := bs [some A_b]) hm0 ?_
  refine jc_seq (jc_region (qh [0] (qe (jx_then (jc_seq (jc_seq (jc_region (qh [0,0] (qe (jx_then (qi h (fun h => ?_) (fun h => ?_))))))))))))
  ·refine jc_seq (jc_region (qh [0] (qe (jx_then (jc_ret (jx_thenr ?_))))))
   obtain rfl := Option.some.inj h
   exact qr [] (fun w hm => ⟨rfl, hm.pk [0]⟩)
  ·refine jc_skip (jx_then (jc_seq (jc_region (qh [0] ?_))))
   obtain ⟨t_1, ht_3, h⟩ := bd h
   refine tO (pc 0 (fun w hm => spec_l00Src_next.calls s0 w _ B_c (hm.exRowW B_h B_ha) rfl A_b (hm.pass (N := [⟨some A_b, 179, [(.slice B_a s0.fcode.length B_c), (.int .i64 s0.fat), (.int .u64 s0.fseed)]⟩]) [0] (by kernel_rfl) (by kernel_rfl)) (hm.exApart (N := [⟨some A_b, 179, [(.slice B_a s0.fcode.length B_c), (.int .i64 s0.fat), (.int .u64 s0.fseed)]⟩]) B_h B_ha [0] (by kernel_rfl)) ht_3) ?_)
   rintro w v w' hm ⟨rfl, hm'⟩
   refine ⟨_, hm.appW (ps := [(0, ⟨some A_b, 179, [(.slice B_a s0.fcode.length B_c), (.int .i64 t_1.2.fat), (.int .u64 t_1.2.fseed)]⟩)]) (N := []) hm' (by kernel_rfl) (by kernel_rfl), jkO ?_⟩
   clear hm hm'
   refine qh [0] (qe (jx_then (jc_seq (jc_meet (fun (j : Int × Int × Int) => match j with | ⟨i_2, i_3, i_4⟩ => spec_l00Src_pick.k_5 s0 n1 i_2 i_3 i_4 = some r) (fun (j : Int × Int × Int) => match j with | ⟨i_2, i_3, i_4⟩ => [(1, [], (.int .i64 n1)), (4, [], (.int .i64 0)), (5, [], (.int .i64 i_4))]) (fun (j : Int × Int × Int) => match j with | ⟨i_2, i_3, i_4⟩ => [⟨some A_b, 179, [(.slice B_a s0.fcode.length B_c), (.int .i64 i_2), (.int .u64 i_3)]⟩]) ?_ ?_))))
   ·refine jc_seq (jc_region (qh [0,0] (qe (jx_then (qi h (fun h => ?_) (fun h => ?_))))))
    ·refine jc_region (qh [0,0,0] ?_)
     obtain ⟨t_6, ht_8, h⟩ := bd h
     refine tO (pc 0 (fun w hm => spec_l00Src_next.calls (⟨s0.fcode, t_1.2.fat, t_1.2.fseed⟩ : Gl00Src) w _ B_c (hm.exRowW B_h B_ha) rfl A_b (hm.pass (N := [⟨some A_b, 179, [(.slice B_a s0.fcode.length B_c), (.int .i64 t_1.2.fat), (.int .u64 t_1.2.fseed)]⟩]) [0] (by kernel_rfl) (by kernel_rfl)) (hm.exApart (N := [⟨some A_b, 179, [(.slice B_a s0.fcode.length B_c), (.int .i64 t_1.2.fat), (.int .u64 t_1.2.fseed)]⟩]) B_h B_ha [0] (by kernel_rfl)) ht_8) ?_)
     rintro w v w' hm ⟨rfl, hm'⟩
     refine ⟨_, hm.appW (ps := [(0, ⟨some A_b, 179, [(.slice B_a s0.fcode.length B_c), (.int .i64 t_6.2.fat), (.int .u64 t_6.2.fseed)]⟩)]) (N := []) hm' (by kernel_rfl) (by kernel_rfl), jkO ?_⟩
     clear hm hm'
     exact qh [0,0] (qe (qm ⟨t_6.2.fat, t_6.2.fseed, (w64 ((w64 (t_1.1 * 256)) + t_6.1))⟩ h [0]))
    ·exact jc_skip (qm ⟨t_1.2.fat, t_1.2.fseed, t_1.1⟩ h [0])
   ·rintro ⟨i_2, i_3, i_4⟩ h
    replace h : spec_l00Src_pick.k_5 s0 n1 i_2 i_3 i_4 = some r := h
    rw [spec_l00Src_pick.k_5] at h
    refine jx_then (jc_seq (jc_region (qh [0,0] ?_)))
    obtain ⟨hg_6, h⟩ := gd h
    refine tO (p_rem 0 .i64 i_4 n1 (by kernel_rfl) (by kernel_rfl) hg_6 (jkO (qh [0] (qe (jx_then (jc_ret ?_))))))
    obtain rfl := Option.some.inj h
    exact qr [] (fun w hm => ⟨rfl, hm.pk [0]⟩)
/-! ### (*spec.l00Src).among -/
def spec_l00Src_among (s0 : Gl00Src) (list1 : List Int) : Option (Int × Gl00Src) := (spec_l00Src_pick s0 (list1.length : Int)).bind fun t_1 => (ix list1 t_1.1).bind fun x_2 => some (x_2, (⟨s0.fcode, t_1.2.fat, t_1.2.fseed⟩ : Gl00Src))
theorem spec_l00Src_among.calls (s0 : Gl00Src) (list1 : List Int) (w : World) (r : Int × Gl00Src) {B_a : Option Addr} {B_an : Nat} (B_c : Nat) (B_h : Rw w B_a 1 encU8 s0.fcode) (B_hn : s0.fcode.length = B_an) {E_a : Option Addr} {E_an : Nat} (E_c : Nat) (E_h : Rw w E_a 1 encI64 list1) (E_hn : list1.length = E_an) (A_b : Nat) (hm0 : Mem w (bs [some A_b]) [⟨some A_b, 179, [(.slice B_a B_an B_c), (.int .i64 s0.fat), (.int .u64 s0.fseed)]⟩] w) (B_ha : s0.fcode ≠ [] → aB B_a ∉ bs [some A_b]) (E_ha : list1 ≠ [] → aB E_a ∉ bs [some A_b]) (h : spec_l00Src_among s0 list1 = some r) :
    Calls Tryz.prog 127 #[(.pointer (some ⟨A_b, 0, none⟩)), (.slice E_a E_an E_c)] w fun e w' => ∃ v, e = .returned v ∧ (v = (.int .i64 r.1) ∧ Mem w (bs [some A_b]) [⟨some A_b, 179, [(.slice B_a B_an B_c), (.int .i64 r.2.fat), (.int .u64 r.2.fseed)]⟩] w') := by
  subst B_hn E_hn
  rw [spec_l00Src_among] at h
  refine enter (args := [(.pointer (some ⟨A_b, 0, none⟩)), (.slice E_a list1.length E_c)]) Tryz.func127 rfl Tryz.ntmps127 (by kernel_rfl) (L := [⟨some A_b, 179, [(.slice B_a s0.fcode.length B_c), (.int .i64 s0.fat), (.int .u64 s0.fseed)]⟩]) (W := bs [some A_b]) hm0 ?_
  refine jc_seq (jc_region (qh [0] (qe (jx_then (jc_seq (jc_region (qh [0,0,0,0] ?_)))))))
  obtain ⟨t_1, ht_1, h⟩ := bd h
  refine tO (pc 0 (fun w hm => spec_l00Src_pick.calls s0 (list1.length : Int) w _ B_c (hm.exRowW B_h B_ha) rfl A_b (hm.pass (N := [⟨some A_b, 179, [(.slice B_a s0.fcode.length B_c), (.int .i64 s0.fat), (.int .u64 s0.fseed)]⟩]) [0] (by kernel_rfl) (by kernel_rfl)) (hm.exApart (N := [⟨some A_b, 179, [(.slice B_a s0.fcode.length B_c), (.int .i64 s0.fat), (.int .u64 s0.fseed)]⟩]) B_h B_ha [0] (by kernel_rfl)) ht_1) ?_)
  rintro w v w' hm ⟨rfl, hm'⟩
  refine ⟨_, hm.appW (ps := [(0, ⟨some A_b, 179, [(.slice B_a s0.fcode.length B_c), (.int .i64 t_1.2.fat), (.int .u64 t_1.2.fseed)]⟩)]) (N := []) hm' (by kernel_rfl) (by kernel_rfl), jkO ?_⟩
  clear hm hm'
  obtain ⟨x_2, hx_2, h⟩ := bd h
  refine tO (qx 0 E_a 1 hx_2 rfl (E_h.sp hx_2) (jkO (tO (ql 0 false (fun w hm => ((hm.exRowW E_h E_ha).at hx_2)) (jkO (qh [0] (qe (jx_then (jc_ret ?_)))))))))
  obtain rfl := Option.some.inj h
  exact qr [] (fun w hm => ⟨rfl, hm.pk [0]⟩)
/-! ### spec.l01Before -/
def spec_l01Before (a0 : GNote) (b1 : GNote) : Option (Bool) := (if (decide (a0.fAt < b1.fAt)) = true then some true else some ((a0.fAt == b1.fAt) && (decide (a0.fPitch < b1.fPitch))))
theorem spec_l01Before.calls (a0 : GNote) (b1 : GNote) (w : World) (r : Bool) (h : spec_l01Before a0 b1 = some r) :
    Calls Tryz.prog 190 #[(.agg #[(.int .i16 a0.fAt), (.int .i8 a0.fPitch)]), (.agg #[(.int .i16 b1.fAt), (.int .i8 b1.fPitch)])] w fun e w' => ∃ v, e = .returned v ∧ (v = (.bool r) ∧ Mem w [] [] w') := by
  rw [spec_l01Before] at h
  refine enter (args := [(.agg #[(.int .i16 a0.fAt), (.int .i8 a0.fPitch)]), (.agg #[(.int .i16 b1.fAt), (.int .i8 b1.fPitch)])]) Tryz.func190 rfl Tryz.ntmps190 (by kernel_rfl) (L := []) (W := []) (Mem.start w) ?_
  refine jc_seq (jc_region (tO (qa 0 (fun b_1 => jkO (tO (qa 0 (fun b_2 => jkO (qh [0] (qe (jx_then (jc_seq (jc_region (qf [(0, 0), (0, 0), (0, 0), (1, 0), (0, 0), (0, 0), (0, 1), (0, 1), (0, 1), (1, 1), (0, 1)] (qp 10 h (fun h => ?_) (fun h => ?_)))))))))))))))
  ·refine qf [(0, 3), (0, 3), (0, 3), (0, 3), (0, 3), (0, 3), (0, 3), (0, 4), (0, 0)] (qe (jx_then (jc_ret ?_)))
   obtain rfl := Option.some.inj h
   exact qr [] (fun w hm => ⟨rfl, hm.pk []⟩)
  ·refine qf [(0, 2), (0, 1), (0, 1), (0, 1), (1, 1), (0, 1), (0, 2), (0, 5), (0, 0)] (qe (jx_then (jc_ret ?_)))
   obtain rfl := Option.some.inj h
   exact qr [] (fun w hm => ⟨rfl, hm.pk []⟩)
/-! ### spec.l01Sorted -/
def spec_l01Sorted.k_2 (xs_1 : List GNote) : Option ((List GNote)) := some xs_1
def spec_l01Sorted.k_9 (list0 : List GNote) (xs_3 : List GNote) (i_4 : Int) (i_7 : Int) : Option (((List GNote) × Int) ⊕ ((List GNote))) := (if 0 ≤ i_7 ∧ i_7 ≤ (xs_3.length : Int) then (if ([] : List GNote).length + (xs_3.drop i_7.toNat).length ≤ 4294967296 then (if 0 ≤ i_7 ∧ i_7 ≤ (xs_3.length : Int) then (ix list0 i_4).bind fun x_10 => (if i_7.toNat + ([x_10] : List GNote).length ≤ 4294967296 then (if (xs_3.take i_7.toNat ++ ([x_10] : List GNote)).length + (([] : List GNote) ++ (xs_3.drop i_7.toNat)).length ≤ 4294967296 then some (.inl (((xs_3.take i_7.toNat ++ ([x_10] : List GNote)) ++ (([] : List GNote) ++ (xs_3.drop i_7.toNat))), (w64 (i_4 + 1)))) else none) else none) else none) else none) else none)
def spec_l01Sorted.k_8 (list0 : List GNote) (xs_3 : List GNote) (i_4 : Int) (i_7 : Int) : Option (((List GNote) × Int) ⊕ ((List GNote))) := (if (decide (i_7 < (xs_3.length : Int))) = true then (ix xs_3 i_7).bind fun x_11 => (ix list0 i_4).bind fun x_12 => (if ((x_11.fAt == x_12.fAt) && (x_11.fPitch == x_12.fPitch)) = true then some (.inl (xs_3, (w64 (i_4 + 1)))) else spec_l01Sorted.k_9 list0 xs_3 i_4 i_7) else spec_l01Sorted.k_9 list0 xs_3 i_4 i_7)
def spec_l01Sorted.l_14 (list0 : List GNote) (xs_3 : List GNote) (i_4 : Int) : Int → Option ((Int) ⊕ (Int))
  | i_13 => (if (decide (i_13 < (xs_3.length : Int))) = true then (ix xs_3 i_13).bind fun x_16 => (ix list0 i_4).bind fun x_17 => (spec_l01Before x_16 x_17).bind fun t_18 => (if t_18 = true then some (.inl (w64 (i_13 + 1))) else some (.inr i_13)) else some (.inr i_13))
def spec_l01Sorted.l_5 (list0 : List GNote) : ((List GNote) × Int) → Option (((List GNote) × Int) ⊕ ((List GNote)))
  | (xs_3, i_4) => (if (decide (i_4 < (list0.length : Int))) = true then (loop (spec_l01Sorted.l_14 list0 xs_3 i_4) 0).bind fun t_15 => spec_l01Sorted.k_8 list0 xs_3 i_4 t_15 else some (.inr xs_3))
def spec_l01Sorted (list0 : List GNote) : Option ((List GNote)) := (loop (spec_l01Sorted.l_5 list0) (([] : List GNote), 0)).bind fun t_6 => spec_l01Sorted.k_2 t_6
theorem spec_l01Sorted.calls (list0 : List GNote) (w : World) (r : (List GNote)) {A_a : Option Addr} {A_an : Nat} (A_c : Nat) (A_h : Rw w A_a 2 encGNote list0) (A_hn : list0.length = A_an) (h : spec_l01Sorted list0 = some r) :
    Calls Tryz.prog 122 #[(.slice A_a A_an A_c)] w fun e w' => ∃ v, e = .returned v ∧ (∃ (o0 : Option Nat) (c0 : Nat) (s0 : List Value) (n0 : Nat), r.length = n0 ∧ (o0 ≠ none → n0 ≤ c0 ∧ s0.length = (c0 - n0) * 2) ∧ (o0 = none → r = [] ∧ c0 = 0) ∧ v = .slice (o0.map fun b => ⟨b, 0, none⟩) n0 c0 ∧ Mem w [] [⟨o0, 101, row encGNote r s0⟩] w') := by
  subst A_hn
  rw [spec_l01Sorted] at h
  refine enter (args := [(.slice A_a list0.length A_c)]) Tryz.func122 rfl Tryz.ntmps122 (by kernel_rfl) (L := []) (W := []) (Mem.start w) ?_
  refine jc_seq (jc_region (qh [0] (qe (jx_then (jc_seq (jc_region (tO (qa 0 (fun b_1 => jkO (qh [0] (qe (jx_then (jc_seq (jc_seq (jc_region (qh [0] (qe (jx_then (jc_meet (fun (j : (List GNote) × (Option Nat) × Nat × (List Value) × Nat) => match j with | ⟨xs_1, o_1136, cap_1137, sp_1138, n_1139⟩ => spec_l01Sorted.k_2 xs_1 = some r ∧ (xs_1.length = n_1139) ∧ ((o_1136 ≠ none → n_1139 ≤ cap_1137 ∧ sp_1138.length = (cap_1137 - n_1139) * 2)) ∧ ((o_1136 = none → xs_1 = [] ∧ cap_1137 = 0))) (fun (j : (List GNote) × (Option Nat) × Nat × (List Value) × Nat) => match j with | ⟨xs_1, o_1136, cap_1137, sp_1138, n_1139⟩ => [(2, [], (.slice none 0 0)), (3, [], (.slice (o_1136.map fun b => ⟨b, 0, none⟩) n_1139 cap_1137))]) (fun (j : (List GNote) × (Option Nat) × Nat × (List Value) × Nat) => match j with | ⟨xs_1, o_1136, cap_1137, sp_1138, n_1139⟩ => [⟨o_1136, 101, row encGNote xs_1 sp_1138⟩]) ?_ ?_)))))))))))))))))))
  ·refine jc_block ?_
   obtain ⟨t_6, ht_1517, hr_1394⟩ := bd h
   refine jc_loop (fun (s : (List GNote) × Int) (x : (Option Nat) × Nat × (List Value) × Nat) => match s, x with | ⟨xs_3, i_4⟩, ⟨o_1388, cap_1389, sp_1390, n_1391⟩ => (xs_3.length = n_1391) ∧ ((o_1388 ≠ none → n_1391 ≤ cap_1389 ∧ sp_1390.length = (cap_1389 - n_1391) * 2)) ∧ ((o_1388 = none → xs_3 = [] ∧ cap_1389 = 0))) (fun (s : (List GNote) × Int) (x : (Option Nat) × Nat × (List Value) × Nat) => match s, x with | ⟨xs_3, i_4⟩, ⟨o_1388, cap_1389, sp_1390, n_1391⟩ => [(0, [], (.slice A_a list0.length A_c)), (2, [], (.slice none 0 0)), (3, [], (.slice (o_1388.map fun b => ⟨b, 0, none⟩) n_1391 cap_1389)), (4, [], (.int .i64 i_4))]) (fun (s : (List GNote) × Int) (x : (Option Nat) × Nat × (List Value) × Nat) => match s, x with | ⟨xs_3, i_4⟩, ⟨o_1388, cap_1389, sp_1390, n_1391⟩ => [⟨o_1388, 101, row encGNote xs_3 sp_1390⟩]) ht_1517 ⟨(some b_1), 0, [], 0⟩ ⟨rfl, (fun _ => ⟨Nat.le_refl _, by simp⟩), (fun e => nomatch e)⟩ (by kernel_rfl) [0] (by kernel_rfl) (by kernel_rfl) ?_
   rintro ⟨xs_3, i_4⟩ ⟨o_1388, cap_1389, sp_1390, n_1391⟩ y_1395 ⟨rfl, hs_1392, ho_1393⟩ h
   rw [spec_l01Sorted.l_5] at h
   refine jc_seq (jc_seq (jc_region (qh [0,0,0,0] (qe (jx_then (qi h (fun h => ?_) (fun h => ?_)))))))
   ·refine jc_skip (jx_then (jc_seq (jc_block (jc_seq (jc_region (qh [0] (qe (jx_then (jc_seq (jc_meet (fun (j : Int) => match j with | i_7 => spec_l01Sorted.k_8 list0 xs_3 i_4 i_7 = some y_1395) (fun (j : Int) => match j with | i_7 => [(0, [], (.slice A_a list0.length A_c)), (2, [], (.slice none 0 0)), (3, [], (.slice (o_1388.map fun b => ⟨b, 0, none⟩) xs_3.length cap_1389)), (4, [], (.int .i64 i_4)), (5, [], (.int .i64 i_7))]) (fun (j : Int) => match j with | i_7 => [⟨o_1388, 101, row encGNote xs_3 sp_1390⟩]) ?_ ?_))))))))))
    ·refine jc_block ?_
     obtain ⟨t_15, ht_1515, hr_1499⟩ := bd h
     refine jc_loop (fun (s : Int) (x : Unit) => match s, x with | i_13, _ => True) (fun (s : Int) (x : Unit) => match s, x with | i_13, _ => [(0, [], (.slice A_a list0.length A_c)), (2, [], (.slice none 0 0)), (3, [], (.slice (o_1388.map fun b => ⟨b, 0, none⟩) xs_3.length cap_1389)), (4, [], (.int .i64 i_4)), (5, [], (.int .i64 i_13))]) (fun (s : Int) (x : Unit) => match s, x with | i_13, _ => [⟨o_1388, 101, row encGNote xs_3 sp_1390⟩]) ht_1515 () trivial (by kernel_rfl) [0] (by kernel_rfl) (by kernel_rfl) ?_
     rintro i_13 _ y_1500 _ h
     rw [spec_l01Sorted.l_14] at h
     refine jc_seq (jc_seq (qg [⟨o_1388, 101, row encGNote xs_3 sp_1390⟩] 15 (qd [⟨0, 0, 0⟩,⟨1, 0, 0⟩,⟨2, 0, 0⟩,⟨3, 0, 0⟩,⟨4, 0, 0⟩,⟨5, 0, 1⟩,⟨6, 0, 1⟩,⟨9, 0, 1⟩,⟨10, 0, 1⟩] 6 [0] (jd_split 18 (decide (i_13 < (xs_3.length : Int))) (by kernel_rfl) (fun hc_1507 => ?_) (fun hc_1507 => ?_)))))
     ·replace h := ifT hc_1507 h
      obtain ⟨x_16, hx_1508, h⟩ := bd h
      refine qv 7 2 [0] (fun w hm => idx_run (a := (o_1388.map fun b => ⟨b, 0, none⟩)) (len := xs_3.length) (s := 2) (j := i_13) (by kernel_rfl) (ix_some hx_1508).1 (ltn hx_1508 rfl) (spo ho_1393 hx_1508)) (qv 8 2 [0] (fun w hm => ld_run (b := aB (o_1388.map fun b => ⟨b, 0, none⟩)) (off := (aO (o_1388.map fun b => ⟨b, 0, none⟩) + i_13.toNat * 2)) (s := 2) (agg := true) (vs := (encGNote x_16)) (by kernel_rfl) (by kernel_rfl) (.inl rfl) ((hm.ow 0 o_1388 101 xs_3 sp_1390 (fun e => (ho_1393 e).1) encGNote_len).at hx_1508)) ?_)
      obtain ⟨x_17, hx_1509, h⟩ := bd h
      refine qv 11 2 [0] (fun w hm => idx_run (a := A_a) (len := list0.length) (s := 2) (j := i_4) (by kernel_rfl) (ix_some hx_1509).1 (ltn hx_1509 rfl) (A_h.sp hx_1509)) (qv 12 2 [0] (fun w hm => ld_run (b := aB A_a) (off := (aO A_a + i_4.toNat * 2)) (s := 2) (agg := true) (vs := (encGNote x_17)) (by kernel_rfl) (by kernel_rfl) (.inl rfl) ((hm.xr A_h).at hx_1509)) ?_)
      obtain ⟨t_18, ht_1510, h⟩ := bd h
      refine tD 13 (pc 2 (fun w hm => spec_l01Before.calls x_16 x_17 w _ ht_1510) ?_)
      rintro w v w' hm ⟨rfl, hm'⟩
      refine ⟨_, hm.app hm', kD [0] ?_⟩
      clear hm hm'
      refine qd [⟨14, 0, 4⟩] 0 [0] (qz (jx_then (qi h (fun h => ?_) (fun h => ?_))))
      ·exact jc_skip (jx_then (jc_block (jc_region (qh [0,0,0] (qe (jx_inn (qb (w64 (i_13 + 1)) () h trivial [0])))))))
      ·refine jc_exit (jx_thenx (jx_leave i_13 (Option.some.inj h).symm (fun e_1512 => ?_)))
       subst e_1512
       exact jx_ine (qm i_13 hr_1499 [0])
     ·replace h := ifF hc_1507 h
      refine qd [⟨7, 0, 3⟩,⟨8, 0, 3⟩,⟨11, 0, 3⟩,⟨12, 0, 3⟩,⟨13, 0, 3⟩,⟨14, 0, 5⟩] 0 [0] (qz (jx_then (jc_cond false (by kernel_rfl) (fun hc_1513 => nomatch hc_1513) (fun hc_1513 => (jc_exit (jx_thenx (jx_leave i_13 (Option.some.inj h).symm (fun e_1514 => ?_))))))))
      subst e_1514
      exact jx_ine (qm i_13 hr_1499 [0])
    ·rintro i_7 h
     replace h : spec_l01Sorted.k_8 list0 xs_3 i_4 i_7 = some y_1395 := h
     rw [spec_l01Sorted.k_8] at h
     refine jx_then (jc_seq (jc_meet (fun (_ : Unit) => spec_l01Sorted.k_9 list0 xs_3 i_4 i_7 = some y_1395) (fun (_ : Unit) => [(0, [], (.slice A_a list0.length A_c)), (2, [], (.slice none 0 0)), (3, [], (.slice (o_1388.map fun b => ⟨b, 0, none⟩) xs_3.length cap_1389)), (4, [], (.int .i64 i_4)), (5, [], (.int .i64 i_7))]) (fun (_ : Unit) => [⟨o_1388, 101, row encGNote xs_3 sp_1390⟩]) ?_ ?_))
     ·refine jc_seq (qg [⟨o_1388, 101, row encGNote xs_3 sp_1390⟩] 15 (qd [⟨0, 0, 0⟩,⟨1, 0, 0⟩,⟨2, 0, 0⟩,⟨3, 0, 0⟩,⟨4, 0, 0⟩,⟨5, 0, 1⟩,⟨6, 0, 1⟩,⟨9, 0, 1⟩,⟨10, 0, 1⟩] 6 [0] (jd_split 35 (decide (i_7 < (xs_3.length : Int))) (by kernel_rfl) (fun hc_1470 => ?_) (fun hc_1470 => ?_))))
      ·replace h := ifT hc_1470 h
       obtain ⟨x_11, hx_1471, h⟩ := bd h
       refine qv 7 2 [0] (fun w hm => idx_run (a := (o_1388.map fun b => ⟨b, 0, none⟩)) (len := xs_3.length) (s := 2) (j := i_7) (by kernel_rfl) (ix_some hx_1471).1 (ltn hx_1471 rfl) (spo ho_1393 hx_1471)) (qv 8 2 [0] (fun w hm => ld_run (b := aB (o_1388.map fun b => ⟨b, 0, none⟩)) (off := (aO (o_1388.map fun b => ⟨b, 0, none⟩) + i_7.toNat * 2)) (s := 2) (agg := true) (vs := (encGNote x_11)) (by kernel_rfl) (by kernel_rfl) (.inl rfl) ((hm.ow 0 o_1388 101 xs_3 sp_1390 (fun e => (ho_1393 e).1) encGNote_len).at hx_1471)) ?_)
       obtain ⟨x_12, hx_1472, h⟩ := bd h
       refine qv 11 2 [0] (fun w hm => idx_run (a := A_a) (len := list0.length) (s := 2) (j := i_4) (by kernel_rfl) (ix_some hx_1472).1 (ltn hx_1472 rfl) (A_h.sp hx_1472)) (qv 12 2 [0] (fun w hm => ld_run (b := aB A_a) (off := (aO A_a + i_4.toNat * 2)) (s := 2) (agg := true) (vs := (encGNote x_12)) (by kernel_rfl) (by kernel_rfl) (.inl rfl) ((hm.xr A_h).at hx_1472)) (qd [⟨13, 0, 2⟩,⟨14, 0, 4⟩] 0 [0] (qz (jx_then (qi h (fun h => ?_) (fun h => ?_))))))
       ·exact jc_exit (jx_thenx (jx_thenx (jx_ine (jx_then (jc_region (qh [0,0,0] (qe (qb (xs_3, (w64 (i_4 + 1))) ⟨o_1388, cap_1389, sp_1390, xs_3.length⟩ h ⟨rfl, hs_1392, ho_1393⟩ [0]))))))))
       ·exact jc_skip (qm () h [0])
      ·replace h := ifF hc_1470 h
       exact qd [⟨7, 0, 3⟩,⟨8, 0, 3⟩,⟨11, 0, 3⟩,⟨12, 0, 3⟩,⟨13, 0, 3⟩,⟨14, 0, 5⟩] 0 [0] (qz (jx_then (jc_cond false (by kernel_rfl) (fun hc_1474 => nomatch hc_1474) (fun hc_1474 => (jc_skip (qm () h [0]))))))
     ·rintro _ h
      replace h : spec_l01Sorted.k_9 list0 xs_3 i_4 i_7 = some y_1395 := h
      rw [spec_l01Sorted.k_9] at h
      refine jx_then (jc_seq (jc_region (tO (qa 0 (fun b_1444 => jkO (qh [0,0] ?_))))))
      obtain ⟨hg_1445, h⟩ := gd h
      refine tO (p_slL 0 (o_1388.map fun b => ⟨b, 0, none⟩) xs_3.length cap_1389 2 i_7 (by kernel_rfl) (by kernel_rfl) hg_1445.1 (Int.le_trans hg_1445.2 (Int.ofNat_le.2 (Nat.le_of_eq rfl))) (jkO ?_))
      obtain ⟨hg_1446, h⟩ := gd h
      refine tO (p_apn 0 1 (some b_1444) 101 0 (xs_3.length - i_7.toNat) 0 2 4 (pa (o_1388.map fun b => ⟨b, 0, none⟩) i_7.toNat cap_1389 2) encGNote ([] : List GNote) (xs_3.drop i_7.toNat) [] (.agg #[(.int .i16 0), (.int .i8 0)]) rfl (tl_len rfl i_7) (by kernel_rfl) (by kernel_rfl) (by kernel_rfl) encGNote_len encGNote_cell (fun _ => ⟨Nat.le_refl _, by simp⟩) (fun e => nomatch e) (fun w hm => ((hm.ow 0 o_1388 101 xs_3 sp_1390 (fun e => (ho_1393 e).1) encGNote_len).tl i_7.toNat cap_1389 (cap_le rfl hs_1392 ho_1393))) hg_1446 (by kernel_rfl) (by kernel_rfl) (fun o_1447 cap_1448 sp_1449 hs_1450 ho_1451 => jkO (qh [0] (qe (jx_then (qg [⟨o_1447, 101, row encGNote (([] : List GNote) ++ (xs_3.drop i_7.toNat)) sp_1449⟩] 12 (qd [⟨0, 0, 0⟩,⟨1, 0, 0⟩,⟨3, 0, 0⟩,⟨4, 0, 0⟩,⟨9, 0, 0⟩] 7 [1] ?_)))))))
      obtain ⟨hg_1455, h⟩ := gd h
      refine qv 2 0 [1] (fun w hm => slH_run (a := (o_1388.map fun b => ⟨b, 0, none⟩)) (len := xs_3.length) (cap := cap_1389) (size := 2) (h := i_7) (by kernel_rfl) hg_1455.1 (Int.le_trans hg_1455.2 (Int.ofNat_le.2 (cap_le rfl hs_1392 ho_1393)))) ?_
      obtain ⟨x_10, hx_1456, h⟩ := bd h
      refine qv 5 0 [1] (fun w hm => idx_run (a := A_a) (len := list0.length) (s := 2) (j := i_4) (by kernel_rfl) (ix_some hx_1456).1 (ltn hx_1456 rfl) (A_h.sp hx_1456)) (qv 6 0 [1] (fun w hm => ld_run (b := aB A_a) (off := (aO A_a + i_4.toNat * 2)) (s := 2) (agg := true) (vs := (encGNote x_10)) (by kernel_rfl) (by kernel_rfl) (.inl rfl) ((hm.xr A_h).at hx_1456)) (tD 7 (qa 0 (fun b_1457 => kD [1] ?_))))
      obtain ⟨hg_1458, h⟩ := gd h
      refine tD 8 (p_apI 0 0 o_1388 101 i_7.toNat xs_3.length 1 cap_1389 2 4 (some ⟨b_1457, 0, none⟩) encGNote xs_3 ([x_10] : List GNote) sp_1390 (.agg #[(.int .i16 0), (.int .i8 0)]) (show i_7.toNat ≤ xs_3.length by have := hg_1455; omega) rfl rfl (by kernel_rfl) (by kernel_rfl) (by kernel_rfl) encGNote_len encGNote_cell hs_1392 ho_1393 (fun w hm => (hm.ow 2 (some b_1457) 101 ([x_10] : List GNote) [] (fun e => nomatch e) encGNote_len)) hg_1458 (by kernel_rfl) (by kernel_rfl) (fun o_1459 cap_1460 sp_1461 hs_1462 ho_1463 => kD [1] ?_))
      obtain ⟨hg_1464, h⟩ := gd h
      exact tD 10 (p_apn 0 0 o_1459 101 ((xs_3.take i_7.toNat ++ ([x_10] : List GNote)).length) ((([] : List GNote) ++ (xs_3.drop i_7.toNat)).length) cap_1460 2 4 (o_1447.map fun b => ⟨b, 0, none⟩) encGNote (xs_3.take i_7.toNat ++ ([x_10] : List GNote)) (([] : List GNote) ++ (xs_3.drop i_7.toNat)) sp_1461 (.agg #[(.int .i16 0), (.int .i8 0)]) rfl rfl (by kernel_rfl) (by kernel_rfl) (by kernel_rfl) encGNote_len encGNote_cell hs_1462 ho_1463 (fun w hm => (hm.ow 1 o_1447 101 (([] : List GNote) ++ (xs_3.drop i_7.toNat)) sp_1449 (fun e => (ho_1451 e).1) encGNote_len)) hg_1464 (by kernel_rfl) (by kernel_rfl) (fun o_1465 cap_1466 sp_1467 hs_1468 ho_1469 => kD [1] (qd [⟨11, 0, 0⟩] 0 [1] (qz (jx_inn (jx_then (jc_region (qh [0,0,0] (qe (qb (((xs_3.take i_7.toNat ++ ([x_10] : List GNote)) ++ (([] : List GNote) ++ (xs_3.drop i_7.toNat))), (w64 (i_4 + 1))) ⟨o_1465, cap_1466, sp_1467, ((xs_3.take i_7.toNat ++ ([x_10] : List GNote)) ++ (([] : List GNote) ++ (xs_3.drop i_7.toNat))).length⟩ h ⟨rfl, hs_1468, ho_1469⟩ [0]))))))))))
   ·refine jc_exit (jx_thenx (jx_leave xs_3 (Option.some.inj h).symm (fun e_1516 => ?_)))
    subst e_1516
    exact jx_ine (qm ⟨xs_3, o_1388, cap_1389, sp_1390, xs_3.length⟩ ⟨hr_1394, rfl, hs_1392, ho_1393⟩ [0])
  ·rintro ⟨xs_1, o_1136, cap_1137, sp_1138, n_1139⟩ ⟨h, rfl, hs_1140, ho_1141⟩
   replace h : spec_l01Sorted.k_2 xs_1 = some r := h
   rw [spec_l01Sorted.k_2] at h
   refine jx_then (jc_seq (jc_region (qh [0,0] (qe (jx_then (jc_ret ?_))))))
   obtain rfl := Option.some.inj h
   exact qr [] (fun w hm => ⟨o_1136, cap_1137, sp_1138, xs_1.length, rfl, hs_1140, ho_1141, rfl, hm.pk [0]⟩)
/-! ### spec.l07Short -/
def spec_l07Short.k_11 (s0 : Gl00Src) (t_1 : Int × Gl00Src) (xs_5 : List GHammer) (xs_8 : List GNote) (i_9 : Int) (i_10 : Int) : Option (GFrame × (List GNote) × Gl00Src) := (spec_l01Sorted xs_8).bind fun t_12 => some ((⟨(w16 (w64 (6 + t_1.1))), xs_5⟩ : GFrame), t_12, (⟨s0.fcode, i_9, i_10⟩ : Gl00Src))
def spec_l07Short.l_17 (s0 : Gl00Src) (t_1 : Int × Gl00Src) : ((List GNote) × Int × Int × Int) → Option (((List GNote) × Int × Int × Int) ⊕ (((List GNote) × Int × Int)))
  | (xs_13, i_14, i_15, i_16) => (if (decide (i_16 > 0)) = true then (spec_l00Src_pick (⟨s0.fcode, i_14, i_15⟩ : Gl00Src) (w64 (w16 (w64 (6 + t_1.1))))).bind fun t_19 => (spec_l00Src_among (⟨s0.fcode, t_19.2.fat, t_19.2.fseed⟩ : Gl00Src) ([22, 23, 24, 34, 35, 12] : List Int)).bind fun t_20 => (if xs_13.length + ([(⟨(w16 t_19.1), (w8 t_20.1)⟩ : GNote)] : List GNote).length ≤ 4294967296 then some (.inl ((xs_13 ++ ([(⟨(w16 t_19.1), (w8 t_20.1)⟩ : GNote)] : List GNote)), t_20.2.fat, t_20.2.fseed, (w64 (i_16 - 1)))) else none) else some (.inr (xs_13, i_14, i_15)))
def spec_l07Short.k_6 (s0 : Gl00Src) (t_1 : Int × Gl00Src) (i_3 : Int) (i_4 : Int) (xs_5 : List GHammer) : Option (GFrame × (List GNote) × Gl00Src) := (spec_l00Src_pick (⟨s0.fcode, i_3, i_4⟩ : Gl00Src) 5).bind fun t_7 => (loop (spec_l07Short.l_17 s0 t_1) (([] : List GNote), t_7.2.fat, t_7.2.fseed, t_7.1)).bind fun t_18 => spec_l07Short.k_11 s0 t_1 xs_5 t_18.1 t_18.2.1 t_18.2.2
def spec_l07Short.l_25 (s0 : Gl00Src) : (Int × Int × (List GHammer) × Int) → Option ((Int × Int × (List GHammer) × Int) ⊕ ((Int × Int × (List GHammer))))
  | (i_21, i_22, xs_23, i_24) => (if (decide (i_24 > 0)) = true then (spec_l00Src_among (⟨s0.fcode, i_21, i_22⟩ : Gl00Src) ([22, 23, 24, 34, 35] : List Int)).bind fun t_27 => (spec_l00Src_pick (⟨s0.fcode, t_27.2.fat, t_27.2.fseed⟩ : Gl00Src) 4).bind fun t_28 => (if xs_23.length + ([(⟨(w8 t_27.1), (w8 (w64 (1 + t_28.1)))⟩ : GHammer)] : List GHammer).length ≤ 4294967296 then some (.inl (t_28.2.fat, t_28.2.fseed, (xs_23 ++ ([(⟨(w8 t_27.1), (w8 (w64 (1 + t_28.1)))⟩ : GHammer)] : List GHammer)), (w64 (i_24 - 1)))) else none) else some (.inr (i_21, i_22, xs_23)))
def spec_l07Short (s0 : Gl00Src) : Option (GFrame × (List GNote) × Gl00Src) := (spec_l00Src_pick s0 8).bind fun t_1 => (spec_l00Src_pick (⟨s0.fcode, t_1.2.fat, t_1.2.fseed⟩ : Gl00Src) 3).bind fun t_2 => (loop (spec_l07Short.l_25 s0) (t_2.2.fat, t_2.2.fseed, [], (w64 (1 + t_2.1)))).bind fun t_26 => spec_l07Short.k_6 s0 t_1 t_26.1 t_26.2.1 t_26.2.2
theorem spec_l07Short.calls (s0 : Gl00Src) (w : World) (r : GFrame × (List GNote) × Gl00Src) {B_a : Option Addr} {B_an : Nat} (B_c : Nat) (B_h : Rw w B_a 1 encU8 s0.fcode) (B_hn : s0.fcode.length = B_an) (A_b : Nat) (hm0 : Mem w (bs [some A_b]) [⟨some A_b, 179, [(.slice B_a B_an B_c), (.int .i64 s0.fat), (.int .u64 s0.fseed)]⟩] w) (B_ha : s0.fcode ≠ [] → aB B_a ∉ bs [some A_b]) (h : spec_l07Short s0 = some r) :
    Calls Tryz.prog 56 #[(.pointer (some ⟨A_b, 0, none⟩))] w fun e w' => ∃ v, e = .returned v ∧ (∃ (o0 : Option Nat) (c0 : Nat) (s0 : List Value) (n0 : Nat), r.1.fHammers.length = n0 ∧ (o0 ≠ none → n0 ≤ c0 ∧ s0.length = (c0 - n0) * 2) ∧ (o0 = none → r.1.fHammers = [] ∧ c0 = 0) ∧ ∃ (o1 : Option Nat) (c1 : Nat) (s1 : List Value) (n1 : Nat), r.2.1.length = n1 ∧ (o1 ≠ none → n1 ≤ c1 ∧ s1.length = (c1 - n1) * 2) ∧ (o1 = none → r.2.1 = [] ∧ c1 = 0) ∧ v = .tuple #[.agg #[(.int .i16 r.1.fSteps), .slice (o0.map fun b => ⟨b, 0, none⟩) n0 c0], .slice (o1.map fun b => ⟨b, 0, none⟩) n1 c1] ∧ Mem w (bs [some A_b]) [⟨some A_b, 179, [(.slice B_a B_an B_c), (.int .i64 r.2.2.fat), (.int .u64 r.2.2.fseed)]⟩, ⟨o0, 132, row encGHammer r.1.fHammers s0⟩, ⟨o1, 101, row encGNote r.2.1 s1⟩] w') := by
  subst B_hn
  rw [spec_l07Short] at h
  refine enter (args := [(.pointer (some ⟨A_b, 0, none⟩))]) Tryz.func56 rfl Tryz.ntmps56 (by kernel_rfl) (L := [⟨some A_b, 179, [(.slice B_a s0.fcode.length B_c), (.int .i64 s0.fat), (.int .u64 s0.fseed)]⟩]) (W := bs [some A_b]) hm0 ?_
  refine jc_seq (jc_region (tO (qa 0 (fun b_1 => jkO (qh [0] (qe (jx_then (jc_seq (jc_region (qh [0] ?_))))))))))
  obtain ⟨t_1, ht_2, h⟩ := bd h
  refine tO (pc 0 (fun w hm => spec_l00Src_pick.calls s0 8 w _ B_c (hm.exRowW B_h B_ha) rfl A_b (hm.pass (N := [⟨some A_b, 179, [(.slice B_a s0.fcode.length B_c), (.int .i64 s0.fat), (.int .u64 s0.fseed)]⟩]) [0] (by kernel_rfl) (by kernel_rfl)) (hm.exApart (N := [⟨some A_b, 179, [(.slice B_a s0.fcode.length B_c), (.int .i64 s0.fat), (.int .u64 s0.fseed)]⟩]) B_h B_ha [0] (by kernel_rfl)) ht_2) ?_)
  rintro w v w' hm ⟨rfl, hm'⟩
  refine ⟨_, hm.appW (ps := [(0, ⟨some A_b, 179, [(.slice B_a s0.fcode.length B_c), (.int .i64 t_1.2.fat), (.int .u64 t_1.2.fseed)]⟩)]) (N := []) hm' (by kernel_rfl) (by kernel_rfl), jkO ?_⟩
  clear hm hm'
  refine qh [0,0,0] (tO (qa 0 (fun b_3 => jkO (tO (qs 0 [2] (jkO (qe (jx_then (jc_seq (jc_seq (jc_region (qh [0] ?_))))))))))))
  obtain ⟨t_2, ht_121, h⟩ := bd h
  refine tO (pc 0 (fun w hm => spec_l00Src_pick.calls (⟨s0.fcode, t_1.2.fat, t_1.2.fseed⟩ : Gl00Src) 3 w _ B_c (hm.exRowW B_h B_ha) rfl A_b (hm.pass (N := [⟨some A_b, 179, [(.slice B_a s0.fcode.length B_c), (.int .i64 t_1.2.fat), (.int .u64 t_1.2.fseed)]⟩]) [0] (by kernel_rfl) (by kernel_rfl)) (hm.exApart (N := [⟨some A_b, 179, [(.slice B_a s0.fcode.length B_c), (.int .i64 t_1.2.fat), (.int .u64 t_1.2.fseed)]⟩]) B_h B_ha [0] (by kernel_rfl)) ht_121) ?_)
  rintro w v w' hm ⟨rfl, hm'⟩
  refine ⟨_, hm.appW (ps := [(0, ⟨some A_b, 179, [(.slice B_a s0.fcode.length B_c), (.int .i64 t_2.2.fat), (.int .u64 t_2.2.fseed)]⟩)]) (N := []) hm' (by kernel_rfl) (by kernel_rfl), jkO ?_⟩
  clear hm hm'
  refine qh [0,0] (qe (jx_then (jc_meet (fun (j : Int × Int × (List GHammer) × (Option Nat) × Nat × (List Value) × Nat) => match j with | ⟨i_3, i_4, xs_5, o_177, cap_178, sp_179, n_180⟩ => spec_l07Short.k_6 s0 t_1 i_3 i_4 xs_5 = some r ∧ (xs_5.length = n_180) ∧ ((o_177 ≠ none → n_180 ≤ cap_178 ∧ sp_179.length = (cap_178 - n_180) * 2)) ∧ ((o_177 = none → xs_5 = [] ∧ cap_178 = 0))) (fun (j : Int × Int × (List GHammer) × (Option Nat) × Nat × (List Value) × Nat) => match j with | ⟨i_3, i_4, xs_5, o_177, cap_178, sp_179, n_180⟩ => [(0, [], (.pointer (some ⟨A_b, 0, none⟩))), (2, [], (.pointer (some ⟨b_1, 0, none⟩))), (3, [], (.slice none 0 0)), (4, [], (.pointer (some ⟨b_3, 0, none⟩)))]) (fun (j : Int × Int × (List GHammer) × (Option Nat) × Nat × (List Value) × Nat) => match j with | ⟨i_3, i_4, xs_5, o_177, cap_178, sp_179, n_180⟩ => [⟨some A_b, 179, [(.slice B_a s0.fcode.length B_c), (.int .i64 i_3), (.int .u64 i_4)]⟩, ⟨some b_1, 27, [(.int .i16 0), (.slice none 0 0)]⟩, ⟨some b_3, 27, [(.int .i16 (w16 (w64 (6 + t_1.1)))), (.slice (o_177.map fun b => ⟨b, 0, none⟩) n_180 cap_178)]⟩, ⟨o_177, 132, row encGHammer xs_5 sp_179⟩]) ?_ ?_)))
  ·refine jc_block ?_
   obtain ⟨t_26, ht_484, hr_468⟩ := bd h
   refine jc_ghost 132 encGHammer (jc_loop (fun (s : Int × Int × (List GHammer) × Int) (x : (Option Nat) × Nat × (List Value) × Nat) => match s, x with | ⟨i_21, i_22, xs_23, i_24⟩, ⟨o_462, cap_463, sp_464, n_465⟩ => (xs_23.length = n_465) ∧ ((o_462 ≠ none → n_465 ≤ cap_463 ∧ sp_464.length = (cap_463 - n_465) * 2)) ∧ ((o_462 = none → xs_23 = [] ∧ cap_463 = 0))) (fun (s : Int × Int × (List GHammer) × Int) (x : (Option Nat) × Nat × (List Value) × Nat) => match s, x with | ⟨i_21, i_22, xs_23, i_24⟩, ⟨o_462, cap_463, sp_464, n_465⟩ => [(0, [], (.pointer (some ⟨A_b, 0, none⟩))), (2, [], (.pointer (some ⟨b_1, 0, none⟩))), (3, [], (.slice none 0 0)), (4, [], (.pointer (some ⟨b_3, 0, none⟩))), (5, [], (.int .i64 i_24))]) (fun (s : Int × Int × (List GHammer) × Int) (x : (Option Nat) × Nat × (List Value) × Nat) => match s, x with | ⟨i_21, i_22, xs_23, i_24⟩, ⟨o_462, cap_463, sp_464, n_465⟩ => [⟨some A_b, 179, [(.slice B_a s0.fcode.length B_c), (.int .i64 i_21), (.int .u64 i_22)]⟩, ⟨some b_1, 27, [(.int .i16 0), (.slice none 0 0)]⟩, ⟨some b_3, 27, [(.int .i16 (w16 (w64 (6 + t_1.1)))), (.slice (o_462.map fun b => ⟨b, 0, none⟩) n_465 cap_463)]⟩, ⟨o_462, 132, row encGHammer xs_23 sp_464⟩]) ht_484 ⟨none, 0, [], 0⟩ ⟨rfl, (fun e => absurd rfl e), (fun _ => ⟨rfl, rfl⟩)⟩ (by kernel_rfl) [0, 1, 2, 3] (by kernel_rfl) (by kernel_rfl) ?_)
   rintro ⟨i_21, i_22, xs_23, i_24⟩ ⟨o_462, cap_463, sp_464, n_465⟩ y_469 ⟨rfl, hs_466, ho_467⟩ h
   rw [spec_l07Short.l_25] at h
   refine jc_seq (jc_seq (jc_region (qh [0,0] (qe (jx_then (qi h (fun h => ?_) (fun h => ?_)))))))
   ·refine jc_skip (jx_then (jc_seq (jc_block (jc_seq (jc_region (qh [0] (tO (qa 0 (fun b_472 => jkO ?_)))))))))
    obtain ⟨t_27, ht_473, h⟩ := bd h
    refine tO (pc 0 (fun w hm => spec_l00Src_among.calls (⟨s0.fcode, i_21, i_22⟩ : Gl00Src) ([22, 23, 24, 34, 35] : List Int) w _ B_c (hm.exRowW B_h B_ha) rfl 5 (hm.ow 4 (some b_472) 2 ([22, 23, 24, 34, 35] : List Int) [] (fun e => nomatch e) encI64_len) rfl A_b (hm.pass (N := [⟨some A_b, 179, [(.slice B_a s0.fcode.length B_c), (.int .i64 i_21), (.int .u64 i_22)]⟩]) [0] (by kernel_rfl) (by kernel_rfl)) (hm.exApart (N := [⟨some A_b, 179, [(.slice B_a s0.fcode.length B_c), (.int .i64 i_21), (.int .u64 i_22)]⟩]) B_h B_ha [0] (by kernel_rfl)) (hm.ownApart (S := Int) (N := [⟨some A_b, 179, [(.slice B_a s0.fcode.length B_c), (.int .i64 i_21), (.int .u64 i_22)]⟩]) (hh := 4) (o := (some b_472)) (T := 2) (cs := row encI64 ([22, 23, 24, 34, 35] : List Int) []) (xs := ([22, 23, 24, 34, 35] : List Int)) (by kernel_rfl) (fun e => nomatch e) [0] (by kernel_rfl) (by kernel_rfl)) ht_473) ?_)
    rintro w v w' hm ⟨rfl, hm'⟩
    refine ⟨_, hm.appW (ps := [(0, ⟨some A_b, 179, [(.slice B_a s0.fcode.length B_c), (.int .i64 t_27.2.fat), (.int .u64 t_27.2.fseed)]⟩)]) (N := []) hm' (by kernel_rfl) (by kernel_rfl), jkO ?_⟩
    clear hm hm'
    refine qh [0,0] (tO (qa 0 (fun b_474 => jkO (tO (qs 0 [5] (jkO (qe (jx_then (jc_seq (jc_region (qh [0] ?_)))))))))))
    obtain ⟨t_28, ht_475, h⟩ := bd h
    refine tO (pc 0 (fun w hm => spec_l00Src_pick.calls (⟨s0.fcode, t_27.2.fat, t_27.2.fseed⟩ : Gl00Src) 4 w _ B_c (hm.exRowW B_h B_ha) rfl A_b (hm.pass (N := [⟨some A_b, 179, [(.slice B_a s0.fcode.length B_c), (.int .i64 t_27.2.fat), (.int .u64 t_27.2.fseed)]⟩]) [0] (by kernel_rfl) (by kernel_rfl)) (hm.exApart (N := [⟨some A_b, 179, [(.slice B_a s0.fcode.length B_c), (.int .i64 t_27.2.fat), (.int .u64 t_27.2.fseed)]⟩]) B_h B_ha [0] (by kernel_rfl)) ht_475) ?_)
    rintro w v w' hm ⟨rfl, hm'⟩
    refine ⟨_, hm.appW (ps := [(0, ⟨some A_b, 179, [(.slice B_a s0.fcode.length B_c), (.int .i64 t_28.2.fat), (.int .u64 t_28.2.fseed)]⟩)]) (N := []) hm' (by kernel_rfl) (by kernel_rfl), jkO ?_⟩
    clear hm hm'
    refine qh [0,0,0] (tO (qs 0 [5] (jkO (qe (jx_then (jc_region (qh [0,2,5] (tO (qa 0 (fun b_476 => jkO ?_))))))))))
    obtain ⟨hg_477, h⟩ := gd h
    exact tO (p_apn 0 3 o_462 132 xs_23.length 1 cap_463 2 2 (some ⟨b_476, 0, none⟩) encGHammer xs_23 ([(⟨(w8 t_27.1), (w8 (w64 (1 + t_28.1)))⟩ : GHammer)] : List GHammer) sp_464 (.agg #[(.int .i8 0), (.int .i8 0)]) rfl rfl (by kernel_rfl) (by kernel_rfl) (by kernel_rfl) encGHammer_len encGHammer_cell hs_466 ho_467 (fun w hm => (hm.ow 6 (some b_476) 132 ([(⟨(w8 t_27.1), (w8 (w64 (1 + t_28.1)))⟩ : GHammer)] : List GHammer) [] (fun e => nomatch e) encGHammer_len)) hg_477 (by kernel_rfl) (by kernel_rfl) (fun o_478 cap_479 sp_480 hs_481 ho_482 => jkO (qh [0] (tO (qs 0 [2] (jkO (qe (jx_inn (jx_then (jc_region (qh [0,0,0] (qe (qb (t_28.2.fat, t_28.2.fseed, (xs_23 ++ ([(⟨(w8 t_27.1), (w8 (w64 (1 + t_28.1)))⟩ : GHammer)] : List GHammer)), (w64 (i_24 - 1))) ⟨o_478, cap_479, sp_480, (xs_23 ++ ([(⟨(w8 t_27.1), (w8 (w64 (1 + t_28.1)))⟩ : GHammer)] : List GHammer)).length⟩ h ⟨rfl, hs_481, ho_482⟩ [0, 1, 2, 3])))))))))))))
   ·refine jc_exit (jx_thenx (jx_leave (i_21, i_22, xs_23) (Option.some.inj h).symm (fun e_483 => ?_)))
    subst e_483
    exact jx_ine (qm ⟨i_21, i_22, xs_23, o_462, cap_463, sp_464, xs_23.length⟩ ⟨hr_468, rfl, hs_466, ho_467⟩ [0, 1, 2, 3])
  ·rintro ⟨i_3, i_4, xs_5, o_177, cap_178, sp_179, n_180⟩ ⟨h, rfl, hs_181, ho_182⟩
   replace h : spec_l07Short.k_6 s0 t_1 i_3 i_4 xs_5 = some r := h
   rw [spec_l07Short.k_6] at h
   refine jx_then (jc_seq (jc_region (tO (qa 0 (fun b_183 => jkO (qh [0] (qe (jx_then (jc_seq (jc_seq (jc_region (qh [0] ?_))))))))))))
   obtain ⟨t_7, ht_301, h⟩ := bd h
   refine tO (pc 0 (fun w hm => spec_l00Src_pick.calls (⟨s0.fcode, i_3, i_4⟩ : Gl00Src) 5 w _ B_c (hm.exRowW B_h B_ha) rfl A_b (hm.pass (N := [⟨some A_b, 179, [(.slice B_a s0.fcode.length B_c), (.int .i64 i_3), (.int .u64 i_4)]⟩]) [0] (by kernel_rfl) (by kernel_rfl)) (hm.exApart (N := [⟨some A_b, 179, [(.slice B_a s0.fcode.length B_c), (.int .i64 i_3), (.int .u64 i_4)]⟩]) B_h B_ha [0] (by kernel_rfl)) ht_301) ?_)
   rintro w v w' hm ⟨rfl, hm'⟩
   refine ⟨_, hm.appW (ps := [(0, ⟨some A_b, 179, [(.slice B_a s0.fcode.length B_c), (.int .i64 t_7.2.fat), (.int .u64 t_7.2.fseed)]⟩)]) (N := []) hm' (by kernel_rfl) (by kernel_rfl), jkO ?_⟩
   clear hm hm'
   refine qh [0] (qe (jx_then (jc_meet (fun (j : (List GNote) × Int × Int × (Option Nat) × Nat × (List Value) × Nat) => match j with | ⟨xs_8, i_9, i_10, o_357, cap_358, sp_359, n_360⟩ => spec_l07Short.k_11 s0 t_1 xs_5 xs_8 i_9 i_10 = some r ∧ (xs_8.length = n_360) ∧ ((o_357 ≠ none → n_360 ≤ cap_358 ∧ sp_359.length = (cap_358 - n_360) * 2)) ∧ ((o_357 = none → xs_8 = [] ∧ cap_358 = 0))) (fun (j : (List GNote) × Int × Int × (Option Nat) × Nat × (List Value) × Nat) => match j with | ⟨xs_8, i_9, i_10, o_357, cap_358, sp_359, n_360⟩ => [(2, [], (.pointer (some ⟨b_1, 0, none⟩))), (3, [], (.slice none 0 0)), (4, [], (.pointer (some ⟨b_3, 0, none⟩))), (7, [], (.slice (o_357.map fun b => ⟨b, 0, none⟩) n_360 cap_358))]) (fun (j : (List GNote) × Int × Int × (Option Nat) × Nat × (List Value) × Nat) => match j with | ⟨xs_8, i_9, i_10, o_357, cap_358, sp_359, n_360⟩ => [⟨some A_b, 179, [(.slice B_a s0.fcode.length B_c), (.int .i64 i_9), (.int .u64 i_10)]⟩, ⟨some b_1, 27, [(.int .i16 0), (.slice none 0 0)]⟩, ⟨some b_3, 27, [(.int .i16 (w16 (w64 (6 + t_1.1)))), (.slice (o_177.map fun b => ⟨b, 0, none⟩) xs_5.length cap_178)]⟩, ⟨o_177, 132, row encGHammer xs_5 sp_179⟩, ⟨o_357, 101, row encGNote xs_8 sp_359⟩]) ?_ ?_)))
   ·refine jc_block ?_
    obtain ⟨t_18, ht_429, hr_413⟩ := bd h
    refine jc_loop (fun (s : (List GNote) × Int × Int × Int) (x : (Option Nat) × Nat × (List Value) × Nat) => match s, x with | ⟨xs_13, i_14, i_15, i_16⟩, ⟨o_407, cap_408, sp_409, n_410⟩ => (xs_13.length = n_410) ∧ ((o_407 ≠ none → n_410 ≤ cap_408 ∧ sp_409.length = (cap_408 - n_410) * 2)) ∧ ((o_407 = none → xs_13 = [] ∧ cap_408 = 0))) (fun (s : (List GNote) × Int × Int × Int) (x : (Option Nat) × Nat × (List Value) × Nat) => match s, x with | ⟨xs_13, i_14, i_15, i_16⟩, ⟨o_407, cap_408, sp_409, n_410⟩ => [(0, [], (.pointer (some ⟨A_b, 0, none⟩))), (2, [], (.pointer (some ⟨b_1, 0, none⟩))), (3, [], (.slice none 0 0)), (4, [], (.pointer (some ⟨b_3, 0, none⟩))), (7, [], (.slice (o_407.map fun b => ⟨b, 0, none⟩) n_410 cap_408)), (8, [], (.int .i64 i_16))]) (fun (s : (List GNote) × Int × Int × Int) (x : (Option Nat) × Nat × (List Value) × Nat) => match s, x with | ⟨xs_13, i_14, i_15, i_16⟩, ⟨o_407, cap_408, sp_409, n_410⟩ => [⟨some A_b, 179, [(.slice B_a s0.fcode.length B_c), (.int .i64 i_14), (.int .u64 i_15)]⟩, ⟨some b_1, 27, [(.int .i16 0), (.slice none 0 0)]⟩, ⟨some b_3, 27, [(.int .i16 (w16 (w64 (6 + t_1.1)))), (.slice (o_177.map fun b => ⟨b, 0, none⟩) xs_5.length cap_178)]⟩, ⟨o_177, 132, row encGHammer xs_5 sp_179⟩, ⟨o_407, 101, row encGNote xs_13 sp_409⟩]) ht_429 ⟨(some b_183), 0, [], 0⟩ ⟨rfl, (fun _ => ⟨Nat.le_refl _, by simp⟩), (fun e => nomatch e)⟩ (by kernel_rfl) [0, 1, 2, 3, 4] (by kernel_rfl) (by kernel_rfl) ?_
    rintro ⟨xs_13, i_14, i_15, i_16⟩ ⟨o_407, cap_408, sp_409, n_410⟩ y_414 ⟨rfl, hs_411, ho_412⟩ h
    rw [spec_l07Short.l_17] at h
    refine jc_seq (jc_seq (jc_region (qh [0,0] (qe (jx_then (qi h (fun h => ?_) (fun h => ?_)))))))
    ·refine jc_skip (jx_then (jc_seq (jc_block (jc_seq (jc_region (qh [0,0,2,0] ?_))))))
     obtain ⟨t_19, ht_417, h⟩ := bd h
     refine tO (pc 0 (fun w hm => spec_l00Src_pick.calls (⟨s0.fcode, i_14, i_15⟩ : Gl00Src) (w64 (w16 (w64 (6 + t_1.1)))) w _ B_c (hm.exRowW B_h B_ha) rfl A_b (hm.pass (N := [⟨some A_b, 179, [(.slice B_a s0.fcode.length B_c), (.int .i64 i_14), (.int .u64 i_15)]⟩]) [0] (by kernel_rfl) (by kernel_rfl)) (hm.exApart (N := [⟨some A_b, 179, [(.slice B_a s0.fcode.length B_c), (.int .i64 i_14), (.int .u64 i_15)]⟩]) B_h B_ha [0] (by kernel_rfl)) ht_417) ?_)
     rintro w v w' hm ⟨rfl, hm'⟩
     refine ⟨_, hm.appW (ps := [(0, ⟨some A_b, 179, [(.slice B_a s0.fcode.length B_c), (.int .i64 t_19.2.fat), (.int .u64 t_19.2.fseed)]⟩)]) (N := []) hm' (by kernel_rfl) (by kernel_rfl), jkO ?_⟩
     clear hm hm'
     refine qh [0,0] (tO (qa 0 (fun b_418 => jkO (tO (qs 0 [5] (jkO (qe (jx_then (jc_seq (jc_region (qh [0] (tO (qa 0 (fun b_419 => jkO ?_))))))))))))))
     obtain ⟨t_20, ht_420, h⟩ := bd h
     refine tO (pc 0 (fun w hm => spec_l00Src_among.calls (⟨s0.fcode, t_19.2.fat, t_19.2.fseed⟩ : Gl00Src) ([22, 23, 24, 34, 35, 12] : List Int) w _ B_c (hm.exRowW B_h B_ha) rfl 6 (hm.ow 6 (some b_419) 2 ([22, 23, 24, 34, 35, 12] : List Int) [] (fun e => nomatch e) encI64_len) rfl A_b (hm.pass (N := [⟨some A_b, 179, [(.slice B_a s0.fcode.length B_c), (.int .i64 t_19.2.fat), (.int .u64 t_19.2.fseed)]⟩]) [0] (by kernel_rfl) (by kernel_rfl)) (hm.exApart (N := [⟨some A_b, 179, [(.slice B_a s0.fcode.length B_c), (.int .i64 t_19.2.fat), (.int .u64 t_19.2.fseed)]⟩]) B_h B_ha [0] (by kernel_rfl)) (hm.ownApart (S := Int) (N := [⟨some A_b, 179, [(.slice B_a s0.fcode.length B_c), (.int .i64 t_19.2.fat), (.int .u64 t_19.2.fseed)]⟩]) (hh := 6) (o := (some b_419)) (T := 2) (cs := row encI64 ([22, 23, 24, 34, 35, 12] : List Int) []) (xs := ([22, 23, 24, 34, 35, 12] : List Int)) (by kernel_rfl) (fun e => nomatch e) [0] (by kernel_rfl) (by kernel_rfl)) ht_420) ?_)
     rintro w v w' hm ⟨rfl, hm'⟩
     refine ⟨_, hm.appW (ps := [(0, ⟨some A_b, 179, [(.slice B_a s0.fcode.length B_c), (.int .i64 t_20.2.fat), (.int .u64 t_20.2.fseed)]⟩)]) (N := []) hm' (by kernel_rfl) (by kernel_rfl), jkO ?_⟩
     clear hm hm'
     refine qh [0,0] (tO (qs 0 [5] (jkO (qe (jx_then (jc_region (qh [0,5] (tO (qa 0 (fun b_421 => jkO ?_))))))))))
     obtain ⟨hg_422, h⟩ := gd h
     exact tO (p_apn 0 4 o_407 101 xs_13.length 1 cap_408 2 4 (some ⟨b_421, 0, none⟩) encGNote xs_13 ([(⟨(w16 t_19.1), (w8 t_20.1)⟩ : GNote)] : List GNote) sp_409 (.agg #[(.int .i16 0), (.int .i8 0)]) rfl rfl (by kernel_rfl) (by kernel_rfl) (by kernel_rfl) encGNote_len encGNote_cell hs_411 ho_412 (fun w hm => (hm.ow 7 (some b_421) 101 ([(⟨(w16 t_19.1), (w8 t_20.1)⟩ : GNote)] : List GNote) [] (fun e => nomatch e) encGNote_len)) hg_422 (by kernel_rfl) (by kernel_rfl) (fun o_423 cap_424 sp_425 hs_426 ho_427 => jkO (qh [0] (qe (jx_inn (jx_then (jc_region (qh [0,0,0] (qe (qb ((xs_13 ++ ([(⟨(w16 t_19.1), (w8 t_20.1)⟩ : GNote)] : List GNote)), t_20.2.fat, t_20.2.fseed, (w64 (i_16 - 1))) ⟨o_423, cap_424, sp_425, (xs_13 ++ ([(⟨(w16 t_19.1), (w8 t_20.1)⟩ : GNote)] : List GNote)).length⟩ h ⟨rfl, hs_426, ho_427⟩ [0, 1, 2, 3, 4]))))))))))
    ·refine jc_exit (jx_thenx (jx_leave (xs_13, i_14, i_15) (Option.some.inj h).symm (fun e_428 => ?_)))
     subst e_428
     exact jx_ine (qm ⟨xs_13, i_14, i_15, o_407, cap_408, sp_409, xs_13.length⟩ ⟨hr_413, rfl, hs_411, ho_412⟩ [0, 1, 2, 3, 4])
   ·rintro ⟨xs_8, i_9, i_10, o_357, cap_358, sp_359, n_360⟩ ⟨h, rfl, hs_361, ho_362⟩
    replace h : spec_l07Short.k_11 s0 t_1 xs_5 xs_8 i_9 i_10 = some r := h
    rw [spec_l07Short.k_11] at h
    refine jx_then (jc_seq (qg [⟨some A_b, 179, [(.slice B_a s0.fcode.length B_c), (.int .i64 i_9), (.int .u64 i_10)]⟩, ⟨some b_3, 27, [(.int .i16 (w16 (w64 (6 + t_1.1)))), (.slice (o_177.map fun b => ⟨b, 0, none⟩) xs_5.length cap_178)]⟩, ⟨o_177, 132, row encGHammer xs_5 sp_179⟩, ⟨o_357, 101, row encGNote xs_8 sp_359⟩] 5 (qd [⟨0, 1, 0⟩,⟨1, 0, 0⟩] 3 [0, 2, 3, 4] ?_)))
    obtain ⟨t_12, ht_369, h⟩ := bd h
    refine tD 2 (pc 0 (fun w hm => spec_l01Sorted.calls xs_8 w _ cap_358 (hm.ow 4 o_357 101 xs_8 sp_359 (fun e => (ho_362 e).1) encGNote_len) rfl ht_369) ?_)
    rintro w v w' hm ⟨o_370, cap_371, sp_372, _, rfl, hs_373, ho_374, rfl, hm'⟩
    refine ⟨_, hm.app hm', kD [0, 2, 3, 4] ?_⟩
    clear hm hm'
    refine tD 3 (qs 0 [1] (kD [0, 2, 3, 4] (qd [⟨4, 0, 0⟩] 0 [0, 2, 3, 4] (qz (jx_then (jc_ret ?_))))))
    obtain rfl := Option.some.inj h
    exact qr [1] (fun w hm => ⟨o_177, cap_178, sp_179, xs_5.length, rfl, hs_181, ho_182, o_370, cap_371, sp_372, t_12.length, rfl, hs_373, ho_374, rfl, hm.pk [0, 3, 5]⟩)
/-! ### spec.A2Short -/
def spec_A2Short (code0 : List Int) : Option (GFrame × (List GNote)) := (spec_l00From code0).bind fun t_1 => (spec_l07Short (⟨code0, t_1.fat, t_1.fseed⟩ : Gl00Src)).bind fun t_2 => some (t_2.1, t_2.2.1)
theorem spec_A2Short.calls (code0 : List Int) (w : World) (r : GFrame × (List GNote)) {A_a : Option Addr} {A_an : Nat} (A_c : Nat) (A_h : Rw w A_a 1 encU8 code0) (A_hn : code0.length = A_an) (h : spec_A2Short code0 = some r) :
    Calls Tryz.prog 7 #[(.slice A_a A_an A_c)] w fun e w' => ∃ v, e = .returned v ∧ (∃ (o0 : Option Nat) (c0 : Nat) (s0 : List Value) (n0 : Nat), r.1.fHammers.length = n0 ∧ (o0 ≠ none → n0 ≤ c0 ∧ s0.length = (c0 - n0) * 2) ∧ (o0 = none → r.1.fHammers = [] ∧ c0 = 0) ∧ ∃ (o1 : Option Nat) (c1 : Nat) (s1 : List Value) (n1 : Nat), r.2.length = n1 ∧ (o1 ≠ none → n1 ≤ c1 ∧ s1.length = (c1 - n1) * 2) ∧ (o1 = none → r.2 = [] ∧ c1 = 0) ∧ v = .tuple #[.agg #[(.int .i16 r.1.fSteps), .slice (o0.map fun b => ⟨b, 0, none⟩) n0 c0], .slice (o1.map fun b => ⟨b, 0, none⟩) n1 c1] ∧ Mem w [] [⟨o0, 132, row encGHammer r.1.fHammers s0⟩, ⟨o1, 101, row encGNote r.2 s1⟩] w') := by
  subst A_hn
  rw [spec_A2Short] at h
  refine enter (args := [(.slice A_a code0.length A_c)]) Tryz.func7 rfl Tryz.ntmps7 (by kernel_rfl) (L := []) (W := []) (Mem.start w) ?_
  refine jc_seq (jc_region (tO (qa 0 (fun b_1 => jkO (qh [0] (qe (jx_then (jc_seq (jc_region (qh [0] ?_))))))))))
  obtain ⟨t_1, ht_2, h⟩ := bd h
  refine tO (pc 0 (fun w hm => spec_l00From.calls code0 w _ A_c (hm.xr A_h) rfl ht_2) ?_)
  rintro w v w' hm ⟨b_3, rfl, hm'⟩
  refine ⟨_, hm.app hm', jkO ?_⟩
  clear hm hm'
  obtain ⟨t_2, ht_4, h⟩ := bd h
  refine tO (pc 0 (fun w hm => spec_l07Short.calls (⟨code0, t_1.fat, t_1.fseed⟩ : Gl00Src) w _ A_c (hm.xr A_h) rfl b_3 (hm.pass (N := [⟨some b_3, 179, [(.slice A_a code0.length A_c), (.int .i64 t_1.fat), (.int .u64 t_1.fseed)]⟩]) [1] (by kernel_rfl) (by kernel_rfl)) (hm.exApart (N := [⟨some b_3, 179, [(.slice A_a code0.length A_c), (.int .i64 t_1.fat), (.int .u64 t_1.fseed)]⟩]) A_h (fun _ => List.not_mem_nil) [1] (by kernel_rfl)) ht_4) ?_)
  rintro w v w' hm ⟨o_5, cap_6, sp_7, _, rfl, hs_8, ho_9, o_10, cap_11, sp_12, _, rfl, hs_13, ho_14, rfl, hm'⟩
  refine ⟨_, hm.appW (ps := [(1, ⟨some b_3, 179, [(.slice A_a code0.length A_c), (.int .i64 t_2.2.2.fat), (.int .u64 t_2.2.2.fseed)]⟩)]) (N := [⟨o_5, 132, row encGHammer t_2.1.fHammers sp_7⟩, ⟨o_10, 101, row encGNote t_2.2.1 sp_12⟩]) hm' (by kernel_rfl) (by kernel_rfl), jkO ?_⟩
  clear hm hm'
  refine qh [0,0] (tO (qs 0 [0] (jkO (qh [0] (qe (jx_then (jc_ret ?_)))))))
  obtain rfl := Option.some.inj h
  exact qr [0] (fun w hm => ⟨o_5, cap_6, sp_7, t_2.1.fHammers.length, rfl, hs_8, ho_9, o_10, cap_11, sp_12, t_2.2.1.length, rfl, hs_13, ho_14, rfl, hm.pk [2, 3]⟩)
/-! ### spec.l07CostsDrawn -/
def spec_l07CostsDrawn (s0 : Gl00Src) : Option (GCosts × Gl00Src) := (spec_l00Src_pick s0 12).bind fun t_1 => (spec_l00Src_pick (⟨s0.fcode, t_1.2.fat, t_1.2.fseed⟩ : Gl00Src) 6).bind fun t_2 => (spec_l00Src_pick (⟨s0.fcode, t_2.2.fat, t_2.2.fseed⟩ : Gl00Src) 4).bind fun t_3 => some ((⟨(w16 t_1.1), (w16 t_2.1), (w16 t_3.1)⟩ : GCosts), (⟨s0.fcode, t_3.2.fat, t_3.2.fseed⟩ : Gl00Src))
theorem spec_l07CostsDrawn.calls (s0 : Gl00Src) (w : World) (r : GCosts × Gl00Src) {B_a : Option Addr} {B_an : Nat} (B_c : Nat) (B_h : Rw w B_a 1 encU8 s0.fcode) (B_hn : s0.fcode.length = B_an) (A_b : Nat) (hm0 : Mem w (bs [some A_b]) [⟨some A_b, 179, [(.slice B_a B_an B_c), (.int .i64 s0.fat), (.int .u64 s0.fseed)]⟩] w) (B_ha : s0.fcode ≠ [] → aB B_a ∉ bs [some A_b]) (h : spec_l07CostsDrawn s0 = some r) :
    Calls Tryz.prog 58 #[(.pointer (some ⟨A_b, 0, none⟩))] w fun e w' => ∃ v, e = .returned v ∧ (v = .agg #[(.int .i16 r.1.fAway), (.int .i16 r.1.fOctave), (.int .i16 r.1.fStep)] ∧ Mem w (bs [some A_b]) [⟨some A_b, 179, [(.slice B_a B_an B_c), (.int .i64 r.2.fat), (.int .u64 r.2.fseed)]⟩] w') := by
  subst B_hn
  rw [spec_l07CostsDrawn] at h
  refine enter (args := [(.pointer (some ⟨A_b, 0, none⟩))]) Tryz.func58 rfl Tryz.ntmps58 (by kernel_rfl) (L := [⟨some A_b, 179, [(.slice B_a s0.fcode.length B_c), (.int .i64 s0.fat), (.int .u64 s0.fseed)]⟩]) (W := bs [some A_b]) hm0 ?_
  refine jc_seq (jc_region (tO (qa 0 (fun b_1 => jkO (qe (jx_then (jc_seq (jc_region (qh [0] ?_)))))))))
  obtain ⟨t_1, ht_2, h⟩ := bd h
  refine tO (pc 0 (fun w hm => spec_l00Src_pick.calls s0 12 w _ B_c (hm.exRowW B_h B_ha) rfl A_b (hm.pass (N := [⟨some A_b, 179, [(.slice B_a s0.fcode.length B_c), (.int .i64 s0.fat), (.int .u64 s0.fseed)]⟩]) [0] (by kernel_rfl) (by kernel_rfl)) (hm.exApart (N := [⟨some A_b, 179, [(.slice B_a s0.fcode.length B_c), (.int .i64 s0.fat), (.int .u64 s0.fseed)]⟩]) B_h B_ha [0] (by kernel_rfl)) ht_2) ?_)
  rintro w v w' hm ⟨rfl, hm'⟩
  refine ⟨_, hm.appW (ps := [(0, ⟨some A_b, 179, [(.slice B_a s0.fcode.length B_c), (.int .i64 t_1.2.fat), (.int .u64 t_1.2.fseed)]⟩)]) (N := []) hm' (by kernel_rfl) (by kernel_rfl), jkO ?_⟩
  clear hm hm'
  refine qh [0,0] ?_
  obtain ⟨t_2, ht_3, h⟩ := bd h
  refine tO (pc 0 (fun w hm => spec_l00Src_pick.calls (⟨s0.fcode, t_1.2.fat, t_1.2.fseed⟩ : Gl00Src) 6 w _ B_c (hm.exRowW B_h B_ha) rfl A_b (hm.pass (N := [⟨some A_b, 179, [(.slice B_a s0.fcode.length B_c), (.int .i64 t_1.2.fat), (.int .u64 t_1.2.fseed)]⟩]) [0] (by kernel_rfl) (by kernel_rfl)) (hm.exApart (N := [⟨some A_b, 179, [(.slice B_a s0.fcode.length B_c), (.int .i64 t_1.2.fat), (.int .u64 t_1.2.fseed)]⟩]) B_h B_ha [0] (by kernel_rfl)) ht_3) ?_)
  rintro w v w' hm ⟨rfl, hm'⟩
  refine ⟨_, hm.appW (ps := [(0, ⟨some A_b, 179, [(.slice B_a s0.fcode.length B_c), (.int .i64 t_2.2.fat), (.int .u64 t_2.2.fseed)]⟩)]) (N := []) hm' (by kernel_rfl) (by kernel_rfl), jkO ?_⟩
  clear hm hm'
  refine qh [0,0] (tO (qa 0 (fun b_4 => jkO (tO (qs 0 [2] (jkO (qe (jx_then (jc_seq (jc_region (qh [0] ?_)))))))))))
  obtain ⟨t_3, ht_5, h⟩ := bd h
  refine tO (pc 0 (fun w hm => spec_l00Src_pick.calls (⟨s0.fcode, t_2.2.fat, t_2.2.fseed⟩ : Gl00Src) 4 w _ B_c (hm.exRowW B_h B_ha) rfl A_b (hm.pass (N := [⟨some A_b, 179, [(.slice B_a s0.fcode.length B_c), (.int .i64 t_2.2.fat), (.int .u64 t_2.2.fseed)]⟩]) [0] (by kernel_rfl) (by kernel_rfl)) (hm.exApart (N := [⟨some A_b, 179, [(.slice B_a s0.fcode.length B_c), (.int .i64 t_2.2.fat), (.int .u64 t_2.2.fseed)]⟩]) B_h B_ha [0] (by kernel_rfl)) ht_5) ?_)
  rintro w v w' hm ⟨rfl, hm'⟩
  refine ⟨_, hm.appW (ps := [(0, ⟨some A_b, 179, [(.slice B_a s0.fcode.length B_c), (.int .i64 t_3.2.fat), (.int .u64 t_3.2.fseed)]⟩)]) (N := []) hm' (by kernel_rfl) (by kernel_rfl), jkO ?_⟩
  clear hm hm'
  refine qh [0,0] (tO (qs 0 [2] (jkO (qe (jx_then (jc_seq (jc_region (qh [2] (tO (qs 0 [1] (jkO (qe (jx_then (jc_ret ?_))))))))))))))
  obtain rfl := Option.some.inj h
  exact qr [1] (fun w hm => ⟨rfl, hm.pk [0]⟩)
/-! ### spec.A2Costs -/
def spec_A2Costs (code0 : List Int) : Option (GCosts) := (spec_l00From code0).bind fun t_1 => (spec_l07CostsDrawn (⟨code0, t_1.fat, t_1.fseed⟩ : Gl00Src)).bind fun t_2 => some t_2.1
theorem spec_A2Costs.calls (code0 : List Int) (w : World) (r : GCosts) {A_a : Option Addr} {A_an : Nat} (A_c : Nat) (A_h : Rw w A_a 1 encU8 code0) (A_hn : code0.length = A_an) (h : spec_A2Costs code0 = some r) :
    Calls Tryz.prog 8 #[(.slice A_a A_an A_c)] w fun e w' => ∃ v, e = .returned v ∧ (v = .agg #[(.int .i16 r.fAway), (.int .i16 r.fOctave), (.int .i16 r.fStep)] ∧ Mem w [] [] w') := by
  subst A_hn
  rw [spec_A2Costs] at h
  refine enter (args := [(.slice A_a code0.length A_c)]) Tryz.func8 rfl Tryz.ntmps8 (by kernel_rfl) (L := []) (W := []) (Mem.start w) ?_
  refine jc_seq (jc_region (tO (qa 0 (fun b_1 => jkO (qe (jx_then (jc_seq (jc_region (qh [0] ?_)))))))))
  obtain ⟨t_1, ht_2, h⟩ := bd h
  refine tO (pc 0 (fun w hm => spec_l00From.calls code0 w _ A_c (hm.xr A_h) rfl ht_2) ?_)
  rintro w v w' hm ⟨b_3, rfl, hm'⟩
  refine ⟨_, hm.app hm', jkO ?_⟩
  clear hm hm'
  obtain ⟨t_2, ht_4, h⟩ := bd h
  refine tO (pc 0 (fun w hm => spec_l07CostsDrawn.calls (⟨code0, t_1.fat, t_1.fseed⟩ : Gl00Src) w _ A_c (hm.xr A_h) rfl b_3 (hm.pass (N := [⟨some b_3, 179, [(.slice A_a code0.length A_c), (.int .i64 t_1.fat), (.int .u64 t_1.fseed)]⟩]) [1] (by kernel_rfl) (by kernel_rfl)) (hm.exApart (N := [⟨some b_3, 179, [(.slice A_a code0.length A_c), (.int .i64 t_1.fat), (.int .u64 t_1.fseed)]⟩]) A_h (fun _ => List.not_mem_nil) [1] (by kernel_rfl)) ht_4) ?_)
  rintro w v w' hm ⟨rfl, hm'⟩
  refine ⟨_, hm.appW (ps := [(1, ⟨some b_3, 179, [(.slice A_a code0.length A_c), (.int .i64 t_2.2.fat), (.int .u64 t_2.2.fseed)]⟩)]) (N := []) hm' (by kernel_rfl) (by kernel_rfl), jkO ?_⟩
  clear hm hm'
  refine tO (qs 0 [0] (jkO (qe (jx_then (jc_ret ?_)))))
  obtain rfl := Option.some.inj h
  exact qr [0] (fun w hm => ⟨rfl, hm.pk []⟩)
/-! ### impl.within -/
def impl_within (n0 : Int) (low1 : Int) (high2 : Int) : Option (Bool) := some ((decide (low1 ≤ n0)) && (decide (n0 ≤ high2)))
theorem impl_within.calls (n0 : Int) (low1 : Int) (high2 : Int) (w : World) (r : Bool) (h : impl_within n0 low1 high2 = some r) :
    Calls Tryz.prog 86 #[(.int .i64 n0), (.int .i64 low1), (.int .i64 high2)] w fun e w' => ∃ v, e = .returned v ∧ (v = (.bool r) ∧ Mem w [] [] w') := by
  rw [impl_within] at h
  refine enter (args := [(.int .i64 n0), (.int .i64 low1), (.int .i64 high2)]) Tryz.func86 rfl Tryz.ntmps86 (by kernel_rfl) (L := []) (W := []) (Mem.start w) ?_
  refine jc_seq (jc_region (qh [0] (qe (jx_then (jc_seq (jc_region (qf [(0, 0), (0, 0), (0, 0), (0, 0), (0, 1), (0, 1), (0, 1), (0, 0), (0, 0)] (qe (jx_then (jc_ret ?_))))))))))
  obtain rfl := Option.some.inj h
  exact qr [] (fun w hm => ⟨rfl, hm.pk []⟩)
/-! ### impl.size[impl.Hammer] -/
def impl_size_Hammer (list0 : List GHammer) : Option (Int) := some (list0.length : Int)
theorem impl_size_Hammer.calls (list0 : List GHammer) (w : World) (r : Int) {A_a : Option Addr} {A_an : Nat} (A_c : Nat) (A_h : Rw w A_a 2 encGHammer list0) (A_hn : list0.length = A_an) (h : impl_size_Hammer list0 = some r) :
    Calls Tryz.prog 154 #[(.slice A_a A_an A_c)] w fun e w' => ∃ v, e = .returned v ∧ (v = (.int .i64 r) ∧ Mem w [] [] w') := by
  subst A_hn
  rw [impl_size_Hammer] at h
  refine enter (args := [(.slice A_a list0.length A_c)]) Tryz.func154 rfl Tryz.ntmps154 (by kernel_rfl) (L := []) (W := []) (Mem.start w) ?_
  refine jc_seq (jc_region (qh [0] (qe (jx_then (jc_seq (jc_region (qh [0,0,0] (qe (jx_then (jc_ret ?_))))))))))
  obtain rfl := Option.some.inj h
  exact qr [] (fun w hm => ⟨rfl, hm.pk []⟩)
/-! ### impl.isPitch -/
def impl_isPitch (n0 : Int) : Option (Bool) := (impl_within n0 0 47).bind fun t_1 => some t_1
theorem impl_isPitch.calls (n0 : Int) (w : World) (r : Bool) (h : impl_isPitch n0 = some r) :
    Calls Tryz.prog 157 #[(.int .i64 n0)] w fun e w' => ∃ v, e = .returned v ∧ (v = (.bool r) ∧ Mem w [] [] w') := by
  rw [impl_isPitch] at h
  refine enter (args := [(.int .i64 n0)]) Tryz.func157 rfl Tryz.ntmps157 (by kernel_rfl) (L := []) (W := []) (Mem.start w) ?_
  refine jc_seq (jc_region (qh [0] (qe (jx_then (jc_seq (jc_region (qh [0] ?_)))))))
  obtain ⟨t_1, ht_1, h⟩ := bd h
  refine tO (pc 0 (fun w hm => impl_within.calls n0 0 47 w _ ht_1) ?_)
  rintro w v w' hm ⟨rfl, hm'⟩
  refine ⟨_, hm.app hm', jkO ?_⟩
  clear hm hm'
  refine qh [0] (qe (jx_then (jc_ret ?_)))
  obtain rfl := Option.some.inj h
  exact qr [] (fun w hm => ⟨rfl, hm.pk []⟩)
/-! ### impl.ValidFrame$1 -/
def impl_ValidFrame_1 (h0 : GHammer) (p1 : GFrame) : Option (Bool) := (impl_isPitch (w64 h0.fPitch)).bind fun t_1 => (if (!t_1) = true then some true else (impl_within (w64 h0.fReady) 1 (if (w64 p1.fSteps) < 20 then (w64 p1.fSteps) else 20)).bind fun t_2 => some (!t_2))
theorem impl_ValidFrame_1.calls (h0 : GHammer) (p1 : GFrame) (w : World) (r : Bool) {F_a : Option Addr} {F_an : Nat} (F_c : Nat) (F_h : Rw w F_a 2 encGHammer p1.fHammers) (F_hn : p1.fHammers.length = F_an) (D_b : Nat) (hm0 : Mem w (bs [some D_b]) [⟨some D_b, 27, [(.int .i16 p1.fSteps), (.slice F_a F_an F_c)]⟩] w) (F_ha : p1.fHammers ≠ [] → aB F_a ∉ bs [some D_b]) (h : impl_ValidFrame_1 h0 p1 = some r) :
    Calls Tryz.prog 156 #[(.agg #[(.int .i8 h0.fPitch), (.int .i8 h0.fReady)]), (.pointer (some ⟨D_b, 0, none⟩))] w fun e w' => ∃ v, e = .returned v ∧ (v = (.bool r) ∧ Mem w (bs [some D_b]) [⟨some D_b, 27, [(.int .i16 p1.fSteps), (.slice F_a F_an F_c)]⟩] w') := by
  subst F_hn
  rw [impl_ValidFrame_1] at h
  refine enter (args := [(.agg #[(.int .i8 h0.fPitch), (.int .i8 h0.fReady)]), (.pointer (some ⟨D_b, 0, none⟩))]) Tryz.func156 rfl Tryz.ntmps156 (by kernel_rfl) (L := [⟨some D_b, 27, [(.int .i16 p1.fSteps), (.slice F_a p1.fHammers.length F_c)]⟩]) (W := bs [some D_b]) hm0 ?_
  refine jc_seq (jc_region (tO (qa 0 (fun b_1 => jkO (qh [0] (qe (jx_then (jc_seq (jc_region (qh [0,1,0] ?_))))))))))
  obtain ⟨t_1, ht_2, h⟩ := bd h
  refine tO (pc 0 (fun w hm => impl_isPitch.calls (w64 h0.fPitch) w _ ht_2) ?_)
  rintro w v w' hm ⟨rfl, hm'⟩
  refine ⟨_, hm.app hm', jkO ?_⟩
  clear hm hm'
  refine qf [(0, 0), (0, 0), (0, 1), (1, 1), (0, 1), (0, 1), (0, 1), (0, 1), (0, 1)] (qp 9 h (fun h => ?_) (fun h => ?_))
  ·refine qf [(0, 3), (0, 3), (0, 4), (0, 0)] (qe (jx_then (jc_ret ?_)))
   obtain rfl := Option.some.inj h
   exact qr [] (fun w hm => ⟨rfl, hm.pk [0]⟩)
  ·obtain ⟨t_2, ht_4, h⟩ := bd h
   refine tO (pc 2 (fun w hm => impl_within.calls (w64 h0.fReady) 1 (if (w64 p1.fSteps) < 20 then (w64 p1.fSteps) else 20) w _ ht_4) ?_)
   rintro w v w' hm ⟨rfl, hm'⟩
   refine ⟨_, hm.app hm', jkO ?_⟩
   clear hm hm'
   refine qf [(0, 2), (0, 5), (0, 0)] (qe (jx_then (jc_ret ?_)))
   obtain rfl := Option.some.inj h
   exact qr [] (fun w hm => ⟨rfl, hm.pk [0]⟩)
/-! ### slices.IndexFunc[[]impl.Hammer,impl.Hammer] -/
def slices_IndexFunc_Hammer_at_impl_ValidFrame_1.k_1 : Option (Int) := some (-1)
def slices_IndexFunc_Hammer_at_impl_ValidFrame_1.l_3 (s0 : List GHammer) (g1c0 : GFrame) : Int → Option ((Int) ⊕ (Int ⊕ Unit))
  | i_2 => (if (decide (i_2 < (s0.length : Int))) = true then (ix s0 i_2).bind fun x_5 => (impl_ValidFrame_1 x_5 g1c0).bind fun t_6 => (if t_6 = true then some (.inr (.inl i_2)) else some (.inl (w64 (i_2 + 1)))) else some (.inr (.inr ())))
def slices_IndexFunc_Hammer_at_impl_ValidFrame_1 (s0 : List GHammer) (g1c0 : GFrame) : Option (Int) := (loop (slices_IndexFunc_Hammer_at_impl_ValidFrame_1.l_3 s0 g1c0) 0).bind fun t_4 => match t_4 with | .inl p => some p | .inr p => slices_IndexFunc_Hammer_at_impl_ValidFrame_1.k_1
theorem slices_IndexFunc_Hammer_at_impl_ValidFrame_1.calls (s0 : List GHammer) (g1c0 : GFrame) (w : World) (r : Int) {A_a : Option Addr} {A_an : Nat} (A_c : Nat) (A_h : Rw w A_a 2 encGHammer s0) (A_hn : s0.length = A_an) {D_a : Option Addr} {D_an : Nat} (D_c : Nat) (D_h : Rw w D_a 2 encGHammer g1c0.fHammers) (D_hn : g1c0.fHammers.length = D_an) (B_b : Nat) (hm0 : Mem w (bs [some B_b]) [⟨some B_b, 27, [(.int .i16 g1c0.fSteps), (.slice D_a D_an D_c)]⟩] w) (A_ha : s0 ≠ [] → aB A_a ∉ bs [some B_b]) (D_ha : g1c0.fHammers ≠ [] → aB D_a ∉ bs [some B_b]) (h : slices_IndexFunc_Hammer_at_impl_ValidFrame_1 s0 g1c0 = some r) :
    Calls Tryz.prog 206 #[(.slice A_a A_an A_c), (.func (.func 156) #[] #[(.pointer (some ⟨B_b, 0, none⟩))])] w fun e w' => ∃ v, e = .returned v ∧ (v = (.int .i64 r) ∧ Mem w (bs [some B_b]) [⟨some B_b, 27, [(.int .i16 g1c0.fSteps), (.slice D_a D_an D_c)]⟩] w') := by
  subst A_hn D_hn
  rw [slices_IndexFunc_Hammer_at_impl_ValidFrame_1] at h
  refine enter (args := [(.slice A_a s0.length A_c), (.func (.func 156) #[] #[(.pointer (some ⟨B_b, 0, none⟩))])]) Tryz.func206 rfl Tryz.ntmps206 (by kernel_rfl) (L := [⟨some B_b, 27, [(.int .i16 g1c0.fSteps), (.slice D_a g1c0.fHammers.length D_c)]⟩]) (W := bs [some B_b]) hm0 ?_
  refine jc_seq (jc_region (qh [0] (qe (jx_then (jc_seq (jc_seq (jc_region (qh [0,0,0] (qe (jx_then (jc_meet (fun (_ : Unit) => slices_IndexFunc_Hammer_at_impl_ValidFrame_1.k_1 = some r) (fun (_ : Unit) => [(4, [], (.int .i64 0))]) (fun (_ : Unit) => [⟨some B_b, 27, [(.int .i16 g1c0.fSteps), (.slice D_a g1c0.fHammers.length D_c)]⟩]) ?_ ?_)))))))))))
  ·refine jc_block ?_
   obtain ⟨t_4, ht_40, hr_31⟩ := bd h
   refine jc_loop (fun (s : Int) (x : Unit) => match s, x with | i_2, _ => True) (fun (s : Int) (x : Unit) => match s, x with | i_2, _ => [(0, [], (.slice A_a s0.length A_c)), (1, [], (.func (.func 156) #[] #[(.pointer (some ⟨B_b, 0, none⟩))])), (4, [], (.int .i64 0)), (7, [], (.int .i64 (s0.length : Int))), (8, [], (.int .i64 i_2))]) (fun (s : Int) (x : Unit) => match s, x with | i_2, _ => [⟨some B_b, 27, [(.int .i16 g1c0.fSteps), (.slice D_a g1c0.fHammers.length D_c)]⟩]) ht_40 () trivial (by kernel_rfl) [0] (by kernel_rfl) (by kernel_rfl) ?_
   rintro i_2 _ y_32 _ h
   rw [slices_IndexFunc_Hammer_at_impl_ValidFrame_1.l_3] at h
   refine jc_seq (jc_region (qh [0] (qe (jx_then (jc_seq (qi h (fun h => ?_) (fun h => ?_)))))))
   ·refine jc_skip (jx_then (jc_seq (jc_block (jc_seq (jc_region (qh [0,0] (qe (jx_then (jc_seq (jc_region (qh [0,0,0] ?_)))))))))))
    obtain ⟨x_5, hx_35, h⟩ := bd h
    refine tO (qx 0 A_a 2 hx_35 rfl (A_h.sp hx_35) (jkO (tO (ql 0 true (fun w hm => ((hm.exRowW A_h A_ha).at hx_35)) (jkO ?_)))))
    obtain ⟨t_6, ht_36, h⟩ := bd h
    refine tO (pc 0 (fun w hm => impl_ValidFrame_1.calls x_5 g1c0 w _ D_c (hm.exRowW D_h D_ha) rfl B_b (hm.pass (N := [⟨some B_b, 27, [(.int .i16 g1c0.fSteps), (.slice D_a g1c0.fHammers.length D_c)]⟩]) [0] (by kernel_rfl) (by kernel_rfl)) (hm.exApart (N := [⟨some B_b, 27, [(.int .i16 g1c0.fSteps), (.slice D_a g1c0.fHammers.length D_c)]⟩]) D_h D_ha [0] (by kernel_rfl)) ht_36) ?_)
    rintro w v w' hm ⟨rfl, hm'⟩
    refine ⟨_, hm.appW (ps := [(0, ⟨some B_b, 27, [(.int .i16 g1c0.fSteps), (.slice D_a g1c0.fHammers.length D_c)]⟩)]) (N := []) hm' (by kernel_rfl) (by kernel_rfl), jkO ?_⟩
    clear hm hm'
    refine qe (jx_then (qi h (fun h => ?_) (fun h => ?_)))
    ·refine jc_seq (jc_region (qh [0,0] (qe (jx_then (jc_ret (jx_inr (jx_thenr (jx_leaver (.inl i_2) (Option.some.inj h).symm (fun e_38 => ?_)))))))))
     subst e_38
     refine jx_inr (jx_thenr (jx_thenr ?_))
     obtain rfl := Option.some.inj hr_31
     exact qr [] (fun w hm => ⟨rfl, hm.pk [0]⟩)
    ·exact jc_skip (jx_inn (jx_then (jc_region (qh [0,0] (qe (qb (w64 (i_2 + 1)) () h trivial [0]))))))
   ·refine jc_exit (jx_thenx (jx_leave (.inr ()) (Option.some.inj h).symm (fun e_39 => ?_)))
    subst e_39
    exact jx_ine (qm () hr_31 [0])
  ·rintro _ h
   replace h : slices_IndexFunc_Hammer_at_impl_ValidFrame_1.k_1 = some r := h
   rw [slices_IndexFunc_Hammer_at_impl_ValidFrame_1.k_1] at h
   refine jx_then (jc_seq (jc_region (qh [0] (qe (jx_then (jc_ret ?_))))))
   obtain rfl := Option.some.inj h
   exact qr [] (fun w hm => ⟨rfl, hm.pk [0]⟩)
/-! ### slices.ContainsFunc[[]impl.Hammer,impl.Hammer] -/
def slices_ContainsFunc_Hammer_at_impl_ValidFrame_1 (s0 : List GHammer) (g1c0 : GFrame) : Option (Bool) := (slices_IndexFunc_Hammer_at_impl_ValidFrame_1 s0 g1c0).bind fun t_1 => some (decide (t_1 ≥ 0))
theorem slices_ContainsFunc_Hammer_at_impl_ValidFrame_1.calls (s0 : List GHammer) (g1c0 : GFrame) (w : World) (r : Bool) {A_a : Option Addr} {A_an : Nat} (A_c : Nat) (A_h : Rw w A_a 2 encGHammer s0) (A_hn : s0.length = A_an) {D_a : Option Addr} {D_an : Nat} (D_c : Nat) (D_h : Rw w D_a 2 encGHammer g1c0.fHammers) (D_hn : g1c0.fHammers.length = D_an) (B_b : Nat) (hm0 : Mem w (bs [some B_b]) [⟨some B_b, 27, [(.int .i16 g1c0.fSteps), (.slice D_a D_an D_c)]⟩] w) (A_ha : s0 ≠ [] → aB A_a ∉ bs [some B_b]) (D_ha : g1c0.fHammers ≠ [] → aB D_a ∉ bs [some B_b]) (h : slices_ContainsFunc_Hammer_at_impl_ValidFrame_1 s0 g1c0 = some r) :
    Calls Tryz.prog 155 #[(.slice A_a A_an A_c), (.func (.func 156) #[] #[(.pointer (some ⟨B_b, 0, none⟩))])] w fun e w' => ∃ v, e = .returned v ∧ (v = (.bool r) ∧ Mem w (bs [some B_b]) [⟨some B_b, 27, [(.int .i16 g1c0.fSteps), (.slice D_a D_an D_c)]⟩] w') := by
  subst A_hn D_hn
  rw [slices_ContainsFunc_Hammer_at_impl_ValidFrame_1] at h
  refine enter (args := [(.slice A_a s0.length A_c), (.func (.func 156) #[] #[(.pointer (some ⟨B_b, 0, none⟩))])]) Tryz.func155 rfl Tryz.ntmps155 (by kernel_rfl) (L := [⟨some B_b, 27, [(.int .i16 g1c0.fSteps), (.slice D_a g1c0.fHammers.length D_c)]⟩]) (W := bs [some B_b]) hm0 ?_
  refine jc_seq (jc_region (qh [0] (qe (jx_then (jc_seq (jc_region (qh [0,0] ?_)))))))
  obtain ⟨t_1, ht_1, h⟩ := bd h
  refine tO (pc 0 (fun w hm => slices_IndexFunc_Hammer_at_impl_ValidFrame_1.calls s0 g1c0 w _ A_c (hm.exRowW A_h A_ha) rfl D_c (hm.exRowW D_h D_ha) rfl B_b (hm.pass (N := [⟨some B_b, 27, [(.int .i16 g1c0.fSteps), (.slice D_a g1c0.fHammers.length D_c)]⟩]) [0] (by kernel_rfl) (by kernel_rfl)) (hm.exApart (N := [⟨some B_b, 27, [(.int .i16 g1c0.fSteps), (.slice D_a g1c0.fHammers.length D_c)]⟩]) A_h A_ha [0] (by kernel_rfl)) (hm.exApart (N := [⟨some B_b, 27, [(.int .i16 g1c0.fSteps), (.slice D_a g1c0.fHammers.length D_c)]⟩]) D_h D_ha [0] (by kernel_rfl)) ht_1) ?_)
  rintro w v w' hm ⟨rfl, hm'⟩
  refine ⟨_, hm.appW (ps := [(0, ⟨some B_b, 27, [(.int .i16 g1c0.fSteps), (.slice D_a g1c0.fHammers.length D_c)]⟩)]) (N := []) hm' (by kernel_rfl) (by kernel_rfl), jkO ?_⟩
  clear hm hm'
  refine qh [0,0] (qe (jx_then (jc_ret ?_)))
  obtain rfl := Option.some.inj h
  exact qr [] (fun w hm => ⟨rfl, hm.pk [0]⟩)
/-! ### impl.ValidFrame -/
def impl_ValidFrame (f0 : GFrame) : Option (Bool) := (impl_within (w64 f0.fSteps) 2 96).bind fun t_1 => (if t_1 = true then (impl_size_Hammer f0.fHammers).bind fun t_2 => (impl_within t_2 1 24).bind fun t_3 => (if t_3 = true then (slices_ContainsFunc_Hammer_at_impl_ValidFrame_1 f0.fHammers f0).bind fun t_4 => some (!t_4) else some false) else some false)
theorem impl_ValidFrame.calls (f0 : GFrame) (w : World) (r : Bool) {C_a : Option Addr} {C_an : Nat} (C_c : Nat) (C_h : Rw w C_a 2 encGHammer f0.fHammers) (C_hn : f0.fHammers.length = C_an) (h : impl_ValidFrame f0 = some r) :
    Calls Tryz.prog 81 #[(.agg #[(.int .i16 f0.fSteps), (.slice C_a C_an C_c)])] w fun e w' => ∃ v, e = .returned v ∧ (v = (.bool r) ∧ Mem w [] [] w') := by
  subst C_hn
  rw [impl_ValidFrame] at h
  refine enter (args := [(.agg #[(.int .i16 f0.fSteps), (.slice C_a f0.fHammers.length C_c)])]) Tryz.func81 rfl Tryz.ntmps81 (by kernel_rfl) (L := []) (W := []) (Mem.start w) ?_
  refine jc_seq (jc_region (tO (qa 0 (fun b_1 => jkO (qh [0] (qe (jx_then (jc_seq (jc_region (qh [0,0,0] ?_))))))))))
  obtain ⟨t_1, ht_2, h⟩ := bd h
  refine tO (pc 0 (fun w hm => impl_within.calls (w64 f0.fSteps) 2 96 w _ ht_2) ?_)
  rintro w v w' hm ⟨rfl, hm'⟩
  refine ⟨_, hm.app hm', jkO ?_⟩
  clear hm hm'
  refine qf [(0, 0), (0, 1), (0, 1)] (qp 7 h (fun h => ?_) (fun h => ?_))
  ·obtain ⟨t_2, ht_4, h⟩ := bd h
   refine tO (pc 2 (fun w hm => impl_size_Hammer.calls f0.fHammers w _ C_c (hm.xr C_h) rfl ht_4) ?_)
   rintro w v w' hm ⟨rfl, hm'⟩
   refine ⟨_, hm.app hm', jkO ?_⟩
   clear hm hm'
   obtain ⟨t_3, ht_5, h⟩ := bd h
   refine tO (pc 2 (fun w hm => impl_within.calls t_2 1 24 w _ ht_5) ?_)
   rintro w v w' hm ⟨rfl, hm'⟩
   refine ⟨_, hm.app hm', jkO ?_⟩
   clear hm hm'
   refine qf [(0, 4), (0, 0), (0, 1), (0, 1), (0, 1)] (qp 13 h (fun h => ?_) (fun h => ?_))
   ·obtain ⟨t_4, ht_7, h⟩ := bd h
    refine tO (pc 2 (fun w hm => slices_ContainsFunc_Hammer_at_impl_ValidFrame_1.calls f0.fHammers f0 w _ C_c (hm.xr C_h) rfl C_c (hm.xr C_h) rfl b_1 (hm.pass (N := [⟨some b_1, 27, [(.int .i16 f0.fSteps), (.slice C_a f0.fHammers.length C_c)]⟩]) [0] (by kernel_rfl) (by kernel_rfl)) (hm.exApart (N := [⟨some b_1, 27, [(.int .i16 f0.fSteps), (.slice C_a f0.fHammers.length C_c)]⟩]) C_h (fun _ => List.not_mem_nil) [0] (by kernel_rfl)) (hm.exApart (N := [⟨some b_1, 27, [(.int .i16 f0.fSteps), (.slice C_a f0.fHammers.length C_c)]⟩]) C_h (fun _ => List.not_mem_nil) [0] (by kernel_rfl)) ht_7) ?_)
    rintro w v w' hm ⟨rfl, hm'⟩
    refine ⟨_, hm.appW (ps := [(0, ⟨some b_1, 27, [(.int .i16 f0.fSteps), (.slice C_a f0.fHammers.length C_c)]⟩)]) (N := []) hm' (by kernel_rfl) (by kernel_rfl), jkO ?_⟩
    clear hm hm'
    refine qf [(0, 2), (0, 4), (0, 0)] (qe (jx_then (jc_ret ?_)))
    obtain rfl := Option.some.inj h
    exact qr [] (fun w hm => ⟨rfl, hm.pk []⟩)
   ·refine qf [(0, 3), (0, 3), (0, 5), (0, 0)] (qe (jx_then (jc_ret ?_)))
    obtain rfl := Option.some.inj h
    exact qr [] (fun w hm => ⟨rfl, hm.pk []⟩)
  ·refine qf [(0, 3), (0, 3), (0, 5), (0, 0), (0, 3), (0, 3), (0, 3), (0, 3), (0, 3), (0, 5), (0, 0)] (qe (jx_then (jc_ret ?_)))
   obtain rfl := Option.some.inj h
   exact qr [] (fun w hm => ⟨rfl, hm.pk []⟩)
/-! ### impl.unless -/
def impl_unless (is0 : Bool) (code1 : Int) : Option (Int) := (if is0 = true then some 0 else some code1)
theorem impl_unless.calls (is0 : Bool) (code1 : Int) (w : World) (r : Int) (h : impl_unless is0 code1 = some r) :
    Calls Tryz.prog 85 #[(.bool is0), (.int .i64 code1)] w fun e w' => ∃ v, e = .returned v ∧ (v = (.int .i64 r) ∧ Mem w [] [] w') := by
  rw [impl_unless] at h
  refine enter (args := [(.bool is0), (.int .i64 code1)]) Tryz.func85 rfl Tryz.ntmps85 (by kernel_rfl) (L := []) (W := []) (Mem.start w) ?_
  refine jc_seq (jc_region (qh [0] (qe (jx_then (jc_seq (jc_seq (jc_region (qh [0] (qe (jx_then (qi h (fun h => ?_) (fun h => ?_))))))))))))
  ·refine jc_seq (jc_region (qh [0] (qe (jx_then (jc_ret (jx_thenr ?_))))))
   obtain rfl := Option.some.inj h
   exact qr [] (fun w hm => ⟨rfl, hm.pk []⟩)
  ·refine jc_skip (jx_then (jc_seq (jc_region (qh [0,0] (qe (jx_then (jc_ret ?_)))))))
   obtain rfl := Option.some.inj h
   exact qr [] (fun w hm => ⟨rfl, hm.pk []⟩)
/-! ### impl.isNote -/
def impl_isNote (n0 : GNote) : Option (Bool) := (impl_within (w64 n0.fAt) 0 199).bind fun t_1 => (if t_1 = true then (impl_isPitch (w64 n0.fPitch)).bind fun t_2 => some t_2 else some false)
theorem impl_isNote.calls (n0 : GNote) (w : World) (r : Bool) (h : impl_isNote n0 = some r) :
    Calls Tryz.prog 203 #[(.agg #[(.int .i16 n0.fAt), (.int .i8 n0.fPitch)])] w fun e w' => ∃ v, e = .returned v ∧ (v = (.bool r) ∧ Mem w [] [] w') := by
  rw [impl_isNote] at h
  refine enter (args := [(.agg #[(.int .i16 n0.fAt), (.int .i8 n0.fPitch)])]) Tryz.func203 rfl Tryz.ntmps203 (by kernel_rfl) (L := []) (W := []) (Mem.start w) ?_
  refine jc_seq (jc_region (tO (qa 0 (fun b_1 => jkO (qh [0] (qe (jx_then (jc_seq (jc_region (qh [0,0,0] ?_))))))))))
  obtain ⟨t_1, ht_2, h⟩ := bd h
  refine tO (pc 0 (fun w hm => impl_within.calls (w64 n0.fAt) 0 199 w _ ht_2) ?_)
  rintro w v w' hm ⟨rfl, hm'⟩
  refine ⟨_, hm.app hm', jkO ?_⟩
  clear hm hm'
  refine qf [(0, 0), (0, 1), (0, 1), (0, 1)] (qp 7 h (fun h => ?_) (fun h => ?_))
  ·obtain ⟨t_2, ht_4, h⟩ := bd h
   refine tO (pc 2 (fun w hm => impl_isPitch.calls (w64 n0.fPitch) w _ ht_4) ?_)
   rintro w v w' hm ⟨rfl, hm'⟩
   refine ⟨_, hm.app hm', jkO ?_⟩
   clear hm hm'
   refine qf [(0, 4), (0, 0)] (qe (jx_then (jc_ret ?_)))
   obtain rfl := Option.some.inj h
   exact qr [] (fun w hm => ⟨rfl, hm.pk []⟩)
  ·refine qf [(0, 3), (0, 5), (0, 0)] (qe (jx_then (jc_ret ?_)))
   obtain rfl := Option.some.inj h
   exact qr [] (fun w hm => ⟨rfl, hm.pk []⟩)
/-! ### cmp.isNaN[int16] -/
def cmp_isNaN_int16 (x0 : Int) : Option (Bool) := some (x0 != x0)
theorem cmp_isNaN_int16.calls (x0 : Int) (w : World) (r : Bool) (h : cmp_isNaN_int16 x0 = some r) :
    Calls Tryz.prog 245 #[(.int .i16 x0)] w fun e w' => ∃ v, e = .returned v ∧ (v = (.bool r) ∧ Mem w [] [] w') := by
  rw [cmp_isNaN_int16] at h
  refine enter (args := [(.int .i16 x0)]) Tryz.func245 rfl Tryz.ntmps245 (by kernel_rfl) (L := []) (W := []) (Mem.start w) ?_
  refine jc_seq (jc_region (qh [0] (qe (jx_then (jc_seq (jc_region (qh [0,0,0,0] (qe (jx_then (jc_ret ?_))))))))))
  obtain rfl := Option.some.inj h
  exact qr [] (fun w hm => ⟨rfl, hm.pk []⟩)
/-! ### cmp.Compare[int16] -/
def cmp_Compare_int16 (x0 : Int) (y1 : Int) : Option (Int) := (cmp_isNaN_int16 x0).bind fun t_1 => (cmp_isNaN_int16 y1).bind fun t_2 => (if t_1 = true then (if t_2 = true then some 0 else some (-1)) else (if t_2 = true then some 1 else (if (decide (x0 < y1)) = true then some (-1) else (if (decide (x0 > y1)) = true then some 1 else some 0))))
theorem cmp_Compare_int16.calls (x0 : Int) (y1 : Int) (w : World) (r : Int) (h : cmp_Compare_int16 x0 y1 = some r) :
    Calls Tryz.prog 227 #[(.int .i16 x0), (.int .i16 y1)] w fun e w' => ∃ v, e = .returned v ∧ (v = (.int .i64 r) ∧ Mem w [] [] w') := by
  rw [cmp_Compare_int16] at h
  refine enter (args := [(.int .i16 x0), (.int .i16 y1)]) Tryz.func227 rfl Tryz.ntmps227 (by kernel_rfl) (L := []) (W := []) (Mem.start w) ?_
  refine jc_seq (jc_region (qh [0] (qe (jx_then (jc_seq (jc_region (qh [0] ?_)))))))
  obtain ⟨t_1, ht_1, h⟩ := bd h
  refine tO (pc 0 (fun w hm => cmp_isNaN_int16.calls x0 w _ ht_1) ?_)
  rintro w v w' hm ⟨rfl, hm'⟩
  refine ⟨_, hm.app hm', jkO ?_⟩
  clear hm hm'
  refine qh [0] (qe (jx_then (jc_seq (jc_region (qh [0] ?_)))))
  obtain ⟨t_2, ht_2, h⟩ := bd h
  refine tO (pc 0 (fun w hm => cmp_isNaN_int16.calls y1 w _ ht_2) ?_)
  rintro w v w' hm ⟨rfl, hm'⟩
  refine ⟨_, hm.app hm', jkO ?_⟩
  clear hm hm'
  refine qh [0] (qe (jx_then (jc_seq (jc_seq (jc_region (qh [0] (qe (jx_then (qi h (fun h => ?_) (fun h => ?_))))))))))
  ·refine jc_seq (jc_seq (jc_region (qh [0] (qe (jx_then (qi h (fun h => ?_) (fun h => ?_)))))))
   ·refine jc_seq (jc_region (qh [0] (qe (jx_then (jc_ret (jx_thenr (jx_thenr ?_)))))))
    obtain rfl := Option.some.inj h
    exact qr [] (fun w hm => ⟨rfl, hm.pk []⟩)
   ·refine jc_skip (jx_then (jc_seq (jc_region (qh [0] (qe (jx_then (jc_ret (jx_thenr ?_))))))))
    obtain rfl := Option.some.inj h
    exact qr [] (fun w hm => ⟨rfl, hm.pk []⟩)
  ·refine jc_skip (jx_then (jc_seq (jc_seq (jc_region (qh [0] (qe (jx_then (qi h (fun h => ?_) (fun h => ?_)))))))))
   ·refine jc_seq (jc_region (qh [0] (qe (jx_then (jc_ret (jx_thenr ?_))))))
    obtain rfl := Option.some.inj h
    exact qr [] (fun w hm => ⟨rfl, hm.pk []⟩)
   ·refine jc_skip (jx_then (jc_seq (jc_seq (jc_region (qh [0,0,0] (qe (jx_then (qi h (fun h => ?_) (fun h => ?_)))))))))
    ·refine jc_seq (jc_region (qh [0] (qe (jx_then (jc_ret (jx_thenr ?_))))))
     obtain rfl := Option.some.inj h
     exact qr [] (fun w hm => ⟨rfl, hm.pk []⟩)
    ·refine jc_skip (jx_then (jc_seq (jc_seq (jc_region (qh [0,0,0] (qe (jx_then (qi h (fun h => ?_) (fun h => ?_)))))))))
     ·refine jc_seq (jc_region (qh [0] (qe (jx_then (jc_ret (jx_thenr ?_))))))
      obtain rfl := Option.some.inj h
      exact qr [] (fun w hm => ⟨rfl, hm.pk []⟩)
     ·refine jc_skip (jx_then (jc_seq (jc_region (qh [0] (qe (jx_then (jc_ret ?_)))))))
      obtain rfl := Option.some.inj h
      exact qr [] (fun w hm => ⟨rfl, hm.pk []⟩)
/-! ### cmp.isNaN[int8] -/
def cmp_isNaN_int8 (x0 : Int) : Option (Bool) := some (x0 != x0)
theorem cmp_isNaN_int8.calls (x0 : Int) (w : World) (r : Bool) (h : cmp_isNaN_int8 x0 = some r) :
    Calls Tryz.prog 246 #[(.int .i8 x0)] w fun e w' => ∃ v, e = .returned v ∧ (v = (.bool r) ∧ Mem w [] [] w') := by
  rw [cmp_isNaN_int8] at h
  refine enter (args := [(.int .i8 x0)]) Tryz.func246 rfl Tryz.ntmps246 (by kernel_rfl) (L := []) (W := []) (Mem.start w) ?_
  refine jc_seq (jc_region (qh [0] (qe (jx_then (jc_seq (jc_region (qh [0,0,0,0] (qe (jx_then (jc_ret ?_))))))))))
  obtain rfl := Option.some.inj h
  exact qr [] (fun w hm => ⟨rfl, hm.pk []⟩)
/-! ### cmp.Compare[int8] -/
def cmp_Compare_int8 (x0 : Int) (y1 : Int) : Option (Int) := (cmp_isNaN_int8 x0).bind fun t_1 => (cmp_isNaN_int8 y1).bind fun t_2 => (if t_1 = true then (if t_2 = true then some 0 else some (-1)) else (if t_2 = true then some 1 else (if (decide (x0 < y1)) = true then some (-1) else (if (decide (x0 > y1)) = true then some 1 else some 0))))
theorem cmp_Compare_int8.calls (x0 : Int) (y1 : Int) (w : World) (r : Int) (h : cmp_Compare_int8 x0 y1 = some r) :
    Calls Tryz.prog 228 #[(.int .i8 x0), (.int .i8 y1)] w fun e w' => ∃ v, e = .returned v ∧ (v = (.int .i64 r) ∧ Mem w [] [] w') := by
  rw [cmp_Compare_int8] at h
  refine enter (args := [(.int .i8 x0), (.int .i8 y1)]) Tryz.func228 rfl Tryz.ntmps228 (by kernel_rfl) (L := []) (W := []) (Mem.start w) ?_
  refine jc_seq (jc_region (qh [0] (qe (jx_then (jc_seq (jc_region (qh [0] ?_)))))))
  obtain ⟨t_1, ht_1, h⟩ := bd h
  refine tO (pc 0 (fun w hm => cmp_isNaN_int8.calls x0 w _ ht_1) ?_)
  rintro w v w' hm ⟨rfl, hm'⟩
  refine ⟨_, hm.app hm', jkO ?_⟩
  clear hm hm'
  refine qh [0] (qe (jx_then (jc_seq (jc_region (qh [0] ?_)))))
  obtain ⟨t_2, ht_2, h⟩ := bd h
  refine tO (pc 0 (fun w hm => cmp_isNaN_int8.calls y1 w _ ht_2) ?_)
  rintro w v w' hm ⟨rfl, hm'⟩
  refine ⟨_, hm.app hm', jkO ?_⟩
  clear hm hm'
  refine qh [0] (qe (jx_then (jc_seq (jc_seq (jc_region (qh [0] (qe (jx_then (qi h (fun h => ?_) (fun h => ?_))))))))))
  ·refine jc_seq (jc_seq (jc_region (qh [0] (qe (jx_then (qi h (fun h => ?_) (fun h => ?_)))))))
   ·refine jc_seq (jc_region (qh [0] (qe (jx_then (jc_ret (jx_thenr (jx_thenr ?_)))))))
    obtain rfl := Option.some.inj h
    exact qr [] (fun w hm => ⟨rfl, hm.pk []⟩)
   ·refine jc_skip (jx_then (jc_seq (jc_region (qh [0] (qe (jx_then (jc_ret (jx_thenr ?_))))))))
    obtain rfl := Option.some.inj h
    exact qr [] (fun w hm => ⟨rfl, hm.pk []⟩)
  ·refine jc_skip (jx_then (jc_seq (jc_seq (jc_region (qh [0] (qe (jx_then (qi h (fun h => ?_) (fun h => ?_)))))))))
   ·refine jc_seq (jc_region (qh [0] (qe (jx_then (jc_ret (jx_thenr ?_))))))
    obtain rfl := Option.some.inj h
    exact qr [] (fun w hm => ⟨rfl, hm.pk []⟩)
   ·refine jc_skip (jx_then (jc_seq (jc_seq (jc_region (qh [0,0,0] (qe (jx_then (qi h (fun h => ?_) (fun h => ?_)))))))))
    ·refine jc_seq (jc_region (qh [0] (qe (jx_then (jc_ret (jx_thenr ?_))))))
     obtain rfl := Option.some.inj h
     exact qr [] (fun w hm => ⟨rfl, hm.pk []⟩)
    ·refine jc_skip (jx_then (jc_seq (jc_seq (jc_region (qh [0,0,0] (qe (jx_then (qi h (fun h => ?_) (fun h => ?_)))))))))
     ·refine jc_seq (jc_region (qh [0] (qe (jx_then (jc_ret (jx_thenr ?_))))))
      obtain rfl := Option.some.inj h
      exact qr [] (fun w hm => ⟨rfl, hm.pk []⟩)
     ·refine jc_skip (jx_then (jc_seq (jc_region (qh [0] (qe (jx_then (jc_ret ?_)))))))
      obtain rfl := Option.some.inj h
      exact qr [] (fun w hm => ⟨rfl, hm.pk []⟩)
/-! ### cmp.Or[int] -/
def cmp_Or_int.k_1 : Option (Int) := some 0
def cmp_Or_int.l_3 (vals0 : List Int) : Int → Option ((Int) ⊕ (Int ⊕ Unit))
  | i_2 => (if (decide (i_2 < (vals0.length : Int))) = true then (ix vals0 i_2).bind fun x_5 => (if (x_5 != 0) = true then some (.inr (.inl x_5)) else some (.inl (w64 (i_2 + 1)))) else some (.inr (.inr ())))
def cmp_Or_int (vals0 : List Int) : Option (Int) := (loop (cmp_Or_int.l_3 vals0) 0).bind fun t_4 => match t_4 with | .inl p => some p | .inr p => cmp_Or_int.k_1
theorem cmp_Or_int.calls (vals0 : List Int) (w : World) (r : Int) {A_a : Option Addr} {A_an : Nat} (A_c : Nat) (A_h : Rw w A_a 1 encI64 vals0) (A_hn : vals0.length = A_an) (h : cmp_Or_int vals0 = some r) :
    Calls Tryz.prog 226 #[(.slice A_a A_an A_c)] w fun e w' => ∃ v, e = .returned v ∧ (v = (.int .i64 r) ∧ Mem w [] [] w') := by
  subst A_hn
  rw [cmp_Or_int] at h
  refine enter (args := [(.slice A_a vals0.length A_c)]) Tryz.func226 rfl Tryz.ntmps226 (by kernel_rfl) (L := []) (W := []) (Mem.start w) ?_
  refine jc_seq (jc_region (qh [0] (qe (jx_then (jc_seq (jc_region (qh [0] (qe (jx_then (jc_seq (jc_seq (jc_region (qh [0,0,0] (qe (jx_then (jc_meet (fun (_ : Unit) => cmp_Or_int.k_1 = some r) (fun (_ : Unit) => [(2, [], (.int .i64 0)), (3, [], (.int .i64 0))]) (fun (_ : Unit) => []) ?_ ?_))))))))))))))))
  ·refine jc_block ?_
   obtain ⟨t_4, ht_68, hr_60⟩ := bd h
   refine jc_loop (fun (s : Int) (x : Unit) => match s, x with | i_2, _ => True) (fun (s : Int) (x : Unit) => match s, x with | i_2, _ => [(2, [], (.int .i64 0)), (3, [], (.int .i64 0)), (6, [], (.slice A_a vals0.length A_c)), (7, [], (.int .i64 (vals0.length : Int))), (8, [], (.int .i64 i_2))]) (fun (s : Int) (x : Unit) => match s, x with | i_2, _ => []) ht_68 () trivial (by kernel_rfl) [] (by kernel_rfl) (by kernel_rfl) ?_
   rintro i_2 _ y_61 _ h
   rw [cmp_Or_int.l_3] at h
   refine jc_seq (jc_region (qh [0] (qe (jx_then (jc_seq (qi h (fun h => ?_) (fun h => ?_)))))))
   ·refine jc_skip (jx_then (jc_seq (jc_block (jc_seq (jc_region ?_)))))
    obtain ⟨x_5, hx_64, h⟩ := bd h
    refine tO (qx 0 A_a 1 hx_64 rfl (A_h.sp hx_64) (jkO (tO (ql 0 false (fun w hm => ((hm.xr A_h).at hx_64)) (jkO (qh [0] (qe (jx_then (jc_seq (jc_region (qh [0,0,0] (qe (jx_then (qi h (fun h => ?_) (fun h => ?_)))))))))))))))
    ·refine jc_seq (jc_region (qh [0,0] (qe (jx_then (jc_ret (jx_inr (jx_thenr (jx_leaver (.inl x_5) (Option.some.inj h).symm (fun e_66 => ?_)))))))))
     subst e_66
     refine jx_inr (jx_thenr (jx_thenr ?_))
     obtain rfl := Option.some.inj hr_60
     exact qr [] (fun w hm => ⟨rfl, hm.pk []⟩)
    ·exact jc_skip (jx_inn (jx_then (jc_region (qh [0,0] (qe (qb (w64 (i_2 + 1)) () h trivial []))))))
   ·refine jc_exit (jx_thenx (jx_leave (.inr ()) (Option.some.inj h).symm (fun e_67 => ?_)))
    subst e_67
    exact jx_ine (qm () hr_60 [])
  ·rintro _ h
   replace h : cmp_Or_int.k_1 = some r := h
   rw [cmp_Or_int.k_1] at h
   refine jx_then (jc_seq (jc_region (qh [0,0] (qe (jx_then (jc_ret ?_))))))
   obtain rfl := Option.some.inj h
   exact qr [] (fun w hm => ⟨rfl, hm.pk []⟩)
/-! ### impl.compareNotes -/
def impl_compareNotes (a0 : GNote) (b1 : GNote) : Option (Int) := (cmp_Compare_int16 a0.fAt b1.fAt).bind fun t_1 => (cmp_Compare_int8 a0.fPitch b1.fPitch).bind fun t_2 => (cmp_Or_int ([t_1, t_2] : List Int)).bind fun t_3 => some t_3
theorem impl_compareNotes.calls (a0 : GNote) (b1 : GNote) (w : World) (r : Int) (h : impl_compareNotes a0 b1 = some r) :
    Calls Tryz.prog 200 #[(.agg #[(.int .i16 a0.fAt), (.int .i8 a0.fPitch)]), (.agg #[(.int .i16 b1.fAt), (.int .i8 b1.fPitch)])] w fun e w' => ∃ v, e = .returned v ∧ (v = (.int .i64 r) ∧ Mem w [] [] w') := by
  rw [impl_compareNotes] at h
  refine enter (args := [(.agg #[(.int .i16 a0.fAt), (.int .i8 a0.fPitch)]), (.agg #[(.int .i16 b1.fAt), (.int .i8 b1.fPitch)])]) Tryz.func200 rfl Tryz.ntmps200 (by kernel_rfl) (L := []) (W := []) (Mem.start w) ?_
  refine jc_seq (jc_region (tO (qa 0 (fun b_1 => jkO (tO (qa 0 (fun b_2 => jkO (qh [0] (qe (jx_then (jc_seq (qg [⟨some b_1, 101, [(.int .i16 a0.fAt), (.int .i8 a0.fPitch)]⟩, ⟨some b_2, 101, [(.int .i16 b1.fAt), (.int .i8 b1.fPitch)]⟩] 13 (qd [⟨0, 0, 0⟩,⟨1, 0, 0⟩,⟨2, 0, 0⟩,⟨3, 1, 0⟩,⟨5, 0, 0⟩,⟨6, 0, 0⟩,⟨7, 0, 0⟩,⟨8, 1, 0⟩] 5 [0, 1] ?_)))))))))))))
  obtain ⟨t_1, ht_3, h⟩ := bd h
  refine tD 4 (pc 0 (fun w hm => cmp_Compare_int16.calls a0.fAt b1.fAt w _ ht_3) ?_)
  rintro w v w' hm ⟨rfl, hm'⟩
  refine ⟨_, hm.app hm', kD [0, 1] ?_⟩
  clear hm hm'
  obtain ⟨t_2, ht_4, h⟩ := bd h
  refine tD 9 (pc 0 (fun w hm => cmp_Compare_int8.calls a0.fPitch b1.fPitch w _ ht_4) ?_)
  rintro w v w' hm ⟨rfl, hm'⟩
  refine ⟨_, hm.app hm', kD [0, 1] ?_⟩
  clear hm hm'
  refine tD 10 (qa 0 (fun b_5 => kD [0, 1] ?_))
  obtain ⟨t_3, ht_6, h⟩ := bd h
  refine tD 11 (pc 0 (fun w hm => cmp_Or_int.calls ([t_1, t_2] : List Int) w _ 2 (hm.ow 2 (some b_5) 3 ([t_1, t_2] : List Int) [] (fun e => nomatch e) encI64_len) rfl ht_6) ?_)
  rintro w v w' hm ⟨rfl, hm'⟩
  refine ⟨_, hm.app hm', kD [0, 1] ?_⟩
  clear hm hm'
  refine qd [⟨12, 0, 0⟩] 0 [0, 1] (qz (jx_then (jc_ret ?_)))
  obtain rfl := Option.some.inj h
  exact qr [] (fun w hm => ⟨rfl, hm.pk []⟩)
/-! ### impl.ValidTune -/
def impl_ValidTune.k_1 (t0 : List GNote) : Option (Bool) := some (decide ((t0.length : Int) ≤ 120))
def impl_ValidTune.k_7 (i_2 : Int) (q_6 : Bool) : Option ((Int) ⊕ (Bool ⊕ Unit)) := (if q_6 = true then some (.inr (.inl false)) else some (.inl (w64 (i_2 + 1))))
def impl_ValidTune.l_3 (t0 : List GNote) : Int → Option ((Int) ⊕ (Bool ⊕ Unit))
  | i_2 => (if (decide (i_2 < (t0.length : Int))) = true then (ix t0 i_2).bind fun x_5 => (impl_isNote x_5).bind fun t_8 => (if (!t_8) = true then impl_ValidTune.k_7 i_2 true else (if (decide (i_2 > 0)) = true then (ix t0 (w64 (i_2 - 1))).bind fun x_9 => (impl_compareNotes x_9 x_5).bind fun t_10 => impl_ValidTune.k_7 i_2 (decide (t_10 ≥ 0)) else impl_ValidTune.k_7 i_2 false)) else some (.inr (.inr ())))
def impl_ValidTune (t0 : List GNote) : Option (Bool) := (loop (impl_ValidTune.l_3 t0) 0).bind fun t_4 => match t_4 with | .inl p => some p | .inr p => impl_ValidTune.k_1 t0
theorem impl_ValidTune.calls (t0 : List GNote) (w : World) (r : Bool) {A_a : Option Addr} {A_an : Nat} (A_c : Nat) (A_h : Rw w A_a 2 encGNote t0) (A_hn : t0.length = A_an) (h : impl_ValidTune t0 = some r) :
    Calls Tryz.prog 150 #[(.slice A_a A_an A_c)] w fun e w' => ∃ v, e = .returned v ∧ (v = (.bool r) ∧ Mem w [] [] w') := by
  subst A_hn
  rw [impl_ValidTune] at h
  refine enter (args := [(.slice A_a t0.length A_c)]) Tryz.func150 rfl Tryz.ntmps150 (by kernel_rfl) (L := []) (W := []) (Mem.start w) ?_
  refine jc_seq (jc_region (qh [0] (qe (jx_then (jc_seq (jc_seq (jc_region (qh [0,0,0] (qe (jx_then (jc_meet (fun (_ : Unit) => impl_ValidTune.k_1 t0 = some r) (fun (_ : Unit) => [(0, [], (.slice A_a t0.length A_c)), (2, [], (.bool false))]) (fun (_ : Unit) => []) ?_ ?_)))))))))))
  ·refine jc_block ?_
   obtain ⟨t_4, ht_200, hr_181⟩ := bd h
   refine jc_loop (fun (s : Int) (x : Unit) => match s, x with | i_2, _ => True) (fun (s : Int) (x : Unit) => match s, x with | i_2, _ => [(0, [], (.slice A_a t0.length A_c)), (2, [], (.bool false)), (5, [], (.slice A_a t0.length A_c)), (6, [], (.int .i64 (t0.length : Int))), (7, [], (.int .i64 i_2))]) (fun (s : Int) (x : Unit) => match s, x with | i_2, _ => []) ht_200 () trivial (by kernel_rfl) [] (by kernel_rfl) (by kernel_rfl) ?_
   rintro i_2 _ y_182 _ h
   rw [impl_ValidTune.l_3] at h
   refine jc_seq (jc_region (qh [0] (qe (jx_then (jc_seq (qi h (fun h => ?_) (fun h => ?_)))))))
   ·refine jc_skip (jx_then (jc_seq (jc_block (jc_seq (jc_region (qh [0] ?_))))))
    obtain ⟨x_5, hx_185, h⟩ := bd h
    refine tO (qx 0 A_a 2 hx_185 rfl (A_h.sp hx_185) (jkO (tO (ql 0 true (fun w hm => ((hm.xr A_h).at hx_185)) (jkO (tO (qa 0 (fun b_186 => jkO (qh [0] (tO (qs 0 [0] (jkO (qe (jx_then (jc_seq (jc_meet (fun (j : Bool) => match j with | q_6 => impl_ValidTune.k_7 i_2 q_6 = some y_182) (fun (j : Bool) => match j with | q_6 => [(0, [], (.slice A_a t0.length A_c)), (2, [], (.bool false)), (5, [], (.slice A_a t0.length A_c)), (6, [], (.int .i64 (t0.length : Int))), (7, [], (.int .i64 i_2)), (28, [], (.bool q_6))]) (fun (j : Bool) => match j with | q_6 => [⟨some b_186, 101, [(.int .i16 x_5.fAt), (.int .i8 x_5.fPitch)]⟩]) ?_ ?_))))))))))))))))
    ·refine qg [⟨some b_186, 101, [(.int .i16 x_5.fAt), (.int .i8 x_5.fPitch)]⟩] 17 (qd [⟨0, 0, 0⟩] 16 [0] ?_)
     obtain ⟨t_8, ht_194, h⟩ := bd h
     refine tD 1 (pc 0 (fun w hm => impl_isNote.calls x_5 w _ ht_194) ?_)
     rintro w v w' hm ⟨rfl, hm'⟩
     refine ⟨_, hm.app hm', kD [0] ?_⟩
     clear hm hm'
     refine qd [⟨2, 0, 0⟩,⟨3, 0, 0⟩,⟨4, 0, 1⟩,⟨5, 0, 1⟩] 11 [0] (jd_split 15 (!t_8) (by kernel_rfl) (fun hc_195 => ?_) (fun hc_195 => ?_))
     ·replace h := ifT hc_195 h
      exact qd [⟨6, 0, 3⟩,⟨7, 0, 3⟩,⟨8, 0, 3⟩,⟨9, 0, 3⟩,⟨10, 0, 3⟩,⟨11, 0, 3⟩,⟨12, 0, 3⟩,⟨13, 0, 3⟩,⟨14, 0, 3⟩,⟨15, 0, 3⟩,⟨16, 0, 4⟩] 0 [0] (qz (qm true h [0]))
     ·replace h := ifF hc_195 h
      refine qd [⟨6, 0, 2⟩,⟨7, 0, 1⟩,⟨8, 0, 1⟩,⟨9, 0, 1⟩,⟨12, 0, 1⟩] 6 [0] (jd_split 18 (decide (i_2 > 0)) (by kernel_rfl) (fun hc_196 => ?_) (fun hc_196 => ?_))
      ·replace h := ifT hc_196 h
       obtain ⟨x_9, hx_197, h⟩ := bd h
       refine qv 10 2 [0] (fun w hm => idx_run (a := A_a) (len := t0.length) (s := 2) (j := (w64 (i_2 - 1))) (by kernel_rfl) (ix_some hx_197).1 (ltn hx_197 rfl) (A_h.sp hx_197)) (qv 11 2 [0] (fun w hm => ld_run (b := aB A_a) (off := (aO A_a + (w64 (i_2 - 1)).toNat * 2)) (s := 2) (agg := true) (vs := (encGNote x_9)) (by kernel_rfl) (by kernel_rfl) (.inl rfl) ((hm.xr A_h).at hx_197)) ?_)
       obtain ⟨t_10, ht_198, h⟩ := bd h
       refine tD 13 (pc 2 (fun w hm => impl_compareNotes.calls x_9 x_5 w _ ht_198) ?_)
       rintro w v w' hm ⟨rfl, hm'⟩
       refine ⟨_, hm.app hm', kD [0] ?_⟩
       clear hm hm'
       exact qd [⟨14, 0, 2⟩,⟨15, 0, 4⟩,⟨16, 0, 5⟩] 0 [0] (qz (qm (decide (t_10 ≥ 0)) h [0]))
      ·replace h := ifF hc_196 h
       exact qd [⟨10, 0, 3⟩,⟨11, 0, 3⟩,⟨13, 0, 3⟩,⟨14, 0, 3⟩,⟨15, 0, 5⟩,⟨16, 0, 5⟩] 0 [0] (qz (qm false h [0]))
    ·rintro q_6 h
     replace h : impl_ValidTune.k_7 i_2 q_6 = some y_182 := h
     rw [impl_ValidTune.k_7] at h
     refine jx_then (qi h (fun h => ?_) (fun h => ?_))
     ·refine jc_seq (jc_region (qh [0] (qe (jx_then (jc_ret (jx_inr (jx_thenr (jx_leaver (.inl false) (Option.some.inj h).symm (fun e_193 => ?_)))))))))
      subst e_193
      refine jx_inr (jx_thenr (jx_thenr ?_))
      obtain rfl := Option.some.inj hr_181
      exact qr [] (fun w hm => ⟨rfl, hm.pk []⟩)
     ·exact jc_skip (jx_inn (jx_then (jc_region (qh [0,0] (qe (qb (w64 (i_2 + 1)) () h trivial []))))))
   ·refine jc_exit (jx_thenx (jx_leave (.inr ()) (Option.some.inj h).symm (fun e_199 => ?_)))
    subst e_199
    exact jx_ine (qm () hr_181 [])
  ·rintro _ h
   replace h : impl_ValidTune.k_1 t0 = some r := h
   rw [impl_ValidTune.k_1] at h
   refine jx_then (jc_seq (jc_region (qh [0,0,0,0] (qe (jx_then (jc_ret ?_))))))
   obtain rfl := Option.some.inj h
   exact qr [] (fun w hm => ⟨rfl, hm.pk []⟩)
/-! ### impl.tuneCode$1 -/
def impl_tuneCode_1 (t0 : List GNote) : Option (Bool) := (impl_ValidTune t0).bind fun t_1 => some (!t_1)
theorem impl_tuneCode_1.calls (t0 : List GNote) (w : World) (r : Bool) {A_a : Option Addr} {A_an : Nat} (A_c : Nat) (A_h : Rw w A_a 2 encGNote t0) (A_hn : t0.length = A_an) (h : impl_tuneCode_1 t0 = some r) :
    Calls Tryz.prog 208 #[(.slice A_a A_an A_c)] w fun e w' => ∃ v, e = .returned v ∧ (v = (.bool r) ∧ Mem w [] [] w') := by
  subst A_hn
  rw [impl_tuneCode_1] at h
  refine enter (args := [(.slice A_a t0.length A_c)]) Tryz.func208 rfl Tryz.ntmps208 (by kernel_rfl) (L := []) (W := []) (Mem.start w) ?_
  refine jc_seq (jc_region (qh [0] (qe (jx_then (jc_seq (jc_region (qh [0] ?_)))))))
  obtain ⟨t_1, ht_1, h⟩ := bd h
  refine tO (pc 0 (fun w hm => impl_ValidTune.calls t0 w _ A_c (hm.xr A_h) rfl ht_1) ?_)
  rintro w v w' hm ⟨rfl, hm'⟩
  refine ⟨_, hm.app hm', jkO ?_⟩
  clear hm hm'
  refine qh [0,0] (qe (jx_then (jc_ret ?_)))
  obtain rfl := Option.some.inj h
  exact qr [] (fun w hm => ⟨rfl, hm.pk []⟩)
/-! ### slices.IndexFunc[[]impl.Tune,impl.Tune] -/
def slices_IndexFunc_Tune_at_impl_tuneCode_1.k_1 : Option (Int) := some (-1)
def slices_IndexFunc_Tune_at_impl_tuneCode_1.l_3 (s0 : List (List GNote)) : Int → Option ((Int) ⊕ (Int ⊕ Unit))
  | i_2 => (if (decide (i_2 < (s0.length : Int))) = true then (ix s0 i_2).bind fun x_5 => (impl_tuneCode_1 x_5).bind fun t_6 => (if t_6 = true then some (.inr (.inl i_2)) else some (.inl (w64 (i_2 + 1)))) else some (.inr (.inr ())))
def slices_IndexFunc_Tune_at_impl_tuneCode_1 (s0 : List (List GNote)) : Option (Int) := (loop (slices_IndexFunc_Tune_at_impl_tuneCode_1.l_3 s0) 0).bind fun t_4 => match t_4 with | .inl p => some p | .inr p => slices_IndexFunc_Tune_at_impl_tuneCode_1.k_1
theorem slices_IndexFunc_Tune_at_impl_tuneCode_1.calls (s0 : List (List GNote)) (w : World) (r : Int) {A_a : Option Addr} {A_an : Nat} (A_c : Nat) {A_hs : List Hd} (A_h : Rw w A_a 1 encHd A_hs) (A_hn : s0.length = A_an) (A_i : Inn w [] 2 encGNote A_hs s0) (h : slices_IndexFunc_Tune_at_impl_tuneCode_1 s0 = some r) :
    Calls Tryz.prog 229 #[(.slice A_a A_an A_c), (.func (.func 208) #[] #[])] w fun e w' => ∃ v, e = .returned v ∧ (v = (.int .i64 r) ∧ Mem w [] [] w') := by
  subst A_hn
  rw [slices_IndexFunc_Tune_at_impl_tuneCode_1] at h
  refine enter (args := [(.slice A_a s0.length A_c), (.func (.func 208) #[] #[])]) Tryz.func229 rfl Tryz.ntmps229 (by kernel_rfl) (L := []) (W := []) (Mem.start w) ?_
  refine jc_seq (jc_region (qh [0] (qe (jx_then (jc_seq (jc_seq (jc_region (qh [0,0,0] (qe (jx_then (jc_meet (fun (_ : Unit) => slices_IndexFunc_Tune_at_impl_tuneCode_1.k_1 = some r) (fun (_ : Unit) => [(4, [], (.int .i64 0))]) (fun (_ : Unit) => []) ?_ ?_)))))))))))
  ·refine jc_block ?_
   obtain ⟨t_4, ht_40, hr_31⟩ := bd h
   refine jc_loop (fun (s : Int) (x : Unit) => match s, x with | i_2, _ => True) (fun (s : Int) (x : Unit) => match s, x with | i_2, _ => [(0, [], (.slice A_a s0.length A_c)), (1, [], (.func (.func 208) #[] #[])), (4, [], (.int .i64 0)), (7, [], (.int .i64 (s0.length : Int))), (8, [], (.int .i64 i_2))]) (fun (s : Int) (x : Unit) => match s, x with | i_2, _ => []) ht_40 () trivial (by kernel_rfl) [] (by kernel_rfl) (by kernel_rfl) ?_
   rintro i_2 _ y_32 _ h
   rw [slices_IndexFunc_Tune_at_impl_tuneCode_1.l_3] at h
   refine jc_seq (jc_region (qh [0] (qe (jx_then (jc_seq (qi h (fun h => ?_) (fun h => ?_)))))))
   ·refine jc_skip (jx_then (jc_seq (jc_block (jc_seq (jc_region (qh [0,0] (qe (jx_then (jc_seq (jc_region (qh [0,0,0] ?_)))))))))))
    obtain ⟨x_5, hx_35, h⟩ := bd h
    refine tO (qx 0 A_a 1 hx_35 rfl (A_h.sp (A_i.ixh hx_35)) (jkO (tO (ql 0 false (fun w hm => ((hm.xr A_h).at (A_i.ixh hx_35))) (jkO ?_)))))
    obtain ⟨t_6, ht_36, h⟩ := bd h
    refine tO (pc 0 (fun w hm => impl_tuneCode_1.calls x_5 w _ ((hd A_hs i_2).c) (hm.exRow (A_i.get hx_35).1 List.not_mem_nil) (A_i.get hx_35).2.1 ht_36) ?_)
    rintro w v w' hm ⟨rfl, hm'⟩
    refine ⟨_, hm.app hm', jkO ?_⟩
    clear hm hm'
    refine qe (jx_then (qi h (fun h => ?_) (fun h => ?_)))
    ·refine jc_seq (jc_region (qh [0,0] (qe (jx_then (jc_ret (jx_inr (jx_thenr (jx_leaver (.inl i_2) (Option.some.inj h).symm (fun e_38 => ?_)))))))))
     subst e_38
     refine jx_inr (jx_thenr (jx_thenr ?_))
     obtain rfl := Option.some.inj hr_31
     exact qr [] (fun w hm => ⟨rfl, hm.pk []⟩)
    ·exact jc_skip (jx_inn (jx_then (jc_region (qh [0,0] (qe (qb (w64 (i_2 + 1)) () h trivial []))))))
   ·refine jc_exit (jx_thenx (jx_leave (.inr ()) (Option.some.inj h).symm (fun e_39 => ?_)))
    subst e_39
    exact jx_ine (qm () hr_31 [])
  ·rintro _ h
   replace h : slices_IndexFunc_Tune_at_impl_tuneCode_1.k_1 = some r := h
   rw [slices_IndexFunc_Tune_at_impl_tuneCode_1.k_1] at h
   refine jx_then (jc_seq (jc_region (qh [0] (qe (jx_then (jc_ret ?_))))))
   obtain rfl := Option.some.inj h
   exact qr [] (fun w hm => ⟨rfl, hm.pk []⟩)
/-! ### slices.ContainsFunc[[]impl.Tune,impl.Tune] -/
def slices_ContainsFunc_Tune_at_impl_tuneCode_1 (s0 : List (List GNote)) : Option (Bool) := (slices_IndexFunc_Tune_at_impl_tuneCode_1 s0).bind fun t_1 => some (decide (t_1 ≥ 0))
theorem slices_ContainsFunc_Tune_at_impl_tuneCode_1.calls (s0 : List (List GNote)) (w : World) (r : Bool) {A_a : Option Addr} {A_an : Nat} (A_c : Nat) {A_hs : List Hd} (A_h : Rw w A_a 1 encHd A_hs) (A_hn : s0.length = A_an) (A_i : Inn w [] 2 encGNote A_hs s0) (h : slices_ContainsFunc_Tune_at_impl_tuneCode_1 s0 = some r) :
    Calls Tryz.prog 207 #[(.slice A_a A_an A_c), (.func (.func 208) #[] #[])] w fun e w' => ∃ v, e = .returned v ∧ (v = (.bool r) ∧ Mem w [] [] w') := by
  subst A_hn
  rw [slices_ContainsFunc_Tune_at_impl_tuneCode_1] at h
  refine enter (args := [(.slice A_a s0.length A_c), (.func (.func 208) #[] #[])]) Tryz.func207 rfl Tryz.ntmps207 (by kernel_rfl) (L := []) (W := []) (Mem.start w) ?_
  refine jc_seq (jc_region (qh [0] (qe (jx_then (jc_seq (jc_region (qh [0,0] ?_)))))))
  obtain ⟨t_1, ht_1, h⟩ := bd h
  refine tO (pc 0 (fun w hm => slices_IndexFunc_Tune_at_impl_tuneCode_1.calls s0 w _ A_c (hm.xr A_h) rfl (hm.innPass (N := []) A_i [] (by kernel_rfl)) ht_1) ?_)
  rintro w v w' hm ⟨rfl, hm'⟩
  refine ⟨_, hm.app hm', jkO ?_⟩
  clear hm hm'
  refine qh [0,0] (qe (jx_then (jc_ret ?_)))
  obtain rfl := Option.some.inj h
  exact qr [] (fun w hm => ⟨rfl, hm.pk []⟩)
/-! ### impl.tuneCode -/
def impl_tuneCode (list0 : List (List GNote)) : Option (Int) := (slices_ContainsFunc_Tune_at_impl_tuneCode_1 list0).bind fun t_1 => (impl_unless (!t_1) 1).bind fun t_2 => some t_2
theorem impl_tuneCode.calls (list0 : List (List GNote)) (w : World) (r : Int) {A_a : Option Addr} {A_an : Nat} (A_c : Nat) {A_hs : List Hd} (A_h : Rw w A_a 1 encHd A_hs) (A_hn : list0.length = A_an) (A_i : Inn w [] 2 encGNote A_hs list0) (h : impl_tuneCode list0 = some r) :
    Calls Tryz.prog 158 #[(.slice A_a A_an A_c)] w fun e w' => ∃ v, e = .returned v ∧ (v = (.int .i64 r) ∧ Mem w [] [] w') := by
  subst A_hn
  rw [impl_tuneCode] at h
  refine enter (args := [(.slice A_a list0.length A_c)]) Tryz.func158 rfl Tryz.ntmps158 (by kernel_rfl) (L := []) (W := []) (Mem.start w) ?_
  refine jc_seq (jc_region (qh [0] (qe (jx_then (jc_seq (jc_region (qh [0] ?_)))))))
  obtain ⟨t_1, ht_1, h⟩ := bd h
  refine tO (pc 0 (fun w hm => slices_ContainsFunc_Tune_at_impl_tuneCode_1.calls list0 w _ A_c (hm.xr A_h) rfl (hm.innPass (N := []) A_i [] (by kernel_rfl)) ht_1) ?_)
  rintro w v w' hm ⟨rfl, hm'⟩
  refine ⟨_, hm.app hm', jkO ?_⟩
  clear hm hm'
  refine qh [0] ?_
  obtain ⟨t_2, ht_2, h⟩ := bd h
  refine tO (pc 0 (fun w hm => impl_unless.calls (!t_1) 1 w _ ht_2) ?_)
  rintro w v w' hm ⟨rfl, hm'⟩
  refine ⟨_, hm.app hm', jkO ?_⟩
  clear hm hm'
  refine qh [0] (qe (jx_then (jc_ret ?_)))
  obtain rfl := Option.some.inj h
  exact qr [] (fun w hm => ⟨rfl, hm.pk []⟩)
/-! ### impl.ValidChoice -/
def impl_ValidChoice (x0 : GChoice) : Option (Bool) := (if x0.fAway = true then some ((x0.fAway == true) && ((x0.fLate == 0) && ((x0.fOctave == 0) && (x0.fTrack == 0)))) else (impl_within (w64 x0.fLate) (-3) 3).bind fun t_1 => (if t_1 = true then (impl_within (w64 x0.fOctave) (-1) 1).bind fun t_2 => (if t_2 = true then (impl_within (w64 x0.fTrack) 0 23).bind fun t_3 => some t_3 else some false) else some false))
theorem impl_ValidChoice.calls (x0 : GChoice) (w : World) (r : Bool) (h : impl_ValidChoice x0 = some r) :
    Calls Tryz.prog 178 #[(.agg #[(.bool x0.fAway), (.int .i8 x0.fLate), (.int .i8 x0.fOctave), (.int .i8 x0.fTrack)])] w fun e w' => ∃ v, e = .returned v ∧ (v = (.bool r) ∧ Mem w [] [] w') := by
  rw [impl_ValidChoice] at h
  refine enter (args := [(.agg #[(.bool x0.fAway), (.int .i8 x0.fLate), (.int .i8 x0.fOctave), (.int .i8 x0.fTrack)])]) Tryz.func178 rfl Tryz.ntmps178 (by kernel_rfl) (L := []) (W := []) (Mem.start w) ?_
  refine jc_seq (jc_region (tO (qa 0 (fun b_1 => jkO (qh [0] (qe (jx_then (jc_seq (jc_seq (jc_region (qh [0,0] (qe (jx_then (qi h (fun h => ?_) (fun h => ?_)))))))))))))))
  ·refine jc_seq (jc_region (qh [0,0,0,0] (qe (jx_then (jc_ret (jx_thenr ?_))))))
   obtain rfl := Option.some.inj h
   exact qr [] (fun w hm => ⟨rfl, hm.pk []⟩)
  ·refine jc_skip (jx_then (jc_seq (jc_region (qh [0,0,0] ?_))))
   obtain ⟨t_1, ht_4, h⟩ := bd h
   refine tO (pc 0 (fun w hm => impl_within.calls (w64 x0.fLate) (-3) 3 w _ ht_4) ?_)
   rintro w v w' hm ⟨rfl, hm'⟩
   refine ⟨_, hm.app hm', jkO ?_⟩
   clear hm hm'
   refine qf [(0, 0), (0, 1), (0, 1), (0, 1)] (qp 12 h (fun h => ?_) (fun h => ?_))
   ·obtain ⟨t_2, ht_6, h⟩ := bd h
    refine tO (pc 2 (fun w hm => impl_within.calls (w64 x0.fOctave) (-1) 1 w _ ht_6) ?_)
    rintro w v w' hm ⟨rfl, hm'⟩
    refine ⟨_, hm.app hm', jkO ?_⟩
    clear hm hm'
    refine qf [(0, 4), (0, 0), (0, 1), (0, 1), (0, 1)] (qp 18 h (fun h => ?_) (fun h => ?_))
    ·obtain ⟨t_3, ht_8, h⟩ := bd h
     refine tO (pc 2 (fun w hm => impl_within.calls (w64 x0.fTrack) 0 23 w _ ht_8) ?_)
     rintro w v w' hm ⟨rfl, hm'⟩
     refine ⟨_, hm.app hm', jkO ?_⟩
     clear hm hm'
     refine qf [(0, 4), (0, 0)] (qe (jx_then (jc_ret ?_)))
     obtain rfl := Option.some.inj h
     exact qr [] (fun w hm => ⟨rfl, hm.pk []⟩)
    ·refine qf [(0, 3), (0, 5), (0, 0)] (qe (jx_then (jc_ret ?_)))
     obtain rfl := Option.some.inj h
     exact qr [] (fun w hm => ⟨rfl, hm.pk []⟩)
   ·refine qf [(0, 3), (0, 5), (0, 0), (0, 3), (0, 3), (0, 3), (0, 3), (0, 5), (0, 0)] (qe (jx_then (jc_ret ?_)))
    obtain rfl := Option.some.inj h
    exact qr [] (fun w hm => ⟨rfl, hm.pk []⟩)
/-! ### impl.choicesCode$1 -/
def impl_choicesCode_1 (x0 : GChoice) : Option (Bool) := (impl_ValidChoice x0).bind fun t_1 => some (!t_1)
theorem impl_choicesCode_1.calls (x0 : GChoice) (w : World) (r : Bool) (h : impl_choicesCode_1 x0 = some r) :
    Calls Tryz.prog 177 #[(.agg #[(.bool x0.fAway), (.int .i8 x0.fLate), (.int .i8 x0.fOctave), (.int .i8 x0.fTrack)])] w fun e w' => ∃ v, e = .returned v ∧ (v = (.bool r) ∧ Mem w [] [] w') := by
  rw [impl_choicesCode_1] at h
  refine enter (args := [(.agg #[(.bool x0.fAway), (.int .i8 x0.fLate), (.int .i8 x0.fOctave), (.int .i8 x0.fTrack)])]) Tryz.func177 rfl Tryz.ntmps177 (by kernel_rfl) (L := []) (W := []) (Mem.start w) ?_
  refine jc_seq (jc_region (tO (qa 0 (fun b_1 => jkO (qh [0] (qe (jx_then (jc_seq (jc_region (qh [0] ?_))))))))))
  obtain ⟨t_1, ht_2, h⟩ := bd h
  refine tO (pc 0 (fun w hm => impl_ValidChoice.calls x0 w _ ht_2) ?_)
  rintro w v w' hm ⟨rfl, hm'⟩
  refine ⟨_, hm.app hm', jkO ?_⟩
  clear hm hm'
  refine qh [0,0] (qe (jx_then (jc_ret ?_)))
  obtain rfl := Option.some.inj h
  exact qr [] (fun w hm => ⟨rfl, hm.pk []⟩)
/-! ### slices.IndexFunc[[]impl.Choice,impl.Choice] -/
def slices_IndexFunc_Choice_at_impl_choicesCode_1.k_1 : Option (Int) := some (-1)
def slices_IndexFunc_Choice_at_impl_choicesCode_1.l_3 (s0 : List GChoice) : Int → Option ((Int) ⊕ (Int ⊕ Unit))
  | i_2 => (if (decide (i_2 < (s0.length : Int))) = true then (ix s0 i_2).bind fun x_5 => (impl_choicesCode_1 x_5).bind fun t_6 => (if t_6 = true then some (.inr (.inl i_2)) else some (.inl (w64 (i_2 + 1)))) else some (.inr (.inr ())))
def slices_IndexFunc_Choice_at_impl_choicesCode_1 (s0 : List GChoice) : Option (Int) := (loop (slices_IndexFunc_Choice_at_impl_choicesCode_1.l_3 s0) 0).bind fun t_4 => match t_4 with | .inl p => some p | .inr p => slices_IndexFunc_Choice_at_impl_choicesCode_1.k_1
theorem slices_IndexFunc_Choice_at_impl_choicesCode_1.calls (s0 : List GChoice) (w : World) (r : Int) {A_a : Option Addr} {A_an : Nat} (A_c : Nat) (A_h : Rw w A_a 4 encGChoice s0) (A_hn : s0.length = A_an) (h : slices_IndexFunc_Choice_at_impl_choicesCode_1 s0 = some r) :
    Calls Tryz.prog 129 #[(.slice A_a A_an A_c), (.func (.func 177) #[] #[])] w fun e w' => ∃ v, e = .returned v ∧ (v = (.int .i64 r) ∧ Mem w [] [] w') := by
  subst A_hn
  rw [slices_IndexFunc_Choice_at_impl_choicesCode_1] at h
  refine enter (args := [(.slice A_a s0.length A_c), (.func (.func 177) #[] #[])]) Tryz.func129 rfl Tryz.ntmps129 (by kernel_rfl) (L := []) (W := []) (Mem.start w) ?_
  refine jc_seq (jc_region (qh [0] (qe (jx_then (jc_seq (jc_seq (jc_region (qh [0,0,0] (qe (jx_then (jc_meet (fun (_ : Unit) => slices_IndexFunc_Choice_at_impl_choicesCode_1.k_1 = some r) (fun (_ : Unit) => [(4, [], (.int .i64 0))]) (fun (_ : Unit) => []) ?_ ?_)))))))))))
  ·refine jc_block ?_
   obtain ⟨t_4, ht_40, hr_31⟩ := bd h
   refine jc_loop (fun (s : Int) (x : Unit) => match s, x with | i_2, _ => True) (fun (s : Int) (x : Unit) => match s, x with | i_2, _ => [(0, [], (.slice A_a s0.length A_c)), (1, [], (.func (.func 177) #[] #[])), (4, [], (.int .i64 0)), (7, [], (.int .i64 (s0.length : Int))), (8, [], (.int .i64 i_2))]) (fun (s : Int) (x : Unit) => match s, x with | i_2, _ => []) ht_40 () trivial (by kernel_rfl) [] (by kernel_rfl) (by kernel_rfl) ?_
   rintro i_2 _ y_32 _ h
   rw [slices_IndexFunc_Choice_at_impl_choicesCode_1.l_3] at h
   refine jc_seq (jc_region (qh [0] (qe (jx_then (jc_seq (qi h (fun h => ?_) (fun h => ?_)))))))
   ·refine jc_skip (jx_then (jc_seq (jc_block (jc_seq (jc_region (qh [0,0] (qe (jx_then (jc_seq (jc_region (qh [0,0,0] ?_)))))))))))
    obtain ⟨x_5, hx_35, h⟩ := bd h
    refine tO (qx 0 A_a 4 hx_35 rfl (A_h.sp hx_35) (jkO (tO (ql 0 true (fun w hm => ((hm.xr A_h).at hx_35)) (jkO ?_)))))
    obtain ⟨t_6, ht_36, h⟩ := bd h
    refine tO (pc 0 (fun w hm => impl_choicesCode_1.calls x_5 w _ ht_36) ?_)
    rintro w v w' hm ⟨rfl, hm'⟩
    refine ⟨_, hm.app hm', jkO ?_⟩
    clear hm hm'
    refine qe (jx_then (qi h (fun h => ?_) (fun h => ?_)))
    ·refine jc_seq (jc_region (qh [0,0] (qe (jx_then (jc_ret (jx_inr (jx_thenr (jx_leaver (.inl i_2) (Option.some.inj h).symm (fun e_38 => ?_)))))))))
     subst e_38
     refine jx_inr (jx_thenr (jx_thenr ?_))
     obtain rfl := Option.some.inj hr_31
     exact qr [] (fun w hm => ⟨rfl, hm.pk []⟩)
    ·exact jc_skip (jx_inn (jx_then (jc_region (qh [0,0] (qe (qb (w64 (i_2 + 1)) () h trivial []))))))
   ·refine jc_exit (jx_thenx (jx_leave (.inr ()) (Option.some.inj h).symm (fun e_39 => ?_)))
    subst e_39
    exact jx_ine (qm () hr_31 [])
  ·rintro _ h
   replace h : slices_IndexFunc_Choice_at_impl_choicesCode_1.k_1 = some r := h
   rw [slices_IndexFunc_Choice_at_impl_choicesCode_1.k_1] at h
   refine jx_then (jc_seq (jc_region (qh [0] (qe (jx_then (jc_ret ?_))))))
   obtain rfl := Option.some.inj h
   exact qr [] (fun w hm => ⟨rfl, hm.pk []⟩)
/-! ### slices.ContainsFunc[[]impl.Choice,impl.Choice] -/
def slices_ContainsFunc_Choice_at_impl_choicesCode_1 (s0 : List GChoice) : Option (Bool) := (slices_IndexFunc_Choice_at_impl_choicesCode_1 s0).bind fun t_1 => some (decide (t_1 ≥ 0))
theorem slices_ContainsFunc_Choice_at_impl_choicesCode_1.calls (s0 : List GChoice) (w : World) (r : Bool) {A_a : Option Addr} {A_an : Nat} (A_c : Nat) (A_h : Rw w A_a 4 encGChoice s0) (A_hn : s0.length = A_an) (h : slices_ContainsFunc_Choice_at_impl_choicesCode_1 s0 = some r) :
    Calls Tryz.prog 176 #[(.slice A_a A_an A_c), (.func (.func 177) #[] #[])] w fun e w' => ∃ v, e = .returned v ∧ (v = (.bool r) ∧ Mem w [] [] w') := by
  subst A_hn
  rw [slices_ContainsFunc_Choice_at_impl_choicesCode_1] at h
  refine enter (args := [(.slice A_a s0.length A_c), (.func (.func 177) #[] #[])]) Tryz.func176 rfl Tryz.ntmps176 (by kernel_rfl) (L := []) (W := []) (Mem.start w) ?_
  refine jc_seq (jc_region (qh [0] (qe (jx_then (jc_seq (jc_region (qh [0,0] ?_)))))))
  obtain ⟨t_1, ht_1, h⟩ := bd h
  refine tO (pc 0 (fun w hm => slices_IndexFunc_Choice_at_impl_choicesCode_1.calls s0 w _ A_c (hm.xr A_h) rfl ht_1) ?_)
  rintro w v w' hm ⟨rfl, hm'⟩
  refine ⟨_, hm.app hm', jkO ?_⟩
  clear hm hm'
  refine qh [0,0] (qe (jx_then (jc_ret ?_)))
  obtain rfl := Option.some.inj h
  exact qr [] (fun w hm => ⟨rfl, hm.pk []⟩)
/-! ### impl.choicesCode -/
def impl_choicesCode (list0 : List GChoice) : Option (Int) := (slices_ContainsFunc_Choice_at_impl_choicesCode_1 list0).bind fun t_1 => (impl_unless (!t_1) 1).bind fun t_2 => some t_2
theorem impl_choicesCode.calls (list0 : List GChoice) (w : World) (r : Int) {A_a : Option Addr} {A_an : Nat} (A_c : Nat) (A_h : Rw w A_a 4 encGChoice list0) (A_hn : list0.length = A_an) (h : impl_choicesCode list0 = some r) :
    Calls Tryz.prog 110 #[(.slice A_a A_an A_c)] w fun e w' => ∃ v, e = .returned v ∧ (v = (.int .i64 r) ∧ Mem w [] [] w') := by
  subst A_hn
  rw [impl_choicesCode] at h
  refine enter (args := [(.slice A_a list0.length A_c)]) Tryz.func110 rfl Tryz.ntmps110 (by kernel_rfl) (L := []) (W := []) (Mem.start w) ?_
  refine jc_seq (jc_region (qh [0] (qe (jx_then (jc_seq (jc_region (qh [0] ?_)))))))
  obtain ⟨t_1, ht_1, h⟩ := bd h
  refine tO (pc 0 (fun w hm => slices_ContainsFunc_Choice_at_impl_choicesCode_1.calls list0 w _ A_c (hm.xr A_h) rfl ht_1) ?_)
  rintro w v w' hm ⟨rfl, hm'⟩
  refine ⟨_, hm.app hm', jkO ?_⟩
  clear hm hm'
  refine qh [0] ?_
  obtain ⟨t_2, ht_2, h⟩ := bd h
  refine tO (pc 0 (fun w hm => impl_unless.calls (!t_1) 1 w _ ht_2) ?_)
  rintro w v w' hm ⟨rfl, hm'⟩
  refine ⟨_, hm.app hm', jkO ?_⟩
  clear hm hm'
  refine qh [0] (qe (jx_then (jc_ret ?_)))
  obtain rfl := Option.some.inj h
  exact qr [] (fun w hm => ⟨rfl, hm.pk []⟩)
/-! ### impl.firstOf -/
def impl_firstOf.k_1 : Option (Int) := some 0
def impl_firstOf.l_3 (codes0 : List Int) : Int → Option ((Int) ⊕ (Int ⊕ Unit))
  | i_2 => (if (decide (i_2 < (codes0.length : Int))) = true then (ix codes0 i_2).bind fun x_5 => (if (x_5 != 0) = true then some (.inr (.inl x_5)) else some (.inl (w64 (i_2 + 1)))) else some (.inr (.inr ())))
def impl_firstOf (codes0 : List Int) : Option (Int) := (loop (impl_firstOf.l_3 codes0) 0).bind fun t_4 => match t_4 with | .inl p => some p | .inr p => impl_firstOf.k_1
theorem impl_firstOf.calls (codes0 : List Int) (w : World) (r : Int) {A_a : Option Addr} {A_an : Nat} (A_c : Nat) (A_h : Rw w A_a 1 encI64 codes0) (A_hn : codes0.length = A_an) (h : impl_firstOf codes0 = some r) :
    Calls Tryz.prog 84 #[(.slice A_a A_an A_c)] w fun e w' => ∃ v, e = .returned v ∧ (v = (.int .i64 r) ∧ Mem w [] [] w') := by
  subst A_hn
  rw [impl_firstOf] at h
  refine enter (args := [(.slice A_a codes0.length A_c)]) Tryz.func84 rfl Tryz.ntmps84 (by kernel_rfl) (L := []) (W := []) (Mem.start w) ?_
  refine jc_seq (jc_region (qh [0] (qe (jx_then (jc_seq (jc_seq (jc_region (qh [0,0,0] (qe (jx_then (jc_meet (fun (_ : Unit) => impl_firstOf.k_1 = some r) (fun (_ : Unit) => [(2, [], (.int .i64 0))]) (fun (_ : Unit) => []) ?_ ?_)))))))))))
  ·refine jc_block ?_
   obtain ⟨t_4, ht_34, hr_26⟩ := bd h
   refine jc_loop (fun (s : Int) (x : Unit) => match s, x with | i_2, _ => True) (fun (s : Int) (x : Unit) => match s, x with | i_2, _ => [(2, [], (.int .i64 0)), (5, [], (.slice A_a codes0.length A_c)), (6, [], (.int .i64 (codes0.length : Int))), (7, [], (.int .i64 i_2))]) (fun (s : Int) (x : Unit) => match s, x with | i_2, _ => []) ht_34 () trivial (by kernel_rfl) [] (by kernel_rfl) (by kernel_rfl) ?_
   rintro i_2 _ y_27 _ h
   rw [impl_firstOf.l_3] at h
   refine jc_seq (jc_region (qh [0] (qe (jx_then (jc_seq (qi h (fun h => ?_) (fun h => ?_)))))))
   ·refine jc_skip (jx_then (jc_seq (jc_block (jc_seq (jc_region ?_)))))
    obtain ⟨x_5, hx_30, h⟩ := bd h
    refine tO (qx 0 A_a 1 hx_30 rfl (A_h.sp hx_30) (jkO (tO (ql 0 false (fun w hm => ((hm.xr A_h).at hx_30)) (jkO (qh [0] (qe (jx_then (jc_seq (jc_region (qh [0,0] (qe (jx_then (qi h (fun h => ?_) (fun h => ?_)))))))))))))))
    ·refine jc_seq (jc_region (qh [0,0] (qe (jx_then (jc_ret (jx_inr (jx_thenr (jx_leaver (.inl x_5) (Option.some.inj h).symm (fun e_32 => ?_)))))))))
     subst e_32
     refine jx_inr (jx_thenr (jx_thenr ?_))
     obtain rfl := Option.some.inj hr_26
     exact qr [] (fun w hm => ⟨rfl, hm.pk []⟩)
    ·exact jc_skip (jx_inn (jx_then (jc_region (qh [0,0] (qe (qb (w64 (i_2 + 1)) () h trivial []))))))
   ·refine jc_exit (jx_thenx (jx_leave (.inr ()) (Option.some.inj h).symm (fun e_33 => ?_)))
    subst e_33
    exact jx_ine (qm () hr_26 [])
  ·rintro _ h
   replace h : impl_firstOf.k_1 = some r := h
   rw [impl_firstOf.k_1] at h
   refine jx_then (jc_seq (jc_region (qh [0] (qe (jx_then (jc_ret ?_))))))
   obtain rfl := Option.some.inj h
   exact qr [] (fun w hm => ⟨rfl, hm.pk []⟩)
/-! ### impl.tuneFrameCode -/
def impl_tuneFrameCode (f0 : GFrame) (t1 : List GNote) (list2 : List GChoice) : Option (Int) := (impl_ValidFrame f0).bind fun t_1 => (impl_unless t_1 1).bind fun t_2 => (impl_tuneCode [t1]).bind fun t_3 => (impl_choicesCode list2).bind fun t_4 => (impl_firstOf ([t_2, t_3, t_4] : List Int)).bind fun t_5 => some t_5
theorem impl_tuneFrameCode.calls (f0 : GFrame) (t1 : List GNote) (list2 : List GChoice) (w : World) (r : Int) {C_a : Option Addr} {C_an : Nat} (C_c : Nat) (C_h : Rw w C_a 2 encGHammer f0.fHammers) (C_hn : f0.fHammers.length = C_an) {D_a : Option Addr} {D_an : Nat} (D_c : Nat) (D_h : Rw w D_a 2 encGNote t1) (D_hn : t1.length = D_an) {E_a : Option Addr} {E_an : Nat} (E_c : Nat) (E_h : Rw w E_a 4 encGChoice list2) (E_hn : list2.length = E_an) (h : impl_tuneFrameCode f0 t1 list2 = some r) :
    Calls Tryz.prog 128 #[(.agg #[(.int .i16 f0.fSteps), (.slice C_a C_an C_c)]), (.slice D_a D_an D_c), (.slice E_a E_an E_c)] w fun e w' => ∃ v, e = .returned v ∧ (v = (.int .i64 r) ∧ Mem w [] [] w') := by
  subst C_hn D_hn E_hn
  rw [impl_tuneFrameCode] at h
  refine enter (args := [(.agg #[(.int .i16 f0.fSteps), (.slice C_a f0.fHammers.length C_c)]), (.slice D_a t1.length D_c), (.slice E_a list2.length E_c)]) Tryz.func128 rfl Tryz.ntmps128 (by kernel_rfl) (L := []) (W := []) (Mem.start w) ?_
  refine jc_seq (jc_region (tO (qa 0 (fun b_1 => jkO (qh [0] (qe (jx_then (jc_seq (jc_region (qh [0] ?_))))))))))
  obtain ⟨t_1, ht_2, h⟩ := bd h
  refine tO (pc 0 (fun w hm => impl_ValidFrame.calls f0 w _ C_c (hm.xr C_h) rfl ht_2) ?_)
  rintro w v w' hm ⟨rfl, hm'⟩
  refine ⟨_, hm.app hm', jkO ?_⟩
  clear hm hm'
  obtain ⟨t_2, ht_3, h⟩ := bd h
  refine tO (pc 0 (fun w hm => impl_unless.calls t_1 1 w _ ht_3) ?_)
  rintro w v w' hm ⟨rfl, hm'⟩
  refine ⟨_, hm.app hm', jkO ?_⟩
  clear hm hm'
  refine qh [0] (tO (qa 0 (fun b_4 => jkO ?_)))
  obtain ⟨t_3, ht_5, h⟩ := bd h
  refine tO (pc 0 (fun w hm => impl_tuneCode.calls [t1] w _ 1 (hm.ow 1 (some b_4) 29 ([(Hd.mk D_a t1.length D_c)]) [] (fun e => nomatch e) encHd_len) rfl (Inn.cons (hm.xr D_h) rfl (fun _ => List.not_mem_nil) Inn.nil) ht_5) ?_)
  rintro w v w' hm ⟨rfl, hm'⟩
  refine ⟨_, hm.app hm', jkO ?_⟩
  clear hm hm'
  refine qh [0] ?_
  obtain ⟨t_4, ht_6, h⟩ := bd h
  refine tO (pc 0 (fun w hm => impl_choicesCode.calls list2 w _ E_c (hm.xr E_h) rfl ht_6) ?_)
  rintro w v w' hm ⟨rfl, hm'⟩
  refine ⟨_, hm.app hm', jkO ?_⟩
  clear hm hm'
  refine tO (qa 0 (fun b_7 => jkO ?_))
  obtain ⟨t_5, ht_8, h⟩ := bd h
  refine tO (pc 0 (fun w hm => impl_firstOf.calls ([t_2, t_3, t_4] : List Int) w _ 3 (hm.ow 2 (some b_7) 2 ([t_2, t_3, t_4] : List Int) [] (fun e => nomatch e) encI64_len) rfl ht_8) ?_)
  rintro w v w' hm ⟨rfl, hm'⟩
  refine ⟨_, hm.app hm', jkO ?_⟩
  clear hm hm'
  refine qh [0] (qe (jx_then (jc_ret ?_)))
  obtain rfl := Option.some.inj h
  exact qr [] (fun w hm => ⟨rfl, hm.pk []⟩)
/-! ### impl.ValidCosts -/
def impl_ValidCosts (c0 : GCosts) : Option (Bool) := (impl_within (w64 c0.fAway) 0 1000).bind fun t_1 => (if t_1 = true then (impl_within (w64 c0.fOctave) 0 1000).bind fun t_2 => (if t_2 = true then (impl_within (w64 c0.fStep) 0 1000).bind fun t_3 => some t_3 else some false) else some false)
theorem impl_ValidCosts.calls (c0 : GCosts) (w : World) (r : Bool) (h : impl_ValidCosts c0 = some r) :
    Calls Tryz.prog 34 #[(.agg #[(.int .i16 c0.fAway), (.int .i16 c0.fOctave), (.int .i16 c0.fStep)])] w fun e w' => ∃ v, e = .returned v ∧ (v = (.bool r) ∧ Mem w [] [] w') := by
  rw [impl_ValidCosts] at h
  refine enter (args := [(.agg #[(.int .i16 c0.fAway), (.int .i16 c0.fOctave), (.int .i16 c0.fStep)])]) Tryz.func34 rfl Tryz.ntmps34 (by kernel_rfl) (L := []) (W := []) (Mem.start w) ?_
  refine jc_seq (jc_region (tO (qa 0 (fun b_1 => jkO (qh [0] (qe (jx_then (jc_seq (jc_region (qh [0,0,0] ?_))))))))))
  obtain ⟨t_1, ht_2, h⟩ := bd h
  refine tO (pc 0 (fun w hm => impl_within.calls (w64 c0.fAway) 0 1000 w _ ht_2) ?_)
  rintro w v w' hm ⟨rfl, hm'⟩
  refine ⟨_, hm.app hm', jkO ?_⟩
  clear hm hm'
  refine qf [(0, 0), (0, 1), (0, 1), (0, 1)] (qp 7 h (fun h => ?_) (fun h => ?_))
  ·obtain ⟨t_2, ht_4, h⟩ := bd h
   refine tO (pc 2 (fun w hm => impl_within.calls (w64 c0.fOctave) 0 1000 w _ ht_4) ?_)
   rintro w v w' hm ⟨rfl, hm'⟩
   refine ⟨_, hm.app hm', jkO ?_⟩
   clear hm hm'
   refine qf [(0, 4), (0, 0), (0, 1), (0, 1), (0, 1)] (qp 13 h (fun h => ?_) (fun h => ?_))
   ·obtain ⟨t_3, ht_6, h⟩ := bd h
    refine tO (pc 2 (fun w hm => impl_within.calls (w64 c0.fStep) 0 1000 w _ ht_6) ?_)
    rintro w v w' hm ⟨rfl, hm'⟩
    refine ⟨_, hm.app hm', jkO ?_⟩
    clear hm hm'
    refine qf [(0, 4), (0, 0)] (qe (jx_then (jc_ret ?_)))
    obtain rfl := Option.some.inj h
    exact qr [] (fun w hm => ⟨rfl, hm.pk []⟩)
   ·refine qf [(0, 3), (0, 5), (0, 0)] (qe (jx_then (jc_ret ?_)))
    obtain rfl := Option.some.inj h
    exact qr [] (fun w hm => ⟨rfl, hm.pk []⟩)
  ·refine qf [(0, 3), (0, 5), (0, 0), (0, 3), (0, 3), (0, 3), (0, 3), (0, 5), (0, 0)] (qe (jx_then (jc_ret ?_)))
   obtain rfl := Option.some.inj h
   exact qr [] (fun w hm => ⟨rfl, hm.pk []⟩)
/-! ### impl.arrangeCode -/
def impl_arrangeCode (f0 : GFrame) (t1 : List GNote) (c2 : GCosts) : Option (Int) := (impl_tuneFrameCode f0 t1 []).bind fun t_1 => (impl_ValidCosts c2).bind fun t_2 => (impl_unless t_2 1).bind fun t_3 => (impl_firstOf ([t_1, t_3] : List Int)).bind fun t_4 => some t_4
theorem impl_arrangeCode.calls (f0 : GFrame) (t1 : List GNote) (c2 : GCosts) (w : World) (r : Int) {C_a : Option Addr} {C_an : Nat} (C_c : Nat) (C_h : Rw w C_a 2 encGHammer f0.fHammers) (C_hn : f0.fHammers.length = C_an) {D_a : Option Addr} {D_an : Nat} (D_c : Nat) (D_h : Rw w D_a 2 encGNote t1) (D_hn : t1.length = D_an) (h : impl_arrangeCode f0 t1 c2 = some r) :
    Calls Tryz.prog 59 #[(.agg #[(.int .i16 f0.fSteps), (.slice C_a C_an C_c)]), (.slice D_a D_an D_c), (.agg #[(.int .i16 c2.fAway), (.int .i16 c2.fOctave), (.int .i16 c2.fStep)])] w fun e w' => ∃ v, e = .returned v ∧ (v = (.int .i64 r) ∧ Mem w [] [] w') := by
  subst C_hn D_hn
  rw [impl_arrangeCode] at h
  refine enter (args := [(.agg #[(.int .i16 f0.fSteps), (.slice C_a f0.fHammers.length C_c)]), (.slice D_a t1.length D_c), (.agg #[(.int .i16 c2.fAway), (.int .i16 c2.fOctave), (.int .i16 c2.fStep)])]) Tryz.func59 rfl Tryz.ntmps59 (by kernel_rfl) (L := []) (W := []) (Mem.start w) ?_
  refine jc_seq (jc_region (tO (qa 0 (fun b_1 => jkO (tO (qa 0 (fun b_2 => jkO (qh [0] (qe (jx_then (jc_seq (qg [⟨some b_1, 27, [(.int .i16 f0.fSteps), (.slice C_a f0.fHammers.length C_c)]⟩, ⟨some b_2, 33, [(.int .i16 c2.fAway), (.int .i16 c2.fOctave), (.int .i16 c2.fStep)]⟩] 9 (qd [⟨0, 0, 0⟩,⟨1, 0, 0⟩,⟨3, 1, 0⟩] 6 [0, 1] ?_)))))))))))))
  obtain ⟨t_1, ht_3, h⟩ := bd h
  refine tD 2 (pc 0 (fun w hm => impl_tuneFrameCode.calls f0 t1 [] w _ C_c (hm.xr C_h) rfl D_c (hm.xr D_h) rfl 0 Rw.nil rfl ht_3) ?_)
  rintro w v w' hm ⟨rfl, hm'⟩
  refine ⟨_, hm.app hm', kD [0, 1] ?_⟩
  clear hm hm'
  obtain ⟨t_2, ht_4, h⟩ := bd h
  refine tD 4 (pc 0 (fun w hm => impl_ValidCosts.calls c2 w _ ht_4) ?_)
  rintro w v w' hm ⟨rfl, hm'⟩
  refine ⟨_, hm.app hm', kD [0, 1] ?_⟩
  clear hm hm'
  obtain ⟨t_3, ht_5, h⟩ := bd h
  refine tD 5 (pc 0 (fun w hm => impl_unless.calls t_2 1 w _ ht_5) ?_)
  rintro w v w' hm ⟨rfl, hm'⟩
  refine ⟨_, hm.app hm', kD [0, 1] ?_⟩
  clear hm hm'
  refine tD 6 (qa 0 (fun b_6 => kD [0, 1] ?_))
  obtain ⟨t_4, ht_7, h⟩ := bd h
  refine tD 7 (pc 0 (fun w hm => impl_firstOf.calls ([t_1, t_3] : List Int) w _ 2 (hm.ow 2 (some b_6) 2 ([t_1, t_3] : List Int) [] (fun e => nomatch e) encI64_len) rfl ht_7) ?_)
  rintro w v w' hm ⟨rfl, hm'⟩
  refine ⟨_, hm.app hm', kD [0, 1] ?_⟩
  clear hm hm'
  refine qd [⟨8, 0, 0⟩] 0 [0, 1] (qz (jx_then (jc_ret ?_)))
  obtain rfl := Option.some.inj h
  exact qr [] (fun w hm => ⟨rfl, hm.pk []⟩)
/-! ### impl.nearest -/
def impl_nearest.k_2 (xs_1 : List Int) : Option ((List Int)) := some xs_1
def impl_nearest.l_5 (most0 : Int) : ((List Int) × Int) → Option (((List Int) × Int) ⊕ ((List Int)))
  | (xs_3, i_4) => (if (decide (i_4 ≤ most0)) = true then (if xs_3.length + ([(w8 (0 - i_4)), i_4] : List Int).length ≤ 4294967296 then some (.inl ((xs_3 ++ ([(w8 (0 - i_4)), i_4] : List Int)), (w8 (i_4 + 1)))) else none) else some (.inr xs_3))
def impl_nearest (most0 : Int) : Option ((List Int)) := (loop (impl_nearest.l_5 most0) (([0] : List Int), 1)).bind fun t_6 => impl_nearest.k_2 t_6
theorem impl_nearest.calls (most0 : Int) (w : World) (r : (List Int)) (h : impl_nearest most0 = some r) :
    Calls Tryz.prog 130 #[(.int .i8 most0)] w fun e w' => ∃ v, e = .returned v ∧ (∃ (o0 : Option Nat) (c0 : Nat) (s0 : List Value) (n0 : Nat), r.length = n0 ∧ (o0 ≠ none → n0 ≤ c0 ∧ s0.length = (c0 - n0) * 1) ∧ (o0 = none → r = [] ∧ c0 = 0) ∧ v = .slice (o0.map fun b => ⟨b, 0, none⟩) n0 c0 ∧ Mem w [] [⟨o0, 99, row encI8 r s0⟩] w') := by
  rw [impl_nearest] at h
  refine enter (args := [(.int .i8 most0)]) Tryz.func130 rfl Tryz.ntmps130 (by kernel_rfl) (L := []) (W := []) (Mem.start w) ?_
  refine jc_seq (jc_region (qh [0] (qe (jx_then (jc_seq (jc_region (tO (qa 0 (fun b_1 => jkO (qh [0] (qe (jx_then (jc_seq (jc_seq (jc_region (qh [0] (qe (jx_then (jc_meet (fun (j : (List Int) × (Option Nat) × Nat × (List Value) × Nat) => match j with | ⟨xs_1, o_137, cap_138, sp_139, n_140⟩ => impl_nearest.k_2 xs_1 = some r ∧ (xs_1.length = n_140) ∧ ((o_137 ≠ none → n_140 ≤ cap_138 ∧ sp_139.length = (cap_138 - n_140) * 1)) ∧ ((o_137 = none → xs_1 = [] ∧ cap_138 = 0))) (fun (j : (List Int) × (Option Nat) × Nat × (List Value) × Nat) => match j with | ⟨xs_1, o_137, cap_138, sp_139, n_140⟩ => [(2, [], (.slice none 0 0)), (3, [], (.slice (o_137.map fun b => ⟨b, 0, none⟩) n_140 cap_138))]) (fun (j : (List Int) × (Option Nat) × Nat × (List Value) × Nat) => match j with | ⟨xs_1, o_137, cap_138, sp_139, n_140⟩ => [⟨o_137, 99, row encI8 xs_1 sp_139⟩]) ?_ ?_)))))))))))))))))))
  ·refine jc_block ?_
   obtain ⟨t_6, ht_185, hr_173⟩ := bd h
   refine jc_loop (fun (s : (List Int) × Int) (x : (Option Nat) × Nat × (List Value) × Nat) => match s, x with | ⟨xs_3, i_4⟩, ⟨o_167, cap_168, sp_169, n_170⟩ => (xs_3.length = n_170) ∧ ((o_167 ≠ none → n_170 ≤ cap_168 ∧ sp_169.length = (cap_168 - n_170) * 1)) ∧ ((o_167 = none → xs_3 = [] ∧ cap_168 = 0))) (fun (s : (List Int) × Int) (x : (Option Nat) × Nat × (List Value) × Nat) => match s, x with | ⟨xs_3, i_4⟩, ⟨o_167, cap_168, sp_169, n_170⟩ => [(0, [], (.int .i8 most0)), (2, [], (.slice none 0 0)), (3, [], (.slice (o_167.map fun b => ⟨b, 0, none⟩) n_170 cap_168)), (4, [], (.int .i8 i_4))]) (fun (s : (List Int) × Int) (x : (Option Nat) × Nat × (List Value) × Nat) => match s, x with | ⟨xs_3, i_4⟩, ⟨o_167, cap_168, sp_169, n_170⟩ => [⟨o_167, 99, row encI8 xs_3 sp_169⟩]) ht_185 ⟨(some b_1), 1, [], 1⟩ ⟨rfl, (fun _ => ⟨Nat.le_refl _, by simp⟩), (fun e => nomatch e)⟩ (by kernel_rfl) [0] (by kernel_rfl) (by kernel_rfl) ?_
   rintro ⟨xs_3, i_4⟩ ⟨o_167, cap_168, sp_169, n_170⟩ y_174 ⟨rfl, hs_171, ho_172⟩ h
   rw [impl_nearest.l_5] at h
   refine jc_seq (jc_seq (jc_region (qh [0,0,0] (qe (jx_then (qi h (fun h => ?_) (fun h => ?_)))))))
   ·refine jc_skip (jx_then (jc_seq (jc_block (jc_region (qh [0,0,0,0] (tO (qa 0 (fun b_177 => jkO ?_))))))))
    obtain ⟨hg_178, h⟩ := gd h
    exact tO (p_apn 0 0 o_167 99 xs_3.length 2 cap_168 1 1 (some ⟨b_177, 0, none⟩) encI8 xs_3 ([(w8 (0 - i_4)), i_4] : List Int) sp_169 (.int .i8 0) rfl rfl (by kernel_rfl) (by kernel_rfl) (by kernel_rfl) encI8_len encI8_cell hs_171 ho_172 (fun w hm => (hm.ow 1 (some b_177) 99 ([(w8 (0 - i_4)), i_4] : List Int) [] (fun e => nomatch e) encI8_len)) hg_178 (by kernel_rfl) (by kernel_rfl) (fun o_179 cap_180 sp_181 hs_182 ho_183 => jkO (qh [0] (qe (jx_inn (jx_then (jc_region (qh [0,0,0] (qe (qb ((xs_3 ++ ([(w8 (0 - i_4)), i_4] : List Int)), (w8 (i_4 + 1))) ⟨o_179, cap_180, sp_181, (xs_3 ++ ([(w8 (0 - i_4)), i_4] : List Int)).length⟩ h ⟨rfl, hs_182, ho_183⟩ [0]))))))))))
   ·refine jc_exit (jx_thenx (jx_leave xs_3 (Option.some.inj h).symm (fun e_184 => ?_)))
    subst e_184
    exact jx_ine (qm ⟨xs_3, o_167, cap_168, sp_169, xs_3.length⟩ ⟨hr_173, rfl, hs_171, ho_172⟩ [0])
  ·rintro ⟨xs_1, o_137, cap_138, sp_139, n_140⟩ ⟨h, rfl, hs_141, ho_142⟩
   replace h : impl_nearest.k_2 xs_1 = some r := h
   rw [impl_nearest.k_2] at h
   refine jx_then (jc_seq (jc_region (qh [0,0] (qe (jx_then (jc_ret ?_))))))
   obtain rfl := Option.some.inj h
   exact qr [] (fun w hm => ⟨o_137, cap_138, sp_139, xs_1.length, rfl, hs_141, ho_142, rfl, hm.pk [0]⟩)
/-! ### (impl.Frame).choices -/
def impl_Frame_choices.k_3 (xs_2 : List GChoice) : Option ((List GChoice)) := (if xs_2.length + ([(⟨true, 0, 0, 0⟩ : GChoice)] : List GChoice).length ≤ 4294967296 then some (xs_2 ++ ([(⟨true, 0, 0, 0⟩ : GChoice)] : List GChoice)) else none)
def impl_Frame_choices.k_11 (i_5 : Int) (xs_10 : List GChoice) : Option (((List GChoice) × Int) ⊕ ((List GChoice))) := some (.inl (xs_10, (w64 (i_5 + 1))))
def impl_Frame_choices.k_18 (i_13 : Int) (xs_17 : List GChoice) : Option (((List GChoice) × Int) ⊕ ((List GChoice))) := some (.inl (xs_17, (w64 (i_13 + 1))))
def impl_Frame_choices.l_21 (f0 : GFrame) (n1 : GNote) (x_8 : Int) (x_16 : Int) : ((List GChoice) × Int) → Option (((List GChoice) × Int) ⊕ ((List GChoice)))
  | (xs_19, i_20) => (if (decide (i_20 < (f0.fHammers.length : Int))) = true then (ix f0.fHammers i_20).bind fun x_23 => (impl_within (w64 ((w64 n1.fAt) + (w64 x_8))) 0 (w64 ((w64 f0.fSteps) - 1))).bind fun t_24 => (if (t_24 && ((w64 x_23.fPitch) == (w64 ((w64 n1.fPitch) + (w64 (12 * (w64 x_16))))))) = true then (if xs_19.length + ([(⟨false, x_8, x_16, (w8 i_20)⟩ : GChoice)] : List GChoice).length ≤ 4294967296 then some (.inl ((xs_19 ++ ([(⟨false, x_8, x_16, (w8 i_20)⟩ : GChoice)] : List GChoice)), (w64 (i_20 + 1)))) else none) else some (.inl (xs_19, (w64 (i_20 + 1))))) else some (.inr xs_19))
def impl_Frame_choices.l_14 (f0 : GFrame) (n1 : GNote) (x_8 : Int) (t_9 : (List Int)) : ((List GChoice) × Int) → Option (((List GChoice) × Int) ⊕ ((List GChoice)))
  | (xs_12, i_13) => (if (decide (i_13 < (t_9.length : Int))) = true then (ix t_9 i_13).bind fun x_16 => (loop (impl_Frame_choices.l_21 f0 n1 x_8 x_16) (xs_12, 0)).bind fun t_22 => impl_Frame_choices.k_18 i_13 t_22 else some (.inr xs_12))
def impl_Frame_choices.l_6 (f0 : GFrame) (n1 : GNote) (t_1 : (List Int)) : ((List GChoice) × Int) → Option (((List GChoice) × Int) ⊕ ((List GChoice)))
  | (xs_4, i_5) => (if (decide (i_5 < (t_1.length : Int))) = true then (ix t_1 i_5).bind fun x_8 => (impl_nearest 1).bind fun t_9 => (loop (impl_Frame_choices.l_14 f0 n1 x_8 t_9) (xs_4, 0)).bind fun t_15 => impl_Frame_choices.k_11 i_5 t_15 else some (.inr xs_4))
def impl_Frame_choices (f0 : GFrame) (n1 : GNote) : Option ((List GChoice)) := (impl_nearest 3).bind fun t_1 => (loop (impl_Frame_choices.l_6 f0 n1 t_1) (([] : List GChoice), 0)).bind fun t_7 => impl_Frame_choices.k_3 t_7
theorem impl_Frame_choices.calls (f0 : GFrame) (n1 : GNote) (w : World) (r : (List GChoice)) {C_a : Option Addr} {C_an : Nat} (C_c : Nat) (C_h : Rw w C_a 2 encGHammer f0.fHammers) (C_hn : f0.fHammers.length = C_an) (h : impl_Frame_choices f0 n1 = some r) :
    Calls Tryz.prog 61 #[(.agg #[(.int .i16 f0.fSteps), (.slice C_a C_an C_c)]), (.agg #[(.int .i16 n1.fAt), (.int .i8 n1.fPitch)])] w fun e w' => ∃ v, e = .returned v ∧ (∃ (o0 : Option Nat) (c0 : Nat) (s0 : List Value) (n0 : Nat), r.length = n0 ∧ (o0 ≠ none → n0 ≤ c0 ∧ s0.length = (c0 - n0) * 4) ∧ (o0 = none → r = [] ∧ c0 = 0) ∧ v = .slice (o0.map fun b => ⟨b, 0, none⟩) n0 c0 ∧ Mem w [] [⟨o0, 104, row encGChoice r s0⟩] w') := by
  subst C_hn
  rw [impl_Frame_choices] at h
  refine enter (args := [(.agg #[(.int .i16 f0.fSteps), (.slice C_a f0.fHammers.length C_c)]), (.agg #[(.int .i16 n1.fAt), (.int .i8 n1.fPitch)])]) Tryz.func61 rfl Tryz.ntmps61 (by kernel_rfl) (L := []) (W := []) (Mem.start w) ?_
  refine jc_seq (jc_region (tO (qa 0 (fun b_1 => jkO (tO (qa 0 (fun b_2 => jkO (qh [0] (qe (jx_then (jc_seq (jc_region (tO (qa 0 (fun b_3 => jkO (qh [0] (qe (jx_then (jc_seq (jc_seq (jc_region ?_)))))))))))))))))))))
  obtain ⟨t_1, ht_4830, h⟩ := bd h
  refine tO (pc 0 (fun w hm => impl_nearest.calls 3 w _ ht_4830) ?_)
  rintro w v w' hm ⟨o_4831, cap_4832, sp_4833, _, rfl, hs_4834, ho_4835, rfl, hm'⟩
  refine ⟨_, hm.app hm', jkO ?_⟩
  clear hm hm'
  refine qh [0,0] (qe (jx_then (jc_meet (fun (j : (List GChoice) × (Option Nat) × Nat × (List Value) × Nat) => match j with | ⟨xs_2, o_7243, cap_7244, sp_7245, n_7246⟩ => impl_Frame_choices.k_3 xs_2 = some r ∧ (xs_2.length = n_7246) ∧ ((o_7243 ≠ none → n_7246 ≤ cap_7244 ∧ sp_7245.length = (cap_7244 - n_7246) * 4)) ∧ ((o_7243 = none → xs_2 = [] ∧ cap_7244 = 0))) (fun (j : (List GChoice) × (Option Nat) × Nat × (List Value) × Nat) => match j with | ⟨xs_2, o_7243, cap_7244, sp_7245, n_7246⟩ => [(4, [], (.slice none 0 0)), (5, [], (.slice (o_7243.map fun b => ⟨b, 0, none⟩) n_7246 cap_7244))]) (fun (j : (List GChoice) × (Option Nat) × Nat × (List Value) × Nat) => match j with | ⟨xs_2, o_7243, cap_7244, sp_7245, n_7246⟩ => [⟨some b_1, 27, [(.int .i16 f0.fSteps), (.slice C_a f0.fHammers.length C_c)]⟩, ⟨some b_2, 101, [(.int .i16 n1.fAt), (.int .i8 n1.fPitch)]⟩, ⟨o_7243, 104, row encGChoice xs_2 sp_7245⟩, ⟨o_4831, 99, row encI8 t_1 sp_4833⟩]) ?_ ?_)))
  ·refine jc_block ?_
   obtain ⟨t_7, ht_9662, hr_8862⟩ := bd h
   refine jc_loop (fun (s : (List GChoice) × Int) (x : (Option Nat) × Nat × (List Value) × Nat) => match s, x with | ⟨xs_4, i_5⟩, ⟨o_8856, cap_8857, sp_8858, n_8859⟩ => (xs_4.length = n_8859) ∧ ((o_8856 ≠ none → n_8859 ≤ cap_8857 ∧ sp_8858.length = (cap_8857 - n_8859) * 4)) ∧ ((o_8856 = none → xs_4 = [] ∧ cap_8857 = 0))) (fun (s : (List GChoice) × Int) (x : (Option Nat) × Nat × (List Value) × Nat) => match s, x with | ⟨xs_4, i_5⟩, ⟨o_8856, cap_8857, sp_8858, n_8859⟩ => [(2, [], (.pointer (some ⟨b_1, 0, none⟩))), (3, [], (.pointer (some ⟨b_2, 0, none⟩))), (4, [], (.slice none 0 0)), (5, [], (.slice (o_8856.map fun b => ⟨b, 0, none⟩) n_8859 cap_8857)), (15, [], (.slice (o_4831.map fun b => ⟨b, 0, none⟩) t_1.length cap_4832)), (16, [], (.int .i64 (t_1.length : Int))), (17, [], (.int .i64 i_5))]) (fun (s : (List GChoice) × Int) (x : (Option Nat) × Nat × (List Value) × Nat) => match s, x with | ⟨xs_4, i_5⟩, ⟨o_8856, cap_8857, sp_8858, n_8859⟩ => [⟨some b_1, 27, [(.int .i16 f0.fSteps), (.slice C_a f0.fHammers.length C_c)]⟩, ⟨some b_2, 101, [(.int .i16 n1.fAt), (.int .i8 n1.fPitch)]⟩, ⟨o_8856, 104, row encGChoice xs_4 sp_8858⟩, ⟨o_4831, 99, row encI8 t_1 sp_4833⟩]) ht_9662 ⟨(some b_3), 0, [], 0⟩ ⟨rfl, (fun _ => ⟨Nat.le_refl _, by simp⟩), (fun e => nomatch e)⟩ (by kernel_rfl) [0, 1, 2, 3] (by kernel_rfl) (by kernel_rfl) ?_
   rintro ⟨xs_4, i_5⟩ ⟨o_8856, cap_8857, sp_8858, n_8859⟩ y_8863 ⟨rfl, hs_8860, ho_8861⟩ h
   rw [impl_Frame_choices.l_6] at h
   refine jc_seq (jc_region (qh [0] (qe (jx_then (jc_seq (qi h (fun h => ?_) (fun h => ?_)))))))
   ·refine jc_skip (jx_then (jc_seq (jc_block (jc_seq (jc_region ?_)))))
    obtain ⟨x_8, hx_8866, h⟩ := bd h
    refine tO (qx 0 (o_4831.map fun b => ⟨b, 0, none⟩) 1 hx_8866 rfl (spo ho_4835 hx_8866) (jkO (tO (ql 0 false (fun w hm => ((hm.ow 3 o_4831 99 t_1 sp_4833 (fun e => (ho_4835 e).1) encI8_len).at hx_8866)) (jkO (qh [0] (qe (jx_then (jc_seq (jc_region ?_))))))))))
    obtain ⟨t_9, ht_8867, h⟩ := bd h
    refine tO (pc 0 (fun w hm => impl_nearest.calls 1 w _ ht_8867) ?_)
    rintro w v w' hm ⟨o_8868, cap_8869, sp_8870, _, rfl, hs_8871, ho_8872, rfl, hm'⟩
    refine ⟨_, hm.app hm', jkO ?_⟩
    clear hm hm'
    refine qh [0,0] (qe (jx_then (jc_meet (fun (j : (List GChoice) × (Option Nat) × Nat × (List Value) × Nat) => match j with | ⟨xs_10, o_9264, cap_9265, sp_9266, n_9267⟩ => impl_Frame_choices.k_11 i_5 xs_10 = some y_8863 ∧ (xs_10.length = n_9267) ∧ ((o_9264 ≠ none → n_9267 ≤ cap_9265 ∧ sp_9266.length = (cap_9265 - n_9267) * 4)) ∧ ((o_9264 = none → xs_10 = [] ∧ cap_9265 = 0))) (fun (j : (List GChoice) × (Option Nat) × Nat × (List Value) × Nat) => match j with | ⟨xs_10, o_9264, cap_9265, sp_9266, n_9267⟩ => [(2, [], (.pointer (some ⟨b_1, 0, none⟩))), (3, [], (.pointer (some ⟨b_2, 0, none⟩))), (4, [], (.slice none 0 0)), (5, [], (.slice (o_9264.map fun b => ⟨b, 0, none⟩) n_9267 cap_9265)), (15, [], (.slice (o_4831.map fun b => ⟨b, 0, none⟩) t_1.length cap_4832)), (16, [], (.int .i64 (t_1.length : Int))), (17, [], (.int .i64 i_5))]) (fun (j : (List GChoice) × (Option Nat) × Nat × (List Value) × Nat) => match j with | ⟨xs_10, o_9264, cap_9265, sp_9266, n_9267⟩ => [⟨some b_1, 27, [(.int .i16 f0.fSteps), (.slice C_a f0.fHammers.length C_c)]⟩, ⟨some b_2, 101, [(.int .i16 n1.fAt), (.int .i8 n1.fPitch)]⟩, ⟨o_9264, 104, row encGChoice xs_10 sp_9266⟩, ⟨o_4831, 99, row encI8 t_1 sp_4833⟩, ⟨o_8868, 99, row encI8 t_9 sp_8870⟩]) ?_ ?_)))
    ·refine jc_block ?_
     obtain ⟨t_15, ht_9660, hr_9532⟩ := bd h
     refine jc_loop (fun (s : (List GChoice) × Int) (x : (Option Nat) × Nat × (List Value) × Nat) => match s, x with | ⟨xs_12, i_13⟩, ⟨o_9526, cap_9527, sp_9528, n_9529⟩ => (xs_12.length = n_9529) ∧ ((o_9526 ≠ none → n_9529 ≤ cap_9527 ∧ sp_9528.length = (cap_9527 - n_9529) * 4)) ∧ ((o_9526 = none → xs_12 = [] ∧ cap_9527 = 0))) (fun (s : (List GChoice) × Int) (x : (Option Nat) × Nat × (List Value) × Nat) => match s, x with | ⟨xs_12, i_13⟩, ⟨o_9526, cap_9527, sp_9528, n_9529⟩ => [(2, [], (.pointer (some ⟨b_1, 0, none⟩))), (3, [], (.pointer (some ⟨b_2, 0, none⟩))), (4, [], (.slice none 0 0)), (5, [], (.slice (o_9526.map fun b => ⟨b, 0, none⟩) n_9529 cap_9527)), (7, [], (.int .i8 x_8)), (15, [], (.slice (o_4831.map fun b => ⟨b, 0, none⟩) t_1.length cap_4832)), (16, [], (.int .i64 (t_1.length : Int))), (17, [], (.int .i64 i_5)), (21, [], (.slice (o_8868.map fun b => ⟨b, 0, none⟩) t_9.length cap_8869)), (22, [], (.int .i64 (t_9.length : Int))), (23, [], (.int .i64 i_13))]) (fun (s : (List GChoice) × Int) (x : (Option Nat) × Nat × (List Value) × Nat) => match s, x with | ⟨xs_12, i_13⟩, ⟨o_9526, cap_9527, sp_9528, n_9529⟩ => [⟨some b_1, 27, [(.int .i16 f0.fSteps), (.slice C_a f0.fHammers.length C_c)]⟩, ⟨some b_2, 101, [(.int .i16 n1.fAt), (.int .i8 n1.fPitch)]⟩, ⟨o_9526, 104, row encGChoice xs_12 sp_9528⟩, ⟨o_4831, 99, row encI8 t_1 sp_4833⟩, ⟨o_8868, 99, row encI8 t_9 sp_8870⟩]) ht_9660 ⟨o_8856, cap_8857, sp_8858, xs_4.length⟩ ⟨rfl, hs_8860, ho_8861⟩ (by kernel_rfl) [0, 1, 2, 3, 4] (by kernel_rfl) (by kernel_rfl) ?_
     rintro ⟨xs_12, i_13⟩ ⟨o_9526, cap_9527, sp_9528, n_9529⟩ y_9533 ⟨rfl, hs_9530, ho_9531⟩ h
     rw [impl_Frame_choices.l_14] at h
     refine jc_seq (jc_region (qh [0] (qe (jx_then (jc_seq (qi h (fun h => ?_) (fun h => ?_)))))))
     ·refine jc_skip (jx_then (jc_seq (jc_block (jc_seq (jc_region ?_)))))
      obtain ⟨x_16, hx_9536, h⟩ := bd h
      refine tO (qx 0 (o_8868.map fun b => ⟨b, 0, none⟩) 1 hx_9536 rfl (spo ho_8872 hx_9536) (jkO (tO (ql 0 false (fun w hm => ((hm.ow 4 o_8868 99 t_9 sp_8870 (fun e => (ho_8872 e).1) encI8_len).at hx_9536)) (jkO (qh [0] (qe (jx_then (jc_seq (jc_region (qh [0,0,0,0] (qe (jx_then (jc_meet (fun (j : (List GChoice) × (Option Nat) × Nat × (List Value) × Nat) => match j with | ⟨xs_17, o_9595, cap_9596, sp_9597, n_9598⟩ => impl_Frame_choices.k_18 i_13 xs_17 = some y_9533 ∧ (xs_17.length = n_9598) ∧ ((o_9595 ≠ none → n_9598 ≤ cap_9596 ∧ sp_9597.length = (cap_9596 - n_9598) * 4)) ∧ ((o_9595 = none → xs_17 = [] ∧ cap_9596 = 0))) (fun (j : (List GChoice) × (Option Nat) × Nat × (List Value) × Nat) => match j with | ⟨xs_17, o_9595, cap_9596, sp_9597, n_9598⟩ => [(2, [], (.pointer (some ⟨b_1, 0, none⟩))), (3, [], (.pointer (some ⟨b_2, 0, none⟩))), (4, [], (.slice none 0 0)), (5, [], (.slice (o_9595.map fun b => ⟨b, 0, none⟩) n_9598 cap_9596)), (7, [], (.int .i8 x_8)), (15, [], (.slice (o_4831.map fun b => ⟨b, 0, none⟩) t_1.length cap_4832)), (16, [], (.int .i64 (t_1.length : Int))), (17, [], (.int .i64 i_5)), (21, [], (.slice (o_8868.map fun b => ⟨b, 0, none⟩) t_9.length cap_8869)), (22, [], (.int .i64 (t_9.length : Int))), (23, [], (.int .i64 i_13))]) (fun (j : (List GChoice) × (Option Nat) × Nat × (List Value) × Nat) => match j with | ⟨xs_17, o_9595, cap_9596, sp_9597, n_9598⟩ => [⟨some b_1, 27, [(.int .i16 f0.fSteps), (.slice C_a f0.fHammers.length C_c)]⟩, ⟨some b_2, 101, [(.int .i16 n1.fAt), (.int .i8 n1.fPitch)]⟩, ⟨o_9595, 104, row encGChoice xs_17 sp_9597⟩, ⟨o_4831, 99, row encI8 t_1 sp_4833⟩, ⟨o_8868, 99, row encI8 t_9 sp_8870⟩]) ?_ ?_))))))))))))))
      ·refine jc_block ?_
       obtain ⟨t_22, ht_9658, hr_9641⟩ := bd h
       refine jc_loop (fun (s : (List GChoice) × Int) (x : (Option Nat) × Nat × (List Value) × Nat) => match s, x with | ⟨xs_19, i_20⟩, ⟨o_9635, cap_9636, sp_9637, n_9638⟩ => (xs_19.length = n_9638) ∧ ((o_9635 ≠ none → n_9638 ≤ cap_9636 ∧ sp_9637.length = (cap_9636 - n_9638) * 4)) ∧ ((o_9635 = none → xs_19 = [] ∧ cap_9636 = 0))) (fun (s : (List GChoice) × Int) (x : (Option Nat) × Nat × (List Value) × Nat) => match s, x with | ⟨xs_19, i_20⟩, ⟨o_9635, cap_9636, sp_9637, n_9638⟩ => [(2, [], (.pointer (some ⟨b_1, 0, none⟩))), (3, [], (.pointer (some ⟨b_2, 0, none⟩))), (4, [], (.slice none 0 0)), (5, [], (.slice (o_9635.map fun b => ⟨b, 0, none⟩) n_9638 cap_9636)), (7, [], (.int .i8 x_8)), (9, [], (.int .i8 x_16)), (15, [], (.slice (o_4831.map fun b => ⟨b, 0, none⟩) t_1.length cap_4832)), (16, [], (.int .i64 (t_1.length : Int))), (17, [], (.int .i64 i_5)), (21, [], (.slice (o_8868.map fun b => ⟨b, 0, none⟩) t_9.length cap_8869)), (22, [], (.int .i64 (t_9.length : Int))), (23, [], (.int .i64 i_13)), (28, [], (.slice C_a f0.fHammers.length C_c)), (29, [], (.int .i64 (f0.fHammers.length : Int))), (30, [], (.int .i64 i_20))]) (fun (s : (List GChoice) × Int) (x : (Option Nat) × Nat × (List Value) × Nat) => match s, x with | ⟨xs_19, i_20⟩, ⟨o_9635, cap_9636, sp_9637, n_9638⟩ => [⟨some b_1, 27, [(.int .i16 f0.fSteps), (.slice C_a f0.fHammers.length C_c)]⟩, ⟨some b_2, 101, [(.int .i16 n1.fAt), (.int .i8 n1.fPitch)]⟩, ⟨o_9635, 104, row encGChoice xs_19 sp_9637⟩, ⟨o_4831, 99, row encI8 t_1 sp_4833⟩, ⟨o_8868, 99, row encI8 t_9 sp_8870⟩]) ht_9658 ⟨o_9526, cap_9527, sp_9528, xs_12.length⟩ ⟨rfl, hs_9530, ho_9531⟩ (by kernel_rfl) [0, 1, 2, 3, 4] (by kernel_rfl) (by kernel_rfl) ?_
       rintro ⟨xs_19, i_20⟩ ⟨o_9635, cap_9636, sp_9637, n_9638⟩ y_9642 ⟨rfl, hs_9639, ho_9640⟩ h
       rw [impl_Frame_choices.l_21] at h
       refine jc_seq (jc_region (qh [0] (qe (jx_then (jc_seq (qi h (fun h => ?_) (fun h => ?_)))))))
       ·refine jc_skip (jx_then (jc_seq (jc_block (jc_seq (jc_region (qh [0] ?_))))))
        obtain ⟨x_23, hx_9645, h⟩ := bd h
        refine tO (qx 0 C_a 2 hx_9645 rfl (C_h.sp hx_9645) (jkO (tO (ql 0 true (fun w hm => ((hm.xr C_h).at hx_9645)) (jkO (tO (qa 0 (fun b_9646 => jkO (qh [0] (tO (qs 0 [5] (jkO (qe (jx_then (jc_seq (qg [⟨some b_1, 27, [(.int .i16 f0.fSteps), (.slice C_a f0.fHammers.length C_c)]⟩, ⟨some b_2, 101, [(.int .i16 n1.fAt), (.int .i8 n1.fPitch)]⟩, ⟨o_9635, 104, row encGChoice xs_19 sp_9637⟩, ⟨o_4831, 99, row encI8 t_1 sp_4833⟩, ⟨o_8868, 99, row encI8 t_9 sp_8870⟩, ⟨some b_9646, 132, [(.int .i8 x_23.fPitch), (.int .i8 x_23.fReady)]⟩] 15 (qd [⟨0, 0, 0⟩,⟨1, 1, 0⟩,⟨2, 0, 0⟩,⟨3, 0, 0⟩,⟨4, 0, 0⟩,⟨5, 0, 0⟩,⟨6, 0, 0⟩,⟨7, 1, 0⟩,⟨8, 0, 0⟩,⟨9, 0, 0⟩,⟨10, 0, 0⟩,⟨11, 0, 0⟩,⟨12, 0, 0⟩,⟨13, 0, 0⟩,⟨14, 0, 0⟩] 0 [0, 1, 2, 3, 4, 5] (qz (jx_then (jc_seq (jc_region (qh [0,0,0,0,0] ?_))))))))))))))))))))))
        obtain ⟨t_24, ht_9648, h⟩ := bd h
        refine tO (pc 0 (fun w hm => impl_within.calls (w64 ((w64 n1.fAt) + (w64 x_8))) 0 (w64 ((w64 f0.fSteps) - 1)) w _ ht_9648) ?_)
        rintro w v w' hm ⟨rfl, hm'⟩
        refine ⟨_, hm.app hm', jkO ?_⟩
        clear hm hm'
        refine qf [(0, 0), (0, 1), (5, 1), (0, 1), (0, 1), (0, 1), (0, 0)] (qe (jx_then (qi h (fun h => ?_) (fun h => ?_))))
        ·refine jc_region (qh [0,0,0,0,0,0] (tO (qa 0 (fun b_9650 => jkO ?_))))
         obtain ⟨hg_9651, h⟩ := gd h
         exact tO (p_apn 0 2 o_9635 104 xs_19.length 1 cap_9636 4 4 (some ⟨b_9650, 0, none⟩) encGChoice xs_19 ([(⟨false, x_8, x_16, (w8 i_20)⟩ : GChoice)] : List GChoice) sp_9637 (.agg #[(.bool false), (.int .i8 0), (.int .i8 0), (.int .i8 0)]) rfl rfl (by kernel_rfl) (by kernel_rfl) (by kernel_rfl) encGChoice_len encGChoice_cell hs_9639 ho_9640 (fun w hm => (hm.ow 6 (some b_9650) 104 ([(⟨false, x_8, x_16, (w8 i_20)⟩ : GChoice)] : List GChoice) [] (fun e => nomatch e) encGChoice_len)) hg_9651 (by kernel_rfl) (by kernel_rfl) (fun o_9652 cap_9653 sp_9654 hs_9655 ho_9656 => jkO (qh [0] (qe (jx_inn (jx_then (jc_region (qh [0,0] (qe (qb ((xs_19 ++ ([(⟨false, x_8, x_16, (w8 i_20)⟩ : GChoice)] : List GChoice)), (w64 (i_20 + 1))) ⟨o_9652, cap_9653, sp_9654, (xs_19 ++ ([(⟨false, x_8, x_16, (w8 i_20)⟩ : GChoice)] : List GChoice)).length⟩ h ⟨rfl, hs_9655, ho_9656⟩ [0, 1, 2, 3, 4]))))))))))
        ·exact jc_skip (jx_inn (jx_then (jc_region (qh [0,0] (qe (qb (xs_19, (w64 (i_20 + 1))) ⟨o_9635, cap_9636, sp_9637, xs_19.length⟩ h ⟨rfl, hs_9639, ho_9640⟩ [0, 1, 2, 3, 4]))))))
       ·refine jc_exit (jx_thenx (jx_leave xs_19 (Option.some.inj h).symm (fun e_9657 => ?_)))
        subst e_9657
        exact jx_ine (qm ⟨xs_19, o_9635, cap_9636, sp_9637, xs_19.length⟩ ⟨hr_9641, rfl, hs_9639, ho_9640⟩ [0, 1, 2, 3, 4])
      ·rintro ⟨xs_17, o_9595, cap_9596, sp_9597, n_9598⟩ ⟨h, rfl, hs_9599, ho_9600⟩
       replace h : impl_Frame_choices.k_18 i_13 xs_17 = some y_9533 := h
       rw [impl_Frame_choices.k_18] at h
       exact jx_inn (jx_then (jc_region (qh [0,0] (qe (qb (xs_17, (w64 (i_13 + 1))) ⟨o_9595, cap_9596, sp_9597, xs_17.length⟩ h ⟨rfl, hs_9599, ho_9600⟩ [0, 1, 2, 3, 4])))))
     ·refine jc_exit (jx_thenx (jx_leave xs_12 (Option.some.inj h).symm (fun e_9659 => ?_)))
      subst e_9659
      exact jx_ine (qm ⟨xs_12, o_9526, cap_9527, sp_9528, xs_12.length⟩ ⟨hr_9532, rfl, hs_9530, ho_9531⟩ [0, 1, 2, 3, 4])
    ·rintro ⟨xs_10, o_9264, cap_9265, sp_9266, n_9267⟩ ⟨h, rfl, hs_9268, ho_9269⟩
     replace h : impl_Frame_choices.k_11 i_5 xs_10 = some y_8863 := h
     rw [impl_Frame_choices.k_11] at h
     exact jx_inn (jx_then (jc_region (qh [0,0] (qe (qb (xs_10, (w64 (i_5 + 1))) ⟨o_9264, cap_9265, sp_9266, xs_10.length⟩ h ⟨rfl, hs_9268, ho_9269⟩ [0, 1, 2, 3])))))
   ·refine jc_exit (jx_thenx (jx_leave xs_4 (Option.some.inj h).symm (fun e_9661 => ?_)))
    subst e_9661
    exact jx_ine (qm ⟨xs_4, o_8856, cap_8857, sp_8858, xs_4.length⟩ ⟨hr_8862, rfl, hs_8860, ho_8861⟩ [0, 1, 2, 3])
  ·rintro ⟨xs_2, o_7243, cap_7244, sp_7245, n_7246⟩ ⟨h, rfl, hs_7247, ho_7248⟩
   replace h : impl_Frame_choices.k_3 xs_2 = some r := h
   rw [impl_Frame_choices.k_3] at h
   refine jx_then (jc_seq (jc_region (qh [0,0] (tO (qa 0 (fun b_7249 => jkO ?_))))))
   obtain ⟨hg_7250, h⟩ := gd h
   refine tO (p_apn 0 2 o_7243 104 xs_2.length 1 cap_7244 4 4 (some ⟨b_7249, 0, none⟩) encGChoice xs_2 ([(⟨true, 0, 0, 0⟩ : GChoice)] : List GChoice) sp_7245 (.agg #[(.bool false), (.int .i8 0), (.int .i8 0), (.int .i8 0)]) rfl rfl (by kernel_rfl) (by kernel_rfl) (by kernel_rfl) encGChoice_len encGChoice_cell hs_7247 ho_7248 (fun w hm => (hm.ow 4 (some b_7249) 104 ([(⟨true, 0, 0, 0⟩ : GChoice)] : List GChoice) [] (fun e => nomatch e) encGChoice_len)) hg_7250 (by kernel_rfl) (by kernel_rfl) (fun o_7251 cap_7252 sp_7253 hs_7254 ho_7255 => jkO (qh [0] (qe (jx_then (jc_ret ?_))))))
   obtain rfl := Option.some.inj h
   exact qr [] (fun w hm => ⟨o_7251, cap_7252, sp_7253, ((xs_2 ++ ([(⟨true, 0, 0, 0⟩ : GChoice)] : List GChoice)).length), rfl, hs_7254, ho_7255, rfl, hm.pk [2]⟩)
/-! ### impl.bit -/
def impl_bit (b0 : Bool) : Option (Int) := (if b0 = true then some 1 else some 0)
theorem impl_bit.calls (b0 : Bool) (w : World) (r : Int) (h : impl_bit b0 = some r) :
    Calls Tryz.prog 133 #[(.bool b0)] w fun e w' => ∃ v, e = .returned v ∧ (v = (.int .i64 r) ∧ Mem w [] [] w') := by
  rw [impl_bit] at h
  refine enter (args := [(.bool b0)]) Tryz.func133 rfl Tryz.ntmps133 (by kernel_rfl) (L := []) (W := []) (Mem.start w) ?_
  refine jc_seq (jc_region (qh [0] (qe (jx_then (jc_seq (jc_seq (jc_region (qh [0] (qe (jx_then (qi h (fun h => ?_) (fun h => ?_))))))))))))
  ·refine jc_seq (jc_region (qh [0] (qe (jx_then (jc_ret (jx_thenr ?_))))))
   obtain rfl := Option.some.inj h
   exact qr [] (fun w hm => ⟨rfl, hm.pk []⟩)
  ·refine jc_skip (jx_then (jc_seq (jc_region (qh [0] (qe (jx_then (jc_ret ?_)))))))
   obtain rfl := Option.some.inj h
   exact qr [] (fun w hm => ⟨rfl, hm.pk []⟩)
/-! ### (impl.Costs).of -/
def impl_Costs_of (c0 : GCosts) (x1 : GChoice) : Option (Int) := (if x1.fAway = true then some (w64 c0.fAway) else (impl_bit (x1.fOctave != 0)).bind fun t_1 => some (w64 ((w64 ((w64 c0.fStep) * (w64 (if (w8 (0 - x1.fLate)) > x1.fLate then (w8 (0 - x1.fLate)) else x1.fLate)))) + (w64 ((w64 c0.fOctave) * t_1)))))
theorem impl_Costs_of.calls (c0 : GCosts) (x1 : GChoice) (w : World) (r : Int) (h : impl_Costs_of c0 x1 = some r) :
    Calls Tryz.prog 67 #[(.agg #[(.int .i16 c0.fAway), (.int .i16 c0.fOctave), (.int .i16 c0.fStep)]), (.agg #[(.bool x1.fAway), (.int .i8 x1.fLate), (.int .i8 x1.fOctave), (.int .i8 x1.fTrack)])] w fun e w' => ∃ v, e = .returned v ∧ (v = (.int .i64 r) ∧ Mem w [] [] w') := by
  rw [impl_Costs_of] at h
  refine enter (args := [(.agg #[(.int .i16 c0.fAway), (.int .i16 c0.fOctave), (.int .i16 c0.fStep)]), (.agg #[(.bool x1.fAway), (.int .i8 x1.fLate), (.int .i8 x1.fOctave), (.int .i8 x1.fTrack)])]) Tryz.func67 rfl Tryz.ntmps67 (by kernel_rfl) (L := []) (W := []) (Mem.start w) ?_
  refine jc_seq (jc_region (tO (qa 0 (fun b_1 => jkO (tO (qa 0 (fun b_2 => jkO (qh [0] (qe (jx_then (jc_seq (jc_seq (jc_region (qh [0,1] (qe (jx_then (qi h (fun h => ?_) (fun h => ?_))))))))))))))))))
  ·refine jc_seq (jc_region (qh [0,0,0,0] (qe (jx_then (jc_ret (jx_thenr ?_))))))
   obtain rfl := Option.some.inj h
   exact qr [] (fun w hm => ⟨rfl, hm.pk []⟩)
  ·refine jc_skip (jx_then (jc_seq (jc_region (qh [0,1,0,1,0,0,0,0] (qe (jx_then (jc_seq (qg [⟨some b_1, 33, [(.int .i16 c0.fAway), (.int .i16 c0.fOctave), (.int .i16 c0.fStep)]⟩, ⟨some b_2, 104, [(.bool x1.fAway), (.int .i8 x1.fLate), (.int .i8 x1.fOctave), (.int .i8 x1.fTrack)]⟩] 15 (qd [⟨0, 0, 0⟩,⟨1, 0, 0⟩,⟨2, 0, 0⟩,⟨3, 0, 0⟩,⟨4, 0, 0⟩,⟨5, 0, 0⟩,⟨6, 0, 0⟩,⟨7, 0, 0⟩,⟨8, 0, 0⟩,⟨9, 1, 0⟩,⟨10, 0, 0⟩] 4 [0, 1] ?_)))))))))
   obtain ⟨t_1, ht_5, h⟩ := bd h
   refine tD 11 (pc 0 (fun w hm => impl_bit.calls (x1.fOctave != 0) w _ ht_5) ?_)
   rintro w v w' hm ⟨rfl, hm'⟩
   refine ⟨_, hm.app hm', kD [0, 1] ?_⟩
   clear hm hm'
   refine qd [⟨12, 0, 0⟩,⟨13, 0, 0⟩,⟨14, 0, 0⟩] 0 [0, 1] (qz (jx_then (jc_ret ?_)))
   obtain rfl := Option.some.inj h
   exact qr [] (fun w hm => ⟨rfl, hm.pk []⟩)
/-! ### impl.leastEach -/
def impl_leastEach.k_2 (xs_1 : List Int) : Option ((List Int)) := some xs_1
def impl_leastEach.k_10 (xs_3 : List Int) (i_4 : Int) (i_9 : Int) : Option (((List Int) × Int) ⊕ ((List Int))) := (if xs_3.length + ([i_9] : List Int).length ≤ 4294967296 then some (.inl ((xs_3 ++ ([i_9] : List Int)), (w64 (i_4 + 1)))) else none)
def impl_leastEach.l_13 (c2 : GCosts) (t_8 : (List GChoice)) : (Int × Int) → Option ((Int × Int) ⊕ (Int))
  | (i_11, i_12) => (if (decide (i_12 < (t_8.length : Int))) = true then (ix t_8 i_12).bind fun x_15 => (impl_Costs_of c2 x_15).bind fun t_16 => some (.inl ((if t_16 < i_11 then t_16 else i_11), (w64 (i_12 + 1)))) else some (.inr i_11))
def impl_leastEach.l_5 (f0 : GFrame) (t1 : List GNote) (c2 : GCosts) : ((List Int) × Int) → Option (((List Int) × Int) ⊕ ((List Int)))
  | (xs_3, i_4) => (if (decide (i_4 < (t1.length : Int))) = true then (ix t1 i_4).bind fun x_7 => (impl_Frame_choices f0 x_7).bind fun t_8 => (loop (impl_leastEach.l_13 c2 t_8) ((w64 c2.fAway), 0)).bind fun t_14 => impl_leastEach.k_10 xs_3 i_4 t_14 else some (.inr xs_3))
def impl_leastEach (f0 : GFrame) (t1 : List GNote) (c2 : GCosts) : Option ((List Int)) := (loop (impl_leastEach.l_5 f0 t1 c2) (([] : List Int), 0)).bind fun t_6 => impl_leastEach.k_2 t_6
theorem impl_leastEach.calls (f0 : GFrame) (t1 : List GNote) (c2 : GCosts) (w : World) (r : (List Int)) {C_a : Option Addr} {C_an : Nat} (C_c : Nat) (C_h : Rw w C_a 2 encGHammer f0.fHammers) (C_hn : f0.fHammers.length = C_an) {D_a : Option Addr} {D_an : Nat} (D_c : Nat) (D_h : Rw w D_a 2 encGNote t1) (D_hn : t1.length = D_an) (h : impl_leastEach f0 t1 c2 = some r) :
    Calls Tryz.prog 107 #[(.agg #[(.int .i16 f0.fSteps), (.slice C_a C_an C_c)]), (.slice D_a D_an D_c), (.agg #[(.int .i16 c2.fAway), (.int .i16 c2.fOctave), (.int .i16 c2.fStep)])] w fun e w' => ∃ v, e = .returned v ∧ (∃ (o0 : Option Nat) (c0 : Nat) (s0 : List Value) (n0 : Nat), r.length = n0 ∧ (o0 ≠ none → n0 ≤ c0 ∧ s0.length = (c0 - n0) * 1) ∧ (o0 = none → r = [] ∧ c0 = 0) ∧ v = .slice (o0.map fun b => ⟨b, 0, none⟩) n0 c0 ∧ Mem w [] [⟨o0, 2, row encI64 r s0⟩] w') := by
  subst C_hn D_hn
  rw [impl_leastEach] at h
  refine enter (args := [(.agg #[(.int .i16 f0.fSteps), (.slice C_a f0.fHammers.length C_c)]), (.slice D_a t1.length D_c), (.agg #[(.int .i16 c2.fAway), (.int .i16 c2.fOctave), (.int .i16 c2.fStep)])]) Tryz.func107 rfl Tryz.ntmps107 (by kernel_rfl) (L := []) (W := []) (Mem.start w) ?_
  refine jc_seq (jc_region (tO (qa 0 (fun b_1 => jkO (tO (qa 0 (fun b_2 => jkO (qh [0] (qe (jx_then (jc_seq (jc_region (tO (qa 0 (fun b_3 => jkO (qh [0] (qe (jx_then (jc_seq (jc_seq (jc_region (qh [0,0,0] (qe (jx_then (jc_meet (fun (j : (List Int) × (Option Nat) × Nat × (List Value) × Nat) => match j with | ⟨xs_1, o_949, cap_950, sp_951, n_952⟩ => impl_leastEach.k_2 xs_1 = some r ∧ (xs_1.length = n_952) ∧ ((o_949 ≠ none → n_952 ≤ cap_950 ∧ sp_951.length = (cap_950 - n_952) * 1)) ∧ ((o_949 = none → xs_1 = [] ∧ cap_950 = 0))) (fun (j : (List Int) × (Option Nat) × Nat × (List Value) × Nat) => match j with | ⟨xs_1, o_949, cap_950, sp_951, n_952⟩ => [(6, [], (.slice none 0 0)), (7, [], (.slice (o_949.map fun b => ⟨b, 0, none⟩) n_952 cap_950))]) (fun (j : (List Int) × (Option Nat) × Nat × (List Value) × Nat) => match j with | ⟨xs_1, o_949, cap_950, sp_951, n_952⟩ => [⟨some b_1, 27, [(.int .i16 f0.fSteps), (.slice C_a f0.fHammers.length C_c)]⟩, ⟨some b_2, 33, [(.int .i16 c2.fAway), (.int .i16 c2.fOctave), (.int .i16 c2.fStep)]⟩, ⟨o_949, 2, row encI64 xs_1 sp_951⟩]) ?_ ?_)))))))))))))))))))))))))
  ·refine jc_block ?_
   obtain ⟨t_6, ht_1267, hr_1165⟩ := bd h
   refine jc_loop (fun (s : (List Int) × Int) (x : (Option Nat) × Nat × (List Value) × Nat) => match s, x with | ⟨xs_3, i_4⟩, ⟨o_1159, cap_1160, sp_1161, n_1162⟩ => (xs_3.length = n_1162) ∧ ((o_1159 ≠ none → n_1162 ≤ cap_1160 ∧ sp_1161.length = (cap_1160 - n_1162) * 1)) ∧ ((o_1159 = none → xs_3 = [] ∧ cap_1160 = 0))) (fun (s : (List Int) × Int) (x : (Option Nat) × Nat × (List Value) × Nat) => match s, x with | ⟨xs_3, i_4⟩, ⟨o_1159, cap_1160, sp_1161, n_1162⟩ => [(3, [], (.pointer (some ⟨b_1, 0, none⟩))), (5, [], (.pointer (some ⟨b_2, 0, none⟩))), (6, [], (.slice none 0 0)), (7, [], (.slice (o_1159.map fun b => ⟨b, 0, none⟩) n_1162 cap_1160)), (14, [], (.slice D_a t1.length D_c)), (15, [], (.int .i64 (t1.length : Int))), (16, [], (.int .i64 i_4))]) (fun (s : (List Int) × Int) (x : (Option Nat) × Nat × (List Value) × Nat) => match s, x with | ⟨xs_3, i_4⟩, ⟨o_1159, cap_1160, sp_1161, n_1162⟩ => [⟨some b_1, 27, [(.int .i16 f0.fSteps), (.slice C_a f0.fHammers.length C_c)]⟩, ⟨some b_2, 33, [(.int .i16 c2.fAway), (.int .i16 c2.fOctave), (.int .i16 c2.fStep)]⟩, ⟨o_1159, 2, row encI64 xs_3 sp_1161⟩]) ht_1267 ⟨(some b_3), 0, [], 0⟩ ⟨rfl, (fun _ => ⟨Nat.le_refl _, by simp⟩), (fun e => nomatch e)⟩ (by kernel_rfl) [0, 1, 2] (by kernel_rfl) (by kernel_rfl) ?_
   rintro ⟨xs_3, i_4⟩ ⟨o_1159, cap_1160, sp_1161, n_1162⟩ y_1166 ⟨rfl, hs_1163, ho_1164⟩ h
   rw [impl_leastEach.l_5] at h
   refine jc_seq (jc_region (qh [0] (qe (jx_then (jc_seq (qi h (fun h => ?_) (fun h => ?_)))))))
   ·refine jc_skip (jx_then (jc_seq (jc_block (jc_seq (jc_region ?_)))))
    obtain ⟨x_7, hx_1169, h⟩ := bd h
    refine tO (qx 0 D_a 2 hx_1169 rfl (D_h.sp hx_1169) (jkO (tO (ql 0 true (fun w hm => ((hm.xr D_h).at hx_1169)) (jkO (tO (qa 0 (fun b_1170 => jkO (tO (qs 0 [3] (jkO (qe (jx_then (jc_seq (jc_region (qh [0,1,0,0] (qe (jx_then (jc_seq (jc_seq (jc_region (qh [0,3] ?_))))))))))))))))))))))
    obtain ⟨t_8, ht_1215, h⟩ := bd h
    refine tO (pc 0 (fun w hm => impl_Frame_choices.calls f0 x_7 w _ C_c (hm.xr C_h) rfl ht_1215) ?_)
    rintro w v w' hm ⟨o_1216, cap_1217, sp_1218, _, rfl, hs_1219, ho_1220, rfl, hm'⟩
    refine ⟨_, hm.app hm', jkO ?_⟩
    clear hm hm'
    refine qh [0,0] (qe (jx_then (jc_meet (fun (j : Int) => match j with | i_9 => impl_leastEach.k_10 xs_3 i_4 i_9 = some y_1166) (fun (j : Int) => match j with | i_9 => [(3, [], (.pointer (some ⟨b_1, 0, none⟩))), (5, [], (.pointer (some ⟨b_2, 0, none⟩))), (6, [], (.slice none 0 0)), (7, [], (.slice (o_1159.map fun b => ⟨b, 0, none⟩) xs_3.length cap_1160)), (10, [], (.int .i64 i_9)), (14, [], (.slice D_a t1.length D_c)), (15, [], (.int .i64 (t1.length : Int))), (16, [], (.int .i64 i_4))]) (fun (j : Int) => match j with | i_9 => [⟨some b_1, 27, [(.int .i16 f0.fSteps), (.slice C_a f0.fHammers.length C_c)]⟩, ⟨some b_2, 33, [(.int .i16 c2.fAway), (.int .i16 c2.fOctave), (.int .i16 c2.fStep)]⟩, ⟨o_1159, 2, row encI64 xs_3 sp_1161⟩, ⟨some b_1170, 101, [(.int .i16 x_7.fAt), (.int .i8 x_7.fPitch)]⟩, ⟨o_1216, 104, row encGChoice t_8 sp_1218⟩]) ?_ ?_)))
    ·refine jc_block ?_
     obtain ⟨t_14, ht_1265, hr_1257⟩ := bd h
     refine jc_loop (fun (s : Int × Int) (x : Unit) => match s, x with | ⟨i_11, i_12⟩, _ => True) (fun (s : Int × Int) (x : Unit) => match s, x with | ⟨i_11, i_12⟩, _ => [(3, [], (.pointer (some ⟨b_1, 0, none⟩))), (5, [], (.pointer (some ⟨b_2, 0, none⟩))), (6, [], (.slice none 0 0)), (7, [], (.slice (o_1159.map fun b => ⟨b, 0, none⟩) xs_3.length cap_1160)), (10, [], (.int .i64 i_11)), (14, [], (.slice D_a t1.length D_c)), (15, [], (.int .i64 (t1.length : Int))), (16, [], (.int .i64 i_4)), (25, [], (.slice (o_1216.map fun b => ⟨b, 0, none⟩) t_8.length cap_1217)), (26, [], (.int .i64 (t_8.length : Int))), (27, [], (.int .i64 i_12))]) (fun (s : Int × Int) (x : Unit) => match s, x with | ⟨i_11, i_12⟩, _ => [⟨some b_1, 27, [(.int .i16 f0.fSteps), (.slice C_a f0.fHammers.length C_c)]⟩, ⟨some b_2, 33, [(.int .i16 c2.fAway), (.int .i16 c2.fOctave), (.int .i16 c2.fStep)]⟩, ⟨o_1159, 2, row encI64 xs_3 sp_1161⟩, ⟨some b_1170, 101, [(.int .i16 x_7.fAt), (.int .i8 x_7.fPitch)]⟩, ⟨o_1216, 104, row encGChoice t_8 sp_1218⟩]) ht_1265 () trivial (by kernel_rfl) [0, 1, 2, 3, 4] (by kernel_rfl) (by kernel_rfl) ?_
     rintro ⟨i_11, i_12⟩ _ y_1258 _ h
     rw [impl_leastEach.l_13] at h
     refine jc_seq (jc_region (qh [0] (qe (jx_then (jc_seq (qi h (fun h => ?_) (fun h => ?_)))))))
     ·refine jc_skip (jx_then (jc_seq (jc_block (jc_seq (jc_region ?_)))))
      obtain ⟨x_15, hx_1261, h⟩ := bd h
      refine tO (qx 0 (o_1216.map fun b => ⟨b, 0, none⟩) 4 hx_1261 rfl (spo ho_1220 hx_1261) (jkO (tO (ql 0 true (fun w hm => ((hm.ow 4 o_1216 104 t_8 sp_1218 (fun e => (ho_1220 e).1) encGChoice_len).at hx_1261)) (jkO (tO (qa 0 (fun b_1262 => jkO (tO (qs 0 [5] (jkO (qe (jx_then (jc_region (qh [0,1,5] ?_)))))))))))))))
      obtain ⟨t_16, ht_1263, h⟩ := bd h
      refine tO (pc 0 (fun w hm => impl_Costs_of.calls c2 x_15 w _ ht_1263) ?_)
      rintro w v w' hm ⟨rfl, hm'⟩
      refine ⟨_, hm.app hm', jkO ?_⟩
      clear hm hm'
      exact qh [0,0] (qe (jx_inn (jx_then (jc_region (qh [0,0] (qe (qb ((if t_16 < i_11 then t_16 else i_11), (w64 (i_12 + 1))) () h trivial [0, 1, 2, 3, 4])))))))
     ·refine jc_exit (jx_thenx (jx_leave i_11 (Option.some.inj h).symm (fun e_1264 => ?_)))
      subst e_1264
      exact jx_ine (qm i_11 hr_1257 [0, 1, 2, 3, 4])
    ·rintro i_9 h
     replace h : impl_leastEach.k_10 xs_3 i_4 i_9 = some y_1166 := h
     rw [impl_leastEach.k_10] at h
     refine jx_then (jc_region (qh [0,0] (tO (qa 0 (fun b_1240 => jkO ?_)))))
     obtain ⟨hg_1241, h⟩ := gd h
     exact tO (p_apn 0 2 o_1159 2 xs_3.length 1 cap_1160 1 8 (some ⟨b_1240, 0, none⟩) encI64 xs_3 ([i_9] : List Int) sp_1161 (.int .i64 0) rfl rfl (by kernel_rfl) (by kernel_rfl) (by kernel_rfl) encI64_len encI64_cell hs_1163 ho_1164 (fun w hm => (hm.ow 5 (some b_1240) 2 ([i_9] : List Int) [] (fun e => nomatch e) encI64_len)) hg_1241 (by kernel_rfl) (by kernel_rfl) (fun o_1242 cap_1243 sp_1244 hs_1245 ho_1246 => jkO (qh [0] (qe (jx_inn (jx_then (jc_region (qh [0,0] (qe (qb ((xs_3 ++ ([i_9] : List Int)), (w64 (i_4 + 1))) ⟨o_1242, cap_1243, sp_1244, (xs_3 ++ ([i_9] : List Int)).length⟩ h ⟨rfl, hs_1245, ho_1246⟩ [0, 1, 2]))))))))))
   ·refine jc_exit (jx_thenx (jx_leave xs_3 (Option.some.inj h).symm (fun e_1266 => ?_)))
    subst e_1266
    exact jx_ine (qm ⟨xs_3, o_1159, cap_1160, sp_1161, xs_3.length⟩ ⟨hr_1165, rfl, hs_1163, ho_1164⟩ [0, 1, 2])
  ·rintro ⟨xs_1, o_949, cap_950, sp_951, n_952⟩ ⟨h, rfl, hs_953, ho_954⟩
   replace h : impl_leastEach.k_2 xs_1 = some r := h
   rw [impl_leastEach.k_2] at h
   refine jx_then (jc_seq (jc_region (qh [0,0] (qe (jx_then (jc_ret ?_))))))
   obtain rfl := Option.some.inj h
   exact qr [] (fun w hm => ⟨o_949, cap_950, sp_951, xs_1.length, rfl, hs_953, ho_954, rfl, hm.pk [2]⟩)
/-! ### slices.Backward -/
section
open Go.RowKit Go.Shelf
attribute [local go_sem] Oper.semAt_some
set_option maxHeartbeats 2000000 in
theorem back209.full (n : Nat) (l Bs b len cap : Nat) (zs : List Int) (hlen : zs.length = len) (hreach : len * 8 ≤ 140737488351232) (J : Nat → World → Prop) (Jx : World → Prop)
    (hJ : ∀ k W, J k W → W.cell? ⟨Bs, 0, none⟩ = some (.slice (some ⟨b, 0, none⟩) len cap) ∧ ∀ j : Nat, j < len → W.cell? ⟨b, j, none⟩ = some (.int .i64 (zs[j]?.getD 0)))
    (hY : ∀ k W, J k W → k < len → YieldAt Fence.wide (n - 1) Tryz.prog l #[.int .i64 ((len - 1 - k : Nat) : Int), .int .i64 (zs[len - 1 - k]?.getD 0)] W fun e W' =>
      (e = .returned (.bool true) ∧ J (k + 1) W') ∨ (e = .returned (.bool false) ∧ Jx W'))
    (W : World) (h0 : J 0 W) :
    CallsIn Fence.wide n Tryz.prog 209 #[.func (.yield l) #[] #[], .pointer (some ⟨Bs, 0, none⟩)] W fun e W' => (∃ v, e = .returned v) ∧ (J len W' ∨ Jx W') := by
  obtain ⟨hBs, _⟩ := hJ 0 W h0
  refine callsIn_of_wp Tryz.func209 rfl trivial ?_ rfl
  simp only [Tryz.ntmps209, List.size_toArray, List.length_cons, List.length_nil, Nat.reduceAdd, Nat.reduceSub, Array.replicate_succ, Array.replicate_zero, List.push_toArray, List.append_toArray, List.nil_append, List.cons_append]
  gi_wp2
  gi_loopw [3] (fun i wr => ∃ k : Nat, k ≤ len ∧ i = .int .i64 ((len : Int) - 1 - k) ∧ J k wr)
    (fun i _ => (intOf i + 1).toNat)
  case atStart => exact ⟨0, Nat.zero_le _, by simp, h0⟩
  case round =>
    obtain ⟨k, hk, rfl, hJs⟩ := hrel
    obtain ⟨hB, hc⟩ := hJ k wr hJs
    by_cases hlt : k < len
    · obtain ⟨fn, tmps, assign, body, hy, hR⟩ := hY k wr hJs hlt
      have hcx : wr.cell? ⟨b, len - 1 - k, none⟩ = some (.int .i64 (zs[len - 1 - k]?.getD 0)) := hc (len - 1 - k) (by omega)
      have e1 : ((len : Int) - 1 - k) = ((len - 1 - k : Nat) : Int) := by omega
      clear hc
      rw [e1]
      gi_wp2
      refine ⟨fun h => (by cases h), hR.mono ?_⟩
      rintro e W3 (⟨rfl, hJ3⟩ | ⟨rfl, hJx3⟩)
      · gi_wp2
        go_roundw
        case rel => exact ⟨k + 1, by omega, by simp; omega, hJ3⟩
        case measure => simp [intOf]
      · gi_wp2
        refine bodyPost_ret (results_none rfl _ _ _) rfl ?_
        exact ⟨⟨_, rfl⟩, .inr hJx3⟩
    · obtain rfl : k = len := by omega
      gi_wp2
      go_end0
      exact ⟨⟨_, rfl⟩, .inl hJs⟩
set_option maxHeartbeats 2000000 in
theorem back209.bare (n : Nat) (l Bs cap : Nat) (J : Nat → World → Prop) (Jx : World → Prop) (W : World)
    (hJ : W.cell? ⟨Bs, 0, none⟩ = some (.slice none 0 cap)) (h0 : J 0 W) :
    CallsIn Fence.wide n Tryz.prog 209 #[.func (.yield l) #[] #[], .pointer (some ⟨Bs, 0, none⟩)] W fun e W' => (∃ v, e = .returned v) ∧ (J 0 W' ∨ Jx W') := by
  refine callsIn_of_wp Tryz.func209 rfl trivial ?_ rfl
  simp only [Tryz.ntmps209, List.size_toArray, List.length_cons, List.length_nil, Nat.reduceAdd, Nat.reduceSub, Array.replicate_succ, Array.replicate_zero, List.push_toArray, List.append_toArray, List.nil_append, List.cons_append]
  gi_wp2
  gi_loopw [3] (fun i wr => i = .int .i64 (-1) ∧ J 0 wr) (fun _ _ => 0)
  case atStart => exact ⟨rfl, h0⟩
  case round =>
    obtain ⟨rfl, hJs⟩ := hrel
    gi_wp2
    go_end0
    exact ⟨⟨_, rfl⟩, .inl hJs⟩
theorem back209.iter (b0 : Nat) (o : Option Nat) (xs : List Int) (cap : Nat) (hl : xs.length ≤ 4294967296) (ho : o = none → xs = []) : IterC Tryz.prog 209 #[.pointer (some ⟨b0, 0, none⟩)] ((backL xs).map encIV) (fun _ => backH b0 o xs cap) (fun _ W W' => W' = W) := by
  intro n l J J' Jx W hH hSt hY h0
  have hlen : ((backL xs).map encIV).length = xs.length := by simp [backL]
  rw [hlen]
  cases o with
  | none =>
    have hx := ho rfl
    subst hx
    exact back209.bare n l b0 cap J Jx W (hH 0 W h0).1 h0
  | some b =>
    refine back209.full n l b0 b xs.length cap xs rfl (by omega) J Jx (fun k W hj => ⟨(hH k W hj).1, fun j hj2 => ?_⟩) (fun k W hj hk => ?_) W h0
    · obtain ⟨c, hc, h2⟩ := (hH k W hj).2 j xs[j] (List.getElem?_eq_getElem hj2)
      cases hc
      rw [h2, List.getElem?_eq_getElem hj2]; rfl
    · have := hY k W (by rw [hlen]; exact hk) (hSt k W W (by rw [hlen]; exact hk) hj rfl)
      simpa [backL, encIV] using this
set_option maxHeartbeats 2000000 in
theorem back209.calls (o : Option Nat) (n c : Nat) (w : World) :
    Calls Tryz.prog 160 #[.slice (o.map fun b => ⟨b, 0, none⟩) n c] w fun e w' => ∃ v, e = .returned v ∧ (∃ b : Nat, v = .func (.func 209) #[] #[.pointer (some ⟨b, 0, none⟩)] ∧ Mem w [] [⟨some b, 60, [.slice (o.map fun b => ⟨b, 0, none⟩) n c]⟩] w') := by
  generalize (o.map fun b => (⟨b, 0, none⟩ : Addr)) = a
  refine (callsIn_wide (n := 0)).1 (callsIn_of_wp Tryz.func160 rfl trivial ?_ rfl)
  simp only [Tryz.ntmps160, List.size_toArray, List.length_cons, List.length_nil, Nat.reduceAdd, Nat.reduceSub, Array.replicate_succ, Array.replicate_zero, List.push_toArray, List.append_toArray, List.nil_append, List.cons_append]
  gi_wp2
  go_ret
  exact ⟨_, rfl, _, rfl, mem_one w 60 [.slice a n c]⟩
end
/-! ### impl.bounds -/
def impl_bounds.l_3 (y_12 : Int × Int) : (List Int) → Option (((List Int)) ⊕ (Unit))
  | xs_2 => (ix xs_2 (w64 (y_12.1 + 1))).bind fun x_5 => (ix xs_2 y_12.1).bind fun x_6 => some (.inl (xs_2.set y_12.1.toNat (w64 (x_5 + y_12.2))))
def impl_bounds.k_7 (xs_2 : List Int) : Option ((List Int)) := some xs_2
def impl_bounds (f0 : GFrame) (t1 : List GNote) (c2 : GCosts) : Option ((List Int)) := (if 0 ≤ (w64 ((t1.length : Int) + 1)) ∧ (w64 ((t1.length : Int) + 1)) ≤ 17592186044416 then (impl_leastEach f0 t1 c2).bind fun t_1 => (if t_1.length ≤ 4294967296 then (seqO impl_bounds.l_3 (backL t_1) (List.replicate (w64 ((t1.length : Int) + 1)).toNat 0)).bind fun t_4 => match t_4 with | .inl p => impl_bounds.k_7 p | .inr _ => none else none) else none)
theorem impl_bounds.calls (f0 : GFrame) (t1 : List GNote) (c2 : GCosts) (w : World) (r : (List Int)) {C_a : Option Addr} {C_an : Nat} (C_c : Nat) (C_h : Rw w C_a 2 encGHammer f0.fHammers) (C_hn : f0.fHammers.length = C_an) {D_a : Option Addr} {D_an : Nat} (D_c : Nat) (D_h : Rw w D_a 2 encGNote t1) (D_hn : t1.length = D_an) (h : impl_bounds f0 t1 c2 = some r) :
    Calls Tryz.prog 87 #[(.agg #[(.int .i16 f0.fSteps), (.slice C_a C_an C_c)]), (.slice D_a D_an D_c), (.agg #[(.int .i16 c2.fAway), (.int .i16 c2.fOctave), (.int .i16 c2.fStep)])] w fun e w' => ∃ v, e = .returned v ∧ (∃ (o0 : Option Nat) (c0 : Nat) (s0 : List Value) (n0 : Nat), r.length = n0 ∧ (o0 ≠ none → n0 ≤ c0 ∧ s0.length = (c0 - n0) * 1) ∧ (o0 = none → r = [] ∧ c0 = 0) ∧ v = .slice (o0.map fun b => ⟨b, 0, none⟩) n0 c0 ∧ Mem w [] [⟨o0, 2, row encI64 r s0⟩] w') := by
  subst C_hn D_hn
  rw [impl_bounds] at h
  refine enterM (args := [(.agg #[(.int .i16 f0.fSteps), (.slice C_a f0.fHammers.length C_c)]), (.slice D_a t1.length D_c), (.agg #[(.int .i16 c2.fAway), (.int .i16 c2.fOctave), (.int .i16 c2.fStep)])]) Tryz.func87 rfl Tryz.ntmps87 (by kernel_rfl) (L := []) (W := []) (Mem.start w) ?_
  refine jc_seq (jc_region (tO (qa 0 (fun b_1 => jkO (tO (qa 0 (fun b_2 => jkO (qh [0] (qe (jx_then (jc_seq (jc_region (qh [0,0,0] ?_)))))))))))))
  obtain ⟨hg_32, h⟩ := gd h
  refine tO (p_mk 0 2 (w64 ((t1.length : Int) + 1)) 1 8 encI64 0 (by kernel_rfl) (by kernel_rfl) hg_32.1 (by omega) (by kernel_rfl) (fun b_3 => jkO (tO (qa 0 (fun b_4 => jkO (tO (qs 0 [3] (jkO (qe (jx_then (jc_seq (jc_seq (jc_region (qh [0,0,1] ?_))))))))))))))
  obtain ⟨t_1, ht_5, h⟩ := bd h
  refine tO (pc 0 (fun w hm => impl_leastEach.calls f0 t1 c2 w _ C_c (hm.xr C_h) rfl D_c (hm.xr D_h) rfl ht_5) ?_)
  rintro w v w' hm ⟨o_6, cap_7, sp_8, _, rfl, hs_9, ho_10, rfl, hm'⟩
  refine ⟨_, hm.app hm', jkO ?_⟩
  clear hm hm'
  refine tO (pc 0 (fun w hm => back209.calls o_6 t_1.length cap_7 w) ?_)
  rintro w v w' hm ⟨b_11, rfl, hm'⟩
  refine ⟨_, hm.app (N := [⟨some b_11, 60, [(.slice (o_6.map fun b => ⟨b, 0, none⟩) t_1.length cap_7)]⟩]) hm', jkO ?_⟩
  clear hm hm'
  refine qe (jx_then (jc_block ?_))
  obtain ⟨hl_31, h⟩ := ifS h
  obtain ⟨t_4, ht_30, hr_23⟩ := bd h
  refine jc_env [(6, [], (.slice none 0 0)), (7, [], (.pointer (some ⟨b_4, 0, none⟩))), (18, [], (.func (.func 209) #[] #[(.pointer (some ⟨b_11, 0, none⟩))]))] (by kernel_rfl) (jc_range encIV (fun (s : (List Int)) (x : Unit) => match s, x with | xs_2, _ => (xs_2.length = (w64 ((t1.length : Int) + 1)).toNat)) (fun (_ : Nat) (s : (List Int)) (x : Unit) => match s, x with | xs_2, _ => [⟨some b_1, 27, [(.int .i16 f0.fSteps), (.slice C_a f0.fHammers.length C_c)]⟩, ⟨some b_2, 33, [(.int .i16 c2.fAway), (.int .i16 c2.fOctave), (.int .i16 c2.fStep)]⟩, ⟨(some b_3), 2, row encI64 xs_2 []⟩, ⟨some b_4, 60, [(.slice (some ⟨b_3, 0, none⟩) ((w64 ((t1.length : Int) + 1)).toNat) ((w64 ((t1.length : Int) + 1)).toNat))]⟩, ⟨o_6, 2, row encI64 t_1 sp_8⟩, ⟨some b_11, 60, [(.slice (o_6.map fun b => ⟨b, 0, none⟩) t_1.length cap_7)]⟩]) (fun (y_12 : Int × Int) => [(6, [], (.slice none 0 0)), (7, [], (.pointer (some ⟨b_4, 0, none⟩))), (8, [], (.int .i64 y_12.1)), (9, [], (.int .i64 y_12.2)), (18, [], (.func (.func 209) #[] #[(.pointer (some ⟨b_11, 0, none⟩))])), (19, [], (.int .i64 y_12.1)), (20, [], (.int .i64 y_12.2))]) (fun _ => backH b_11 o_6 t_1 cap_7) (fun _ W W' => W' = W) ht_30 () List.length_replicate (by kernel_rfl) (enters_of Tryz.func209 (by kernel_rfl) rfl) (back209.iter b_11 o_6 t_1 cap_7 hl_31 (fun e => (ho_10 e).1)) (fun _ => rfl) (fun _ => by kernel_rfl) [0, 1, 2, 3, 4, 5] (by kernel_rfl) (by kernel_rfl) ?_ ?_ ?_ ?_ ?_)
  ·rintro _ xs_2 _ _ _ w b o _ hm hne
   exact back_H hm hne 5 4 rfl rfl rfl (fun _ => rfl) (fun e => (ho_10 e).1)
  ·intro _ _ _ _ _ _ _ _ _ _ _ _ hm ho _ _ hst
   exact back_St hm ho hst
  ·rintro w1_ W1_ y_12 _ xs_2 _ Q_ hno_ hq_
   exact jr_seq (jr_region (by kernel_rfl) (qh [0] (qe (jr_then (jr_region (by kernel_rfl) (qh [0] (qe (jx_to [(6, [], (.slice none 0 0)), (7, [], (.pointer (some ⟨b_4, 0, none⟩))), (8, [], (.int .i64 y_12.1)), (9, [], (.int .i64 y_12.2)), (18, [], (.func (.func 209) #[] #[(.pointer (some ⟨b_11, 0, none⟩))])), (19, [], (.int .i64 y_12.1)), (20, [], (.int .i64 y_12.2))] [0, 1, 2, 3, 4, 5] (by kernel_rfl) (by kernel_rfl) (by kernel_rfl) hq_))))))))
  ·rintro w1_ W1_ k_ xs_2 _ y_12 o_24 hK_ hn_22 _ h
   rw [impl_bounds.l_3] at h
   refine jr_block (jr_draw (by kernel_rfl) [⟨some b_1, 27, [(.int .i16 f0.fSteps), (.slice C_a f0.fHammers.length C_c)]⟩, ⟨some b_2, 33, [(.int .i16 c2.fAway), (.int .i16 c2.fOctave), (.int .i16 c2.fStep)]⟩, ⟨some b_4, 60, [(.slice (some ⟨b_3, 0, none⟩) ((w64 ((t1.length : Int) + 1)).toNat) ((w64 ((t1.length : Int) + 1)).toNat))]⟩, ⟨o_6, 2, row encI64 t_1 sp_8⟩, ⟨some b_11, 60, [(.slice (o_6.map fun b => ⟨b, 0, none⟩) t_1.length cap_7)]⟩] 11 (by kernel_rfl) (by kernel_rfl) (qd [⟨0, 2, 0⟩,⟨1, 0, 0⟩,⟨2, 2, 0⟩,⟨3, 0, 0⟩,⟨4, 0, 0⟩,⟨7, 0, 0⟩] 5 [0, 1, 3, 4, 5] ?_))
   obtain ⟨x_5, hx_27, h⟩ := bd h
   refine qv 5 0 [0, 1, 3, 4, 5] (fun w hm => idx_run (a := (some ⟨b_3, 0, none⟩)) (len := ((w64 ((t1.length : Int) + 1)).toNat)) (s := 1) (j := (w64 (y_12.1 + 1))) (by kernel_rfl) (ix_some hx_27).1 (ltn hx_27 hn_22) rfl) (tD 6 (ql 0 false (fun w hm => ((hm.ow 2 (some b_3) 2 xs_2 [] (fun e => nomatch e) encI64_len).at hx_27)) (kD [0, 1, 3, 4, 5] (qd [⟨8, 0, 0⟩] 2 [0, 1, 3, 4, 5] ?_))))
   obtain ⟨x_6, hx_28, h⟩ := bd h
   exact qv 9 0 [0, 1, 3, 4, 5] (fun w hm => idx_run (a := (some ⟨b_3, 0, none⟩)) (len := ((w64 ((t1.length : Int) + 1)).toNat)) (s := 1) (j := y_12.1) (by kernel_rfl) (ix_some hx_28).1 (ltn hx_28 hn_22) rfl) (tD 10 (p_str 0 2 b_3 2 encI64 xs_2 [] y_12.1 (w64 (x_5 + y_12.2)) 1 0 [(.int .i64 (w64 (x_5 + y_12.2)))] (by kernel_rfl) (by kernel_rfl) (by kernel_rfl) encI64_len hx_28 (by kernel_rfl) (by kernel_rfl) (kD [0, 1, 3, 4, 5] (qz (jx_inn (jr_back (xs_2.set y_12.1.toNat (w64 (x_5 + y_12.2))) () (Option.some.inj h).symm (List.length_set.trans hn_22) [0, 1, 2, 3, 4, 5] (by kernel_rfl) (by kernel_rfl)))))))
  ·rintro df_ w2_ W2_ htl_29 xs_2 _ hrs_ hn_22
   subst hrs_
   have h : impl_bounds.k_7 xs_2 = some r := hr_23
   rw [impl_bounds.k_7] at h
   refine jx_inn (jx_then (jc_seq (jc_region (qh [3,0] (qe (jx_then (jc_ret ?_)))))))
   obtain rfl := Option.some.inj h
   exact jx_retM htl_29 [] (.slice (some ⟨b_3, 0, none⟩) ((w64 ((t1.length : Int) + 1)).toNat) ((w64 ((t1.length : Int) + 1)).toNat)) [] rfl (by kernel_rfl) (by kernel_rfl) (fun w hm => ⟨(some b_3), ((w64 ((t1.length : Int) + 1)).toNat), [], ((w64 ((t1.length : Int) + 1)).toNat), hn_22, (fun _ => ⟨Nat.le_refl _, by simp⟩), (fun e => nomatch e), rfl, hm.pk [2]⟩)
/-! ### cmp.isNaN[int64] -/
def cmp_isNaN_int64 (x0 : Int) : Option (Bool) := some (x0 != x0)
theorem cmp_isNaN_int64.calls (x0 : Int) (w : World) (r : Bool) (h : cmp_isNaN_int64 x0 = some r) :
    Calls Tryz.prog 132 #[(.int .i64 x0)] w fun e w' => ∃ v, e = .returned v ∧ (v = (.bool r) ∧ Mem w [] [] w') := by
  rw [cmp_isNaN_int64] at h
  refine enter (args := [(.int .i64 x0)]) Tryz.func132 rfl Tryz.ntmps132 (by kernel_rfl) (L := []) (W := []) (Mem.start w) ?_
  refine jc_seq (jc_region (qh [0] (qe (jx_then (jc_seq (jc_region (qh [0,0,0,0] (qe (jx_then (jc_ret ?_))))))))))
  obtain rfl := Option.some.inj h
  exact qr [] (fun w hm => ⟨rfl, hm.pk []⟩)
/-! ### cmp.Compare[int64] -/
def cmp_Compare_int64 (x0 : Int) (y1 : Int) : Option (Int) := (cmp_isNaN_int64 x0).bind fun t_1 => (cmp_isNaN_int64 y1).bind fun t_2 => (if t_1 = true then (if t_2 = true then some 0 else some (-1)) else (if t_2 = true then some 1 else (if (decide (x0 < y1)) = true then some (-1) else (if (decide (x0 > y1)) = true then some 1 else some 0))))
theorem cmp_Compare_int64.calls (x0 : Int) (y1 : Int) (w : World) (r : Int) (h : cmp_Compare_int64 x0 y1 = some r) :
    Calls Tryz.prog 66 #[(.int .i64 x0), (.int .i64 y1)] w fun e w' => ∃ v, e = .returned v ∧ (v = (.int .i64 r) ∧ Mem w [] [] w') := by
  rw [cmp_Compare_int64] at h
  refine enter (args := [(.int .i64 x0), (.int .i64 y1)]) Tryz.func66 rfl Tryz.ntmps66 (by kernel_rfl) (L := []) (W := []) (Mem.start w) ?_
  refine jc_seq (jc_region (qh [0] (qe (jx_then (jc_seq (jc_region (qh [0] ?_)))))))
  obtain ⟨t_1, ht_1, h⟩ := bd h
  refine tO (pc 0 (fun w hm => cmp_isNaN_int64.calls x0 w _ ht_1) ?_)
  rintro w v w' hm ⟨rfl, hm'⟩
  refine ⟨_, hm.app hm', jkO ?_⟩
  clear hm hm'
  refine qh [0] (qe (jx_then (jc_seq (jc_region (qh [0] ?_)))))
  obtain ⟨t_2, ht_2, h⟩ := bd h
  refine tO (pc 0 (fun w hm => cmp_isNaN_int64.calls y1 w _ ht_2) ?_)
  rintro w v w' hm ⟨rfl, hm'⟩
  refine ⟨_, hm.app hm', jkO ?_⟩
  clear hm hm'
  refine qh [0] (qe (jx_then (jc_seq (jc_seq (jc_region (qh [0] (qe (jx_then (qi h (fun h => ?_) (fun h => ?_))))))))))
  ·refine jc_seq (jc_seq (jc_region (qh [0] (qe (jx_then (qi h (fun h => ?_) (fun h => ?_)))))))
   ·refine jc_seq (jc_region (qh [0] (qe (jx_then (jc_ret (jx_thenr (jx_thenr ?_)))))))
    obtain rfl := Option.some.inj h
    exact qr [] (fun w hm => ⟨rfl, hm.pk []⟩)
   ·refine jc_skip (jx_then (jc_seq (jc_region (qh [0] (qe (jx_then (jc_ret (jx_thenr ?_))))))))
    obtain rfl := Option.some.inj h
    exact qr [] (fun w hm => ⟨rfl, hm.pk []⟩)
  ·refine jc_skip (jx_then (jc_seq (jc_seq (jc_region (qh [0] (qe (jx_then (qi h (fun h => ?_) (fun h => ?_)))))))))
   ·refine jc_seq (jc_region (qh [0] (qe (jx_then (jc_ret (jx_thenr ?_))))))
    obtain rfl := Option.some.inj h
    exact qr [] (fun w hm => ⟨rfl, hm.pk []⟩)
   ·refine jc_skip (jx_then (jc_seq (jc_seq (jc_region (qh [0,0,0] (qe (jx_then (qi h (fun h => ?_) (fun h => ?_)))))))))
    ·refine jc_seq (jc_region (qh [0] (qe (jx_then (jc_ret (jx_thenr ?_))))))
     obtain rfl := Option.some.inj h
     exact qr [] (fun w hm => ⟨rfl, hm.pk []⟩)
    ·refine jc_skip (jx_then (jc_seq (jc_seq (jc_region (qh [0,0,0] (qe (jx_then (qi h (fun h => ?_) (fun h => ?_)))))))))
     ·refine jc_seq (jc_region (qh [0] (qe (jx_then (jc_ret (jx_thenr ?_))))))
      obtain rfl := Option.some.inj h
      exact qr [] (fun w hm => ⟨rfl, hm.pk []⟩)
     ·refine jc_skip (jx_then (jc_seq (jc_region (qh [0] (qe (jx_then (jc_ret ?_)))))))
      obtain rfl := Option.some.inj h
      exact qr [] (fun w hm => ⟨rfl, hm.pk []⟩)
/-! ### impl.Arrange$1 -/
def impl_Arrange_1 (x0 : GChoice) (y1 : GChoice) (p2 : GCosts) : Option (Int) := (impl_Costs_of p2 x0).bind fun t_1 => (impl_Costs_of p2 y1).bind fun t_2 => (cmp_Compare_int64 t_1 t_2).bind fun t_3 => some t_3
theorem impl_Arrange_1.calls (x0 : GChoice) (y1 : GChoice) (p2 : GCosts) (w : World) (r : Int) (K_b : Nat) (hm0 : Mem w (bs [some K_b]) [⟨some K_b, 33, [(.int .i16 p2.fAway), (.int .i16 p2.fOctave), (.int .i16 p2.fStep)]⟩] w) (h : impl_Arrange_1 x0 y1 p2 = some r) :
    Calls Tryz.prog 89 #[(.agg #[(.bool x0.fAway), (.int .i8 x0.fLate), (.int .i8 x0.fOctave), (.int .i8 x0.fTrack)]), (.agg #[(.bool y1.fAway), (.int .i8 y1.fLate), (.int .i8 y1.fOctave), (.int .i8 y1.fTrack)]), (.pointer (some ⟨K_b, 0, none⟩))] w fun e w' => ∃ v, e = .returned v ∧ (v = (.int .i64 r) ∧ Mem w (bs [some K_b]) [⟨some K_b, 33, [(.int .i16 p2.fAway), (.int .i16 p2.fOctave), (.int .i16 p2.fStep)]⟩] w') := by
  rw [impl_Arrange_1] at h
  refine enter (args := [(.agg #[(.bool x0.fAway), (.int .i8 x0.fLate), (.int .i8 x0.fOctave), (.int .i8 x0.fTrack)]), (.agg #[(.bool y1.fAway), (.int .i8 y1.fLate), (.int .i8 y1.fOctave), (.int .i8 y1.fTrack)]), (.pointer (some ⟨K_b, 0, none⟩))]) Tryz.func89 rfl Tryz.ntmps89 (by kernel_rfl) (L := [⟨some K_b, 33, [(.int .i16 p2.fAway), (.int .i16 p2.fOctave), (.int .i16 p2.fStep)]⟩]) (W := bs [some K_b]) hm0 ?_
  refine jc_seq (jc_region (tO (qa 0 (fun b_1 => jkO (tO (qa 0 (fun b_2 => jkO (qh [0] (qe (jx_then (jc_seq (qg [⟨some K_b, 33, [(.int .i16 p2.fAway), (.int .i16 p2.fOctave), (.int .i16 p2.fStep)]⟩, ⟨some b_1, 104, [(.bool x0.fAway), (.int .i8 x0.fLate), (.int .i8 x0.fOctave), (.int .i8 x0.fTrack)]⟩, ⟨some b_2, 104, [(.bool y1.fAway), (.int .i8 y1.fLate), (.int .i8 y1.fOctave), (.int .i8 y1.fTrack)]⟩] 8 (qd [⟨0, 0, 0⟩,⟨1, 1, 0⟩,⟨3, 0, 0⟩,⟨4, 2, 0⟩] 4 [0, 1, 2] ?_)))))))))))))
  obtain ⟨t_1, ht_3, h⟩ := bd h
  refine tD 2 (pc 0 (fun w hm => impl_Costs_of.calls p2 x0 w _ ht_3) ?_)
  rintro w v w' hm ⟨rfl, hm'⟩
  refine ⟨_, hm.app hm', kD [0, 1, 2] ?_⟩
  clear hm hm'
  obtain ⟨t_2, ht_4, h⟩ := bd h
  refine tD 5 (pc 0 (fun w hm => impl_Costs_of.calls p2 y1 w _ ht_4) ?_)
  rintro w v w' hm ⟨rfl, hm'⟩
  refine ⟨_, hm.app hm', kD [0, 1, 2] ?_⟩
  clear hm hm'
  obtain ⟨t_3, ht_5, h⟩ := bd h
  refine tD 6 (pc 0 (fun w hm => cmp_Compare_int64.calls t_1 t_2 w _ ht_5) ?_)
  rintro w v w' hm ⟨rfl, hm'⟩
  refine ⟨_, hm.app hm', kD [0, 1, 2] ?_⟩
  clear hm hm'
  refine qd [⟨7, 0, 0⟩] 0 [0, 1, 2] (qz (jx_then (jc_ret ?_)))
  obtain rfl := Option.some.inj h
  exact qr [] (fun w hm => ⟨rfl, hm.pk [0]⟩)
/-! ### slices.insertionSortCmpFunc[impl.Choice] -/
def slices_insertionSortCmpFunc_Choice_at_impl_Arrange_1.k_2 (xs_1 : List GChoice) : Option ((List GChoice)) := some xs_1
def slices_insertionSortCmpFunc_Choice_at_impl_Arrange_1.k_8 (i_4 : Int) (xs_7 : List GChoice) : Option (((List GChoice) × Int) ⊕ ((List GChoice))) := some (.inl (xs_7, (w64 (i_4 + 1))))
def slices_insertionSortCmpFunc_Choice_at_impl_Arrange_1.l_11 (a1 : Int) (g3c0 : GCosts) : ((List GChoice) × Int) → Option (((List GChoice) × Int) ⊕ ((List GChoice)))
  | (xs_9, i_10) => (if (decide (i_10 > a1)) = true then (ix xs_9 i_10).bind fun x_13 => (ix xs_9 (w64 (i_10 - 1))).bind fun x_14 => (impl_Arrange_1 x_13 x_14 g3c0).bind fun t_15 => (if (decide (t_15 < 0)) = true then (ix xs_9 (w64 (i_10 - 1))).bind fun x_16 => (ix xs_9 i_10).bind fun x_17 => (ix xs_9 i_10).bind fun x_18 => (ix (xs_9.set i_10.toNat x_16) (w64 (i_10 - 1))).bind fun x_19 => some (.inl (((xs_9.set i_10.toNat x_16).set (w64 (i_10 - 1)).toNat x_17), (w64 (i_10 - 1)))) else some (.inr xs_9)) else some (.inr xs_9))
def slices_insertionSortCmpFunc_Choice_at_impl_Arrange_1.l_5 (a1 : Int) (b2 : Int) (g3c0 : GCosts) : ((List GChoice) × Int) → Option (((List GChoice) × Int) ⊕ ((List GChoice)))
  | (xs_3, i_4) => (if (decide (i_4 < b2)) = true then (loop (slices_insertionSortCmpFunc_Choice_at_impl_Arrange_1.l_11 a1 g3c0) (xs_3, i_4)).bind fun t_12 => slices_insertionSortCmpFunc_Choice_at_impl_Arrange_1.k_8 i_4 t_12 else some (.inr xs_3))
def slices_insertionSortCmpFunc_Choice_at_impl_Arrange_1 (data0 : List GChoice) (a1 : Int) (b2 : Int) (g3c0 : GCosts) : Option ((List GChoice)) := (loop (slices_insertionSortCmpFunc_Choice_at_impl_Arrange_1.l_5 a1 b2 g3c0) (data0, (w64 (a1 + 1)))).bind fun t_6 => slices_insertionSortCmpFunc_Choice_at_impl_Arrange_1.k_2 t_6
theorem slices_insertionSortCmpFunc_Choice_at_impl_Arrange_1.calls (data0 : List GChoice) (a1 : Int) (b2 : Int) (g3c0 : GCosts) (w : World) (r : (List GChoice)) (A_o : Option Nat) {A_on : Nat} {A_c : Nat} {A_sp : List Value} (A_hn : data0.length = A_on) (A_hs : A_o ≠ none → A_on ≤ A_c ∧ A_sp.length = (A_c - A_on) * 4) (A_ho : A_o = none → data0 = [] ∧ A_c = 0) (D_b : Nat) (hm0 : Mem w (bs [A_o, some D_b]) [⟨A_o, 104, row encGChoice data0 A_sp⟩, ⟨some D_b, 33, [(.int .i16 g3c0.fAway), (.int .i16 g3c0.fOctave), (.int .i16 g3c0.fStep)]⟩] w) (h : slices_insertionSortCmpFunc_Choice_at_impl_Arrange_1 data0 a1 b2 g3c0 = some r) :
    Calls Tryz.prog 210 #[(.slice (A_o.map fun b => ⟨b, 0, none⟩) A_on A_c), (.int .i64 a1), (.int .i64 b2), (.func (.func 89) #[] #[(.pointer (some ⟨D_b, 0, none⟩))])] w fun e w' => ∃ v, e = .returned v ∧ (r.length = A_on ∧ (A_o = none → r = [] ∧ A_c = 0) ∧ v = .tuple #[] ∧ Mem w (bs [A_o, some D_b]) [⟨A_o, 104, row encGChoice r A_sp⟩, ⟨some D_b, 33, [(.int .i16 g3c0.fAway), (.int .i16 g3c0.fOctave), (.int .i16 g3c0.fStep)]⟩] w') := by
  subst A_hn
  rw [slices_insertionSortCmpFunc_Choice_at_impl_Arrange_1] at h
  refine enter (args := [(.slice (A_o.map fun b => ⟨b, 0, none⟩) data0.length A_c), (.int .i64 a1), (.int .i64 b2), (.func (.func 89) #[] #[(.pointer (some ⟨D_b, 0, none⟩))])]) Tryz.func210 rfl Tryz.ntmps210 (by kernel_rfl) (L := [⟨A_o, 104, row encGChoice data0 A_sp⟩, ⟨some D_b, 33, [(.int .i16 g3c0.fAway), (.int .i16 g3c0.fOctave), (.int .i16 g3c0.fStep)]⟩]) (W := bs [A_o, some D_b]) hm0 ?_
  refine jc_seq (jc_region (qh [0,0,0] (qe (jx_then (jc_meet (fun (j : (List GChoice)) => match j with | xs_1 => slices_insertionSortCmpFunc_Choice_at_impl_Arrange_1.k_2 xs_1 = some r ∧ (xs_1.length = data0.length) ∧ ((A_o = none → xs_1 = [] ∧ A_c = 0))) (fun (j : (List GChoice)) => match j with | xs_1 => []) (fun (j : (List GChoice)) => match j with | xs_1 => [⟨A_o, 104, row encGChoice xs_1 A_sp⟩, ⟨some D_b, 33, [(.int .i16 g3c0.fAway), (.int .i16 g3c0.fOctave), (.int .i16 g3c0.fStep)]⟩]) ?_ ?_)))))
  ·refine jc_block ?_
   obtain ⟨t_6, ht_906, hr_755⟩ := bd h
   refine jc_loop (fun (s : (List GChoice) × Int) (x : Unit) => match s, x with | ⟨xs_3, i_4⟩, _ => (xs_3.length = data0.length) ∧ ((A_o = none → xs_3 = [] ∧ A_c = 0))) (fun (s : (List GChoice) × Int) (x : Unit) => match s, x with | ⟨xs_3, i_4⟩, _ => [(0, [], (.slice (A_o.map fun b => ⟨b, 0, none⟩) data0.length A_c)), (1, [], (.int .i64 a1)), (2, [], (.int .i64 b2)), (3, [], (.func (.func 89) #[] #[(.pointer (some ⟨D_b, 0, none⟩))])), (8, [], (.int .i64 i_4))]) (fun (s : (List GChoice) × Int) (x : Unit) => match s, x with | ⟨xs_3, i_4⟩, _ => [⟨A_o, 104, row encGChoice xs_3 A_sp⟩, ⟨some D_b, 33, [(.int .i16 g3c0.fAway), (.int .i16 g3c0.fOctave), (.int .i16 g3c0.fStep)]⟩]) ht_906 () ⟨rfl, A_ho⟩ (by kernel_rfl) [0, 1] (by kernel_rfl) (by kernel_rfl) ?_
   rintro ⟨xs_3, i_4⟩ _ y_756 ⟨hn_754, ho_753⟩ h
   rw [slices_insertionSortCmpFunc_Choice_at_impl_Arrange_1.l_5] at h
   refine jc_seq (jc_seq (jc_region (qh [0,0,0] (qe (jx_then (qi h (fun h => ?_) (fun h => ?_)))))))
   ·refine jc_skip (jx_then (jc_seq (jc_block (jc_seq (jc_region (qh [0,0] (qe (jx_then (jc_meet (fun (j : (List GChoice)) => match j with | xs_7 => slices_insertionSortCmpFunc_Choice_at_impl_Arrange_1.k_8 i_4 xs_7 = some y_756 ∧ (xs_7.length = data0.length) ∧ ((A_o = none → xs_7 = [] ∧ A_c = 0))) (fun (j : (List GChoice)) => match j with | xs_7 => [(0, [], (.slice (A_o.map fun b => ⟨b, 0, none⟩) data0.length A_c)), (1, [], (.int .i64 a1)), (2, [], (.int .i64 b2)), (3, [], (.func (.func 89) #[] #[(.pointer (some ⟨D_b, 0, none⟩))])), (8, [], (.int .i64 i_4))]) (fun (j : (List GChoice)) => match j with | xs_7 => [⟨A_o, 104, row encGChoice xs_7 A_sp⟩, ⟨some D_b, 33, [(.int .i16 g3c0.fAway), (.int .i16 g3c0.fOctave), (.int .i16 g3c0.fStep)]⟩]) ?_ ?_)))))))))
    ·refine jc_block ?_
     obtain ⟨t_12, ht_904, hr_879⟩ := bd h
     refine jc_loop (fun (s : (List GChoice) × Int) (x : Unit) => match s, x with | ⟨xs_9, i_10⟩, _ => (xs_9.length = data0.length) ∧ ((A_o = none → xs_9 = [] ∧ A_c = 0))) (fun (s : (List GChoice) × Int) (x : Unit) => match s, x with | ⟨xs_9, i_10⟩, _ => [(0, [], (.slice (A_o.map fun b => ⟨b, 0, none⟩) data0.length A_c)), (1, [], (.int .i64 a1)), (2, [], (.int .i64 b2)), (3, [], (.func (.func 89) #[] #[(.pointer (some ⟨D_b, 0, none⟩))])), (8, [], (.int .i64 i_4)), (9, [], (.int .i64 i_10))]) (fun (s : (List GChoice) × Int) (x : Unit) => match s, x with | ⟨xs_9, i_10⟩, _ => [⟨A_o, 104, row encGChoice xs_9 A_sp⟩, ⟨some D_b, 33, [(.int .i16 g3c0.fAway), (.int .i16 g3c0.fOctave), (.int .i16 g3c0.fStep)]⟩]) ht_904 () ⟨hn_754, ho_753⟩ (by kernel_rfl) [0, 1] (by kernel_rfl) (by kernel_rfl) ?_
     rintro ⟨xs_9, i_10⟩ _ y_880 ⟨hn_878, ho_877⟩ h
     rw [slices_insertionSortCmpFunc_Choice_at_impl_Arrange_1.l_11] at h
     refine jc_seq (jc_seq (qg [⟨A_o, 104, row encGChoice xs_9 A_sp⟩, ⟨some D_b, 33, [(.int .i16 g3c0.fAway), (.int .i16 g3c0.fOctave), (.int .i16 g3c0.fStep)]⟩] 17 (qd [⟨0, 0, 0⟩,⟨1, 0, 0⟩,⟨2, 0, 0⟩,⟨3, 0, 0⟩,⟨4, 0, 1⟩,⟨5, 0, 1⟩,⟨6, 0, 1⟩,⟨9, 0, 1⟩,⟨10, 0, 1⟩,⟨11, 0, 1⟩] 7 [0, 1] (jd_split 21 (decide (i_10 > a1)) (by kernel_rfl) (fun hc_887 => ?_) (fun hc_887 => ?_)))))
     ·replace h := ifT hc_887 h
      obtain ⟨x_13, hx_888, h⟩ := bd h
      refine qv 7 2 [0, 1] (fun w hm => idx_run (a := (A_o.map fun b => ⟨b, 0, none⟩)) (len := data0.length) (s := 4) (j := i_10) (by kernel_rfl) (ix_some hx_888).1 (ltn hx_888 hn_878) (spo ho_877 hx_888)) (qv 8 2 [0, 1] (fun w hm => ld_run (b := aB (A_o.map fun b => ⟨b, 0, none⟩)) (off := (aO (A_o.map fun b => ⟨b, 0, none⟩) + i_10.toNat * 4)) (s := 4) (agg := true) (vs := (encGChoice x_13)) (by kernel_rfl) (by kernel_rfl) (.inl rfl) ((hm.ow 0 A_o 104 xs_9 A_sp (fun e => (ho_877 e).1) encGChoice_len).at hx_888)) ?_)
      obtain ⟨x_14, hx_889, h⟩ := bd h
      refine qv 12 2 [0, 1] (fun w hm => idx_run (a := (A_o.map fun b => ⟨b, 0, none⟩)) (len := data0.length) (s := 4) (j := (w64 (i_10 - 1))) (by kernel_rfl) (ix_some hx_889).1 (ltn hx_889 hn_878) (spo ho_877 hx_889)) (qv 13 2 [0, 1] (fun w hm => ld_run (b := aB (A_o.map fun b => ⟨b, 0, none⟩)) (off := (aO (A_o.map fun b => ⟨b, 0, none⟩) + (w64 (i_10 - 1)).toNat * 4)) (s := 4) (agg := true) (vs := (encGChoice x_14)) (by kernel_rfl) (by kernel_rfl) (.inl rfl) ((hm.ow 0 A_o 104 xs_9 A_sp (fun e => (ho_877 e).1) encGChoice_len).at hx_889)) ?_)
      obtain ⟨t_15, ht_890, h⟩ := bd h
      refine tD 14 (pc 2 (fun w hm => impl_Arrange_1.calls x_13 x_14 g3c0 w _ D_b (hm.pass (N := [⟨some D_b, 33, [(.int .i16 g3c0.fAway), (.int .i16 g3c0.fOctave), (.int .i16 g3c0.fStep)]⟩]) [1] (by kernel_rfl) (by kernel_rfl)) ht_890) ?_)
      rintro w v w' hm ⟨rfl, hm'⟩
      refine ⟨_, hm.appW (ps := [(1, ⟨some D_b, 33, [(.int .i16 g3c0.fAway), (.int .i16 g3c0.fOctave), (.int .i16 g3c0.fStep)]⟩)]) (N := []) hm' (by kernel_rfl) (by kernel_rfl), kD [0, 1] ?_⟩
      clear hm hm'
      refine qd [⟨15, 0, 2⟩,⟨16, 0, 4⟩] 0 [0, 1] (qz (jx_then (qi h (fun h => ?_) (fun h => ?_))))
      ·refine jc_skip (jx_then (jc_seq (jc_block (qg [⟨some D_b, 33, [(.int .i16 g3c0.fAway), (.int .i16 g3c0.fOctave), (.int .i16 g3c0.fStep)]⟩] 18 (qd [⟨0, 0, 0⟩,⟨1, 0, 0⟩,⟨2, 0, 0⟩,⟨3, 0, 0⟩,⟨4, 0, 0⟩,⟨5, 0, 0⟩,⟨6, 0, 0⟩,⟨7, 0, 0⟩,⟨10, 0, 0⟩,⟨11, 0, 0⟩] 8 [1] ?_)))))
       obtain ⟨x_16, hx_895, h⟩ := bd h
       refine qv 8 0 [1] (fun w hm => idx_run (a := (A_o.map fun b => ⟨b, 0, none⟩)) (len := data0.length) (s := 4) (j := (w64 (i_10 - 1))) (by kernel_rfl) (ix_some hx_895).1 (ltn hx_895 hn_878) (spo ho_877 hx_895)) ?_
       obtain ⟨x_17, hx_896, h⟩ := bd h
       refine qv 12 0 [1] (fun w hm => idx_run (a := (A_o.map fun b => ⟨b, 0, none⟩)) (len := data0.length) (s := 4) (j := i_10) (by kernel_rfl) (ix_some hx_896).1 (ltn hx_896 hn_878) (spo ho_877 hx_896)) (toD2 9 13 (by kernel_rfl) ?_ ?_)
       ·refine ql 0 true (fun w hm => ((hm.ow 0 A_o 104 xs_9 A_sp (fun e => (ho_877 e).1) encGChoice_len).at hx_895)) (kD [1] (tD 13 (ql 0 true (fun w hm => ((hm.ow 0 A_o 104 xs_9 A_sp (fun e => (ho_877 e).1) encGChoice_len).at hx_896)) (kD [1] ?_))))
        obtain ⟨x_18, hx_897, h⟩ := bd h
        refine qv 14 0 [1] (fun w hm => idx_run (a := (A_o.map fun b => ⟨b, 0, none⟩)) (len := data0.length) (s := 4) (j := i_10) (by kernel_rfl) (ix_some hx_897).1 (ltn hx_897 hn_878) (spo ho_877 hx_897)) (tD 15 (p_strO 0 0 A_o 104 encGChoice xs_9 A_sp i_10 x_16 4 0 [(.bool x_16.fAway), (.int .i8 x_16.fLate), (.int .i8 x_16.fOctave), (.int .i8 x_16.fTrack)] (by kernel_rfl) (by kernel_rfl) (by kernel_rfl) (fun e => (ho_877 e).1) encGChoice_len hx_897 (by kernel_rfl) (by kernel_rfl) (kD [1] ?_)))
        obtain ⟨x_19, hx_898, h⟩ := bd h
        exact qv 16 0 [1] (fun w hm => idx_run (a := (A_o.map fun b => ⟨b, 0, none⟩)) (len := data0.length) (s := 4) (j := (w64 (i_10 - 1))) (by kernel_rfl) (ix_some hx_898).1 (ltn hx_898 (List.length_set.trans hn_878)) (spo (set_ho ho_877) hx_898)) (tD 17 (p_strO 0 0 A_o 104 encGChoice (xs_9.set i_10.toNat x_16) A_sp (w64 (i_10 - 1)) x_17 4 0 [(.bool x_17.fAway), (.int .i8 x_17.fLate), (.int .i8 x_17.fOctave), (.int .i8 x_17.fTrack)] (by kernel_rfl) (by kernel_rfl) (by kernel_rfl) (fun e => ((set_ho ho_877) e).1) encGChoice_len hx_898 (by kernel_rfl) (by kernel_rfl) (kD [1] (qz (jx_inn (jx_then (jc_region (qh [0,0,0] (qe (qb (((xs_9.set i_10.toNat x_16).set (w64 (i_10 - 1)).toNat x_17), (w64 (i_10 - 1))) () h ⟨(List.length_set.trans (List.length_set.trans hn_878)), (set_ho (set_ho ho_877))⟩ [0, 1]))))))))))
       ·refine ql 0 true (fun w hm => ((hm.ow 0 A_o 104 xs_9 A_sp (fun e => (ho_877 e).1) encGChoice_len).at hx_896)) (kD [1] (tD 9 (ql 0 true (fun w hm => ((hm.ow 0 A_o 104 xs_9 A_sp (fun e => (ho_877 e).1) encGChoice_len).at hx_895)) (kD [1] ?_))))
        obtain ⟨x_18, hx_899, h⟩ := bd h
        refine qv 14 0 [1] (fun w hm => idx_run (a := (A_o.map fun b => ⟨b, 0, none⟩)) (len := data0.length) (s := 4) (j := i_10) (by kernel_rfl) (ix_some hx_899).1 (ltn hx_899 hn_878) (spo ho_877 hx_899)) (tD 15 (p_strO 0 0 A_o 104 encGChoice xs_9 A_sp i_10 x_16 4 0 [(.bool x_16.fAway), (.int .i8 x_16.fLate), (.int .i8 x_16.fOctave), (.int .i8 x_16.fTrack)] (by kernel_rfl) (by kernel_rfl) (by kernel_rfl) (fun e => (ho_877 e).1) encGChoice_len hx_899 (by kernel_rfl) (by kernel_rfl) (kD [1] ?_)))
        obtain ⟨x_19, hx_900, h⟩ := bd h
        exact qv 16 0 [1] (fun w hm => idx_run (a := (A_o.map fun b => ⟨b, 0, none⟩)) (len := data0.length) (s := 4) (j := (w64 (i_10 - 1))) (by kernel_rfl) (ix_some hx_900).1 (ltn hx_900 (List.length_set.trans hn_878)) (spo (set_ho ho_877) hx_900)) (tD 17 (p_strO 0 0 A_o 104 encGChoice (xs_9.set i_10.toNat x_16) A_sp (w64 (i_10 - 1)) x_17 4 0 [(.bool x_17.fAway), (.int .i8 x_17.fLate), (.int .i8 x_17.fOctave), (.int .i8 x_17.fTrack)] (by kernel_rfl) (by kernel_rfl) (by kernel_rfl) (fun e => ((set_ho ho_877) e).1) encGChoice_len hx_900 (by kernel_rfl) (by kernel_rfl) (kD [1] (qz (jx_inn (jx_then (jc_region (qh [0,0,0] (qe (qb (((xs_9.set i_10.toNat x_16).set (w64 (i_10 - 1)).toNat x_17), (w64 (i_10 - 1))) () h ⟨(List.length_set.trans (List.length_set.trans hn_878)), (set_ho (set_ho ho_877))⟩ [0, 1]))))))))))
      ·refine jc_exit (jx_thenx (jx_leave xs_9 (Option.some.inj h).symm (fun e_901 => ?_)))
       subst e_901
       exact jx_ine (qm xs_9 ⟨hr_879, hn_878, ho_877⟩ [0, 1])
     ·replace h := ifF hc_887 h
      refine qd [⟨7, 0, 3⟩,⟨8, 0, 3⟩,⟨12, 0, 3⟩,⟨13, 0, 3⟩,⟨14, 0, 3⟩,⟨15, 0, 3⟩,⟨16, 0, 5⟩] 0 [0, 1] (qz (jx_then (jc_cond false (by kernel_rfl) (fun hc_902 => nomatch hc_902) (fun hc_902 => (jc_exit (jx_thenx (jx_leave xs_9 (Option.some.inj h).symm (fun e_903 => ?_))))))))
      subst e_903
      exact jx_ine (qm xs_9 ⟨hr_879, hn_878, ho_877⟩ [0, 1])
    ·rintro xs_7 ⟨h, hn_832, ho_831⟩
     replace h : slices_insertionSortCmpFunc_Choice_at_impl_Arrange_1.k_8 i_4 xs_7 = some y_756 := h
     rw [slices_insertionSortCmpFunc_Choice_at_impl_Arrange_1.k_8] at h
     exact jx_inn (jx_then (jc_region (qh [0,0,0] (qe (qb (xs_7, (w64 (i_4 + 1))) () h ⟨hn_832, ho_831⟩ [0, 1])))))
   ·refine jc_exit (jx_thenx (jx_leave xs_3 (Option.some.inj h).symm (fun e_905 => ?_)))
    subst e_905
    exact jx_ine (qm xs_3 ⟨hr_755, hn_754, ho_753⟩ [0, 1])
  ·rintro xs_1 ⟨h, hn_454, ho_453⟩
   replace h : slices_insertionSortCmpFunc_Choice_at_impl_Arrange_1.k_2 xs_1 = some r := h
   rw [slices_insertionSortCmpFunc_Choice_at_impl_Arrange_1.k_2] at h
   refine jx_fall ?_
   obtain rfl := Option.some.inj h
   exact qr [] (fun w hm => ⟨hn_454, ho_453, rfl, hm.pk [0, 1]⟩)
/-! ### slices.swapRangeCmpFunc[impl.Choice] -/
def slices_swapRangeCmpFunc_Choice_at_impl_Arrange_1.k_2 (xs_1 : List GChoice) : Option ((List GChoice)) := some xs_1
def slices_swapRangeCmpFunc_Choice_at_impl_Arrange_1.l_5 (a1 : Int) (b2 : Int) (n3 : Int) : ((List GChoice) × Int) → Option (((List GChoice) × Int) ⊕ ((List GChoice)))
  | (xs_3, i_4) => (if (decide (i_4 < n3)) = true then (ix xs_3 (w64 (b2 + i_4))).bind fun x_7 => (ix xs_3 (w64 (a1 + i_4))).bind fun x_8 => (ix xs_3 (w64 (a1 + i_4))).bind fun x_9 => (ix (xs_3.set (w64 (a1 + i_4)).toNat x_7) (w64 (b2 + i_4))).bind fun x_10 => some (.inl (((xs_3.set (w64 (a1 + i_4)).toNat x_7).set (w64 (b2 + i_4)).toNat x_8), (w64 (i_4 + 1)))) else some (.inr xs_3))
def slices_swapRangeCmpFunc_Choice_at_impl_Arrange_1 (data0 : List GChoice) (a1 : Int) (b2 : Int) (n3 : Int) (g4c0 : GCosts) : Option ((List GChoice)) := (loop (slices_swapRangeCmpFunc_Choice_at_impl_Arrange_1.l_5 a1 b2 n3) (data0, 0)).bind fun t_6 => slices_swapRangeCmpFunc_Choice_at_impl_Arrange_1.k_2 t_6
theorem slices_swapRangeCmpFunc_Choice_at_impl_Arrange_1.calls (data0 : List GChoice) (a1 : Int) (b2 : Int) (n3 : Int) (g4c0 : GCosts) (w : World) (r : (List GChoice)) (A_o : Option Nat) {A_on : Nat} {A_c : Nat} {A_sp : List Value} (A_hn : data0.length = A_on) (A_hs : A_o ≠ none → A_on ≤ A_c ∧ A_sp.length = (A_c - A_on) * 4) (A_ho : A_o = none → data0 = [] ∧ A_c = 0) (E_b : Nat) (hm0 : Mem w (bs [A_o, some E_b]) [⟨A_o, 104, row encGChoice data0 A_sp⟩, ⟨some E_b, 33, [(.int .i16 g4c0.fAway), (.int .i16 g4c0.fOctave), (.int .i16 g4c0.fStep)]⟩] w) (h : slices_swapRangeCmpFunc_Choice_at_impl_Arrange_1 data0 a1 b2 n3 g4c0 = some r) :
    Calls Tryz.prog 247 #[(.slice (A_o.map fun b => ⟨b, 0, none⟩) A_on A_c), (.int .i64 a1), (.int .i64 b2), (.int .i64 n3), (.func (.func 89) #[] #[(.pointer (some ⟨E_b, 0, none⟩))])] w fun e w' => ∃ v, e = .returned v ∧ (r.length = A_on ∧ (A_o = none → r = [] ∧ A_c = 0) ∧ v = .tuple #[] ∧ Mem w (bs [A_o, some E_b]) [⟨A_o, 104, row encGChoice r A_sp⟩, ⟨some E_b, 33, [(.int .i16 g4c0.fAway), (.int .i16 g4c0.fOctave), (.int .i16 g4c0.fStep)]⟩] w') := by
  subst A_hn
  rw [slices_swapRangeCmpFunc_Choice_at_impl_Arrange_1] at h
  refine enter (args := [(.slice (A_o.map fun b => ⟨b, 0, none⟩) data0.length A_c), (.int .i64 a1), (.int .i64 b2), (.int .i64 n3), (.func (.func 89) #[] #[(.pointer (some ⟨E_b, 0, none⟩))])]) Tryz.func247 rfl Tryz.ntmps247 (by kernel_rfl) (L := [⟨A_o, 104, row encGChoice data0 A_sp⟩, ⟨some E_b, 33, [(.int .i16 g4c0.fAway), (.int .i16 g4c0.fOctave), (.int .i16 g4c0.fStep)]⟩]) (W := bs [A_o, some E_b]) hm0 ?_
  refine jc_seq (jc_region (qh [0] (qe (jx_then (jc_meet (fun (j : (List GChoice)) => match j with | xs_1 => slices_swapRangeCmpFunc_Choice_at_impl_Arrange_1.k_2 xs_1 = some r ∧ (xs_1.length = data0.length) ∧ ((A_o = none → xs_1 = [] ∧ A_c = 0))) (fun (j : (List GChoice)) => match j with | xs_1 => []) (fun (j : (List GChoice)) => match j with | xs_1 => [⟨A_o, 104, row encGChoice xs_1 A_sp⟩, ⟨some E_b, 33, [(.int .i16 g4c0.fAway), (.int .i16 g4c0.fOctave), (.int .i16 g4c0.fStep)]⟩]) ?_ ?_)))))
  ·refine jc_block ?_
   obtain ⟨t_6, ht_84, hr_70⟩ := bd h
   refine jc_loop (fun (s : (List GChoice) × Int) (x : Unit) => match s, x with | ⟨xs_3, i_4⟩, _ => (xs_3.length = data0.length) ∧ ((A_o = none → xs_3 = [] ∧ A_c = 0))) (fun (s : (List GChoice) × Int) (x : Unit) => match s, x with | ⟨xs_3, i_4⟩, _ => [(0, [], (.slice (A_o.map fun b => ⟨b, 0, none⟩) data0.length A_c)), (1, [], (.int .i64 a1)), (2, [], (.int .i64 b2)), (3, [], (.int .i64 n3)), (10, [], (.int .i64 i_4))]) (fun (s : (List GChoice) × Int) (x : Unit) => match s, x with | ⟨xs_3, i_4⟩, _ => [⟨A_o, 104, row encGChoice xs_3 A_sp⟩, ⟨some E_b, 33, [(.int .i16 g4c0.fAway), (.int .i16 g4c0.fOctave), (.int .i16 g4c0.fStep)]⟩]) ht_84 () ⟨rfl, A_ho⟩ (by kernel_rfl) [0, 1] (by kernel_rfl) (by kernel_rfl) ?_
   rintro ⟨xs_3, i_4⟩ _ y_71 ⟨hn_69, ho_68⟩ h
   rw [slices_swapRangeCmpFunc_Choice_at_impl_Arrange_1.l_5] at h
   refine jc_seq (jc_seq (jc_region (qh [0,0,0] (qe (jx_then (qi h (fun h => ?_) (fun h => ?_)))))))
   ·refine jc_skip (jx_then (jc_seq (jc_block (qg [⟨some E_b, 33, [(.int .i16 g4c0.fAway), (.int .i16 g4c0.fOctave), (.int .i16 g4c0.fStep)]⟩] 24 (qd [⟨0, 0, 0⟩,⟨1, 0, 0⟩,⟨2, 0, 0⟩,⟨3, 0, 0⟩,⟨4, 0, 0⟩,⟨5, 0, 0⟩,⟨6, 0, 0⟩,⟨7, 0, 0⟩,⟨8, 0, 0⟩,⟨9, 0, 0⟩,⟨10, 0, 0⟩,⟨11, 0, 0⟩,⟨14, 0, 0⟩,⟨15, 0, 0⟩,⟨16, 0, 0⟩,⟨17, 0, 0⟩] 8 [1] ?_)))))
    obtain ⟨x_7, hx_77, h⟩ := bd h
    refine qv 12 0 [1] (fun w hm => idx_run (a := (A_o.map fun b => ⟨b, 0, none⟩)) (len := data0.length) (s := 4) (j := (w64 (b2 + i_4))) (by kernel_rfl) (ix_some hx_77).1 (ltn hx_77 hn_69) (spo ho_68 hx_77)) ?_
    obtain ⟨x_8, hx_78, h⟩ := bd h
    refine qv 18 0 [1] (fun w hm => idx_run (a := (A_o.map fun b => ⟨b, 0, none⟩)) (len := data0.length) (s := 4) (j := (w64 (a1 + i_4))) (by kernel_rfl) (ix_some hx_78).1 (ltn hx_78 hn_69) (spo ho_68 hx_78)) (toD2 13 19 (by kernel_rfl) ?_ ?_)
    ·refine ql 0 true (fun w hm => ((hm.ow 0 A_o 104 xs_3 A_sp (fun e => (ho_68 e).1) encGChoice_len).at hx_77)) (kD [1] (tD 19 (ql 0 true (fun w hm => ((hm.ow 0 A_o 104 xs_3 A_sp (fun e => (ho_68 e).1) encGChoice_len).at hx_78)) (kD [1] ?_))))
     obtain ⟨x_9, hx_79, h⟩ := bd h
     refine qv 20 0 [1] (fun w hm => idx_run (a := (A_o.map fun b => ⟨b, 0, none⟩)) (len := data0.length) (s := 4) (j := (w64 (a1 + i_4))) (by kernel_rfl) (ix_some hx_79).1 (ltn hx_79 hn_69) (spo ho_68 hx_79)) (tD 21 (p_strO 0 0 A_o 104 encGChoice xs_3 A_sp (w64 (a1 + i_4)) x_7 4 0 [(.bool x_7.fAway), (.int .i8 x_7.fLate), (.int .i8 x_7.fOctave), (.int .i8 x_7.fTrack)] (by kernel_rfl) (by kernel_rfl) (by kernel_rfl) (fun e => (ho_68 e).1) encGChoice_len hx_79 (by kernel_rfl) (by kernel_rfl) (kD [1] ?_)))
     obtain ⟨x_10, hx_80, h⟩ := bd h
     exact qv 22 0 [1] (fun w hm => idx_run (a := (A_o.map fun b => ⟨b, 0, none⟩)) (len := data0.length) (s := 4) (j := (w64 (b2 + i_4))) (by kernel_rfl) (ix_some hx_80).1 (ltn hx_80 (List.length_set.trans hn_69)) (spo (set_ho ho_68) hx_80)) (tD 23 (p_strO 0 0 A_o 104 encGChoice (xs_3.set (w64 (a1 + i_4)).toNat x_7) A_sp (w64 (b2 + i_4)) x_8 4 0 [(.bool x_8.fAway), (.int .i8 x_8.fLate), (.int .i8 x_8.fOctave), (.int .i8 x_8.fTrack)] (by kernel_rfl) (by kernel_rfl) (by kernel_rfl) (fun e => ((set_ho ho_68) e).1) encGChoice_len hx_80 (by kernel_rfl) (by kernel_rfl) (kD [1] (qz (jx_inn (jx_then (jc_region (qh [0,0,0] (qe (qb (((xs_3.set (w64 (a1 + i_4)).toNat x_7).set (w64 (b2 + i_4)).toNat x_8), (w64 (i_4 + 1))) () h ⟨(List.length_set.trans (List.length_set.trans hn_69)), (set_ho (set_ho ho_68))⟩ [0, 1]))))))))))
    ·refine ql 0 true (fun w hm => ((hm.ow 0 A_o 104 xs_3 A_sp (fun e => (ho_68 e).1) encGChoice_len).at hx_78)) (kD [1] (tD 13 (ql 0 true (fun w hm => ((hm.ow 0 A_o 104 xs_3 A_sp (fun e => (ho_68 e).1) encGChoice_len).at hx_77)) (kD [1] ?_))))
     obtain ⟨x_9, hx_81, h⟩ := bd h
     refine qv 20 0 [1] (fun w hm => idx_run (a := (A_o.map fun b => ⟨b, 0, none⟩)) (len := data0.length) (s := 4) (j := (w64 (a1 + i_4))) (by kernel_rfl) (ix_some hx_81).1 (ltn hx_81 hn_69) (spo ho_68 hx_81)) (tD 21 (p_strO 0 0 A_o 104 encGChoice xs_3 A_sp (w64 (a1 + i_4)) x_7 4 0 [(.bool x_7.fAway), (.int .i8 x_7.fLate), (.int .i8 x_7.fOctave), (.int .i8 x_7.fTrack)] (by kernel_rfl) (by kernel_rfl) (by kernel_rfl) (fun e => (ho_68 e).1) encGChoice_len hx_81 (by kernel_rfl) (by kernel_rfl) (kD [1] ?_)))
     obtain ⟨x_10, hx_82, h⟩ := bd h
     exact qv 22 0 [1] (fun w hm => idx_run (a := (A_o.map fun b => ⟨b, 0, none⟩)) (len := data0.length) (s := 4) (j := (w64 (b2 + i_4))) (by kernel_rfl) (ix_some hx_82).1 (ltn hx_82 (List.length_set.trans hn_69)) (spo (set_ho ho_68) hx_82)) (tD 23 (p_strO 0 0 A_o 104 encGChoice (xs_3.set (w64 (a1 + i_4)).toNat x_7) A_sp (w64 (b2 + i_4)) x_8 4 0 [(.bool x_8.fAway), (.int .i8 x_8.fLate), (.int .i8 x_8.fOctave), (.int .i8 x_8.fTrack)] (by kernel_rfl) (by kernel_rfl) (by kernel_rfl) (fun e => ((set_ho ho_68) e).1) encGChoice_len hx_82 (by kernel_rfl) (by kernel_rfl) (kD [1] (qz (jx_inn (jx_then (jc_region (qh [0,0,0] (qe (qb (((xs_3.set (w64 (a1 + i_4)).toNat x_7).set (w64 (b2 + i_4)).toNat x_8), (w64 (i_4 + 1))) () h ⟨(List.length_set.trans (List.length_set.trans hn_69)), (set_ho (set_ho ho_68))⟩ [0, 1]))))))))))
   ·refine jc_exit (jx_thenx (jx_leave xs_3 (Option.some.inj h).symm (fun e_83 => ?_)))
    subst e_83
    exact jx_ine (qm xs_3 ⟨hr_70, hn_69, ho_68⟩ [0, 1])
  ·rintro xs_1 ⟨h, hn_43, ho_42⟩
   replace h : slices_swapRangeCmpFunc_Choice_at_impl_Arrange_1.k_2 xs_1 = some r := h
   rw [slices_swapRangeCmpFunc_Choice_at_impl_Arrange_1.k_2] at h
   refine jx_fall ?_
   obtain rfl := Option.some.inj h
   exact qr [] (fun w hm => ⟨hn_43, ho_42, rfl, hm.pk [0, 1]⟩)
/-! ### slices.rotateCmpFunc[impl.Choice] -/
def slices_rotateCmpFunc_Choice_at_impl_Arrange_1.k_3 (m2 : Int) (g4c0 : GCosts) (xs_1 : List GChoice) (i_2 : Int) : Option ((List GChoice)) := (slices_swapRangeCmpFunc_Choice_at_impl_Arrange_1 xs_1 (w64 (m2 - i_2)) m2 i_2 g4c0).bind fun t_4 => some t_4
def slices_rotateCmpFunc_Choice_at_impl_Arrange_1.k_13 (xs_10 : List GChoice) (i_11 : Int) (i_12 : Int) : Option (((List GChoice) × Int × Int) ⊕ (((List GChoice) × Int))) := some (.inl (xs_10, i_11, i_12))
def slices_rotateCmpFunc_Choice_at_impl_Arrange_1.l_8 (m2 : Int) (g4c0 : GCosts) : ((List GChoice) × Int × Int) → Option (((List GChoice) × Int × Int) ⊕ (((List GChoice) × Int)))
  | (xs_5, i_6, i_7) => (if (i_6 != i_7) = true then (if (decide (i_6 > i_7)) = true then (slices_swapRangeCmpFunc_Choice_at_impl_Arrange_1 xs_5 (w64 (m2 - i_6)) m2 i_7 g4c0).bind fun t_14 => slices_rotateCmpFunc_Choice_at_impl_Arrange_1.k_13 t_14 (w64 (i_6 - i_7)) i_7 else (slices_swapRangeCmpFunc_Choice_at_impl_Arrange_1 xs_5 (w64 (m2 - i_6)) (w64 ((w64 (m2 + i_7)) - i_6)) i_6 g4c0).bind fun t_15 => slices_rotateCmpFunc_Choice_at_impl_Arrange_1.k_13 t_15 i_6 (w64 (i_7 - i_6))) else some (.inr (xs_5, i_6)))
def slices_rotateCmpFunc_Choice_at_impl_Arrange_1 (data0 : List GChoice) (a1 : Int) (m2 : Int) (b3 : Int) (g4c0 : GCosts) : Option ((List GChoice)) := (loop (slices_rotateCmpFunc_Choice_at_impl_Arrange_1.l_8 m2 g4c0) (data0, (w64 (m2 - a1)), (w64 (b3 - m2)))).bind fun t_9 => slices_rotateCmpFunc_Choice_at_impl_Arrange_1.k_3 m2 g4c0 t_9.1 t_9.2
theorem slices_rotateCmpFunc_Choice_at_impl_Arrange_1.calls (data0 : List GChoice) (a1 : Int) (m2 : Int) (b3 : Int) (g4c0 : GCosts) (w : World) (r : (List GChoice)) (A_o : Option Nat) {A_on : Nat} {A_c : Nat} {A_sp : List Value} (A_hn : data0.length = A_on) (A_hs : A_o ≠ none → A_on ≤ A_c ∧ A_sp.length = (A_c - A_on) * 4) (A_ho : A_o = none → data0 = [] ∧ A_c = 0) (E_b : Nat) (hm0 : Mem w (bs [A_o, some E_b]) [⟨A_o, 104, row encGChoice data0 A_sp⟩, ⟨some E_b, 33, [(.int .i16 g4c0.fAway), (.int .i16 g4c0.fOctave), (.int .i16 g4c0.fStep)]⟩] w) (h : slices_rotateCmpFunc_Choice_at_impl_Arrange_1 data0 a1 m2 b3 g4c0 = some r) :
    Calls Tryz.prog 230 #[(.slice (A_o.map fun b => ⟨b, 0, none⟩) A_on A_c), (.int .i64 a1), (.int .i64 m2), (.int .i64 b3), (.func (.func 89) #[] #[(.pointer (some ⟨E_b, 0, none⟩))])] w fun e w' => ∃ v, e = .returned v ∧ (r.length = A_on ∧ (A_o = none → r = [] ∧ A_c = 0) ∧ v = .tuple #[] ∧ Mem w (bs [A_o, some E_b]) [⟨A_o, 104, row encGChoice r A_sp⟩, ⟨some E_b, 33, [(.int .i16 g4c0.fAway), (.int .i16 g4c0.fOctave), (.int .i16 g4c0.fStep)]⟩] w') := by
  subst A_hn
  rw [slices_rotateCmpFunc_Choice_at_impl_Arrange_1] at h
  refine enter (args := [(.slice (A_o.map fun b => ⟨b, 0, none⟩) data0.length A_c), (.int .i64 a1), (.int .i64 m2), (.int .i64 b3), (.func (.func 89) #[] #[(.pointer (some ⟨E_b, 0, none⟩))])]) Tryz.func230 rfl Tryz.ntmps230 (by kernel_rfl) (L := [⟨A_o, 104, row encGChoice data0 A_sp⟩, ⟨some E_b, 33, [(.int .i16 g4c0.fAway), (.int .i16 g4c0.fOctave), (.int .i16 g4c0.fStep)]⟩]) (W := bs [A_o, some E_b]) hm0 ?_
  refine jc_seq (jc_region (qh [0,0,0,0] (qe (jx_then (jc_seq (jc_region (qh [0,0,0,0] (qe (jx_then (jc_seq (jc_meet (fun (j : (List GChoice) × Int) => match j with | ⟨xs_1, i_2⟩ => slices_rotateCmpFunc_Choice_at_impl_Arrange_1.k_3 m2 g4c0 xs_1 i_2 = some r ∧ (xs_1.length = data0.length) ∧ ((A_o = none → xs_1 = [] ∧ A_c = 0))) (fun (j : (List GChoice) × Int) => match j with | ⟨xs_1, i_2⟩ => [(0, [], (.slice (A_o.map fun b => ⟨b, 0, none⟩) data0.length A_c)), (2, [], (.int .i64 m2)), (4, [], (.func (.func 89) #[] #[(.pointer (some ⟨E_b, 0, none⟩))])), (10, [], (.int .i64 i_2))]) (fun (j : (List GChoice) × Int) => match j with | ⟨xs_1, i_2⟩ => [⟨A_o, 104, row encGChoice xs_1 A_sp⟩, ⟨some E_b, 33, [(.int .i16 g4c0.fAway), (.int .i16 g4c0.fOctave), (.int .i16 g4c0.fStep)]⟩]) ?_ ?_)))))))))))
  ·refine jc_block ?_
   obtain ⟨t_9, ht_129, hr_108⟩ := bd h
   refine jc_loop (fun (s : (List GChoice) × Int × Int) (x : Unit) => match s, x with | ⟨xs_5, i_6, i_7⟩, _ => (xs_5.length = data0.length) ∧ ((A_o = none → xs_5 = [] ∧ A_c = 0))) (fun (s : (List GChoice) × Int × Int) (x : Unit) => match s, x with | ⟨xs_5, i_6, i_7⟩, _ => [(0, [], (.slice (A_o.map fun b => ⟨b, 0, none⟩) data0.length A_c)), (2, [], (.int .i64 m2)), (4, [], (.func (.func 89) #[] #[(.pointer (some ⟨E_b, 0, none⟩))])), (10, [], (.int .i64 i_6)), (11, [], (.int .i64 i_7))]) (fun (s : (List GChoice) × Int × Int) (x : Unit) => match s, x with | ⟨xs_5, i_6, i_7⟩, _ => [⟨A_o, 104, row encGChoice xs_5 A_sp⟩, ⟨some E_b, 33, [(.int .i16 g4c0.fAway), (.int .i16 g4c0.fOctave), (.int .i16 g4c0.fStep)]⟩]) ht_129 () ⟨rfl, A_ho⟩ (by kernel_rfl) [0, 1] (by kernel_rfl) (by kernel_rfl) ?_
   rintro ⟨xs_5, i_6, i_7⟩ _ y_109 ⟨hn_107, ho_106⟩ h
   rw [slices_rotateCmpFunc_Choice_at_impl_Arrange_1.l_8] at h
   refine jc_seq (jc_seq (jc_region (qh [0,0,0] (qe (jx_then (qi h (fun h => ?_) (fun h => ?_)))))))
   ·refine jc_skip (jx_then (jc_meet (fun (j : (List GChoice) × Int × Int) => match j with | ⟨xs_10, i_11, i_12⟩ => slices_rotateCmpFunc_Choice_at_impl_Arrange_1.k_13 xs_10 i_11 i_12 = some y_109 ∧ (xs_10.length = data0.length) ∧ ((A_o = none → xs_10 = [] ∧ A_c = 0))) (fun (j : (List GChoice) × Int × Int) => match j with | ⟨xs_10, i_11, i_12⟩ => [(0, [], (.slice (A_o.map fun b => ⟨b, 0, none⟩) data0.length A_c)), (2, [], (.int .i64 m2)), (4, [], (.func (.func 89) #[] #[(.pointer (some ⟨E_b, 0, none⟩))])), (10, [], (.int .i64 i_11)), (11, [], (.int .i64 i_12))]) (fun (j : (List GChoice) × Int × Int) => match j with | ⟨xs_10, i_11, i_12⟩ => [⟨A_o, 104, row encGChoice xs_10 A_sp⟩, ⟨some E_b, 33, [(.int .i16 g4c0.fAway), (.int .i16 g4c0.fOctave), (.int .i16 g4c0.fStep)]⟩]) ?_ ?_))
    ·refine jc_block (jc_seq (jc_region (qh [0,0,0] (qe (jx_then (qi h (fun h => ?_) (fun h => ?_)))))))
     ·refine jc_seq (jc_region (qh [0,0,0,0,0,0,0] ?_))
      obtain ⟨t_14, ht_122, h⟩ := bd h
      refine tO (pc 0 (fun w hm => slices_swapRangeCmpFunc_Choice_at_impl_Arrange_1.calls xs_5 (w64 (m2 - i_6)) m2 i_7 g4c0 w _ A_o hn_107 A_hs ho_106 E_b (hm.pass (N := [⟨A_o, 104, row encGChoice xs_5 A_sp⟩, ⟨some E_b, 33, [(.int .i16 g4c0.fAway), (.int .i16 g4c0.fOctave), (.int .i16 g4c0.fStep)]⟩]) [0, 1] (by kernel_rfl) (by kernel_rfl)) ht_122) ?_)
      rintro w v w' hm ⟨hn_123, ho_124, rfl, hm'⟩
      refine ⟨_, hm.appW (ps := [(0, ⟨A_o, 104, row encGChoice t_14 A_sp⟩), (1, ⟨some E_b, 33, [(.int .i16 g4c0.fAway), (.int .i16 g4c0.fOctave), (.int .i16 g4c0.fStep)]⟩)]) (N := []) hm' (by kernel_rfl) (by kernel_rfl), jkO ?_⟩
      clear hm hm'
      exact qe (jx_then (jc_region (qh [0,0,0,0] (qe (jx_inn (qm ⟨t_14, (w64 (i_6 - i_7)), i_7⟩ ⟨h, hn_123, ho_124⟩ [0, 1]))))))
     ·refine jc_seq (jc_region (qh [0,0,0,0,0,0,0,0,0,0,0] ?_))
      obtain ⟨t_15, ht_125, h⟩ := bd h
      refine tO (pc 0 (fun w hm => slices_swapRangeCmpFunc_Choice_at_impl_Arrange_1.calls xs_5 (w64 (m2 - i_6)) (w64 ((w64 (m2 + i_7)) - i_6)) i_6 g4c0 w _ A_o hn_107 A_hs ho_106 E_b (hm.pass (N := [⟨A_o, 104, row encGChoice xs_5 A_sp⟩, ⟨some E_b, 33, [(.int .i16 g4c0.fAway), (.int .i16 g4c0.fOctave), (.int .i16 g4c0.fStep)]⟩]) [0, 1] (by kernel_rfl) (by kernel_rfl)) ht_125) ?_)
      rintro w v w' hm ⟨hn_126, ho_127, rfl, hm'⟩
      refine ⟨_, hm.appW (ps := [(0, ⟨A_o, 104, row encGChoice t_15 A_sp⟩), (1, ⟨some E_b, 33, [(.int .i16 g4c0.fAway), (.int .i16 g4c0.fOctave), (.int .i16 g4c0.fStep)]⟩)]) (N := []) hm' (by kernel_rfl) (by kernel_rfl), jkO ?_⟩
      clear hm hm'
      exact qe (jx_then (jc_region (qh [0,0,0,0] (qe (jx_inn (qm ⟨t_15, i_6, (w64 (i_7 - i_6))⟩ ⟨h, hn_126, ho_127⟩ [0, 1]))))))
    ·rintro ⟨xs_10, i_11, i_12⟩ ⟨h, hn_120, ho_119⟩
     replace h : slices_rotateCmpFunc_Choice_at_impl_Arrange_1.k_13 xs_10 i_11 i_12 = some y_109 := h
     rw [slices_rotateCmpFunc_Choice_at_impl_Arrange_1.k_13] at h
     exact qb (xs_10, i_11, i_12) () h ⟨hn_120, ho_119⟩ [0, 1]
   ·refine jc_exit (jx_thenx (jx_leave (xs_5, i_6) (Option.some.inj h).symm (fun e_128 => ?_)))
    subst e_128
    exact jx_ine (qm ⟨xs_5, i_6⟩ ⟨hr_108, hn_107, ho_106⟩ [0, 1])
  ·rintro ⟨xs_1, i_2⟩ ⟨h, hn_64, ho_63⟩
   replace h : slices_rotateCmpFunc_Choice_at_impl_Arrange_1.k_3 m2 g4c0 xs_1 i_2 = some r := h
   rw [slices_rotateCmpFunc_Choice_at_impl_Arrange_1.k_3] at h
   refine jx_then (jc_region (qh [0,0,0,0,0,0,0] ?_))
   obtain ⟨t_4, ht_65, h⟩ := bd h
   refine tO (pc 0 (fun w hm => slices_swapRangeCmpFunc_Choice_at_impl_Arrange_1.calls xs_1 (w64 (m2 - i_2)) m2 i_2 g4c0 w _ A_o hn_64 A_hs ho_63 E_b (hm.pass (N := [⟨A_o, 104, row encGChoice xs_1 A_sp⟩, ⟨some E_b, 33, [(.int .i16 g4c0.fAway), (.int .i16 g4c0.fOctave), (.int .i16 g4c0.fStep)]⟩]) [0, 1] (by kernel_rfl) (by kernel_rfl)) ht_65) ?_)
   rintro w v w' hm ⟨hn_66, ho_67, rfl, hm'⟩
   refine ⟨_, hm.appW (ps := [(0, ⟨A_o, 104, row encGChoice t_4 A_sp⟩), (1, ⟨some E_b, 33, [(.int .i16 g4c0.fAway), (.int .i16 g4c0.fOctave), (.int .i16 g4c0.fStep)]⟩)]) (N := []) hm' (by kernel_rfl) (by kernel_rfl), jkO ?_⟩
   clear hm hm'
   refine qe (jx_fall ?_)
   obtain rfl := Option.some.inj h
   exact qr [] (fun w hm => ⟨hn_66, ho_67, rfl, hm.pk [0, 1]⟩)
end

end Go.Proofs.YtolfkfjjifdmeaaGreat
