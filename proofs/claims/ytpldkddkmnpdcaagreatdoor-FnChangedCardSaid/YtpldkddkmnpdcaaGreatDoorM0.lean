/- Functions of the program that the laws reach: a plain function each, and that the call comes to its answer if the plain function has one. Printed by a program. -/
import Derived.Test.YtpldkddkmnpdcaaGreatDoorT
import Derived.Test.YtpldkddkmnpdcaaGreatDoorGrow
namespace Go.Proofs.YtpldkddkmnpdcaaGreatDoor
open Eng
set_option linter.unusedVariables false

set_option linter.unusedSectionVars false
variable [dsW : DrwS]

/-! ### laws.a2Long -/
noncomputable def laws_a2Long (code0 : List Int) (more1 : List Int) : Option (Bool) := some ((decide ((code0.length : Int) > 3000)) || (decide ((more1.length : Int) > 3000)))
set_option maxRecDepth 100000 in
theorem laws_a2Long.calls (code0 : List Int) (more1 : List Int) (w : World) (r : Bool) (code0_a : Option Addr) (code0_an : Nat) (code0_c : Nat) (code0_h : Rw w code0_a 1 encU8 code0) (code0_hn : code0.length = code0_an) (more1_a : Option Addr) (more1_an : Nat) (more1_c : Nat) (more1_h : Rw w more1_a 1 encU8 more1) (more1_hn : more1.length = more1_an) (h : laws_a2Long code0 more1 = some r) :
    Calls Tryz.prog 6 #[(.slice code0_a code0_an code0_c), (.slice more1_a more1_an more1_c)] w fun e w' => ∃ v, e = .returned v ∧ (v = (.bool r) ∧ Mem w [] [] w') := by
  subst code0_hn more1_hn
  rw [laws_a2Long] at h
  refine enter (args := [(.slice code0_a code0.length code0_c), (.slice more1_a more1.length more1_c)]) Tryz.func6 rfl Tryz.ntmps6 (by kernel_rfl) (L := []) (W := []) (Mem.start w) ?_
  refine jc_seq ?_
  refine jc_region ?_
  refine jo_f [(0, 0)] (by kernel_rfl) ?_
  refine jo_end (by kernel_rfl) ?_
  refine jx_then ?_
  refine jc_seq ?_
  refine jc_region ?_
  refine jo_f [(0, 0), (0, 0), (0, 0), (0, 0), (0, 1), (0, 1), (0, 1), (0, 0), (0, 0)] (by kernel_rfl) ?_
  refine jo_end (by kernel_rfl) ?_
  refine jx_then ?_
  refine jc_ret ?_
  obtain rfl := Option.some.inj h
  exact jx_ret [] (.bool ((decide ((code0.length : Int) > 3000)) || (decide ((more1.length : Int) > 3000)))) [] rfl (by kernel_rfl) (by kernel_rfl) (fun w hm => ⟨rfl, hm.pick [] (by kernel_rfl) (by kernel_rfl)⟩)

/-! ### spec.l00From -/
noncomputable def spec_l00From (code0 : List Int) : Option (Gl00Src) := some (⟨code0, 0, 0⟩ : Gl00Src)
set_option maxRecDepth 100000 in
theorem spec_l00From.calls (code0 : List Int) (w : World) (r : Gl00Src) (code0_a : Option Addr) (code0_an : Nat) (code0_c : Nat) (code0_h : Rw w code0_a 1 encU8 code0) (code0_hn : code0.length = code0_an) (h : spec_l00From code0 = some r) :
    Calls Tryz.prog 63 #[(.slice code0_a code0_an code0_c)] w fun e w' => ∃ v, e = .returned v ∧ (∃ (pb0 : Nat), v = .pointer (some ⟨pb0, 0, none⟩) ∧ Mem w [] [⟨some pb0, 220, [(.slice code0_a code0_an code0_c), (.int .i64 r.fat), (.int .u64 r.fseed)]⟩] w') := by
  subst code0_hn
  rw [spec_l00From] at h
  refine enter (args := [(.slice code0_a code0.length code0_c)]) Tryz.func63 rfl Tryz.ntmps63 (by kernel_rfl) (L := []) (W := []) (Mem.start w) ?_
  refine jc_seq ?_
  refine jc_region ?_
  refine jo_f [(0, 0)] (by kernel_rfl) ?_
  refine jo_end (by kernel_rfl) ?_
  refine jx_then ?_
  refine jc_seq ?_
  refine jc_region ?_
  refine jo_f [(0, 0), (0, 0)] (by kernel_rfl) ?_
  refine toO (by kernel_rfl) (p_a 0 [0] (by kernel_rfl) (fun b => by kernel_rfl) (fun b_1 => jkO ?_))
  refine jo_f [(0, 0)] (by kernel_rfl) ?_
  refine jo_end (by kernel_rfl) ?_
  refine jx_then ?_
  refine jc_ret ?_
  obtain rfl := Option.some.inj h
  exact jx_ret [] (.pointer (some ⟨b_1, 0, none⟩)) [] rfl (by kernel_rfl) (by kernel_rfl) (fun w hm => ⟨b_1, rfl, hm.pick [0] (by kernel_rfl) (by kernel_rfl)⟩)

/-! ### (*spec.l00Src).next -/
noncomputable def spec_l00Src_next.k_2 (s0 : Gl00Src) (i_1 : Int) : Option (Int × Gl00Src) := (if (decide ((w64 (s0.fat + 1)) ≤ (s0.fcode.length : Int))) = true then some (i_1, (⟨s0.fcode, (w64 (s0.fat + 1)), (u64 ((u64 ((u64 (s0.fseed * 6364136223846793005)) + (u64 i_1))) + 1442695040888963407))⟩ : Gl00Src)) else some ((w64 (bAnd .u64 (bShr .u64 (u64 ((u64 ((u64 (s0.fseed * 6364136223846793005)) + (u64 i_1))) + 1442695040888963407)) 40) 255)), (⟨s0.fcode, (w64 (s0.fat + 1)), (u64 ((u64 ((u64 (s0.fseed * 6364136223846793005)) + (u64 i_1))) + 1442695040888963407))⟩ : Gl00Src)))
noncomputable def spec_l00Src_next (s0 : Gl00Src) : Option (Int × Gl00Src) := (if (decide (s0.fat < (s0.fcode.length : Int))) = true then (ix s0.fcode s0.fat).bind fun x_3 => spec_l00Src_next.k_2 s0 (w64 x_3) else spec_l00Src_next.k_2 s0 0)
set_option maxRecDepth 100000 in
theorem spec_l00Src_next.calls (s0 : Gl00Src) (w : World) (r : Int × Gl00Src) (s0_fcode_a : Option Addr) (s0_fcode_an : Nat) (s0_fcode_c : Nat) (s0_fcode_h : Rw w s0_fcode_a 1 encU8 s0.fcode) (s0_fcode_hn : s0.fcode.length = s0_fcode_an) (s0_b : Nat) (hm0 : Mem w (bs [some s0_b]) [⟨some s0_b, 220, [(.slice s0_fcode_a s0_fcode_an s0_fcode_c), (.int .i64 s0.fat), (.int .u64 s0.fseed)]⟩] w) (s0_fcode_ha : s0.fcode ≠ [] → aB s0_fcode_a ∉ bs [some s0_b]) (h : spec_l00Src_next s0 = some r) :
    Calls Tryz.prog 171 #[(.pointer (some ⟨s0_b, 0, none⟩))] w fun e w' => ∃ v, e = .returned v ∧ (v = (.int .i64 r.1) ∧ Mem w (bs [some s0_b]) [⟨some s0_b, 220, [(.slice s0_fcode_a s0_fcode_an s0_fcode_c), (.int .i64 r.2.fat), (.int .u64 r.2.fseed)]⟩] w') := by
  subst s0_fcode_hn
  rw [spec_l00Src_next] at h
  refine enter (args := [(.pointer (some ⟨s0_b, 0, none⟩))]) Tryz.func171 rfl Tryz.ntmps171 (by kernel_rfl) (L := [⟨some s0_b, 220, [(.slice s0_fcode_a s0.fcode.length s0_fcode_c), (.int .i64 s0.fat), (.int .u64 s0.fseed)]⟩]) (W := bs [some s0_b]) hm0 ?_
  refine jc_seq ?_
  refine jc_region ?_
  refine jo_f [(0, 0)] (by kernel_rfl) ?_
  refine jo_end (by kernel_rfl) ?_
  refine jx_then ?_
  refine jc_seq ?_
  refine jc_region ?_
  refine jo_f [(0, 0)] (by kernel_rfl) ?_
  refine jo_end (by kernel_rfl) ?_
  refine jx_then ?_
  refine jc_seq ?_
  refine jc_meet (fun (j : Int) => match j with | i_1 => spec_l00Src_next.k_2 s0 i_1 = some r) (fun (j : Int) => match j with | i_1 => [(0, [], (.pointer (some ⟨s0_b, 0, none⟩))), (2, [], (.int .i64 0)), (3, [], (.int .i64 i_1))]) (fun (j : Int) => match j with | i_1 => [⟨some s0_b, 220, [(.slice s0_fcode_a s0.fcode.length s0_fcode_c), (.int .i64 s0.fat), (.int .u64 s0.fseed)]⟩]) ?_ ?_
  · refine jc_seq ?_
    refine jc_draw [⟨some s0_b, 220, [(.slice s0_fcode_a s0.fcode.length s0_fcode_c), (.int .i64 s0.fat), (.int .u64 s0.fseed)]⟩] 10 (by kernel_rfl) (by kernel_rfl) ?_
    refine jd_f [⟨0, 0, 0⟩, ⟨1, 0, 0⟩, ⟨2, 0, 0⟩, ⟨3, 0, 0⟩, ⟨4, 0, 0⟩, ⟨5, 0, 0⟩, ⟨6, 0, 0⟩, ⟨7, 0, 0⟩, ⟨8, 0, 0⟩, ⟨9, 0, 0⟩] 0 (by kernel_rfl) (by kernel_rfl) (fun w h => h.pick [0] (by kernel_rfl) (by kernel_rfl)) (by kernel_rfl) (by kernel_rfl) ?_
    refine jd_end (by kernel_rfl) ?_
    refine jx_then ?_
    refine jc_cond (decide (s0.fat < (s0.fcode.length : Int))) (by kernel_rfl) (fun hc_5 => ?_) (fun hc_5 => ?_)
    · replace h := ifT hc_5 h
      refine jc_draw [⟨some s0_b, 220, [(.slice s0_fcode_a s0.fcode.length s0_fcode_c), (.int .i64 s0.fat), (.int .u64 s0.fseed)]⟩] 12 (by kernel_rfl) (by kernel_rfl) ?_
      refine jd_f [⟨0, 0, 0⟩, ⟨1, 0, 0⟩, ⟨2, 0, 0⟩, ⟨3, 0, 0⟩, ⟨4, 0, 0⟩, ⟨5, 0, 0⟩, ⟨6, 0, 0⟩, ⟨7, 0, 0⟩] 4 (by kernel_rfl) (by kernel_rfl) (fun w h => h.pick [0] (by kernel_rfl) (by kernel_rfl)) (by kernel_rfl) (by kernel_rfl) ?_
      obtain ⟨x_3, hx_6, h⟩ := bd h
      refine jd_v 8 0 (by kernel_rfl) (fun w h => h.pick [0] (by kernel_rfl) (by kernel_rfl)) (by kernel_rfl) (by kernel_rfl) _ (fun w hm => idx_run (a := s0_fcode_a) (len := s0.fcode.length) (s := 1) (j := s0.fat) (by kernel_rfl) (ix_some hx_6).1 (ltn hx_6 rfl) (s0_fcode_h.sp hx_6)) ?_
      refine jd_v 9 0 (by kernel_rfl) (fun w h => h.pick [0] (by kernel_rfl) (by kernel_rfl)) (by kernel_rfl) (by kernel_rfl) _ (fun w hm => ld_run (b := aB s0_fcode_a) (off := (aO s0_fcode_a + s0.fat.toNat * 1)) (s := 1) (agg := false) (vs := (encU8 x_3)) (by kernel_rfl) (by kernel_rfl) (.inr rfl) ((hm.exRowW s0_fcode_h s0_fcode_ha).at hx_6)) ?_
      refine jd_f [⟨10, 0, 0⟩, ⟨11, 0, 0⟩] 0 (by kernel_rfl) (by kernel_rfl) (fun w h => h.pick [0] (by kernel_rfl) (by kernel_rfl)) (by kernel_rfl) (by kernel_rfl) ?_
      refine jd_end (by kernel_rfl) ?_
      exact jx_meet (w64 x_3) h (by kernel_rfl) [0] (by kernel_rfl) (by kernel_rfl)
    · replace h := ifF hc_5 h
      refine jc_skip ?_
      exact jx_meet 0 h (by kernel_rfl) [0] (by kernel_rfl) (by kernel_rfl)
  · rintro i_1 h
    replace h : spec_l00Src_next.k_2 s0 i_1 = some r := h
    rw [spec_l00Src_next.k_2] at h
    refine jx_then ?_
    refine jc_seq ?_
    refine jc_region ?_
    refine jo_f [(0, 0), (0, 0), (0, 0), (0, 0), (0, 0), (0, 0), (0, 0)] (by kernel_rfl) ?_
    refine toO (by kernel_rfl) (p_s 0 [0] (by kernel_rfl) (by kernel_rfl) (jkO ?_))
    refine jo_end (by kernel_rfl) ?_
    refine jx_then ?_
    refine jc_seq ?_
    refine jc_region ?_
    refine jo_f [(0, 0), (0, 0), (0, 0), (0, 0), (0, 0), (0, 0), (0, 0), (0, 0), (0, 0), (0, 0), (0, 0), (0, 0)] (by kernel_rfl) ?_
    refine toO (by kernel_rfl) (p_s 0 [0] (by kernel_rfl) (by kernel_rfl) (jkO ?_))
    refine jo_end (by kernel_rfl) ?_
    refine jx_then ?_
    refine jc_seq ?_
    refine jc_seq ?_
    refine jc_draw [⟨some s0_b, 220, [(.slice s0_fcode_a s0.fcode.length s0_fcode_c), (.int .i64 (w64 (s0.fat + 1))), (.int .u64 (u64 ((u64 ((u64 (s0.fseed * 6364136223846793005)) + (u64 i_1))) + 1442695040888963407)))]⟩] 10 (by kernel_rfl) (by kernel_rfl) ?_
    refine jd_f [⟨0, 0, 0⟩, ⟨1, 0, 0⟩, ⟨2, 0, 0⟩, ⟨3, 0, 0⟩, ⟨4, 0, 0⟩, ⟨5, 0, 0⟩, ⟨6, 0, 0⟩, ⟨7, 0, 0⟩, ⟨8, 0, 0⟩, ⟨9, 0, 0⟩] 0 (by kernel_rfl) (by kernel_rfl) (fun w h => h.pick [0] (by kernel_rfl) (by kernel_rfl)) (by kernel_rfl) (by kernel_rfl) ?_
    refine jd_end (by kernel_rfl) ?_
    refine jx_then ?_
    refine jc_cond (decide ((w64 (s0.fat + 1)) ≤ (s0.fcode.length : Int))) (by kernel_rfl) (fun hc_4 => ?_) (fun hc_4 => ?_)
    · replace h := ifT hc_4 h
      refine jc_seq ?_
      refine jc_region ?_
      refine jo_f [(0, 0), (0, 0)] (by kernel_rfl) ?_
      refine jo_end (by kernel_rfl) ?_
      refine jx_then ?_
      refine jc_ret ?_
      refine jx_thenr ?_
      obtain rfl := Option.some.inj h
      exact jx_ret [] (.int .i64 i_1) [] rfl (by kernel_rfl) (by kernel_rfl) (fun w hm => ⟨rfl, hm.pick [0] (by kernel_rfl) (by kernel_rfl)⟩)
    · replace h := ifF hc_4 h
      refine jc_skip ?_
      refine jx_then ?_
      refine jc_seq ?_
      refine jc_region ?_
      refine jo_f [(0, 0), (0, 0), (0, 0), (0, 0), (0, 0), (0, 0), (0, 0), (0, 0)] (by kernel_rfl) ?_
      refine jo_end (by kernel_rfl) ?_
      refine jx_then ?_
      refine jc_ret ?_
      obtain rfl := Option.some.inj h
      exact jx_ret [] (.int .i64 (w64 (bAnd .u64 (bShr .u64 (u64 ((u64 ((u64 (s0.fseed * 6364136223846793005)) + (u64 i_1))) + 1442695040888963407)) 40) 255))) [] rfl (by kernel_rfl) (by kernel_rfl) (fun w hm => ⟨rfl, hm.pick [0] (by kernel_rfl) (by kernel_rfl)⟩)

/-! ### (*spec.l00Src).pick -/
noncomputable def spec_l00Src_pick.k_5 (s0 : Gl00Src) (n1 : Int) (i_2 : Int) (i_3 : Int) (i_4 : Int) : Option (Int × Gl00Src) := (if n1 ≠ 0 then some ((Int.tmod i_4 n1), (⟨s0.fcode, i_2, i_3⟩ : Gl00Src)) else none)
noncomputable def spec_l00Src_pick (s0 : Gl00Src) (n1 : Int) : Option (Int × Gl00Src) := (if (decide (n1 ≤ 1)) = true then some (0, s0) else (spec_l00Src_next s0).bind fun t_1 => (if (decide (n1 > 200)) = true then (spec_l00Src_next (⟨s0.fcode, t_1.2.fat, t_1.2.fseed⟩ : Gl00Src)).bind fun t_6 => spec_l00Src_pick.k_5 s0 n1 t_6.2.fat t_6.2.fseed (w64 ((w64 (t_1.1 * 256)) + t_6.1)) else spec_l00Src_pick.k_5 s0 n1 t_1.2.fat t_1.2.fseed t_1.1))
set_option maxRecDepth 100000 in
theorem spec_l00Src_pick.calls (s0 : Gl00Src) (n1 : Int) (w : World) (r : Int × Gl00Src) (s0_fcode_a : Option Addr) (s0_fcode_an : Nat) (s0_fcode_c : Nat) (s0_fcode_h : Rw w s0_fcode_a 1 encU8 s0.fcode) (s0_fcode_hn : s0.fcode.length = s0_fcode_an) (s0_b : Nat) (hm0 : Mem w (bs [some s0_b]) [⟨some s0_b, 220, [(.slice s0_fcode_a s0_fcode_an s0_fcode_c), (.int .i64 s0.fat), (.int .u64 s0.fseed)]⟩] w) (s0_fcode_ha : s0.fcode ≠ [] → aB s0_fcode_a ∉ bs [some s0_b]) (h : spec_l00Src_pick s0 n1 = some r) :
    Calls Tryz.prog 88 #[(.pointer (some ⟨s0_b, 0, none⟩)), (.int .i64 n1)] w fun e w' => ∃ v, e = .returned v ∧ (v = (.int .i64 r.1) ∧ Mem w (bs [some s0_b]) [⟨some s0_b, 220, [(.slice s0_fcode_a s0_fcode_an s0_fcode_c), (.int .i64 r.2.fat), (.int .u64 r.2.fseed)]⟩] w') := by
  subst s0_fcode_hn
  rw [spec_l00Src_pick] at h
  refine enter (args := [(.pointer (some ⟨s0_b, 0, none⟩)), (.int .i64 n1)]) Tryz.func88 rfl Tryz.ntmps88 (by kernel_rfl) (L := [⟨some s0_b, 220, [(.slice s0_fcode_a s0.fcode.length s0_fcode_c), (.int .i64 s0.fat), (.int .u64 s0.fseed)]⟩]) (W := bs [some s0_b]) hm0 ?_
  refine jc_seq ?_
  refine jc_region ?_
  refine jo_f [(0, 0)] (by kernel_rfl) ?_
  refine jo_end (by kernel_rfl) ?_
  refine jx_then ?_
  refine jc_seq ?_
  refine jc_seq ?_
  refine jc_region ?_
  refine jo_f [(0, 0), (0, 0)] (by kernel_rfl) ?_
  refine jo_end (by kernel_rfl) ?_
  refine jx_then ?_
  refine jc_cond (decide (n1 ≤ 1)) (by kernel_rfl) (fun hc_2 => ?_) (fun hc_2 => ?_)
  · replace h := ifT hc_2 h
    refine jc_seq ?_
    refine jc_region ?_
    refine jo_f [(0, 0)] (by kernel_rfl) ?_
    refine jo_end (by kernel_rfl) ?_
    refine jx_then ?_
    refine jc_ret ?_
    refine jx_thenr ?_
    obtain rfl := Option.some.inj h
    exact jx_ret [] (.int .i64 0) [] rfl (by kernel_rfl) (by kernel_rfl) (fun w hm => ⟨rfl, hm.pick [0] (by kernel_rfl) (by kernel_rfl)⟩)
  · replace h := ifF hc_2 h
    refine jc_skip ?_
    refine jx_then ?_
    refine jc_seq ?_
    refine jc_region ?_
    refine jo_f [(0, 0)] (by kernel_rfl) ?_
    obtain ⟨t_1, ht_3, h⟩ := bd h
    refine toO (by kernel_rfl) (p_call 0 171 #[(.pointer (some ⟨s0_b, 0, none⟩))] (by kernel_rfl) (by kernel_rfl) (fun w hm => spec_l00Src_next.calls s0 w _ s0_fcode_a s0.fcode.length s0_fcode_c (hm.exRowW s0_fcode_h s0_fcode_ha) rfl s0_b (hm.pass (N := [⟨some s0_b, 220, [(.slice s0_fcode_a s0.fcode.length s0_fcode_c), (.int .i64 s0.fat), (.int .u64 s0.fseed)]⟩]) [0] (by kernel_rfl) (by kernel_rfl)) (hm.exApart (N := [⟨some s0_b, 220, [(.slice s0_fcode_a s0.fcode.length s0_fcode_c), (.int .i64 s0.fat), (.int .u64 s0.fseed)]⟩]) s0_fcode_h s0_fcode_ha [0] (by kernel_rfl)) ht_3) ?_)
    rintro w v w' hm ⟨rfl, hm'⟩
    refine ⟨_, hm.appW (ps := [(0, ⟨some s0_b, 220, [(.slice s0_fcode_a s0.fcode.length s0_fcode_c), (.int .i64 t_1.2.fat), (.int .u64 t_1.2.fseed)]⟩)]) (N := []) hm' (by kernel_rfl) (by kernel_rfl), jkO ?_⟩
    clear hm hm'
    refine jo_f [(0, 0)] (by kernel_rfl) ?_
    refine jo_end (by kernel_rfl) ?_
    refine jx_then ?_
    refine jc_seq ?_
    refine jc_meet (fun (j : Int × Int × Int) => match j with | ⟨i_2, i_3, i_4⟩ => spec_l00Src_pick.k_5 s0 n1 i_2 i_3 i_4 = some r) (fun (j : Int × Int × Int) => match j with | ⟨i_2, i_3, i_4⟩ => [(1, [], (.int .i64 n1)), (4, [], (.int .i64 0)), (5, [], (.int .i64 i_4))]) (fun (j : Int × Int × Int) => match j with | ⟨i_2, i_3, i_4⟩ => [⟨some s0_b, 220, [(.slice s0_fcode_a s0.fcode.length s0_fcode_c), (.int .i64 i_2), (.int .u64 i_3)]⟩]) ?_ ?_
    · refine jc_seq ?_
      refine jc_region ?_
      refine jo_f [(0, 0), (0, 0)] (by kernel_rfl) ?_
      refine jo_end (by kernel_rfl) ?_
      refine jx_then ?_
      refine jc_cond (decide (n1 > 200)) (by kernel_rfl) (fun hc_7 => ?_) (fun hc_7 => ?_)
      · replace h := ifT hc_7 h
        refine jc_region ?_
        refine jo_f [(0, 0), (0, 0), (0, 0)] (by kernel_rfl) ?_
        obtain ⟨t_6, ht_8, h⟩ := bd h
        refine toO (by kernel_rfl) (p_call 0 171 #[(.pointer (some ⟨s0_b, 0, none⟩))] (by kernel_rfl) (by kernel_rfl) (fun w hm => spec_l00Src_next.calls (⟨s0.fcode, t_1.2.fat, t_1.2.fseed⟩ : Gl00Src) w _ s0_fcode_a s0.fcode.length s0_fcode_c (hm.exRowW s0_fcode_h s0_fcode_ha) rfl s0_b (hm.pass (N := [⟨some s0_b, 220, [(.slice s0_fcode_a s0.fcode.length s0_fcode_c), (.int .i64 t_1.2.fat), (.int .u64 t_1.2.fseed)]⟩]) [0] (by kernel_rfl) (by kernel_rfl)) (hm.exApart (N := [⟨some s0_b, 220, [(.slice s0_fcode_a s0.fcode.length s0_fcode_c), (.int .i64 t_1.2.fat), (.int .u64 t_1.2.fseed)]⟩]) s0_fcode_h s0_fcode_ha [0] (by kernel_rfl)) ht_8) ?_)
        rintro w v w' hm ⟨rfl, hm'⟩
        refine ⟨_, hm.appW (ps := [(0, ⟨some s0_b, 220, [(.slice s0_fcode_a s0.fcode.length s0_fcode_c), (.int .i64 t_6.2.fat), (.int .u64 t_6.2.fseed)]⟩)]) (N := []) hm' (by kernel_rfl) (by kernel_rfl), jkO ?_⟩
        clear hm hm'
        refine jo_f [(0, 0), (0, 0)] (by kernel_rfl) ?_
        refine jo_end (by kernel_rfl) ?_
        exact jx_meet ⟨t_6.2.fat, t_6.2.fseed, (w64 ((w64 (t_1.1 * 256)) + t_6.1))⟩ h (by kernel_rfl) [0] (by kernel_rfl) (by kernel_rfl)
      · replace h := ifF hc_7 h
        refine jc_skip ?_
        exact jx_meet ⟨t_1.2.fat, t_1.2.fseed, t_1.1⟩ h (by kernel_rfl) [0] (by kernel_rfl) (by kernel_rfl)
    · rintro ⟨i_2, i_3, i_4⟩ h
      replace h : spec_l00Src_pick.k_5 s0 n1 i_2 i_3 i_4 = some r := h
      rw [spec_l00Src_pick.k_5] at h
      refine jx_then ?_
      refine jc_seq ?_
      refine jc_region ?_
      refine jo_f [(0, 0), (0, 0)] (by kernel_rfl) ?_
      obtain ⟨hg_6, h⟩ := gd h
      refine toO (by kernel_rfl) (p_rem 0 .i64 i_4 n1 (by kernel_rfl) (by kernel_rfl) hg_6 (jkO ?_))
      refine jo_f [(0, 0)] (by kernel_rfl) ?_
      refine jo_end (by kernel_rfl) ?_
      refine jx_then ?_
      refine jc_ret ?_
      obtain rfl := Option.some.inj h
      exact jx_ret [] (.int .i64 (Int.tmod i_4 n1)) [] rfl (by kernel_rfl) (by kernel_rfl) (fun w hm => ⟨rfl, hm.pick [0] (by kernel_rfl) (by kernel_rfl)⟩)

/-! ### spec.l02FrameDrawn -/
noncomputable def spec_l02FrameDrawn.k_6 (s0 : Gl00Src) (t_1 : Int × Gl00Src) (i_3 : Int) (i_4 : Int) (xs_5 : List GHammer) : Option (GFrame × Gl00Src) := some ((⟨(w16 (w64 (4 + t_1.1))), xs_5⟩ : GFrame), (⟨s0.fcode, i_3, i_4⟩ : Gl00Src))
noncomputable def spec_l02FrameDrawn.l_11 (s0 : Gl00Src) : (Int × Int × (List GHammer) × Int) → Option ((Int × Int × (List GHammer) × Int) ⊕ ((Int × Int × (List GHammer))))
  | (i_7, i_8, xs_9, i_10) => (if (decide (i_10 > 0)) = true then (spec_l00Src_pick (⟨s0.fcode, i_7, i_8⟩ : Gl00Src) 4).bind fun t_13 => (spec_l00Src_pick (⟨s0.fcode, t_13.2.fat, t_13.2.fseed⟩ : Gl00Src) 4).bind fun t_14 => (if xs_9.length + [(⟨(w8 (w64 (22 + t_13.1))), (w8 (w64 (1 + t_14.1)))⟩ : GHammer)].length ≤ 4294967296 then some (.inl (t_14.2.fat, t_14.2.fseed, (xs_9 ++ [(⟨(w8 (w64 (22 + t_13.1))), (w8 (w64 (1 + t_14.1)))⟩ : GHammer)]), (w64 (i_10 - 1)))) else none) else some (.inr (i_7, i_8, xs_9)))
noncomputable def spec_l02FrameDrawn (s0 : Gl00Src) : Option (GFrame × Gl00Src) := (spec_l00Src_pick s0 14).bind fun t_1 => (spec_l00Src_pick (⟨s0.fcode, t_1.2.fat, t_1.2.fseed⟩ : Gl00Src) 5).bind fun t_2 => (loop (spec_l02FrameDrawn.l_11 s0) (t_2.2.fat, t_2.2.fseed, [], (w64 (1 + t_2.1)))).bind fun t_12 => spec_l02FrameDrawn.k_6 s0 t_1 t_12.1 t_12.2.1 t_12.2.2
set_option maxRecDepth 100000 in
theorem spec_l02FrameDrawn.calls (s0 : Gl00Src) (w : World) (r : GFrame × Gl00Src) (s0_fcode_a : Option Addr) (s0_fcode_an : Nat) (s0_fcode_c : Nat) (s0_fcode_h : Rw w s0_fcode_a 1 encU8 s0.fcode) (s0_fcode_hn : s0.fcode.length = s0_fcode_an) (s0_b : Nat) (hm0 : Mem w (bs [some s0_b]) [⟨some s0_b, 220, [(.slice s0_fcode_a s0_fcode_an s0_fcode_c), (.int .i64 s0.fat), (.int .u64 s0.fseed)]⟩] w) (s0_fcode_ha : s0.fcode ≠ [] → aB s0_fcode_a ∉ bs [some s0_b]) (h : spec_l02FrameDrawn s0 = some r) :
    Calls Tryz.prog 62 #[(.pointer (some ⟨s0_b, 0, none⟩))] w fun e w' => ∃ v, e = .returned v ∧ (∃ (o0 : Option Nat) (c0 : Nat) (s0 : List Value) (n0 : Nat), r.1.fHammers.length = n0 ∧ (o0 ≠ none → n0 ≤ c0 ∧ s0.length = (c0 - n0) * 2) ∧ (o0 = none → r.1.fHammers = [] ∧ c0 = 0) ∧ v = .agg #[(.int .i16 r.1.fSteps), .slice (o0.map fun b => ⟨b, 0, none⟩) n0 c0] ∧ Mem w (bs [some s0_b]) [⟨some s0_b, 220, [(.slice s0_fcode_a s0_fcode_an s0_fcode_c), (.int .i64 r.2.fat), (.int .u64 r.2.fseed)]⟩, ⟨o0, 137, row encGHammer r.1.fHammers s0⟩] w') := by
  subst s0_fcode_hn
  rw [spec_l02FrameDrawn] at h
  refine enter (args := [(.pointer (some ⟨s0_b, 0, none⟩))]) Tryz.func62 rfl Tryz.ntmps62 (by kernel_rfl) (L := [⟨some s0_b, 220, [(.slice s0_fcode_a s0.fcode.length s0_fcode_c), (.int .i64 s0.fat), (.int .u64 s0.fseed)]⟩]) (W := bs [some s0_b]) hm0 ?_
  refine jc_seq ?_
  refine jc_region ?_
  refine toO (by kernel_rfl) (p_a 0 [0] (by kernel_rfl) (fun b => by kernel_rfl) (fun b_1 => jkO ?_))
  refine jo_end (by kernel_rfl) ?_
  refine jx_then ?_
  refine jc_seq ?_
  refine jc_region ?_
  refine jo_f [(0, 0)] (by kernel_rfl) ?_
  obtain ⟨t_1, ht_2, h⟩ := bd h
  refine toO (by kernel_rfl) (p_call 0 88 #[(.pointer (some ⟨s0_b, 0, none⟩)), (.int .i64 14)] (by kernel_rfl) (by kernel_rfl) (fun w hm => spec_l00Src_pick.calls s0 14 w _ s0_fcode_a s0.fcode.length s0_fcode_c (hm.exRowW s0_fcode_h s0_fcode_ha) rfl s0_b (hm.pass (N := [⟨some s0_b, 220, [(.slice s0_fcode_a s0.fcode.length s0_fcode_c), (.int .i64 s0.fat), (.int .u64 s0.fseed)]⟩]) [0] (by kernel_rfl) (by kernel_rfl)) (hm.exApart (N := [⟨some s0_b, 220, [(.slice s0_fcode_a s0.fcode.length s0_fcode_c), (.int .i64 s0.fat), (.int .u64 s0.fseed)]⟩]) s0_fcode_h s0_fcode_ha [0] (by kernel_rfl)) ht_2) ?_)
  rintro w v w' hm ⟨rfl, hm'⟩
  refine ⟨_, hm.appW (ps := [(0, ⟨some s0_b, 220, [(.slice s0_fcode_a s0.fcode.length s0_fcode_c), (.int .i64 t_1.2.fat), (.int .u64 t_1.2.fseed)]⟩)]) (N := []) hm' (by kernel_rfl) (by kernel_rfl), jkO ?_⟩
  clear hm hm'
  refine jo_f [(0, 0), (0, 0), (0, 0)] (by kernel_rfl) ?_
  refine toO (by kernel_rfl) (p_a 0 [0] (by kernel_rfl) (fun b => by kernel_rfl) (fun b_3 => jkO ?_))
  refine toO (by kernel_rfl) (p_s 0 [2] (by kernel_rfl) (by kernel_rfl) (jkO ?_))
  refine jo_end (by kernel_rfl) ?_
  refine jx_then ?_
  refine jc_seq ?_
  refine jc_seq ?_
  refine jc_region ?_
  refine jo_f [(0, 0)] (by kernel_rfl) ?_
  obtain ⟨t_2, ht_115, h⟩ := bd h
  refine toO (by kernel_rfl) (p_call 0 88 #[(.pointer (some ⟨s0_b, 0, none⟩)), (.int .i64 5)] (by kernel_rfl) (by kernel_rfl) (fun w hm => spec_l00Src_pick.calls (⟨s0.fcode, t_1.2.fat, t_1.2.fseed⟩ : Gl00Src) 5 w _ s0_fcode_a s0.fcode.length s0_fcode_c (hm.exRowW s0_fcode_h s0_fcode_ha) rfl s0_b (hm.pass (N := [⟨some s0_b, 220, [(.slice s0_fcode_a s0.fcode.length s0_fcode_c), (.int .i64 t_1.2.fat), (.int .u64 t_1.2.fseed)]⟩]) [0] (by kernel_rfl) (by kernel_rfl)) (hm.exApart (N := [⟨some s0_b, 220, [(.slice s0_fcode_a s0.fcode.length s0_fcode_c), (.int .i64 t_1.2.fat), (.int .u64 t_1.2.fseed)]⟩]) s0_fcode_h s0_fcode_ha [0] (by kernel_rfl)) ht_115) ?_)
  rintro w v w' hm ⟨rfl, hm'⟩
  refine ⟨_, hm.appW (ps := [(0, ⟨some s0_b, 220, [(.slice s0_fcode_a s0.fcode.length s0_fcode_c), (.int .i64 t_2.2.fat), (.int .u64 t_2.2.fseed)]⟩)]) (N := []) hm' (by kernel_rfl) (by kernel_rfl), jkO ?_⟩
  clear hm hm'
  refine jo_f [(0, 0), (0, 0)] (by kernel_rfl) ?_
  refine jo_end (by kernel_rfl) ?_
  refine jx_then ?_
  refine jc_meet (fun (j : Int × Int × (List GHammer) × (Option Nat) × Nat × (List Value) × Nat) => match j with | ⟨i_3, i_4, xs_5, o_168, cap_169, sp_170, n_171⟩ => spec_l02FrameDrawn.k_6 s0 t_1 i_3 i_4 xs_5 = some r ∧ (xs_5.length = n_171) ∧ ((o_168 ≠ none → n_171 ≤ cap_169 ∧ sp_170.length = (cap_169 - n_171) * 2)) ∧ ((o_168 = none → xs_5 = [] ∧ cap_169 = 0))) (fun (j : Int × Int × (List GHammer) × (Option Nat) × Nat × (List Value) × Nat) => match j with | ⟨i_3, i_4, xs_5, o_168, cap_169, sp_170, n_171⟩ => [(2, [], (.pointer (some ⟨b_1, 0, none⟩))), (3, [], (.pointer (some ⟨b_3, 0, none⟩)))]) (fun (j : Int × Int × (List GHammer) × (Option Nat) × Nat × (List Value) × Nat) => match j with | ⟨i_3, i_4, xs_5, o_168, cap_169, sp_170, n_171⟩ => [⟨some s0_b, 220, [(.slice s0_fcode_a s0.fcode.length s0_fcode_c), (.int .i64 i_3), (.int .u64 i_4)]⟩, ⟨some b_1, 27, [(.int .i16 0), (.slice none 0 0)]⟩, ⟨some b_3, 27, [(.int .i16 (w16 (w64 (4 + t_1.1)))), (.slice (o_168.map fun b => ⟨b, 0, none⟩) n_171 cap_169)]⟩, ⟨o_168, 137, row encGHammer xs_5 sp_170⟩]) ?_ ?_
  · refine jc_block ?_
    obtain ⟨t_12, ht_225, hr_210⟩ := bd h
    refine jc_ghost 137 encGHammer ?_
    refine jc_loop (fun (s : Int × Int × (List GHammer) × Int) (x : (Option Nat) × Nat × (List Value) × Nat) => match s, x with | ⟨i_7, i_8, xs_9, i_10⟩, ⟨o_204, cap_205, sp_206, n_207⟩ => (xs_9.length = n_207) ∧ ((o_204 ≠ none → n_207 ≤ cap_205 ∧ sp_206.length = (cap_205 - n_207) * 2)) ∧ ((o_204 = none → xs_9 = [] ∧ cap_205 = 0))) (fun (s : Int × Int × (List GHammer) × Int) (x : (Option Nat) × Nat × (List Value) × Nat) => match s, x with | ⟨i_7, i_8, xs_9, i_10⟩, ⟨o_204, cap_205, sp_206, n_207⟩ => [(0, [], (.pointer (some ⟨s0_b, 0, none⟩))), (2, [], (.pointer (some ⟨b_1, 0, none⟩))), (3, [], (.pointer (some ⟨b_3, 0, none⟩))), (4, [], (.int .i64 i_10))]) (fun (s : Int × Int × (List GHammer) × Int) (x : (Option Nat) × Nat × (List Value) × Nat) => match s, x with | ⟨i_7, i_8, xs_9, i_10⟩, ⟨o_204, cap_205, sp_206, n_207⟩ => [⟨some s0_b, 220, [(.slice s0_fcode_a s0.fcode.length s0_fcode_c), (.int .i64 i_7), (.int .u64 i_8)]⟩, ⟨some b_1, 27, [(.int .i16 0), (.slice none 0 0)]⟩, ⟨some b_3, 27, [(.int .i16 (w16 (w64 (4 + t_1.1)))), (.slice (o_204.map fun b => ⟨b, 0, none⟩) n_207 cap_205)]⟩, ⟨o_204, 137, row encGHammer xs_9 sp_206⟩]) ht_225 ⟨none, 0, [], 0⟩ ⟨rfl, (fun e => absurd rfl e), (fun _ => ⟨rfl, rfl⟩)⟩ (by kernel_rfl) [0, 1, 2, 3] (by kernel_rfl) (by kernel_rfl) ?_
    rintro ⟨i_7, i_8, xs_9, i_10⟩ ⟨o_204, cap_205, sp_206, n_207⟩ y_211 ⟨rfl, hs_208, ho_209⟩ h
    rw [spec_l02FrameDrawn.l_11] at h
    refine jc_seq ?_
    refine jc_seq ?_
    refine jc_region ?_
    refine jo_f [(0, 0), (0, 0)] (by kernel_rfl) ?_
    refine jo_end (by kernel_rfl) ?_
    refine jx_then ?_
    refine jc_cond (decide (i_10 > 0)) (by kernel_rfl) (fun hc_213 => ?_) (fun hc_213 => ?_)
    · replace h := ifT hc_213 h
      refine jc_skip ?_
      refine jx_then ?_
      refine jc_seq ?_
      refine jc_block ?_
      refine jc_seq ?_
      refine jc_region ?_
      refine jo_f [(0, 0)] (by kernel_rfl) ?_
      obtain ⟨t_13, ht_214, h⟩ := bd h
      refine toO (by kernel_rfl) (p_call 0 88 #[(.pointer (some ⟨s0_b, 0, none⟩)), (.int .i64 4)] (by kernel_rfl) (by kernel_rfl) (fun w hm => spec_l00Src_pick.calls (⟨s0.fcode, i_7, i_8⟩ : Gl00Src) 4 w _ s0_fcode_a s0.fcode.length s0_fcode_c (hm.exRowW s0_fcode_h s0_fcode_ha) rfl s0_b (hm.pass (N := [⟨some s0_b, 220, [(.slice s0_fcode_a s0.fcode.length s0_fcode_c), (.int .i64 i_7), (.int .u64 i_8)]⟩]) [0] (by kernel_rfl) (by kernel_rfl)) (hm.exApart (N := [⟨some s0_b, 220, [(.slice s0_fcode_a s0.fcode.length s0_fcode_c), (.int .i64 i_7), (.int .u64 i_8)]⟩]) s0_fcode_h s0_fcode_ha [0] (by kernel_rfl)) ht_214) ?_)
      rintro w v w' hm ⟨rfl, hm'⟩
      refine ⟨_, hm.appW (ps := [(0, ⟨some s0_b, 220, [(.slice s0_fcode_a s0.fcode.length s0_fcode_c), (.int .i64 t_13.2.fat), (.int .u64 t_13.2.fseed)]⟩)]) (N := []) hm' (by kernel_rfl) (by kernel_rfl), jkO ?_⟩
      clear hm hm'
      refine jo_f [(0, 0), (0, 0), (0, 0)] (by kernel_rfl) ?_
      refine toO (by kernel_rfl) (p_a 0 [0] (by kernel_rfl) (fun b => by kernel_rfl) (fun b_215 => jkO ?_))
      refine toO (by kernel_rfl) (p_s 0 [4] (by kernel_rfl) (by kernel_rfl) (jkO ?_))
      refine jo_end (by kernel_rfl) ?_
      refine jx_then ?_
      refine jc_seq ?_
      refine jc_region ?_
      refine jo_f [(0, 0)] (by kernel_rfl) ?_
      obtain ⟨t_14, ht_216, h⟩ := bd h
      refine toO (by kernel_rfl) (p_call 0 88 #[(.pointer (some ⟨s0_b, 0, none⟩)), (.int .i64 4)] (by kernel_rfl) (by kernel_rfl) (fun w hm => spec_l00Src_pick.calls (⟨s0.fcode, t_13.2.fat, t_13.2.fseed⟩ : Gl00Src) 4 w _ s0_fcode_a s0.fcode.length s0_fcode_c (hm.exRowW s0_fcode_h s0_fcode_ha) rfl s0_b (hm.pass (N := [⟨some s0_b, 220, [(.slice s0_fcode_a s0.fcode.length s0_fcode_c), (.int .i64 t_13.2.fat), (.int .u64 t_13.2.fseed)]⟩]) [0] (by kernel_rfl) (by kernel_rfl)) (hm.exApart (N := [⟨some s0_b, 220, [(.slice s0_fcode_a s0.fcode.length s0_fcode_c), (.int .i64 t_13.2.fat), (.int .u64 t_13.2.fseed)]⟩]) s0_fcode_h s0_fcode_ha [0] (by kernel_rfl)) ht_216) ?_)
      rintro w v w' hm ⟨rfl, hm'⟩
      refine ⟨_, hm.appW (ps := [(0, ⟨some s0_b, 220, [(.slice s0_fcode_a s0.fcode.length s0_fcode_c), (.int .i64 t_14.2.fat), (.int .u64 t_14.2.fseed)]⟩)]) (N := []) hm' (by kernel_rfl) (by kernel_rfl), jkO ?_⟩
      clear hm hm'
      refine jo_f [(0, 0), (0, 0), (0, 0)] (by kernel_rfl) ?_
      refine toO (by kernel_rfl) (p_s 0 [4] (by kernel_rfl) (by kernel_rfl) (jkO ?_))
      refine jo_end (by kernel_rfl) ?_
      refine jx_then ?_
      refine jc_region ?_
      refine jo_f [(0, 0), (2, 0), (4, 0)] (by kernel_rfl) ?_
      refine toO (by kernel_rfl) (p_a 0 [0] (by kernel_rfl) (fun b => by kernel_rfl) (fun b_217 => jkO ?_))
      obtain ⟨hg_218, h⟩ := gd h
      refine toO (by kernel_rfl) (p_apn 0 3 o_204 137 xs_9.length 1 cap_205 2 2 (some ⟨b_217, 0, none⟩) encGHammer xs_9 [(⟨(w8 (w64 (22 + t_13.1))), (w8 (w64 (1 + t_14.1)))⟩ : GHammer)] sp_206 (.agg #[(.int .i8 0), (.int .i8 0)]) rfl rfl (by kernel_rfl) (by kernel_rfl) (by kernel_rfl) encGHammer_len encGHammer_cell hs_208 ho_209 (fun w hm => (hm.ownRow (hh := 5) (o := (some b_217)) (T := 137) (enc := encGHammer) (xs := [(⟨(w8 (w64 (22 + t_13.1))), (w8 (w64 (1 + t_14.1)))⟩ : GHammer)]) (sp := []) (by kernel_rfl) (fun e => nomatch e) encGHammer_len)) hg_218 (by kernel_rfl) (by kernel_rfl) (fun o_219 cap_220 sp_221 hs_222 ho_223 => jkO ?_))
      refine jo_f [(0, 0)] (by kernel_rfl) ?_
      refine toO (by kernel_rfl) (p_s 0 [2] (by kernel_rfl) (by kernel_rfl) (jkO ?_))
      refine jo_end (by kernel_rfl) ?_
      refine jx_inn ?_
      refine jx_then ?_
      refine jc_region ?_
      refine jo_f [(0, 0), (0, 0), (0, 0)] (by kernel_rfl) ?_
      refine jo_end (by kernel_rfl) ?_
      exact jx_back (t_14.2.fat, t_14.2.fseed, (xs_9 ++ [(⟨(w8 (w64 (22 + t_13.1))), (w8 (w64 (1 + t_14.1)))⟩ : GHammer)]), (w64 (i_10 - 1))) ⟨o_219, cap_220, sp_221, (xs_9 ++ [(⟨(w8 (w64 (22 + t_13.1))), (w8 (w64 (1 + t_14.1)))⟩ : GHammer)]).length⟩ (Option.some.inj h).symm ⟨rfl, hs_222, ho_223⟩ [0, 1, 2, 3] (by kernel_rfl) (by kernel_rfl) (by kernel_rfl)
    · replace h := ifF hc_213 h
      refine jc_exit ?_
      refine jx_thenx ?_
      refine jx_leave (i_7, i_8, xs_9) (Option.some.inj h).symm (fun e_224 => ?_)
      subst e_224
      refine jx_ine ?_
      exact jx_meet ⟨i_7, i_8, xs_9, o_204, cap_205, sp_206, xs_9.length⟩ ⟨hr_210, rfl, hs_208, ho_209⟩ (by kernel_rfl) [0, 1, 2, 3] (by kernel_rfl) (by kernel_rfl)
  · rintro ⟨i_3, i_4, xs_5, o_168, cap_169, sp_170, n_171⟩ ⟨h, rfl, hs_172, ho_173⟩
    replace h : spec_l02FrameDrawn.k_6 s0 t_1 i_3 i_4 xs_5 = some r := h
    rw [spec_l02FrameDrawn.k_6] at h
    refine jx_then ?_
    refine jc_seq ?_
    refine jc_region ?_
    refine jo_f [(2, 0)] (by kernel_rfl) ?_
    refine toO (by kernel_rfl) (p_s 0 [1] (by kernel_rfl) (by kernel_rfl) (jkO ?_))
    refine jo_end (by kernel_rfl) ?_
    refine jx_then ?_
    refine jc_ret ?_
    obtain rfl := Option.some.inj h
    exact jx_ret [1] (.agg #[(.int .i16 (w16 (w64 (4 + t_1.1)))), (.slice (o_168.map fun b => ⟨b, 0, none⟩) xs_5.length cap_169)]) [(b_1, b_1), (b_1, b_1)] rfl (by kernel_rfl) (by kernel_rfl) (fun w hm => ⟨o_168, cap_169, sp_170, xs_5.length, rfl, hs_172, ho_173, rfl, hm.pick [0, 3] (by kernel_rfl) (by kernel_rfl)⟩)

/-! ### spec.A2Frame -/
noncomputable def spec_A2Frame (code0 : List Int) : Option (GFrame) := (spec_l00From code0).bind fun t_1 => (spec_l02FrameDrawn (⟨code0, t_1.fat, t_1.fseed⟩ : Gl00Src)).bind fun t_2 => some t_2.1
set_option maxRecDepth 100000 in
theorem spec_A2Frame.calls (code0 : List Int) (w : World) (r : GFrame) (code0_a : Option Addr) (code0_an : Nat) (code0_c : Nat) (code0_h : Rw w code0_a 1 encU8 code0) (code0_hn : code0.length = code0_an) (h : spec_A2Frame code0 = some r) :
    Calls Tryz.prog 7 #[(.slice code0_a code0_an code0_c)] w fun e w' => ∃ v, e = .returned v ∧ (∃ (o0 : Option Nat) (c0 : Nat) (s0 : List Value) (n0 : Nat), r.fHammers.length = n0 ∧ (o0 ≠ none → n0 ≤ c0 ∧ s0.length = (c0 - n0) * 2) ∧ (o0 = none → r.fHammers = [] ∧ c0 = 0) ∧ v = .agg #[(.int .i16 r.fSteps), .slice (o0.map fun b => ⟨b, 0, none⟩) n0 c0] ∧ Mem w [] [⟨o0, 137, row encGHammer r.fHammers s0⟩] w') := by
  subst code0_hn
  rw [spec_A2Frame] at h
  refine enter (args := [(.slice code0_a code0.length code0_c)]) Tryz.func7 rfl Tryz.ntmps7 (by kernel_rfl) (L := []) (W := []) (Mem.start w) ?_
  refine jc_seq ?_
  refine jc_region ?_
  refine toO (by kernel_rfl) (p_a 0 [0] (by kernel_rfl) (fun b => by kernel_rfl) (fun b_1 => jkO ?_))
  refine jo_end (by kernel_rfl) ?_
  refine jx_then ?_
  refine jc_seq ?_
  refine jc_region ?_
  refine jo_f [(0, 0)] (by kernel_rfl) ?_
  obtain ⟨t_1, ht_2, h⟩ := bd h
  refine toO (by kernel_rfl) (p_call 0 63 #[(.slice code0_a code0.length code0_c)] (by kernel_rfl) (by kernel_rfl) (fun w hm => spec_l00From.calls code0 w _ code0_a code0.length code0_c (hm.exRow code0_h List.not_mem_nil) rfl ht_2) ?_)
  rintro w v w' hm ⟨b_3, rfl, hm'⟩
  refine ⟨_, hm.app hm', jkO ?_⟩
  clear hm hm'
  obtain ⟨t_2, ht_4, h⟩ := bd h
  refine toO (by kernel_rfl) (p_call 0 62 #[(.pointer (some ⟨b_3, 0, none⟩))] (by kernel_rfl) (by kernel_rfl) (fun w hm => spec_l02FrameDrawn.calls (⟨code0, t_1.fat, t_1.fseed⟩ : Gl00Src) w _ code0_a code0.length code0_c (hm.exRow code0_h List.not_mem_nil) rfl b_3 (hm.pass (N := [⟨some b_3, 220, [(.slice code0_a code0.length code0_c), (.int .i64 t_1.fat), (.int .u64 t_1.fseed)]⟩]) [1] (by kernel_rfl) (by kernel_rfl)) (hm.exApart (N := [⟨some b_3, 220, [(.slice code0_a code0.length code0_c), (.int .i64 t_1.fat), (.int .u64 t_1.fseed)]⟩]) code0_h (fun _ => List.not_mem_nil) [1] (by kernel_rfl)) ht_4) ?_)
  rintro w v w' hm ⟨o_5, cap_6, sp_7, _, rfl, hs_8, ho_9, rfl, hm'⟩
  refine ⟨_, hm.appW (ps := [(1, ⟨some b_3, 220, [(.slice code0_a code0.length code0_c), (.int .i64 t_2.2.fat), (.int .u64 t_2.2.fseed)]⟩)]) (N := [⟨o_5, 137, row encGHammer t_2.1.fHammers sp_7⟩]) hm' (by kernel_rfl) (by kernel_rfl), jkO ?_⟩
  clear hm hm'
  refine toO (by kernel_rfl) (p_s 0 [0] (by kernel_rfl) (by kernel_rfl) (jkO ?_))
  refine jo_end (by kernel_rfl) ?_
  refine jx_then ?_
  refine jc_ret ?_
  obtain rfl := Option.some.inj h
  exact jx_ret [0] (.agg #[(.int .i16 t_2.1.fSteps), (.slice (o_5.map fun b => ⟨b, 0, none⟩) t_2.1.fHammers.length cap_6)]) [(b_1, b_1), (b_1, b_1)] rfl (by kernel_rfl) (by kernel_rfl) (fun w hm => ⟨o_5, cap_6, sp_7, t_2.1.fHammers.length, rfl, hs_8, ho_9, rfl, hm.pick [2] (by kernel_rfl) (by kernel_rfl)⟩)

/-! ### (*spec.l00Src).one -/
noncomputable def spec_l00Src_one (s0 : Gl00Src) (n1 : Int) : Option (Bool × Gl00Src) := (spec_l00Src_pick s0 n1).bind fun t_1 => some ((t_1.1 == 0), (⟨s0.fcode, t_1.2.fat, t_1.2.fseed⟩ : Gl00Src))
set_option maxRecDepth 100000 in
theorem spec_l00Src_one.calls (s0 : Gl00Src) (n1 : Int) (w : World) (r : Bool × Gl00Src) (s0_fcode_a : Option Addr) (s0_fcode_an : Nat) (s0_fcode_c : Nat) (s0_fcode_h : Rw w s0_fcode_a 1 encU8 s0.fcode) (s0_fcode_hn : s0.fcode.length = s0_fcode_an) (s0_b : Nat) (hm0 : Mem w (bs [some s0_b]) [⟨some s0_b, 220, [(.slice s0_fcode_a s0_fcode_an s0_fcode_c), (.int .i64 s0.fat), (.int .u64 s0.fseed)]⟩] w) (s0_fcode_ha : s0.fcode ≠ [] → aB s0_fcode_a ∉ bs [some s0_b]) (h : spec_l00Src_one s0 n1 = some r) :
    Calls Tryz.prog 154 #[(.pointer (some ⟨s0_b, 0, none⟩)), (.int .i64 n1)] w fun e w' => ∃ v, e = .returned v ∧ (v = (.bool r.1) ∧ Mem w (bs [some s0_b]) [⟨some s0_b, 220, [(.slice s0_fcode_a s0_fcode_an s0_fcode_c), (.int .i64 r.2.fat), (.int .u64 r.2.fseed)]⟩] w') := by
  subst s0_fcode_hn
  rw [spec_l00Src_one] at h
  refine enter (args := [(.pointer (some ⟨s0_b, 0, none⟩)), (.int .i64 n1)]) Tryz.func154 rfl Tryz.ntmps154 (by kernel_rfl) (L := [⟨some s0_b, 220, [(.slice s0_fcode_a s0.fcode.length s0_fcode_c), (.int .i64 s0.fat), (.int .u64 s0.fseed)]⟩]) (W := bs [some s0_b]) hm0 ?_
  refine jc_seq ?_
  refine jc_region ?_
  refine jo_f [(0, 0)] (by kernel_rfl) ?_
  refine jo_end (by kernel_rfl) ?_
  refine jx_then ?_
  refine jc_seq ?_
  refine jc_region ?_
  refine jo_f [(0, 0), (0, 0)] (by kernel_rfl) ?_
  obtain ⟨t_1, ht_1, h⟩ := bd h
  refine toO (by kernel_rfl) (p_call 0 88 #[(.pointer (some ⟨s0_b, 0, none⟩)), (.int .i64 n1)] (by kernel_rfl) (by kernel_rfl) (fun w hm => spec_l00Src_pick.calls s0 n1 w _ s0_fcode_a s0.fcode.length s0_fcode_c (hm.exRowW s0_fcode_h s0_fcode_ha) rfl s0_b (hm.pass (N := [⟨some s0_b, 220, [(.slice s0_fcode_a s0.fcode.length s0_fcode_c), (.int .i64 s0.fat), (.int .u64 s0.fseed)]⟩]) [0] (by kernel_rfl) (by kernel_rfl)) (hm.exApart (N := [⟨some s0_b, 220, [(.slice s0_fcode_a s0.fcode.length s0_fcode_c), (.int .i64 s0.fat), (.int .u64 s0.fseed)]⟩]) s0_fcode_h s0_fcode_ha [0] (by kernel_rfl)) ht_1) ?_)
  rintro w v w' hm ⟨rfl, hm'⟩
  refine ⟨_, hm.appW (ps := [(0, ⟨some s0_b, 220, [(.slice s0_fcode_a s0.fcode.length s0_fcode_c), (.int .i64 t_1.2.fat), (.int .u64 t_1.2.fseed)]⟩)]) (N := []) hm' (by kernel_rfl) (by kernel_rfl), jkO ?_⟩
  clear hm hm'
  refine jo_f [(0, 0), (0, 0)] (by kernel_rfl) ?_
  refine jo_end (by kernel_rfl) ?_
  refine jx_then ?_
  refine jc_ret ?_
  obtain rfl := Option.some.inj h
  exact jx_ret [] (.bool (t_1.1 == 0)) [] rfl (by kernel_rfl) (by kernel_rfl) (fun w hm => ⟨rfl, hm.pick [0] (by kernel_rfl) (by kernel_rfl)⟩)

/-! ### spec.l02Pin -/
noncomputable def spec_l02Pin (d0 : Arr 96 Int) (step1 : Int) (track2 : Int) : Option (Bool) := (ix d0.1 step1).bind fun x_1 => (if 0 ≤ (u64 track2) then some ((Int.tmod (bShr .u32 x_1 (u64 track2)) 2) == 1) else none)
set_option maxRecDepth 100000 in
theorem spec_l02Pin.calls (d0 : Arr 96 Int) (step1 : Int) (track2 : Int) (w : World) (r : Bool) (d0_b : Nat) (hm0 : Mem w (bs [some d0_b]) [⟨(some d0_b), 31, row encU32 d0.1 []⟩] w) (h : spec_l02Pin d0 step1 track2 = some r) :
    Calls Tryz.prog 187 #[(.pointer (some ⟨d0_b, 0, none⟩)), (.int .i64 step1), (.int .i64 track2)] w fun e w' => ∃ v, e = .returned v ∧ (v = (.bool r) ∧ Mem w (bs [some d0_b]) [⟨(some d0_b), 31, row encU32 d0.1 []⟩] w') := by
  rw [spec_l02Pin] at h
  refine enter (args := [(.pointer (some ⟨d0_b, 0, none⟩)), (.int .i64 step1), (.int .i64 track2)]) Tryz.func187 rfl Tryz.ntmps187 (by kernel_rfl) (L := [⟨(some d0_b), 31, row encU32 d0.1 []⟩]) (W := bs [some d0_b]) hm0 ?_
  refine jc_seq ?_
  refine jc_region ?_
  refine jo_f [(0, 0)] (by kernel_rfl) ?_
  refine jo_end (by kernel_rfl) ?_
  refine jx_then ?_
  refine jc_seq ?_
  refine jc_region ?_
  refine jo_f [(0, 0), (0, 0), (0, 0)] (by kernel_rfl) ?_
  obtain ⟨x_1, hx_1, h⟩ := bd h
  refine toO (by kernel_rfl) (p_idx 0 (some ⟨d0_b, 0, none⟩) 96 step1 1 (by kernel_rfl) (by kernel_rfl) (ix_some hx_1).1 (ltn hx_1 d0.2) rfl (jkO ?_))
  refine toO (by kernel_rfl) (p_ld 0 (aB (some ⟨d0_b, 0, none⟩)) (aO (some ⟨d0_b, 0, none⟩) + step1.toNat * 1) false (encU32 x_1) (by kernel_rfl) (by kernel_rfl) (by kernel_rfl) (fun w hm => ((hm.ownRow (hh := 0) (o := (some d0_b)) (T := 31) (enc := encU32) (xs := d0.1) (sp := []) (by kernel_rfl) (fun e => nomatch e) encU32_len).at hx_1)) (jkO ?_))
  refine jo_f [(0, 0), (0, 0)] (by kernel_rfl) ?_
  obtain ⟨hg_2, h⟩ := gd h
  refine toO (by kernel_rfl) (p_shr 0 .u32 x_1 .u64 (u64 track2) (by kernel_rfl) (by kernel_rfl) hg_2 (jkO ?_))
  refine jo_f [(0, 0), (0, 0), (0, 0)] (by kernel_rfl) ?_
  refine jo_end (by kernel_rfl) ?_
  refine jx_then ?_
  refine jc_ret ?_
  obtain rfl := Option.some.inj h
  exact jx_ret [] (.bool ((Int.tmod (bShr .u32 x_1 (u64 track2)) 2) == 1)) [] rfl (by kernel_rfl) (by kernel_rfl) (fun w hm => ⟨rfl, hm.pick [0] (by kernel_rfl) (by kernel_rfl)⟩)

/-! ### spec.l02Free -/
noncomputable def spec_l02Free.k_3 : Option (Bool) := some true
noncomputable def spec_l02Free.k_8 (i_4 : Int) (q_7 : Bool) : Option ((Int) ⊕ (Bool ⊕ Unit)) := (if q_7 = true then some (.inr (.inl false)) else some (.inl (w64 (i_4 + 1))))
noncomputable def spec_l02Free.l_5 (f0 : GFrame) (d1 : Arr 96 Int) (step2 : Int) (track3 : Int) (x_2 : GHammer) : Int → Option ((Int) ⊕ (Bool ⊕ Unit))
  | i_4 => (if (decide (i_4 < (w64 x_2.fReady))) = true then (if (w64 f0.fSteps) ≠ 0 then (spec_l02Pin d1 (Int.tmod (w64 (step2 + i_4)) (w64 f0.fSteps)) track3).bind fun t_9 => (if t_9 = true then spec_l02Free.k_8 i_4 true else (if (w64 f0.fSteps) ≠ 0 then (spec_l02Pin d1 (Int.tmod (w64 ((w64 (step2 + (w64 f0.fSteps))) - i_4)) (w64 f0.fSteps)) track3).bind fun t_10 => spec_l02Free.k_8 i_4 t_10 else none)) else none) else some (.inr (.inr ())))
noncomputable def spec_l02Free (f0 : GFrame) (d1 : Arr 96 Int) (step2 : Int) (track3 : Int) : Option (Bool) := (spec_l02Pin d1 step2 track3).bind fun t_1 => (if t_1 = true then some false else (ix f0.fHammers track3).bind fun x_2 => (loop (spec_l02Free.l_5 f0 d1 step2 track3 x_2) 1).bind fun t_6 => match t_6 with | .inl p => some p | .inr p => spec_l02Free.k_3)
set_option maxRecDepth 100000 in
theorem spec_l02Free.calls (f0 : GFrame) (d1 : Arr 96 Int) (step2 : Int) (track3 : Int) (w : World) (r : Bool) (f0_fHammers_a : Option Addr) (f0_fHammers_an : Nat) (f0_fHammers_c : Nat) (f0_fHammers_h : Rw w f0_fHammers_a 2 encGHammer f0.fHammers) (f0_fHammers_hn : f0.fHammers.length = f0_fHammers_an) (f0_b : Nat) (d1_b : Nat) (hm0 : Mem w (bs [some f0_b, some d1_b]) [⟨some f0_b, 27, [(.int .i16 f0.fSteps), (.slice f0_fHammers_a f0_fHammers_an f0_fHammers_c)]⟩, ⟨(some d1_b), 31, row encU32 d1.1 []⟩] w) (f0_fHammers_ha : f0.fHammers ≠ [] → aB f0_fHammers_a ∉ bs [some f0_b, some d1_b]) (h : spec_l02Free f0 d1 step2 track3 = some r) :
    Calls Tryz.prog 155 #[(.pointer (some ⟨f0_b, 0, none⟩)), (.pointer (some ⟨d1_b, 0, none⟩)), (.int .i64 step2), (.int .i64 track3)] w fun e w' => ∃ v, e = .returned v ∧ (v = (.bool r) ∧ Mem w (bs [some f0_b, some d1_b]) [⟨some f0_b, 27, [(.int .i16 f0.fSteps), (.slice f0_fHammers_a f0_fHammers_an f0_fHammers_c)]⟩, ⟨(some d1_b), 31, row encU32 d1.1 []⟩] w') := by
  subst f0_fHammers_hn
  rw [spec_l02Free] at h
  refine enter (args := [(.pointer (some ⟨f0_b, 0, none⟩)), (.pointer (some ⟨d1_b, 0, none⟩)), (.int .i64 step2), (.int .i64 track3)]) Tryz.func155 rfl Tryz.ntmps155 (by kernel_rfl) (L := [⟨some f0_b, 27, [(.int .i16 f0.fSteps), (.slice f0_fHammers_a f0.fHammers.length f0_fHammers_c)]⟩, ⟨(some d1_b), 31, row encU32 d1.1 []⟩]) (W := bs [some f0_b, some d1_b]) hm0 ?_
  refine jc_seq ?_
  refine jc_region ?_
  refine jo_f [(0, 0)] (by kernel_rfl) ?_
  refine jo_end (by kernel_rfl) ?_
  refine jx_then ?_
  refine jc_seq ?_
  refine jc_seq ?_
  refine jc_region ?_
  refine jo_f [(0, 0), (0, 0), (0, 0)] (by kernel_rfl) ?_
  obtain ⟨t_1, ht_3, h⟩ := bd h
  refine toO (by kernel_rfl) (p_call 0 187 #[(.pointer (some ⟨d1_b, 0, none⟩)), (.int .i64 step2), (.int .i64 track3)] (by kernel_rfl) (by kernel_rfl) (fun w hm => spec_l02Pin.calls d1 step2 track3 w _ d1_b (hm.pass (N := [⟨(some d1_b), 31, row encU32 d1.1 []⟩]) [1] (by kernel_rfl) (by kernel_rfl)) ht_3) ?_)
  rintro w v w' hm ⟨rfl, hm'⟩
  refine ⟨_, hm.appW (ps := [(1, ⟨(some d1_b), 31, row encU32 d1.1 []⟩)]) (N := []) hm' (by kernel_rfl) (by kernel_rfl), jkO ?_⟩
  clear hm hm'
  refine jo_end (by kernel_rfl) ?_
  refine jx_then ?_
  refine jc_cond t_1 (by kernel_rfl) (fun hc_4 => ?_) (fun hc_4 => ?_)
  · replace h := ifT hc_4 h
    refine jc_seq ?_
    refine jc_region ?_
    refine jo_f [(0, 0)] (by kernel_rfl) ?_
    refine jo_end (by kernel_rfl) ?_
    refine jx_then ?_
    refine jc_ret ?_
    refine jx_thenr ?_
    obtain rfl := Option.some.inj h
    exact jx_ret [] (.bool false) [] rfl (by kernel_rfl) (by kernel_rfl) (fun w hm => ⟨rfl, hm.pick [0, 1] (by kernel_rfl) (by kernel_rfl)⟩)
  · replace h := ifF hc_4 h
    refine jc_skip ?_
    refine jx_then ?_
    refine jc_seq ?_
    refine jc_region ?_
    refine jo_f [(0, 0), (0, 0), (0, 0), (0, 0), (0, 0), (0, 0)] (by kernel_rfl) ?_
    refine jo_end (by kernel_rfl) ?_
    refine jx_then ?_
    refine jc_seq ?_
    refine jc_region ?_
    refine jo_f [(0, 0), (0, 0), (0, 0), (0, 0), (0, 0)] (by kernel_rfl) ?_
    obtain ⟨x_2, hx_5, h⟩ := bd h
    refine toO (by kernel_rfl) (p_idx 0 f0_fHammers_a f0.fHammers.length track3 2 (by kernel_rfl) (by kernel_rfl) (ix_some hx_5).1 (ltn hx_5 rfl) (f0_fHammers_h.sp hx_5) (jkO ?_))
    refine jo_f [(0, 0)] (by kernel_rfl) ?_
    refine toO (by kernel_rfl) (p_ld 0 (aB f0_fHammers_a) (aO f0_fHammers_a + track3.toNat * 2 + 1) false (((encGHammer x_2).drop 1).take 1) (by kernel_rfl) (by kernel_rfl) (by kernel_rfl) (fun w hm => (((hm.exRowW f0_fHammers_h f0_fHammers_ha).at hx_5).sub 1 1)) (jkO ?_))
    refine jo_f [(0, 0), (0, 0)] (by kernel_rfl) ?_
    refine jo_end (by kernel_rfl) ?_
    refine jx_then ?_
    refine jc_seq ?_
    refine jc_seq ?_
    refine jc_region ?_
    refine jo_f [(0, 0)] (by kernel_rfl) ?_
    refine jo_end (by kernel_rfl) ?_
    refine jx_then ?_
    refine jc_meet (fun (_ : Unit) => spec_l02Free.k_3 = some r) (fun (_ : Unit) => [(8, [], (.bool false))]) (fun (_ : Unit) => [⟨some f0_b, 27, [(.int .i16 f0.fSteps), (.slice f0_fHammers_a f0.fHammers.length f0_fHammers_c)]⟩, ⟨(some d1_b), 31, row encU32 d1.1 []⟩]) ?_ ?_
    · refine jc_block ?_
      obtain ⟨t_6, ht_93, hr_76⟩ := bd h
      refine jc_loop (fun (s : Int) (x : Unit) => match s, x with | i_4, _ => True) (fun (s : Int) (x : Unit) => match s, x with | i_4, _ => [(1, [], (.pointer (some ⟨d1_b, 0, none⟩))), (2, [], (.int .i64 step2)), (3, [], (.int .i64 track3)), (8, [], (.bool false)), (9, [], (.int .i64 (w64 f0.fSteps))), (10, [], (.int .i64 (w64 x_2.fReady))), (11, [], (.int .i64 i_4))]) (fun (s : Int) (x : Unit) => match s, x with | i_4, _ => [⟨some f0_b, 27, [(.int .i16 f0.fSteps), (.slice f0_fHammers_a f0.fHammers.length f0_fHammers_c)]⟩, ⟨(some d1_b), 31, row encU32 d1.1 []⟩]) ht_93 () trivial (by kernel_rfl) [0, 1] (by kernel_rfl) (by kernel_rfl) ?_
      rintro i_4 _ y_77 _ h
      rw [spec_l02Free.l_5] at h
      refine jc_seq ?_
      refine jc_seq ?_
      refine jc_region ?_
      refine jo_f [(0, 0), (0, 0), (0, 0)] (by kernel_rfl) ?_
      refine jo_end (by kernel_rfl) ?_
      refine jx_then ?_
      refine jc_cond (decide (i_4 < (w64 x_2.fReady))) (by kernel_rfl) (fun hc_79 => ?_) (fun hc_79 => ?_)
      · replace h := ifT hc_79 h
        refine jc_skip ?_
        refine jx_then ?_
        refine jc_seq ?_
        refine jc_block ?_
        refine jc_seq ?_
        refine jc_meet (fun (j : Bool) => match j with | q_7 => spec_l02Free.k_8 i_4 q_7 = some y_77) (fun (j : Bool) => match j with | q_7 => [(1, [], (.pointer (some ⟨d1_b, 0, none⟩))), (2, [], (.int .i64 step2)), (3, [], (.int .i64 track3)), (8, [], (.bool false)), (9, [], (.int .i64 (w64 f0.fSteps))), (10, [], (.int .i64 (w64 x_2.fReady))), (11, [], (.int .i64 i_4)), (54, [], (.bool q_7))]) (fun (j : Bool) => match j with | q_7 => [⟨some f0_b, 27, [(.int .i16 f0.fSteps), (.slice f0_fHammers_a f0.fHammers.length f0_fHammers_c)]⟩, ⟨(some d1_b), 31, row encU32 d1.1 []⟩]) ?_ ?_
        · refine jc_region ?_
          refine jo_f [(0, 0), (0, 0), (0, 0), (0, 0), (0, 0)] (by kernel_rfl) ?_
          obtain ⟨hg_87, h⟩ := gd h
          refine toO (by kernel_rfl) (p_rem 0 .i64 (w64 (step2 + i_4)) (w64 f0.fSteps) (by kernel_rfl) (by kernel_rfl) hg_87 (jkO ?_))
          refine jo_f [(0, 0)] (by kernel_rfl) ?_
          obtain ⟨t_9, ht_88, h⟩ := bd h
          refine toO (by kernel_rfl) (p_call 0 187 #[(.pointer (some ⟨d1_b, 0, none⟩)), (.int .i64 (Int.tmod (w64 (step2 + i_4)) (w64 f0.fSteps))), (.int .i64 track3)] (by kernel_rfl) (by kernel_rfl) (fun w hm => spec_l02Pin.calls d1 (Int.tmod (w64 (step2 + i_4)) (w64 f0.fSteps)) track3 w _ d1_b (hm.pass (N := [⟨(some d1_b), 31, row encU32 d1.1 []⟩]) [1] (by kernel_rfl) (by kernel_rfl)) ht_88) ?_)
          rintro w v w' hm ⟨rfl, hm'⟩
          refine ⟨_, hm.appW (ps := [(1, ⟨(some d1_b), 31, row encU32 d1.1 []⟩)]) (N := []) hm' (by kernel_rfl) (by kernel_rfl), jkO ?_⟩
          clear hm hm'
          refine jo_f [(0, 0), (0, 1), (0, 1), (0, 1), (0, 1), (0, 1), (0, 1), (0, 1)] (by kernel_rfl) ?_
          refine jo_split 43 t_9 (by kernel_rfl) (fun hc_89 => ?_) (fun hc_89 => ?_)
          · replace h := ifT hc_89 h
            refine jo_f [(0, 3), (0, 3), (0, 3), (0, 4)] (by kernel_rfl) ?_
            refine jo_end (by kernel_rfl) ?_
            exact jx_meet true h (by kernel_rfl) [0, 1] (by kernel_rfl) (by kernel_rfl)
          · replace h := ifF hc_89 h
            obtain ⟨hg_90, h⟩ := gd h
            refine toO (by kernel_rfl) (p_rem 2 .i64 (w64 ((w64 (step2 + (w64 f0.fSteps))) - i_4)) (w64 f0.fSteps) (by kernel_rfl) (by kernel_rfl) hg_90 (jkO ?_))
            refine jo_f [(0, 2)] (by kernel_rfl) ?_
            obtain ⟨t_10, ht_91, h⟩ := bd h
            refine toO (by kernel_rfl) (p_call 2 187 #[(.pointer (some ⟨d1_b, 0, none⟩)), (.int .i64 (Int.tmod (w64 ((w64 (step2 + (w64 f0.fSteps))) - i_4)) (w64 f0.fSteps))), (.int .i64 track3)] (by kernel_rfl) (by kernel_rfl) (fun w hm => spec_l02Pin.calls d1 (Int.tmod (w64 ((w64 (step2 + (w64 f0.fSteps))) - i_4)) (w64 f0.fSteps)) track3 w _ d1_b (hm.pass (N := [⟨(some d1_b), 31, row encU32 d1.1 []⟩]) [1] (by kernel_rfl) (by kernel_rfl)) ht_91) ?_)
            rintro w v w' hm ⟨rfl, hm'⟩
            refine ⟨_, hm.appW (ps := [(1, ⟨(some d1_b), 31, row encU32 d1.1 []⟩)]) (N := []) hm' (by kernel_rfl) (by kernel_rfl), jkO ?_⟩
            clear hm hm'
            refine jo_f [(0, 5)] (by kernel_rfl) ?_
            refine jo_end (by kernel_rfl) ?_
            exact jx_meet t_10 h (by kernel_rfl) [0, 1] (by kernel_rfl) (by kernel_rfl)
        · rintro q_7 h
          replace h : spec_l02Free.k_8 i_4 q_7 = some y_77 := h
          rw [spec_l02Free.k_8] at h
          refine jx_then ?_
          refine jc_cond q_7 (by kernel_rfl) (fun hc_85 => ?_) (fun hc_85 => ?_)
          · replace h := ifT hc_85 h
            refine jc_seq ?_
            refine jc_region ?_
            refine jo_f [(0, 0)] (by kernel_rfl) ?_
            refine jo_end (by kernel_rfl) ?_
            refine jx_then ?_
            refine jc_ret ?_
            refine jx_inr ?_
            refine jx_thenr ?_
            refine jx_leaver (.inl false) (Option.some.inj h).symm (fun e_86 => ?_)
            subst e_86
            refine jx_inr ?_
            refine jx_thenr ?_
            refine jx_thenr ?_
            obtain rfl := Option.some.inj hr_76
            exact jx_ret [] (.bool false) [] rfl (by kernel_rfl) (by kernel_rfl) (fun w hm => ⟨rfl, hm.pick [0, 1] (by kernel_rfl) (by kernel_rfl)⟩)
          · replace h := ifF hc_85 h
            refine jc_skip ?_
            refine jx_inn ?_
            refine jx_then ?_
            refine jc_region ?_
            refine jo_f [(0, 0), (0, 0), (0, 0)] (by kernel_rfl) ?_
            refine jo_end (by kernel_rfl) ?_
            exact jx_back (w64 (i_4 + 1)) () (Option.some.inj h).symm trivial [0, 1] (by kernel_rfl) (by kernel_rfl) (by kernel_rfl)
      · replace h := ifF hc_79 h
        refine jc_exit ?_
        refine jx_thenx ?_
        refine jx_leave (.inr ()) (Option.some.inj h).symm (fun e_92 => ?_)
        subst e_92
        refine jx_ine ?_
        exact jx_meet () hr_76 (by kernel_rfl) [0, 1] (by kernel_rfl) (by kernel_rfl)
    · rintro _ h
      replace h : spec_l02Free.k_3 = some r := h
      rw [spec_l02Free.k_3] at h
      refine jx_then ?_
      refine jc_seq ?_
      refine jc_region ?_
      refine jo_f [(0, 0)] (by kernel_rfl) ?_
      refine jo_end (by kernel_rfl) ?_
      refine jx_then ?_
      refine jc_ret ?_
      obtain rfl := Option.some.inj h
      exact jx_ret [] (.bool true) [] rfl (by kernel_rfl) (by kernel_rfl) (fun w hm => ⟨rfl, hm.pick [0, 1] (by kernel_rfl) (by kernel_rfl)⟩)

/-! ### spec.l02Drawn -/
noncomputable def spec_l02Drawn.k_6 (s0 : Gl00Src) (a_3 : Arr 96 Int) (i_4 : Int) (i_5 : Int) : Option ((Arr 96 Int) × Gl00Src) := some (a_3, (⟨s0.fcode, i_4, i_5⟩ : Gl00Src))
noncomputable def spec_l02Drawn.k_16 (a_7 : Arr 96 Int) (i_10 : Int) (t_13 : Int × Gl00Src) (t_14 : Int × Gl00Src) (q_15 : Bool) : Option (((Arr 96 Int) × Int × Int × Int) ⊕ (((Arr 96 Int) × Int × Int))) := (if q_15 = true then (ix a_7.1 t_13.1).bind fun x_17 => (if 0 ≤ (u64 t_14.1) then (ix a_7.1 t_13.1).bind fun x_18 => some (.inl ((Arr.set a_7 t_13.1 (bOr .u32 x_17 (bShl .u32 1 (u64 t_14.1)))), t_14.2.fat, t_14.2.fseed, (w64 (i_10 - 1)))) else none) else some (.inl (a_7, t_14.2.fat, t_14.2.fseed, (w64 (i_10 - 1)))))
noncomputable def spec_l02Drawn.l_11 (s0 : Gl00Src) (f1 : GFrame) (t_1 : Bool × Gl00Src) : ((Arr 96 Int) × Int × Int × Int) → Option (((Arr 96 Int) × Int × Int × Int) ⊕ (((Arr 96 Int) × Int × Int)))
  | (a_7, i_8, i_9, i_10) => (if (decide (i_10 > 0)) = true then (spec_l00Src_pick (⟨s0.fcode, i_8, i_9⟩ : Gl00Src) (w64 f1.fSteps)).bind fun t_13 => (spec_l00Src_pick (⟨s0.fcode, t_13.2.fat, t_13.2.fseed⟩ : Gl00Src) (f1.fHammers.length : Int)).bind fun t_14 => (if t_1.1 = true then spec_l02Drawn.k_16 a_7 i_10 t_13 t_14 true else (spec_l02Free f1 a_7 t_13.1 t_14.1).bind fun t_19 => spec_l02Drawn.k_16 a_7 i_10 t_13 t_14 t_19) else some (.inr (a_7, i_8, i_9)))
noncomputable def spec_l02Drawn (s0 : Gl00Src) (f1 : GFrame) : Option ((Arr 96 Int) × Gl00Src) := (spec_l00Src_one s0 4).bind fun t_1 => (spec_l00Src_pick (⟨s0.fcode, t_1.2.fat, t_1.2.fseed⟩ : Gl00Src) 12).bind fun t_2 => (loop (spec_l02Drawn.l_11 s0 f1 t_1) ((Arr.rep 96 0), t_2.2.fat, t_2.2.fseed, t_2.1)).bind fun t_12 => spec_l02Drawn.k_6 s0 t_12.1 t_12.2.1 t_12.2.2
set_option maxRecDepth 100000 in
theorem spec_l02Drawn.calls (s0 : Gl00Src) (f1 : GFrame) (w : World) (r : (Arr 96 Int) × Gl00Src) (s0_fcode_a : Option Addr) (s0_fcode_an : Nat) (s0_fcode_c : Nat) (s0_fcode_h : Rw w s0_fcode_a 1 encU8 s0.fcode) (s0_fcode_hn : s0.fcode.length = s0_fcode_an) (f1_fHammers_a : Option Addr) (f1_fHammers_an : Nat) (f1_fHammers_c : Nat) (f1_fHammers_h : Rw w f1_fHammers_a 2 encGHammer f1.fHammers) (f1_fHammers_hn : f1.fHammers.length = f1_fHammers_an) (s0_b : Nat) (f1_b : Nat) (hm0 : Mem w (bs [some s0_b, some f1_b]) [⟨some s0_b, 220, [(.slice s0_fcode_a s0_fcode_an s0_fcode_c), (.int .i64 s0.fat), (.int .u64 s0.fseed)]⟩, ⟨some f1_b, 27, [(.int .i16 f1.fSteps), (.slice f1_fHammers_a f1_fHammers_an f1_fHammers_c)]⟩] w) (s0_fcode_ha : s0.fcode ≠ [] → aB s0_fcode_a ∉ bs [some s0_b, some f1_b]) (f1_fHammers_ha : f1.fHammers ≠ [] → aB f1_fHammers_a ∉ bs [some s0_b, some f1_b]) (h : spec_l02Drawn s0 f1 = some r) :
    Calls Tryz.prog 64 #[(.pointer (some ⟨s0_b, 0, none⟩)), (.pointer (some ⟨f1_b, 0, none⟩))] w fun e w' => ∃ v, e = .returned v ∧ (v = (.agg (row encU32 r.1.1 []).toArray) ∧ Mem w (bs [some s0_b, some f1_b]) [⟨some s0_b, 220, [(.slice s0_fcode_a s0_fcode_an s0_fcode_c), (.int .i64 r.2.fat), (.int .u64 r.2.fseed)]⟩, ⟨some f1_b, 27, [(.int .i16 f1.fSteps), (.slice f1_fHammers_a f1_fHammers_an f1_fHammers_c)]⟩] w') := by
  subst s0_fcode_hn f1_fHammers_hn
  rw [spec_l02Drawn] at h
  refine enter (args := [(.pointer (some ⟨s0_b, 0, none⟩)), (.pointer (some ⟨f1_b, 0, none⟩))]) Tryz.func64 rfl Tryz.ntmps64 (by kernel_rfl) (L := [⟨some s0_b, 220, [(.slice s0_fcode_a s0.fcode.length s0_fcode_c), (.int .i64 s0.fat), (.int .u64 s0.fseed)]⟩, ⟨some f1_b, 27, [(.int .i16 f1.fSteps), (.slice f1_fHammers_a f1.fHammers.length f1_fHammers_c)]⟩]) (W := bs [some s0_b, some f1_b]) hm0 ?_
  refine jc_seq ?_
  refine jc_region ?_
  refine toO (by kernel_rfl) (p_a 0 [0] (by kernel_rfl) (fun b => by kernel_rfl) (fun b_1 => jkO ?_))
  refine jo_end (by kernel_rfl) ?_
  refine jx_then ?_
  refine jc_seq ?_
  refine jc_region ?_
  refine jo_f [(0, 0)] (by kernel_rfl) ?_
  refine toO (by kernel_rfl) (p_a 0 [0] (by kernel_rfl) (fun b => by kernel_rfl) (fun b_2 => jkO ?_))
  refine toO (by kernel_rfl) (p_sA 0 3 b_2 96 1 31 encU32 (Arr.rep 96 0) (Arr.rep 96 0) (by kernel_rfl) (by kernel_rfl) (by kernel_rfl) encU32_len encU32_cell (by kernel_rfl) (jkO ?_))
  refine jo_end (by kernel_rfl) ?_
  refine jx_then ?_
  refine jc_seq ?_
  refine jc_region ?_
  refine jo_f [(0, 0)] (by kernel_rfl) ?_
  obtain ⟨t_1, ht_3, h⟩ := bd h
  refine toO (by kernel_rfl) (p_call 0 154 #[(.pointer (some ⟨s0_b, 0, none⟩)), (.int .i64 4)] (by kernel_rfl) (by kernel_rfl) (fun w hm => spec_l00Src_one.calls s0 4 w _ s0_fcode_a s0.fcode.length s0_fcode_c (hm.exRowW s0_fcode_h s0_fcode_ha) rfl s0_b (hm.pass (N := [⟨some s0_b, 220, [(.slice s0_fcode_a s0.fcode.length s0_fcode_c), (.int .i64 s0.fat), (.int .u64 s0.fseed)]⟩]) [0] (by kernel_rfl) (by kernel_rfl)) (hm.exApart (N := [⟨some s0_b, 220, [(.slice s0_fcode_a s0.fcode.length s0_fcode_c), (.int .i64 s0.fat), (.int .u64 s0.fseed)]⟩]) s0_fcode_h s0_fcode_ha [0] (by kernel_rfl)) ht_3) ?_)
  rintro w v w' hm ⟨rfl, hm'⟩
  refine ⟨_, hm.appW (ps := [(0, ⟨some s0_b, 220, [(.slice s0_fcode_a s0.fcode.length s0_fcode_c), (.int .i64 t_1.2.fat), (.int .u64 t_1.2.fseed)]⟩)]) (N := []) hm' (by kernel_rfl) (by kernel_rfl), jkO ?_⟩
  clear hm hm'
  refine jo_f [(0, 0)] (by kernel_rfl) ?_
  refine jo_end (by kernel_rfl) ?_
  refine jx_then ?_
  refine jc_seq ?_
  refine jc_seq ?_
  refine jc_region ?_
  refine jo_f [(0, 0)] (by kernel_rfl) ?_
  obtain ⟨t_2, ht_85, h⟩ := bd h
  refine toO (by kernel_rfl) (p_call 0 88 #[(.pointer (some ⟨s0_b, 0, none⟩)), (.int .i64 12)] (by kernel_rfl) (by kernel_rfl) (fun w hm => spec_l00Src_pick.calls (⟨s0.fcode, t_1.2.fat, t_1.2.fseed⟩ : Gl00Src) 12 w _ s0_fcode_a s0.fcode.length s0_fcode_c (hm.exRowW s0_fcode_h s0_fcode_ha) rfl s0_b (hm.pass (N := [⟨some s0_b, 220, [(.slice s0_fcode_a s0.fcode.length s0_fcode_c), (.int .i64 t_1.2.fat), (.int .u64 t_1.2.fseed)]⟩]) [0] (by kernel_rfl) (by kernel_rfl)) (hm.exApart (N := [⟨some s0_b, 220, [(.slice s0_fcode_a s0.fcode.length s0_fcode_c), (.int .i64 t_1.2.fat), (.int .u64 t_1.2.fseed)]⟩]) s0_fcode_h s0_fcode_ha [0] (by kernel_rfl)) ht_85) ?_)
  rintro w v w' hm ⟨rfl, hm'⟩
  refine ⟨_, hm.appW (ps := [(0, ⟨some s0_b, 220, [(.slice s0_fcode_a s0.fcode.length s0_fcode_c), (.int .i64 t_2.2.fat), (.int .u64 t_2.2.fseed)]⟩)]) (N := []) hm' (by kernel_rfl) (by kernel_rfl), jkO ?_⟩
  clear hm hm'
  refine jo_f [(0, 0)] (by kernel_rfl) ?_
  refine jo_end (by kernel_rfl) ?_
  refine jx_then ?_
  refine jc_meet (fun (j : (Arr 96 Int) × Int × Int) => match j with | ⟨a_3, i_4, i_5⟩ => spec_l02Drawn.k_6 s0 a_3 i_4 i_5 = some r) (fun (j : (Arr 96 Int) × Int × Int) => match j with | ⟨a_3, i_4, i_5⟩ => [(4, [], (.pointer (some ⟨b_1, 0, none⟩))), (5, [], (.pointer (some ⟨b_2, 0, none⟩)))]) (fun (j : (Arr 96 Int) × Int × Int) => match j with | ⟨a_3, i_4, i_5⟩ => [⟨some s0_b, 220, [(.slice s0_fcode_a s0.fcode.length s0_fcode_c), (.int .i64 i_4), (.int .u64 i_5)]⟩, ⟨some f1_b, 27, [(.int .i16 f1.fSteps), (.slice f1_fHammers_a f1.fHammers.length f1_fHammers_c)]⟩, ⟨(some b_1), 31, row encU32 ((Arr.rep 96 0).1) []⟩, ⟨(some b_2), 31, row encU32 a_3.1 []⟩]) ?_ ?_
  · refine jc_block ?_
    obtain ⟨t_12, ht_165, hr_150⟩ := bd h
    refine jc_loop (fun (s : (Arr 96 Int) × Int × Int × Int) (x : Unit) => match s, x with | ⟨a_7, i_8, i_9, i_10⟩, _ => True) (fun (s : (Arr 96 Int) × Int × Int × Int) (x : Unit) => match s, x with | ⟨a_7, i_8, i_9, i_10⟩, _ => [(0, [], (.pointer (some ⟨s0_b, 0, none⟩))), (1, [], (.pointer (some ⟨f1_b, 0, none⟩))), (4, [], (.pointer (some ⟨b_1, 0, none⟩))), (5, [], (.pointer (some ⟨b_2, 0, none⟩))), (6, [], (.bool t_1.1)), (7, [], (.int .i64 i_10))]) (fun (s : (Arr 96 Int) × Int × Int × Int) (x : Unit) => match s, x with | ⟨a_7, i_8, i_9, i_10⟩, _ => [⟨some s0_b, 220, [(.slice s0_fcode_a s0.fcode.length s0_fcode_c), (.int .i64 i_8), (.int .u64 i_9)]⟩, ⟨some f1_b, 27, [(.int .i16 f1.fSteps), (.slice f1_fHammers_a f1.fHammers.length f1_fHammers_c)]⟩, ⟨(some b_1), 31, row encU32 ((Arr.rep 96 0).1) []⟩, ⟨(some b_2), 31, row encU32 a_7.1 []⟩]) ht_165 () trivial (by kernel_rfl) [0, 1, 2, 3] (by kernel_rfl) (by kernel_rfl) ?_
    rintro ⟨a_7, i_8, i_9, i_10⟩ _ y_151 _ h
    rw [spec_l02Drawn.l_11] at h
    refine jc_seq ?_
    refine jc_seq ?_
    refine jc_region ?_
    refine jo_f [(0, 0), (0, 0)] (by kernel_rfl) ?_
    refine jo_end (by kernel_rfl) ?_
    refine jx_then ?_
    refine jc_cond (decide (i_10 > 0)) (by kernel_rfl) (fun hc_153 => ?_) (fun hc_153 => ?_)
    · replace h := ifT hc_153 h
      refine jc_skip ?_
      refine jx_then ?_
      refine jc_seq ?_
      refine jc_block ?_
      refine jc_seq ?_
      refine jc_region ?_
      refine jo_f [(0, 0), (0, 0), (0, 0), (0, 0), (1, 0), (0, 0)] (by kernel_rfl) ?_
      obtain ⟨t_13, ht_154, h⟩ := bd h
      refine toO (by kernel_rfl) (p_call 0 88 #[(.pointer (some ⟨s0_b, 0, none⟩)), (.int .i64 (w64 f1.fSteps))] (by kernel_rfl) (by kernel_rfl) (fun w hm => spec_l00Src_pick.calls (⟨s0.fcode, i_8, i_9⟩ : Gl00Src) (w64 f1.fSteps) w _ s0_fcode_a s0.fcode.length s0_fcode_c (hm.exRowW s0_fcode_h s0_fcode_ha) rfl s0_b (hm.pass (N := [⟨some s0_b, 220, [(.slice s0_fcode_a s0.fcode.length s0_fcode_c), (.int .i64 i_8), (.int .u64 i_9)]⟩]) [0] (by kernel_rfl) (by kernel_rfl)) (hm.exApart (N := [⟨some s0_b, 220, [(.slice s0_fcode_a s0.fcode.length s0_fcode_c), (.int .i64 i_8), (.int .u64 i_9)]⟩]) s0_fcode_h s0_fcode_ha [0] (by kernel_rfl)) ht_154) ?_)
      rintro w v w' hm ⟨rfl, hm'⟩
      refine ⟨_, hm.appW (ps := [(0, ⟨some s0_b, 220, [(.slice s0_fcode_a s0.fcode.length s0_fcode_c), (.int .i64 t_13.2.fat), (.int .u64 t_13.2.fseed)]⟩)]) (N := []) hm' (by kernel_rfl) (by kernel_rfl), jkO ?_⟩
      clear hm hm'
      refine jo_f [(0, 0)] (by kernel_rfl) ?_
      refine jo_end (by kernel_rfl) ?_
      refine jx_then ?_
      refine jc_seq ?_
      refine jc_region ?_
      refine jo_f [(0, 0), (0, 0), (0, 0), (0, 0), (1, 0), (0, 0)] (by kernel_rfl) ?_
      obtain ⟨t_14, ht_155, h⟩ := bd h
      refine toO (by kernel_rfl) (p_call 0 88 #[(.pointer (some ⟨s0_b, 0, none⟩)), (.int .i64 (f1.fHammers.length : Int))] (by kernel_rfl) (by kernel_rfl) (fun w hm => spec_l00Src_pick.calls (⟨s0.fcode, t_13.2.fat, t_13.2.fseed⟩ : Gl00Src) (f1.fHammers.length : Int) w _ s0_fcode_a s0.fcode.length s0_fcode_c (hm.exRowW s0_fcode_h s0_fcode_ha) rfl s0_b (hm.pass (N := [⟨some s0_b, 220, [(.slice s0_fcode_a s0.fcode.length s0_fcode_c), (.int .i64 t_13.2.fat), (.int .u64 t_13.2.fseed)]⟩]) [0] (by kernel_rfl) (by kernel_rfl)) (hm.exApart (N := [⟨some s0_b, 220, [(.slice s0_fcode_a s0.fcode.length s0_fcode_c), (.int .i64 t_13.2.fat), (.int .u64 t_13.2.fseed)]⟩]) s0_fcode_h s0_fcode_ha [0] (by kernel_rfl)) ht_155) ?_)
      rintro w v w' hm ⟨rfl, hm'⟩
      refine ⟨_, hm.appW (ps := [(0, ⟨some s0_b, 220, [(.slice s0_fcode_a s0.fcode.length s0_fcode_c), (.int .i64 t_14.2.fat), (.int .u64 t_14.2.fseed)]⟩)]) (N := []) hm' (by kernel_rfl) (by kernel_rfl), jkO ?_⟩
      clear hm hm'
      refine jo_f [(0, 0)] (by kernel_rfl) ?_
      refine jo_end (by kernel_rfl) ?_
      refine jx_then ?_
      refine jc_seq ?_
      refine jc_meet (fun (j : Bool) => match j with | q_15 => spec_l02Drawn.k_16 a_7 i_10 t_13 t_14 q_15 = some y_151) (fun (j : Bool) => match j with | q_15 => [(0, [], (.pointer (some ⟨s0_b, 0, none⟩))), (1, [], (.pointer (some ⟨f1_b, 0, none⟩))), (4, [], (.pointer (some ⟨b_1, 0, none⟩))), (5, [], (.pointer (some ⟨b_2, 0, none⟩))), (6, [], (.bool t_1.1)), (7, [], (.int .i64 i_10)), (8, [], (.int .i64 t_13.1)), (9, [], (.int .i64 t_14.1)), (39, [], (.bool q_15))]) (fun (j : Bool) => match j with | q_15 => [⟨some s0_b, 220, [(.slice s0_fcode_a s0.fcode.length s0_fcode_c), (.int .i64 t_14.2.fat), (.int .u64 t_14.2.fseed)]⟩, ⟨some f1_b, 27, [(.int .i16 f1.fSteps), (.slice f1_fHammers_a f1.fHammers.length f1_fHammers_c)]⟩, ⟨(some b_1), 31, row encU32 ((Arr.rep 96 0).1) []⟩, ⟨(some b_2), 31, row encU32 a_7.1 []⟩]) ?_ ?_
      · refine jc_region ?_
        refine jo_f [(0, 0), (0, 0), (0, 1), (0, 1), (0, 1)] (by kernel_rfl) ?_
        refine jo_split 34 t_1.1 (by kernel_rfl) (fun hc_162 => ?_) (fun hc_162 => ?_)
        · replace h := ifT hc_162 h
          refine jo_f [(0, 3), (0, 4)] (by kernel_rfl) ?_
          refine jo_end (by kernel_rfl) ?_
          exact jx_meet true h (by kernel_rfl) [0, 1, 2, 3] (by kernel_rfl) (by kernel_rfl)
        · replace h := ifF hc_162 h
          obtain ⟨t_19, ht_163, h⟩ := bd h
          refine toO (by kernel_rfl) (p_call 2 155 #[(.pointer (some ⟨f1_b, 0, none⟩)), (.pointer (some ⟨b_2, 0, none⟩)), (.int .i64 t_13.1), (.int .i64 t_14.1)] (by kernel_rfl) (by kernel_rfl) (fun w hm => spec_l02Free.calls f1 a_7 t_13.1 t_14.1 w _ f1_fHammers_a f1.fHammers.length f1_fHammers_c (hm.exRowW f1_fHammers_h f1_fHammers_ha) rfl f1_b b_2 (hm.pass (N := [⟨some f1_b, 27, [(.int .i16 f1.fSteps), (.slice f1_fHammers_a f1.fHammers.length f1_fHammers_c)]⟩, ⟨(some b_2), 31, row encU32 a_7.1 []⟩]) [1, 3] (by kernel_rfl) (by kernel_rfl)) (hm.exApart (N := [⟨some f1_b, 27, [(.int .i16 f1.fSteps), (.slice f1_fHammers_a f1.fHammers.length f1_fHammers_c)]⟩, ⟨(some b_2), 31, row encU32 a_7.1 []⟩]) f1_fHammers_h f1_fHammers_ha [1, 3] (by kernel_rfl)) ht_163) ?_)
          rintro w v w' hm ⟨rfl, hm'⟩
          refine ⟨_, hm.appW (ps := [(1, ⟨some f1_b, 27, [(.int .i16 f1.fSteps), (.slice f1_fHammers_a f1.fHammers.length f1_fHammers_c)]⟩), (3, ⟨(some b_2), 31, row encU32 a_7.1 []⟩)]) (N := []) hm' (by kernel_rfl) (by kernel_rfl), jkO ?_⟩
          clear hm hm'
          refine jo_f [(0, 5)] (by kernel_rfl) ?_
          refine jo_end (by kernel_rfl) ?_
          exact jx_meet t_19 h (by kernel_rfl) [0, 1, 2, 3] (by kernel_rfl) (by kernel_rfl)
      · rintro q_15 h
        replace h : spec_l02Drawn.k_16 a_7 i_10 t_13 t_14 q_15 = some y_151 := h
        rw [spec_l02Drawn.k_16] at h
        refine jx_then ?_
        refine jc_cond q_15 (by kernel_rfl) (fun hc_158 => ?_) (fun hc_158 => ?_)
        · replace h := ifT hc_158 h
          refine jc_region ?_
          refine jo_f [(0, 0), (0, 0)] (by kernel_rfl) ?_
          obtain ⟨x_17, hx_159, h⟩ := bd h
          refine toO (by kernel_rfl) (p_idx 0 (some ⟨b_2, 0, none⟩) 96 t_13.1 1 (by kernel_rfl) (by kernel_rfl) (ix_some hx_159).1 (ltn hx_159 a_7.2) rfl (jkO ?_))
          refine toO (by kernel_rfl) (p_ld 0 (aB (some ⟨b_2, 0, none⟩)) (aO (some ⟨b_2, 0, none⟩) + t_13.1.toNat * 1) false (encU32 x_17) (by kernel_rfl) (by kernel_rfl) (by kernel_rfl) (fun w hm => ((hm.ownRow (hh := 3) (o := (some b_2)) (T := 31) (enc := encU32) (xs := a_7.1) (sp := []) (by kernel_rfl) (fun e => nomatch e) encU32_len).at hx_159)) (jkO ?_))
          refine jo_f [(0, 0), (0, 0)] (by kernel_rfl) ?_
          obtain ⟨hg_160, h⟩ := gd h
          refine toO (by kernel_rfl) (p_shl 0 .u32 1 .u64 (u64 t_14.1) (by kernel_rfl) (by kernel_rfl) hg_160 (jkO ?_))
          refine jo_f [(0, 0)] (by kernel_rfl) ?_
          obtain ⟨x_18, hx_161, h⟩ := bd h
          refine toO (by kernel_rfl) (p_idx 0 (some ⟨b_2, 0, none⟩) 96 t_13.1 1 (by kernel_rfl) (by kernel_rfl) (ix_some hx_161).1 (ltn hx_161 a_7.2) rfl (jkO ?_))
          refine toO (by kernel_rfl) (p_str 0 3 b_2 31 encU32 a_7.1 [] t_13.1 (bOr .u32 x_17 (bShl .u32 1 (u64 t_14.1))) 1 0 [(.int .u32 (bOr .u32 x_17 (bShl .u32 1 (u64 t_14.1))))] (by kernel_rfl) (by kernel_rfl) (by kernel_rfl) encU32_len hx_161 (by kernel_rfl) (by kernel_rfl) (jkO ?_))
          refine jo_end (by kernel_rfl) ?_
          refine jx_inn ?_
          refine jx_then ?_
          refine jc_region ?_
          refine jo_f [(0, 0), (0, 0), (0, 0)] (by kernel_rfl) ?_
          refine jo_end (by kernel_rfl) ?_
          exact jx_back ((Arr.set a_7 t_13.1 (bOr .u32 x_17 (bShl .u32 1 (u64 t_14.1)))), t_14.2.fat, t_14.2.fseed, (w64 (i_10 - 1))) () (Option.some.inj h).symm trivial [0, 1, 2, 3] (by kernel_rfl) (by kernel_rfl) (by kernel_rfl)
        · replace h := ifF hc_158 h
          refine jc_skip ?_
          refine jx_inn ?_
          refine jx_then ?_
          refine jc_region ?_
          refine jo_f [(0, 0), (0, 0), (0, 0)] (by kernel_rfl) ?_
          refine jo_end (by kernel_rfl) ?_
          exact jx_back (a_7, t_14.2.fat, t_14.2.fseed, (w64 (i_10 - 1))) () (Option.some.inj h).symm trivial [0, 1, 2, 3] (by kernel_rfl) (by kernel_rfl) (by kernel_rfl)
    · replace h := ifF hc_153 h
      refine jc_exit ?_
      refine jx_thenx ?_
      refine jx_leave (a_7, i_8, i_9) (Option.some.inj h).symm (fun e_164 => ?_)
      subst e_164
      refine jx_ine ?_
      exact jx_meet ⟨a_7, i_8, i_9⟩ hr_150 (by kernel_rfl) [0, 1, 2, 3] (by kernel_rfl) (by kernel_rfl)
  · rintro ⟨a_3, i_4, i_5⟩ h
    replace h : spec_l02Drawn.k_6 s0 a_3 i_4 i_5 = some r := h
    rw [spec_l02Drawn.k_6] at h
    refine jx_then ?_
    refine jc_seq ?_
    refine jc_region ?_
    refine toO (by kernel_rfl) (p_ldA 0 3 b_2 96 1 31 encU32 a_3 (by kernel_rfl) (by kernel_rfl) (by kernel_rfl) encU32_len (by kernel_rfl) (jkO ?_))
    refine toO (by kernel_rfl) (p_sA 0 2 b_1 96 1 31 encU32 (Arr.rep 96 0) a_3 (by kernel_rfl) (by kernel_rfl) (by kernel_rfl) encU32_len encU32_cell (by kernel_rfl) (jkO ?_))
    refine jo_end (by kernel_rfl) ?_
    refine jx_then ?_
    refine jc_ret ?_
    obtain rfl := Option.some.inj h
    exact jx_retV rfl (rq_arr (b := b_1) (T' := 31) (hh := 2) (mm := 1) encU32 a_3 (by kernel_rfl) (by kernel_rfl) encU32_len (by kernel_rfl) rq_nil) (fun w hm => ⟨rfl, hm.pick [0, 1] (by kernel_rfl) (by kernel_rfl)⟩)

/-! ### spec.A2Drum -/
noncomputable def spec_A2Drum (code0 : List Int) (f1 : GFrame) : Option ((Arr 96 Int)) := (spec_l00From code0).bind fun t_1 => (spec_l02Drawn (⟨code0, t_1.fat, t_1.fseed⟩ : Gl00Src) f1).bind fun t_2 => some t_2.1
set_option maxRecDepth 100000 in
theorem spec_A2Drum.calls (code0 : List Int) (f1 : GFrame) (w : World) (r : (Arr 96 Int)) (code0_a : Option Addr) (code0_an : Nat) (code0_c : Nat) (code0_h : Rw w code0_a 1 encU8 code0) (code0_hn : code0.length = code0_an) (f1_fHammers_a : Option Addr) (f1_fHammers_an : Nat) (f1_fHammers_c : Nat) (f1_fHammers_h : Rw w f1_fHammers_a 2 encGHammer f1.fHammers) (f1_fHammers_hn : f1.fHammers.length = f1_fHammers_an) (h : spec_A2Drum code0 f1 = some r) :
    Calls Tryz.prog 8 #[(.slice code0_a code0_an code0_c), (.agg #[(.int .i16 f1.fSteps), (.slice f1_fHammers_a f1_fHammers_an f1_fHammers_c)])] w fun e w' => ∃ v, e = .returned v ∧ (v = (.agg (row encU32 r.1 []).toArray) ∧ Mem w [] [] w') := by
  subst code0_hn f1_fHammers_hn
  rw [spec_A2Drum] at h
  refine enter (args := [(.slice code0_a code0.length code0_c), (.agg #[(.int .i16 f1.fSteps), (.slice f1_fHammers_a f1.fHammers.length f1_fHammers_c)])]) Tryz.func8 rfl Tryz.ntmps8 (by kernel_rfl) (L := []) (W := []) (Mem.start w) ?_
  refine jc_seq ?_
  refine jc_region ?_
  refine toO (by kernel_rfl) (p_a 0 [0] (by kernel_rfl) (fun b => by kernel_rfl) (fun b_1 => jkO ?_))
  refine toO (by kernel_rfl) (p_a 0 [0] (by kernel_rfl) (fun b => by kernel_rfl) (fun b_2 => jkO ?_))
  refine jo_end (by kernel_rfl) ?_
  refine jx_then ?_
  refine jc_seq ?_
  refine jc_region ?_
  refine jo_f [(0, 0)] (by kernel_rfl) ?_
  obtain ⟨t_1, ht_3, h⟩ := bd h
  refine toO (by kernel_rfl) (p_call 0 63 #[(.slice code0_a code0.length code0_c)] (by kernel_rfl) (by kernel_rfl) (fun w hm => spec_l00From.calls code0 w _ code0_a code0.length code0_c (hm.exRow code0_h List.not_mem_nil) rfl ht_3) ?_)
  rintro w v w' hm ⟨b_4, rfl, hm'⟩
  refine ⟨_, hm.app hm', jkO ?_⟩
  clear hm hm'
  obtain ⟨t_2, ht_5, h⟩ := bd h
  refine toO (by kernel_rfl) (p_call 0 64 #[(.pointer (some ⟨b_4, 0, none⟩)), (.pointer (some ⟨b_1, 0, none⟩))] (by kernel_rfl) (by kernel_rfl) (fun w hm => spec_l02Drawn.calls (⟨code0, t_1.fat, t_1.fseed⟩ : Gl00Src) f1 w _ code0_a code0.length code0_c (hm.exRow code0_h List.not_mem_nil) rfl f1_fHammers_a f1.fHammers.length f1_fHammers_c (hm.exRow f1_fHammers_h List.not_mem_nil) rfl b_4 b_1 (hm.pass (N := [⟨some b_4, 220, [(.slice code0_a code0.length code0_c), (.int .i64 t_1.fat), (.int .u64 t_1.fseed)]⟩, ⟨some b_1, 27, [(.int .i16 f1.fSteps), (.slice f1_fHammers_a f1.fHammers.length f1_fHammers_c)]⟩]) [2, 0] (by kernel_rfl) (by kernel_rfl)) (hm.exApart (N := [⟨some b_4, 220, [(.slice code0_a code0.length code0_c), (.int .i64 t_1.fat), (.int .u64 t_1.fseed)]⟩, ⟨some b_1, 27, [(.int .i16 f1.fSteps), (.slice f1_fHammers_a f1.fHammers.length f1_fHammers_c)]⟩]) code0_h (fun _ => List.not_mem_nil) [2, 0] (by kernel_rfl)) (hm.exApart (N := [⟨some b_4, 220, [(.slice code0_a code0.length code0_c), (.int .i64 t_1.fat), (.int .u64 t_1.fseed)]⟩, ⟨some b_1, 27, [(.int .i16 f1.fSteps), (.slice f1_fHammers_a f1.fHammers.length f1_fHammers_c)]⟩]) f1_fHammers_h (fun _ => List.not_mem_nil) [2, 0] (by kernel_rfl)) ht_5) ?_)
  rintro w v w' hm ⟨rfl, hm'⟩
  refine ⟨_, hm.appW (ps := [(2, ⟨some b_4, 220, [(.slice code0_a code0.length code0_c), (.int .i64 t_2.2.fat), (.int .u64 t_2.2.fseed)]⟩), (0, ⟨some b_1, 27, [(.int .i16 f1.fSteps), (.slice f1_fHammers_a f1.fHammers.length f1_fHammers_c)]⟩)]) (N := []) hm' (by kernel_rfl) (by kernel_rfl), jkO ?_⟩
  clear hm hm'
  refine toO (by kernel_rfl) (p_sA 0 1 b_2 96 1 31 encU32 (Arr.rep 96 0) t_2.1 (by kernel_rfl) (by kernel_rfl) (by kernel_rfl) encU32_len encU32_cell (by kernel_rfl) (jkO ?_))
  refine jo_end (by kernel_rfl) ?_
  refine jx_then ?_
  refine jc_ret ?_
  obtain rfl := Option.some.inj h
  exact jx_retV rfl (rq_arr (b := b_2) (T' := 31) (hh := 1) (mm := 1) encU32 t_2.1 (by kernel_rfl) (by kernel_rfl) encU32_len (by kernel_rfl) rq_nil) (fun w hm => ⟨rfl, hm.pick [] (by kernel_rfl) (by kernel_rfl)⟩)

/-! ### impl.within -/
noncomputable def impl_within (n0 : Int) (low1 : Int) (high2 : Int) : Option (Bool) := some ((decide (low1 ≤ n0)) && (decide (n0 ≤ high2)))
set_option maxRecDepth 100000 in
theorem impl_within.calls (n0 : Int) (low1 : Int) (high2 : Int) (w : World) (r : Bool) (h : impl_within n0 low1 high2 = some r) :
    Calls Tryz.prog 74 #[(.int .i64 n0), (.int .i64 low1), (.int .i64 high2)] w fun e w' => ∃ v, e = .returned v ∧ (v = (.bool r) ∧ Mem w [] [] w') := by
  rw [impl_within] at h
  refine enter (args := [(.int .i64 n0), (.int .i64 low1), (.int .i64 high2)]) Tryz.func74 rfl Tryz.ntmps74 (by kernel_rfl) (L := []) (W := []) (Mem.start w) ?_
  refine jc_seq ?_
  refine jc_region ?_
  refine jo_f [(0, 0)] (by kernel_rfl) ?_
  refine jo_end (by kernel_rfl) ?_
  refine jx_then ?_
  refine jc_seq ?_
  refine jc_region ?_
  refine jo_f [(0, 0), (0, 0), (0, 0), (0, 0), (0, 1), (0, 1), (0, 1), (0, 0), (0, 0)] (by kernel_rfl) ?_
  refine jo_end (by kernel_rfl) ?_
  refine jx_then ?_
  refine jc_ret ?_
  obtain rfl := Option.some.inj h
  exact jx_ret [] (.bool ((decide (low1 ≤ n0)) && (decide (n0 ≤ high2)))) [] rfl (by kernel_rfl) (by kernel_rfl) (fun w hm => ⟨rfl, hm.pick [] (by kernel_rfl) (by kernel_rfl)⟩)

/-! ### impl.size[impl.Hammer] -/
noncomputable def impl_size_Hammer (list0 : List GHammer) : Option (Int) := some (list0.length : Int)
set_option maxRecDepth 100000 in
theorem impl_size_Hammer.calls (list0 : List GHammer) (w : World) (r : Int) (list0_a : Option Addr) (list0_an : Nat) (list0_c : Nat) (list0_h : Rw w list0_a 2 encGHammer list0) (list0_hn : list0.length = list0_an) (h : impl_size_Hammer list0 = some r) :
    Calls Tryz.prog 181 #[(.slice list0_a list0_an list0_c)] w fun e w' => ∃ v, e = .returned v ∧ (v = (.int .i64 r) ∧ Mem w [] [] w') := by
  subst list0_hn
  rw [impl_size_Hammer] at h
  refine enter (args := [(.slice list0_a list0.length list0_c)]) Tryz.func181 rfl Tryz.ntmps181 (by kernel_rfl) (L := []) (W := []) (Mem.start w) ?_
  refine jc_seq ?_
  refine jc_region ?_
  refine jo_f [(0, 0)] (by kernel_rfl) ?_
  refine jo_end (by kernel_rfl) ?_
  refine jx_then ?_
  refine jc_seq ?_
  refine jc_region ?_
  refine jo_f [(0, 0), (0, 0), (0, 0)] (by kernel_rfl) ?_
  refine jo_end (by kernel_rfl) ?_
  refine jx_then ?_
  refine jc_ret ?_
  obtain rfl := Option.some.inj h
  exact jx_ret [] (.int .i64 (list0.length : Int)) [] rfl (by kernel_rfl) (by kernel_rfl) (fun w hm => ⟨rfl, hm.pick [] (by kernel_rfl) (by kernel_rfl)⟩)

/-! ### impl.isPitch -/
noncomputable def impl_isPitch (n0 : Int) : Option (Bool) := (impl_within n0 0 47).bind fun t_1 => some t_1
set_option maxRecDepth 100000 in
theorem impl_isPitch.calls (n0 : Int) (w : World) (r : Bool) (h : impl_isPitch n0 = some r) :
    Calls Tryz.prog 194 #[(.int .i64 n0)] w fun e w' => ∃ v, e = .returned v ∧ (v = (.bool r) ∧ Mem w [] [] w') := by
  rw [impl_isPitch] at h
  refine enter (args := [(.int .i64 n0)]) Tryz.func194 rfl Tryz.ntmps194 (by kernel_rfl) (L := []) (W := []) (Mem.start w) ?_
  refine jc_seq ?_
  refine jc_region ?_
  refine jo_f [(0, 0)] (by kernel_rfl) ?_
  refine jo_end (by kernel_rfl) ?_
  refine jx_then ?_
  refine jc_seq ?_
  refine jc_region ?_
  refine jo_f [(0, 0)] (by kernel_rfl) ?_
  obtain ⟨t_1, ht_1, h⟩ := bd h
  refine toO (by kernel_rfl) (p_call 0 74 #[(.int .i64 n0), (.int .i64 0), (.int .i64 47)] (by kernel_rfl) (by kernel_rfl) (fun w hm => impl_within.calls n0 0 47 w _ ht_1) ?_)
  rintro w v w' hm ⟨rfl, hm'⟩
  refine ⟨_, hm.app hm', jkO ?_⟩
  clear hm hm'
  refine jo_f [(0, 0)] (by kernel_rfl) ?_
  refine jo_end (by kernel_rfl) ?_
  refine jx_then ?_
  refine jc_ret ?_
  obtain rfl := Option.some.inj h
  exact jx_ret [] (.bool t_1) [] rfl (by kernel_rfl) (by kernel_rfl) (fun w hm => ⟨rfl, hm.pick [] (by kernel_rfl) (by kernel_rfl)⟩)

/-! ### impl.ValidFrame$1 -/
noncomputable def impl_ValidFrame_1 (h0 : GHammer) (p1 : GFrame) : Option (Bool) := (impl_isPitch (w64 h0.fPitch)).bind fun t_1 => (if (!t_1) = true then some true else (impl_within (w64 h0.fReady) 1 (if (w64 p1.fSteps) < 20 then (w64 p1.fSteps) else 20)).bind fun t_2 => some (!t_2))
set_option maxRecDepth 100000 in
theorem impl_ValidFrame_1.calls (h0 : GHammer) (p1 : GFrame) (w : World) (r : Bool) (p1_fHammers_a : Option Addr) (p1_fHammers_an : Nat) (p1_fHammers_c : Nat) (p1_fHammers_h : Rw w p1_fHammers_a 2 encGHammer p1.fHammers) (p1_fHammers_hn : p1.fHammers.length = p1_fHammers_an) (p1_b : Nat) (hm0 : Mem w (bs [some p1_b]) [⟨some p1_b, 27, [(.int .i16 p1.fSteps), (.slice p1_fHammers_a p1_fHammers_an p1_fHammers_c)]⟩] w) (p1_fHammers_ha : p1.fHammers ≠ [] → aB p1_fHammers_a ∉ bs [some p1_b]) (h : impl_ValidFrame_1 h0 p1 = some r) :
    Calls Tryz.prog 193 #[(.agg #[(.int .i8 h0.fPitch), (.int .i8 h0.fReady)]), (.pointer (some ⟨p1_b, 0, none⟩))] w fun e w' => ∃ v, e = .returned v ∧ (v = (.bool r) ∧ Mem w (bs [some p1_b]) [⟨some p1_b, 27, [(.int .i16 p1.fSteps), (.slice p1_fHammers_a p1_fHammers_an p1_fHammers_c)]⟩] w') := by
  subst p1_fHammers_hn
  rw [impl_ValidFrame_1] at h
  refine enter (args := [(.agg #[(.int .i8 h0.fPitch), (.int .i8 h0.fReady)]), (.pointer (some ⟨p1_b, 0, none⟩))]) Tryz.func193 rfl Tryz.ntmps193 (by kernel_rfl) (L := [⟨some p1_b, 27, [(.int .i16 p1.fSteps), (.slice p1_fHammers_a p1.fHammers.length p1_fHammers_c)]⟩]) (W := bs [some p1_b]) hm0 ?_
  refine jc_seq ?_
  refine jc_region ?_
  refine toO (by kernel_rfl) (p_a 0 [0] (by kernel_rfl) (fun b => by kernel_rfl) (fun b_1 => jkO ?_))
  refine jo_f [(0, 0)] (by kernel_rfl) ?_
  refine jo_end (by kernel_rfl) ?_
  refine jx_then ?_
  refine jc_seq ?_
  refine jc_region ?_
  refine jo_f [(0, 0), (1, 0), (0, 0)] (by kernel_rfl) ?_
  obtain ⟨t_1, ht_2, h⟩ := bd h
  refine toO (by kernel_rfl) (p_call 0 194 #[(.int .i64 (w64 h0.fPitch))] (by kernel_rfl) (by kernel_rfl) (fun w hm => impl_isPitch.calls (w64 h0.fPitch) w _ ht_2) ?_)
  rintro w v w' hm ⟨rfl, hm'⟩
  refine ⟨_, hm.app hm', jkO ?_⟩
  clear hm hm'
  refine jo_f [(0, 0), (0, 0), (0, 1), (1, 1), (0, 1), (0, 1), (0, 1), (0, 1), (0, 1)] (by kernel_rfl) ?_
  refine jo_split 9 (!t_1) (by kernel_rfl) (fun hc_3 => ?_) (fun hc_3 => ?_)
  · replace h := ifT hc_3 h
    refine jo_f [(0, 3), (0, 3), (0, 4), (0, 0)] (by kernel_rfl) ?_
    refine jo_end (by kernel_rfl) ?_
    refine jx_then ?_
    refine jc_ret ?_
    obtain rfl := Option.some.inj h
    exact jx_ret [] (.bool true) [] rfl (by kernel_rfl) (by kernel_rfl) (fun w hm => ⟨rfl, hm.pick [0] (by kernel_rfl) (by kernel_rfl)⟩)
  · replace h := ifF hc_3 h
    obtain ⟨t_2, ht_4, h⟩ := bd h
    refine toO (by kernel_rfl) (p_call 2 74 #[(.int .i64 (w64 h0.fReady)), (.int .i64 1), (.int .i64 (if (w64 p1.fSteps) < 20 then (w64 p1.fSteps) else 20))] (by kernel_rfl) (by kernel_rfl) (fun w hm => impl_within.calls (w64 h0.fReady) 1 (if (w64 p1.fSteps) < 20 then (w64 p1.fSteps) else 20) w _ ht_4) ?_)
    rintro w v w' hm ⟨rfl, hm'⟩
    refine ⟨_, hm.app hm', jkO ?_⟩
    clear hm hm'
    refine jo_f [(0, 2), (0, 5), (0, 0)] (by kernel_rfl) ?_
    refine jo_end (by kernel_rfl) ?_
    refine jx_then ?_
    refine jc_ret ?_
    obtain rfl := Option.some.inj h
    exact jx_ret [] (.bool (!t_2)) [] rfl (by kernel_rfl) (by kernel_rfl) (fun w hm => ⟨rfl, hm.pick [0] (by kernel_rfl) (by kernel_rfl)⟩)

/-! ### slices.IndexFunc[[]impl.Hammer,impl.Hammer] -/
noncomputable def slices_IndexFunc_Hammer_at_impl_ValidFrame_1.k_1 : Option (Int) := some (-1)
noncomputable def slices_IndexFunc_Hammer_at_impl_ValidFrame_1.l_3 (s0 : List GHammer) (g1c0 : GFrame) : Int → Option ((Int) ⊕ (Int ⊕ Unit))
  | i_2 => (if (decide (i_2 < (s0.length : Int))) = true then (ix s0 i_2).bind fun x_5 => (impl_ValidFrame_1 x_5 g1c0).bind fun t_6 => (if t_6 = true then some (.inr (.inl i_2)) else some (.inl (w64 (i_2 + 1)))) else some (.inr (.inr ())))
noncomputable def slices_IndexFunc_Hammer_at_impl_ValidFrame_1 (s0 : List GHammer) (g1c0 : GFrame) : Option (Int) := (loop (slices_IndexFunc_Hammer_at_impl_ValidFrame_1.l_3 s0 g1c0) 0).bind fun t_4 => match t_4 with | .inl p => some p | .inr p => slices_IndexFunc_Hammer_at_impl_ValidFrame_1.k_1
set_option maxRecDepth 100000 in
theorem slices_IndexFunc_Hammer_at_impl_ValidFrame_1.calls (s0 : List GHammer) (g1c0 : GFrame) (w : World) (r : Int) (s0_a : Option Addr) (s0_an : Nat) (s0_c : Nat) (s0_h : Rw w s0_a 2 encGHammer s0) (s0_hn : s0.length = s0_an) (g1c0_fHammers_a : Option Addr) (g1c0_fHammers_an : Nat) (g1c0_fHammers_c : Nat) (g1c0_fHammers_h : Rw w g1c0_fHammers_a 2 encGHammer g1c0.fHammers) (g1c0_fHammers_hn : g1c0.fHammers.length = g1c0_fHammers_an) (g1c0_b : Nat) (hm0 : Mem w (bs [some g1c0_b]) [⟨some g1c0_b, 27, [(.int .i16 g1c0.fSteps), (.slice g1c0_fHammers_a g1c0_fHammers_an g1c0_fHammers_c)]⟩] w) (s0_ha : s0 ≠ [] → aB s0_a ∉ bs [some g1c0_b]) (g1c0_fHammers_ha : g1c0.fHammers ≠ [] → aB g1c0_fHammers_a ∉ bs [some g1c0_b]) (h : slices_IndexFunc_Hammer_at_impl_ValidFrame_1 s0 g1c0 = some r) :
    Calls Tryz.prog 249 #[(.slice s0_a s0_an s0_c), (.func (.func 193) #[] #[(.pointer (some ⟨g1c0_b, 0, none⟩))])] w fun e w' => ∃ v, e = .returned v ∧ (v = (.int .i64 r) ∧ Mem w (bs [some g1c0_b]) [⟨some g1c0_b, 27, [(.int .i16 g1c0.fSteps), (.slice g1c0_fHammers_a g1c0_fHammers_an g1c0_fHammers_c)]⟩] w') := by
  subst s0_hn g1c0_fHammers_hn
  rw [slices_IndexFunc_Hammer_at_impl_ValidFrame_1] at h
  refine enter (args := [(.slice s0_a s0.length s0_c), (.func (.func 193) #[] #[(.pointer (some ⟨g1c0_b, 0, none⟩))])]) Tryz.func249 rfl Tryz.ntmps249 (by kernel_rfl) (L := [⟨some g1c0_b, 27, [(.int .i16 g1c0.fSteps), (.slice g1c0_fHammers_a g1c0.fHammers.length g1c0_fHammers_c)]⟩]) (W := bs [some g1c0_b]) hm0 ?_
  refine jc_seq ?_
  refine jc_region ?_
  refine jo_f [(0, 0)] (by kernel_rfl) ?_
  refine jo_end (by kernel_rfl) ?_
  refine jx_then ?_
  refine jc_seq ?_
  refine jc_seq ?_
  refine jc_region ?_
  refine jo_f [(0, 0), (0, 0), (0, 0)] (by kernel_rfl) ?_
  refine jo_end (by kernel_rfl) ?_
  refine jx_then ?_
  refine jc_meet (fun (_ : Unit) => slices_IndexFunc_Hammer_at_impl_ValidFrame_1.k_1 = some r) (fun (_ : Unit) => [(4, [], (.int .i64 0))]) (fun (_ : Unit) => [⟨some g1c0_b, 27, [(.int .i16 g1c0.fSteps), (.slice g1c0_fHammers_a g1c0.fHammers.length g1c0_fHammers_c)]⟩]) ?_ ?_
  · refine jc_block ?_
    obtain ⟨t_4, ht_40, hr_31⟩ := bd h
    refine jc_loop (fun (s : Int) (x : Unit) => match s, x with | i_2, _ => True) (fun (s : Int) (x : Unit) => match s, x with | i_2, _ => [(0, [], (.slice s0_a s0.length s0_c)), (1, [], (.func (.func 193) #[] #[(.pointer (some ⟨g1c0_b, 0, none⟩))])), (4, [], (.int .i64 0)), (7, [], (.int .i64 (s0.length : Int))), (8, [], (.int .i64 i_2))]) (fun (s : Int) (x : Unit) => match s, x with | i_2, _ => [⟨some g1c0_b, 27, [(.int .i16 g1c0.fSteps), (.slice g1c0_fHammers_a g1c0.fHammers.length g1c0_fHammers_c)]⟩]) ht_40 () trivial (by kernel_rfl) [0] (by kernel_rfl) (by kernel_rfl) ?_
    rintro i_2 _ y_32 _ h
    rw [slices_IndexFunc_Hammer_at_impl_ValidFrame_1.l_3] at h
    refine jc_seq ?_
    refine jc_region ?_
    refine jo_f [(0, 0)] (by kernel_rfl) ?_
    refine jo_end (by kernel_rfl) ?_
    refine jx_then ?_
    refine jc_seq ?_
    refine jc_cond (decide (i_2 < (s0.length : Int))) (by kernel_rfl) (fun hc_34 => ?_) (fun hc_34 => ?_)
    · replace h := ifT hc_34 h
      refine jc_skip ?_
      refine jx_then ?_
      refine jc_seq ?_
      refine jc_block ?_
      refine jc_seq ?_
      refine jc_region ?_
      refine jo_f [(0, 0), (0, 0)] (by kernel_rfl) ?_
      refine jo_end (by kernel_rfl) ?_
      refine jx_then ?_
      refine jc_seq ?_
      refine jc_region ?_
      refine jo_f [(0, 0), (0, 0), (0, 0)] (by kernel_rfl) ?_
      obtain ⟨x_5, hx_35, h⟩ := bd h
      refine toO (by kernel_rfl) (p_idx 0 s0_a s0.length i_2 2 (by kernel_rfl) (by kernel_rfl) (ix_some hx_35).1 (ltn hx_35 rfl) (s0_h.sp hx_35) (jkO ?_))
      refine toO (by kernel_rfl) (p_ld 0 (aB s0_a) (aO s0_a + i_2.toNat * 2) true (encGHammer x_5) (by kernel_rfl) (by kernel_rfl) (by kernel_rfl) (fun w hm => ((hm.exRowW s0_h s0_ha).at hx_35)) (jkO ?_))
      obtain ⟨t_6, ht_36, h⟩ := bd h
      refine toO (by kernel_rfl) (p_call 0 193 #[(.agg #[(.int .i8 x_5.fPitch), (.int .i8 x_5.fReady)]), (.pointer (some ⟨g1c0_b, 0, none⟩))] (by kernel_rfl) (by kernel_rfl) (fun w hm => impl_ValidFrame_1.calls x_5 g1c0 w _ g1c0_fHammers_a g1c0.fHammers.length g1c0_fHammers_c (hm.exRowW g1c0_fHammers_h g1c0_fHammers_ha) rfl g1c0_b (hm.pass (N := [⟨some g1c0_b, 27, [(.int .i16 g1c0.fSteps), (.slice g1c0_fHammers_a g1c0.fHammers.length g1c0_fHammers_c)]⟩]) [0] (by kernel_rfl) (by kernel_rfl)) (hm.exApart (N := [⟨some g1c0_b, 27, [(.int .i16 g1c0.fSteps), (.slice g1c0_fHammers_a g1c0.fHammers.length g1c0_fHammers_c)]⟩]) g1c0_fHammers_h g1c0_fHammers_ha [0] (by kernel_rfl)) ht_36) ?_)
      rintro w v w' hm ⟨rfl, hm'⟩
      refine ⟨_, hm.appW (ps := [(0, ⟨some g1c0_b, 27, [(.int .i16 g1c0.fSteps), (.slice g1c0_fHammers_a g1c0.fHammers.length g1c0_fHammers_c)]⟩)]) (N := []) hm' (by kernel_rfl) (by kernel_rfl), jkO ?_⟩
      clear hm hm'
      refine jo_end (by kernel_rfl) ?_
      refine jx_then ?_
      refine jc_cond t_6 (by kernel_rfl) (fun hc_37 => ?_) (fun hc_37 => ?_)
      · replace h := ifT hc_37 h
        refine jc_seq ?_
        refine jc_region ?_
        refine jo_f [(0, 0), (0, 0)] (by kernel_rfl) ?_
        refine jo_end (by kernel_rfl) ?_
        refine jx_then ?_
        refine jc_ret ?_
        refine jx_inr ?_
        refine jx_thenr ?_
        refine jx_leaver (.inl i_2) (Option.some.inj h).symm (fun e_38 => ?_)
        subst e_38
        refine jx_inr ?_
        refine jx_thenr ?_
        refine jx_thenr ?_
        obtain rfl := Option.some.inj hr_31
        exact jx_ret [] (.int .i64 i_2) [] rfl (by kernel_rfl) (by kernel_rfl) (fun w hm => ⟨rfl, hm.pick [0] (by kernel_rfl) (by kernel_rfl)⟩)
      · replace h := ifF hc_37 h
        refine jc_skip ?_
        refine jx_inn ?_
        refine jx_then ?_
        refine jc_region ?_
        refine jo_f [(0, 0), (0, 0)] (by kernel_rfl) ?_
        refine jo_end (by kernel_rfl) ?_
        exact jx_back (w64 (i_2 + 1)) () (Option.some.inj h).symm trivial [0] (by kernel_rfl) (by kernel_rfl) (by kernel_rfl)
    · replace h := ifF hc_34 h
      refine jc_exit ?_
      refine jx_thenx ?_
      refine jx_leave (.inr ()) (Option.some.inj h).symm (fun e_39 => ?_)
      subst e_39
      refine jx_ine ?_
      exact jx_meet () hr_31 (by kernel_rfl) [0] (by kernel_rfl) (by kernel_rfl)
  · rintro _ h
    replace h : slices_IndexFunc_Hammer_at_impl_ValidFrame_1.k_1 = some r := h
    rw [slices_IndexFunc_Hammer_at_impl_ValidFrame_1.k_1] at h
    refine jx_then ?_
    refine jc_seq ?_
    refine jc_region ?_
    refine jo_f [(0, 0)] (by kernel_rfl) ?_
    refine jo_end (by kernel_rfl) ?_
    refine jx_then ?_
    refine jc_ret ?_
    obtain rfl := Option.some.inj h
    exact jx_ret [] (.int .i64 (-1)) [] rfl (by kernel_rfl) (by kernel_rfl) (fun w hm => ⟨rfl, hm.pick [0] (by kernel_rfl) (by kernel_rfl)⟩)

/-! ### slices.ContainsFunc[[]impl.Hammer,impl.Hammer] -/
noncomputable def slices_ContainsFunc_Hammer_at_impl_ValidFrame_1 (s0 : List GHammer) (g1c0 : GFrame) : Option (Bool) := (slices_IndexFunc_Hammer_at_impl_ValidFrame_1 s0 g1c0).bind fun t_1 => some (decide (t_1 ≥ 0))
set_option maxRecDepth 100000 in
theorem slices_ContainsFunc_Hammer_at_impl_ValidFrame_1.calls (s0 : List GHammer) (g1c0 : GFrame) (w : World) (r : Bool) (s0_a : Option Addr) (s0_an : Nat) (s0_c : Nat) (s0_h : Rw w s0_a 2 encGHammer s0) (s0_hn : s0.length = s0_an) (g1c0_fHammers_a : Option Addr) (g1c0_fHammers_an : Nat) (g1c0_fHammers_c : Nat) (g1c0_fHammers_h : Rw w g1c0_fHammers_a 2 encGHammer g1c0.fHammers) (g1c0_fHammers_hn : g1c0.fHammers.length = g1c0_fHammers_an) (g1c0_b : Nat) (hm0 : Mem w (bs [some g1c0_b]) [⟨some g1c0_b, 27, [(.int .i16 g1c0.fSteps), (.slice g1c0_fHammers_a g1c0_fHammers_an g1c0_fHammers_c)]⟩] w) (s0_ha : s0 ≠ [] → aB s0_a ∉ bs [some g1c0_b]) (g1c0_fHammers_ha : g1c0.fHammers ≠ [] → aB g1c0_fHammers_a ∉ bs [some g1c0_b]) (h : slices_ContainsFunc_Hammer_at_impl_ValidFrame_1 s0 g1c0 = some r) :
    Calls Tryz.prog 192 #[(.slice s0_a s0_an s0_c), (.func (.func 193) #[] #[(.pointer (some ⟨g1c0_b, 0, none⟩))])] w fun e w' => ∃ v, e = .returned v ∧ (v = (.bool r) ∧ Mem w (bs [some g1c0_b]) [⟨some g1c0_b, 27, [(.int .i16 g1c0.fSteps), (.slice g1c0_fHammers_a g1c0_fHammers_an g1c0_fHammers_c)]⟩] w') := by
  subst s0_hn g1c0_fHammers_hn
  rw [slices_ContainsFunc_Hammer_at_impl_ValidFrame_1] at h
  refine enter (args := [(.slice s0_a s0.length s0_c), (.func (.func 193) #[] #[(.pointer (some ⟨g1c0_b, 0, none⟩))])]) Tryz.func192 rfl Tryz.ntmps192 (by kernel_rfl) (L := [⟨some g1c0_b, 27, [(.int .i16 g1c0.fSteps), (.slice g1c0_fHammers_a g1c0.fHammers.length g1c0_fHammers_c)]⟩]) (W := bs [some g1c0_b]) hm0 ?_
  refine jc_seq ?_
  refine jc_region ?_
  refine jo_f [(0, 0)] (by kernel_rfl) ?_
  refine jo_end (by kernel_rfl) ?_
  refine jx_then ?_
  refine jc_seq ?_
  refine jc_region ?_
  refine jo_f [(0, 0), (0, 0)] (by kernel_rfl) ?_
  obtain ⟨t_1, ht_1, h⟩ := bd h
  refine toO (by kernel_rfl) (p_call 0 249 #[(.slice s0_a s0.length s0_c), (.func (.func 193) #[] #[(.pointer (some ⟨g1c0_b, 0, none⟩))])] (by kernel_rfl) (by kernel_rfl) (fun w hm => slices_IndexFunc_Hammer_at_impl_ValidFrame_1.calls s0 g1c0 w _ s0_a s0.length s0_c (hm.exRowW s0_h s0_ha) rfl g1c0_fHammers_a g1c0.fHammers.length g1c0_fHammers_c (hm.exRowW g1c0_fHammers_h g1c0_fHammers_ha) rfl g1c0_b (hm.pass (N := [⟨some g1c0_b, 27, [(.int .i16 g1c0.fSteps), (.slice g1c0_fHammers_a g1c0.fHammers.length g1c0_fHammers_c)]⟩]) [0] (by kernel_rfl) (by kernel_rfl)) (hm.exApart (N := [⟨some g1c0_b, 27, [(.int .i16 g1c0.fSteps), (.slice g1c0_fHammers_a g1c0.fHammers.length g1c0_fHammers_c)]⟩]) s0_h s0_ha [0] (by kernel_rfl)) (hm.exApart (N := [⟨some g1c0_b, 27, [(.int .i16 g1c0.fSteps), (.slice g1c0_fHammers_a g1c0.fHammers.length g1c0_fHammers_c)]⟩]) g1c0_fHammers_h g1c0_fHammers_ha [0] (by kernel_rfl)) ht_1) ?_)
  rintro w v w' hm ⟨rfl, hm'⟩
  refine ⟨_, hm.appW (ps := [(0, ⟨some g1c0_b, 27, [(.int .i16 g1c0.fSteps), (.slice g1c0_fHammers_a g1c0.fHammers.length g1c0_fHammers_c)]⟩)]) (N := []) hm' (by kernel_rfl) (by kernel_rfl), jkO ?_⟩
  clear hm hm'
  refine jo_f [(0, 0), (0, 0)] (by kernel_rfl) ?_
  refine jo_end (by kernel_rfl) ?_
  refine jx_then ?_
  refine jc_ret ?_
  obtain rfl := Option.some.inj h
  exact jx_ret [] (.bool (decide (t_1 ≥ 0))) [] rfl (by kernel_rfl) (by kernel_rfl) (fun w hm => ⟨rfl, hm.pick [0] (by kernel_rfl) (by kernel_rfl)⟩)

/-! ### impl.ValidFrame -/
noncomputable def impl_ValidFrame (f0 : GFrame) : Option (Bool) := (impl_within (w64 f0.fSteps) 2 96).bind fun t_1 => (if t_1 = true then (impl_size_Hammer f0.fHammers).bind fun t_2 => (impl_within t_2 1 24).bind fun t_3 => (if t_3 = true then (slices_ContainsFunc_Hammer_at_impl_ValidFrame_1 f0.fHammers f0).bind fun t_4 => some (!t_4) else some false) else some false)
set_option maxRecDepth 100000 in
theorem impl_ValidFrame.calls (f0 : GFrame) (w : World) (r : Bool) (f0_fHammers_a : Option Addr) (f0_fHammers_an : Nat) (f0_fHammers_c : Nat) (f0_fHammers_h : Rw w f0_fHammers_a 2 encGHammer f0.fHammers) (f0_fHammers_hn : f0.fHammers.length = f0_fHammers_an) (h : impl_ValidFrame f0 = some r) :
    Calls Tryz.prog 115 #[(.agg #[(.int .i16 f0.fSteps), (.slice f0_fHammers_a f0_fHammers_an f0_fHammers_c)])] w fun e w' => ∃ v, e = .returned v ∧ (v = (.bool r) ∧ Mem w [] [] w') := by
  subst f0_fHammers_hn
  rw [impl_ValidFrame] at h
  refine enter (args := [(.agg #[(.int .i16 f0.fSteps), (.slice f0_fHammers_a f0.fHammers.length f0_fHammers_c)])]) Tryz.func115 rfl Tryz.ntmps115 (by kernel_rfl) (L := []) (W := []) (Mem.start w) ?_
  refine jc_seq ?_
  refine jc_region ?_
  refine toO (by kernel_rfl) (p_a 0 [0] (by kernel_rfl) (fun b => by kernel_rfl) (fun b_1 => jkO ?_))
  refine jo_f [(0, 0)] (by kernel_rfl) ?_
  refine jo_end (by kernel_rfl) ?_
  refine jx_then ?_
  refine jc_seq ?_
  refine jc_region ?_
  refine jo_f [(0, 0), (0, 0), (0, 0)] (by kernel_rfl) ?_
  obtain ⟨t_1, ht_2, h⟩ := bd h
  refine toO (by kernel_rfl) (p_call 0 74 #[(.int .i64 (w64 f0.fSteps)), (.int .i64 2), (.int .i64 96)] (by kernel_rfl) (by kernel_rfl) (fun w hm => impl_within.calls (w64 f0.fSteps) 2 96 w _ ht_2) ?_)
  rintro w v w' hm ⟨rfl, hm'⟩
  refine ⟨_, hm.app hm', jkO ?_⟩
  clear hm hm'
  refine jo_f [(0, 0), (0, 1), (0, 1)] (by kernel_rfl) ?_
  refine jo_split 7 t_1 (by kernel_rfl) (fun hc_3 => ?_) (fun hc_3 => ?_)
  · replace h := ifT hc_3 h
    obtain ⟨t_2, ht_4, h⟩ := bd h
    refine toO (by kernel_rfl) (p_call 2 181 #[(.slice f0_fHammers_a f0.fHammers.length f0_fHammers_c)] (by kernel_rfl) (by kernel_rfl) (fun w hm => impl_size_Hammer.calls f0.fHammers w _ f0_fHammers_a f0.fHammers.length f0_fHammers_c (hm.exRow f0_fHammers_h List.not_mem_nil) rfl ht_4) ?_)
    rintro w v w' hm ⟨rfl, hm'⟩
    refine ⟨_, hm.app hm', jkO ?_⟩
    clear hm hm'
    obtain ⟨t_3, ht_5, h⟩ := bd h
    refine toO (by kernel_rfl) (p_call 2 74 #[(.int .i64 t_2), (.int .i64 1), (.int .i64 24)] (by kernel_rfl) (by kernel_rfl) (fun w hm => impl_within.calls t_2 1 24 w _ ht_5) ?_)
    rintro w v w' hm ⟨rfl, hm'⟩
    refine ⟨_, hm.app hm', jkO ?_⟩
    clear hm hm'
    refine jo_f [(0, 4), (0, 0), (0, 1), (0, 1), (0, 1)] (by kernel_rfl) ?_
    refine jo_split 13 t_3 (by kernel_rfl) (fun hc_6 => ?_) (fun hc_6 => ?_)
    · replace h := ifT hc_6 h
      obtain ⟨t_4, ht_7, h⟩ := bd h
      refine toO (by kernel_rfl) (p_call 2 192 #[(.slice f0_fHammers_a f0.fHammers.length f0_fHammers_c), (.func (.func 193) #[] #[(.pointer (some ⟨b_1, 0, none⟩))])] (by kernel_rfl) (by kernel_rfl) (fun w hm => slices_ContainsFunc_Hammer_at_impl_ValidFrame_1.calls f0.fHammers f0 w _ f0_fHammers_a f0.fHammers.length f0_fHammers_c (hm.exRow f0_fHammers_h List.not_mem_nil) rfl f0_fHammers_a f0.fHammers.length f0_fHammers_c (hm.exRow f0_fHammers_h List.not_mem_nil) rfl b_1 (hm.pass (N := [⟨some b_1, 27, [(.int .i16 f0.fSteps), (.slice f0_fHammers_a f0.fHammers.length f0_fHammers_c)]⟩]) [0] (by kernel_rfl) (by kernel_rfl)) (hm.exApart (N := [⟨some b_1, 27, [(.int .i16 f0.fSteps), (.slice f0_fHammers_a f0.fHammers.length f0_fHammers_c)]⟩]) f0_fHammers_h (fun _ => List.not_mem_nil) [0] (by kernel_rfl)) (hm.exApart (N := [⟨some b_1, 27, [(.int .i16 f0.fSteps), (.slice f0_fHammers_a f0.fHammers.length f0_fHammers_c)]⟩]) f0_fHammers_h (fun _ => List.not_mem_nil) [0] (by kernel_rfl)) ht_7) ?_)
      rintro w v w' hm ⟨rfl, hm'⟩
      refine ⟨_, hm.appW (ps := [(0, ⟨some b_1, 27, [(.int .i16 f0.fSteps), (.slice f0_fHammers_a f0.fHammers.length f0_fHammers_c)]⟩)]) (N := []) hm' (by kernel_rfl) (by kernel_rfl), jkO ?_⟩
      clear hm hm'
      refine jo_f [(0, 2), (0, 4), (0, 0)] (by kernel_rfl) ?_
      refine jo_end (by kernel_rfl) ?_
      refine jx_then ?_
      refine jc_ret ?_
      obtain rfl := Option.some.inj h
      exact jx_ret [] (.bool (!t_4)) [] rfl (by kernel_rfl) (by kernel_rfl) (fun w hm => ⟨rfl, hm.pick [] (by kernel_rfl) (by kernel_rfl)⟩)
    · replace h := ifF hc_6 h
      refine jo_f [(0, 3), (0, 3), (0, 5), (0, 0)] (by kernel_rfl) ?_
      refine jo_end (by kernel_rfl) ?_
      refine jx_then ?_
      refine jc_ret ?_
      obtain rfl := Option.some.inj h
      exact jx_ret [] (.bool false) [] rfl (by kernel_rfl) (by kernel_rfl) (fun w hm => ⟨rfl, hm.pick [] (by kernel_rfl) (by kernel_rfl)⟩)
  · replace h := ifF hc_3 h
    refine jo_f [(0, 3), (0, 3), (0, 5), (0, 0), (0, 3), (0, 3), (0, 3), (0, 3), (0, 3), (0, 5), (0, 0)] (by kernel_rfl) ?_
    refine jo_end (by kernel_rfl) ?_
    refine jx_then ?_
    refine jc_ret ?_
    obtain rfl := Option.some.inj h
    exact jx_ret [] (.bool false) [] rfl (by kernel_rfl) (by kernel_rfl) (fun w hm => ⟨rfl, hm.pick [] (by kernel_rfl) (by kernel_rfl)⟩)

/-! ### (impl.Frame).isDrum -/
noncomputable def impl_Frame_isDrum.k_1 : Option (Bool) := some true
noncomputable def impl_Frame_isDrum.k_7 (i_2 : Int) (q_6 : Bool) : Option ((Int) ⊕ (Bool ⊕ Unit)) := (if q_6 = true then some (.inr (.inl false)) else some (.inl (w64 (i_2 + 1))))
noncomputable def impl_Frame_isDrum.l_3 (f0 : GFrame) (d1 : Arr 96 Int) : Int → Option ((Int) ⊕ (Bool ⊕ Unit))
  | i_2 => (if (decide (i_2 < 96)) = true then (ix d1.1 i_2).bind fun x_5 => (if 0 ≤ (f0.fHammers.length : Int) then (if ((bShr .u32 x_5 (f0.fHammers.length : Int)) != 0) = true then impl_Frame_isDrum.k_7 i_2 true else impl_Frame_isDrum.k_7 i_2 ((decide (i_2 ≥ (w64 f0.fSteps))) && (x_5 != 0))) else none) else some (.inr (.inr ())))
noncomputable def impl_Frame_isDrum (f0 : GFrame) (d1 : Arr 96 Int) : Option (Bool) := (loop (impl_Frame_isDrum.l_3 f0 d1) 0).bind fun t_4 => match t_4 with | .inl p => some p | .inr p => impl_Frame_isDrum.k_1
set_option maxRecDepth 100000 in
theorem impl_Frame_isDrum.calls (f0 : GFrame) (d1 : Arr 96 Int) (w : World) (r : Bool) (f0_fHammers_a : Option Addr) (f0_fHammers_an : Nat) (f0_fHammers_c : Nat) (f0_fHammers_h : Rw w f0_fHammers_a 2 encGHammer f0.fHammers) (f0_fHammers_hn : f0.fHammers.length = f0_fHammers_an) (h : impl_Frame_isDrum f0 d1 = some r) :
    Calls Tryz.prog 168 #[(.agg #[(.int .i16 f0.fSteps), (.slice f0_fHammers_a f0_fHammers_an f0_fHammers_c)]), (.agg (row encU32 d1.1 []).toArray)] w fun e w' => ∃ v, e = .returned v ∧ (v = (.bool r) ∧ Mem w [] [] w') := by
  subst f0_fHammers_hn
  rw [impl_Frame_isDrum] at h
  refine enter (args := [(.agg #[(.int .i16 f0.fSteps), (.slice f0_fHammers_a f0.fHammers.length f0_fHammers_c)]), (.agg (row encU32 d1.1 []).toArray)]) Tryz.func168 rfl Tryz.ntmps168 (by kernel_rfl) (L := []) (W := []) (Mem.start w) ?_
  refine jc_seq ?_
  refine jc_region ?_
  refine toO (by kernel_rfl) (p_a 0 [0] (by kernel_rfl) (fun b => by kernel_rfl) (fun b_1 => jkO ?_))
  refine toO (by kernel_rfl) (p_a 0 [0] (by kernel_rfl) (fun b => by kernel_rfl) (fun b_2 => jkO ?_))
  refine jo_f [(0, 0)] (by kernel_rfl) ?_
  refine jo_end (by kernel_rfl) ?_
  refine jx_then ?_
  refine jc_seq ?_
  refine jc_seq ?_
  refine jc_region ?_
  refine toO (by kernel_rfl) (p_ldA 0 1 b_2 96 1 31 encU32 d1 (by kernel_rfl) (by kernel_rfl) (by kernel_rfl) encU32_len (by kernel_rfl) (jkO ?_))
  refine jo_f [(0, 0)] (by kernel_rfl) ?_
  refine jo_end (by kernel_rfl) ?_
  refine jx_then ?_
  refine jc_meet (fun (_ : Unit) => impl_Frame_isDrum.k_1 = some r) (fun (_ : Unit) => [(4, [], (.bool false))]) (fun (_ : Unit) => [⟨some b_1, 27, [(.int .i16 f0.fSteps), (.slice f0_fHammers_a f0.fHammers.length f0_fHammers_c)]⟩, ⟨(some b_2), 31, row encU32 d1.1 []⟩]) ?_ ?_
  · refine jc_block ?_
    obtain ⟨t_4, ht_60, hr_48⟩ := bd h
    refine jc_loop (fun (s : Int) (x : Unit) => match s, x with | i_2, _ => True) (fun (s : Int) (x : Unit) => match s, x with | i_2, _ => [(2, [], (.pointer (some ⟨b_1, 0, none⟩))), (4, [], (.bool false)), (7, [], (.agg (row encU32 d1.1 []).toArray)), (8, [], (.int .i64 i_2))]) (fun (s : Int) (x : Unit) => match s, x with | i_2, _ => [⟨some b_1, 27, [(.int .i16 f0.fSteps), (.slice f0_fHammers_a f0.fHammers.length f0_fHammers_c)]⟩, ⟨(some b_2), 31, row encU32 d1.1 []⟩]) ht_60 () trivial (by kernel_rfl) [0, 1] (by kernel_rfl) (by kernel_rfl) ?_
    rintro i_2 _ y_49 _ h
    rw [impl_Frame_isDrum.l_3] at h
    refine jc_seq ?_
    refine jc_region ?_
    refine jo_f [(0, 0)] (by kernel_rfl) ?_
    refine jo_end (by kernel_rfl) ?_
    refine jx_then ?_
    refine jc_seq ?_
    refine jc_cond (decide (i_2 < 96)) (by kernel_rfl) (fun hc_51 => ?_) (fun hc_51 => ?_)
    · replace h := ifT hc_51 h
      refine jc_skip ?_
      refine jx_then ?_
      refine jc_seq ?_
      refine jc_block ?_
      refine jc_seq ?_
      refine jc_region ?_
      refine jo_f [(0, 0)] (by kernel_rfl) ?_
      obtain ⟨x_5, hx_52, h⟩ := bd h
      refine toO (by kernel_rfl) (p_ixA 0 encU32 (fun x => (.int .u32 x)) d1 i_2 (by kernel_rfl) (by kernel_rfl) (fun _ => rfl) hx_52 (jkO ?_))
      refine jo_f [(0, 0), (0, 0)] (by kernel_rfl) ?_
      refine jo_end (by kernel_rfl) ?_
      refine jx_then ?_
      refine jc_seq ?_
      refine jc_meet (fun (j : Bool) => match j with | q_6 => impl_Frame_isDrum.k_7 i_2 q_6 = some y_49) (fun (j : Bool) => match j with | q_6 => [(2, [], (.pointer (some ⟨b_1, 0, none⟩))), (4, [], (.bool false)), (7, [], (.agg (row encU32 d1.1 []).toArray)), (8, [], (.int .i64 i_2)), (28, [], (.bool q_6))]) (fun (j : Bool) => match j with | q_6 => [⟨some b_1, 27, [(.int .i16 f0.fSteps), (.slice f0_fHammers_a f0.fHammers.length f0_fHammers_c)]⟩, ⟨(some b_2), 31, row encU32 d1.1 []⟩]) ?_ ?_
      · refine jc_region ?_
        refine jo_f [(0, 0), (0, 0), (0, 0), (0, 0)] (by kernel_rfl) ?_
        obtain ⟨hg_57, h⟩ := gd h
        refine toO (by kernel_rfl) (p_shr 0 .u32 x_5 .i64 (f0.fHammers.length : Int) (by kernel_rfl) (by kernel_rfl) hg_57 (jkO ?_))
        refine jo_f [(0, 0), (0, 0), (0, 1), (0, 1), (0, 1), (0, 1), (0, 1)] (by kernel_rfl) ?_
        refine jo_split 18 ((bShr .u32 x_5 (f0.fHammers.length : Int)) != 0) (by kernel_rfl) (fun hc_58 => ?_) (fun hc_58 => ?_)
        · replace h := ifT hc_58 h
          refine jo_f [(0, 3), (0, 3), (0, 3), (0, 3), (0, 4)] (by kernel_rfl) ?_
          refine jo_end (by kernel_rfl) ?_
          exact jx_meet true h (by kernel_rfl) [0, 1] (by kernel_rfl) (by kernel_rfl)
        · replace h := ifF hc_58 h
          refine jo_f [(0, 2), (0, 1), (0, 1), (0, 2), (0, 5)] (by kernel_rfl) ?_
          refine jo_end (by kernel_rfl) ?_
          exact jx_meet ((decide (i_2 ≥ (w64 f0.fSteps))) && (x_5 != 0)) h (by kernel_rfl) [0, 1] (by kernel_rfl) (by kernel_rfl)
      · rintro q_6 h
        replace h : impl_Frame_isDrum.k_7 i_2 q_6 = some y_49 := h
        rw [impl_Frame_isDrum.k_7] at h
        refine jx_then ?_
        refine jc_cond q_6 (by kernel_rfl) (fun hc_55 => ?_) (fun hc_55 => ?_)
        · replace h := ifT hc_55 h
          refine jc_seq ?_
          refine jc_region ?_
          refine jo_f [(0, 0)] (by kernel_rfl) ?_
          refine jo_end (by kernel_rfl) ?_
          refine jx_then ?_
          refine jc_ret ?_
          refine jx_inr ?_
          refine jx_thenr ?_
          refine jx_leaver (.inl false) (Option.some.inj h).symm (fun e_56 => ?_)
          subst e_56
          refine jx_inr ?_
          refine jx_thenr ?_
          refine jx_thenr ?_
          obtain rfl := Option.some.inj hr_48
          exact jx_ret [] (.bool false) [] rfl (by kernel_rfl) (by kernel_rfl) (fun w hm => ⟨rfl, hm.pick [] (by kernel_rfl) (by kernel_rfl)⟩)
        · replace h := ifF hc_55 h
          refine jc_skip ?_
          refine jx_inn ?_
          refine jx_then ?_
          refine jc_region ?_
          refine jo_f [(0, 0), (0, 0)] (by kernel_rfl) ?_
          refine jo_end (by kernel_rfl) ?_
          exact jx_back (w64 (i_2 + 1)) () (Option.some.inj h).symm trivial [0, 1] (by kernel_rfl) (by kernel_rfl) (by kernel_rfl)
    · replace h := ifF hc_51 h
      refine jc_exit ?_
      refine jx_thenx ?_
      refine jx_leave (.inr ()) (Option.some.inj h).symm (fun e_59 => ?_)
      subst e_59
      refine jx_ine ?_
      exact jx_meet () hr_48 (by kernel_rfl) [0, 1] (by kernel_rfl) (by kernel_rfl)
  · rintro _ h
    replace h : impl_Frame_isDrum.k_1 = some r := h
    rw [impl_Frame_isDrum.k_1] at h
    refine jx_then ?_
    refine jc_seq ?_
    refine jc_region ?_
    refine jo_f [(0, 0)] (by kernel_rfl) ?_
    refine jo_end (by kernel_rfl) ?_
    refine jx_then ?_
    refine jc_ret ?_
    obtain rfl := Option.some.inj h
    exact jx_ret [] (.bool true) [] rfl (by kernel_rfl) (by kernel_rfl) (fun w hm => ⟨rfl, hm.pick [] (by kernel_rfl) (by kernel_rfl)⟩)

/-! ### impl.drumCode$1 -/
noncomputable def impl_drumCode_1 (d0 : Arr 96 Int) (p1 : GFrame) : Option (Bool) := (impl_Frame_isDrum p1 d0).bind fun t_1 => some (!t_1)
set_option maxRecDepth 100000 in
theorem impl_drumCode_1.calls (d0 : Arr 96 Int) (p1 : GFrame) (w : World) (r : Bool) (p1_fHammers_a : Option Addr) (p1_fHammers_an : Nat) (p1_fHammers_c : Nat) (p1_fHammers_h : Rw w p1_fHammers_a 2 encGHammer p1.fHammers) (p1_fHammers_hn : p1.fHammers.length = p1_fHammers_an) (p1_b : Nat) (hm0 : Mem w (bs [some p1_b]) [⟨some p1_b, 27, [(.int .i16 p1.fSteps), (.slice p1_fHammers_a p1_fHammers_an p1_fHammers_c)]⟩] w) (p1_fHammers_ha : p1.fHammers ≠ [] → aB p1_fHammers_a ∉ bs [some p1_b]) (h : impl_drumCode_1 d0 p1 = some r) :
    Calls Tryz.prog 167 #[(.agg (row encU32 d0.1 []).toArray), (.pointer (some ⟨p1_b, 0, none⟩))] w fun e w' => ∃ v, e = .returned v ∧ (v = (.bool r) ∧ Mem w (bs [some p1_b]) [⟨some p1_b, 27, [(.int .i16 p1.fSteps), (.slice p1_fHammers_a p1_fHammers_an p1_fHammers_c)]⟩] w') := by
  subst p1_fHammers_hn
  rw [impl_drumCode_1] at h
  refine enter (args := [(.agg (row encU32 d0.1 []).toArray), (.pointer (some ⟨p1_b, 0, none⟩))]) Tryz.func167 rfl Tryz.ntmps167 (by kernel_rfl) (L := [⟨some p1_b, 27, [(.int .i16 p1.fSteps), (.slice p1_fHammers_a p1.fHammers.length p1_fHammers_c)]⟩]) (W := bs [some p1_b]) hm0 ?_
  refine jc_seq ?_
  refine jc_region ?_
  refine toO (by kernel_rfl) (p_a 0 [0] (by kernel_rfl) (fun b => by kernel_rfl) (fun b_1 => jkO ?_))
  refine jo_f [(0, 0)] (by kernel_rfl) ?_
  refine jo_end (by kernel_rfl) ?_
  refine jx_then ?_
  refine jc_seq ?_
  refine jc_region ?_
  refine jo_f [(0, 0)] (by kernel_rfl) ?_
  refine toO (by kernel_rfl) (p_ldA 0 1 b_1 96 1 31 encU32 d0 (by kernel_rfl) (by kernel_rfl) (by kernel_rfl) encU32_len (by kernel_rfl) (jkO ?_))
  obtain ⟨t_1, ht_2, h⟩ := bd h
  refine toO (by kernel_rfl) (p_call 0 168 #[(.agg #[(.int .i16 p1.fSteps), (.slice p1_fHammers_a p1.fHammers.length p1_fHammers_c)]), (.agg (row encU32 d0.1 []).toArray)] (by kernel_rfl) (by kernel_rfl) (fun w hm => impl_Frame_isDrum.calls p1 d0 w _ p1_fHammers_a p1.fHammers.length p1_fHammers_c (hm.exRowW p1_fHammers_h p1_fHammers_ha) rfl ht_2) ?_)
  rintro w v w' hm ⟨rfl, hm'⟩
  refine ⟨_, hm.app hm', jkO ?_⟩
  clear hm hm'
  refine jo_f [(0, 0), (0, 0)] (by kernel_rfl) ?_
  refine jo_end (by kernel_rfl) ?_
  refine jx_then ?_
  refine jc_ret ?_
  obtain rfl := Option.some.inj h
  exact jx_ret [] (.bool (!t_1)) [] rfl (by kernel_rfl) (by kernel_rfl) (fun w hm => ⟨rfl, hm.pick [0] (by kernel_rfl) (by kernel_rfl)⟩)

/-! ### slices.IndexFunc[[]impl.Drum,impl.Drum] -/
noncomputable def slices_IndexFunc_Drum_at_impl_drumCode_1.k_1 : Option (Int) := some (-1)
noncomputable def slices_IndexFunc_Drum_at_impl_drumCode_1.l_3 (s0 : List (Arr 96 Int)) (g1c0 : GFrame) : Int → Option ((Int) ⊕ (Int ⊕ Unit))
  | i_2 => (if (decide (i_2 < (s0.length : Int))) = true then (ix s0 i_2).bind fun x_5 => (impl_drumCode_1 x_5 g1c0).bind fun t_6 => (if t_6 = true then some (.inr (.inl i_2)) else some (.inl (w64 (i_2 + 1)))) else some (.inr (.inr ())))
noncomputable def slices_IndexFunc_Drum_at_impl_drumCode_1 (s0 : List (Arr 96 Int)) (g1c0 : GFrame) : Option (Int) := (loop (slices_IndexFunc_Drum_at_impl_drumCode_1.l_3 s0 g1c0) 0).bind fun t_4 => match t_4 with | .inl p => some p | .inr p => slices_IndexFunc_Drum_at_impl_drumCode_1.k_1
set_option maxRecDepth 100000 in
theorem slices_IndexFunc_Drum_at_impl_drumCode_1.calls (s0 : List (Arr 96 Int)) (g1c0 : GFrame) (w : World) (r : Int) (s0_a : Option Addr) (s0_an : Nat) (s0_c : Nat) (s0_h : Rw w s0_a 96 encA96U32 s0) (s0_hn : s0.length = s0_an) (g1c0_fHammers_a : Option Addr) (g1c0_fHammers_an : Nat) (g1c0_fHammers_c : Nat) (g1c0_fHammers_h : Rw w g1c0_fHammers_a 2 encGHammer g1c0.fHammers) (g1c0_fHammers_hn : g1c0.fHammers.length = g1c0_fHammers_an) (g1c0_b : Nat) (hm0 : Mem w (bs [some g1c0_b]) [⟨some g1c0_b, 27, [(.int .i16 g1c0.fSteps), (.slice g1c0_fHammers_a g1c0_fHammers_an g1c0_fHammers_c)]⟩] w) (s0_ha : s0 ≠ [] → aB s0_a ∉ bs [some g1c0_b]) (g1c0_fHammers_ha : g1c0.fHammers ≠ [] → aB g1c0_fHammers_a ∉ bs [some g1c0_b]) (h : slices_IndexFunc_Drum_at_impl_drumCode_1 s0 g1c0 = some r) :
    Calls Tryz.prog 239 #[(.slice s0_a s0_an s0_c), (.func (.func 167) #[] #[(.pointer (some ⟨g1c0_b, 0, none⟩))])] w fun e w' => ∃ v, e = .returned v ∧ (v = (.int .i64 r) ∧ Mem w (bs [some g1c0_b]) [⟨some g1c0_b, 27, [(.int .i16 g1c0.fSteps), (.slice g1c0_fHammers_a g1c0_fHammers_an g1c0_fHammers_c)]⟩] w') := by
  subst s0_hn g1c0_fHammers_hn
  rw [slices_IndexFunc_Drum_at_impl_drumCode_1] at h
  refine enter (args := [(.slice s0_a s0.length s0_c), (.func (.func 167) #[] #[(.pointer (some ⟨g1c0_b, 0, none⟩))])]) Tryz.func239 rfl Tryz.ntmps239 (by kernel_rfl) (L := [⟨some g1c0_b, 27, [(.int .i16 g1c0.fSteps), (.slice g1c0_fHammers_a g1c0.fHammers.length g1c0_fHammers_c)]⟩]) (W := bs [some g1c0_b]) hm0 ?_
  refine jc_seq ?_
  refine jc_region ?_
  refine jo_f [(0, 0)] (by kernel_rfl) ?_
  refine jo_end (by kernel_rfl) ?_
  refine jx_then ?_
  refine jc_seq ?_
  refine jc_seq ?_
  refine jc_region ?_
  refine jo_f [(0, 0), (0, 0), (0, 0)] (by kernel_rfl) ?_
  refine jo_end (by kernel_rfl) ?_
  refine jx_then ?_
  refine jc_meet (fun (_ : Unit) => slices_IndexFunc_Drum_at_impl_drumCode_1.k_1 = some r) (fun (_ : Unit) => [(4, [], (.int .i64 0))]) (fun (_ : Unit) => [⟨some g1c0_b, 27, [(.int .i16 g1c0.fSteps), (.slice g1c0_fHammers_a g1c0.fHammers.length g1c0_fHammers_c)]⟩]) ?_ ?_
  · refine jc_block ?_
    obtain ⟨t_4, ht_40, hr_31⟩ := bd h
    refine jc_loop (fun (s : Int) (x : Unit) => match s, x with | i_2, _ => True) (fun (s : Int) (x : Unit) => match s, x with | i_2, _ => [(0, [], (.slice s0_a s0.length s0_c)), (1, [], (.func (.func 167) #[] #[(.pointer (some ⟨g1c0_b, 0, none⟩))])), (4, [], (.int .i64 0)), (7, [], (.int .i64 (s0.length : Int))), (8, [], (.int .i64 i_2))]) (fun (s : Int) (x : Unit) => match s, x with | i_2, _ => [⟨some g1c0_b, 27, [(.int .i16 g1c0.fSteps), (.slice g1c0_fHammers_a g1c0.fHammers.length g1c0_fHammers_c)]⟩]) ht_40 () trivial (by kernel_rfl) [0] (by kernel_rfl) (by kernel_rfl) ?_
    rintro i_2 _ y_32 _ h
    rw [slices_IndexFunc_Drum_at_impl_drumCode_1.l_3] at h
    refine jc_seq ?_
    refine jc_region ?_
    refine jo_f [(0, 0)] (by kernel_rfl) ?_
    refine jo_end (by kernel_rfl) ?_
    refine jx_then ?_
    refine jc_seq ?_
    refine jc_cond (decide (i_2 < (s0.length : Int))) (by kernel_rfl) (fun hc_34 => ?_) (fun hc_34 => ?_)
    · replace h := ifT hc_34 h
      refine jc_skip ?_
      refine jx_then ?_
      refine jc_seq ?_
      refine jc_block ?_
      refine jc_seq ?_
      refine jc_region ?_
      refine jo_f [(0, 0), (0, 0)] (by kernel_rfl) ?_
      refine jo_end (by kernel_rfl) ?_
      refine jx_then ?_
      refine jc_seq ?_
      refine jc_region ?_
      refine jo_f [(0, 0), (0, 0), (0, 0)] (by kernel_rfl) ?_
      obtain ⟨x_5, hx_35, h⟩ := bd h
      refine toO (by kernel_rfl) (p_idx 0 s0_a s0.length i_2 96 (by kernel_rfl) (by kernel_rfl) (ix_some hx_35).1 (ltn hx_35 rfl) (s0_h.sp hx_35) (jkO ?_))
      refine toO (by kernel_rfl) (p_ldx 0 (aB s0_a) (aO s0_a + i_2.toNat * 96) (encA96U32 x_5) 96 (by kernel_rfl) (by kernel_rfl) (encA96U32_len x_5) (fun w hm => ((hm.exRowW s0_h s0_ha).at hx_35)) (jkO ?_))
      obtain ⟨t_6, ht_36, h⟩ := bd h
      refine toO (by kernel_rfl) (p_call 0 167 #[(.agg (row encU32 x_5.1 []).toArray), (.pointer (some ⟨g1c0_b, 0, none⟩))] (by kernel_rfl) (by kernel_rfl) (fun w hm => impl_drumCode_1.calls x_5 g1c0 w _ g1c0_fHammers_a g1c0.fHammers.length g1c0_fHammers_c (hm.exRowW g1c0_fHammers_h g1c0_fHammers_ha) rfl g1c0_b (hm.pass (N := [⟨some g1c0_b, 27, [(.int .i16 g1c0.fSteps), (.slice g1c0_fHammers_a g1c0.fHammers.length g1c0_fHammers_c)]⟩]) [0] (by kernel_rfl) (by kernel_rfl)) (hm.exApart (N := [⟨some g1c0_b, 27, [(.int .i16 g1c0.fSteps), (.slice g1c0_fHammers_a g1c0.fHammers.length g1c0_fHammers_c)]⟩]) g1c0_fHammers_h g1c0_fHammers_ha [0] (by kernel_rfl)) ht_36) ?_)
      rintro w v w' hm ⟨rfl, hm'⟩
      refine ⟨_, hm.appW (ps := [(0, ⟨some g1c0_b, 27, [(.int .i16 g1c0.fSteps), (.slice g1c0_fHammers_a g1c0.fHammers.length g1c0_fHammers_c)]⟩)]) (N := []) hm' (by kernel_rfl) (by kernel_rfl), jkO ?_⟩
      clear hm hm'
      refine jo_end (by kernel_rfl) ?_
      refine jx_then ?_
      refine jc_cond t_6 (by kernel_rfl) (fun hc_37 => ?_) (fun hc_37 => ?_)
      · replace h := ifT hc_37 h
        refine jc_seq ?_
        refine jc_region ?_
        refine jo_f [(0, 0), (0, 0)] (by kernel_rfl) ?_
        refine jo_end (by kernel_rfl) ?_
        refine jx_then ?_
        refine jc_ret ?_
        refine jx_inr ?_
        refine jx_thenr ?_
        refine jx_leaver (.inl i_2) (Option.some.inj h).symm (fun e_38 => ?_)
        subst e_38
        refine jx_inr ?_
        refine jx_thenr ?_
        refine jx_thenr ?_
        obtain rfl := Option.some.inj hr_31
        exact jx_ret [] (.int .i64 i_2) [] rfl (by kernel_rfl) (by kernel_rfl) (fun w hm => ⟨rfl, hm.pick [0] (by kernel_rfl) (by kernel_rfl)⟩)
      · replace h := ifF hc_37 h
        refine jc_skip ?_
        refine jx_inn ?_
        refine jx_then ?_
        refine jc_region ?_
        refine jo_f [(0, 0), (0, 0)] (by kernel_rfl) ?_
        refine jo_end (by kernel_rfl) ?_
        exact jx_back (w64 (i_2 + 1)) () (Option.some.inj h).symm trivial [0] (by kernel_rfl) (by kernel_rfl) (by kernel_rfl)
    · replace h := ifF hc_34 h
      refine jc_exit ?_
      refine jx_thenx ?_
      refine jx_leave (.inr ()) (Option.some.inj h).symm (fun e_39 => ?_)
      subst e_39
      refine jx_ine ?_
      exact jx_meet () hr_31 (by kernel_rfl) [0] (by kernel_rfl) (by kernel_rfl)
  · rintro _ h
    replace h : slices_IndexFunc_Drum_at_impl_drumCode_1.k_1 = some r := h
    rw [slices_IndexFunc_Drum_at_impl_drumCode_1.k_1] at h
    refine jx_then ?_
    refine jc_seq ?_
    refine jc_region ?_
    refine jo_f [(0, 0)] (by kernel_rfl) ?_
    refine jo_end (by kernel_rfl) ?_
    refine jx_then ?_
    refine jc_ret ?_
    obtain rfl := Option.some.inj h
    exact jx_ret [] (.int .i64 (-1)) [] rfl (by kernel_rfl) (by kernel_rfl) (fun w hm => ⟨rfl, hm.pick [0] (by kernel_rfl) (by kernel_rfl)⟩)

/-! ### slices.ContainsFunc[[]impl.Drum,impl.Drum] -/
noncomputable def slices_ContainsFunc_Drum_at_impl_drumCode_1 (s0 : List (Arr 96 Int)) (g1c0 : GFrame) : Option (Bool) := (slices_IndexFunc_Drum_at_impl_drumCode_1 s0 g1c0).bind fun t_1 => some (decide (t_1 ≥ 0))
set_option maxRecDepth 100000 in
theorem slices_ContainsFunc_Drum_at_impl_drumCode_1.calls (s0 : List (Arr 96 Int)) (g1c0 : GFrame) (w : World) (r : Bool) (s0_a : Option Addr) (s0_an : Nat) (s0_c : Nat) (s0_h : Rw w s0_a 96 encA96U32 s0) (s0_hn : s0.length = s0_an) (g1c0_fHammers_a : Option Addr) (g1c0_fHammers_an : Nat) (g1c0_fHammers_c : Nat) (g1c0_fHammers_h : Rw w g1c0_fHammers_a 2 encGHammer g1c0.fHammers) (g1c0_fHammers_hn : g1c0.fHammers.length = g1c0_fHammers_an) (g1c0_b : Nat) (hm0 : Mem w (bs [some g1c0_b]) [⟨some g1c0_b, 27, [(.int .i16 g1c0.fSteps), (.slice g1c0_fHammers_a g1c0_fHammers_an g1c0_fHammers_c)]⟩] w) (s0_ha : s0 ≠ [] → aB s0_a ∉ bs [some g1c0_b]) (g1c0_fHammers_ha : g1c0.fHammers ≠ [] → aB g1c0_fHammers_a ∉ bs [some g1c0_b]) (h : slices_ContainsFunc_Drum_at_impl_drumCode_1 s0 g1c0 = some r) :
    Calls Tryz.prog 166 #[(.slice s0_a s0_an s0_c), (.func (.func 167) #[] #[(.pointer (some ⟨g1c0_b, 0, none⟩))])] w fun e w' => ∃ v, e = .returned v ∧ (v = (.bool r) ∧ Mem w (bs [some g1c0_b]) [⟨some g1c0_b, 27, [(.int .i16 g1c0.fSteps), (.slice g1c0_fHammers_a g1c0_fHammers_an g1c0_fHammers_c)]⟩] w') := by
  subst s0_hn g1c0_fHammers_hn
  rw [slices_ContainsFunc_Drum_at_impl_drumCode_1] at h
  refine enter (args := [(.slice s0_a s0.length s0_c), (.func (.func 167) #[] #[(.pointer (some ⟨g1c0_b, 0, none⟩))])]) Tryz.func166 rfl Tryz.ntmps166 (by kernel_rfl) (L := [⟨some g1c0_b, 27, [(.int .i16 g1c0.fSteps), (.slice g1c0_fHammers_a g1c0.fHammers.length g1c0_fHammers_c)]⟩]) (W := bs [some g1c0_b]) hm0 ?_
  refine jc_seq ?_
  refine jc_region ?_
  refine jo_f [(0, 0)] (by kernel_rfl) ?_
  refine jo_end (by kernel_rfl) ?_
  refine jx_then ?_
  refine jc_seq ?_
  refine jc_region ?_
  refine jo_f [(0, 0), (0, 0)] (by kernel_rfl) ?_
  obtain ⟨t_1, ht_1, h⟩ := bd h
  refine toO (by kernel_rfl) (p_call 0 239 #[(.slice s0_a s0.length s0_c), (.func (.func 167) #[] #[(.pointer (some ⟨g1c0_b, 0, none⟩))])] (by kernel_rfl) (by kernel_rfl) (fun w hm => slices_IndexFunc_Drum_at_impl_drumCode_1.calls s0 g1c0 w _ s0_a s0.length s0_c (hm.exRowW s0_h s0_ha) rfl g1c0_fHammers_a g1c0.fHammers.length g1c0_fHammers_c (hm.exRowW g1c0_fHammers_h g1c0_fHammers_ha) rfl g1c0_b (hm.pass (N := [⟨some g1c0_b, 27, [(.int .i16 g1c0.fSteps), (.slice g1c0_fHammers_a g1c0.fHammers.length g1c0_fHammers_c)]⟩]) [0] (by kernel_rfl) (by kernel_rfl)) (hm.exApart (N := [⟨some g1c0_b, 27, [(.int .i16 g1c0.fSteps), (.slice g1c0_fHammers_a g1c0.fHammers.length g1c0_fHammers_c)]⟩]) s0_h s0_ha [0] (by kernel_rfl)) (hm.exApart (N := [⟨some g1c0_b, 27, [(.int .i16 g1c0.fSteps), (.slice g1c0_fHammers_a g1c0.fHammers.length g1c0_fHammers_c)]⟩]) g1c0_fHammers_h g1c0_fHammers_ha [0] (by kernel_rfl)) ht_1) ?_)
  rintro w v w' hm ⟨rfl, hm'⟩
  refine ⟨_, hm.appW (ps := [(0, ⟨some g1c0_b, 27, [(.int .i16 g1c0.fSteps), (.slice g1c0_fHammers_a g1c0.fHammers.length g1c0_fHammers_c)]⟩)]) (N := []) hm' (by kernel_rfl) (by kernel_rfl), jkO ?_⟩
  clear hm hm'
  refine jo_f [(0, 0), (0, 0)] (by kernel_rfl) ?_
  refine jo_end (by kernel_rfl) ?_
  refine jx_then ?_
  refine jc_ret ?_
  obtain rfl := Option.some.inj h
  exact jx_ret [] (.bool (decide (t_1 ≥ 0))) [] rfl (by kernel_rfl) (by kernel_rfl) (fun w hm => ⟨rfl, hm.pick [0] (by kernel_rfl) (by kernel_rfl)⟩)

/-! ### impl.unless -/
noncomputable def impl_unless (is0 : Bool) (code1 : Int) : Option (Int) := (if is0 = true then some 0 else some code1)
set_option maxRecDepth 100000 in
theorem impl_unless.calls (is0 : Bool) (code1 : Int) (w : World) (r : Int) (h : impl_unless is0 code1 = some r) :
    Calls Tryz.prog 164 #[(.bool is0), (.int .i64 code1)] w fun e w' => ∃ v, e = .returned v ∧ (v = (.int .i64 r) ∧ Mem w [] [] w') := by
  rw [impl_unless] at h
  refine enter (args := [(.bool is0), (.int .i64 code1)]) Tryz.func164 rfl Tryz.ntmps164 (by kernel_rfl) (L := []) (W := []) (Mem.start w) ?_
  refine jc_seq ?_
  refine jc_region ?_
  refine jo_f [(0, 0)] (by kernel_rfl) ?_
  refine jo_end (by kernel_rfl) ?_
  refine jx_then ?_
  refine jc_seq ?_
  refine jc_seq ?_
  refine jc_region ?_
  refine jo_f [(0, 0)] (by kernel_rfl) ?_
  refine jo_end (by kernel_rfl) ?_
  refine jx_then ?_
  refine jc_cond is0 (by kernel_rfl) (fun hc_2 => ?_) (fun hc_2 => ?_)
  · replace h := ifT hc_2 h
    refine jc_seq ?_
    refine jc_region ?_
    refine jo_f [(0, 0)] (by kernel_rfl) ?_
    refine jo_end (by kernel_rfl) ?_
    refine jx_then ?_
    refine jc_ret ?_
    refine jx_thenr ?_
    obtain rfl := Option.some.inj h
    exact jx_ret [] (.int .i64 0) [] rfl (by kernel_rfl) (by kernel_rfl) (fun w hm => ⟨rfl, hm.pick [] (by kernel_rfl) (by kernel_rfl)⟩)
  · replace h := ifF hc_2 h
    refine jc_skip ?_
    refine jx_then ?_
    refine jc_seq ?_
    refine jc_region ?_
    refine jo_f [(0, 0), (0, 0)] (by kernel_rfl) ?_
    refine jo_end (by kernel_rfl) ?_
    refine jx_then ?_
    refine jc_ret ?_
    obtain rfl := Option.some.inj h
    exact jx_ret [] (.int .i64 code1) [] rfl (by kernel_rfl) (by kernel_rfl) (fun w hm => ⟨rfl, hm.pick [] (by kernel_rfl) (by kernel_rfl)⟩)

/-! ### impl.drumCode -/
noncomputable def impl_drumCode (f0 : GFrame) (list1 : List (Arr 96 Int)) : Option (Int) := (impl_ValidFrame f0).bind fun t_1 => (if t_1 = true then (slices_ContainsFunc_Drum_at_impl_drumCode_1 list1 f0).bind fun t_2 => (impl_unless (!t_2) 1).bind fun t_3 => some t_3 else (impl_unless false 1).bind fun t_4 => some t_4)
set_option maxRecDepth 100000 in
theorem impl_drumCode.calls (f0 : GFrame) (list1 : List (Arr 96 Int)) (w : World) (r : Int) (f0_fHammers_a : Option Addr) (f0_fHammers_an : Nat) (f0_fHammers_c : Nat) (f0_fHammers_h : Rw w f0_fHammers_a 2 encGHammer f0.fHammers) (f0_fHammers_hn : f0.fHammers.length = f0_fHammers_an) (list1_a : Option Addr) (list1_an : Nat) (list1_c : Nat) (list1_h : Rw w list1_a 96 encA96U32 list1) (list1_hn : list1.length = list1_an) (h : impl_drumCode f0 list1 = some r) :
    Calls Tryz.prog 81 #[(.agg #[(.int .i16 f0.fSteps), (.slice f0_fHammers_a f0_fHammers_an f0_fHammers_c)]), (.slice list1_a list1_an list1_c)] w fun e w' => ∃ v, e = .returned v ∧ (v = (.int .i64 r) ∧ Mem w [] [] w') := by
  subst f0_fHammers_hn list1_hn
  rw [impl_drumCode] at h
  refine enter (args := [(.agg #[(.int .i16 f0.fSteps), (.slice f0_fHammers_a f0.fHammers.length f0_fHammers_c)]), (.slice list1_a list1.length list1_c)]) Tryz.func81 rfl Tryz.ntmps81 (by kernel_rfl) (L := []) (W := []) (Mem.start w) ?_
  refine jc_seq ?_
  refine jc_region ?_
  refine toO (by kernel_rfl) (p_a 0 [0] (by kernel_rfl) (fun b => by kernel_rfl) (fun b_1 => jkO ?_))
  refine jo_f [(0, 0)] (by kernel_rfl) ?_
  refine jo_end (by kernel_rfl) ?_
  refine jx_then ?_
  refine jc_seq ?_
  refine jc_region ?_
  refine jo_f [(0, 0)] (by kernel_rfl) ?_
  obtain ⟨t_1, ht_2, h⟩ := bd h
  refine toO (by kernel_rfl) (p_call 0 115 #[(.agg #[(.int .i16 f0.fSteps), (.slice f0_fHammers_a f0.fHammers.length f0_fHammers_c)])] (by kernel_rfl) (by kernel_rfl) (fun w hm => impl_ValidFrame.calls f0 w _ f0_fHammers_a f0.fHammers.length f0_fHammers_c (hm.exRow f0_fHammers_h List.not_mem_nil) rfl ht_2) ?_)
  rintro w v w' hm ⟨rfl, hm'⟩
  refine ⟨_, hm.app hm', jkO ?_⟩
  clear hm hm'
  refine jo_f [(0, 0), (0, 1), (0, 1)] (by kernel_rfl) ?_
  refine jo_split 7 t_1 (by kernel_rfl) (fun hc_3 => ?_) (fun hc_3 => ?_)
  · replace h := ifT hc_3 h
    obtain ⟨t_2, ht_4, h⟩ := bd h
    refine toO (by kernel_rfl) (p_call 2 166 #[(.slice list1_a list1.length list1_c), (.func (.func 167) #[] #[(.pointer (some ⟨b_1, 0, none⟩))])] (by kernel_rfl) (by kernel_rfl) (fun w hm => slices_ContainsFunc_Drum_at_impl_drumCode_1.calls list1 f0 w _ list1_a list1.length list1_c (hm.exRow list1_h List.not_mem_nil) rfl f0_fHammers_a f0.fHammers.length f0_fHammers_c (hm.exRow f0_fHammers_h List.not_mem_nil) rfl b_1 (hm.pass (N := [⟨some b_1, 27, [(.int .i16 f0.fSteps), (.slice f0_fHammers_a f0.fHammers.length f0_fHammers_c)]⟩]) [0] (by kernel_rfl) (by kernel_rfl)) (hm.exApart (N := [⟨some b_1, 27, [(.int .i16 f0.fSteps), (.slice f0_fHammers_a f0.fHammers.length f0_fHammers_c)]⟩]) list1_h (fun _ => List.not_mem_nil) [0] (by kernel_rfl)) (hm.exApart (N := [⟨some b_1, 27, [(.int .i16 f0.fSteps), (.slice f0_fHammers_a f0.fHammers.length f0_fHammers_c)]⟩]) f0_fHammers_h (fun _ => List.not_mem_nil) [0] (by kernel_rfl)) ht_4) ?_)
    rintro w v w' hm ⟨rfl, hm'⟩
    refine ⟨_, hm.appW (ps := [(0, ⟨some b_1, 27, [(.int .i16 f0.fSteps), (.slice f0_fHammers_a f0.fHammers.length f0_fHammers_c)]⟩)]) (N := []) hm' (by kernel_rfl) (by kernel_rfl), jkO ?_⟩
    clear hm hm'
    refine jo_f [(0, 2), (0, 4)] (by kernel_rfl) ?_
    obtain ⟨t_3, ht_5, h⟩ := bd h
    refine toO (by kernel_rfl) (p_call 0 164 #[(.bool (!t_2)), (.int .i64 1)] (by kernel_rfl) (by kernel_rfl) (fun w hm => impl_unless.calls (!t_2) 1 w _ ht_5) ?_)
    rintro w v w' hm ⟨rfl, hm'⟩
    refine ⟨_, hm.app hm', jkO ?_⟩
    clear hm hm'
    refine jo_f [(0, 0)] (by kernel_rfl) ?_
    refine jo_end (by kernel_rfl) ?_
    refine jx_then ?_
    refine jc_ret ?_
    obtain rfl := Option.some.inj h
    exact jx_ret [] (.int .i64 t_3) [] rfl (by kernel_rfl) (by kernel_rfl) (fun w hm => ⟨rfl, hm.pick [] (by kernel_rfl) (by kernel_rfl)⟩)
  · replace h := ifF hc_3 h
    refine jo_f [(0, 3), (0, 3), (0, 5)] (by kernel_rfl) ?_
    obtain ⟨t_4, ht_6, h⟩ := bd h
    refine toO (by kernel_rfl) (p_call 0 164 #[(.bool false), (.int .i64 1)] (by kernel_rfl) (by kernel_rfl) (fun w hm => impl_unless.calls false 1 w _ ht_6) ?_)
    rintro w v w' hm ⟨rfl, hm'⟩
    refine ⟨_, hm.app hm', jkO ?_⟩
    clear hm hm'
    refine jo_f [(0, 0)] (by kernel_rfl) ?_
    refine jo_end (by kernel_rfl) ?_
    refine jx_then ?_
    refine jc_ret ?_
    obtain rfl := Option.some.inj h
    exact jx_ret [] (.int .i64 t_4) [] rfl (by kernel_rfl) (by kernel_rfl) (fun w hm => ⟨rfl, hm.pick [] (by kernel_rfl) (by kernel_rfl)⟩)

/-! ### (impl.Drum).less -/
noncomputable def impl_Drum_less.k_2 (a_1 : Arr 96 Int) : Option ((Arr 96 Int)) := some a_1
noncomputable def impl_Drum_less.l_5 (e1 : Arr 96 Int) : ((Arr 96 Int) × Int) → Option (((Arr 96 Int) × Int) ⊕ ((Arr 96 Int)))
  | (a_3, i_4) => (if (decide (i_4 < 96)) = true then (ix e1.1 i_4).bind fun x_7 => (ix a_3.1 i_4).bind fun x_8 => (ix a_3.1 i_4).bind fun x_9 => some (.inl ((Arr.set a_3 i_4 (bClr .u32 x_8 x_7)), (w64 (i_4 + 1)))) else some (.inr a_3))
noncomputable def impl_Drum_less (d0 : Arr 96 Int) (e1 : Arr 96 Int) : Option ((Arr 96 Int)) := (loop (impl_Drum_less.l_5 e1) (d0, 0)).bind fun t_6 => impl_Drum_less.k_2 t_6
set_option maxRecDepth 100000 in
theorem impl_Drum_less.calls (d0 : Arr 96 Int) (e1 : Arr 96 Int) (w : World) (r : (Arr 96 Int)) (h : impl_Drum_less d0 e1 = some r) :
    Calls Tryz.prog 83 #[(.agg (row encU32 d0.1 []).toArray), (.agg (row encU32 e1.1 []).toArray)] w fun e w' => ∃ v, e = .returned v ∧ (v = (.agg (row encU32 r.1 []).toArray) ∧ Mem w [] [] w') := by
  rw [impl_Drum_less] at h
  refine enter (args := [(.agg (row encU32 d0.1 []).toArray), (.agg (row encU32 e1.1 []).toArray)]) Tryz.func83 rfl Tryz.ntmps83 (by kernel_rfl) (L := []) (W := []) (Mem.start w) ?_
  refine jc_seq ?_
  refine jc_region ?_
  refine toO (by kernel_rfl) (p_a 0 [0] (by kernel_rfl) (fun b => by kernel_rfl) (fun b_1 => jkO ?_))
  refine toO (by kernel_rfl) (p_a 0 [0] (by kernel_rfl) (fun b => by kernel_rfl) (fun b_2 => jkO ?_))
  refine toO (by kernel_rfl) (p_a 0 [0] (by kernel_rfl) (fun b => by kernel_rfl) (fun b_3 => jkO ?_))
  refine jo_end (by kernel_rfl) ?_
  refine jx_then ?_
  refine jc_seq ?_
  refine jc_seq ?_
  refine jc_region ?_
  refine toO (by kernel_rfl) (p_ldA 0 1 b_2 96 1 31 encU32 e1 (by kernel_rfl) (by kernel_rfl) (by kernel_rfl) encU32_len (by kernel_rfl) (jkO ?_))
  refine jo_f [(0, 0)] (by kernel_rfl) ?_
  refine jo_end (by kernel_rfl) ?_
  refine jx_then ?_
  refine jc_meet (fun (j : (Arr 96 Int)) => match j with | a_1 => impl_Drum_less.k_2 a_1 = some r) (fun (j : (Arr 96 Int)) => match j with | a_1 => [(2, [], (.pointer (some ⟨b_1, 0, none⟩))), (4, [], (.pointer (some ⟨b_3, 0, none⟩)))]) (fun (j : (Arr 96 Int)) => match j with | a_1 => [⟨(some b_1), 31, row encU32 a_1.1 []⟩, ⟨(some b_2), 31, row encU32 e1.1 []⟩, ⟨(some b_3), 31, row encU32 ((Arr.rep 96 0).1) []⟩]) ?_ ?_
  · refine jc_block ?_
    obtain ⟨t_6, ht_79, hr_71⟩ := bd h
    refine jc_loop (fun (s : (Arr 96 Int) × Int) (x : Unit) => match s, x with | ⟨a_3, i_4⟩, _ => True) (fun (s : (Arr 96 Int) × Int) (x : Unit) => match s, x with | ⟨a_3, i_4⟩, _ => [(2, [], (.pointer (some ⟨b_1, 0, none⟩))), (4, [], (.pointer (some ⟨b_3, 0, none⟩))), (7, [], (.agg (row encU32 e1.1 []).toArray)), (8, [], (.int .i64 i_4))]) (fun (s : (Arr 96 Int) × Int) (x : Unit) => match s, x with | ⟨a_3, i_4⟩, _ => [⟨(some b_1), 31, row encU32 a_3.1 []⟩, ⟨(some b_2), 31, row encU32 e1.1 []⟩, ⟨(some b_3), 31, row encU32 ((Arr.rep 96 0).1) []⟩]) ht_79 () trivial (by kernel_rfl) [0, 1, 2] (by kernel_rfl) (by kernel_rfl) ?_
    rintro ⟨a_3, i_4⟩ _ y_72 _ h
    rw [impl_Drum_less.l_5] at h
    refine jc_seq ?_
    refine jc_region ?_
    refine jo_f [(0, 0)] (by kernel_rfl) ?_
    refine jo_end (by kernel_rfl) ?_
    refine jx_then ?_
    refine jc_seq ?_
    refine jc_cond (decide (i_4 < 96)) (by kernel_rfl) (fun hc_74 => ?_) (fun hc_74 => ?_)
    · replace h := ifT hc_74 h
      refine jc_skip ?_
      refine jx_then ?_
      refine jc_seq ?_
      refine jc_block ?_
      refine jc_seq ?_
      refine jc_region ?_
      refine jo_f [(0, 0)] (by kernel_rfl) ?_
      obtain ⟨x_7, hx_75, h⟩ := bd h
      refine toO (by kernel_rfl) (p_ixA 0 encU32 (fun x => (.int .u32 x)) e1 i_4 (by kernel_rfl) (by kernel_rfl) (fun _ => rfl) hx_75 (jkO ?_))
      refine jo_f [(0, 0), (0, 0)] (by kernel_rfl) ?_
      refine jo_end (by kernel_rfl) ?_
      refine jx_then ?_
      refine jc_region ?_
      refine jo_f [(0, 0)] (by kernel_rfl) ?_
      obtain ⟨x_8, hx_76, h⟩ := bd h
      refine toO (by kernel_rfl) (p_idx 0 (some ⟨b_1, 0, none⟩) 96 i_4 1 (by kernel_rfl) (by kernel_rfl) (ix_some hx_76).1 (ltn hx_76 a_3.2) rfl (jkO ?_))
      refine toO (by kernel_rfl) (p_ld 0 (aB (some ⟨b_1, 0, none⟩)) (aO (some ⟨b_1, 0, none⟩) + i_4.toNat * 1) false (encU32 x_8) (by kernel_rfl) (by kernel_rfl) (by kernel_rfl) (fun w hm => ((hm.ownRow (hh := 0) (o := (some b_1)) (T := 31) (enc := encU32) (xs := a_3.1) (sp := []) (by kernel_rfl) (fun e => nomatch e) encU32_len).at hx_76)) (jkO ?_))
      refine jo_f [(0, 0), (0, 0)] (by kernel_rfl) ?_
      obtain ⟨x_9, hx_77, h⟩ := bd h
      refine toO (by kernel_rfl) (p_idx 0 (some ⟨b_1, 0, none⟩) 96 i_4 1 (by kernel_rfl) (by kernel_rfl) (ix_some hx_77).1 (ltn hx_77 a_3.2) rfl (jkO ?_))
      refine toO (by kernel_rfl) (p_str 0 0 b_1 31 encU32 a_3.1 [] i_4 (bClr .u32 x_8 x_7) 1 0 [(.int .u32 (bClr .u32 x_8 x_7))] (by kernel_rfl) (by kernel_rfl) (by kernel_rfl) encU32_len hx_77 (by kernel_rfl) (by kernel_rfl) (jkO ?_))
      refine jo_end (by kernel_rfl) ?_
      refine jx_inn ?_
      refine jx_then ?_
      refine jc_region ?_
      refine jo_f [(0, 0), (0, 0)] (by kernel_rfl) ?_
      refine jo_end (by kernel_rfl) ?_
      exact jx_back ((Arr.set a_3 i_4 (bClr .u32 x_8 x_7)), (w64 (i_4 + 1))) () (Option.some.inj h).symm trivial [0, 1, 2] (by kernel_rfl) (by kernel_rfl) (by kernel_rfl)
    · replace h := ifF hc_74 h
      refine jc_exit ?_
      refine jx_thenx ?_
      refine jx_leave a_3 (Option.some.inj h).symm (fun e_78 => ?_)
      subst e_78
      refine jx_ine ?_
      exact jx_meet a_3 hr_71 (by kernel_rfl) [0, 1, 2] (by kernel_rfl) (by kernel_rfl)
  · rintro a_1 h
    replace h : impl_Drum_less.k_2 a_1 = some r := h
    rw [impl_Drum_less.k_2] at h
    refine jx_then ?_
    refine jc_seq ?_
    refine jc_region ?_
    refine toO (by kernel_rfl) (p_ldA 0 0 b_1 96 1 31 encU32 a_1 (by kernel_rfl) (by kernel_rfl) (by kernel_rfl) encU32_len (by kernel_rfl) (jkO ?_))
    refine toO (by kernel_rfl) (p_sA 0 2 b_3 96 1 31 encU32 (Arr.rep 96 0) a_1 (by kernel_rfl) (by kernel_rfl) (by kernel_rfl) encU32_len encU32_cell (by kernel_rfl) (jkO ?_))
    refine jo_end (by kernel_rfl) ?_
    refine jx_then ?_
    refine jc_ret ?_
    obtain rfl := Option.some.inj h
    exact jx_retV rfl (rq_arr (b := b_3) (T' := 31) (hh := 2) (mm := 1) encU32 a_1 (by kernel_rfl) (by kernel_rfl) encU32_len (by kernel_rfl) rq_nil) (fun w hm => ⟨rfl, hm.pick [] (by kernel_rfl) (by kernel_rfl)⟩)

/-! ### (*impl.Drum).has -/
noncomputable def impl_Drum_has (d0 : Arr 96 Int) (step1 : Int) (track2 : Int) : Option (Bool) := (ix d0.1 step1).bind fun x_1 => (if 0 ≤ track2 then some ((bAnd .u32 (bShr .u32 x_1 track2) 1) == 1) else none)
set_option maxRecDepth 100000 in
theorem impl_Drum_has.calls (d0 : Arr 96 Int) (step1 : Int) (track2 : Int) (w : World) (r : Bool) (d0_b : Nat) (hm0 : Mem w (bs [some d0_b]) [⟨(some d0_b), 31, row encU32 d0.1 []⟩] w) (h : impl_Drum_has d0 step1 track2 = some r) :
    Calls Tryz.prog 104 #[(.pointer (some ⟨d0_b, 0, none⟩)), (.int .i64 step1), (.int .i64 track2)] w fun e w' => ∃ v, e = .returned v ∧ (v = (.bool r) ∧ Mem w (bs [some d0_b]) [⟨(some d0_b), 31, row encU32 d0.1 []⟩] w') := by
  rw [impl_Drum_has] at h
  refine enter (args := [(.pointer (some ⟨d0_b, 0, none⟩)), (.int .i64 step1), (.int .i64 track2)]) Tryz.func104 rfl Tryz.ntmps104 (by kernel_rfl) (L := [⟨(some d0_b), 31, row encU32 d0.1 []⟩]) (W := bs [some d0_b]) hm0 ?_
  refine jc_seq ?_
  refine jc_region ?_
  refine jo_f [(0, 0)] (by kernel_rfl) ?_
  refine jo_end (by kernel_rfl) ?_
  refine jx_then ?_
  refine jc_seq ?_
  refine jc_region ?_
  refine jo_f [(0, 0), (0, 0), (0, 0)] (by kernel_rfl) ?_
  obtain ⟨x_1, hx_1, h⟩ := bd h
  refine toO (by kernel_rfl) (p_idx 0 (some ⟨d0_b, 0, none⟩) 96 step1 1 (by kernel_rfl) (by kernel_rfl) (ix_some hx_1).1 (ltn hx_1 d0.2) rfl (jkO ?_))
  refine toO (by kernel_rfl) (p_ld 0 (aB (some ⟨d0_b, 0, none⟩)) (aO (some ⟨d0_b, 0, none⟩) + step1.toNat * 1) false (encU32 x_1) (by kernel_rfl) (by kernel_rfl) (by kernel_rfl) (fun w hm => ((hm.ownRow (hh := 0) (o := (some d0_b)) (T := 31) (enc := encU32) (xs := d0.1) (sp := []) (by kernel_rfl) (fun e => nomatch e) encU32_len).at hx_1)) (jkO ?_))
  refine jo_f [(0, 0)] (by kernel_rfl) ?_
  obtain ⟨hg_2, h⟩ := gd h
  refine toO (by kernel_rfl) (p_shr 0 .u32 x_1 .i64 track2 (by kernel_rfl) (by kernel_rfl) hg_2 (jkO ?_))
  refine jo_f [(0, 0), (0, 0), (0, 0)] (by kernel_rfl) ?_
  refine jo_end (by kernel_rfl) ?_
  refine jx_then ?_
  refine jc_ret ?_
  obtain rfl := Option.some.inj h
  exact jx_ret [] (.bool ((bAnd .u32 (bShr .u32 x_1 track2) 1) == 1)) [] rfl (by kernel_rfl) (by kernel_rfl) (fun w hm => ⟨rfl, hm.pick [0] (by kernel_rfl) (by kernel_rfl)⟩)

/-! ### (impl.Frame).listed$1 -/
noncomputable def impl_Frame_listed_1 (step0 : Int) (track1 : Int) (p2 : List (Arr 2 Int)) : Option ((List (Arr 2 Int))) := (if p2.length + [(Arr.set (Arr.set (Arr.rep 2 0) 0 step0) 1 track1)].length ≤ 4294967296 then some (p2 ++ [(Arr.set (Arr.set (Arr.rep 2 0) 0 step0) 1 track1)]) else none)
set_option maxRecDepth 100000 in
theorem impl_Frame_listed_1.calls (step0 : Int) (track1 : Int) (p2 : List (Arr 2 Int)) (w : World) (r : (List (Arr 2 Int))) (p2_b : Nat) (p2_o : Option Nat) (p2_on : Nat) (p2_c : Nat) (p2_sp : List Value) (p2_hn : p2.length = p2_on) (p2_hs : p2_o ≠ none → p2_on ≤ p2_c ∧ p2_sp.length = (p2_c - p2_on) * 2) (p2_ho : p2_o = none → p2 = [] ∧ p2_c = 0) (hm0 : Mem w (bs [some p2_b, p2_o]) [⟨some p2_b, 57, [(.slice (p2_o.map fun b => ⟨b, 0, none⟩) p2_on p2_c)]⟩, ⟨p2_o, 104, row encA2I64 p2 p2_sp⟩] w) (h : impl_Frame_listed_1 step0 track1 p2 = some r) :
    Calls Tryz.prog 186 #[(.int .i64 step0), (.int .i64 track1), (.pointer (some ⟨p2_b, 0, none⟩))] w fun e w' => ∃ v, e = .returned v ∧ (∃ (mo0 : Option Nat) (mc0 : Nat) (ms0 : List Value) (mn0 : Nat), r.length = mn0 ∧ (mo0 ≠ none → mn0 ≤ mc0 ∧ ms0.length = (mc0 - mn0) * 2) ∧ (mo0 = none → r = [] ∧ mc0 = 0) ∧ v = .tuple #[] ∧ Mem w (bs [some p2_b, p2_o]) [⟨some p2_b, 57, [(.slice (mo0.map fun b => ⟨b, 0, none⟩) mn0 mc0)]⟩, ⟨mo0, 104, row encA2I64 r ms0⟩] w') := by
  subst p2_hn
  rw [impl_Frame_listed_1] at h
  refine enter (args := [(.int .i64 step0), (.int .i64 track1), (.pointer (some ⟨p2_b, 0, none⟩))]) Tryz.func186 rfl Tryz.ntmps186 (by kernel_rfl) (L := [⟨some p2_b, 57, [(.slice (p2_o.map fun b => ⟨b, 0, none⟩) p2.length p2_c)]⟩, ⟨p2_o, 104, row encA2I64 p2 p2_sp⟩]) (W := bs [some p2_b, p2_o]) hm0 ?_
  refine jc_region ?_
  refine jo_f [(0, 0), (0, 0), (0, 0), (0, 0)] (by kernel_rfl) ?_
  refine toO (by kernel_rfl) (p_bs 0 104 2 1 encA2I64 [(.agg (row encI64 (Arr.set (Arr.set (Arr.rep 2 0) 0 step0) 1 track1).1 []).toArray)] [(Arr.set (Arr.set (Arr.rep 2 0) 0 step0) 1 track1)] (by kernel_rfl) (by kernel_rfl) rfl (by kernel_rfl) (by kernel_rfl) encA2I64_len (fun b_1 => jkO ?_))
  obtain ⟨hg_2, h⟩ := gd h
  refine toO (by kernel_rfl) (p_apn 0 1 p2_o 104 p2.length 1 p2_c 2 16 (some ⟨b_1, 0, none⟩) encA2I64 p2 [(Arr.set (Arr.set (Arr.rep 2 0) 0 step0) 1 track1)] p2_sp (.agg (row encI64 (Arr.rep 2 0).1 []).toArray) rfl rfl (by kernel_rfl) (by kernel_rfl) (by kernel_rfl) encA2I64_len encA2I64_cell p2_hs p2_ho (fun w hm => (hm.ownRow (hh := 2) (o := (some b_1)) (T := 104) (enc := encA2I64) (xs := [(Arr.set (Arr.set (Arr.rep 2 0) 0 step0) 1 track1)]) (sp := []) (by kernel_rfl) (fun e => nomatch e) encA2I64_len)) hg_2 (by kernel_rfl) (by kernel_rfl) (fun o_3 cap_4 sp_5 hs_6 ho_7 => jkO ?_))
  refine toO (by kernel_rfl) (p_s 0 [0] (by kernel_rfl) (by kernel_rfl) (jkO ?_))
  refine jo_end (by kernel_rfl) ?_
  refine jx_fall ?_
  obtain rfl := Option.some.inj h
  exact jx_ret [] (.tuple #[]) [] rfl (by kernel_rfl) (by kernel_rfl) (fun w hm => ⟨o_3, cap_4, sp_5, ((p2 ++ [(Arr.set (Arr.set (Arr.rep 2 0) 0 step0) 1 track1)]).length), rfl, hs_6, ho_7, rfl, hm.pick [0, 1] (by kernel_rfl) (by kernel_rfl)⟩)

/-! ### (impl.Frame).pins -/
noncomputable def impl_Frame_pins_at_impl_Frame_listed_1.k_2 (xs_1 : List (Arr 2 Int)) : Option ((List (Arr 2 Int))) := some xs_1
noncomputable def impl_Frame_pins_at_impl_Frame_listed_1.k_9 (i_4 : Int) (xs_8 : List (Arr 2 Int)) : Option (((List (Arr 2 Int)) × Int) ⊕ ((List (Arr 2 Int)))) := some (.inl (xs_8, (w64 (i_4 + 1))))
noncomputable def impl_Frame_pins_at_impl_Frame_listed_1.l_12 (d1 : Arr 96 Int) (i_4 : Int) (t_7 : Int) : ((List (Arr 2 Int)) × Int) → Option (((List (Arr 2 Int)) × Int) ⊕ ((List (Arr 2 Int))))
  | (xs_10, i_11) => (if (decide (i_11 < t_7)) = true then (impl_Drum_has d1 i_4 i_11).bind fun t_14 => (if t_14 = true then (impl_Frame_listed_1 i_4 i_11 xs_10).bind fun t_15 => some (.inl (t_15, (w64 (i_11 + 1)))) else some (.inl (xs_10, (w64 (i_11 + 1))))) else some (.inr xs_10))
noncomputable def impl_Frame_pins_at_impl_Frame_listed_1.l_5 (f0 : GFrame) (d1 : Arr 96 Int) : ((List (Arr 2 Int)) × Int) → Option (((List (Arr 2 Int)) × Int) ⊕ ((List (Arr 2 Int))))
  | (xs_3, i_4) => (if (decide (i_4 < (w64 f0.fSteps))) = true then (impl_size_Hammer f0.fHammers).bind fun t_7 => (loop (impl_Frame_pins_at_impl_Frame_listed_1.l_12 d1 i_4 t_7) (xs_3, 0)).bind fun t_13 => impl_Frame_pins_at_impl_Frame_listed_1.k_9 i_4 t_13 else some (.inr xs_3))
noncomputable def impl_Frame_pins_at_impl_Frame_listed_1 (f0 : GFrame) (d1 : Arr 96 Int) (g2c0 : List (Arr 2 Int)) : Option ((List (Arr 2 Int))) := (loop (impl_Frame_pins_at_impl_Frame_listed_1.l_5 f0 d1) (g2c0, 0)).bind fun t_6 => impl_Frame_pins_at_impl_Frame_listed_1.k_2 t_6
set_option maxRecDepth 100000 in
theorem impl_Frame_pins_at_impl_Frame_listed_1.calls (f0 : GFrame) (d1 : Arr 96 Int) (g2c0 : List (Arr 2 Int)) (w : World) (r : (List (Arr 2 Int))) (f0_fHammers_a : Option Addr) (f0_fHammers_an : Nat) (f0_fHammers_c : Nat) (f0_fHammers_h : Rw w f0_fHammers_a 2 encGHammer f0.fHammers) (f0_fHammers_hn : f0.fHammers.length = f0_fHammers_an) (g2c0_b : Nat) (g2c0_o : Option Nat) (g2c0_on : Nat) (g2c0_c : Nat) (g2c0_sp : List Value) (g2c0_hn : g2c0.length = g2c0_on) (g2c0_hs : g2c0_o ≠ none → g2c0_on ≤ g2c0_c ∧ g2c0_sp.length = (g2c0_c - g2c0_on) * 2) (g2c0_ho : g2c0_o = none → g2c0 = [] ∧ g2c0_c = 0) (hm0 : Mem w (bs [some g2c0_b, g2c0_o]) [⟨some g2c0_b, 57, [(.slice (g2c0_o.map fun b => ⟨b, 0, none⟩) g2c0_on g2c0_c)]⟩, ⟨g2c0_o, 104, row encA2I64 g2c0 g2c0_sp⟩] w) (f0_fHammers_ha : f0.fHammers ≠ [] → aB f0_fHammers_a ∉ bs [some g2c0_b, g2c0_o]) (h : impl_Frame_pins_at_impl_Frame_listed_1 f0 d1 g2c0 = some r) :
    Calls Tryz.prog 185 #[(.agg #[(.int .i16 f0.fSteps), (.slice f0_fHammers_a f0_fHammers_an f0_fHammers_c)]), (.agg (row encU32 d1.1 []).toArray), (.func (.func 186) #[] #[(.pointer (some ⟨g2c0_b, 0, none⟩))])] w fun e w' => ∃ v, e = .returned v ∧ (∃ (mo0 : Option Nat) (mc0 : Nat) (ms0 : List Value) (mn0 : Nat), r.length = mn0 ∧ (mo0 ≠ none → mn0 ≤ mc0 ∧ ms0.length = (mc0 - mn0) * 2) ∧ (mo0 = none → r = [] ∧ mc0 = 0) ∧ v = .tuple #[] ∧ Mem w (bs [some g2c0_b, g2c0_o]) [⟨some g2c0_b, 57, [(.slice (mo0.map fun b => ⟨b, 0, none⟩) mn0 mc0)]⟩, ⟨mo0, 104, row encA2I64 r ms0⟩] w') := by
  subst f0_fHammers_hn g2c0_hn
  rw [impl_Frame_pins_at_impl_Frame_listed_1] at h
  refine enter (args := [(.agg #[(.int .i16 f0.fSteps), (.slice f0_fHammers_a f0.fHammers.length f0_fHammers_c)]), (.agg (row encU32 d1.1 []).toArray), (.func (.func 186) #[] #[(.pointer (some ⟨g2c0_b, 0, none⟩))])]) Tryz.func185 rfl Tryz.ntmps185 (by kernel_rfl) (L := [⟨some g2c0_b, 57, [(.slice (g2c0_o.map fun b => ⟨b, 0, none⟩) g2c0.length g2c0_c)]⟩, ⟨g2c0_o, 104, row encA2I64 g2c0 g2c0_sp⟩]) (W := bs [some g2c0_b, g2c0_o]) hm0 ?_
  refine jc_seq ?_
  refine jc_region ?_
  refine toO (by kernel_rfl) (p_a 0 [0] (by kernel_rfl) (fun b => by kernel_rfl) (fun b_1 => jkO ?_))
  refine toO (by kernel_rfl) (p_a 0 [0] (by kernel_rfl) (fun b => by kernel_rfl) (fun b_2 => jkO ?_))
  refine jo_end (by kernel_rfl) ?_
  refine jx_then ?_
  refine jc_seq ?_
  refine jc_region ?_
  refine jo_f [(0, 0), (2, 0), (0, 0), (0, 0)] (by kernel_rfl) ?_
  refine jo_end (by kernel_rfl) ?_
  refine jx_then ?_
  refine jc_meet (fun (j : (List (Arr 2 Int)) × (Option Nat) × Nat × (List Value) × Nat) => match j with | ⟨xs_1, o_322, cap_323, sp_324, n_325⟩ => impl_Frame_pins_at_impl_Frame_listed_1.k_2 xs_1 = some r ∧ (xs_1.length = n_325) ∧ ((o_322 ≠ none → n_325 ≤ cap_323 ∧ sp_324.length = (cap_323 - n_325) * 2)) ∧ ((o_322 = none → xs_1 = [] ∧ cap_323 = 0))) (fun (j : (List (Arr 2 Int)) × (Option Nat) × Nat × (List Value) × Nat) => match j with | ⟨xs_1, o_322, cap_323, sp_324, n_325⟩ => []) (fun (j : (List (Arr 2 Int)) × (Option Nat) × Nat × (List Value) × Nat) => match j with | ⟨xs_1, o_322, cap_323, sp_324, n_325⟩ => [⟨some g2c0_b, 57, [(.slice (o_322.map fun b => ⟨b, 0, none⟩) n_325 cap_323)]⟩, ⟨o_322, 104, row encA2I64 xs_1 sp_324⟩, ⟨some b_1, 27, [(.int .i16 f0.fSteps), (.slice f0_fHammers_a f0.fHammers.length f0_fHammers_c)]⟩, ⟨(some b_2), 31, row encU32 d1.1 []⟩]) ?_ ?_
  · refine jc_block ?_
    obtain ⟨t_6, ht_646, hr_542⟩ := bd h
    refine jc_loop (fun (s : (List (Arr 2 Int)) × Int) (x : (Option Nat) × Nat × (List Value) × Nat) => match s, x with | ⟨xs_3, i_4⟩, ⟨o_536, cap_537, sp_538, n_539⟩ => (xs_3.length = n_539) ∧ ((o_536 ≠ none → n_539 ≤ cap_537 ∧ sp_538.length = (cap_537 - n_539) * 2)) ∧ ((o_536 = none → xs_3 = [] ∧ cap_537 = 0))) (fun (s : (List (Arr 2 Int)) × Int) (x : (Option Nat) × Nat × (List Value) × Nat) => match s, x with | ⟨xs_3, i_4⟩, ⟨o_536, cap_537, sp_538, n_539⟩ => [(2, [], (.func (.func 186) #[] #[(.pointer (some ⟨g2c0_b, 0, none⟩))])), (3, [], (.pointer (some ⟨b_1, 0, none⟩))), (4, [], (.pointer (some ⟨b_2, 0, none⟩))), (10, [], (.int .i64 (w64 f0.fSteps))), (11, [], (.int .i64 i_4))]) (fun (s : (List (Arr 2 Int)) × Int) (x : (Option Nat) × Nat × (List Value) × Nat) => match s, x with | ⟨xs_3, i_4⟩, ⟨o_536, cap_537, sp_538, n_539⟩ => [⟨some g2c0_b, 57, [(.slice (o_536.map fun b => ⟨b, 0, none⟩) n_539 cap_537)]⟩, ⟨o_536, 104, row encA2I64 xs_3 sp_538⟩, ⟨some b_1, 27, [(.int .i16 f0.fSteps), (.slice f0_fHammers_a f0.fHammers.length f0_fHammers_c)]⟩, ⟨(some b_2), 31, row encU32 d1.1 []⟩]) ht_646 ⟨g2c0_o, g2c0_c, g2c0_sp, g2c0.length⟩ ⟨rfl, g2c0_hs, g2c0_ho⟩ (by kernel_rfl) [0, 1, 2, 3] (by kernel_rfl) (by kernel_rfl) ?_
    rintro ⟨xs_3, i_4⟩ ⟨o_536, cap_537, sp_538, n_539⟩ y_543 ⟨rfl, hs_540, ho_541⟩ h
    rw [impl_Frame_pins_at_impl_Frame_listed_1.l_5] at h
    refine jc_seq ?_
    refine jc_region ?_
    refine jo_f [(0, 0)] (by kernel_rfl) ?_
    refine jo_end (by kernel_rfl) ?_
    refine jx_then ?_
    refine jc_seq ?_
    refine jc_cond (decide (i_4 < (w64 f0.fSteps))) (by kernel_rfl) (fun hc_545 => ?_) (fun hc_545 => ?_)
    · replace h := ifT hc_545 h
      refine jc_skip ?_
      refine jx_then ?_
      refine jc_seq ?_
      refine jc_block ?_
      refine jc_seq ?_
      refine jc_region ?_
      refine jo_f [(0, 0), (0, 0)] (by kernel_rfl) ?_
      refine jo_end (by kernel_rfl) ?_
      refine jx_then ?_
      refine jc_seq ?_
      refine jc_region ?_
      refine jo_f [(0, 0), (2, 0)] (by kernel_rfl) ?_
      obtain ⟨t_7, ht_546, h⟩ := bd h
      refine toO (by kernel_rfl) (p_call 0 181 #[(.slice f0_fHammers_a f0.fHammers.length f0_fHammers_c)] (by kernel_rfl) (by kernel_rfl) (fun w hm => impl_size_Hammer.calls f0.fHammers w _ f0_fHammers_a f0.fHammers.length f0_fHammers_c (hm.exRowW f0_fHammers_h f0_fHammers_ha) rfl ht_546) ?_)
      rintro w v w' hm ⟨rfl, hm'⟩
      refine ⟨_, hm.app hm', jkO ?_⟩
      clear hm hm'
      refine jo_f [(0, 0)] (by kernel_rfl) ?_
      refine jo_end (by kernel_rfl) ?_
      refine jx_then ?_
      refine jc_meet (fun (j : (List (Arr 2 Int)) × (Option Nat) × Nat × (List Value) × Nat) => match j with | ⟨xs_8, o_593, cap_594, sp_595, n_596⟩ => impl_Frame_pins_at_impl_Frame_listed_1.k_9 i_4 xs_8 = some y_543 ∧ (xs_8.length = n_596) ∧ ((o_593 ≠ none → n_596 ≤ cap_594 ∧ sp_595.length = (cap_594 - n_596) * 2)) ∧ ((o_593 = none → xs_8 = [] ∧ cap_594 = 0))) (fun (j : (List (Arr 2 Int)) × (Option Nat) × Nat × (List Value) × Nat) => match j with | ⟨xs_8, o_593, cap_594, sp_595, n_596⟩ => [(2, [], (.func (.func 186) #[] #[(.pointer (some ⟨g2c0_b, 0, none⟩))])), (3, [], (.pointer (some ⟨b_1, 0, none⟩))), (4, [], (.pointer (some ⟨b_2, 0, none⟩))), (10, [], (.int .i64 (w64 f0.fSteps))), (11, [], (.int .i64 i_4))]) (fun (j : (List (Arr 2 Int)) × (Option Nat) × Nat × (List Value) × Nat) => match j with | ⟨xs_8, o_593, cap_594, sp_595, n_596⟩ => [⟨some g2c0_b, 57, [(.slice (o_593.map fun b => ⟨b, 0, none⟩) n_596 cap_594)]⟩, ⟨o_593, 104, row encA2I64 xs_8 sp_595⟩, ⟨some b_1, 27, [(.int .i16 f0.fSteps), (.slice f0_fHammers_a f0.fHammers.length f0_fHammers_c)]⟩, ⟨(some b_2), 31, row encU32 d1.1 []⟩]) ?_ ?_
      · refine jc_block ?_
        obtain ⟨t_13, ht_644, hr_631⟩ := bd h
        refine jc_loop (fun (s : (List (Arr 2 Int)) × Int) (x : (Option Nat) × Nat × (List Value) × Nat) => match s, x with | ⟨xs_10, i_11⟩, ⟨o_625, cap_626, sp_627, n_628⟩ => (xs_10.length = n_628) ∧ ((o_625 ≠ none → n_628 ≤ cap_626 ∧ sp_627.length = (cap_626 - n_628) * 2)) ∧ ((o_625 = none → xs_10 = [] ∧ cap_626 = 0))) (fun (s : (List (Arr 2 Int)) × Int) (x : (Option Nat) × Nat × (List Value) × Nat) => match s, x with | ⟨xs_10, i_11⟩, ⟨o_625, cap_626, sp_627, n_628⟩ => [(2, [], (.func (.func 186) #[] #[(.pointer (some ⟨g2c0_b, 0, none⟩))])), (3, [], (.pointer (some ⟨b_1, 0, none⟩))), (4, [], (.pointer (some ⟨b_2, 0, none⟩))), (6, [], (.int .i64 i_4)), (10, [], (.int .i64 (w64 f0.fSteps))), (11, [], (.int .i64 i_4)), (16, [], (.int .i64 t_7)), (17, [], (.int .i64 i_11))]) (fun (s : (List (Arr 2 Int)) × Int) (x : (Option Nat) × Nat × (List Value) × Nat) => match s, x with | ⟨xs_10, i_11⟩, ⟨o_625, cap_626, sp_627, n_628⟩ => [⟨some g2c0_b, 57, [(.slice (o_625.map fun b => ⟨b, 0, none⟩) n_628 cap_626)]⟩, ⟨o_625, 104, row encA2I64 xs_10 sp_627⟩, ⟨some b_1, 27, [(.int .i16 f0.fSteps), (.slice f0_fHammers_a f0.fHammers.length f0_fHammers_c)]⟩, ⟨(some b_2), 31, row encU32 d1.1 []⟩]) ht_644 ⟨o_536, cap_537, sp_538, xs_3.length⟩ ⟨rfl, hs_540, ho_541⟩ (by kernel_rfl) [0, 1, 2, 3] (by kernel_rfl) (by kernel_rfl) ?_
        rintro ⟨xs_10, i_11⟩ ⟨o_625, cap_626, sp_627, n_628⟩ y_632 ⟨rfl, hs_629, ho_630⟩ h
        rw [impl_Frame_pins_at_impl_Frame_listed_1.l_12] at h
        refine jc_seq ?_
        refine jc_region ?_
        refine jo_f [(0, 0)] (by kernel_rfl) ?_
        refine jo_end (by kernel_rfl) ?_
        refine jx_then ?_
        refine jc_seq ?_
        refine jc_cond (decide (i_11 < t_7)) (by kernel_rfl) (fun hc_634 => ?_) (fun hc_634 => ?_)
        · replace h := ifT hc_634 h
          refine jc_skip ?_
          refine jx_then ?_
          refine jc_seq ?_
          refine jc_block ?_
          refine jc_seq ?_
          refine jc_region ?_
          refine jo_f [(0, 0), (0, 0)] (by kernel_rfl) ?_
          refine jo_end (by kernel_rfl) ?_
          refine jx_then ?_
          refine jc_seq ?_
          refine jc_region ?_
          refine jo_f [(0, 0), (0, 0)] (by kernel_rfl) ?_
          obtain ⟨t_14, ht_635, h⟩ := bd h
          refine toO (by kernel_rfl) (p_call 0 104 #[(.pointer (some ⟨b_2, 0, none⟩)), (.int .i64 i_4), (.int .i64 i_11)] (by kernel_rfl) (by kernel_rfl) (fun w hm => impl_Drum_has.calls d1 i_4 i_11 w _ b_2 (hm.pass (N := [⟨(some b_2), 31, row encU32 d1.1 []⟩]) [3] (by kernel_rfl) (by kernel_rfl)) ht_635) ?_)
          rintro w v w' hm ⟨rfl, hm'⟩
          refine ⟨_, hm.appW (ps := [(3, ⟨(some b_2), 31, row encU32 d1.1 []⟩)]) (N := []) hm' (by kernel_rfl) (by kernel_rfl), jkO ?_⟩
          clear hm hm'
          refine jo_end (by kernel_rfl) ?_
          refine jx_then ?_
          refine jc_cond t_14 (by kernel_rfl) (fun hc_636 => ?_) (fun hc_636 => ?_)
          · replace h := ifT hc_636 h
            refine jc_region ?_
            refine jo_f [(0, 0), (0, 0), (0, 0)] (by kernel_rfl) ?_
            obtain ⟨t_15, ht_637, h⟩ := bd h
            refine toO (by kernel_rfl) (p_call 0 186 #[(.int .i64 i_4), (.int .i64 i_11), (.pointer (some ⟨g2c0_b, 0, none⟩))] (by kernel_rfl) (by kernel_rfl) (fun w hm => impl_Frame_listed_1.calls i_4 i_11 xs_10 w _ g2c0_b o_625 xs_10.length cap_626 sp_627 rfl hs_629 ho_630 (hm.pass (N := [⟨some g2c0_b, 57, [(.slice (o_625.map fun b => ⟨b, 0, none⟩) xs_10.length cap_626)]⟩, ⟨o_625, 104, row encA2I64 xs_10 sp_627⟩]) [0, 1] (by kernel_rfl) (by kernel_rfl)) ht_637) ?_)
            rintro w v w' hm ⟨o_638, cap_639, sp_640, _, rfl, hs_641, ho_642, rfl, hm'⟩
            refine ⟨_, Mem.pick (hm.appP (ps := [(0, ⟨some g2c0_b, 57, [(.slice (o_638.map fun b => ⟨b, 0, none⟩) t_15.length cap_639)]⟩)]) (ds := [1]) (N := [⟨o_638, 104, row encA2I64 t_15 sp_640⟩]) hm' [0, 1] (by kernel_rfl) (by kernel_rfl) (by kernel_rfl)) (N := [⟨some g2c0_b, 57, [(.slice (o_638.map fun b => ⟨b, 0, none⟩) t_15.length cap_639)]⟩, ⟨o_638, 104, row encA2I64 t_15 sp_640⟩, ⟨some b_1, 27, [(.int .i16 f0.fSteps), (.slice f0_fHammers_a f0.fHammers.length f0_fHammers_c)]⟩, ⟨(some b_2), 31, row encU32 d1.1 []⟩]) [0, 4, 2, 3] (by kernel_rfl) (by kernel_rfl), jkO ?_⟩
            clear hm hm'
            refine jo_end (by kernel_rfl) ?_
            refine jx_inn ?_
            refine jx_then ?_
            refine jc_region ?_
            refine jo_f [(0, 0), (0, 0)] (by kernel_rfl) ?_
            refine jo_end (by kernel_rfl) ?_
            exact jx_back (t_15, (w64 (i_11 + 1))) ⟨o_638, cap_639, sp_640, t_15.length⟩ (Option.some.inj h).symm ⟨rfl, hs_641, ho_642⟩ [0, 1, 2, 3] (by kernel_rfl) (by kernel_rfl) (by kernel_rfl)
          · replace h := ifF hc_636 h
            refine jc_skip ?_
            refine jx_inn ?_
            refine jx_then ?_
            refine jc_region ?_
            refine jo_f [(0, 0), (0, 0)] (by kernel_rfl) ?_
            refine jo_end (by kernel_rfl) ?_
            exact jx_back (xs_10, (w64 (i_11 + 1))) ⟨o_625, cap_626, sp_627, xs_10.length⟩ (Option.some.inj h).symm ⟨rfl, hs_629, ho_630⟩ [0, 1, 2, 3] (by kernel_rfl) (by kernel_rfl) (by kernel_rfl)
        · replace h := ifF hc_634 h
          refine jc_exit ?_
          refine jx_thenx ?_
          refine jx_leave xs_10 (Option.some.inj h).symm (fun e_643 => ?_)
          subst e_643
          refine jx_ine ?_
          exact jx_meet ⟨xs_10, o_625, cap_626, sp_627, xs_10.length⟩ ⟨hr_631, rfl, hs_629, ho_630⟩ (by kernel_rfl) [0, 1, 2, 3] (by kernel_rfl) (by kernel_rfl)
      · rintro ⟨xs_8, o_593, cap_594, sp_595, n_596⟩ ⟨h, rfl, hs_597, ho_598⟩
        replace h : impl_Frame_pins_at_impl_Frame_listed_1.k_9 i_4 xs_8 = some y_543 := h
        rw [impl_Frame_pins_at_impl_Frame_listed_1.k_9] at h
        refine jx_inn ?_
        refine jx_then ?_
        refine jc_region ?_
        refine jo_f [(0, 0), (0, 0)] (by kernel_rfl) ?_
        refine jo_end (by kernel_rfl) ?_
        exact jx_back (xs_8, (w64 (i_4 + 1))) ⟨o_593, cap_594, sp_595, xs_8.length⟩ (Option.some.inj h).symm ⟨rfl, hs_597, ho_598⟩ [0, 1, 2, 3] (by kernel_rfl) (by kernel_rfl) (by kernel_rfl)
    · replace h := ifF hc_545 h
      refine jc_exit ?_
      refine jx_thenx ?_
      refine jx_leave xs_3 (Option.some.inj h).symm (fun e_645 => ?_)
      subst e_645
      refine jx_ine ?_
      exact jx_meet ⟨xs_3, o_536, cap_537, sp_538, xs_3.length⟩ ⟨hr_542, rfl, hs_540, ho_541⟩ (by kernel_rfl) [0, 1, 2, 3] (by kernel_rfl) (by kernel_rfl)
  · rintro ⟨xs_1, o_322, cap_323, sp_324, n_325⟩ ⟨h, rfl, hs_326, ho_327⟩
    replace h : impl_Frame_pins_at_impl_Frame_listed_1.k_2 xs_1 = some r := h
    rw [impl_Frame_pins_at_impl_Frame_listed_1.k_2] at h
    refine jx_fall ?_
    obtain rfl := Option.some.inj h
    exact jx_ret [] (.tuple #[]) [] rfl (by kernel_rfl) (by kernel_rfl) (fun w hm => ⟨o_322, cap_323, sp_324, xs_1.length, rfl, hs_326, ho_327, rfl, hm.pick [0, 1] (by kernel_rfl) (by kernel_rfl)⟩)

/-! ### (impl.Frame).listed -/
noncomputable def impl_Frame_listed (f0 : GFrame) (d1 : Arr 96 Int) : Option ((List (Arr 2 Int))) := (impl_Frame_pins_at_impl_Frame_listed_1 f0 d1 ([] : List (Arr 2 Int))).bind fun t_1 => some t_1
set_option maxRecDepth 100000 in
theorem impl_Frame_listed.calls (f0 : GFrame) (d1 : Arr 96 Int) (w : World) (r : (List (Arr 2 Int))) (f0_fHammers_a : Option Addr) (f0_fHammers_an : Nat) (f0_fHammers_c : Nat) (f0_fHammers_h : Rw w f0_fHammers_a 2 encGHammer f0.fHammers) (f0_fHammers_hn : f0.fHammers.length = f0_fHammers_an) (h : impl_Frame_listed f0 d1 = some r) :
    Calls Tryz.prog 97 #[(.agg #[(.int .i16 f0.fSteps), (.slice f0_fHammers_a f0_fHammers_an f0_fHammers_c)]), (.agg (row encU32 d1.1 []).toArray)] w fun e w' => ∃ v, e = .returned v ∧ (∃ (o0 : Option Nat) (c0 : Nat) (s0 : List Value) (n0 : Nat), r.length = n0 ∧ (o0 ≠ none → n0 ≤ c0 ∧ s0.length = (c0 - n0) * 2) ∧ (o0 = none → r = [] ∧ c0 = 0) ∧ v = .slice (o0.map fun b => ⟨b, 0, none⟩) n0 c0 ∧ Mem w [] [⟨o0, 104, row encA2I64 r s0⟩] w') := by
  subst f0_fHammers_hn
  rw [impl_Frame_listed] at h
  refine enter (args := [(.agg #[(.int .i16 f0.fSteps), (.slice f0_fHammers_a f0.fHammers.length f0_fHammers_c)]), (.agg (row encU32 d1.1 []).toArray)]) Tryz.func97 rfl Tryz.ntmps97 (by kernel_rfl) (L := []) (W := []) (Mem.start w) ?_
  refine jc_seq ?_
  refine jc_region ?_
  refine toO (by kernel_rfl) (p_a 0 [0] (by kernel_rfl) (fun b => by kernel_rfl) (fun b_1 => jkO ?_))
  refine toO (by kernel_rfl) (p_a 0 [0] (by kernel_rfl) (fun b => by kernel_rfl) (fun b_2 => jkO ?_))
  refine jo_f [(0, 0)] (by kernel_rfl) ?_
  refine jo_end (by kernel_rfl) ?_
  refine jx_then ?_
  refine jc_seq ?_
  refine jc_region ?_
  refine toO (by kernel_rfl) (p_a 0 [0] (by kernel_rfl) (fun b => by kernel_rfl) (fun b_3 => jkO ?_))
  refine toO (by kernel_rfl) (p_a 0 [0] (by kernel_rfl) (fun b => by kernel_rfl) (fun b_4 => jkO ?_))
  refine toO (by kernel_rfl) (p_s 0 [3] (by kernel_rfl) (by kernel_rfl) (jkO ?_))
  refine jo_end (by kernel_rfl) ?_
  refine jx_then ?_
  refine jc_seq ?_
  refine jc_region ?_
  refine jo_f [(0, 0)] (by kernel_rfl) ?_
  refine toO (by kernel_rfl) (p_ldA 0 1 b_2 96 1 31 encU32 d1 (by kernel_rfl) (by kernel_rfl) (by kernel_rfl) encU32_len (by kernel_rfl) (jkO ?_))
  refine jo_f [(0, 0)] (by kernel_rfl) ?_
  obtain ⟨t_1, ht_5, h⟩ := bd h
  refine toO (by kernel_rfl) (p_call 0 185 #[(.agg #[(.int .i16 f0.fSteps), (.slice f0_fHammers_a f0.fHammers.length f0_fHammers_c)]), (.agg (row encU32 d1.1 []).toArray), (.func (.func 186) #[] #[(.pointer (some ⟨b_4, 0, none⟩))])] (by kernel_rfl) (by kernel_rfl) (fun w hm => impl_Frame_pins_at_impl_Frame_listed_1.calls f0 d1 ([] : List (Arr 2 Int)) w _ f0_fHammers_a f0.fHammers.length f0_fHammers_c (hm.exRow f0_fHammers_h List.not_mem_nil) rfl b_4 (some b_3) 0 0 [] rfl (fun _ => ⟨Nat.le_refl _, by simp⟩) (fun e => nomatch e) (hm.pass (N := [⟨some b_4, 57, [(.slice (some ⟨b_3, 0, none⟩) 0 0)]⟩, ⟨(some b_3), 104, row encA2I64 ([] : List (Arr 2 Int)) []⟩]) [3, 2] (by kernel_rfl) (by kernel_rfl)) (hm.exApart (N := [⟨some b_4, 57, [(.slice (some ⟨b_3, 0, none⟩) 0 0)]⟩, ⟨(some b_3), 104, row encA2I64 ([] : List (Arr 2 Int)) []⟩]) f0_fHammers_h (fun _ => List.not_mem_nil) [3, 2] (by kernel_rfl)) ht_5) ?_)
  rintro w v w' hm ⟨o_6, cap_7, sp_8, _, rfl, hs_9, ho_10, rfl, hm'⟩
  refine ⟨_, Mem.pick (hm.appP (ps := [(3, ⟨some b_4, 57, [(.slice (o_6.map fun b => ⟨b, 0, none⟩) t_1.length cap_7)]⟩)]) (ds := [2]) (N := [⟨o_6, 104, row encA2I64 t_1 sp_8⟩]) hm' [0, 1] (by kernel_rfl) (by kernel_rfl) (by kernel_rfl)) (N := [⟨some b_1, 27, [(.int .i16 f0.fSteps), (.slice f0_fHammers_a f0.fHammers.length f0_fHammers_c)]⟩, ⟨(some b_2), 31, row encU32 d1.1 []⟩, ⟨o_6, 104, row encA2I64 t_1 sp_8⟩, ⟨some b_4, 57, [(.slice (o_6.map fun b => ⟨b, 0, none⟩) t_1.length cap_7)]⟩]) [0, 1, 4, 3] (by kernel_rfl) (by kernel_rfl), jkO ?_⟩
  clear hm hm'
  refine jo_end (by kernel_rfl) ?_
  refine jx_then ?_
  refine jc_seq ?_
  refine jc_region ?_
  refine jo_f [(3, 0), (0, 0)] (by kernel_rfl) ?_
  refine jo_end (by kernel_rfl) ?_
  refine jx_then ?_
  refine jc_ret ?_
  obtain rfl := Option.some.inj h
  exact jx_ret [] (.slice (o_6.map fun b => ⟨b, 0, none⟩) t_1.length cap_7) [] rfl (by kernel_rfl) (by kernel_rfl) (fun w hm => ⟨o_6, cap_7, sp_8, t_1.length, rfl, hs_9, ho_10, rfl, hm.pick [2] (by kernel_rfl) (by kernel_rfl)⟩)

/-! ### impl.MovesBetween -/
noncomputable def impl_MovesBetween (f0 : GFrame) (a1 : Arr 96 Int) (b2 : Arr 96 Int) : Option ((List (Arr 2 Int)) × (List (Arr 2 Int)) × Int) := (impl_drumCode f0 [a1, b2]).bind fun t_1 => (if (t_1 != 0) = true then some ([], [], t_1) else (impl_Drum_less a1 b2).bind fun t_2 => (impl_Frame_listed f0 t_2).bind fun t_3 => (impl_Drum_less b2 a1).bind fun t_4 => (impl_Frame_listed f0 t_4).bind fun t_5 => some (t_3, t_5, 0))
set_option maxRecDepth 100000 in
theorem impl_MovesBetween.calls (f0 : GFrame) (a1 : Arr 96 Int) (b2 : Arr 96 Int) (w : World) (r : (List (Arr 2 Int)) × (List (Arr 2 Int)) × Int) (f0_fHammers_a : Option Addr) (f0_fHammers_an : Nat) (f0_fHammers_c : Nat) (f0_fHammers_h : Rw w f0_fHammers_a 2 encGHammer f0.fHammers) (f0_fHammers_hn : f0.fHammers.length = f0_fHammers_an) (h : impl_MovesBetween f0 a1 b2 = some r) :
    Calls Tryz.prog 31 #[(.agg #[(.int .i16 f0.fSteps), (.slice f0_fHammers_a f0_fHammers_an f0_fHammers_c)]), (.agg (row encU32 a1.1 []).toArray), (.agg (row encU32 b2.1 []).toArray)] w fun e w' => ∃ v, e = .returned v ∧ (∃ (o0 : Option Nat) (c0 : Nat) (s0 : List Value) (n0 : Nat), r.1.length = n0 ∧ (o0 ≠ none → n0 ≤ c0 ∧ s0.length = (c0 - n0) * 2) ∧ (o0 = none → r.1 = [] ∧ c0 = 0) ∧ ∃ (o1 : Option Nat) (c1 : Nat) (s1 : List Value) (n1 : Nat), r.2.1.length = n1 ∧ (o1 ≠ none → n1 ≤ c1 ∧ s1.length = (c1 - n1) * 2) ∧ (o1 = none → r.2.1 = [] ∧ c1 = 0) ∧ v = .tuple #[.slice (o0.map fun b => ⟨b, 0, none⟩) n0 c0, .slice (o1.map fun b => ⟨b, 0, none⟩) n1 c1, (.int .i64 r.2.2)] ∧ Mem w [] [⟨o0, 104, row encA2I64 r.1 s0⟩, ⟨o1, 104, row encA2I64 r.2.1 s1⟩] w') := by
  subst f0_fHammers_hn
  rw [impl_MovesBetween] at h
  refine enter (args := [(.agg #[(.int .i16 f0.fSteps), (.slice f0_fHammers_a f0.fHammers.length f0_fHammers_c)]), (.agg (row encU32 a1.1 []).toArray), (.agg (row encU32 b2.1 []).toArray)]) Tryz.func31 rfl Tryz.ntmps31 (by kernel_rfl) (L := []) (W := []) (Mem.start w) ?_
  refine jc_seq ?_
  refine jc_region ?_
  refine toO (by kernel_rfl) (p_a 0 [0] (by kernel_rfl) (fun b => by kernel_rfl) (fun b_1 => jkO ?_))
  refine toO (by kernel_rfl) (p_a 0 [0] (by kernel_rfl) (fun b => by kernel_rfl) (fun b_2 => jkO ?_))
  refine toO (by kernel_rfl) (p_a 0 [0] (by kernel_rfl) (fun b => by kernel_rfl) (fun b_3 => jkO ?_))
  refine jo_f [(0, 0), (0, 0), (0, 0)] (by kernel_rfl) ?_
  refine jo_end (by kernel_rfl) ?_
  refine jx_then ?_
  refine jc_seq ?_
  refine jc_seq ?_
  refine jc_region ?_
  refine jo_f [(0, 0)] (by kernel_rfl) ?_
  refine toO (by kernel_rfl) (p_ldA 0 1 b_2 96 1 31 encU32 a1 (by kernel_rfl) (by kernel_rfl) (by kernel_rfl) encU32_len (by kernel_rfl) (jkO ?_))
  refine toO (by kernel_rfl) (p_ldA 0 2 b_3 96 1 31 encU32 b2 (by kernel_rfl) (by kernel_rfl) (by kernel_rfl) encU32_len (by kernel_rfl) (jkO ?_))
  refine toO (by kernel_rfl) (p_bs 0 31 96 2 encA96U32 [(.agg (row encU32 a1.1 []).toArray), (.agg (row encU32 b2.1 []).toArray)] [a1, b2] (by kernel_rfl) (by kernel_rfl) rfl (by kernel_rfl) (by kernel_rfl) encA96U32_len (fun b_7 => jkO ?_))
  obtain ⟨t_1, ht_8, h⟩ := bd h
  refine toO (by kernel_rfl) (p_call 0 81 #[(.agg #[(.int .i16 f0.fSteps), (.slice f0_fHammers_a f0.fHammers.length f0_fHammers_c)]), (.slice (some ⟨b_7, 0, none⟩) 2 2)] (by kernel_rfl) (by kernel_rfl) (fun w hm => impl_drumCode.calls f0 [a1, b2] w _ f0_fHammers_a f0.fHammers.length f0_fHammers_c (hm.exRow f0_fHammers_h List.not_mem_nil) rfl (some ⟨b_7, 0, none⟩) 2 2 (hm.ownRow (hh := 3) (o := (some b_7)) (T := 31) (enc := encA96U32) (xs := [a1, b2]) (sp := []) (by kernel_rfl) (fun e => nomatch e) encA96U32_len) rfl ht_8) ?_)
  rintro w v w' hm ⟨rfl, hm'⟩
  refine ⟨_, hm.app hm', jkO ?_⟩
  clear hm hm'
  refine jo_f [(0, 0)] (by kernel_rfl) ?_
  refine jo_end (by kernel_rfl) ?_
  refine jx_then ?_
  refine jc_seq ?_
  refine jc_region ?_
  refine jo_f [(0, 0), (0, 0)] (by kernel_rfl) ?_
  refine jo_end (by kernel_rfl) ?_
  refine jx_then ?_
  refine jc_cond (t_1 != 0) (by kernel_rfl) (fun hc_9 => ?_) (fun hc_9 => ?_)
  · replace h := ifT hc_9 h
    refine jc_seq ?_
    refine jc_region ?_
    refine jo_f [(0, 0), (0, 0), (0, 0), (0, 0)] (by kernel_rfl) ?_
    refine jo_end (by kernel_rfl) ?_
    refine jx_then ?_
    refine jc_ret ?_
    refine jx_thenr ?_
    obtain rfl := Option.some.inj h
    refine jx_ghost 104 encA2I64 ?_
    refine jx_ghost 104 encA2I64 ?_
    exact jx_ret [] (.tuple #[(.slice none 0 0), (.slice none 0 0), (.int .i64 t_1)]) [] rfl (by kernel_rfl) (by kernel_rfl) (fun w hm => ⟨none, 0, [], 0, rfl, (fun e => absurd rfl e), (fun _ => ⟨rfl, rfl⟩), none, 0, [], 0, rfl, (fun e => absurd rfl e), (fun _ => ⟨rfl, rfl⟩), rfl, hm.pick [4, 5] (by kernel_rfl) (by kernel_rfl)⟩)
  · replace h := ifF hc_9 h
    refine jc_skip ?_
    refine jx_then ?_
    refine jc_seq ?_
    refine jc_draw [⟨some b_1, 27, [(.int .i16 f0.fSteps), (.slice f0_fHammers_a f0.fHammers.length f0_fHammers_c)]⟩, ⟨(some b_2), 31, row encU32 a1.1 []⟩, ⟨(some b_3), 31, row encU32 b2.1 []⟩, ⟨(some b_7), 31, row encA96U32 [a1, b2] []⟩] 13 (by kernel_rfl) (by kernel_rfl) ?_
    refine jd_f [⟨0, 0, 0⟩, ⟨5, 0, 0⟩] 11 (by kernel_rfl) (by kernel_rfl) (fun w h => h.pick [0, 1, 2, 3] (by kernel_rfl) (by kernel_rfl)) (by kernel_rfl) (by kernel_rfl) ?_
    refine jd_v 1 0 (by kernel_rfl) (fun w h => h.pick [0, 1, 2, 3] (by kernel_rfl) (by kernel_rfl)) (by kernel_rfl) (by kernel_rfl) _ (fun w hm => ld_run (b := b_2) (off := 0) (s := 96) (agg := true) (vs := row encU32 a1.1 []) (by kernel_rfl) ((row_len encU32_len a1).trans rfl) (.inl rfl) (hm.all (hh := 1) (T := 31) (by kernel_rfl))) ?_
    refine jd_v 2 0 (by kernel_rfl) (fun w h => h.pick [0, 1, 2, 3] (by kernel_rfl) (by kernel_rfl)) (by kernel_rfl) (by kernel_rfl) _ (fun w hm => ld_run (b := b_3) (off := 0) (s := 96) (agg := true) (vs := row encU32 b2.1 []) (by kernel_rfl) ((row_len encU32_len b2).trans rfl) (.inl rfl) (hm.all (hh := 2) (T := 31) (by kernel_rfl))) ?_
    refine jd_v 6 0 (by kernel_rfl) (fun w h => h.pick [0, 1, 2, 3] (by kernel_rfl) (by kernel_rfl)) (by kernel_rfl) (by kernel_rfl) _ (fun w hm => ld_run (b := b_3) (off := 0) (s := 96) (agg := true) (vs := row encU32 b2.1 []) (by kernel_rfl) ((row_len encU32_len b2).trans rfl) (.inl rfl) (hm.all (hh := 2) (T := 31) (by kernel_rfl))) ?_
    refine jd_v 7 0 (by kernel_rfl) (fun w h => h.pick [0, 1, 2, 3] (by kernel_rfl) (by kernel_rfl)) (by kernel_rfl) (by kernel_rfl) _ (fun w hm => ld_run (b := b_2) (off := 0) (s := 96) (agg := true) (vs := row encU32 a1.1 []) (by kernel_rfl) ((row_len encU32_len a1).trans rfl) (.inl rfl) (hm.all (hh := 1) (T := 31) (by kernel_rfl))) ?_
    obtain ⟨t_2, ht_10, h⟩ := bd h
    refine toD 3 (by kernel_rfl) (p_call 0 83 #[(.agg (row encU32 a1.1 []).toArray), (.agg (row encU32 b2.1 []).toArray)] (by kernel_rfl) (by kernel_rfl) (fun w hm => impl_Drum_less.calls a1 b2 w _ ht_10) ?_)
    rintro w v w' hm ⟨rfl, hm'⟩
    refine ⟨_, hm.app hm', jkD (fun w h => h.pick [0, 1, 2, 3] (by kernel_rfl) (by kernel_rfl)) ?_⟩
    clear hm hm'
    obtain ⟨t_3, ht_11, h⟩ := bd h
    refine toD 4 (by kernel_rfl) (p_call 0 97 #[(.agg #[(.int .i16 f0.fSteps), (.slice f0_fHammers_a f0.fHammers.length f0_fHammers_c)]), (.agg (row encU32 t_2.1 []).toArray)] (by kernel_rfl) (by kernel_rfl) (fun w hm => impl_Frame_listed.calls f0 t_2 w _ f0_fHammers_a f0.fHammers.length f0_fHammers_c (hm.exRow f0_fHammers_h List.not_mem_nil) rfl ht_11) ?_)
    rintro w v w' hm ⟨o_12, cap_13, sp_14, _, rfl, hs_15, ho_16, rfl, hm'⟩
    refine ⟨_, hm.app hm', jkD (fun w h => h.pick [0, 1, 2, 3] (by kernel_rfl) (by kernel_rfl)) ?_⟩
    clear hm hm'
    obtain ⟨t_4, ht_17, h⟩ := bd h
    refine toD 8 (by kernel_rfl) (p_call 0 83 #[(.agg (row encU32 b2.1 []).toArray), (.agg (row encU32 a1.1 []).toArray)] (by kernel_rfl) (by kernel_rfl) (fun w hm => impl_Drum_less.calls b2 a1 w _ ht_17) ?_)
    rintro w v w' hm ⟨rfl, hm'⟩
    refine ⟨_, hm.app hm', jkD (fun w h => h.pick [0, 1, 2, 3] (by kernel_rfl) (by kernel_rfl)) ?_⟩
    clear hm hm'
    obtain ⟨t_5, ht_18, h⟩ := bd h
    refine toD 9 (by kernel_rfl) (p_call 0 97 #[(.agg #[(.int .i16 f0.fSteps), (.slice f0_fHammers_a f0.fHammers.length f0_fHammers_c)]), (.agg (row encU32 t_4.1 []).toArray)] (by kernel_rfl) (by kernel_rfl) (fun w hm => impl_Frame_listed.calls f0 t_4 w _ f0_fHammers_a f0.fHammers.length f0_fHammers_c (hm.exRow f0_fHammers_h List.not_mem_nil) rfl ht_18) ?_)
    rintro w v w' hm ⟨o_19, cap_20, sp_21, _, rfl, hs_22, ho_23, rfl, hm'⟩
    refine ⟨_, hm.app hm', jkD (fun w h => h.pick [0, 1, 2, 3] (by kernel_rfl) (by kernel_rfl)) ?_⟩
    clear hm hm'
    refine jd_f [⟨10, 0, 0⟩, ⟨11, 0, 0⟩, ⟨12, 0, 0⟩] 0 (by kernel_rfl) (by kernel_rfl) (fun w h => h.pick [0, 1, 2, 3] (by kernel_rfl) (by kernel_rfl)) (by kernel_rfl) (by kernel_rfl) ?_
    refine jd_end (by kernel_rfl) ?_
    refine jx_then ?_
    refine jc_ret ?_
    obtain rfl := Option.some.inj h
    exact jx_ret [] (.tuple #[(.slice (o_12.map fun b => ⟨b, 0, none⟩) t_3.length cap_13), (.slice (o_19.map fun b => ⟨b, 0, none⟩) t_5.length cap_20), (.int .i64 0)]) [] rfl (by kernel_rfl) (by kernel_rfl) (fun w hm => ⟨o_12, cap_13, sp_14, t_3.length, rfl, hs_15, ho_16, o_19, cap_20, sp_21, t_5.length, rfl, hs_22, ho_23, rfl, hm.pick [4, 5] (by kernel_rfl) (by kernel_rfl)⟩)

def lay_grow156_ren : Go.Shelf.Ren := ⟨fun | 4 => 156 | n => n, fun | 22 => 57 | 25 => 104 | 3 => 3 | 4 => 4 | 9 => 9 | 20 => 20 | 0 => 0 | n => n, fun | n => n⟩
theorem lay_grow156 : Go.Proofs.Lays8.n4 Tryz.prog lay_grow156_ren where
  mixed := by kernel_rfl
  f4 := ⟨ "slices.Grow[[][2]int64,[2]int64]", by decide, Tryz.func156.trans (congrArg some (by kernel_rfl))⟩
  t0 := Tryz.underlying0
  a0 := Tryz.isAgg0
  z0 := Tryz.sizeOf0
  v0 := Tryz.zeroValue0
  t3 := Tryz.underlying3
  a3 := Tryz.isAgg3
  z3 := Tryz.sizeOf3
  v3 := Tryz.zeroValue3
  t4 := Tryz.underlying4
  a4 := Tryz.isAgg4
  z4 := Tryz.sizeOf4
  v4 := Tryz.zeroValue4
  t9 := Tryz.underlying9
  a9 := Tryz.isAgg9
  z9 := Tryz.sizeOf9
  v9 := Tryz.zeroValue9
  t20 := Tryz.underlying20
  a20 := Tryz.isAgg20
  z20 := Tryz.sizeOf20
  v20 := Tryz.zeroValue20
  t22 := Tryz.underlying57
  a22 := Tryz.isAgg57
  z22 := Tryz.sizeOf57
  v22 := Tryz.zeroValue57
/-! ### slices.Grow -/
theorem grow156.calls (n : Int) (w : World) (r : List (Arr 2 Int)) (h : growF n = some r) :
    Calls Tryz.prog 156 #[.slice none 0 0, .int .i64 n] w fun e w' => ∃ v, e = .returned v ∧ (∃ (o0 : Option Nat) (c0 : Nat) (s0 : List Value) (n0 : Nat), r.length = n0 ∧ (o0 ≠ none → n0 ≤ c0 ∧ s0.length = (c0 - n0) * 2) ∧ (o0 = none → r = [] ∧ c0 = 0) ∧ v = .slice (o0.map fun b => ⟨b, 0, none⟩) n0 c0 ∧ Mem w [] [⟨o0, 104, row encA2I64 r s0⟩] w') :=
  grow_calls lay_grow156 encA2I64 2 (by decide) (by kernel_rfl) n w r h

/-! ### slices.Concat[[][2]int64,[2]int64] -/
noncomputable def slices_Concat_2int64.k_5 (xs_4 : List (Arr 2 Int)) : Option ((List (Arr 2 Int))) := some xs_4
noncomputable def slices_Concat_2int64.l_8 (slices0 : List (List (Arr 2 Int))) : ((List (Arr 2 Int)) × Int) → Option (((List (Arr 2 Int)) × Int) ⊕ ((List (Arr 2 Int))))
  | (xs_6, i_7) => (if (decide (i_7 < (slices0.length : Int))) = true then (ix slices0 i_7).bind fun x_10 => (if xs_6.length + x_10.length ≤ 4294967296 then some (.inl ((xs_6 ++ x_10), (w64 (i_7 + 1)))) else none) else some (.inr xs_6))
noncomputable def slices_Concat_2int64.k_2 (slices0 : List (List (Arr 2 Int))) (i_1 : Int) : Option ((List (Arr 2 Int))) := ((growF i_1 : Option (List (Arr 2 Int)))).bind fun t_3 => (loop (slices_Concat_2int64.l_8 slices0) (t_3, 0)).bind fun t_9 => slices_Concat_2int64.k_5 t_9
noncomputable def slices_Concat_2int64.l_13 (slices0 : List (List (Arr 2 Int))) : (Int × Int) → Option ((Int × Int) ⊕ (Int))
  | (i_11, i_12) => (if (decide (i_12 < (slices0.length : Int))) = true then (ix slices0 i_12).bind fun x_15 => (if (decide ((w64 (i_11 + (x_15.length : Int))) < 0)) = true then none else some (.inl ((w64 (i_11 + (x_15.length : Int))), (w64 (i_12 + 1))))) else some (.inr i_11))
noncomputable def slices_Concat_2int64 (slices0 : List (List (Arr 2 Int))) : Option ((List (Arr 2 Int))) := (loop (slices_Concat_2int64.l_13 slices0) (0, 0)).bind fun t_14 => slices_Concat_2int64.k_2 slices0 t_14
set_option maxRecDepth 100000 in
theorem slices_Concat_2int64.calls (slices0 : List (List (Arr 2 Int))) (w : World) (r : (List (Arr 2 Int))) (slices0_a : Option Addr) (slices0_an : Nat) (slices0_c : Nat) (slices0_hs : List Hd) (slices0_h : Rw w slices0_a 1 encHd slices0_hs) (slices0_hn : slices0.length = slices0_an) (slices0_i : Inn w [] 2 encA2I64 slices0_hs slices0) (h : slices_Concat_2int64 slices0 = some r) :
    Calls Tryz.prog 65 #[(.slice slices0_a slices0_an slices0_c)] w fun e w' => ∃ v, e = .returned v ∧ (∃ (o0 : Option Nat) (c0 : Nat) (s0 : List Value) (n0 : Nat), r.length = n0 ∧ (o0 ≠ none → n0 ≤ c0 ∧ s0.length = (c0 - n0) * 2) ∧ (o0 = none → r = [] ∧ c0 = 0) ∧ v = .slice (o0.map fun b => ⟨b, 0, none⟩) n0 c0 ∧ Mem w [] [⟨o0, 104, row encA2I64 r s0⟩] w') := by
  subst slices0_hn
  rw [slices_Concat_2int64] at h
  refine enter (args := [(.slice slices0_a slices0.length slices0_c)]) Tryz.func65 rfl Tryz.ntmps65 (by kernel_rfl) (L := []) (W := []) (Mem.start w) ?_
  refine jc_seq ?_
  refine jc_region ?_
  refine jo_f [(0, 0)] (by kernel_rfl) ?_
  refine jo_end (by kernel_rfl) ?_
  refine jx_then ?_
  refine jc_seq ?_
  refine jc_region ?_
  refine jo_f [(0, 0)] (by kernel_rfl) ?_
  refine jo_end (by kernel_rfl) ?_
  refine jx_then ?_
  refine jc_seq ?_
  refine jc_seq ?_
  refine jc_region ?_
  refine jo_f [(0, 0), (0, 0), (0, 0)] (by kernel_rfl) ?_
  refine jo_end (by kernel_rfl) ?_
  refine jx_then ?_
  refine jc_meet (fun (j : Int) => match j with | i_1 => slices_Concat_2int64.k_2 slices0 i_1 = some r) (fun (j : Int) => match j with | i_1 => [(0, [], (.slice slices0_a slices0.length slices0_c)), (2, [], (.slice none 0 0)), (3, [], (.int .i64 i_1))]) (fun (j : Int) => match j with | i_1 => []) ?_ ?_
  · refine jc_block ?_
    obtain ⟨t_14, ht_254, hr_247⟩ := bd h
    refine jc_loop (fun (s : Int × Int) (x : Unit) => match s, x with | ⟨i_11, i_12⟩, _ => True) (fun (s : Int × Int) (x : Unit) => match s, x with | ⟨i_11, i_12⟩, _ => [(0, [], (.slice slices0_a slices0.length slices0_c)), (2, [], (.slice none 0 0)), (3, [], (.int .i64 i_11)), (9, [], (.slice slices0_a slices0.length slices0_c)), (10, [], (.int .i64 (slices0.length : Int))), (11, [], (.int .i64 i_12))]) (fun (s : Int × Int) (x : Unit) => match s, x with | ⟨i_11, i_12⟩, _ => []) ht_254 () trivial (by kernel_rfl) [] (by kernel_rfl) (by kernel_rfl) ?_
    rintro ⟨i_11, i_12⟩ _ y_248 _ h
    rw [slices_Concat_2int64.l_13] at h
    refine jc_seq ?_
    refine jc_region ?_
    refine jo_f [(0, 0)] (by kernel_rfl) ?_
    refine jo_end (by kernel_rfl) ?_
    refine jx_then ?_
    refine jc_seq ?_
    refine jc_cond (decide (i_12 < (slices0.length : Int))) (by kernel_rfl) (fun hc_250 => ?_) (fun hc_250 => ?_)
    · replace h := ifT hc_250 h
      refine jc_skip ?_
      refine jx_then ?_
      refine jc_seq ?_
      refine jc_block ?_
      refine jc_seq ?_
      refine jc_region ?_
      obtain ⟨x_15, hx_251, h⟩ := bd h
      refine toO (by kernel_rfl) (p_idx 0 slices0_a slices0.length i_12 1 (by kernel_rfl) (by kernel_rfl) (ix_some hx_251).1 (ltn hx_251 rfl) (slices0_h.sp (slices0_i.ixh hx_251)) (jkO ?_))
      refine toO (by kernel_rfl) (p_ld 0 (aB slices0_a) (aO slices0_a + i_12.toNat * 1) false (encHd (hd slices0_hs i_12)) (by kernel_rfl) (by kernel_rfl) (by kernel_rfl) (fun w hm => ((hm.exRow slices0_h List.not_mem_nil).at (slices0_i.ixh hx_251))) (jkO ?_))
      refine jo_f [(0, 0)] (by kernel_rfl) ?_
      refine jo_end (by kernel_rfl) ?_
      refine jx_then ?_
      refine jc_seq ?_
      refine jc_region ?_
      refine jo_f [(0, 0), (0, 0)] (by kernel_rfl) ?_
      refine toO (by kernel_rfl) (p_val 0 (.int .i64 (((hd slices0_hs i_12).n : Nat) : Int)) (.int .i64 (x_15.length : Int)) (by kernel_rfl) (by kernel_rfl) (congrArg (fun z : Nat => Value.int .i64 (z : Int)) (Eq.symm (slices0_i.get hx_251).2.1)) (jkO ?_))
      refine jo_f [(0, 0), (0, 0)] (by kernel_rfl) ?_
      refine jo_end (by kernel_rfl) ?_
      refine jx_then ?_
      refine jc_seq ?_
      refine jc_region ?_
      refine jo_f [(0, 0), (0, 0)] (by kernel_rfl) ?_
      refine jo_end (by kernel_rfl) ?_
      refine jx_then ?_
      refine jc_cond (decide ((w64 (i_11 + (x_15.length : Int))) < 0)) (by kernel_rfl) (fun hc_252 => ?_) (fun hc_252 => ?_)
      · replace h := ifT hc_252 h
        refine jc_region ?_
        cases h
      · replace h := ifF hc_252 h
        refine jc_skip ?_
        refine jx_inn ?_
        refine jx_then ?_
        refine jc_region ?_
        refine jo_f [(0, 0), (0, 0)] (by kernel_rfl) ?_
        refine jo_end (by kernel_rfl) ?_
        exact jx_back ((w64 (i_11 + (x_15.length : Int))), (w64 (i_12 + 1))) () (Option.some.inj h).symm trivial [] (by kernel_rfl) (by kernel_rfl) (by kernel_rfl)
    · replace h := ifF hc_250 h
      refine jc_exit ?_
      refine jx_thenx ?_
      refine jx_leave i_11 (Option.some.inj h).symm (fun e_253 => ?_)
      subst e_253
      refine jx_ine ?_
      exact jx_meet i_11 hr_247 (by kernel_rfl) [] (by kernel_rfl) (by kernel_rfl)
  · rintro i_1 h
    replace h : slices_Concat_2int64.k_2 slices0 i_1 = some r := h
    rw [slices_Concat_2int64.k_2] at h
    refine jx_then ?_
    refine jc_seq ?_
    refine jc_region ?_
    refine jo_f [(0, 0)] (by kernel_rfl) ?_
    obtain ⟨t_3, ht_49, h⟩ := bd h
    refine toO (by kernel_rfl) (p_call 0 156 #[(.slice none 0 0), (.int .i64 i_1)] (by kernel_rfl) (by kernel_rfl) (fun w hm => grow156.calls i_1 w _ ht_49) ?_)
    rintro w v w' hm ⟨o_50, cap_51, sp_52, _, rfl, hs_53, ho_54, rfl, hm'⟩
    refine ⟨_, hm.app hm', jkO ?_⟩
    clear hm hm'
    refine jo_f [(0, 0)] (by kernel_rfl) ?_
    refine jo_end (by kernel_rfl) ?_
    refine jx_then ?_
    refine jc_seq ?_
    refine jc_seq ?_
    refine jc_region ?_
    refine jo_f [(0, 0), (0, 0), (0, 0)] (by kernel_rfl) ?_
    refine jo_end (by kernel_rfl) ?_
    refine jx_then ?_
    refine jc_meet (fun (j : (List (Arr 2 Int)) × (Option Nat) × Nat × (List Value) × Nat) => match j with | ⟨xs_4, o_190, cap_191, sp_192, n_193⟩ => slices_Concat_2int64.k_5 xs_4 = some r ∧ (xs_4.length = n_193) ∧ ((o_190 ≠ none → n_193 ≤ cap_191 ∧ sp_192.length = (cap_191 - n_193) * 2)) ∧ ((o_190 = none → xs_4 = [] ∧ cap_191 = 0))) (fun (j : (List (Arr 2 Int)) × (Option Nat) × Nat × (List Value) × Nat) => match j with | ⟨xs_4, o_190, cap_191, sp_192, n_193⟩ => [(2, [], (.slice none 0 0)), (6, [], (.slice (o_190.map fun b => ⟨b, 0, none⟩) n_193 cap_191))]) (fun (j : (List (Arr 2 Int)) × (Option Nat) × Nat × (List Value) × Nat) => match j with | ⟨xs_4, o_190, cap_191, sp_192, n_193⟩ => [⟨o_190, 104, row encA2I64 xs_4 sp_192⟩]) ?_ ?_
    · refine jc_block ?_
      obtain ⟨t_9, ht_238, hr_226⟩ := bd h
      refine jc_loop (fun (s : (List (Arr 2 Int)) × Int) (x : (Option Nat) × Nat × (List Value) × Nat) => match s, x with | ⟨xs_6, i_7⟩, ⟨o_220, cap_221, sp_222, n_223⟩ => (xs_6.length = n_223) ∧ ((o_220 ≠ none → n_223 ≤ cap_221 ∧ sp_222.length = (cap_221 - n_223) * 2)) ∧ ((o_220 = none → xs_6 = [] ∧ cap_221 = 0))) (fun (s : (List (Arr 2 Int)) × Int) (x : (Option Nat) × Nat × (List Value) × Nat) => match s, x with | ⟨xs_6, i_7⟩, ⟨o_220, cap_221, sp_222, n_223⟩ => [(2, [], (.slice none 0 0)), (6, [], (.slice (o_220.map fun b => ⟨b, 0, none⟩) n_223 cap_221)), (25, [], (.slice slices0_a slices0.length slices0_c)), (26, [], (.int .i64 (slices0.length : Int))), (27, [], (.int .i64 i_7))]) (fun (s : (List (Arr 2 Int)) × Int) (x : (Option Nat) × Nat × (List Value) × Nat) => match s, x with | ⟨xs_6, i_7⟩, ⟨o_220, cap_221, sp_222, n_223⟩ => [⟨o_220, 104, row encA2I64 xs_6 sp_222⟩]) ht_238 ⟨o_50, cap_51, sp_52, t_3.length⟩ ⟨rfl, hs_53, ho_54⟩ (by kernel_rfl) [0] (by kernel_rfl) (by kernel_rfl) ?_
      rintro ⟨xs_6, i_7⟩ ⟨o_220, cap_221, sp_222, n_223⟩ y_227 ⟨rfl, hs_224, ho_225⟩ h
      rw [slices_Concat_2int64.l_8] at h
      refine jc_seq ?_
      refine jc_region ?_
      refine jo_f [(0, 0)] (by kernel_rfl) ?_
      refine jo_end (by kernel_rfl) ?_
      refine jx_then ?_
      refine jc_seq ?_
      refine jc_cond (decide (i_7 < (slices0.length : Int))) (by kernel_rfl) (fun hc_229 => ?_) (fun hc_229 => ?_)
      · replace h := ifT hc_229 h
        refine jc_skip ?_
        refine jx_then ?_
        refine jc_seq ?_
        refine jc_block ?_
        refine jc_seq ?_
        refine jc_region ?_
        obtain ⟨x_10, hx_230, h⟩ := bd h
        refine toO (by kernel_rfl) (p_idx 0 slices0_a slices0.length i_7 1 (by kernel_rfl) (by kernel_rfl) (ix_some hx_230).1 (ltn hx_230 rfl) (slices0_h.sp (slices0_i.ixh hx_230)) (jkO ?_))
        refine toO (by kernel_rfl) (p_ld 0 (aB slices0_a) (aO slices0_a + i_7.toNat * 1) false (encHd (hd slices0_hs i_7)) (by kernel_rfl) (by kernel_rfl) (by kernel_rfl) (fun w hm => ((hm.exRow slices0_h List.not_mem_nil).at (slices0_i.ixh hx_230))) (jkO ?_))
        refine jo_f [(0, 0)] (by kernel_rfl) ?_
        refine jo_end (by kernel_rfl) ?_
        refine jx_then ?_
        refine jc_region ?_
        refine jo_f [(0, 0), (0, 0)] (by kernel_rfl) ?_
        obtain ⟨hg_231, h⟩ := gd h
        refine toO (by kernel_rfl) (p_apn 0 0 o_220 104 xs_6.length ((hd slices0_hs i_7).n) cap_221 2 16 (hd slices0_hs i_7).a encA2I64 xs_6 x_10 sp_222 (.agg (row encI64 (Arr.rep 2 0).1 []).toArray) rfl (slices0_i.get hx_230).2.1 (by kernel_rfl) (by kernel_rfl) (by kernel_rfl) encA2I64_len encA2I64_cell hs_224 ho_225 (fun w hm => (hm.exRow (slices0_i.get hx_230).1 List.not_mem_nil)) hg_231 (by kernel_rfl) (by kernel_rfl) (fun o_232 cap_233 sp_234 hs_235 ho_236 => jkO ?_))
        refine jo_f [(0, 0)] (by kernel_rfl) ?_
        refine jo_end (by kernel_rfl) ?_
        refine jx_inn ?_
        refine jx_then ?_
        refine jc_region ?_
        refine jo_f [(0, 0), (0, 0)] (by kernel_rfl) ?_
        refine jo_end (by kernel_rfl) ?_
        exact jx_back ((xs_6 ++ x_10), (w64 (i_7 + 1))) ⟨o_232, cap_233, sp_234, (xs_6 ++ x_10).length⟩ (Option.some.inj h).symm ⟨rfl, hs_235, ho_236⟩ [0] (by kernel_rfl) (by kernel_rfl) (by kernel_rfl)
      · replace h := ifF hc_229 h
        refine jc_exit ?_
        refine jx_thenx ?_
        refine jx_leave xs_6 (Option.some.inj h).symm (fun e_237 => ?_)
        subst e_237
        refine jx_ine ?_
        exact jx_meet ⟨xs_6, o_220, cap_221, sp_222, xs_6.length⟩ ⟨hr_226, rfl, hs_224, ho_225⟩ (by kernel_rfl) [0] (by kernel_rfl) (by kernel_rfl)
    · rintro ⟨xs_4, o_190, cap_191, sp_192, n_193⟩ ⟨h, rfl, hs_194, ho_195⟩
      replace h : slices_Concat_2int64.k_5 xs_4 = some r := h
      rw [slices_Concat_2int64.k_5] at h
      refine jx_then ?_
      refine jc_seq ?_
      refine jc_region ?_
      refine jo_f [(0, 0), (0, 0)] (by kernel_rfl) ?_
      refine jo_end (by kernel_rfl) ?_
      refine jx_then ?_
      refine jc_ret ?_
      obtain rfl := Option.some.inj h
      exact jx_ret [] (.slice (o_190.map fun b => ⟨b, 0, none⟩) xs_4.length cap_191) [] rfl (by kernel_rfl) (by kernel_rfl) (fun w hm => ⟨o_190, cap_191, sp_192, xs_4.length, rfl, hs_194, ho_195, rfl, hm.pick [0] (by kernel_rfl) (by kernel_rfl)⟩)

/-! ### impl.ChangesBetween -/
noncomputable def impl_ChangesBetween.k_4 (xs_3 : List GChange) : Option ((List GChange) × Int) := some (xs_3, 0)
noncomputable def impl_ChangesBetween.l_7 (t_1 : (List (Arr 2 Int)) × (List (Arr 2 Int)) × Int) (t_2 : (List (Arr 2 Int))) : ((List GChange) × Int) → Option (((List GChange) × Int) ⊕ ((List GChange)))
  | (xs_5, i_6) => (if (decide (i_6 < (t_2.length : Int))) = true then (ix t_2 i_6).bind fun x_9 => (ix x_9.1 0).bind fun x_10 => (ix x_9.1 1).bind fun x_11 => (if xs_5.length + [(⟨(w16 x_10), (w8 x_11), (decide (i_6 ≥ (t_1.1.length : Int)))⟩ : GChange)].length ≤ 4294967296 then some (.inl ((xs_5 ++ [(⟨(w16 x_10), (w8 x_11), (decide (i_6 ≥ (t_1.1.length : Int)))⟩ : GChange)]), (w64 (i_6 + 1)))) else none) else some (.inr xs_5))
noncomputable def impl_ChangesBetween (f0 : GFrame) (a1 : Arr 96 Int) (b2 : Arr 96 Int) : Option ((List GChange) × Int) := (impl_MovesBetween f0 a1 b2).bind fun t_1 => (if (t_1.2.2 != 0) = true then some ([], t_1.2.2) else (slices_Concat_2int64 [t_1.1, t_1.2.1]).bind fun t_2 => (loop (impl_ChangesBetween.l_7 t_1 t_2) (([] : List GChange), 0)).bind fun t_8 => impl_ChangesBetween.k_4 t_8)
set_option maxRecDepth 100000 in
theorem impl_ChangesBetween.calls (f0 : GFrame) (a1 : Arr 96 Int) (b2 : Arr 96 Int) (w : World) (r : (List GChange) × Int) (f0_fHammers_a : Option Addr) (f0_fHammers_an : Nat) (f0_fHammers_c : Nat) (f0_fHammers_h : Rw w f0_fHammers_a 2 encGHammer f0.fHammers) (f0_fHammers_hn : f0.fHammers.length = f0_fHammers_an) (h : impl_ChangesBetween f0 a1 b2 = some r) :
    Calls Tryz.prog 9 #[(.agg #[(.int .i16 f0.fSteps), (.slice f0_fHammers_a f0_fHammers_an f0_fHammers_c)]), (.agg (row encU32 a1.1 []).toArray), (.agg (row encU32 b2.1 []).toArray)] w fun e w' => ∃ v, e = .returned v ∧ (∃ (o0 : Option Nat) (c0 : Nat) (s0 : List Value) (n0 : Nat), r.1.length = n0 ∧ (o0 ≠ none → n0 ≤ c0 ∧ s0.length = (c0 - n0) * 3) ∧ (o0 = none → r.1 = [] ∧ c0 = 0) ∧ v = .tuple #[.slice (o0.map fun b => ⟨b, 0, none⟩) n0 c0, (.int .i64 r.2)] ∧ Mem w [] [⟨o0, 106, row encGChange r.1 s0⟩] w') := by
  subst f0_fHammers_hn
  rw [impl_ChangesBetween] at h
  refine enter (args := [(.agg #[(.int .i16 f0.fSteps), (.slice f0_fHammers_a f0.fHammers.length f0_fHammers_c)]), (.agg (row encU32 a1.1 []).toArray), (.agg (row encU32 b2.1 []).toArray)]) Tryz.func9 rfl Tryz.ntmps9 (by kernel_rfl) (L := []) (W := []) (Mem.start w) ?_
  refine jc_seq ?_
  refine jc_region ?_
  refine toO (by kernel_rfl) (p_a 0 [0] (by kernel_rfl) (fun b => by kernel_rfl) (fun b_1 => jkO ?_))
  refine toO (by kernel_rfl) (p_a 0 [0] (by kernel_rfl) (fun b => by kernel_rfl) (fun b_2 => jkO ?_))
  refine toO (by kernel_rfl) (p_a 0 [0] (by kernel_rfl) (fun b => by kernel_rfl) (fun b_3 => jkO ?_))
  refine jo_f [(0, 0), (0, 0)] (by kernel_rfl) ?_
  refine jo_end (by kernel_rfl) ?_
  refine jx_then ?_
  refine jc_seq ?_
  refine jc_region ?_
  refine jo_f [(0, 0)] (by kernel_rfl) ?_
  refine toO (by kernel_rfl) (p_ldA 0 1 b_2 96 1 31 encU32 a1 (by kernel_rfl) (by kernel_rfl) (by kernel_rfl) encU32_len (by kernel_rfl) (jkO ?_))
  refine toO (by kernel_rfl) (p_ldA 0 2 b_3 96 1 31 encU32 b2 (by kernel_rfl) (by kernel_rfl) (by kernel_rfl) encU32_len (by kernel_rfl) (jkO ?_))
  obtain ⟨t_1, ht_4, h⟩ := bd h
  refine toO (by kernel_rfl) (p_call 0 31 #[(.agg #[(.int .i16 f0.fSteps), (.slice f0_fHammers_a f0.fHammers.length f0_fHammers_c)]), (.agg (row encU32 a1.1 []).toArray), (.agg (row encU32 b2.1 []).toArray)] (by kernel_rfl) (by kernel_rfl) (fun w hm => impl_MovesBetween.calls f0 a1 b2 w _ f0_fHammers_a f0.fHammers.length f0_fHammers_c (hm.exRow f0_fHammers_h List.not_mem_nil) rfl ht_4) ?_)
  rintro w v w' hm ⟨o_5, cap_6, sp_7, _, rfl, hs_8, ho_9, o_10, cap_11, sp_12, _, rfl, hs_13, ho_14, rfl, hm'⟩
  refine ⟨_, hm.app hm', jkO ?_⟩
  clear hm hm'
  refine jo_f [(0, 0), (0, 0), (0, 0), (0, 0), (0, 0), (0, 0), (0, 0)] (by kernel_rfl) ?_
  refine jo_end (by kernel_rfl) ?_
  refine jx_then ?_
  refine jc_seq ?_
  refine jc_seq ?_
  refine jc_region ?_
  refine jo_f [(0, 0), (0, 0)] (by kernel_rfl) ?_
  refine jo_end (by kernel_rfl) ?_
  refine jx_then ?_
  refine jc_cond (t_1.2.2 != 0) (by kernel_rfl) (fun hc_16 => ?_) (fun hc_16 => ?_)
  · replace h := ifT hc_16 h
    refine jc_seq ?_
    refine jc_region ?_
    refine jo_f [(0, 0), (0, 0), (0, 0)] (by kernel_rfl) ?_
    refine jo_end (by kernel_rfl) ?_
    refine jx_then ?_
    refine jc_ret ?_
    refine jx_thenr ?_
    obtain rfl := Option.some.inj h
    refine jx_ghost 106 encGChange ?_
    exact jx_ret [] (.tuple #[(.slice none 0 0), (.int .i64 t_1.2.2)]) [] rfl (by kernel_rfl) (by kernel_rfl) (fun w hm => ⟨none, 0, [], 0, rfl, (fun e => absurd rfl e), (fun _ => ⟨rfl, rfl⟩), rfl, hm.pick [5] (by kernel_rfl) (by kernel_rfl)⟩)
  · replace h := ifF hc_16 h
    refine jc_skip ?_
    refine jx_then ?_
    refine jc_seq ?_
    refine jc_region ?_
    refine toO (by kernel_rfl) (p_a 0 [0] (by kernel_rfl) (fun b => by kernel_rfl) (fun b_17 => jkO ?_))
    refine jo_f [(0, 0)] (by kernel_rfl) ?_
    refine jo_end (by kernel_rfl) ?_
    refine jx_then ?_
    refine jc_seq ?_
    refine jc_seq ?_
    refine jc_region ?_
    refine jo_f [(0, 0), (0, 0)] (by kernel_rfl) ?_
    refine toO (by kernel_rfl) (p_a 0 [0] (by kernel_rfl) (fun b => by kernel_rfl) (fun b_141 => jkO ?_))
    obtain ⟨t_2, ht_142, h⟩ := bd h
    refine toO (by kernel_rfl) (p_call 0 65 #[(.slice (some ⟨b_141, 0, none⟩) 2 2)] (by kernel_rfl) (by kernel_rfl) (fun w hm => slices_Concat_2int64.calls [t_1.1, t_1.2.1] w _ (some ⟨b_141, 0, none⟩) 2 2 [⟨(o_5.map fun b => ⟨b, 0, none⟩), t_1.1.length, cap_6⟩, ⟨(o_10.map fun b => ⟨b, 0, none⟩), t_1.2.1.length, cap_11⟩] (hm.ownRow (hh := 6) (o := (some b_141)) (T := 57) (enc := encHd) (xs := [⟨(o_5.map fun b => ⟨b, 0, none⟩), t_1.1.length, cap_6⟩, ⟨(o_10.map fun b => ⟨b, 0, none⟩), t_1.2.1.length, cap_11⟩]) (sp := []) (by kernel_rfl) (fun e => nomatch e) encHd_len) rfl (Inn.cons (hm.ownRow (hh := 3) (o := o_5) (T := 104) (enc := encA2I64) (xs := t_1.1) (sp := sp_7) (by kernel_rfl) (fun e => (ho_9 e).1) encA2I64_len) rfl (fun _ => List.not_mem_nil) (Inn.cons (hm.ownRow (hh := 4) (o := o_10) (T := 104) (enc := encA2I64) (xs := t_1.2.1) (sp := sp_12) (by kernel_rfl) (fun e => (ho_14 e).1) encA2I64_len) rfl (fun _ => List.not_mem_nil) Inn.nil)) ht_142) ?_)
    rintro w v w' hm ⟨o_143, cap_144, sp_145, _, rfl, hs_146, ho_147, rfl, hm'⟩
    refine ⟨_, hm.app hm', jkO ?_⟩
    clear hm hm'
    refine jo_f [(0, 0), (0, 0)] (by kernel_rfl) ?_
    refine jo_end (by kernel_rfl) ?_
    refine jx_then ?_
    refine jc_meet (fun (j : (List GChange) × (Option Nat) × Nat × (List Value) × Nat) => match j with | ⟨xs_3, o_203, cap_204, sp_205, n_206⟩ => impl_ChangesBetween.k_4 xs_3 = some r ∧ (xs_3.length = n_206) ∧ ((o_203 ≠ none → n_206 ≤ cap_204 ∧ sp_205.length = (cap_204 - n_206) * 3)) ∧ ((o_203 = none → xs_3 = [] ∧ cap_204 = 0))) (fun (j : (List GChange) × (Option Nat) × Nat × (List Value) × Nat) => match j with | ⟨xs_3, o_203, cap_204, sp_205, n_206⟩ => [(6, [], (.slice none 0 0)), (7, [], (.int .i64 0)), (11, [], (.slice (o_203.map fun b => ⟨b, 0, none⟩) n_206 cap_204))]) (fun (j : (List GChange) × (Option Nat) × Nat × (List Value) × Nat) => match j with | ⟨xs_3, o_203, cap_204, sp_205, n_206⟩ => [⟨some b_1, 27, [(.int .i16 f0.fSteps), (.slice f0_fHammers_a f0.fHammers.length f0_fHammers_c)]⟩, ⟨(some b_2), 31, row encU32 a1.1 []⟩, ⟨(some b_3), 31, row encU32 b2.1 []⟩, ⟨o_5, 104, row encA2I64 t_1.1 sp_7⟩, ⟨o_10, 104, row encA2I64 t_1.2.1 sp_12⟩, ⟨o_203, 106, row encGChange xs_3 sp_205⟩, ⟨(some b_141), 57, row encHd [⟨(o_5.map fun b => ⟨b, 0, none⟩), t_1.1.length, cap_6⟩, ⟨(o_10.map fun b => ⟨b, 0, none⟩), t_1.2.1.length, cap_11⟩] []⟩, ⟨o_143, 104, row encA2I64 t_2 sp_145⟩]) ?_ ?_
    · refine jc_block ?_
      obtain ⟨t_8, ht_263, hr_247⟩ := bd h
      refine jc_loop (fun (s : (List GChange) × Int) (x : (Option Nat) × Nat × (List Value) × Nat) => match s, x with | ⟨xs_5, i_6⟩, ⟨o_241, cap_242, sp_243, n_244⟩ => (xs_5.length = n_244) ∧ ((o_241 ≠ none → n_244 ≤ cap_242 ∧ sp_243.length = (cap_242 - n_244) * 3)) ∧ ((o_241 = none → xs_5 = [] ∧ cap_242 = 0))) (fun (s : (List GChange) × Int) (x : (Option Nat) × Nat × (List Value) × Nat) => match s, x with | ⟨xs_5, i_6⟩, ⟨o_241, cap_242, sp_243, n_244⟩ => [(6, [], (.slice none 0 0)), (7, [], (.int .i64 0)), (8, [], (.slice (o_5.map fun b => ⟨b, 0, none⟩) t_1.1.length cap_6)), (11, [], (.slice (o_241.map fun b => ⟨b, 0, none⟩) n_244 cap_242)), (29, [], (.slice (o_143.map fun b => ⟨b, 0, none⟩) t_2.length cap_144)), (30, [], (.int .i64 (t_2.length : Int))), (31, [], (.int .i64 i_6))]) (fun (s : (List GChange) × Int) (x : (Option Nat) × Nat × (List Value) × Nat) => match s, x with | ⟨xs_5, i_6⟩, ⟨o_241, cap_242, sp_243, n_244⟩ => [⟨some b_1, 27, [(.int .i16 f0.fSteps), (.slice f0_fHammers_a f0.fHammers.length f0_fHammers_c)]⟩, ⟨(some b_2), 31, row encU32 a1.1 []⟩, ⟨(some b_3), 31, row encU32 b2.1 []⟩, ⟨o_5, 104, row encA2I64 t_1.1 sp_7⟩, ⟨o_10, 104, row encA2I64 t_1.2.1 sp_12⟩, ⟨o_241, 106, row encGChange xs_5 sp_243⟩, ⟨(some b_141), 57, row encHd [⟨(o_5.map fun b => ⟨b, 0, none⟩), t_1.1.length, cap_6⟩, ⟨(o_10.map fun b => ⟨b, 0, none⟩), t_1.2.1.length, cap_11⟩] []⟩, ⟨o_143, 104, row encA2I64 t_2 sp_145⟩]) ht_263 ⟨(some b_17), 0, [], 0⟩ ⟨rfl, (fun _ => ⟨Nat.le_refl _, by simp⟩), (fun e => nomatch e)⟩ (by kernel_rfl) [0, 1, 2, 3, 4, 5, 6, 7] (by kernel_rfl) (by kernel_rfl) ?_
      rintro ⟨xs_5, i_6⟩ ⟨o_241, cap_242, sp_243, n_244⟩ y_248 ⟨rfl, hs_245, ho_246⟩ h
      rw [impl_ChangesBetween.l_7] at h
      refine jc_seq ?_
      refine jc_region ?_
      refine jo_f [(0, 0)] (by kernel_rfl) ?_
      refine jo_end (by kernel_rfl) ?_
      refine jx_then ?_
      refine jc_seq ?_
      refine jc_cond (decide (i_6 < (t_2.length : Int))) (by kernel_rfl) (fun hc_250 => ?_) (fun hc_250 => ?_)
      · replace h := ifT hc_250 h
        refine jc_skip ?_
        refine jx_then ?_
        refine jc_seq ?_
        refine jc_block ?_
        refine jc_seq ?_
        refine jc_region ?_
        refine jo_f [(0, 0)] (by kernel_rfl) ?_
        obtain ⟨x_9, hx_251, h⟩ := bd h
        refine toO (by kernel_rfl) (p_idx 0 (o_143.map fun b => ⟨b, 0, none⟩) t_2.length i_6 2 (by kernel_rfl) (by kernel_rfl) (ix_some hx_251).1 (ltn hx_251 rfl) (spo ho_147 hx_251) (jkO ?_))
        refine toO (by kernel_rfl) (p_ldx 0 (aB (o_143.map fun b => ⟨b, 0, none⟩)) (aO (o_143.map fun b => ⟨b, 0, none⟩) + i_6.toNat * 2) (encA2I64 x_9) 2 (by kernel_rfl) (by kernel_rfl) (encA2I64_len x_9) (fun w hm => ((hm.ownRow (hh := 7) (o := o_143) (T := 104) (enc := encA2I64) (xs := t_2) (sp := sp_145) (by kernel_rfl) (fun e => (ho_147 e).1) encA2I64_len).at hx_251)) (jkO ?_))
        refine toO (by kernel_rfl) (p_a 0 [0] (by kernel_rfl) (fun b => by kernel_rfl) (fun b_252 => jkO ?_))
        refine jo_f [(0, 0)] (by kernel_rfl) ?_
        refine toO (by kernel_rfl) (p_sA 0 8 b_252 2 1 104 encI64 (Arr.rep 2 0) x_9 (by kernel_rfl) (by kernel_rfl) (by kernel_rfl) encI64_len encI64_cell (by kernel_rfl) (jkO ?_))
        refine jo_end (by kernel_rfl) ?_
        refine jx_then ?_
        refine jc_region ?_
        refine jo_f [(0, 0)] (by kernel_rfl) ?_
        obtain ⟨x_10, hx_253, h⟩ := bd h
        refine toO (by kernel_rfl) (p_idx 0 (some ⟨b_252, 0, none⟩) 2 0 1 (by kernel_rfl) (by kernel_rfl) (ix_some hx_253).1 (ltn hx_253 x_9.2) rfl (jkO ?_))
        refine toO (by kernel_rfl) (p_ld 0 (aB (some ⟨b_252, 0, none⟩)) (aO (some ⟨b_252, 0, none⟩) + (0 : Int).toNat * 1) false (encI64 x_10) (by kernel_rfl) (by kernel_rfl) (by kernel_rfl) (fun w hm => ((hm.ownRow (hh := 8) (o := (some b_252)) (T := 104) (enc := encI64) (xs := x_9.1) (sp := []) (by kernel_rfl) (fun e => nomatch e) encI64_len).at hx_253)) (jkO ?_))
        refine jo_f [(0, 0)] (by kernel_rfl) ?_
        obtain ⟨x_11, hx_254, h⟩ := bd h
        refine toO (by kernel_rfl) (p_idx 0 (some ⟨b_252, 0, none⟩) 2 1 1 (by kernel_rfl) (by kernel_rfl) (ix_some hx_254).1 (ltn hx_254 x_9.2) rfl (jkO ?_))
        refine toO (by kernel_rfl) (p_ld 0 (aB (some ⟨b_252, 0, none⟩)) (aO (some ⟨b_252, 0, none⟩) + (1 : Int).toNat * 1) false (encI64 x_11) (by kernel_rfl) (by kernel_rfl) (by kernel_rfl) (fun w hm => ((hm.ownRow (hh := 8) (o := (some b_252)) (T := 104) (enc := encI64) (xs := x_9.1) (sp := []) (by kernel_rfl) (fun e => nomatch e) encI64_len).at hx_254)) (jkO ?_))
        refine jo_f [(0, 0), (0, 0), (0, 0), (0, 0), (0, 0), (0, 0)] (by kernel_rfl) ?_
        refine toO (by kernel_rfl) (p_a 0 [0] (by kernel_rfl) (fun b => by kernel_rfl) (fun b_255 => jkO ?_))
        obtain ⟨hg_256, h⟩ := gd h
        refine toO (by kernel_rfl) (p_apn 0 5 o_241 106 xs_5.length 1 cap_242 3 4 (some ⟨b_255, 0, none⟩) encGChange xs_5 [(⟨(w16 x_10), (w8 x_11), (decide (i_6 ≥ (t_1.1.length : Int)))⟩ : GChange)] sp_243 (.agg #[(.int .i16 0), (.int .i8 0), (.bool false)]) rfl rfl (by kernel_rfl) (by kernel_rfl) (by kernel_rfl) encGChange_len encGChange_cell hs_245 ho_246 (fun w hm => (hm.ownRow (hh := 9) (o := (some b_255)) (T := 106) (enc := encGChange) (xs := [(⟨(w16 x_10), (w8 x_11), (decide (i_6 ≥ (t_1.1.length : Int)))⟩ : GChange)]) (sp := []) (by kernel_rfl) (fun e => nomatch e) encGChange_len)) hg_256 (by kernel_rfl) (by kernel_rfl) (fun o_257 cap_258 sp_259 hs_260 ho_261 => jkO ?_))
        refine jo_f [(0, 0)] (by kernel_rfl) ?_
        refine jo_end (by kernel_rfl) ?_
        refine jx_inn ?_
        refine jx_then ?_
        refine jc_region ?_
        refine jo_f [(0, 0), (0, 0)] (by kernel_rfl) ?_
        refine jo_end (by kernel_rfl) ?_
        exact jx_back ((xs_5 ++ [(⟨(w16 x_10), (w8 x_11), (decide (i_6 ≥ (t_1.1.length : Int)))⟩ : GChange)]), (w64 (i_6 + 1))) ⟨o_257, cap_258, sp_259, (xs_5 ++ [(⟨(w16 x_10), (w8 x_11), (decide (i_6 ≥ (t_1.1.length : Int)))⟩ : GChange)]).length⟩ (Option.some.inj h).symm ⟨rfl, hs_260, ho_261⟩ [0, 1, 2, 3, 4, 5, 6, 7] (by kernel_rfl) (by kernel_rfl) (by kernel_rfl)
      · replace h := ifF hc_250 h
        refine jc_exit ?_
        refine jx_thenx ?_
        refine jx_leave xs_5 (Option.some.inj h).symm (fun e_262 => ?_)
        subst e_262
        refine jx_ine ?_
        exact jx_meet ⟨xs_5, o_241, cap_242, sp_243, xs_5.length⟩ ⟨hr_247, rfl, hs_245, ho_246⟩ (by kernel_rfl) [0, 1, 2, 3, 4, 5, 6, 7] (by kernel_rfl) (by kernel_rfl)
    · rintro ⟨xs_3, o_203, cap_204, sp_205, n_206⟩ ⟨h, rfl, hs_207, ho_208⟩
      replace h : impl_ChangesBetween.k_4 xs_3 = some r := h
      rw [impl_ChangesBetween.k_4] at h
      refine jx_then ?_
      refine jc_seq ?_
      refine jc_region ?_
      refine jo_f [(0, 0), (0, 0), (0, 0)] (by kernel_rfl) ?_
      refine jo_end (by kernel_rfl) ?_
      refine jx_then ?_
      refine jc_ret ?_
      obtain rfl := Option.some.inj h
      exact jx_ret [] (.tuple #[(.slice (o_203.map fun b => ⟨b, 0, none⟩) xs_3.length cap_204), (.int .i64 0)]) [] rfl (by kernel_rfl) (by kernel_rfl) (fun w hm => ⟨o_203, cap_204, sp_205, xs_3.length, rfl, hs_207, ho_208, rfl, hm.pick [5] (by kernel_rfl) (by kernel_rfl)⟩)

/-! ### spec.l00In -/
noncomputable def spec_l00In (n0 : Int) (low1 : Int) (high2 : Int) : Option (Bool) := some ((decide (n0 ≥ low1)) && (decide (n0 ≤ high2)))
set_option maxRecDepth 100000 in
theorem spec_l00In.calls (n0 : Int) (low1 : Int) (high2 : Int) (w : World) (r : Bool) (h : spec_l00In n0 low1 high2 = some r) :
    Calls Tryz.prog 179 #[(.int .i64 n0), (.int .i64 low1), (.int .i64 high2)] w fun e w' => ∃ v, e = .returned v ∧ (v = (.bool r) ∧ Mem w [] [] w') := by
  rw [spec_l00In] at h
  refine enter (args := [(.int .i64 n0), (.int .i64 low1), (.int .i64 high2)]) Tryz.func179 rfl Tryz.ntmps179 (by kernel_rfl) (L := []) (W := []) (Mem.start w) ?_
  refine jc_seq ?_
  refine jc_region ?_
  refine jo_f [(0, 0)] (by kernel_rfl) ?_
  refine jo_end (by kernel_rfl) ?_
  refine jx_then ?_
  refine jc_seq ?_
  refine jc_region ?_
  refine jo_f [(0, 0), (0, 0), (0, 0), (0, 0), (0, 1), (0, 1), (0, 1), (0, 0), (0, 0)] (by kernel_rfl) ?_
  refine jo_end (by kernel_rfl) ?_
  refine jx_then ?_
  refine jc_ret ?_
  obtain rfl := Option.some.inj h
  exact jx_ret [] (.bool ((decide (n0 ≥ low1)) && (decide (n0 ≤ high2)))) [] rfl (by kernel_rfl) (by kernel_rfl) (fun w hm => ⟨rfl, hm.pick [] (by kernel_rfl) (by kernel_rfl)⟩)

/-! ### spec.l00Min -/
noncomputable def spec_l00Min (a0 : Int) (b1 : Int) : Option (Int) := (if (decide (a0 < b1)) = true then some a0 else some b1)
set_option maxRecDepth 100000 in
theorem spec_l00Min.calls (a0 : Int) (b1 : Int) (w : World) (r : Int) (h : spec_l00Min a0 b1 = some r) :
    Calls Tryz.prog 124 #[(.int .i64 a0), (.int .i64 b1)] w fun e w' => ∃ v, e = .returned v ∧ (v = (.int .i64 r) ∧ Mem w [] [] w') := by
  rw [spec_l00Min] at h
  refine enter (args := [(.int .i64 a0), (.int .i64 b1)]) Tryz.func124 rfl Tryz.ntmps124 (by kernel_rfl) (L := []) (W := []) (Mem.start w) ?_
  refine jc_seq ?_
  refine jc_region ?_
  refine jo_f [(0, 0)] (by kernel_rfl) ?_
  refine jo_end (by kernel_rfl) ?_
  refine jx_then ?_
  refine jc_seq ?_
  refine jc_seq ?_
  refine jc_region ?_
  refine jo_f [(0, 0), (0, 0), (0, 0)] (by kernel_rfl) ?_
  refine jo_end (by kernel_rfl) ?_
  refine jx_then ?_
  refine jc_cond (decide (a0 < b1)) (by kernel_rfl) (fun hc_2 => ?_) (fun hc_2 => ?_)
  · replace h := ifT hc_2 h
    refine jc_seq ?_
    refine jc_region ?_
    refine jo_f [(0, 0), (0, 0)] (by kernel_rfl) ?_
    refine jo_end (by kernel_rfl) ?_
    refine jx_then ?_
    refine jc_ret ?_
    refine jx_thenr ?_
    obtain rfl := Option.some.inj h
    exact jx_ret [] (.int .i64 a0) [] rfl (by kernel_rfl) (by kernel_rfl) (fun w hm => ⟨rfl, hm.pick [] (by kernel_rfl) (by kernel_rfl)⟩)
  · replace h := ifF hc_2 h
    refine jc_skip ?_
    refine jx_then ?_
    refine jc_seq ?_
    refine jc_region ?_
    refine jo_f [(0, 0), (0, 0)] (by kernel_rfl) ?_
    refine jo_end (by kernel_rfl) ?_
    refine jx_then ?_
    refine jc_ret ?_
    obtain rfl := Option.some.inj h
    exact jx_ret [] (.int .i64 b1) [] rfl (by kernel_rfl) (by kernel_rfl) (fun w hm => ⟨rfl, hm.pick [] (by kernel_rfl) (by kernel_rfl)⟩)

/-! ### spec.l02Frame -/
noncomputable def spec_l02Frame.k_3 : Option (Bool) := some true
noncomputable def spec_l02Frame.k_9 (i_4 : Int) (q_8 : Bool) : Option ((Int) ⊕ (Bool ⊕ Unit)) := (if q_8 = true then some (.inr (.inl false)) else some (.inl (w64 (i_4 + 1))))
noncomputable def spec_l02Frame.l_5 (f0 : GFrame) : Int → Option ((Int) ⊕ (Bool ⊕ Unit))
  | i_4 => (if (decide (i_4 < (f0.fHammers.length : Int))) = true then (ix f0.fHammers i_4).bind fun x_7 => (spec_l00In (w64 x_7.fPitch) 0 47).bind fun t_10 => (if (!t_10) = true then spec_l02Frame.k_9 i_4 true else (spec_l00Min 20 (w64 f0.fSteps)).bind fun t_11 => (spec_l00In (w64 x_7.fReady) 1 t_11).bind fun t_12 => spec_l02Frame.k_9 i_4 (!t_12)) else some (.inr (.inr ())))
noncomputable def spec_l02Frame.k_2 (f0 : GFrame) (q_1 : Bool) : Option (Bool) := (if q_1 = true then some false else (loop (spec_l02Frame.l_5 f0) 0).bind fun t_6 => match t_6 with | .inl p => some p | .inr p => spec_l02Frame.k_3)
noncomputable def spec_l02Frame (f0 : GFrame) : Option (Bool) := (spec_l00In (w64 f0.fSteps) 2 96).bind fun t_13 => (if (!t_13) = true then spec_l02Frame.k_2 f0 true else (spec_l00In (f0.fHammers.length : Int) 1 24).bind fun t_14 => spec_l02Frame.k_2 f0 (!t_14))
set_option maxRecDepth 100000 in
theorem spec_l02Frame.calls (f0 : GFrame) (w : World) (r : Bool) (f0_fHammers_a : Option Addr) (f0_fHammers_an : Nat) (f0_fHammers_c : Nat) (f0_fHammers_h : Rw w f0_fHammers_a 2 encGHammer f0.fHammers) (f0_fHammers_hn : f0.fHammers.length = f0_fHammers_an) (f0_b : Nat) (hm0 : Mem w (bs [some f0_b]) [⟨some f0_b, 27, [(.int .i16 f0.fSteps), (.slice f0_fHammers_a f0_fHammers_an f0_fHammers_c)]⟩] w) (f0_fHammers_ha : f0.fHammers ≠ [] → aB f0_fHammers_a ∉ bs [some f0_b]) (h : spec_l02Frame f0 = some r) :
    Calls Tryz.prog 98 #[(.pointer (some ⟨f0_b, 0, none⟩))] w fun e w' => ∃ v, e = .returned v ∧ (v = (.bool r) ∧ Mem w (bs [some f0_b]) [⟨some f0_b, 27, [(.int .i16 f0.fSteps), (.slice f0_fHammers_a f0_fHammers_an f0_fHammers_c)]⟩] w') := by
  subst f0_fHammers_hn
  rw [spec_l02Frame] at h
  refine enter (args := [(.pointer (some ⟨f0_b, 0, none⟩))]) Tryz.func98 rfl Tryz.ntmps98 (by kernel_rfl) (L := [⟨some f0_b, 27, [(.int .i16 f0.fSteps), (.slice f0_fHammers_a f0.fHammers.length f0_fHammers_c)]⟩]) (W := bs [some f0_b]) hm0 ?_
  refine jc_seq ?_
  refine jc_region ?_
  refine jo_f [(0, 0)] (by kernel_rfl) ?_
  refine jo_end (by kernel_rfl) ?_
  refine jx_then ?_
  refine jc_seq ?_
  refine jc_seq ?_
  refine jc_meet (fun (j : Bool) => match j with | q_1 => spec_l02Frame.k_2 f0 q_1 = some r) (fun (j : Bool) => match j with | q_1 => [(0, [], (.pointer (some ⟨f0_b, 0, none⟩))), (2, [], (.bool false)), (20, [], (.bool q_1))]) (fun (j : Bool) => match j with | q_1 => [⟨some f0_b, 27, [(.int .i16 f0.fSteps), (.slice f0_fHammers_a f0.fHammers.length f0_fHammers_c)]⟩]) ?_ ?_
  · refine jc_region ?_
    refine jo_f [(0, 0), (0, 0), (0, 0), (0, 0), (0, 0)] (by kernel_rfl) ?_
    obtain ⟨t_13, ht_100, h⟩ := bd h
    refine toO (by kernel_rfl) (p_call 0 179 #[(.int .i64 (w64 f0.fSteps)), (.int .i64 2), (.int .i64 96)] (by kernel_rfl) (by kernel_rfl) (fun w hm => spec_l00In.calls (w64 f0.fSteps) 2 96 w _ ht_100) ?_)
    rintro w v w' hm ⟨rfl, hm'⟩
    refine ⟨_, hm.app hm', jkO ?_⟩
    clear hm hm'
    refine jo_f [(0, 0), (0, 0), (0, 1), (0, 1), (0, 1), (0, 1), (0, 1)] (by kernel_rfl) ?_
    refine jo_split 12 (!t_13) (by kernel_rfl) (fun hc_101 => ?_) (fun hc_101 => ?_)
    · replace h := ifT hc_101 h
      refine jo_f [(0, 3), (0, 3), (0, 4)] (by kernel_rfl) ?_
      refine jo_end (by kernel_rfl) ?_
      exact jx_meet true h (by kernel_rfl) [0] (by kernel_rfl) (by kernel_rfl)
    · replace h := ifF hc_101 h
      obtain ⟨t_14, ht_102, h⟩ := bd h
      refine toO (by kernel_rfl) (p_call 2 179 #[(.int .i64 (f0.fHammers.length : Int)), (.int .i64 1), (.int .i64 24)] (by kernel_rfl) (by kernel_rfl) (fun w hm => spec_l00In.calls (f0.fHammers.length : Int) 1 24 w _ ht_102) ?_)
      rintro w v w' hm ⟨rfl, hm'⟩
      refine ⟨_, hm.app hm', jkO ?_⟩
      clear hm hm'
      refine jo_f [(0, 2), (0, 5)] (by kernel_rfl) ?_
      refine jo_end (by kernel_rfl) ?_
      exact jx_meet (!t_14) h (by kernel_rfl) [0] (by kernel_rfl) (by kernel_rfl)
  · rintro q_1 h
    replace h : spec_l02Frame.k_2 f0 q_1 = some r := h
    rw [spec_l02Frame.k_2] at h
    refine jx_then ?_
    refine jc_cond q_1 (by kernel_rfl) (fun hc_11 => ?_) (fun hc_11 => ?_)
    · replace h := ifT hc_11 h
      refine jc_seq ?_
      refine jc_region ?_
      refine jo_f [(0, 0)] (by kernel_rfl) ?_
      refine jo_end (by kernel_rfl) ?_
      refine jx_then ?_
      refine jc_ret ?_
      refine jx_thenr ?_
      obtain rfl := Option.some.inj h
      exact jx_ret [] (.bool false) [] rfl (by kernel_rfl) (by kernel_rfl) (fun w hm => ⟨rfl, hm.pick [0] (by kernel_rfl) (by kernel_rfl)⟩)
    · replace h := ifF hc_11 h
      refine jc_skip ?_
      refine jx_then ?_
      refine jc_seq ?_
      refine jc_seq ?_
      refine jc_region ?_
      refine jo_f [(0, 0)] (by kernel_rfl) ?_
      refine jo_end (by kernel_rfl) ?_
      refine jx_then ?_
      refine jc_meet (fun (_ : Unit) => spec_l02Frame.k_3 = some r) (fun (_ : Unit) => [(2, [], (.bool false))]) (fun (_ : Unit) => [⟨some f0_b, 27, [(.int .i16 f0.fSteps), (.slice f0_fHammers_a f0.fHammers.length f0_fHammers_c)]⟩]) ?_ ?_
      · refine jc_block ?_
        obtain ⟨t_6, ht_99, hr_82⟩ := bd h
        refine jc_loop (fun (s : Int) (x : Unit) => match s, x with | i_4, _ => True) (fun (s : Int) (x : Unit) => match s, x with | i_4, _ => [(0, [], (.pointer (some ⟨f0_b, 0, none⟩))), (2, [], (.bool false)), (3, [], (.int .i64 i_4))]) (fun (s : Int) (x : Unit) => match s, x with | i_4, _ => [⟨some f0_b, 27, [(.int .i16 f0.fSteps), (.slice f0_fHammers_a f0.fHammers.length f0_fHammers_c)]⟩]) ht_99 () trivial (by kernel_rfl) [0] (by kernel_rfl) (by kernel_rfl) ?_
        rintro i_4 _ y_83 _ h
        rw [spec_l02Frame.l_5] at h
        refine jc_seq ?_
        refine jc_seq ?_
        refine jc_region ?_
        refine jo_f [(0, 0), (0, 0), (0, 0), (0, 0), (0, 0), (0, 0), (0, 0)] (by kernel_rfl) ?_
        refine jo_end (by kernel_rfl) ?_
        refine jx_then ?_
        refine jc_cond (decide (i_4 < (f0.fHammers.length : Int))) (by kernel_rfl) (fun hc_85 => ?_) (fun hc_85 => ?_)
        · replace h := ifT hc_85 h
          refine jc_skip ?_
          refine jx_then ?_
          refine jc_seq ?_
          refine jc_block ?_
          refine jc_seq ?_
          refine jc_region ?_
          refine jo_f [(0, 0), (0, 0), (0, 0), (0, 0), (0, 0)] (by kernel_rfl) ?_
          obtain ⟨x_7, hx_86, h⟩ := bd h
          refine toO (by kernel_rfl) (p_idx 0 f0_fHammers_a f0.fHammers.length i_4 2 (by kernel_rfl) (by kernel_rfl) (ix_some hx_86).1 (ltn hx_86 rfl) (f0_fHammers_h.sp hx_86) (jkO ?_))
          refine toO (by kernel_rfl) (p_ld 0 (aB f0_fHammers_a) (aO f0_fHammers_a + i_4.toNat * 2) true (encGHammer x_7) (by kernel_rfl) (by kernel_rfl) (by kernel_rfl) (fun w hm => ((hm.exRowW f0_fHammers_h f0_fHammers_ha).at hx_86)) (jkO ?_))
          refine toO (by kernel_rfl) (p_a 0 [0] (by kernel_rfl) (fun b => by kernel_rfl) (fun b_87 => jkO ?_))
          refine toO (by kernel_rfl) (p_s 0 [1] (by kernel_rfl) (by kernel_rfl) (jkO ?_))
          refine jo_end (by kernel_rfl) ?_
          refine jx_then ?_
          refine jc_seq ?_
          refine jc_meet (fun (j : Bool) => match j with | q_8 => spec_l02Frame.k_9 i_4 q_8 = some y_83) (fun (j : Bool) => match j with | q_8 => [(0, [], (.pointer (some ⟨f0_b, 0, none⟩))), (2, [], (.bool false)), (3, [], (.int .i64 i_4)), (54, [], (.bool q_8))]) (fun (j : Bool) => match j with | q_8 => [⟨some f0_b, 27, [(.int .i16 f0.fSteps), (.slice f0_fHammers_a f0.fHammers.length f0_fHammers_c)]⟩, ⟨some b_87, 137, [(.int .i8 x_7.fPitch), (.int .i8 x_7.fReady)]⟩]) ?_ ?_
          · refine jc_draw [⟨some f0_b, 27, [(.int .i16 f0.fSteps), (.slice f0_fHammers_a f0.fHammers.length f0_fHammers_c)]⟩, ⟨some b_87, 137, [(.int .i8 x_7.fPitch), (.int .i8 x_7.fReady)]⟩] 18 (by kernel_rfl) (by kernel_rfl) ?_
            refine jd_f [⟨0, 0, 0⟩, ⟨1, 1, 0⟩, ⟨2, 0, 0⟩] 15 (by kernel_rfl) (by kernel_rfl) (fun w h => h.pick [0, 1] (by kernel_rfl) (by kernel_rfl)) (by kernel_rfl) (by kernel_rfl) ?_
            obtain ⟨t_10, ht_94, h⟩ := bd h
            refine toD 3 (by kernel_rfl) (p_call 0 179 #[(.int .i64 (w64 x_7.fPitch)), (.int .i64 0), (.int .i64 47)] (by kernel_rfl) (by kernel_rfl) (fun w hm => spec_l00In.calls (w64 x_7.fPitch) 0 47 w _ ht_94) ?_)
            rintro w v w' hm ⟨rfl, hm'⟩
            refine ⟨_, hm.app hm', jkD (fun w h => h.pick [0, 1] (by kernel_rfl) (by kernel_rfl)) ?_⟩
            clear hm hm'
            refine jd_f [⟨4, 0, 0⟩, ⟨5, 0, 0⟩, ⟨6, 0, 1⟩, ⟨7, 1, 1⟩, ⟨8, 0, 1⟩, ⟨9, 0, 1⟩, ⟨10, 0, 1⟩, ⟨11, 0, 1⟩, ⟨12, 0, 1⟩, ⟨13, 0, 1⟩] 4 (by kernel_rfl) (by kernel_rfl) (fun w h => h.pick [0, 1] (by kernel_rfl) (by kernel_rfl)) (by kernel_rfl) (by kernel_rfl) ?_
            refine jd_split 42 (!t_10) (by kernel_rfl) (fun hc_95 => ?_) (fun hc_95 => ?_)
            · replace h := ifT hc_95 h
              refine jd_f [⟨14, 0, 3⟩, ⟨15, 0, 3⟩, ⟨16, 0, 3⟩, ⟨17, 0, 4⟩] 0 (by kernel_rfl) (by kernel_rfl) (fun w h => h.pick [0, 1] (by kernel_rfl) (by kernel_rfl)) (by kernel_rfl) (by kernel_rfl) ?_
              refine jd_end (by kernel_rfl) ?_
              exact jx_meet true h (by kernel_rfl) [0, 1] (by kernel_rfl) (by kernel_rfl)
            · replace h := ifF hc_95 h
              obtain ⟨t_11, ht_96, h⟩ := bd h
              refine toD 14 (by kernel_rfl) (p_call 2 124 #[(.int .i64 20), (.int .i64 (w64 f0.fSteps))] (by kernel_rfl) (by kernel_rfl) (fun w hm => spec_l00Min.calls 20 (w64 f0.fSteps) w _ ht_96) ?_)
              rintro w v w' hm ⟨rfl, hm'⟩
              refine ⟨_, hm.app hm', jkD (fun w h => h.pick [0, 1] (by kernel_rfl) (by kernel_rfl)) ?_⟩
              clear hm hm'
              obtain ⟨t_12, ht_97, h⟩ := bd h
              refine toD 15 (by kernel_rfl) (p_call 2 179 #[(.int .i64 (w64 x_7.fReady)), (.int .i64 1), (.int .i64 t_11)] (by kernel_rfl) (by kernel_rfl) (fun w hm => spec_l00In.calls (w64 x_7.fReady) 1 t_11 w _ ht_97) ?_)
              rintro w v w' hm ⟨rfl, hm'⟩
              refine ⟨_, hm.app hm', jkD (fun w h => h.pick [0, 1] (by kernel_rfl) (by kernel_rfl)) ?_⟩
              clear hm hm'
              refine jd_f [⟨16, 0, 2⟩, ⟨17, 0, 5⟩] 0 (by kernel_rfl) (by kernel_rfl) (fun w h => h.pick [0, 1] (by kernel_rfl) (by kernel_rfl)) (by kernel_rfl) (by kernel_rfl) ?_
              refine jd_end (by kernel_rfl) ?_
              exact jx_meet (!t_12) h (by kernel_rfl) [0, 1] (by kernel_rfl) (by kernel_rfl)
          · rintro q_8 h
            replace h : spec_l02Frame.k_9 i_4 q_8 = some y_83 := h
            rw [spec_l02Frame.k_9] at h
            refine jx_then ?_
            refine jc_cond q_8 (by kernel_rfl) (fun hc_92 => ?_) (fun hc_92 => ?_)
            · replace h := ifT hc_92 h
              refine jc_seq ?_
              refine jc_region ?_
              refine jo_f [(0, 0)] (by kernel_rfl) ?_
              refine jo_end (by kernel_rfl) ?_
              refine jx_then ?_
              refine jc_ret ?_
              refine jx_inr ?_
              refine jx_thenr ?_
              refine jx_leaver (.inl false) (Option.some.inj h).symm (fun e_93 => ?_)
              subst e_93
              refine jx_inr ?_
              refine jx_thenr ?_
              refine jx_thenr ?_
              obtain rfl := Option.some.inj hr_82
              exact jx_ret [] (.bool false) [] rfl (by kernel_rfl) (by kernel_rfl) (fun w hm => ⟨rfl, hm.pick [0] (by kernel_rfl) (by kernel_rfl)⟩)
            · replace h := ifF hc_92 h
              refine jc_skip ?_
              refine jx_inn ?_
              refine jx_then ?_
              refine jc_region ?_
              refine jo_f [(0, 0), (0, 0), (0, 0)] (by kernel_rfl) ?_
              refine jo_end (by kernel_rfl) ?_
              exact jx_back (w64 (i_4 + 1)) () (Option.some.inj h).symm trivial [0] (by kernel_rfl) (by kernel_rfl) (by kernel_rfl)
        · replace h := ifF hc_85 h
          refine jc_exit ?_
          refine jx_thenx ?_
          refine jx_leave (.inr ()) (Option.some.inj h).symm (fun e_98 => ?_)
          subst e_98
          refine jx_ine ?_
          exact jx_meet () hr_82 (by kernel_rfl) [0] (by kernel_rfl) (by kernel_rfl)
      · rintro _ h
        replace h : spec_l02Frame.k_3 = some r := h
        rw [spec_l02Frame.k_3] at h
        refine jx_then ?_
        refine jc_seq ?_
        refine jc_region ?_
        refine jo_f [(0, 0)] (by kernel_rfl) ?_
        refine jo_end (by kernel_rfl) ?_
        refine jx_then ?_
        refine jc_ret ?_
        obtain rfl := Option.some.inj h
        exact jx_ret [] (.bool true) [] rfl (by kernel_rfl) (by kernel_rfl) (fun w hm => ⟨rfl, hm.pick [0] (by kernel_rfl) (by kernel_rfl)⟩)

/-! ### spec.l02Drum -/
noncomputable def spec_l02Drum.k_1 : Option (Bool) := some true
noncomputable def spec_l02Drum.k_6 (i_2 : Int) (q_5 : Bool) : Option ((Int) ⊕ (Bool ⊕ Unit)) := (if q_5 = true then some (.inr (.inl false)) else some (.inl (w64 (i_2 + 1))))
noncomputable def spec_l02Drum.l_3 (f0 : GFrame) (d1 : Arr 96 Int) : Int → Option ((Int) ⊕ (Bool ⊕ Unit))
  | i_2 => (if (decide (i_2 < 96)) = true then (ix d1.1 i_2).bind fun x_7 => (if 0 ≤ (u64 (f0.fHammers.length : Int)) then (if ((bShr .u32 x_7 (u64 (f0.fHammers.length : Int))) != 0) = true then spec_l02Drum.k_6 i_2 true else (if (decide (i_2 ≥ (w64 f0.fSteps))) = true then (ix d1.1 i_2).bind fun x_8 => spec_l02Drum.k_6 i_2 (x_8 != 0) else spec_l02Drum.k_6 i_2 false)) else none) else some (.inr (.inr ())))
noncomputable def spec_l02Drum (f0 : GFrame) (d1 : Arr 96 Int) : Option (Bool) := (loop (spec_l02Drum.l_3 f0 d1) 0).bind fun t_4 => match t_4 with | .inl p => some p | .inr p => spec_l02Drum.k_1
set_option maxRecDepth 100000 in
theorem spec_l02Drum.calls (f0 : GFrame) (d1 : Arr 96 Int) (w : World) (r : Bool) (f0_fHammers_a : Option Addr) (f0_fHammers_an : Nat) (f0_fHammers_c : Nat) (f0_fHammers_h : Rw w f0_fHammers_a 2 encGHammer f0.fHammers) (f0_fHammers_hn : f0.fHammers.length = f0_fHammers_an) (f0_b : Nat) (d1_b : Nat) (hm0 : Mem w (bs [some f0_b, some d1_b]) [⟨some f0_b, 27, [(.int .i16 f0.fSteps), (.slice f0_fHammers_a f0_fHammers_an f0_fHammers_c)]⟩, ⟨(some d1_b), 31, row encU32 d1.1 []⟩] w) (f0_fHammers_ha : f0.fHammers ≠ [] → aB f0_fHammers_a ∉ bs [some f0_b, some d1_b]) (h : spec_l02Drum f0 d1 = some r) :
    Calls Tryz.prog 99 #[(.pointer (some ⟨f0_b, 0, none⟩)), (.pointer (some ⟨d1_b, 0, none⟩))] w fun e w' => ∃ v, e = .returned v ∧ (v = (.bool r) ∧ Mem w (bs [some f0_b, some d1_b]) [⟨some f0_b, 27, [(.int .i16 f0.fSteps), (.slice f0_fHammers_a f0_fHammers_an f0_fHammers_c)]⟩, ⟨(some d1_b), 31, row encU32 d1.1 []⟩] w') := by
  subst f0_fHammers_hn
  rw [spec_l02Drum] at h
  refine enter (args := [(.pointer (some ⟨f0_b, 0, none⟩)), (.pointer (some ⟨d1_b, 0, none⟩))]) Tryz.func99 rfl Tryz.ntmps99 (by kernel_rfl) (L := [⟨some f0_b, 27, [(.int .i16 f0.fSteps), (.slice f0_fHammers_a f0.fHammers.length f0_fHammers_c)]⟩, ⟨(some d1_b), 31, row encU32 d1.1 []⟩]) (W := bs [some f0_b, some d1_b]) hm0 ?_
  refine jc_seq ?_
  refine jc_region ?_
  refine jo_f [(0, 0)] (by kernel_rfl) ?_
  refine jo_end (by kernel_rfl) ?_
  refine jx_then ?_
  refine jc_seq ?_
  refine jc_seq ?_
  refine jc_region ?_
  refine jo_f [(0, 0)] (by kernel_rfl) ?_
  refine jo_end (by kernel_rfl) ?_
  refine jx_then ?_
  refine jc_meet (fun (_ : Unit) => spec_l02Drum.k_1 = some r) (fun (_ : Unit) => [(4, [], (.bool false))]) (fun (_ : Unit) => [⟨some f0_b, 27, [(.int .i16 f0.fSteps), (.slice f0_fHammers_a f0.fHammers.length f0_fHammers_c)]⟩, ⟨(some d1_b), 31, row encU32 d1.1 []⟩]) ?_ ?_
  · refine jc_block ?_
    obtain ⟨t_4, ht_88, hr_71⟩ := bd h
    refine jc_loop (fun (s : Int) (x : Unit) => match s, x with | i_2, _ => True) (fun (s : Int) (x : Unit) => match s, x with | i_2, _ => [(0, [], (.pointer (some ⟨f0_b, 0, none⟩))), (1, [], (.pointer (some ⟨d1_b, 0, none⟩))), (4, [], (.bool false)), (5, [], (.int .i64 i_2))]) (fun (s : Int) (x : Unit) => match s, x with | i_2, _ => [⟨some f0_b, 27, [(.int .i16 f0.fSteps), (.slice f0_fHammers_a f0.fHammers.length f0_fHammers_c)]⟩, ⟨(some d1_b), 31, row encU32 d1.1 []⟩]) ht_88 () trivial (by kernel_rfl) [0, 1] (by kernel_rfl) (by kernel_rfl) ?_
    rintro i_2 _ y_72 _ h
    rw [spec_l02Drum.l_3] at h
    refine jc_seq ?_
    refine jc_seq ?_
    refine jc_region ?_
    refine jo_f [(0, 0), (0, 0)] (by kernel_rfl) ?_
    refine jo_end (by kernel_rfl) ?_
    refine jx_then ?_
    refine jc_cond (decide (i_2 < 96)) (by kernel_rfl) (fun hc_74 => ?_) (fun hc_74 => ?_)
    · replace h := ifT hc_74 h
      refine jc_skip ?_
      refine jx_then ?_
      refine jc_seq ?_
      refine jc_block ?_
      refine jc_seq ?_
      refine jc_meet (fun (j : Bool) => match j with | q_5 => spec_l02Drum.k_6 i_2 q_5 = some y_72) (fun (j : Bool) => match j with | q_5 => [(0, [], (.pointer (some ⟨f0_b, 0, none⟩))), (1, [], (.pointer (some ⟨d1_b, 0, none⟩))), (4, [], (.bool false)), (5, [], (.int .i64 i_2)), (39, [], (.bool q_5))]) (fun (j : Bool) => match j with | q_5 => [⟨some f0_b, 27, [(.int .i16 f0.fSteps), (.slice f0_fHammers_a f0.fHammers.length f0_fHammers_c)]⟩, ⟨(some d1_b), 31, row encU32 d1.1 []⟩]) ?_ ?_
      · refine jc_draw [⟨some f0_b, 27, [(.int .i16 f0.fSteps), (.slice f0_fHammers_a f0.fHammers.length f0_fHammers_c)]⟩, ⟨(some d1_b), 31, row encU32 d1.1 []⟩] 30 (by kernel_rfl) (by kernel_rfl) ?_
        refine jd_f [⟨0, 0, 0⟩, ⟨1, 0, 0⟩, ⟨2, 0, 0⟩, ⟨5, 0, 0⟩, ⟨6, 0, 0⟩, ⟨7, 0, 0⟩, ⟨8, 0, 0⟩, ⟨9, 0, 0⟩, ⟨10, 0, 0⟩] 21 (by kernel_rfl) (by kernel_rfl) (fun w h => h.pick [0, 1] (by kernel_rfl) (by kernel_rfl)) (by kernel_rfl) (by kernel_rfl) ?_
        obtain ⟨x_7, hx_82, h⟩ := bd h
        refine jd_v 3 0 (by kernel_rfl) (fun w h => h.pick [0, 1] (by kernel_rfl) (by kernel_rfl)) (by kernel_rfl) (by kernel_rfl) _ (fun w hm => idx_run (a := (some ⟨d1_b, 0, none⟩)) (len := 96) (s := 1) (j := i_2) (by kernel_rfl) (ix_some hx_82).1 (ltn hx_82 d1.2) rfl) ?_
        refine jd_v 4 0 (by kernel_rfl) (fun w h => h.pick [0, 1] (by kernel_rfl) (by kernel_rfl)) (by kernel_rfl) (by kernel_rfl) _ (fun w hm => ld_run (b := aB (some ⟨d1_b, 0, none⟩)) (off := (aO (some ⟨d1_b, 0, none⟩) + i_2.toNat * 1)) (s := 1) (agg := false) (vs := (encU32 x_7)) (by kernel_rfl) (by kernel_rfl) (.inr rfl) ((hm.ownRow (hh := 1) (o := (some d1_b)) (T := 31) (enc := encU32) (xs := d1.1) (sp := []) (by kernel_rfl) (fun e => nomatch e) encU32_len).at hx_82)) ?_
        obtain ⟨hg_83, h⟩ := gd h
        refine toD 11 (by kernel_rfl) (p_shr 0 .u32 x_7 .u64 (u64 (f0.fHammers.length : Int)) (by kernel_rfl) (by kernel_rfl) hg_83 (jkD (fun w h => h.pick [0, 1] (by kernel_rfl) (by kernel_rfl)) ?_))
        refine jd_f [⟨12, 0, 0⟩, ⟨13, 0, 0⟩, ⟨14, 0, 1⟩, ⟨15, 0, 1⟩, ⟨16, 0, 1⟩, ⟨17, 0, 1⟩, ⟨18, 0, 1⟩, ⟨19, 0, 1⟩, ⟨20, 0, 1⟩] 9 (by kernel_rfl) (by kernel_rfl) (fun w h => h.pick [0, 1] (by kernel_rfl) (by kernel_rfl)) (by kernel_rfl) (by kernel_rfl) ?_
        refine jd_split 23 ((bShr .u32 x_7 (u64 (f0.fHammers.length : Int))) != 0) (by kernel_rfl) (fun hc_84 => ?_) (fun hc_84 => ?_)
        · replace h := ifT hc_84 h
          refine jd_f [⟨21, 0, 3⟩, ⟨22, 0, 3⟩, ⟨23, 0, 3⟩, ⟨24, 0, 3⟩, ⟨25, 0, 3⟩, ⟨26, 0, 3⟩, ⟨27, 0, 3⟩, ⟨28, 0, 3⟩, ⟨29, 0, 4⟩] 0 (by kernel_rfl) (by kernel_rfl) (fun w h => h.pick [0, 1] (by kernel_rfl) (by kernel_rfl)) (by kernel_rfl) (by kernel_rfl) ?_
          refine jd_end (by kernel_rfl) ?_
          exact jx_meet true h (by kernel_rfl) [0, 1] (by kernel_rfl) (by kernel_rfl)
        · replace h := ifF hc_84 h
          refine jd_f [⟨21, 0, 2⟩, ⟨22, 0, 1⟩, ⟨23, 0, 1⟩, ⟨24, 0, 1⟩] 5 (by kernel_rfl) (by kernel_rfl) (fun w h => h.pick [0, 1] (by kernel_rfl) (by kernel_rfl)) (by kernel_rfl) (by kernel_rfl) ?_
          refine jd_split 31 (decide (i_2 ≥ (w64 f0.fSteps))) (by kernel_rfl) (fun hc_85 => ?_) (fun hc_85 => ?_)
          · replace h := ifT hc_85 h
            obtain ⟨x_8, hx_86, h⟩ := bd h
            refine jd_v 25 2 (by kernel_rfl) (fun w h => h.pick [0, 1] (by kernel_rfl) (by kernel_rfl)) (by kernel_rfl) (by kernel_rfl) _ (fun w hm => idx_run (a := (some ⟨d1_b, 0, none⟩)) (len := 96) (s := 1) (j := i_2) (by kernel_rfl) (ix_some hx_86).1 (ltn hx_86 d1.2) rfl) ?_
            refine jd_v 26 2 (by kernel_rfl) (fun w h => h.pick [0, 1] (by kernel_rfl) (by kernel_rfl)) (by kernel_rfl) (by kernel_rfl) _ (fun w hm => ld_run (b := aB (some ⟨d1_b, 0, none⟩)) (off := (aO (some ⟨d1_b, 0, none⟩) + i_2.toNat * 1)) (s := 1) (agg := false) (vs := (encU32 x_8)) (by kernel_rfl) (by kernel_rfl) (.inr rfl) ((hm.ownRow (hh := 1) (o := (some d1_b)) (T := 31) (enc := encU32) (xs := d1.1) (sp := []) (by kernel_rfl) (fun e => nomatch e) encU32_len).at hx_86)) ?_
            refine jd_f [⟨27, 0, 2⟩, ⟨28, 0, 4⟩, ⟨29, 0, 5⟩] 0 (by kernel_rfl) (by kernel_rfl) (fun w h => h.pick [0, 1] (by kernel_rfl) (by kernel_rfl)) (by kernel_rfl) (by kernel_rfl) ?_
            refine jd_end (by kernel_rfl) ?_
            exact jx_meet (x_8 != 0) h (by kernel_rfl) [0, 1] (by kernel_rfl) (by kernel_rfl)
          · replace h := ifF hc_85 h
            refine jd_f [⟨25, 0, 3⟩, ⟨26, 0, 3⟩, ⟨27, 0, 3⟩, ⟨28, 0, 5⟩, ⟨29, 0, 5⟩] 0 (by kernel_rfl) (by kernel_rfl) (fun w h => h.pick [0, 1] (by kernel_rfl) (by kernel_rfl)) (by kernel_rfl) (by kernel_rfl) ?_
            refine jd_end (by kernel_rfl) ?_
            exact jx_meet false h (by kernel_rfl) [0, 1] (by kernel_rfl) (by kernel_rfl)
      · rintro q_5 h
        replace h : spec_l02Drum.k_6 i_2 q_5 = some y_72 := h
        rw [spec_l02Drum.k_6] at h
        refine jx_then ?_
        refine jc_cond q_5 (by kernel_rfl) (fun hc_80 => ?_) (fun hc_80 => ?_)
        · replace h := ifT hc_80 h
          refine jc_seq ?_
          refine jc_region ?_
          refine jo_f [(0, 0)] (by kernel_rfl) ?_
          refine jo_end (by kernel_rfl) ?_
          refine jx_then ?_
          refine jc_ret ?_
          refine jx_inr ?_
          refine jx_thenr ?_
          refine jx_leaver (.inl false) (Option.some.inj h).symm (fun e_81 => ?_)
          subst e_81
          refine jx_inr ?_
          refine jx_thenr ?_
          refine jx_thenr ?_
          obtain rfl := Option.some.inj hr_71
          exact jx_ret [] (.bool false) [] rfl (by kernel_rfl) (by kernel_rfl) (fun w hm => ⟨rfl, hm.pick [0, 1] (by kernel_rfl) (by kernel_rfl)⟩)
        · replace h := ifF hc_80 h
          refine jc_skip ?_
          refine jx_inn ?_
          refine jx_then ?_
          refine jc_region ?_
          refine jo_f [(0, 0), (0, 0), (0, 0)] (by kernel_rfl) ?_
          refine jo_end (by kernel_rfl) ?_
          exact jx_back (w64 (i_2 + 1)) () (Option.some.inj h).symm trivial [0, 1] (by kernel_rfl) (by kernel_rfl) (by kernel_rfl)
    · replace h := ifF hc_74 h
      refine jc_exit ?_
      refine jx_thenx ?_
      refine jx_leave (.inr ()) (Option.some.inj h).symm (fun e_87 => ?_)
      subst e_87
      refine jx_ine ?_
      exact jx_meet () hr_71 (by kernel_rfl) [0, 1] (by kernel_rfl) (by kernel_rfl)
  · rintro _ h
    replace h : spec_l02Drum.k_1 = some r := h
    rw [spec_l02Drum.k_1] at h
    refine jx_then ?_
    refine jc_seq ?_
    refine jc_region ?_
    refine jo_f [(0, 0)] (by kernel_rfl) ?_
    refine jo_end (by kernel_rfl) ?_
    refine jx_then ?_
    refine jc_ret ?_
    obtain rfl := Option.some.inj h
    exact jx_ret [] (.bool true) [] rfl (by kernel_rfl) (by kernel_rfl) (fun w hm => ⟨rfl, hm.pick [0, 1] (by kernel_rfl) (by kernel_rfl)⟩)

/-! ### spec.l05Both -/
noncomputable def spec_l05Both.k_2 (q_1 : Bool) : Option (Int) := (if q_1 = true then some 1 else some 0)
noncomputable def spec_l05Both (f0 : GFrame) (a1 : Arr 96 Int) (b2 : Arr 96 Int) : Option (Int) := (spec_l02Frame f0).bind fun t_3 => (if (!t_3) = true then spec_l05Both.k_2 true else (spec_l02Drum f0 a1).bind fun t_4 => (if (!t_4) = true then spec_l05Both.k_2 true else (spec_l02Drum f0 b2).bind fun t_5 => spec_l05Both.k_2 (!t_5)))
set_option maxRecDepth 100000 in
theorem spec_l05Both.calls (f0 : GFrame) (a1 : Arr 96 Int) (b2 : Arr 96 Int) (w : World) (r : Int) (f0_fHammers_a : Option Addr) (f0_fHammers_an : Nat) (f0_fHammers_c : Nat) (f0_fHammers_h : Rw w f0_fHammers_a 2 encGHammer f0.fHammers) (f0_fHammers_hn : f0.fHammers.length = f0_fHammers_an) (f0_b : Nat) (a1_b : Nat) (b2_b : Nat) (hm0 : Mem w (bs [some f0_b, some a1_b, some b2_b]) [⟨some f0_b, 27, [(.int .i16 f0.fSteps), (.slice f0_fHammers_a f0_fHammers_an f0_fHammers_c)]⟩, ⟨(some a1_b), 31, row encU32 a1.1 []⟩, ⟨(some b2_b), 31, row encU32 b2.1 []⟩] w) (f0_fHammers_ha : f0.fHammers ≠ [] → aB f0_fHammers_a ∉ bs [some f0_b, some a1_b, some b2_b]) (h : spec_l05Both f0 a1 b2 = some r) :
    Calls Tryz.prog 66 #[(.pointer (some ⟨f0_b, 0, none⟩)), (.pointer (some ⟨a1_b, 0, none⟩)), (.pointer (some ⟨b2_b, 0, none⟩))] w fun e w' => ∃ v, e = .returned v ∧ (v = (.int .i64 r) ∧ Mem w (bs [some f0_b, some a1_b, some b2_b]) [⟨some f0_b, 27, [(.int .i16 f0.fSteps), (.slice f0_fHammers_a f0_fHammers_an f0_fHammers_c)]⟩, ⟨(some a1_b), 31, row encU32 a1.1 []⟩, ⟨(some b2_b), 31, row encU32 b2.1 []⟩] w') := by
  subst f0_fHammers_hn
  rw [spec_l05Both] at h
  refine enter (args := [(.pointer (some ⟨f0_b, 0, none⟩)), (.pointer (some ⟨a1_b, 0, none⟩)), (.pointer (some ⟨b2_b, 0, none⟩))]) Tryz.func66 rfl Tryz.ntmps66 (by kernel_rfl) (L := [⟨some f0_b, 27, [(.int .i16 f0.fSteps), (.slice f0_fHammers_a f0.fHammers.length f0_fHammers_c)]⟩, ⟨(some a1_b), 31, row encU32 a1.1 []⟩, ⟨(some b2_b), 31, row encU32 b2.1 []⟩]) (W := bs [some f0_b, some a1_b, some b2_b]) hm0 ?_
  refine jc_seq ?_
  refine jc_region ?_
  refine jo_f [(0, 0)] (by kernel_rfl) ?_
  refine jo_end (by kernel_rfl) ?_
  refine jx_then ?_
  refine jc_seq ?_
  refine jc_seq ?_
  refine jc_meet (fun (j : Bool) => match j with | q_1 => spec_l05Both.k_2 q_1 = some r) (fun (j : Bool) => match j with | q_1 => [(6, [], (.int .i64 0)), (21, [], (.bool q_1))]) (fun (j : Bool) => match j with | q_1 => [⟨some f0_b, 27, [(.int .i16 f0.fSteps), (.slice f0_fHammers_a f0.fHammers.length f0_fHammers_c)]⟩, ⟨(some a1_b), 31, row encU32 a1.1 []⟩, ⟨(some b2_b), 31, row encU32 b2.1 []⟩]) ?_ ?_
  · refine jc_region ?_
    refine jo_f [(0, 0)] (by kernel_rfl) ?_
    obtain ⟨t_3, ht_7, h⟩ := bd h
    refine toO (by kernel_rfl) (p_call 0 98 #[(.pointer (some ⟨f0_b, 0, none⟩))] (by kernel_rfl) (by kernel_rfl) (fun w hm => spec_l02Frame.calls f0 w _ f0_fHammers_a f0.fHammers.length f0_fHammers_c (hm.exRowW f0_fHammers_h f0_fHammers_ha) rfl f0_b (hm.pass (N := [⟨some f0_b, 27, [(.int .i16 f0.fSteps), (.slice f0_fHammers_a f0.fHammers.length f0_fHammers_c)]⟩]) [0] (by kernel_rfl) (by kernel_rfl)) (hm.exApart (N := [⟨some f0_b, 27, [(.int .i16 f0.fSteps), (.slice f0_fHammers_a f0.fHammers.length f0_fHammers_c)]⟩]) f0_fHammers_h f0_fHammers_ha [0] (by kernel_rfl)) ht_7) ?_)
    rintro w v w' hm ⟨rfl, hm'⟩
    refine ⟨_, hm.appW (ps := [(0, ⟨some f0_b, 27, [(.int .i16 f0.fSteps), (.slice f0_fHammers_a f0.fHammers.length f0_fHammers_c)]⟩)]) (N := []) hm' (by kernel_rfl) (by kernel_rfl), jkO ?_⟩
    clear hm hm'
    refine jo_f [(0, 0), (0, 0), (0, 1), (0, 1)] (by kernel_rfl) ?_
    refine jo_split 10 (!t_3) (by kernel_rfl) (fun hc_8 => ?_) (fun hc_8 => ?_)
    · replace h := ifT hc_8 h
      refine jo_f [(0, 3), (0, 3), (0, 4), (0, 0), (0, 3), (0, 3), (0, 3), (0, 3), (0, 4)] (by kernel_rfl) ?_
      refine jo_end (by kernel_rfl) ?_
      exact jx_meet true h (by kernel_rfl) [0, 1, 2] (by kernel_rfl) (by kernel_rfl)
    · replace h := ifF hc_8 h
      obtain ⟨t_4, ht_9, h⟩ := bd h
      refine toO (by kernel_rfl) (p_call 2 99 #[(.pointer (some ⟨f0_b, 0, none⟩)), (.pointer (some ⟨a1_b, 0, none⟩))] (by kernel_rfl) (by kernel_rfl) (fun w hm => spec_l02Drum.calls f0 a1 w _ f0_fHammers_a f0.fHammers.length f0_fHammers_c (hm.exRowW f0_fHammers_h f0_fHammers_ha) rfl f0_b a1_b (hm.pass (N := [⟨some f0_b, 27, [(.int .i16 f0.fSteps), (.slice f0_fHammers_a f0.fHammers.length f0_fHammers_c)]⟩, ⟨(some a1_b), 31, row encU32 a1.1 []⟩]) [0, 1] (by kernel_rfl) (by kernel_rfl)) (hm.exApart (N := [⟨some f0_b, 27, [(.int .i16 f0.fSteps), (.slice f0_fHammers_a f0.fHammers.length f0_fHammers_c)]⟩, ⟨(some a1_b), 31, row encU32 a1.1 []⟩]) f0_fHammers_h f0_fHammers_ha [0, 1] (by kernel_rfl)) ht_9) ?_)
      rintro w v w' hm ⟨rfl, hm'⟩
      refine ⟨_, hm.appW (ps := [(0, ⟨some f0_b, 27, [(.int .i16 f0.fSteps), (.slice f0_fHammers_a f0.fHammers.length f0_fHammers_c)]⟩), (1, ⟨(some a1_b), 31, row encU32 a1.1 []⟩)]) (N := []) hm' (by kernel_rfl) (by kernel_rfl), jkO ?_⟩
      clear hm hm'
      refine jo_f [(0, 2), (0, 5), (0, 0), (0, 1), (0, 1)] (by kernel_rfl) ?_
      refine jo_split 16 (!t_4) (by kernel_rfl) (fun hc_10 => ?_) (fun hc_10 => ?_)
      · replace h := ifT hc_10 h
        refine jo_f [(0, 3), (0, 3), (0, 4)] (by kernel_rfl) ?_
        refine jo_end (by kernel_rfl) ?_
        exact jx_meet true h (by kernel_rfl) [0, 1, 2] (by kernel_rfl) (by kernel_rfl)
      · replace h := ifF hc_10 h
        obtain ⟨t_5, ht_11, h⟩ := bd h
        refine toO (by kernel_rfl) (p_call 2 99 #[(.pointer (some ⟨f0_b, 0, none⟩)), (.pointer (some ⟨b2_b, 0, none⟩))] (by kernel_rfl) (by kernel_rfl) (fun w hm => spec_l02Drum.calls f0 b2 w _ f0_fHammers_a f0.fHammers.length f0_fHammers_c (hm.exRowW f0_fHammers_h f0_fHammers_ha) rfl f0_b b2_b (hm.pass (N := [⟨some f0_b, 27, [(.int .i16 f0.fSteps), (.slice f0_fHammers_a f0.fHammers.length f0_fHammers_c)]⟩, ⟨(some b2_b), 31, row encU32 b2.1 []⟩]) [0, 2] (by kernel_rfl) (by kernel_rfl)) (hm.exApart (N := [⟨some f0_b, 27, [(.int .i16 f0.fSteps), (.slice f0_fHammers_a f0.fHammers.length f0_fHammers_c)]⟩, ⟨(some b2_b), 31, row encU32 b2.1 []⟩]) f0_fHammers_h f0_fHammers_ha [0, 2] (by kernel_rfl)) ht_11) ?_)
        rintro w v w' hm ⟨rfl, hm'⟩
        refine ⟨_, hm.appW (ps := [(0, ⟨some f0_b, 27, [(.int .i16 f0.fSteps), (.slice f0_fHammers_a f0.fHammers.length f0_fHammers_c)]⟩), (2, ⟨(some b2_b), 31, row encU32 b2.1 []⟩)]) (N := []) hm' (by kernel_rfl) (by kernel_rfl), jkO ?_⟩
        clear hm hm'
        refine jo_f [(0, 2), (0, 5)] (by kernel_rfl) ?_
        refine jo_end (by kernel_rfl) ?_
        exact jx_meet (!t_5) h (by kernel_rfl) [0, 1, 2] (by kernel_rfl) (by kernel_rfl)
  · rintro q_1 h
    replace h : spec_l05Both.k_2 q_1 = some r := h
    rw [spec_l05Both.k_2] at h
    refine jx_then ?_
    refine jc_cond q_1 (by kernel_rfl) (fun hc_6 => ?_) (fun hc_6 => ?_)
    · replace h := ifT hc_6 h
      refine jc_seq ?_
      refine jc_region ?_
      refine jo_f [(0, 0)] (by kernel_rfl) ?_
      refine jo_end (by kernel_rfl) ?_
      refine jx_then ?_
      refine jc_ret ?_
      refine jx_thenr ?_
      obtain rfl := Option.some.inj h
      exact jx_ret [] (.int .i64 1) [] rfl (by kernel_rfl) (by kernel_rfl) (fun w hm => ⟨rfl, hm.pick [0, 1, 2] (by kernel_rfl) (by kernel_rfl)⟩)
    · replace h := ifF hc_6 h
      refine jc_skip ?_
      refine jx_then ?_
      refine jc_seq ?_
      refine jc_region ?_
      refine jo_f [(0, 0)] (by kernel_rfl) ?_
      refine jo_end (by kernel_rfl) ?_
      refine jx_then ?_
      refine jc_ret ?_
      obtain rfl := Option.some.inj h
      exact jx_ret [] (.int .i64 0) [] rfl (by kernel_rfl) (by kernel_rfl) (fun w hm => ⟨rfl, hm.pick [0, 1, 2] (by kernel_rfl) (by kernel_rfl)⟩)

/-! ### spec.l05Changes -/
noncomputable def spec_l05Changes.k_2 (xs_1 : List GChange) : Option ((List GChange)) := some xs_1
noncomputable def spec_l05Changes.k_10 (i_4 : Int) (xs_9 : List GChange) : Option (((List GChange) × Int) ⊕ ((List GChange))) := some (.inl (xs_9, (w64 (i_4 + 1))))
noncomputable def spec_l05Changes.l_13 (put2 : Bool) (i_4 : Int) (x_7 : Int) (x_8 : Int) : ((List GChange) × Int) → Option (((List GChange) × Int) ⊕ ((List GChange)))
  | (xs_11, i_12) => (if (decide (i_12 < 24)) = true then (if 0 ≤ (u64 i_12) then (if ((Int.tmod (bShr .u32 (bClr .u32 x_7 x_8) (u64 i_12)) 2) == 1) = true then (if xs_11.length + [(⟨(w16 i_4), (w8 i_12), put2⟩ : GChange)].length ≤ 4294967296 then some (.inl ((xs_11 ++ [(⟨(w16 i_4), (w8 i_12), put2⟩ : GChange)]), (w64 (i_12 + 1)))) else none) else some (.inl (xs_11, (w64 (i_12 + 1))))) else none) else some (.inr xs_11))
noncomputable def spec_l05Changes.l_5 (a0 : Arr 96 Int) (b1 : Arr 96 Int) (put2 : Bool) : ((List GChange) × Int) → Option (((List GChange) × Int) ⊕ ((List GChange)))
  | (xs_3, i_4) => (if (decide (i_4 < 96)) = true then (ix b1.1 i_4).bind fun x_7 => (ix a0.1 i_4).bind fun x_8 => (loop (spec_l05Changes.l_13 put2 i_4 x_7 x_8) (xs_3, 0)).bind fun t_14 => spec_l05Changes.k_10 i_4 t_14 else some (.inr xs_3))
noncomputable def spec_l05Changes (a0 : Arr 96 Int) (b1 : Arr 96 Int) (put2 : Bool) : Option ((List GChange)) := (loop (spec_l05Changes.l_5 a0 b1 put2) (([] : List GChange), 0)).bind fun t_6 => spec_l05Changes.k_2 t_6
set_option maxRecDepth 100000 in
theorem spec_l05Changes.calls (a0 : Arr 96 Int) (b1 : Arr 96 Int) (put2 : Bool) (w : World) (r : (List GChange)) (a0_b : Nat) (b1_b : Nat) (hm0 : Mem w (bs [some a0_b, some b1_b]) [⟨(some a0_b), 31, row encU32 a0.1 []⟩, ⟨(some b1_b), 31, row encU32 b1.1 []⟩] w) (h : spec_l05Changes a0 b1 put2 = some r) :
    Calls Tryz.prog 67 #[(.pointer (some ⟨a0_b, 0, none⟩)), (.pointer (some ⟨b1_b, 0, none⟩)), (.bool put2)] w fun e w' => ∃ v, e = .returned v ∧ (∃ (o0 : Option Nat) (c0 : Nat) (s0 : List Value) (n0 : Nat), r.length = n0 ∧ (o0 ≠ none → n0 ≤ c0 ∧ s0.length = (c0 - n0) * 3) ∧ (o0 = none → r = [] ∧ c0 = 0) ∧ v = .slice (o0.map fun b => ⟨b, 0, none⟩) n0 c0 ∧ Mem w (bs [some a0_b, some b1_b]) [⟨(some a0_b), 31, row encU32 a0.1 []⟩, ⟨(some b1_b), 31, row encU32 b1.1 []⟩, ⟨o0, 106, row encGChange r s0⟩] w') := by
  rw [spec_l05Changes] at h
  refine enter (args := [(.pointer (some ⟨a0_b, 0, none⟩)), (.pointer (some ⟨b1_b, 0, none⟩)), (.bool put2)]) Tryz.func67 rfl Tryz.ntmps67 (by kernel_rfl) (L := [⟨(some a0_b), 31, row encU32 a0.1 []⟩, ⟨(some b1_b), 31, row encU32 b1.1 []⟩]) (W := bs [some a0_b, some b1_b]) hm0 ?_
  refine jc_seq ?_
  refine jc_region ?_
  refine jo_f [(0, 0)] (by kernel_rfl) ?_
  refine jo_end (by kernel_rfl) ?_
  refine jx_then ?_
  refine jc_seq ?_
  refine jc_region ?_
  refine toO (by kernel_rfl) (p_a 0 [0] (by kernel_rfl) (fun b => by kernel_rfl) (fun b_1 => jkO ?_))
  refine jo_f [(0, 0)] (by kernel_rfl) ?_
  refine jo_end (by kernel_rfl) ?_
  refine jx_then ?_
  refine jc_seq ?_
  refine jc_seq ?_
  refine jc_region ?_
  refine jo_f [(0, 0)] (by kernel_rfl) ?_
  refine jo_end (by kernel_rfl) ?_
  refine jx_then ?_
  refine jc_meet (fun (j : (List GChange) × (Option Nat) × Nat × (List Value) × Nat) => match j with | ⟨xs_1, o_1028, cap_1029, sp_1030, n_1031⟩ => spec_l05Changes.k_2 xs_1 = some r ∧ (xs_1.length = n_1031) ∧ ((o_1028 ≠ none → n_1031 ≤ cap_1029 ∧ sp_1030.length = (cap_1029 - n_1031) * 3)) ∧ ((o_1028 = none → xs_1 = [] ∧ cap_1029 = 0))) (fun (j : (List GChange) × (Option Nat) × Nat × (List Value) × Nat) => match j with | ⟨xs_1, o_1028, cap_1029, sp_1030, n_1031⟩ => [(6, [], (.slice none 0 0)), (7, [], (.slice (o_1028.map fun b => ⟨b, 0, none⟩) n_1031 cap_1029))]) (fun (j : (List GChange) × (Option Nat) × Nat × (List Value) × Nat) => match j with | ⟨xs_1, o_1028, cap_1029, sp_1030, n_1031⟩ => [⟨(some a0_b), 31, row encU32 a0.1 []⟩, ⟨(some b1_b), 31, row encU32 b1.1 []⟩, ⟨o_1028, 106, row encGChange xs_1 sp_1030⟩]) ?_ ?_
  · refine jc_block ?_
    obtain ⟨t_6, ht_1373, hr_1262⟩ := bd h
    refine jc_loop (fun (s : (List GChange) × Int) (x : (Option Nat) × Nat × (List Value) × Nat) => match s, x with | ⟨xs_3, i_4⟩, ⟨o_1256, cap_1257, sp_1258, n_1259⟩ => (xs_3.length = n_1259) ∧ ((o_1256 ≠ none → n_1259 ≤ cap_1257 ∧ sp_1258.length = (cap_1257 - n_1259) * 3)) ∧ ((o_1256 = none → xs_3 = [] ∧ cap_1257 = 0))) (fun (s : (List GChange) × Int) (x : (Option Nat) × Nat × (List Value) × Nat) => match s, x with | ⟨xs_3, i_4⟩, ⟨o_1256, cap_1257, sp_1258, n_1259⟩ => [(0, [], (.pointer (some ⟨a0_b, 0, none⟩))), (1, [], (.pointer (some ⟨b1_b, 0, none⟩))), (2, [], (.bool put2)), (6, [], (.slice none 0 0)), (7, [], (.slice (o_1256.map fun b => ⟨b, 0, none⟩) n_1259 cap_1257)), (8, [], (.int .i64 i_4))]) (fun (s : (List GChange) × Int) (x : (Option Nat) × Nat × (List Value) × Nat) => match s, x with | ⟨xs_3, i_4⟩, ⟨o_1256, cap_1257, sp_1258, n_1259⟩ => [⟨(some a0_b), 31, row encU32 a0.1 []⟩, ⟨(some b1_b), 31, row encU32 b1.1 []⟩, ⟨o_1256, 106, row encGChange xs_3 sp_1258⟩]) ht_1373 ⟨(some b_1), 0, [], 0⟩ ⟨rfl, (fun _ => ⟨Nat.le_refl _, by simp⟩), (fun e => nomatch e)⟩ (by kernel_rfl) [0, 1, 2] (by kernel_rfl) (by kernel_rfl) ?_
    rintro ⟨xs_3, i_4⟩ ⟨o_1256, cap_1257, sp_1258, n_1259⟩ y_1263 ⟨rfl, hs_1260, ho_1261⟩ h
    rw [spec_l05Changes.l_5] at h
    refine jc_seq ?_
    refine jc_seq ?_
    refine jc_region ?_
    refine jo_f [(0, 0), (0, 0)] (by kernel_rfl) ?_
    refine jo_end (by kernel_rfl) ?_
    refine jx_then ?_
    refine jc_cond (decide (i_4 < 96)) (by kernel_rfl) (fun hc_1265 => ?_) (fun hc_1265 => ?_)
    · replace h := ifT hc_1265 h
      refine jc_skip ?_
      refine jx_then ?_
      refine jc_seq ?_
      refine jc_block ?_
      refine jc_seq ?_
      refine jc_draw [⟨(some a0_b), 31, row encU32 a0.1 []⟩, ⟨(some b1_b), 31, row encU32 b1.1 []⟩, ⟨o_1256, 106, row encGChange xs_3 sp_1258⟩] 12 (by kernel_rfl) (by kernel_rfl) ?_
      refine jd_f [⟨0, 0, 0⟩, ⟨1, 0, 0⟩, ⟨2, 0, 0⟩, ⟨5, 0, 0⟩, ⟨6, 0, 0⟩, ⟨7, 0, 0⟩] 6 (by kernel_rfl) (by kernel_rfl) (fun w h => h.pick [0, 1, 2] (by kernel_rfl) (by kernel_rfl)) (by kernel_rfl) (by kernel_rfl) ?_
      obtain ⟨x_7, hx_1266, h⟩ := bd h
      refine jd_v 3 0 (by kernel_rfl) (fun w h => h.pick [0, 1, 2] (by kernel_rfl) (by kernel_rfl)) (by kernel_rfl) (by kernel_rfl) _ (fun w hm => idx_run (a := (some ⟨b1_b, 0, none⟩)) (len := 96) (s := 1) (j := i_4) (by kernel_rfl) (ix_some hx_1266).1 (ltn hx_1266 b1.2) rfl) ?_
      refine jd_v 4 0 (by kernel_rfl) (fun w h => h.pick [0, 1, 2] (by kernel_rfl) (by kernel_rfl)) (by kernel_rfl) (by kernel_rfl) _ (fun w hm => ld_run (b := aB (some ⟨b1_b, 0, none⟩)) (off := (aO (some ⟨b1_b, 0, none⟩) + i_4.toNat * 1)) (s := 1) (agg := false) (vs := (encU32 x_7)) (by kernel_rfl) (by kernel_rfl) (.inr rfl) ((hm.ownRow (hh := 1) (o := (some b1_b)) (T := 31) (enc := encU32) (xs := b1.1) (sp := []) (by kernel_rfl) (fun e => nomatch e) encU32_len).at hx_1266)) ?_
      obtain ⟨x_8, hx_1267, h⟩ := bd h
      refine jd_v 8 0 (by kernel_rfl) (fun w h => h.pick [0, 1, 2] (by kernel_rfl) (by kernel_rfl)) (by kernel_rfl) (by kernel_rfl) _ (fun w hm => idx_run (a := (some ⟨a0_b, 0, none⟩)) (len := 96) (s := 1) (j := i_4) (by kernel_rfl) (ix_some hx_1267).1 (ltn hx_1267 a0.2) rfl) ?_
      refine jd_v 9 0 (by kernel_rfl) (fun w h => h.pick [0, 1, 2] (by kernel_rfl) (by kernel_rfl)) (by kernel_rfl) (by kernel_rfl) _ (fun w hm => ld_run (b := aB (some ⟨a0_b, 0, none⟩)) (off := (aO (some ⟨a0_b, 0, none⟩) + i_4.toNat * 1)) (s := 1) (agg := false) (vs := (encU32 x_8)) (by kernel_rfl) (by kernel_rfl) (.inr rfl) ((hm.ownRow (hh := 0) (o := (some a0_b)) (T := 31) (enc := encU32) (xs := a0.1) (sp := []) (by kernel_rfl) (fun e => nomatch e) encU32_len).at hx_1267)) ?_
      refine jd_f [⟨10, 0, 0⟩, ⟨11, 0, 0⟩] 0 (by kernel_rfl) (by kernel_rfl) (fun w h => h.pick [0, 1, 2] (by kernel_rfl) (by kernel_rfl)) (by kernel_rfl) (by kernel_rfl) ?_
      refine jd_end (by kernel_rfl) ?_
      refine jx_then ?_
      refine jc_seq ?_
      refine jc_region ?_
      refine jo_f [(0, 0)] (by kernel_rfl) ?_
      refine jo_end (by kernel_rfl) ?_
      refine jx_then ?_
      refine jc_meet (fun (j : (List GChange) × (Option Nat) × Nat × (List Value) × Nat) => match j with | ⟨xs_9, o_1317, cap_1318, sp_1319, n_1320⟩ => spec_l05Changes.k_10 i_4 xs_9 = some y_1263 ∧ (xs_9.length = n_1320) ∧ ((o_1317 ≠ none → n_1320 ≤ cap_1318 ∧ sp_1319.length = (cap_1318 - n_1320) * 3)) ∧ ((o_1317 = none → xs_9 = [] ∧ cap_1318 = 0))) (fun (j : (List GChange) × (Option Nat) × Nat × (List Value) × Nat) => match j with | ⟨xs_9, o_1317, cap_1318, sp_1319, n_1320⟩ => [(0, [], (.pointer (some ⟨a0_b, 0, none⟩))), (1, [], (.pointer (some ⟨b1_b, 0, none⟩))), (2, [], (.bool put2)), (6, [], (.slice none 0 0)), (7, [], (.slice (o_1317.map fun b => ⟨b, 0, none⟩) n_1320 cap_1318)), (8, [], (.int .i64 i_4))]) (fun (j : (List GChange) × (Option Nat) × Nat × (List Value) × Nat) => match j with | ⟨xs_9, o_1317, cap_1318, sp_1319, n_1320⟩ => [⟨(some a0_b), 31, row encU32 a0.1 []⟩, ⟨(some b1_b), 31, row encU32 b1.1 []⟩, ⟨o_1317, 106, row encGChange xs_9 sp_1319⟩]) ?_ ?_
      · refine jc_block ?_
        obtain ⟨t_14, ht_1371, hr_1357⟩ := bd h
        refine jc_loop (fun (s : (List GChange) × Int) (x : (Option Nat) × Nat × (List Value) × Nat) => match s, x with | ⟨xs_11, i_12⟩, ⟨o_1351, cap_1352, sp_1353, n_1354⟩ => (xs_11.length = n_1354) ∧ ((o_1351 ≠ none → n_1354 ≤ cap_1352 ∧ sp_1353.length = (cap_1352 - n_1354) * 3)) ∧ ((o_1351 = none → xs_11 = [] ∧ cap_1352 = 0))) (fun (s : (List GChange) × Int) (x : (Option Nat) × Nat × (List Value) × Nat) => match s, x with | ⟨xs_11, i_12⟩, ⟨o_1351, cap_1352, sp_1353, n_1354⟩ => [(0, [], (.pointer (some ⟨a0_b, 0, none⟩))), (1, [], (.pointer (some ⟨b1_b, 0, none⟩))), (2, [], (.bool put2)), (6, [], (.slice none 0 0)), (7, [], (.slice (o_1351.map fun b => ⟨b, 0, none⟩) n_1354 cap_1352)), (8, [], (.int .i64 i_4)), (9, [], (.int .u32 (bClr .u32 x_7 x_8))), (10, [], (.int .i64 i_12))]) (fun (s : (List GChange) × Int) (x : (Option Nat) × Nat × (List Value) × Nat) => match s, x with | ⟨xs_11, i_12⟩, ⟨o_1351, cap_1352, sp_1353, n_1354⟩ => [⟨(some a0_b), 31, row encU32 a0.1 []⟩, ⟨(some b1_b), 31, row encU32 b1.1 []⟩, ⟨o_1351, 106, row encGChange xs_11 sp_1353⟩]) ht_1371 ⟨o_1256, cap_1257, sp_1258, xs_3.length⟩ ⟨rfl, hs_1260, ho_1261⟩ (by kernel_rfl) [0, 1, 2] (by kernel_rfl) (by kernel_rfl) ?_
        rintro ⟨xs_11, i_12⟩ ⟨o_1351, cap_1352, sp_1353, n_1354⟩ y_1358 ⟨rfl, hs_1355, ho_1356⟩ h
        rw [spec_l05Changes.l_13] at h
        refine jc_seq ?_
        refine jc_seq ?_
        refine jc_region ?_
        refine jo_f [(0, 0), (0, 0)] (by kernel_rfl) ?_
        refine jo_end (by kernel_rfl) ?_
        refine jx_then ?_
        refine jc_cond (decide (i_12 < 24)) (by kernel_rfl) (fun hc_1360 => ?_) (fun hc_1360 => ?_)
        · replace h := ifT hc_1360 h
          refine jc_skip ?_
          refine jx_then ?_
          refine jc_seq ?_
          refine jc_block ?_
          refine jc_seq ?_
          refine jc_region ?_
          refine jo_f [(0, 0), (0, 0), (0, 0)] (by kernel_rfl) ?_
          obtain ⟨hg_1361, h⟩ := gd h
          refine toO (by kernel_rfl) (p_shr 0 .u32 (bClr .u32 x_7 x_8) .u64 (u64 i_12) (by kernel_rfl) (by kernel_rfl) hg_1361 (jkO ?_))
          refine jo_f [(0, 0), (0, 0)] (by kernel_rfl) ?_
          refine jo_end (by kernel_rfl) ?_
          refine jx_then ?_
          refine jc_cond ((Int.tmod (bShr .u32 (bClr .u32 x_7 x_8) (u64 i_12)) 2) == 1) (by kernel_rfl) (fun hc_1362 => ?_) (fun hc_1362 => ?_)
          · replace h := ifT hc_1362 h
            refine jc_region ?_
            refine jo_f [(0, 0), (0, 0), (0, 0), (0, 0), (0, 0), (0, 0), (0, 0)] (by kernel_rfl) ?_
            refine toO (by kernel_rfl) (p_a 0 [0] (by kernel_rfl) (fun b => by kernel_rfl) (fun b_1363 => jkO ?_))
            obtain ⟨hg_1364, h⟩ := gd h
            refine toO (by kernel_rfl) (p_apn 0 2 o_1351 106 xs_11.length 1 cap_1352 3 4 (some ⟨b_1363, 0, none⟩) encGChange xs_11 [(⟨(w16 i_4), (w8 i_12), put2⟩ : GChange)] sp_1353 (.agg #[(.int .i16 0), (.int .i8 0), (.bool false)]) rfl rfl (by kernel_rfl) (by kernel_rfl) (by kernel_rfl) encGChange_len encGChange_cell hs_1355 ho_1356 (fun w hm => (hm.ownRow (hh := 3) (o := (some b_1363)) (T := 106) (enc := encGChange) (xs := [(⟨(w16 i_4), (w8 i_12), put2⟩ : GChange)]) (sp := []) (by kernel_rfl) (fun e => nomatch e) encGChange_len)) hg_1364 (by kernel_rfl) (by kernel_rfl) (fun o_1365 cap_1366 sp_1367 hs_1368 ho_1369 => jkO ?_))
            refine jo_f [(0, 0)] (by kernel_rfl) ?_
            refine jo_end (by kernel_rfl) ?_
            refine jx_inn ?_
            refine jx_then ?_
            refine jc_region ?_
            refine jo_f [(0, 0), (0, 0), (0, 0)] (by kernel_rfl) ?_
            refine jo_end (by kernel_rfl) ?_
            exact jx_back ((xs_11 ++ [(⟨(w16 i_4), (w8 i_12), put2⟩ : GChange)]), (w64 (i_12 + 1))) ⟨o_1365, cap_1366, sp_1367, (xs_11 ++ [(⟨(w16 i_4), (w8 i_12), put2⟩ : GChange)]).length⟩ (Option.some.inj h).symm ⟨rfl, hs_1368, ho_1369⟩ [0, 1, 2] (by kernel_rfl) (by kernel_rfl) (by kernel_rfl)
          · replace h := ifF hc_1362 h
            refine jc_skip ?_
            refine jx_inn ?_
            refine jx_then ?_
            refine jc_region ?_
            refine jo_f [(0, 0), (0, 0), (0, 0)] (by kernel_rfl) ?_
            refine jo_end (by kernel_rfl) ?_
            exact jx_back (xs_11, (w64 (i_12 + 1))) ⟨o_1351, cap_1352, sp_1353, xs_11.length⟩ (Option.some.inj h).symm ⟨rfl, hs_1355, ho_1356⟩ [0, 1, 2] (by kernel_rfl) (by kernel_rfl) (by kernel_rfl)
        · replace h := ifF hc_1360 h
          refine jc_exit ?_
          refine jx_thenx ?_
          refine jx_leave xs_11 (Option.some.inj h).symm (fun e_1370 => ?_)
          subst e_1370
          refine jx_ine ?_
          exact jx_meet ⟨xs_11, o_1351, cap_1352, sp_1353, xs_11.length⟩ ⟨hr_1357, rfl, hs_1355, ho_1356⟩ (by kernel_rfl) [0, 1, 2] (by kernel_rfl) (by kernel_rfl)
      · rintro ⟨xs_9, o_1317, cap_1318, sp_1319, n_1320⟩ ⟨h, rfl, hs_1321, ho_1322⟩
        replace h : spec_l05Changes.k_10 i_4 xs_9 = some y_1263 := h
        rw [spec_l05Changes.k_10] at h
        refine jx_inn ?_
        refine jx_then ?_
        refine jc_region ?_
        refine jo_f [(0, 0), (0, 0), (0, 0)] (by kernel_rfl) ?_
        refine jo_end (by kernel_rfl) ?_
        exact jx_back (xs_9, (w64 (i_4 + 1))) ⟨o_1317, cap_1318, sp_1319, xs_9.length⟩ (Option.some.inj h).symm ⟨rfl, hs_1321, ho_1322⟩ [0, 1, 2] (by kernel_rfl) (by kernel_rfl) (by kernel_rfl)
    · replace h := ifF hc_1265 h
      refine jc_exit ?_
      refine jx_thenx ?_
      refine jx_leave xs_3 (Option.some.inj h).symm (fun e_1372 => ?_)
      subst e_1372
      refine jx_ine ?_
      exact jx_meet ⟨xs_3, o_1256, cap_1257, sp_1258, xs_3.length⟩ ⟨hr_1262, rfl, hs_1260, ho_1261⟩ (by kernel_rfl) [0, 1, 2] (by kernel_rfl) (by kernel_rfl)
  · rintro ⟨xs_1, o_1028, cap_1029, sp_1030, n_1031⟩ ⟨h, rfl, hs_1032, ho_1033⟩
    replace h : spec_l05Changes.k_2 xs_1 = some r := h
    rw [spec_l05Changes.k_2] at h
    refine jx_then ?_
    refine jc_seq ?_
    refine jc_region ?_
    refine jo_f [(0, 0), (0, 0)] (by kernel_rfl) ?_
    refine jo_end (by kernel_rfl) ?_
    refine jx_then ?_
    refine jc_ret ?_
    obtain rfl := Option.some.inj h
    exact jx_ret [] (.slice (o_1028.map fun b => ⟨b, 0, none⟩) xs_1.length cap_1029) [] rfl (by kernel_rfl) (by kernel_rfl) (fun w hm => ⟨o_1028, cap_1029, sp_1030, xs_1.length, rfl, hs_1032, ho_1033, rfl, hm.pick [0, 1, 2] (by kernel_rfl) (by kernel_rfl)⟩)
end Go.Proofs.YtpldkddkmnpdcaaGreatDoor
