/- Functions of the program that the laws reach: a plain function each, and that the call comes to its answer if the plain function has one. Printed by a program. -/
import Derived.Test.YtplklknkkaeniaaGreatDoorT
namespace Go.Proofs.YtplklknkkaeniaaGreatDoor
open Eng
set_option linter.unusedVariables false

set_option linter.unusedSectionVars false
variable [dsW : DrwS]

/-! ### laws.a2Long -/
noncomputable def laws_a2Long (code0 : List Int) (more1 : List Int) : Option (Bool) := some ((decide ((code0.length : Int) > 3000)) || (decide ((more1.length : Int) > 3000)))
set_option maxRecDepth 100000 in
theorem laws_a2Long.calls (code0 : List Int) (more1 : List Int) (w : World) (r : Bool) (code0_a : Option Addr) (code0_an : Nat) (code0_c : Nat) (code0_h : Rw w code0_a 1 encU8 code0) (code0_hn : code0.length = code0_an) (more1_a : Option Addr) (more1_an : Nat) (more1_c : Nat) (more1_h : Rw w more1_a 1 encU8 more1) (more1_hn : more1.length = more1_an) (h : laws_a2Long code0 more1 = some r) :
    Calls Tryz.prog 4 #[(.slice code0_a code0_an code0_c), (.slice more1_a more1_an more1_c)] w fun e w' => ∃ v, e = .returned v ∧ (v = (.bool r) ∧ Mem w [] [] w') := by
  subst code0_hn more1_hn
  rw [laws_a2Long] at h
  refine enter (args := [(.slice code0_a code0.length code0_c), (.slice more1_a more1.length more1_c)]) Tryz.func4 rfl Tryz.ntmps4 (by kernel_rfl) (L := []) (W := []) (Mem.start w) ?_
  refine jc_seq ?_
  refine jc_region ?_
  refine jo_f [(0, 0)] (by kernel_rfl) ?_
  refine jo_end (by kernel_rfl) ?_
  refine jx_then ?_
  refine jc_seq ?_
  refine jc_region ?_
  refine jo_f [(0, 0), (0, 0), (0, 0), (0, 0), (0, 1), (0, 1), (0, 1), (0, 0), (0, 0)] (by kernel_rfl) ?_
  refine jo_end (by kernel_rfl) ?_
  refine jx_then ?_
  refine jc_ret ?_
  obtain rfl := Option.some.inj h
  exact jx_ret [] (.bool ((decide ((code0.length : Int) > 3000)) || (decide ((more1.length : Int) > 3000)))) [] rfl (by kernel_rfl) (by kernel_rfl) (fun w hm => ⟨rfl, hm.pick [] (by kernel_rfl) (by kernel_rfl)⟩)

/-! ### spec.l00From -/
noncomputable def spec_l00From (code0 : List Int) : Option (Gl00Src) := some (⟨code0, 0, 0⟩ : Gl00Src)
set_option maxRecDepth 100000 in
theorem spec_l00From.calls (code0 : List Int) (w : World) (r : Gl00Src) (code0_a : Option Addr) (code0_an : Nat) (code0_c : Nat) (code0_h : Rw w code0_a 1 encU8 code0) (code0_hn : code0.length = code0_an) (h : spec_l00From code0 = some r) :
    Calls Tryz.prog 25 #[(.slice code0_a code0_an code0_c)] w fun e w' => ∃ v, e = .returned v ∧ (∃ (pb0 : Nat), v = .pointer (some ⟨pb0, 0, none⟩) ∧ Mem w [] [⟨some pb0, 101, [(.slice code0_a code0_an code0_c), (.int .i64 r.fat), (.int .u64 r.fseed)]⟩] w') := by
  subst code0_hn
  rw [spec_l00From] at h
  refine enter (args := [(.slice code0_a code0.length code0_c)]) Tryz.func25 rfl Tryz.ntmps25 (by kernel_rfl) (L := []) (W := []) (Mem.start w) ?_
  refine jc_seq ?_
  refine jc_region ?_
  refine jo_f [(0, 0)] (by kernel_rfl) ?_
  refine jo_end (by kernel_rfl) ?_
  refine jx_then ?_
  refine jc_seq ?_
  refine jc_region ?_
  refine jo_f [(0, 0), (0, 0)] (by kernel_rfl) ?_
  refine toO (by kernel_rfl) (p_a 0 [0] (by kernel_rfl) (fun b => by kernel_rfl) (fun b_1 => jkO ?_))
  refine jo_f [(0, 0)] (by kernel_rfl) ?_
  refine jo_end (by kernel_rfl) ?_
  refine jx_then ?_
  refine jc_ret ?_
  obtain rfl := Option.some.inj h
  exact jx_ret [] (.pointer (some ⟨b_1, 0, none⟩)) [] rfl (by kernel_rfl) (by kernel_rfl) (fun w hm => ⟨b_1, rfl, hm.pick [0] (by kernel_rfl) (by kernel_rfl)⟩)

/-! ### (*spec.l00Src).next -/
noncomputable def spec_l00Src_next.k_2 (s0 : Gl00Src) (i_1 : Int) : Option (Int × Gl00Src) := (if (decide ((w64 (s0.fat + 1)) ≤ (s0.fcode.length : Int))) = true then some (i_1, (⟨s0.fcode, (w64 (s0.fat + 1)), (u64 ((u64 ((u64 (s0.fseed * 6364136223846793005)) + (u64 i_1))) + 1442695040888963407))⟩ : Gl00Src)) else some ((w64 (bAnd .u64 (bShr .u64 (u64 ((u64 ((u64 (s0.fseed * 6364136223846793005)) + (u64 i_1))) + 1442695040888963407)) 40) 255)), (⟨s0.fcode, (w64 (s0.fat + 1)), (u64 ((u64 ((u64 (s0.fseed * 6364136223846793005)) + (u64 i_1))) + 1442695040888963407))⟩ : Gl00Src)))
noncomputable def spec_l00Src_next (s0 : Gl00Src) : Option (Int × Gl00Src) := (if (decide (s0.fat < (s0.fcode.length : Int))) = true then (ix s0.fcode s0.fat).bind fun x_3 => spec_l00Src_next.k_2 s0 (w64 x_3) else spec_l00Src_next.k_2 s0 0)
set_option maxRecDepth 100000 in
theorem spec_l00Src_next.calls (s0 : Gl00Src) (w : World) (r : Int × Gl00Src) (s0_fcode_a : Option Addr) (s0_fcode_an : Nat) (s0_fcode_c : Nat) (s0_fcode_h : Rw w s0_fcode_a 1 encU8 s0.fcode) (s0_fcode_hn : s0.fcode.length = s0_fcode_an) (s0_b : Nat) (hm0 : Mem w (bs [some s0_b]) [⟨some s0_b, 101, [(.slice s0_fcode_a s0_fcode_an s0_fcode_c), (.int .i64 s0.fat), (.int .u64 s0.fseed)]⟩] w) (s0_fcode_ha : s0.fcode ≠ [] → aB s0_fcode_a ∉ bs [some s0_b]) (h : spec_l00Src_next s0 = some r) :
    Calls Tryz.prog 55 #[(.pointer (some ⟨s0_b, 0, none⟩))] w fun e w' => ∃ v, e = .returned v ∧ (v = (.int .i64 r.1) ∧ Mem w (bs [some s0_b]) [⟨some s0_b, 101, [(.slice s0_fcode_a s0_fcode_an s0_fcode_c), (.int .i64 r.2.fat), (.int .u64 r.2.fseed)]⟩] w') := by
  subst s0_fcode_hn
  rw [spec_l00Src_next] at h
  refine enter (args := [(.pointer (some ⟨s0_b, 0, none⟩))]) Tryz.func55 rfl Tryz.ntmps55 (by kernel_rfl) (L := [⟨some s0_b, 101, [(.slice s0_fcode_a s0.fcode.length s0_fcode_c), (.int .i64 s0.fat), (.int .u64 s0.fseed)]⟩]) (W := bs [some s0_b]) hm0 ?_
  refine jc_seq ?_
  refine jc_region ?_
  refine jo_f [(0, 0)] (by kernel_rfl) ?_
  refine jo_end (by kernel_rfl) ?_
  refine jx_then ?_
  refine jc_seq ?_
  refine jc_region ?_
  refine jo_f [(0, 0)] (by kernel_rfl) ?_
  refine jo_end (by kernel_rfl) ?_
  refine jx_then ?_
  refine jc_seq ?_
  refine jc_meet (fun (j : Int) => match j with | i_1 => spec_l00Src_next.k_2 s0 i_1 = some r) (fun (j : Int) => match j with | i_1 => [(0, [], (.pointer (some ⟨s0_b, 0, none⟩))), (2, [], (.int .i64 0)), (3, [], (.int .i64 i_1))]) (fun (j : Int) => match j with | i_1 => [⟨some s0_b, 101, [(.slice s0_fcode_a s0.fcode.length s0_fcode_c), (.int .i64 s0.fat), (.int .u64 s0.fseed)]⟩]) ?_ ?_
  · refine jc_seq ?_
    refine jc_draw [⟨some s0_b, 101, [(.slice s0_fcode_a s0.fcode.length s0_fcode_c), (.int .i64 s0.fat), (.int .u64 s0.fseed)]⟩] 10 (by kernel_rfl) (by kernel_rfl) ?_
    refine jd_f [⟨0, 0, 0⟩, ⟨1, 0, 0⟩, ⟨2, 0, 0⟩, ⟨3, 0, 0⟩, ⟨4, 0, 0⟩, ⟨5, 0, 0⟩, ⟨6, 0, 0⟩, ⟨7, 0, 0⟩, ⟨8, 0, 0⟩, ⟨9, 0, 0⟩] 0 (by kernel_rfl) (by kernel_rfl) (fun w h => h.pick [0] (by kernel_rfl) (by kernel_rfl)) (by kernel_rfl) (by kernel_rfl) ?_
    refine jd_end (by kernel_rfl) ?_
    refine jx_then ?_
    refine jc_cond (decide (s0.fat < (s0.fcode.length : Int))) (by kernel_rfl) (fun hc_5 => ?_) (fun hc_5 => ?_)
    · replace h := ifT hc_5 h
      refine jc_draw [⟨some s0_b, 101, [(.slice s0_fcode_a s0.fcode.length s0_fcode_c), (.int .i64 s0.fat), (.int .u64 s0.fseed)]⟩] 12 (by kernel_rfl) (by kernel_rfl) ?_
      refine jd_f [⟨0, 0, 0⟩, ⟨1, 0, 0⟩, ⟨2, 0, 0⟩, ⟨3, 0, 0⟩, ⟨4, 0, 0⟩, ⟨5, 0, 0⟩, ⟨6, 0, 0⟩, ⟨7, 0, 0⟩] 4 (by kernel_rfl) (by kernel_rfl) (fun w h => h.pick [0] (by kernel_rfl) (by kernel_rfl)) (by kernel_rfl) (by kernel_rfl) ?_
      obtain ⟨x_3, hx_6, h⟩ := bd h
      refine jd_v 8 0 (by kernel_rfl) (fun w h => h.pick [0] (by kernel_rfl) (by kernel_rfl)) (by kernel_rfl) (by kernel_rfl) _ (fun w hm => idx_run (a := s0_fcode_a) (len := s0.fcode.length) (s := 1) (j := s0.fat) (by kernel_rfl) (ix_some hx_6).1 (ltn hx_6 rfl) (s0_fcode_h.sp hx_6)) ?_
      refine jd_v 9 0 (by kernel_rfl) (fun w h => h.pick [0] (by kernel_rfl) (by kernel_rfl)) (by kernel_rfl) (by kernel_rfl) _ (fun w hm => ld_run (b := aB s0_fcode_a) (off := (aO s0_fcode_a + s0.fat.toNat * 1)) (s := 1) (agg := false) (vs := (encU8 x_3)) (by kernel_rfl) (by kernel_rfl) (.inr rfl) ((hm.exRowW s0_fcode_h s0_fcode_ha).at hx_6)) ?_
      refine jd_f [⟨10, 0, 0⟩, ⟨11, 0, 0⟩] 0 (by kernel_rfl) (by kernel_rfl) (fun w h => h.pick [0] (by kernel_rfl) (by kernel_rfl)) (by kernel_rfl) (by kernel_rfl) ?_
      refine jd_end (by kernel_rfl) ?_
      exact jx_meet (w64 x_3) h (by kernel_rfl) [0] (by kernel_rfl) (by kernel_rfl)
    · replace h := ifF hc_5 h
      refine jc_skip ?_
      exact jx_meet 0 h (by kernel_rfl) [0] (by kernel_rfl) (by kernel_rfl)
  · rintro i_1 h
    replace h : spec_l00Src_next.k_2 s0 i_1 = some r := h
    rw [spec_l00Src_next.k_2] at h
    refine jx_then ?_
    refine jc_seq ?_
    refine jc_region ?_
    refine jo_f [(0, 0), (0, 0), (0, 0), (0, 0), (0, 0), (0, 0), (0, 0)] (by kernel_rfl) ?_
    refine toO (by kernel_rfl) (p_s 0 [0] (by kernel_rfl) (by kernel_rfl) (jkO ?_))
    refine jo_end (by kernel_rfl) ?_
    refine jx_then ?_
    refine jc_seq ?_
    refine jc_region ?_
    refine jo_f [(0, 0), (0, 0), (0, 0), (0, 0), (0, 0), (0, 0), (0, 0), (0, 0), (0, 0), (0, 0), (0, 0), (0, 0)] (by kernel_rfl) ?_
    refine toO (by kernel_rfl) (p_s 0 [0] (by kernel_rfl) (by kernel_rfl) (jkO ?_))
    refine jo_end (by kernel_rfl) ?_
    refine jx_then ?_
    refine jc_seq ?_
    refine jc_seq ?_
    refine jc_draw [⟨some s0_b, 101, [(.slice s0_fcode_a s0.fcode.length s0_fcode_c), (.int .i64 (w64 (s0.fat + 1))), (.int .u64 (u64 ((u64 ((u64 (s0.fseed * 6364136223846793005)) + (u64 i_1))) + 1442695040888963407)))]⟩] 10 (by kernel_rfl) (by kernel_rfl) ?_
    refine jd_f [⟨0, 0, 0⟩, ⟨1, 0, 0⟩, ⟨2, 0, 0⟩, ⟨3, 0, 0⟩, ⟨4, 0, 0⟩, ⟨5, 0, 0⟩, ⟨6, 0, 0⟩, ⟨7, 0, 0⟩, ⟨8, 0, 0⟩, ⟨9, 0, 0⟩] 0 (by kernel_rfl) (by kernel_rfl) (fun w h => h.pick [0] (by kernel_rfl) (by kernel_rfl)) (by kernel_rfl) (by kernel_rfl) ?_
    refine jd_end (by kernel_rfl) ?_
    refine jx_then ?_
    refine jc_cond (decide ((w64 (s0.fat + 1)) ≤ (s0.fcode.length : Int))) (by kernel_rfl) (fun hc_4 => ?_) (fun hc_4 => ?_)
    · replace h := ifT hc_4 h
      refine jc_seq ?_
      refine jc_region ?_
      refine jo_f [(0, 0), (0, 0)] (by kernel_rfl) ?_
      refine jo_end (by kernel_rfl) ?_
      refine jx_then ?_
      refine jc_ret ?_
      refine jx_thenr ?_
      obtain rfl := Option.some.inj h
      exact jx_ret [] (.int .i64 i_1) [] rfl (by kernel_rfl) (by kernel_rfl) (fun w hm => ⟨rfl, hm.pick [0] (by kernel_rfl) (by kernel_rfl)⟩)
    · replace h := ifF hc_4 h
      refine jc_skip ?_
      refine jx_then ?_
      refine jc_seq ?_
      refine jc_region ?_
      refine jo_f [(0, 0), (0, 0), (0, 0), (0, 0), (0, 0), (0, 0), (0, 0), (0, 0)] (by kernel_rfl) ?_
      refine jo_end (by kernel_rfl) ?_
      refine jx_then ?_
      refine jc_ret ?_
      obtain rfl := Option.some.inj h
      exact jx_ret [] (.int .i64 (w64 (bAnd .u64 (bShr .u64 (u64 ((u64 ((u64 (s0.fseed * 6364136223846793005)) + (u64 i_1))) + 1442695040888963407)) 40) 255))) [] rfl (by kernel_rfl) (by kernel_rfl) (fun w hm => ⟨rfl, hm.pick [0] (by kernel_rfl) (by kernel_rfl)⟩)

/-! ### (*spec.l00Src).pick -/
noncomputable def spec_l00Src_pick.k_5 (s0 : Gl00Src) (n1 : Int) (i_2 : Int) (i_3 : Int) (i_4 : Int) : Option (Int × Gl00Src) := (if n1 ≠ 0 then some ((Int.tmod i_4 n1), (⟨s0.fcode, i_2, i_3⟩ : Gl00Src)) else none)
noncomputable def spec_l00Src_pick (s0 : Gl00Src) (n1 : Int) : Option (Int × Gl00Src) := (if (decide (n1 ≤ 1)) = true then some (0, s0) else (spec_l00Src_next s0).bind fun t_1 => (if (decide (n1 > 200)) = true then (spec_l00Src_next (⟨s0.fcode, t_1.2.fat, t_1.2.fseed⟩ : Gl00Src)).bind fun t_6 => spec_l00Src_pick.k_5 s0 n1 t_6.2.fat t_6.2.fseed (w64 ((w64 (t_1.1 * 256)) + t_6.1)) else spec_l00Src_pick.k_5 s0 n1 t_1.2.fat t_1.2.fseed t_1.1))
set_option maxRecDepth 100000 in
theorem spec_l00Src_pick.calls (s0 : Gl00Src) (n1 : Int) (w : World) (r : Int × Gl00Src) (s0_fcode_a : Option Addr) (s0_fcode_an : Nat) (s0_fcode_c : Nat) (s0_fcode_h : Rw w s0_fcode_a 1 encU8 s0.fcode) (s0_fcode_hn : s0.fcode.length = s0_fcode_an) (s0_b : Nat) (hm0 : Mem w (bs [some s0_b]) [⟨some s0_b, 101, [(.slice s0_fcode_a s0_fcode_an s0_fcode_c), (.int .i64 s0.fat), (.int .u64 s0.fseed)]⟩] w) (s0_fcode_ha : s0.fcode ≠ [] → aB s0_fcode_a ∉ bs [some s0_b]) (h : spec_l00Src_pick s0 n1 = some r) :
    Calls Tryz.prog 27 #[(.pointer (some ⟨s0_b, 0, none⟩)), (.int .i64 n1)] w fun e w' => ∃ v, e = .returned v ∧ (v = (.int .i64 r.1) ∧ Mem w (bs [some s0_b]) [⟨some s0_b, 101, [(.slice s0_fcode_a s0_fcode_an s0_fcode_c), (.int .i64 r.2.fat), (.int .u64 r.2.fseed)]⟩] w') := by
  subst s0_fcode_hn
  rw [spec_l00Src_pick] at h
  refine enter (args := [(.pointer (some ⟨s0_b, 0, none⟩)), (.int .i64 n1)]) Tryz.func27 rfl Tryz.ntmps27 (by kernel_rfl) (L := [⟨some s0_b, 101, [(.slice s0_fcode_a s0.fcode.length s0_fcode_c), (.int .i64 s0.fat), (.int .u64 s0.fseed)]⟩]) (W := bs [some s0_b]) hm0 ?_
  refine jc_seq ?_
  refine jc_region ?_
  refine jo_f [(0, 0)] (by kernel_rfl) ?_
  refine jo_end (by kernel_rfl) ?_
  refine jx_then ?_
  refine jc_seq ?_
  refine jc_seq ?_
  refine jc_region ?_
  refine jo_f [(0, 0), (0, 0)] (by kernel_rfl) ?_
  refine jo_end (by kernel_rfl) ?_
  refine jx_then ?_
  refine jc_cond (decide (n1 ≤ 1)) (by kernel_rfl) (fun hc_2 => ?_) (fun hc_2 => ?_)
  · replace h := ifT hc_2 h
    refine jc_seq ?_
    refine jc_region ?_
    refine jo_f [(0, 0)] (by kernel_rfl) ?_
    refine jo_end (by kernel_rfl) ?_
    refine jx_then ?_
    refine jc_ret ?_
    refine jx_thenr ?_
    obtain rfl := Option.some.inj h
    exact jx_ret [] (.int .i64 0) [] rfl (by kernel_rfl) (by kernel_rfl) (fun w hm => ⟨rfl, hm.pick [0] (by kernel_rfl) (by kernel_rfl)⟩)
  · replace h := ifF hc_2 h
    refine jc_skip ?_
    refine jx_then ?_
    refine jc_seq ?_
    refine jc_region ?_
    refine jo_f [(0, 0)] (by kernel_rfl) ?_
    obtain ⟨t_1, ht_3, h⟩ := bd h
    refine toO (by kernel_rfl) (p_call 0 55 #[(.pointer (some ⟨s0_b, 0, none⟩))] (by kernel_rfl) (by kernel_rfl) (fun w hm => spec_l00Src_next.calls s0 w _ s0_fcode_a s0.fcode.length s0_fcode_c (hm.exRowW s0_fcode_h s0_fcode_ha) rfl s0_b (hm.pass (N := [⟨some s0_b, 101, [(.slice s0_fcode_a s0.fcode.length s0_fcode_c), (.int .i64 s0.fat), (.int .u64 s0.fseed)]⟩]) [0] (by kernel_rfl) (by kernel_rfl)) (hm.exApart (N := [⟨some s0_b, 101, [(.slice s0_fcode_a s0.fcode.length s0_fcode_c), (.int .i64 s0.fat), (.int .u64 s0.fseed)]⟩]) s0_fcode_h s0_fcode_ha [0] (by kernel_rfl)) ht_3) ?_)
    rintro w v w' hm ⟨rfl, hm'⟩
    refine ⟨_, hm.appW (ps := [(0, ⟨some s0_b, 101, [(.slice s0_fcode_a s0.fcode.length s0_fcode_c), (.int .i64 t_1.2.fat), (.int .u64 t_1.2.fseed)]⟩)]) (N := []) hm' (by kernel_rfl) (by kernel_rfl), jkO ?_⟩
    clear hm hm'
    refine jo_f [(0, 0)] (by kernel_rfl) ?_
    refine jo_end (by kernel_rfl) ?_
    refine jx_then ?_
    refine jc_seq ?_
    refine jc_meet (fun (j : Int × Int × Int) => match j with | ⟨i_2, i_3, i_4⟩ => spec_l00Src_pick.k_5 s0 n1 i_2 i_3 i_4 = some r) (fun (j : Int × Int × Int) => match j with | ⟨i_2, i_3, i_4⟩ => [(1, [], (.int .i64 n1)), (4, [], (.int .i64 0)), (5, [], (.int .i64 i_4))]) (fun (j : Int × Int × Int) => match j with | ⟨i_2, i_3, i_4⟩ => [⟨some s0_b, 101, [(.slice s0_fcode_a s0.fcode.length s0_fcode_c), (.int .i64 i_2), (.int .u64 i_3)]⟩]) ?_ ?_
    · refine jc_seq ?_
      refine jc_region ?_
      refine jo_f [(0, 0), (0, 0)] (by kernel_rfl) ?_
      refine jo_end (by kernel_rfl) ?_
      refine jx_then ?_
      refine jc_cond (decide (n1 > 200)) (by kernel_rfl) (fun hc_7 => ?_) (fun hc_7 => ?_)
      · replace h := ifT hc_7 h
        refine jc_region ?_
        refine jo_f [(0, 0), (0, 0), (0, 0)] (by kernel_rfl) ?_
        obtain ⟨t_6, ht_8, h⟩ := bd h
        refine toO (by kernel_rfl) (p_call 0 55 #[(.pointer (some ⟨s0_b, 0, none⟩))] (by kernel_rfl) (by kernel_rfl) (fun w hm => spec_l00Src_next.calls (⟨s0.fcode, t_1.2.fat, t_1.2.fseed⟩ : Gl00Src) w _ s0_fcode_a s0.fcode.length s0_fcode_c (hm.exRowW s0_fcode_h s0_fcode_ha) rfl s0_b (hm.pass (N := [⟨some s0_b, 101, [(.slice s0_fcode_a s0.fcode.length s0_fcode_c), (.int .i64 t_1.2.fat), (.int .u64 t_1.2.fseed)]⟩]) [0] (by kernel_rfl) (by kernel_rfl)) (hm.exApart (N := [⟨some s0_b, 101, [(.slice s0_fcode_a s0.fcode.length s0_fcode_c), (.int .i64 t_1.2.fat), (.int .u64 t_1.2.fseed)]⟩]) s0_fcode_h s0_fcode_ha [0] (by kernel_rfl)) ht_8) ?_)
        rintro w v w' hm ⟨rfl, hm'⟩
        refine ⟨_, hm.appW (ps := [(0, ⟨some s0_b, 101, [(.slice s0_fcode_a s0.fcode.length s0_fcode_c), (.int .i64 t_6.2.fat), (.int .u64 t_6.2.fseed)]⟩)]) (N := []) hm' (by kernel_rfl) (by kernel_rfl), jkO ?_⟩
        clear hm hm'
        refine jo_f [(0, 0), (0, 0)] (by kernel_rfl) ?_
        refine jo_end (by kernel_rfl) ?_
        exact jx_meet ⟨t_6.2.fat, t_6.2.fseed, (w64 ((w64 (t_1.1 * 256)) + t_6.1))⟩ h (by kernel_rfl) [0] (by kernel_rfl) (by kernel_rfl)
      · replace h := ifF hc_7 h
        refine jc_skip ?_
        exact jx_meet ⟨t_1.2.fat, t_1.2.fseed, t_1.1⟩ h (by kernel_rfl) [0] (by kernel_rfl) (by kernel_rfl)
    · rintro ⟨i_2, i_3, i_4⟩ h
      replace h : spec_l00Src_pick.k_5 s0 n1 i_2 i_3 i_4 = some r := h
      rw [spec_l00Src_pick.k_5] at h
      refine jx_then ?_
      refine jc_seq ?_
      refine jc_region ?_
      refine jo_f [(0, 0), (0, 0)] (by kernel_rfl) ?_
      obtain ⟨hg_6, h⟩ := gd h
      refine toO (by kernel_rfl) (p_rem 0 .i64 i_4 n1 (by kernel_rfl) (by kernel_rfl) hg_6 (jkO ?_))
      refine jo_f [(0, 0)] (by kernel_rfl) ?_
      refine jo_end (by kernel_rfl) ?_
      refine jx_then ?_
      refine jc_ret ?_
      obtain rfl := Option.some.inj h
      exact jx_ret [] (.int .i64 (Int.tmod i_4 n1)) [] rfl (by kernel_rfl) (by kernel_rfl) (fun w hm => ⟨rfl, hm.pick [0] (by kernel_rfl) (by kernel_rfl)⟩)

/-! ### (*spec.l00Src).among -/
noncomputable def spec_l00Src_among (s0 : Gl00Src) (list1 : List Int) : Option (Int × Gl00Src) := (spec_l00Src_pick s0 (list1.length : Int)).bind fun t_1 => (ix list1 t_1.1).bind fun x_2 => some (x_2, (⟨s0.fcode, t_1.2.fat, t_1.2.fseed⟩ : Gl00Src))
set_option maxRecDepth 100000 in
theorem spec_l00Src_among.calls (s0 : Gl00Src) (list1 : List Int) (w : World) (r : Int × Gl00Src) (s0_fcode_a : Option Addr) (s0_fcode_an : Nat) (s0_fcode_c : Nat) (s0_fcode_h : Rw w s0_fcode_a 1 encU8 s0.fcode) (s0_fcode_hn : s0.fcode.length = s0_fcode_an) (list1_a : Option Addr) (list1_an : Nat) (list1_c : Nat) (list1_h : Rw w list1_a 1 encI64 list1) (list1_hn : list1.length = list1_an) (s0_b : Nat) (hm0 : Mem w (bs [some s0_b]) [⟨some s0_b, 101, [(.slice s0_fcode_a s0_fcode_an s0_fcode_c), (.int .i64 s0.fat), (.int .u64 s0.fseed)]⟩] w) (s0_fcode_ha : s0.fcode ≠ [] → aB s0_fcode_a ∉ bs [some s0_b]) (list1_ha : list1 ≠ [] → aB list1_a ∉ bs [some s0_b]) (h : spec_l00Src_among s0 list1 = some r) :
    Calls Tryz.prog 51 #[(.pointer (some ⟨s0_b, 0, none⟩)), (.slice list1_a list1_an list1_c)] w fun e w' => ∃ v, e = .returned v ∧ (v = (.int .i64 r.1) ∧ Mem w (bs [some s0_b]) [⟨some s0_b, 101, [(.slice s0_fcode_a s0_fcode_an s0_fcode_c), (.int .i64 r.2.fat), (.int .u64 r.2.fseed)]⟩] w') := by
  subst s0_fcode_hn list1_hn
  rw [spec_l00Src_among] at h
  refine enter (args := [(.pointer (some ⟨s0_b, 0, none⟩)), (.slice list1_a list1.length list1_c)]) Tryz.func51 rfl Tryz.ntmps51 (by kernel_rfl) (L := [⟨some s0_b, 101, [(.slice s0_fcode_a s0.fcode.length s0_fcode_c), (.int .i64 s0.fat), (.int .u64 s0.fseed)]⟩]) (W := bs [some s0_b]) hm0 ?_
  refine jc_seq ?_
  refine jc_region ?_
  refine jo_f [(0, 0)] (by kernel_rfl) ?_
  refine jo_end (by kernel_rfl) ?_
  refine jx_then ?_
  refine jc_seq ?_
  refine jc_region ?_
  refine jo_f [(0, 0), (0, 0), (0, 0), (0, 0)] (by kernel_rfl) ?_
  obtain ⟨t_1, ht_1, h⟩ := bd h
  refine toO (by kernel_rfl) (p_call 0 27 #[(.pointer (some ⟨s0_b, 0, none⟩)), (.int .i64 (list1.length : Int))] (by kernel_rfl) (by kernel_rfl) (fun w hm => spec_l00Src_pick.calls s0 (list1.length : Int) w _ s0_fcode_a s0.fcode.length s0_fcode_c (hm.exRowW s0_fcode_h s0_fcode_ha) rfl s0_b (hm.pass (N := [⟨some s0_b, 101, [(.slice s0_fcode_a s0.fcode.length s0_fcode_c), (.int .i64 s0.fat), (.int .u64 s0.fseed)]⟩]) [0] (by kernel_rfl) (by kernel_rfl)) (hm.exApart (N := [⟨some s0_b, 101, [(.slice s0_fcode_a s0.fcode.length s0_fcode_c), (.int .i64 s0.fat), (.int .u64 s0.fseed)]⟩]) s0_fcode_h s0_fcode_ha [0] (by kernel_rfl)) ht_1) ?_)
  rintro w v w' hm ⟨rfl, hm'⟩
  refine ⟨_, hm.appW (ps := [(0, ⟨some s0_b, 101, [(.slice s0_fcode_a s0.fcode.length s0_fcode_c), (.int .i64 t_1.2.fat), (.int .u64 t_1.2.fseed)]⟩)]) (N := []) hm' (by kernel_rfl) (by kernel_rfl), jkO ?_⟩
  clear hm hm'
  obtain ⟨x_2, hx_2, h⟩ := bd h
  refine toO (by kernel_rfl) (p_idx 0 list1_a list1.length t_1.1 1 (by kernel_rfl) (by kernel_rfl) (ix_some hx_2).1 (ltn hx_2 rfl) (list1_h.sp hx_2) (jkO ?_))
  refine toO (by kernel_rfl) (p_ld 0 (aB list1_a) (aO list1_a + t_1.1.toNat * 1) false (encI64 x_2) (by kernel_rfl) (by kernel_rfl) (by kernel_rfl) (fun w hm => ((hm.exRowW list1_h list1_ha).at hx_2)) (jkO ?_))
  refine jo_f [(0, 0)] (by kernel_rfl) ?_
  refine jo_end (by kernel_rfl) ?_
  refine jx_then ?_
  refine jc_ret ?_
  obtain rfl := Option.some.inj h
  exact jx_ret [] (.int .i64 x_2) [] rfl (by kernel_rfl) (by kernel_rfl) (fun w hm => ⟨rfl, hm.pick [0] (by kernel_rfl) (by kernel_rfl)⟩)

/-! ### spec.l01Before -/
noncomputable def spec_l01Before (a0 : GNote) (b1 : GNote) : Option (Bool) := (if (decide (a0.fAt < b1.fAt)) = true then some true else some ((a0.fAt == b1.fAt) && (decide (a0.fPitch < b1.fPitch))))
set_option maxRecDepth 100000 in
theorem spec_l01Before.calls (a0 : GNote) (b1 : GNote) (w : World) (r : Bool) (h : spec_l01Before a0 b1 = some r) :
    Calls Tryz.prog 88 #[(.agg #[(.int .i16 a0.fAt), (.int .i8 a0.fPitch)]), (.agg #[(.int .i16 b1.fAt), (.int .i8 b1.fPitch)])] w fun e w' => ∃ v, e = .returned v ∧ (v = (.bool r) ∧ Mem w [] [] w') := by
  rw [spec_l01Before] at h
  refine enter (args := [(.agg #[(.int .i16 a0.fAt), (.int .i8 a0.fPitch)]), (.agg #[(.int .i16 b1.fAt), (.int .i8 b1.fPitch)])]) Tryz.func88 rfl Tryz.ntmps88 (by kernel_rfl) (L := []) (W := []) (Mem.start w) ?_
  refine jc_seq ?_
  refine jc_region ?_
  refine toO (by kernel_rfl) (p_a 0 [0] (by kernel_rfl) (fun b => by kernel_rfl) (fun b_1 => jkO ?_))
  refine toO (by kernel_rfl) (p_a 0 [0] (by kernel_rfl) (fun b => by kernel_rfl) (fun b_2 => jkO ?_))
  refine jo_f [(0, 0)] (by kernel_rfl) ?_
  refine jo_end (by kernel_rfl) ?_
  refine jx_then ?_
  refine jc_seq ?_
  refine jc_region ?_
  refine jo_f [(0, 0), (0, 0), (0, 0), (1, 0), (0, 0), (0, 0), (0, 1), (0, 1), (0, 1), (1, 1), (0, 1)] (by kernel_rfl) ?_
  refine jo_split 10 (decide (a0.fAt < b1.fAt)) (by kernel_rfl) (fun hc_3 => ?_) (fun hc_3 => ?_)
  · replace h := ifT hc_3 h
    refine jo_f [(0, 3), (0, 3), (0, 3), (0, 3), (0, 3), (0, 3), (0, 3), (0, 4), (0, 0)] (by kernel_rfl) ?_
    refine jo_end (by kernel_rfl) ?_
    refine jx_then ?_
    refine jc_ret ?_
    obtain rfl := Option.some.inj h
    exact jx_ret [] (.bool true) [] rfl (by kernel_rfl) (by kernel_rfl) (fun w hm => ⟨rfl, hm.pick [] (by kernel_rfl) (by kernel_rfl)⟩)
  · replace h := ifF hc_3 h
    refine jo_f [(0, 2), (0, 1), (0, 1), (0, 1), (1, 1), (0, 1), (0, 2), (0, 5), (0, 0)] (by kernel_rfl) ?_
    refine jo_end (by kernel_rfl) ?_
    refine jx_then ?_
    refine jc_ret ?_
    obtain rfl := Option.some.inj h
    exact jx_ret [] (.bool ((a0.fAt == b1.fAt) && (decide (a0.fPitch < b1.fPitch)))) [] rfl (by kernel_rfl) (by kernel_rfl) (fun w hm => ⟨rfl, hm.pick [] (by kernel_rfl) (by kernel_rfl)⟩)

/-! ### spec.l01Sorted -/
noncomputable def spec_l01Sorted.k_2 (xs_1 : List GNote) : Option ((List GNote)) := some xs_1
noncomputable def spec_l01Sorted.k_9 (list0 : List GNote) (xs_3 : List GNote) (i_4 : Int) (i_7 : Int) : Option (((List GNote) × Int) ⊕ ((List GNote))) := (if 0 ≤ i_7 ∧ i_7 ≤ (xs_3.length : Int) then (if ([] : List GNote).length + (xs_3.drop i_7.toNat).length ≤ 4294967296 then (if 0 ≤ i_7 ∧ i_7 ≤ (xs_3.length : Int) then (ix list0 i_4).bind fun x_10 => (if i_7.toNat + [x_10].length ≤ 4294967296 then (if (xs_3.take i_7.toNat ++ [x_10]).length + (([] : List GNote) ++ (xs_3.drop i_7.toNat)).length ≤ 4294967296 then some (.inl (((xs_3.take i_7.toNat ++ [x_10]) ++ (([] : List GNote) ++ (xs_3.drop i_7.toNat))), (w64 (i_4 + 1)))) else none) else none) else none) else none) else none)
noncomputable def spec_l01Sorted.k_8 (list0 : List GNote) (xs_3 : List GNote) (i_4 : Int) (i_7 : Int) : Option (((List GNote) × Int) ⊕ ((List GNote))) := (if (decide (i_7 < (xs_3.length : Int))) = true then (ix xs_3 i_7).bind fun x_11 => (ix list0 i_4).bind fun x_12 => (if ((x_11.fAt == x_12.fAt) && (x_11.fPitch == x_12.fPitch)) = true then some (.inl (xs_3, (w64 (i_4 + 1)))) else spec_l01Sorted.k_9 list0 xs_3 i_4 i_7) else spec_l01Sorted.k_9 list0 xs_3 i_4 i_7)
noncomputable def spec_l01Sorted.l_14 (list0 : List GNote) (xs_3 : List GNote) (i_4 : Int) : Int → Option ((Int) ⊕ (Int))
  | i_13 => (if (decide (i_13 < (xs_3.length : Int))) = true then (ix xs_3 i_13).bind fun x_16 => (ix list0 i_4).bind fun x_17 => (spec_l01Before x_16 x_17).bind fun t_18 => (if t_18 = true then some (.inl (w64 (i_13 + 1))) else some (.inr i_13)) else some (.inr i_13))
noncomputable def spec_l01Sorted.l_5 (list0 : List GNote) : ((List GNote) × Int) → Option (((List GNote) × Int) ⊕ ((List GNote)))
  | (xs_3, i_4) => (if (decide (i_4 < (list0.length : Int))) = true then (loop (spec_l01Sorted.l_14 list0 xs_3 i_4) 0).bind fun t_15 => spec_l01Sorted.k_8 list0 xs_3 i_4 t_15 else some (.inr xs_3))
noncomputable def spec_l01Sorted (list0 : List GNote) : Option ((List GNote)) := (loop (spec_l01Sorted.l_5 list0) (([] : List GNote), 0)).bind fun t_6 => spec_l01Sorted.k_2 t_6
set_option maxRecDepth 100000 in
theorem spec_l01Sorted.calls (list0 : List GNote) (w : World) (r : (List GNote)) (list0_a : Option Addr) (list0_an : Nat) (list0_c : Nat) (list0_h : Rw w list0_a 2 encGNote list0) (list0_hn : list0.length = list0_an) (h : spec_l01Sorted list0 = some r) :
    Calls Tryz.prog 52 #[(.slice list0_a list0_an list0_c)] w fun e w' => ∃ v, e = .returned v ∧ (∃ (o0 : Option Nat) (c0 : Nat) (s0 : List Value) (n0 : Nat), r.length = n0 ∧ (o0 ≠ none → n0 ≤ c0 ∧ s0.length = (c0 - n0) * 2) ∧ (o0 = none → r = [] ∧ c0 = 0) ∧ v = .slice (o0.map fun b => ⟨b, 0, none⟩) n0 c0 ∧ Mem w [] [⟨o0, 56, row encGNote r s0⟩] w') := by
  subst list0_hn
  rw [spec_l01Sorted] at h
  refine enter (args := [(.slice list0_a list0.length list0_c)]) Tryz.func52 rfl Tryz.ntmps52 (by kernel_rfl) (L := []) (W := []) (Mem.start w) ?_
  refine jc_seq ?_
  refine jc_region ?_
  refine jo_f [(0, 0)] (by kernel_rfl) ?_
  refine jo_end (by kernel_rfl) ?_
  refine jx_then ?_
  refine jc_seq ?_
  refine jc_region ?_
  refine toO (by kernel_rfl) (p_a 0 [0] (by kernel_rfl) (fun b => by kernel_rfl) (fun b_1 => jkO ?_))
  refine jo_f [(0, 0)] (by kernel_rfl) ?_
  refine jo_end (by kernel_rfl) ?_
  refine jx_then ?_
  refine jc_seq ?_
  refine jc_seq ?_
  refine jc_region ?_
  refine jo_f [(0, 0)] (by kernel_rfl) ?_
  refine jo_end (by kernel_rfl) ?_
  refine jx_then ?_
  refine jc_meet (fun (j : (List GNote) × (Option Nat) × Nat × (List Value) × Nat) => match j with | ⟨xs_1, o_1136, cap_1137, sp_1138, n_1139⟩ => spec_l01Sorted.k_2 xs_1 = some r ∧ (xs_1.length = n_1139) ∧ ((o_1136 ≠ none → n_1139 ≤ cap_1137 ∧ sp_1138.length = (cap_1137 - n_1139) * 2)) ∧ ((o_1136 = none → xs_1 = [] ∧ cap_1137 = 0))) (fun (j : (List GNote) × (Option Nat) × Nat × (List Value) × Nat) => match j with | ⟨xs_1, o_1136, cap_1137, sp_1138, n_1139⟩ => [(2, [], (.slice none 0 0)), (3, [], (.slice (o_1136.map fun b => ⟨b, 0, none⟩) n_1139 cap_1137))]) (fun (j : (List GNote) × (Option Nat) × Nat × (List Value) × Nat) => match j with | ⟨xs_1, o_1136, cap_1137, sp_1138, n_1139⟩ => [⟨o_1136, 56, row encGNote xs_1 sp_1138⟩]) ?_ ?_
  · refine jc_block ?_
    obtain ⟨t_6, ht_1517, hr_1394⟩ := bd h
    refine jc_loop (fun (s : (List GNote) × Int) (x : (Option Nat) × Nat × (List Value) × Nat) => match s, x with | ⟨xs_3, i_4⟩, ⟨o_1388, cap_1389, sp_1390, n_1391⟩ => (xs_3.length = n_1391) ∧ ((o_1388 ≠ none → n_1391 ≤ cap_1389 ∧ sp_1390.length = (cap_1389 - n_1391) * 2)) ∧ ((o_1388 = none → xs_3 = [] ∧ cap_1389 = 0))) (fun (s : (List GNote) × Int) (x : (Option Nat) × Nat × (List Value) × Nat) => match s, x with | ⟨xs_3, i_4⟩, ⟨o_1388, cap_1389, sp_1390, n_1391⟩ => [(0, [], (.slice list0_a list0.length list0_c)), (2, [], (.slice none 0 0)), (3, [], (.slice (o_1388.map fun b => ⟨b, 0, none⟩) n_1391 cap_1389)), (4, [], (.int .i64 i_4))]) (fun (s : (List GNote) × Int) (x : (Option Nat) × Nat × (List Value) × Nat) => match s, x with | ⟨xs_3, i_4⟩, ⟨o_1388, cap_1389, sp_1390, n_1391⟩ => [⟨o_1388, 56, row encGNote xs_3 sp_1390⟩]) ht_1517 ⟨(some b_1), 0, [], 0⟩ ⟨rfl, (fun _ => ⟨Nat.le_refl _, by simp⟩), (fun e => nomatch e)⟩ (by kernel_rfl) [0] (by kernel_rfl) (by kernel_rfl) ?_
    rintro ⟨xs_3, i_4⟩ ⟨o_1388, cap_1389, sp_1390, n_1391⟩ y_1395 ⟨rfl, hs_1392, ho_1393⟩ h
    rw [spec_l01Sorted.l_5] at h
    refine jc_seq ?_
    refine jc_seq ?_
    refine jc_region ?_
    refine jo_f [(0, 0), (0, 0), (0, 0), (0, 0)] (by kernel_rfl) ?_
    refine jo_end (by kernel_rfl) ?_
    refine jx_then ?_
    refine jc_cond (decide (i_4 < (list0.length : Int))) (by kernel_rfl) (fun hc_1397 => ?_) (fun hc_1397 => ?_)
    · replace h := ifT hc_1397 h
      refine jc_skip ?_
      refine jx_then ?_
      refine jc_seq ?_
      refine jc_block ?_
      refine jc_seq ?_
      refine jc_region ?_
      refine jo_f [(0, 0)] (by kernel_rfl) ?_
      refine jo_end (by kernel_rfl) ?_
      refine jx_then ?_
      refine jc_seq ?_
      refine jc_meet (fun (j : Int) => match j with | i_7 => spec_l01Sorted.k_8 list0 xs_3 i_4 i_7 = some y_1395) (fun (j : Int) => match j with | i_7 => [(0, [], (.slice list0_a list0.length list0_c)), (2, [], (.slice none 0 0)), (3, [], (.slice (o_1388.map fun b => ⟨b, 0, none⟩) xs_3.length cap_1389)), (4, [], (.int .i64 i_4)), (5, [], (.int .i64 i_7))]) (fun (j : Int) => match j with | i_7 => [⟨o_1388, 56, row encGNote xs_3 sp_1390⟩]) ?_ ?_
      · refine jc_block ?_
        obtain ⟨t_15, ht_1515, hr_1499⟩ := bd h
        refine jc_loop (fun (s : Int) (x : Unit) => match s, x with | i_13, _ => True) (fun (s : Int) (x : Unit) => match s, x with | i_13, _ => [(0, [], (.slice list0_a list0.length list0_c)), (2, [], (.slice none 0 0)), (3, [], (.slice (o_1388.map fun b => ⟨b, 0, none⟩) xs_3.length cap_1389)), (4, [], (.int .i64 i_4)), (5, [], (.int .i64 i_13))]) (fun (s : Int) (x : Unit) => match s, x with | i_13, _ => [⟨o_1388, 56, row encGNote xs_3 sp_1390⟩]) ht_1515 () trivial (by kernel_rfl) [0] (by kernel_rfl) (by kernel_rfl) ?_
        rintro i_13 _ y_1500 _ h
        rw [spec_l01Sorted.l_14] at h
        refine jc_seq ?_
        refine jc_seq ?_
        refine jc_draw [⟨o_1388, 56, row encGNote xs_3 sp_1390⟩] 15 (by kernel_rfl) (by kernel_rfl) ?_
        refine jd_f [⟨0, 0, 0⟩, ⟨1, 0, 0⟩, ⟨2, 0, 0⟩, ⟨3, 0, 0⟩, ⟨4, 0, 0⟩, ⟨5, 0, 1⟩, ⟨6, 0, 1⟩, ⟨9, 0, 1⟩, ⟨10, 0, 1⟩] 6 (by kernel_rfl) (by kernel_rfl) (fun w h => h.pick [0] (by kernel_rfl) (by kernel_rfl)) (by kernel_rfl) (by kernel_rfl) ?_
        refine jd_split 18 (decide (i_13 < (xs_3.length : Int))) (by kernel_rfl) (fun hc_1507 => ?_) (fun hc_1507 => ?_)
        · replace h := ifT hc_1507 h
          obtain ⟨x_16, hx_1508, h⟩ := bd h
          refine jd_v 7 2 (by kernel_rfl) (fun w h => h.pick [0] (by kernel_rfl) (by kernel_rfl)) (by kernel_rfl) (by kernel_rfl) _ (fun w hm => idx_run (a := (o_1388.map fun b => ⟨b, 0, none⟩)) (len := xs_3.length) (s := 2) (j := i_13) (by kernel_rfl) (ix_some hx_1508).1 (ltn hx_1508 rfl) (spo ho_1393 hx_1508)) ?_
          refine jd_v 8 2 (by kernel_rfl) (fun w h => h.pick [0] (by kernel_rfl) (by kernel_rfl)) (by kernel_rfl) (by kernel_rfl) _ (fun w hm => ld_run (b := aB (o_1388.map fun b => ⟨b, 0, none⟩)) (off := (aO (o_1388.map fun b => ⟨b, 0, none⟩) + i_13.toNat * 2)) (s := 2) (agg := true) (vs := (encGNote x_16)) (by kernel_rfl) (by kernel_rfl) (.inl rfl) ((hm.ownRow (hh := 0) (o := o_1388) (T := 56) (enc := encGNote) (xs := xs_3) (sp := sp_1390) (by kernel_rfl) (fun e => (ho_1393 e).1) encGNote_len).at hx_1508)) ?_
          obtain ⟨x_17, hx_1509, h⟩ := bd h
          refine jd_v 11 2 (by kernel_rfl) (fun w h => h.pick [0] (by kernel_rfl) (by kernel_rfl)) (by kernel_rfl) (by kernel_rfl) _ (fun w hm => idx_run (a := list0_a) (len := list0.length) (s := 2) (j := i_4) (by kernel_rfl) (ix_some hx_1509).1 (ltn hx_1509 rfl) (list0_h.sp hx_1509)) ?_
          refine jd_v 12 2 (by kernel_rfl) (fun w h => h.pick [0] (by kernel_rfl) (by kernel_rfl)) (by kernel_rfl) (by kernel_rfl) _ (fun w hm => ld_run (b := aB list0_a) (off := (aO list0_a + i_4.toNat * 2)) (s := 2) (agg := true) (vs := (encGNote x_17)) (by kernel_rfl) (by kernel_rfl) (.inl rfl) ((hm.exRow list0_h List.not_mem_nil).at hx_1509)) ?_
          obtain ⟨t_18, ht_1510, h⟩ := bd h
          refine toD 13 (by kernel_rfl) (p_call 2 88 #[(.agg #[(.int .i16 x_16.fAt), (.int .i8 x_16.fPitch)]), (.agg #[(.int .i16 x_17.fAt), (.int .i8 x_17.fPitch)])] (by kernel_rfl) (by kernel_rfl) (fun w hm => spec_l01Before.calls x_16 x_17 w _ ht_1510) ?_)
          rintro w v w' hm ⟨rfl, hm'⟩
          refine ⟨_, hm.app hm', jkD (fun w h => h.pick [0] (by kernel_rfl) (by kernel_rfl)) ?_⟩
          clear hm hm'
          refine jd_f [⟨14, 0, 4⟩] 0 (by kernel_rfl) (by kernel_rfl) (fun w h => h.pick [0] (by kernel_rfl) (by kernel_rfl)) (by kernel_rfl) (by kernel_rfl) ?_
          refine jd_end (by kernel_rfl) ?_
          refine jx_then ?_
          refine jc_cond t_18 (by kernel_rfl) (fun hc_1511 => ?_) (fun hc_1511 => ?_)
          · replace h := ifT hc_1511 h
            refine jc_skip ?_
            refine jx_then ?_
            refine jc_block ?_
            refine jc_region ?_
            refine jo_f [(0, 0), (0, 0), (0, 0)] (by kernel_rfl) ?_
            refine jo_end (by kernel_rfl) ?_
            refine jx_inn ?_
            exact jx_back (w64 (i_13 + 1)) () (Option.some.inj h).symm trivial [0] (by kernel_rfl) (by kernel_rfl) (by kernel_rfl)
          · replace h := ifF hc_1511 h
            refine jc_exit ?_
            refine jx_thenx ?_
            refine jx_leave i_13 (Option.some.inj h).symm (fun e_1512 => ?_)
            subst e_1512
            refine jx_ine ?_
            exact jx_meet i_13 hr_1499 (by kernel_rfl) [0] (by kernel_rfl) (by kernel_rfl)
        · replace h := ifF hc_1507 h
          refine jd_f [⟨7, 0, 3⟩, ⟨8, 0, 3⟩, ⟨11, 0, 3⟩, ⟨12, 0, 3⟩, ⟨13, 0, 3⟩, ⟨14, 0, 5⟩] 0 (by kernel_rfl) (by kernel_rfl) (fun w h => h.pick [0] (by kernel_rfl) (by kernel_rfl)) (by kernel_rfl) (by kernel_rfl) ?_
          refine jd_end (by kernel_rfl) ?_
          refine jx_then ?_
          refine jc_cond false (by kernel_rfl) (fun hc_1513 => nomatch hc_1513) (fun hc_1513 => ?_)
          refine jc_exit ?_
          refine jx_thenx ?_
          refine jx_leave i_13 (Option.some.inj h).symm (fun e_1514 => ?_)
          subst e_1514
          refine jx_ine ?_
          exact jx_meet i_13 hr_1499 (by kernel_rfl) [0] (by kernel_rfl) (by kernel_rfl)
      · rintro i_7 h
        replace h : spec_l01Sorted.k_8 list0 xs_3 i_4 i_7 = some y_1395 := h
        rw [spec_l01Sorted.k_8] at h
        refine jx_then ?_
        refine jc_seq ?_
        refine jc_meet (fun (_ : Unit) => spec_l01Sorted.k_9 list0 xs_3 i_4 i_7 = some y_1395) (fun (_ : Unit) => [(0, [], (.slice list0_a list0.length list0_c)), (2, [], (.slice none 0 0)), (3, [], (.slice (o_1388.map fun b => ⟨b, 0, none⟩) xs_3.length cap_1389)), (4, [], (.int .i64 i_4)), (5, [], (.int .i64 i_7))]) (fun (_ : Unit) => [⟨o_1388, 56, row encGNote xs_3 sp_1390⟩]) ?_ ?_
        · refine jc_seq ?_
          refine jc_draw [⟨o_1388, 56, row encGNote xs_3 sp_1390⟩] 15 (by kernel_rfl) (by kernel_rfl) ?_
          refine jd_f [⟨0, 0, 0⟩, ⟨1, 0, 0⟩, ⟨2, 0, 0⟩, ⟨3, 0, 0⟩, ⟨4, 0, 0⟩, ⟨5, 0, 1⟩, ⟨6, 0, 1⟩, ⟨9, 0, 1⟩, ⟨10, 0, 1⟩] 6 (by kernel_rfl) (by kernel_rfl) (fun w h => h.pick [0] (by kernel_rfl) (by kernel_rfl)) (by kernel_rfl) (by kernel_rfl) ?_
          refine jd_split 35 (decide (i_7 < (xs_3.length : Int))) (by kernel_rfl) (fun hc_1470 => ?_) (fun hc_1470 => ?_)
          · replace h := ifT hc_1470 h
            obtain ⟨x_11, hx_1471, h⟩ := bd h
            refine jd_v 7 2 (by kernel_rfl) (fun w h => h.pick [0] (by kernel_rfl) (by kernel_rfl)) (by kernel_rfl) (by kernel_rfl) _ (fun w hm => idx_run (a := (o_1388.map fun b => ⟨b, 0, none⟩)) (len := xs_3.length) (s := 2) (j := i_7) (by kernel_rfl) (ix_some hx_1471).1 (ltn hx_1471 rfl) (spo ho_1393 hx_1471)) ?_
            refine jd_v 8 2 (by kernel_rfl) (fun w h => h.pick [0] (by kernel_rfl) (by kernel_rfl)) (by kernel_rfl) (by kernel_rfl) _ (fun w hm => ld_run (b := aB (o_1388.map fun b => ⟨b, 0, none⟩)) (off := (aO (o_1388.map fun b => ⟨b, 0, none⟩) + i_7.toNat * 2)) (s := 2) (agg := true) (vs := (encGNote x_11)) (by kernel_rfl) (by kernel_rfl) (.inl rfl) ((hm.ownRow (hh := 0) (o := o_1388) (T := 56) (enc := encGNote) (xs := xs_3) (sp := sp_1390) (by kernel_rfl) (fun e => (ho_1393 e).1) encGNote_len).at hx_1471)) ?_
            obtain ⟨x_12, hx_1472, h⟩ := bd h
            refine jd_v 11 2 (by kernel_rfl) (fun w h => h.pick [0] (by kernel_rfl) (by kernel_rfl)) (by kernel_rfl) (by kernel_rfl) _ (fun w hm => idx_run (a := list0_a) (len := list0.length) (s := 2) (j := i_4) (by kernel_rfl) (ix_some hx_1472).1 (ltn hx_1472 rfl) (list0_h.sp hx_1472)) ?_
            refine jd_v 12 2 (by kernel_rfl) (fun w h => h.pick [0] (by kernel_rfl) (by kernel_rfl)) (by kernel_rfl) (by kernel_rfl) _ (fun w hm => ld_run (b := aB list0_a) (off := (aO list0_a + i_4.toNat * 2)) (s := 2) (agg := true) (vs := (encGNote x_12)) (by kernel_rfl) (by kernel_rfl) (.inl rfl) ((hm.exRow list0_h List.not_mem_nil).at hx_1472)) ?_
            refine jd_f [⟨13, 0, 2⟩, ⟨14, 0, 4⟩] 0 (by kernel_rfl) (by kernel_rfl) (fun w h => h.pick [0] (by kernel_rfl) (by kernel_rfl)) (by kernel_rfl) (by kernel_rfl) ?_
            refine jd_end (by kernel_rfl) ?_
            refine jx_then ?_
            refine jc_cond ((x_11.fAt == x_12.fAt) && (x_11.fPitch == x_12.fPitch)) (by kernel_rfl) (fun hc_1473 => ?_) (fun hc_1473 => ?_)
            · replace h := ifT hc_1473 h
              refine jc_exit ?_
              refine jx_thenx ?_
              refine jx_thenx ?_
              refine jx_ine ?_
              refine jx_then ?_
              refine jc_region ?_
              refine jo_f [(0, 0), (0, 0), (0, 0)] (by kernel_rfl) ?_
              refine jo_end (by kernel_rfl) ?_
              exact jx_back (xs_3, (w64 (i_4 + 1))) ⟨o_1388, cap_1389, sp_1390, xs_3.length⟩ (Option.some.inj h).symm ⟨rfl, hs_1392, ho_1393⟩ [0] (by kernel_rfl) (by kernel_rfl) (by kernel_rfl)
            · replace h := ifF hc_1473 h
              refine jc_skip ?_
              exact jx_meet () h (by kernel_rfl) [0] (by kernel_rfl) (by kernel_rfl)
          · replace h := ifF hc_1470 h
            refine jd_f [⟨7, 0, 3⟩, ⟨8, 0, 3⟩, ⟨11, 0, 3⟩, ⟨12, 0, 3⟩, ⟨13, 0, 3⟩, ⟨14, 0, 5⟩] 0 (by kernel_rfl) (by kernel_rfl) (fun w h => h.pick [0] (by kernel_rfl) (by kernel_rfl)) (by kernel_rfl) (by kernel_rfl) ?_
            refine jd_end (by kernel_rfl) ?_
            refine jx_then ?_
            refine jc_cond false (by kernel_rfl) (fun hc_1474 => nomatch hc_1474) (fun hc_1474 => ?_)
            refine jc_skip ?_
            exact jx_meet () h (by kernel_rfl) [0] (by kernel_rfl) (by kernel_rfl)
        · rintro _ h
          replace h : spec_l01Sorted.k_9 list0 xs_3 i_4 i_7 = some y_1395 := h
          rw [spec_l01Sorted.k_9] at h
          refine jx_then ?_
          refine jc_seq ?_
          refine jc_region ?_
          refine toO (by kernel_rfl) (p_a 0 [0] (by kernel_rfl) (fun b => by kernel_rfl) (fun b_1444 => jkO ?_))
          refine jo_f [(0, 0), (0, 0)] (by kernel_rfl) ?_
          obtain ⟨hg_1445, h⟩ := gd h
          refine toO (by kernel_rfl) (p_slL 0 (o_1388.map fun b => ⟨b, 0, none⟩) xs_3.length cap_1389 2 i_7 (by kernel_rfl) (by kernel_rfl) hg_1445.1 (Int.le_trans hg_1445.2 (Int.ofNat_le.2 (Nat.le_of_eq rfl))) (jkO ?_))
          obtain ⟨hg_1446, h⟩ := gd h
          refine toO (by kernel_rfl) (p_apn 0 1 (some b_1444) 56 0 (xs_3.length - i_7.toNat) 0 2 4 (pa (o_1388.map fun b => ⟨b, 0, none⟩) i_7.toNat cap_1389 2) encGNote ([] : List GNote) (xs_3.drop i_7.toNat) [] (.agg #[(.int .i16 0), (.int .i8 0)]) rfl (tl_len rfl i_7) (by kernel_rfl) (by kernel_rfl) (by kernel_rfl) encGNote_len encGNote_cell (fun _ => ⟨Nat.le_refl _, by simp⟩) (fun e => nomatch e) (fun w hm => ((hm.ownRow (hh := 0) (o := o_1388) (T := 56) (enc := encGNote) (xs := xs_3) (sp := sp_1390) (by kernel_rfl) (fun e => (ho_1393 e).1) encGNote_len).tl i_7.toNat cap_1389 (cap_le rfl hs_1392 ho_1393))) hg_1446 (by kernel_rfl) (by kernel_rfl) (fun o_1447 cap_1448 sp_1449 hs_1450 ho_1451 => jkO ?_))
          refine jo_f [(0, 0)] (by kernel_rfl) ?_
          refine jo_end (by kernel_rfl) ?_
          refine jx_then ?_
          refine jc_draw [⟨o_1447, 56, row encGNote (([] : List GNote) ++ (xs_3.drop i_7.toNat)) sp_1449⟩] 12 (by kernel_rfl) (by kernel_rfl) ?_
          refine jd_f [⟨0, 0, 0⟩, ⟨1, 0, 0⟩, ⟨3, 0, 0⟩, ⟨4, 0, 0⟩, ⟨9, 0, 0⟩] 7 (by kernel_rfl) (by kernel_rfl) (fun w h => h.pick [1] (by kernel_rfl) (by kernel_rfl)) (by kernel_rfl) (by kernel_rfl) ?_
          obtain ⟨hg_1455, h⟩ := gd h
          refine jd_v 2 0 (by kernel_rfl) (fun w h => h.pick [1] (by kernel_rfl) (by kernel_rfl)) (by kernel_rfl) (by kernel_rfl) _ (fun w hm => slH_run (a := (o_1388.map fun b => ⟨b, 0, none⟩)) (len := xs_3.length) (cap := cap_1389) (size := 2) (h := i_7) (by kernel_rfl) hg_1455.1 (Int.le_trans hg_1455.2 (Int.ofNat_le.2 (cap_le rfl hs_1392 ho_1393)))) ?_
          obtain ⟨x_10, hx_1456, h⟩ := bd h
          refine jd_v 5 0 (by kernel_rfl) (fun w h => h.pick [1] (by kernel_rfl) (by kernel_rfl)) (by kernel_rfl) (by kernel_rfl) _ (fun w hm => idx_run (a := list0_a) (len := list0.length) (s := 2) (j := i_4) (by kernel_rfl) (ix_some hx_1456).1 (ltn hx_1456 rfl) (list0_h.sp hx_1456)) ?_
          refine jd_v 6 0 (by kernel_rfl) (fun w h => h.pick [1] (by kernel_rfl) (by kernel_rfl)) (by kernel_rfl) (by kernel_rfl) _ (fun w hm => ld_run (b := aB list0_a) (off := (aO list0_a + i_4.toNat * 2)) (s := 2) (agg := true) (vs := (encGNote x_10)) (by kernel_rfl) (by kernel_rfl) (.inl rfl) ((hm.exRow list0_h List.not_mem_nil).at hx_1456)) ?_
          refine toD 7 (by kernel_rfl) (p_a 0 [0] (by kernel_rfl) (fun b => by kernel_rfl) (fun b_1457 => jkD (fun w h => h.pick [1] (by kernel_rfl) (by kernel_rfl)) ?_))
          obtain ⟨hg_1458, h⟩ := gd h
          refine toD 8 (by kernel_rfl) (p_apI 0 0 o_1388 56 i_7.toNat xs_3.length 1 cap_1389 2 4 (some ⟨b_1457, 0, none⟩) encGNote xs_3 [x_10] sp_1390 (.agg #[(.int .i16 0), (.int .i8 0)]) (show i_7.toNat ≤ xs_3.length by have := hg_1455; omega) rfl rfl (by kernel_rfl) (by kernel_rfl) (by kernel_rfl) encGNote_len encGNote_cell hs_1392 ho_1393 (fun w hm => (hm.ownRow (hh := 2) (o := (some b_1457)) (T := 56) (enc := encGNote) (xs := [x_10]) (sp := []) (by kernel_rfl) (fun e => nomatch e) encGNote_len)) hg_1458 (by kernel_rfl) (by kernel_rfl) (fun o_1459 cap_1460 sp_1461 hs_1462 ho_1463 => jkD (fun w h => h.pick [1] (by kernel_rfl) (by kernel_rfl)) ?_))
          obtain ⟨hg_1464, h⟩ := gd h
          refine toD 10 (by kernel_rfl) (p_apn 0 0 o_1459 56 ((xs_3.take i_7.toNat ++ [x_10]).length) ((([] : List GNote) ++ (xs_3.drop i_7.toNat)).length) cap_1460 2 4 (o_1447.map fun b => ⟨b, 0, none⟩) encGNote (xs_3.take i_7.toNat ++ [x_10]) (([] : List GNote) ++ (xs_3.drop i_7.toNat)) sp_1461 (.agg #[(.int .i16 0), (.int .i8 0)]) rfl rfl (by kernel_rfl) (by kernel_rfl) (by kernel_rfl) encGNote_len encGNote_cell hs_1462 ho_1463 (fun w hm => (hm.ownRow (hh := 1) (o := o_1447) (T := 56) (enc := encGNote) (xs := (([] : List GNote) ++ (xs_3.drop i_7.toNat))) (sp := sp_1449) (by kernel_rfl) (fun e => (ho_1451 e).1) encGNote_len)) hg_1464 (by kernel_rfl) (by kernel_rfl) (fun o_1465 cap_1466 sp_1467 hs_1468 ho_1469 => jkD (fun w h => h.pick [1] (by kernel_rfl) (by kernel_rfl)) ?_))
          refine jd_f [⟨11, 0, 0⟩] 0 (by kernel_rfl) (by kernel_rfl) (fun w h => h.pick [1] (by kernel_rfl) (by kernel_rfl)) (by kernel_rfl) (by kernel_rfl) ?_
          refine jd_end (by kernel_rfl) ?_
          refine jx_inn ?_
          refine jx_then ?_
          refine jc_region ?_
          refine jo_f [(0, 0), (0, 0), (0, 0)] (by kernel_rfl) ?_
          refine jo_end (by kernel_rfl) ?_
          exact jx_back (((xs_3.take i_7.toNat ++ [x_10]) ++ (([] : List GNote) ++ (xs_3.drop i_7.toNat))), (w64 (i_4 + 1))) ⟨o_1465, cap_1466, sp_1467, ((xs_3.take i_7.toNat ++ [x_10]) ++ (([] : List GNote) ++ (xs_3.drop i_7.toNat))).length⟩ (Option.some.inj h).symm ⟨rfl, hs_1468, ho_1469⟩ [0] (by kernel_rfl) (by kernel_rfl) (by kernel_rfl)
    · replace h := ifF hc_1397 h
      refine jc_exit ?_
      refine jx_thenx ?_
      refine jx_leave xs_3 (Option.some.inj h).symm (fun e_1516 => ?_)
      subst e_1516
      refine jx_ine ?_
      exact jx_meet ⟨xs_3, o_1388, cap_1389, sp_1390, xs_3.length⟩ ⟨hr_1394, rfl, hs_1392, ho_1393⟩ (by kernel_rfl) [0] (by kernel_rfl) (by kernel_rfl)
  · rintro ⟨xs_1, o_1136, cap_1137, sp_1138, n_1139⟩ ⟨h, rfl, hs_1140, ho_1141⟩
    replace h : spec_l01Sorted.k_2 xs_1 = some r := h
    rw [spec_l01Sorted.k_2] at h
    refine jx_then ?_
    refine jc_seq ?_
    refine jc_region ?_
    refine jo_f [(0, 0), (0, 0)] (by kernel_rfl) ?_
    refine jo_end (by kernel_rfl) ?_
    refine jx_then ?_
    refine jc_ret ?_
    obtain rfl := Option.some.inj h
    exact jx_ret [] (.slice (o_1136.map fun b => ⟨b, 0, none⟩) xs_1.length cap_1137) [] rfl (by kernel_rfl) (by kernel_rfl) (fun w hm => ⟨o_1136, cap_1137, sp_1138, xs_1.length, rfl, hs_1140, ho_1141, rfl, hm.pick [0] (by kernel_rfl) (by kernel_rfl)⟩)

/-! ### spec.l07Short -/
noncomputable def spec_l07Short.k_11 (s0 : Gl00Src) (t_1 : Int × Gl00Src) (xs_5 : List GHammer) (xs_8 : List GNote) (i_9 : Int) (i_10 : Int) : Option (GFrame × (List GNote) × Gl00Src) := (spec_l01Sorted xs_8).bind fun t_12 => some ((⟨(w16 (w64 (6 + t_1.1))), xs_5⟩ : GFrame), t_12, (⟨s0.fcode, i_9, i_10⟩ : Gl00Src))
noncomputable def spec_l07Short.l_17 (s0 : Gl00Src) (t_1 : Int × Gl00Src) : ((List GNote) × Int × Int × Int) → Option (((List GNote) × Int × Int × Int) ⊕ (((List GNote) × Int × Int)))
  | (xs_13, i_14, i_15, i_16) => (if (decide (i_16 > 0)) = true then (spec_l00Src_pick (⟨s0.fcode, i_14, i_15⟩ : Gl00Src) (w64 (w16 (w64 (6 + t_1.1))))).bind fun t_19 => (spec_l00Src_among (⟨s0.fcode, t_19.2.fat, t_19.2.fseed⟩ : Gl00Src) [22, 23, 24, 34, 35, 12]).bind fun t_20 => (if xs_13.length + [(⟨(w16 t_19.1), (w8 t_20.1)⟩ : GNote)].length ≤ 4294967296 then some (.inl ((xs_13 ++ [(⟨(w16 t_19.1), (w8 t_20.1)⟩ : GNote)]), t_20.2.fat, t_20.2.fseed, (w64 (i_16 - 1)))) else none) else some (.inr (xs_13, i_14, i_15)))
noncomputable def spec_l07Short.k_6 (s0 : Gl00Src) (t_1 : Int × Gl00Src) (i_3 : Int) (i_4 : Int) (xs_5 : List GHammer) : Option (GFrame × (List GNote) × Gl00Src) := (spec_l00Src_pick (⟨s0.fcode, i_3, i_4⟩ : Gl00Src) 5).bind fun t_7 => (loop (spec_l07Short.l_17 s0 t_1) (([] : List GNote), t_7.2.fat, t_7.2.fseed, t_7.1)).bind fun t_18 => spec_l07Short.k_11 s0 t_1 xs_5 t_18.1 t_18.2.1 t_18.2.2
noncomputable def spec_l07Short.l_25 (s0 : Gl00Src) : (Int × Int × (List GHammer) × Int) → Option ((Int × Int × (List GHammer) × Int) ⊕ ((Int × Int × (List GHammer))))
  | (i_21, i_22, xs_23, i_24) => (if (decide (i_24 > 0)) = true then (spec_l00Src_among (⟨s0.fcode, i_21, i_22⟩ : Gl00Src) [22, 23, 24, 34, 35]).bind fun t_27 => (spec_l00Src_pick (⟨s0.fcode, t_27.2.fat, t_27.2.fseed⟩ : Gl00Src) 4).bind fun t_28 => (if xs_23.length + [(⟨(w8 t_27.1), (w8 (w64 (1 + t_28.1)))⟩ : GHammer)].length ≤ 4294967296 then some (.inl (t_28.2.fat, t_28.2.fseed, (xs_23 ++ [(⟨(w8 t_27.1), (w8 (w64 (1 + t_28.1)))⟩ : GHammer)]), (w64 (i_24 - 1)))) else none) else some (.inr (i_21, i_22, xs_23)))
noncomputable def spec_l07Short (s0 : Gl00Src) : Option (GFrame × (List GNote) × Gl00Src) := (spec_l00Src_pick s0 8).bind fun t_1 => (spec_l00Src_pick (⟨s0.fcode, t_1.2.fat, t_1.2.fseed⟩ : Gl00Src) 3).bind fun t_2 => (loop (spec_l07Short.l_25 s0) (t_2.2.fat, t_2.2.fseed, [], (w64 (1 + t_2.1)))).bind fun t_26 => spec_l07Short.k_6 s0 t_1 t_26.1 t_26.2.1 t_26.2.2
set_option maxRecDepth 100000 in
theorem spec_l07Short.calls (s0 : Gl00Src) (w : World) (r : GFrame × (List GNote) × Gl00Src) (s0_fcode_a : Option Addr) (s0_fcode_an : Nat) (s0_fcode_c : Nat) (s0_fcode_h : Rw w s0_fcode_a 1 encU8 s0.fcode) (s0_fcode_hn : s0.fcode.length = s0_fcode_an) (s0_b : Nat) (hm0 : Mem w (bs [some s0_b]) [⟨some s0_b, 101, [(.slice s0_fcode_a s0_fcode_an s0_fcode_c), (.int .i64 s0.fat), (.int .u64 s0.fseed)]⟩] w) (s0_fcode_ha : s0.fcode ≠ [] → aB s0_fcode_a ∉ bs [some s0_b]) (h : spec_l07Short s0 = some r) :
    Calls Tryz.prog 24 #[(.pointer (some ⟨s0_b, 0, none⟩))] w fun e w' => ∃ v, e = .returned v ∧ (∃ (o0 : Option Nat) (c0 : Nat) (s0 : List Value) (n0 : Nat), r.1.fHammers.length = n0 ∧ (o0 ≠ none → n0 ≤ c0 ∧ s0.length = (c0 - n0) * 2) ∧ (o0 = none → r.1.fHammers = [] ∧ c0 = 0) ∧ ∃ (o1 : Option Nat) (c1 : Nat) (s1 : List Value) (n1 : Nat), r.2.1.length = n1 ∧ (o1 ≠ none → n1 ≤ c1 ∧ s1.length = (c1 - n1) * 2) ∧ (o1 = none → r.2.1 = [] ∧ c1 = 0) ∧ v = .tuple #[.agg #[(.int .i16 r.1.fSteps), .slice (o0.map fun b => ⟨b, 0, none⟩) n0 c0], .slice (o1.map fun b => ⟨b, 0, none⟩) n1 c1] ∧ Mem w (bs [some s0_b]) [⟨some s0_b, 101, [(.slice s0_fcode_a s0_fcode_an s0_fcode_c), (.int .i64 r.2.2.fat), (.int .u64 r.2.2.fseed)]⟩, ⟨o0, 63, row encGHammer r.1.fHammers s0⟩, ⟨o1, 56, row encGNote r.2.1 s1⟩] w') := by
  subst s0_fcode_hn
  rw [spec_l07Short] at h
  refine enter (args := [(.pointer (some ⟨s0_b, 0, none⟩))]) Tryz.func24 rfl Tryz.ntmps24 (by kernel_rfl) (L := [⟨some s0_b, 101, [(.slice s0_fcode_a s0.fcode.length s0_fcode_c), (.int .i64 s0.fat), (.int .u64 s0.fseed)]⟩]) (W := bs [some s0_b]) hm0 ?_
  refine jc_seq ?_
  refine jc_region ?_
  refine toO (by kernel_rfl) (p_a 0 [0] (by kernel_rfl) (fun b => by kernel_rfl) (fun b_1 => jkO ?_))
  refine jo_f [(0, 0)] (by kernel_rfl) ?_
  refine jo_end (by kernel_rfl) ?_
  refine jx_then ?_
  refine jc_seq ?_
  refine jc_region ?_
  refine jo_f [(0, 0)] (by kernel_rfl) ?_
  obtain ⟨t_1, ht_2, h⟩ := bd h
  refine toO (by kernel_rfl) (p_call 0 27 #[(.pointer (some ⟨s0_b, 0, none⟩)), (.int .i64 8)] (by kernel_rfl) (by kernel_rfl) (fun w hm => spec_l00Src_pick.calls s0 8 w _ s0_fcode_a s0.fcode.length s0_fcode_c (hm.exRowW s0_fcode_h s0_fcode_ha) rfl s0_b (hm.pass (N := [⟨some s0_b, 101, [(.slice s0_fcode_a s0.fcode.length s0_fcode_c), (.int .i64 s0.fat), (.int .u64 s0.fseed)]⟩]) [0] (by kernel_rfl) (by kernel_rfl)) (hm.exApart (N := [⟨some s0_b, 101, [(.slice s0_fcode_a s0.fcode.length s0_fcode_c), (.int .i64 s0.fat), (.int .u64 s0.fseed)]⟩]) s0_fcode_h s0_fcode_ha [0] (by kernel_rfl)) ht_2) ?_)
  rintro w v w' hm ⟨rfl, hm'⟩
  refine ⟨_, hm.appW (ps := [(0, ⟨some s0_b, 101, [(.slice s0_fcode_a s0.fcode.length s0_fcode_c), (.int .i64 t_1.2.fat), (.int .u64 t_1.2.fseed)]⟩)]) (N := []) hm' (by kernel_rfl) (by kernel_rfl), jkO ?_⟩
  clear hm hm'
  refine jo_f [(0, 0), (0, 0), (0, 0)] (by kernel_rfl) ?_
  refine toO (by kernel_rfl) (p_a 0 [0] (by kernel_rfl) (fun b => by kernel_rfl) (fun b_3 => jkO ?_))
  refine toO (by kernel_rfl) (p_s 0 [2] (by kernel_rfl) (by kernel_rfl) (jkO ?_))
  refine jo_end (by kernel_rfl) ?_
  refine jx_then ?_
  refine jc_seq ?_
  refine jc_seq ?_
  refine jc_region ?_
  refine jo_f [(0, 0)] (by kernel_rfl) ?_
  obtain ⟨t_2, ht_121, h⟩ := bd h
  refine toO (by kernel_rfl) (p_call 0 27 #[(.pointer (some ⟨s0_b, 0, none⟩)), (.int .i64 3)] (by kernel_rfl) (by kernel_rfl) (fun w hm => spec_l00Src_pick.calls (⟨s0.fcode, t_1.2.fat, t_1.2.fseed⟩ : Gl00Src) 3 w _ s0_fcode_a s0.fcode.length s0_fcode_c (hm.exRowW s0_fcode_h s0_fcode_ha) rfl s0_b (hm.pass (N := [⟨some s0_b, 101, [(.slice s0_fcode_a s0.fcode.length s0_fcode_c), (.int .i64 t_1.2.fat), (.int .u64 t_1.2.fseed)]⟩]) [0] (by kernel_rfl) (by kernel_rfl)) (hm.exApart (N := [⟨some s0_b, 101, [(.slice s0_fcode_a s0.fcode.length s0_fcode_c), (.int .i64 t_1.2.fat), (.int .u64 t_1.2.fseed)]⟩]) s0_fcode_h s0_fcode_ha [0] (by kernel_rfl)) ht_121) ?_)
  rintro w v w' hm ⟨rfl, hm'⟩
  refine ⟨_, hm.appW (ps := [(0, ⟨some s0_b, 101, [(.slice s0_fcode_a s0.fcode.length s0_fcode_c), (.int .i64 t_2.2.fat), (.int .u64 t_2.2.fseed)]⟩)]) (N := []) hm' (by kernel_rfl) (by kernel_rfl), jkO ?_⟩
  clear hm hm'
  refine jo_f [(0, 0), (0, 0)] (by kernel_rfl) ?_
  refine jo_end (by kernel_rfl) ?_
  refine jx_then ?_
  refine jc_meet (fun (j : Int × Int × (List GHammer) × (Option Nat) × Nat × (List Value) × Nat) => match j with | ⟨i_3, i_4, xs_5, o_177, cap_178, sp_179, n_180⟩ => spec_l07Short.k_6 s0 t_1 i_3 i_4 xs_5 = some r ∧ (xs_5.length = n_180) ∧ ((o_177 ≠ none → n_180 ≤ cap_178 ∧ sp_179.length = (cap_178 - n_180) * 2)) ∧ ((o_177 = none → xs_5 = [] ∧ cap_178 = 0))) (fun (j : Int × Int × (List GHammer) × (Option Nat) × Nat × (List Value) × Nat) => match j with | ⟨i_3, i_4, xs_5, o_177, cap_178, sp_179, n_180⟩ => [(0, [], (.pointer (some ⟨s0_b, 0, none⟩))), (2, [], (.pointer (some ⟨b_1, 0, none⟩))), (3, [], (.slice none 0 0)), (4, [], (.pointer (some ⟨b_3, 0, none⟩)))]) (fun (j : Int × Int × (List GHammer) × (Option Nat) × Nat × (List Value) × Nat) => match j with | ⟨i_3, i_4, xs_5, o_177, cap_178, sp_179, n_180⟩ => [⟨some s0_b, 101, [(.slice s0_fcode_a s0.fcode.length s0_fcode_c), (.int .i64 i_3), (.int .u64 i_4)]⟩, ⟨some b_1, 27, [(.int .i16 0), (.slice none 0 0)]⟩, ⟨some b_3, 27, [(.int .i16 (w16 (w64 (6 + t_1.1)))), (.slice (o_177.map fun b => ⟨b, 0, none⟩) n_180 cap_178)]⟩, ⟨o_177, 63, row encGHammer xs_5 sp_179⟩]) ?_ ?_
  · refine jc_block ?_
    obtain ⟨t_26, ht_484, hr_468⟩ := bd h
    refine jc_ghost 63 encGHammer ?_
    refine jc_loop (fun (s : Int × Int × (List GHammer) × Int) (x : (Option Nat) × Nat × (List Value) × Nat) => match s, x with | ⟨i_21, i_22, xs_23, i_24⟩, ⟨o_462, cap_463, sp_464, n_465⟩ => (xs_23.length = n_465) ∧ ((o_462 ≠ none → n_465 ≤ cap_463 ∧ sp_464.length = (cap_463 - n_465) * 2)) ∧ ((o_462 = none → xs_23 = [] ∧ cap_463 = 0))) (fun (s : Int × Int × (List GHammer) × Int) (x : (Option Nat) × Nat × (List Value) × Nat) => match s, x with | ⟨i_21, i_22, xs_23, i_24⟩, ⟨o_462, cap_463, sp_464, n_465⟩ => [(0, [], (.pointer (some ⟨s0_b, 0, none⟩))), (2, [], (.pointer (some ⟨b_1, 0, none⟩))), (3, [], (.slice none 0 0)), (4, [], (.pointer (some ⟨b_3, 0, none⟩))), (5, [], (.int .i64 i_24))]) (fun (s : Int × Int × (List GHammer) × Int) (x : (Option Nat) × Nat × (List Value) × Nat) => match s, x with | ⟨i_21, i_22, xs_23, i_24⟩, ⟨o_462, cap_463, sp_464, n_465⟩ => [⟨some s0_b, 101, [(.slice s0_fcode_a s0.fcode.length s0_fcode_c), (.int .i64 i_21), (.int .u64 i_22)]⟩, ⟨some b_1, 27, [(.int .i16 0), (.slice none 0 0)]⟩, ⟨some b_3, 27, [(.int .i16 (w16 (w64 (6 + t_1.1)))), (.slice (o_462.map fun b => ⟨b, 0, none⟩) n_465 cap_463)]⟩, ⟨o_462, 63, row encGHammer xs_23 sp_464⟩]) ht_484 ⟨none, 0, [], 0⟩ ⟨rfl, (fun e => absurd rfl e), (fun _ => ⟨rfl, rfl⟩)⟩ (by kernel_rfl) [0, 1, 2, 3] (by kernel_rfl) (by kernel_rfl) ?_
    rintro ⟨i_21, i_22, xs_23, i_24⟩ ⟨o_462, cap_463, sp_464, n_465⟩ y_469 ⟨rfl, hs_466, ho_467⟩ h
    rw [spec_l07Short.l_25] at h
    refine jc_seq ?_
    refine jc_seq ?_
    refine jc_region ?_
    refine jo_f [(0, 0), (0, 0)] (by kernel_rfl) ?_
    refine jo_end (by kernel_rfl) ?_
    refine jx_then ?_
    refine jc_cond (decide (i_24 > 0)) (by kernel_rfl) (fun hc_471 => ?_) (fun hc_471 => ?_)
    · replace h := ifT hc_471 h
      refine jc_skip ?_
      refine jx_then ?_
      refine jc_seq ?_
      refine jc_block ?_
      refine jc_seq ?_
      refine jc_region ?_
      refine jo_f [(0, 0)] (by kernel_rfl) ?_
      refine toO (by kernel_rfl) (p_a 0 [0] (by kernel_rfl) (fun b => by kernel_rfl) (fun b_472 => jkO ?_))
      obtain ⟨t_27, ht_473, h⟩ := bd h
      refine toO (by kernel_rfl) (p_call 0 51 #[(.pointer (some ⟨s0_b, 0, none⟩)), (.slice (some ⟨b_472, 0, none⟩) 5 5)] (by kernel_rfl) (by kernel_rfl) (fun w hm => spec_l00Src_among.calls (⟨s0.fcode, i_21, i_22⟩ : Gl00Src) [22, 23, 24, 34, 35] w _ s0_fcode_a s0.fcode.length s0_fcode_c (hm.exRowW s0_fcode_h s0_fcode_ha) rfl (some ⟨b_472, 0, none⟩) 5 5 (hm.ownRow (hh := 4) (o := (some b_472)) (T := 2) (enc := encI64) (xs := [22, 23, 24, 34, 35]) (sp := []) (by kernel_rfl) (fun e => nomatch e) encI64_len) rfl s0_b (hm.pass (N := [⟨some s0_b, 101, [(.slice s0_fcode_a s0.fcode.length s0_fcode_c), (.int .i64 i_21), (.int .u64 i_22)]⟩]) [0] (by kernel_rfl) (by kernel_rfl)) (hm.exApart (N := [⟨some s0_b, 101, [(.slice s0_fcode_a s0.fcode.length s0_fcode_c), (.int .i64 i_21), (.int .u64 i_22)]⟩]) s0_fcode_h s0_fcode_ha [0] (by kernel_rfl)) (hm.ownApart (S := Int) (N := [⟨some s0_b, 101, [(.slice s0_fcode_a s0.fcode.length s0_fcode_c), (.int .i64 i_21), (.int .u64 i_22)]⟩]) (hh := 4) (o := (some b_472)) (T := 2) (cs := row encI64 [22, 23, 24, 34, 35] []) (xs := [22, 23, 24, 34, 35]) (by kernel_rfl) (fun e => nomatch e) [0] (by kernel_rfl) (by kernel_rfl)) ht_473) ?_)
      rintro w v w' hm ⟨rfl, hm'⟩
      refine ⟨_, hm.appW (ps := [(0, ⟨some s0_b, 101, [(.slice s0_fcode_a s0.fcode.length s0_fcode_c), (.int .i64 t_27.2.fat), (.int .u64 t_27.2.fseed)]⟩)]) (N := []) hm' (by kernel_rfl) (by kernel_rfl), jkO ?_⟩
      clear hm hm'
      refine jo_f [(0, 0), (0, 0)] (by kernel_rfl) ?_
      refine toO (by kernel_rfl) (p_a 0 [0] (by kernel_rfl) (fun b => by kernel_rfl) (fun b_474 => jkO ?_))
      refine toO (by kernel_rfl) (p_s 0 [5] (by kernel_rfl) (by kernel_rfl) (jkO ?_))
      refine jo_end (by kernel_rfl) ?_
      refine jx_then ?_
      refine jc_seq ?_
      refine jc_region ?_
      refine jo_f [(0, 0)] (by kernel_rfl) ?_
      obtain ⟨t_28, ht_475, h⟩ := bd h
      refine toO (by kernel_rfl) (p_call 0 27 #[(.pointer (some ⟨s0_b, 0, none⟩)), (.int .i64 4)] (by kernel_rfl) (by kernel_rfl) (fun w hm => spec_l00Src_pick.calls (⟨s0.fcode, t_27.2.fat, t_27.2.fseed⟩ : Gl00Src) 4 w _ s0_fcode_a s0.fcode.length s0_fcode_c (hm.exRowW s0_fcode_h s0_fcode_ha) rfl s0_b (hm.pass (N := [⟨some s0_b, 101, [(.slice s0_fcode_a s0.fcode.length s0_fcode_c), (.int .i64 t_27.2.fat), (.int .u64 t_27.2.fseed)]⟩]) [0] (by kernel_rfl) (by kernel_rfl)) (hm.exApart (N := [⟨some s0_b, 101, [(.slice s0_fcode_a s0.fcode.length s0_fcode_c), (.int .i64 t_27.2.fat), (.int .u64 t_27.2.fseed)]⟩]) s0_fcode_h s0_fcode_ha [0] (by kernel_rfl)) ht_475) ?_)
      rintro w v w' hm ⟨rfl, hm'⟩
      refine ⟨_, hm.appW (ps := [(0, ⟨some s0_b, 101, [(.slice s0_fcode_a s0.fcode.length s0_fcode_c), (.int .i64 t_28.2.fat), (.int .u64 t_28.2.fseed)]⟩)]) (N := []) hm' (by kernel_rfl) (by kernel_rfl), jkO ?_⟩
      clear hm hm'
      refine jo_f [(0, 0), (0, 0), (0, 0)] (by kernel_rfl) ?_
      refine toO (by kernel_rfl) (p_s 0 [5] (by kernel_rfl) (by kernel_rfl) (jkO ?_))
      refine jo_end (by kernel_rfl) ?_
      refine jx_then ?_
      refine jc_region ?_
      refine jo_f [(0, 0), (2, 0), (5, 0)] (by kernel_rfl) ?_
      refine toO (by kernel_rfl) (p_a 0 [0] (by kernel_rfl) (fun b => by kernel_rfl) (fun b_476 => jkO ?_))
      obtain ⟨hg_477, h⟩ := gd h
      refine toO (by kernel_rfl) (p_apn 0 3 o_462 63 xs_23.length 1 cap_463 2 2 (some ⟨b_476, 0, none⟩) encGHammer xs_23 [(⟨(w8 t_27.1), (w8 (w64 (1 + t_28.1)))⟩ : GHammer)] sp_464 (.agg #[(.int .i8 0), (.int .i8 0)]) rfl rfl (by kernel_rfl) (by kernel_rfl) (by kernel_rfl) encGHammer_len encGHammer_cell hs_466 ho_467 (fun w hm => (hm.ownRow (hh := 6) (o := (some b_476)) (T := 63) (enc := encGHammer) (xs := [(⟨(w8 t_27.1), (w8 (w64 (1 + t_28.1)))⟩ : GHammer)]) (sp := []) (by kernel_rfl) (fun e => nomatch e) encGHammer_len)) hg_477 (by kernel_rfl) (by kernel_rfl) (fun o_478 cap_479 sp_480 hs_481 ho_482 => jkO ?_))
      refine jo_f [(0, 0)] (by kernel_rfl) ?_
      refine toO (by kernel_rfl) (p_s 0 [2] (by kernel_rfl) (by kernel_rfl) (jkO ?_))
      refine jo_end (by kernel_rfl) ?_
      refine jx_inn ?_
      refine jx_then ?_
      refine jc_region ?_
      refine jo_f [(0, 0), (0, 0), (0, 0)] (by kernel_rfl) ?_
      refine jo_end (by kernel_rfl) ?_
      exact jx_back (t_28.2.fat, t_28.2.fseed, (xs_23 ++ [(⟨(w8 t_27.1), (w8 (w64 (1 + t_28.1)))⟩ : GHammer)]), (w64 (i_24 - 1))) ⟨o_478, cap_479, sp_480, (xs_23 ++ [(⟨(w8 t_27.1), (w8 (w64 (1 + t_28.1)))⟩ : GHammer)]).length⟩ (Option.some.inj h).symm ⟨rfl, hs_481, ho_482⟩ [0, 1, 2, 3] (by kernel_rfl) (by kernel_rfl) (by kernel_rfl)
    · replace h := ifF hc_471 h
      refine jc_exit ?_
      refine jx_thenx ?_
      refine jx_leave (i_21, i_22, xs_23) (Option.some.inj h).symm (fun e_483 => ?_)
      subst e_483
      refine jx_ine ?_
      exact jx_meet ⟨i_21, i_22, xs_23, o_462, cap_463, sp_464, xs_23.length⟩ ⟨hr_468, rfl, hs_466, ho_467⟩ (by kernel_rfl) [0, 1, 2, 3] (by kernel_rfl) (by kernel_rfl)
  · rintro ⟨i_3, i_4, xs_5, o_177, cap_178, sp_179, n_180⟩ ⟨h, rfl, hs_181, ho_182⟩
    replace h : spec_l07Short.k_6 s0 t_1 i_3 i_4 xs_5 = some r := h
    rw [spec_l07Short.k_6] at h
    refine jx_then ?_
    refine jc_seq ?_
    refine jc_region ?_
    refine toO (by kernel_rfl) (p_a 0 [0] (by kernel_rfl) (fun b => by kernel_rfl) (fun b_183 => jkO ?_))
    refine jo_f [(0, 0)] (by kernel_rfl) ?_
    refine jo_end (by kernel_rfl) ?_
    refine jx_then ?_
    refine jc_seq ?_
    refine jc_seq ?_
    refine jc_region ?_
    refine jo_f [(0, 0)] (by kernel_rfl) ?_
    obtain ⟨t_7, ht_301, h⟩ := bd h
    refine toO (by kernel_rfl) (p_call 0 27 #[(.pointer (some ⟨s0_b, 0, none⟩)), (.int .i64 5)] (by kernel_rfl) (by kernel_rfl) (fun w hm => spec_l00Src_pick.calls (⟨s0.fcode, i_3, i_4⟩ : Gl00Src) 5 w _ s0_fcode_a s0.fcode.length s0_fcode_c (hm.exRowW s0_fcode_h s0_fcode_ha) rfl s0_b (hm.pass (N := [⟨some s0_b, 101, [(.slice s0_fcode_a s0.fcode.length s0_fcode_c), (.int .i64 i_3), (.int .u64 i_4)]⟩]) [0] (by kernel_rfl) (by kernel_rfl)) (hm.exApart (N := [⟨some s0_b, 101, [(.slice s0_fcode_a s0.fcode.length s0_fcode_c), (.int .i64 i_3), (.int .u64 i_4)]⟩]) s0_fcode_h s0_fcode_ha [0] (by kernel_rfl)) ht_301) ?_)
    rintro w v w' hm ⟨rfl, hm'⟩
    refine ⟨_, hm.appW (ps := [(0, ⟨some s0_b, 101, [(.slice s0_fcode_a s0.fcode.length s0_fcode_c), (.int .i64 t_7.2.fat), (.int .u64 t_7.2.fseed)]⟩)]) (N := []) hm' (by kernel_rfl) (by kernel_rfl), jkO ?_⟩
    clear hm hm'
    refine jo_f [(0, 0)] (by kernel_rfl) ?_
    refine jo_end (by kernel_rfl) ?_
    refine jx_then ?_
    refine jc_meet (fun (j : (List GNote) × Int × Int × (Option Nat) × Nat × (List Value) × Nat) => match j with | ⟨xs_8, i_9, i_10, o_357, cap_358, sp_359, n_360⟩ => spec_l07Short.k_11 s0 t_1 xs_5 xs_8 i_9 i_10 = some r ∧ (xs_8.length = n_360) ∧ ((o_357 ≠ none → n_360 ≤ cap_358 ∧ sp_359.length = (cap_358 - n_360) * 2)) ∧ ((o_357 = none → xs_8 = [] ∧ cap_358 = 0))) (fun (j : (List GNote) × Int × Int × (Option Nat) × Nat × (List Value) × Nat) => match j with | ⟨xs_8, i_9, i_10, o_357, cap_358, sp_359, n_360⟩ => [(2, [], (.pointer (some ⟨b_1, 0, none⟩))), (3, [], (.slice none 0 0)), (4, [], (.pointer (some ⟨b_3, 0, none⟩))), (7, [], (.slice (o_357.map fun b => ⟨b, 0, none⟩) n_360 cap_358))]) (fun (j : (List GNote) × Int × Int × (Option Nat) × Nat × (List Value) × Nat) => match j with | ⟨xs_8, i_9, i_10, o_357, cap_358, sp_359, n_360⟩ => [⟨some s0_b, 101, [(.slice s0_fcode_a s0.fcode.length s0_fcode_c), (.int .i64 i_9), (.int .u64 i_10)]⟩, ⟨some b_1, 27, [(.int .i16 0), (.slice none 0 0)]⟩, ⟨some b_3, 27, [(.int .i16 (w16 (w64 (6 + t_1.1)))), (.slice (o_177.map fun b => ⟨b, 0, none⟩) xs_5.length cap_178)]⟩, ⟨o_177, 63, row encGHammer xs_5 sp_179⟩, ⟨o_357, 56, row encGNote xs_8 sp_359⟩]) ?_ ?_
    · refine jc_block ?_
      obtain ⟨t_18, ht_429, hr_413⟩ := bd h
      refine jc_loop (fun (s : (List GNote) × Int × Int × Int) (x : (Option Nat) × Nat × (List Value) × Nat) => match s, x with | ⟨xs_13, i_14, i_15, i_16⟩, ⟨o_407, cap_408, sp_409, n_410⟩ => (xs_13.length = n_410) ∧ ((o_407 ≠ none → n_410 ≤ cap_408 ∧ sp_409.length = (cap_408 - n_410) * 2)) ∧ ((o_407 = none → xs_13 = [] ∧ cap_408 = 0))) (fun (s : (List GNote) × Int × Int × Int) (x : (Option Nat) × Nat × (List Value) × Nat) => match s, x with | ⟨xs_13, i_14, i_15, i_16⟩, ⟨o_407, cap_408, sp_409, n_410⟩ => [(0, [], (.pointer (some ⟨s0_b, 0, none⟩))), (2, [], (.pointer (some ⟨b_1, 0, none⟩))), (3, [], (.slice none 0 0)), (4, [], (.pointer (some ⟨b_3, 0, none⟩))), (7, [], (.slice (o_407.map fun b => ⟨b, 0, none⟩) n_410 cap_408)), (8, [], (.int .i64 i_16))]) (fun (s : (List GNote) × Int × Int × Int) (x : (Option Nat) × Nat × (List Value) × Nat) => match s, x with | ⟨xs_13, i_14, i_15, i_16⟩, ⟨o_407, cap_408, sp_409, n_410⟩ => [⟨some s0_b, 101, [(.slice s0_fcode_a s0.fcode.length s0_fcode_c), (.int .i64 i_14), (.int .u64 i_15)]⟩, ⟨some b_1, 27, [(.int .i16 0), (.slice none 0 0)]⟩, ⟨some b_3, 27, [(.int .i16 (w16 (w64 (6 + t_1.1)))), (.slice (o_177.map fun b => ⟨b, 0, none⟩) xs_5.length cap_178)]⟩, ⟨o_177, 63, row encGHammer xs_5 sp_179⟩, ⟨o_407, 56, row encGNote xs_13 sp_409⟩]) ht_429 ⟨(some b_183), 0, [], 0⟩ ⟨rfl, (fun _ => ⟨Nat.le_refl _, by simp⟩), (fun e => nomatch e)⟩ (by kernel_rfl) [0, 1, 2, 3, 4] (by kernel_rfl) (by kernel_rfl) ?_
      rintro ⟨xs_13, i_14, i_15, i_16⟩ ⟨o_407, cap_408, sp_409, n_410⟩ y_414 ⟨rfl, hs_411, ho_412⟩ h
      rw [spec_l07Short.l_17] at h
      refine jc_seq ?_
      refine jc_seq ?_
      refine jc_region ?_
      refine jo_f [(0, 0), (0, 0)] (by kernel_rfl) ?_
      refine jo_end (by kernel_rfl) ?_
      refine jx_then ?_
      refine jc_cond (decide (i_16 > 0)) (by kernel_rfl) (fun hc_416 => ?_) (fun hc_416 => ?_)
      · replace h := ifT hc_416 h
        refine jc_skip ?_
        refine jx_then ?_
        refine jc_seq ?_
        refine jc_block ?_
        refine jc_seq ?_
        refine jc_region ?_
        refine jo_f [(0, 0), (0, 0), (2, 0), (0, 0)] (by kernel_rfl) ?_
        obtain ⟨t_19, ht_417, h⟩ := bd h
        refine toO (by kernel_rfl) (p_call 0 27 #[(.pointer (some ⟨s0_b, 0, none⟩)), (.int .i64 (w64 (w16 (w64 (6 + t_1.1)))))] (by kernel_rfl) (by kernel_rfl) (fun w hm => spec_l00Src_pick.calls (⟨s0.fcode, i_14, i_15⟩ : Gl00Src) (w64 (w16 (w64 (6 + t_1.1)))) w _ s0_fcode_a s0.fcode.length s0_fcode_c (hm.exRowW s0_fcode_h s0_fcode_ha) rfl s0_b (hm.pass (N := [⟨some s0_b, 101, [(.slice s0_fcode_a s0.fcode.length s0_fcode_c), (.int .i64 i_14), (.int .u64 i_15)]⟩]) [0] (by kernel_rfl) (by kernel_rfl)) (hm.exApart (N := [⟨some s0_b, 101, [(.slice s0_fcode_a s0.fcode.length s0_fcode_c), (.int .i64 i_14), (.int .u64 i_15)]⟩]) s0_fcode_h s0_fcode_ha [0] (by kernel_rfl)) ht_417) ?_)
        rintro w v w' hm ⟨rfl, hm'⟩
        refine ⟨_, hm.appW (ps := [(0, ⟨some s0_b, 101, [(.slice s0_fcode_a s0.fcode.length s0_fcode_c), (.int .i64 t_19.2.fat), (.int .u64 t_19.2.fseed)]⟩)]) (N := []) hm' (by kernel_rfl) (by kernel_rfl), jkO ?_⟩
        clear hm hm'
        refine jo_f [(0, 0), (0, 0)] (by kernel_rfl) ?_
        refine toO (by kernel_rfl) (p_a 0 [0] (by kernel_rfl) (fun b => by kernel_rfl) (fun b_418 => jkO ?_))
        refine toO (by kernel_rfl) (p_s 0 [5] (by kernel_rfl) (by kernel_rfl) (jkO ?_))
        refine jo_end (by kernel_rfl) ?_
        refine jx_then ?_
        refine jc_seq ?_
        refine jc_region ?_
        refine jo_f [(0, 0)] (by kernel_rfl) ?_
        refine toO (by kernel_rfl) (p_a 0 [0] (by kernel_rfl) (fun b => by kernel_rfl) (fun b_419 => jkO ?_))
        obtain ⟨t_20, ht_420, h⟩ := bd h
        refine toO (by kernel_rfl) (p_call 0 51 #[(.pointer (some ⟨s0_b, 0, none⟩)), (.slice (some ⟨b_419, 0, none⟩) 6 6)] (by kernel_rfl) (by kernel_rfl) (fun w hm => spec_l00Src_among.calls (⟨s0.fcode, t_19.2.fat, t_19.2.fseed⟩ : Gl00Src) [22, 23, 24, 34, 35, 12] w _ s0_fcode_a s0.fcode.length s0_fcode_c (hm.exRowW s0_fcode_h s0_fcode_ha) rfl (some ⟨b_419, 0, none⟩) 6 6 (hm.ownRow (hh := 6) (o := (some b_419)) (T := 2) (enc := encI64) (xs := [22, 23, 24, 34, 35, 12]) (sp := []) (by kernel_rfl) (fun e => nomatch e) encI64_len) rfl s0_b (hm.pass (N := [⟨some s0_b, 101, [(.slice s0_fcode_a s0.fcode.length s0_fcode_c), (.int .i64 t_19.2.fat), (.int .u64 t_19.2.fseed)]⟩]) [0] (by kernel_rfl) (by kernel_rfl)) (hm.exApart (N := [⟨some s0_b, 101, [(.slice s0_fcode_a s0.fcode.length s0_fcode_c), (.int .i64 t_19.2.fat), (.int .u64 t_19.2.fseed)]⟩]) s0_fcode_h s0_fcode_ha [0] (by kernel_rfl)) (hm.ownApart (S := Int) (N := [⟨some s0_b, 101, [(.slice s0_fcode_a s0.fcode.length s0_fcode_c), (.int .i64 t_19.2.fat), (.int .u64 t_19.2.fseed)]⟩]) (hh := 6) (o := (some b_419)) (T := 2) (cs := row encI64 [22, 23, 24, 34, 35, 12] []) (xs := [22, 23, 24, 34, 35, 12]) (by kernel_rfl) (fun e => nomatch e) [0] (by kernel_rfl) (by kernel_rfl)) ht_420) ?_)
        rintro w v w' hm ⟨rfl, hm'⟩
        refine ⟨_, hm.appW (ps := [(0, ⟨some s0_b, 101, [(.slice s0_fcode_a s0.fcode.length s0_fcode_c), (.int .i64 t_20.2.fat), (.int .u64 t_20.2.fseed)]⟩)]) (N := []) hm' (by kernel_rfl) (by kernel_rfl), jkO ?_⟩
        clear hm hm'
        refine jo_f [(0, 0), (0, 0)] (by kernel_rfl) ?_
        refine toO (by kernel_rfl) (p_s 0 [5] (by kernel_rfl) (by kernel_rfl) (jkO ?_))
        refine jo_end (by kernel_rfl) ?_
        refine jx_then ?_
        refine jc_region ?_
        refine jo_f [(0, 0), (5, 0)] (by kernel_rfl) ?_
        refine toO (by kernel_rfl) (p_a 0 [0] (by kernel_rfl) (fun b => by kernel_rfl) (fun b_421 => jkO ?_))
        obtain ⟨hg_422, h⟩ := gd h
        refine toO (by kernel_rfl) (p_apn 0 4 o_407 56 xs_13.length 1 cap_408 2 4 (some ⟨b_421, 0, none⟩) encGNote xs_13 [(⟨(w16 t_19.1), (w8 t_20.1)⟩ : GNote)] sp_409 (.agg #[(.int .i16 0), (.int .i8 0)]) rfl rfl (by kernel_rfl) (by kernel_rfl) (by kernel_rfl) encGNote_len encGNote_cell hs_411 ho_412 (fun w hm => (hm.ownRow (hh := 7) (o := (some b_421)) (T := 56) (enc := encGNote) (xs := [(⟨(w16 t_19.1), (w8 t_20.1)⟩ : GNote)]) (sp := []) (by kernel_rfl) (fun e => nomatch e) encGNote_len)) hg_422 (by kernel_rfl) (by kernel_rfl) (fun o_423 cap_424 sp_425 hs_426 ho_427 => jkO ?_))
        refine jo_f [(0, 0)] (by kernel_rfl) ?_
        refine jo_end (by kernel_rfl) ?_
        refine jx_inn ?_
        refine jx_then ?_
        refine jc_region ?_
        refine jo_f [(0, 0), (0, 0), (0, 0)] (by kernel_rfl) ?_
        refine jo_end (by kernel_rfl) ?_
        exact jx_back ((xs_13 ++ [(⟨(w16 t_19.1), (w8 t_20.1)⟩ : GNote)]), t_20.2.fat, t_20.2.fseed, (w64 (i_16 - 1))) ⟨o_423, cap_424, sp_425, (xs_13 ++ [(⟨(w16 t_19.1), (w8 t_20.1)⟩ : GNote)]).length⟩ (Option.some.inj h).symm ⟨rfl, hs_426, ho_427⟩ [0, 1, 2, 3, 4] (by kernel_rfl) (by kernel_rfl) (by kernel_rfl)
      · replace h := ifF hc_416 h
        refine jc_exit ?_
        refine jx_thenx ?_
        refine jx_leave (xs_13, i_14, i_15) (Option.some.inj h).symm (fun e_428 => ?_)
        subst e_428
        refine jx_ine ?_
        exact jx_meet ⟨xs_13, i_14, i_15, o_407, cap_408, sp_409, xs_13.length⟩ ⟨hr_413, rfl, hs_411, ho_412⟩ (by kernel_rfl) [0, 1, 2, 3, 4] (by kernel_rfl) (by kernel_rfl)
    · rintro ⟨xs_8, i_9, i_10, o_357, cap_358, sp_359, n_360⟩ ⟨h, rfl, hs_361, ho_362⟩
      replace h : spec_l07Short.k_11 s0 t_1 xs_5 xs_8 i_9 i_10 = some r := h
      rw [spec_l07Short.k_11] at h
      refine jx_then ?_
      refine jc_seq ?_
      refine jc_draw [⟨some s0_b, 101, [(.slice s0_fcode_a s0.fcode.length s0_fcode_c), (.int .i64 i_9), (.int .u64 i_10)]⟩, ⟨some b_3, 27, [(.int .i16 (w16 (w64 (6 + t_1.1)))), (.slice (o_177.map fun b => ⟨b, 0, none⟩) xs_5.length cap_178)]⟩, ⟨o_177, 63, row encGHammer xs_5 sp_179⟩, ⟨o_357, 56, row encGNote xs_8 sp_359⟩] 5 (by kernel_rfl) (by kernel_rfl) ?_
      refine jd_f [⟨0, 1, 0⟩, ⟨1, 0, 0⟩] 3 (by kernel_rfl) (by kernel_rfl) (fun w h => h.pick [0, 2, 3, 4] (by kernel_rfl) (by kernel_rfl)) (by kernel_rfl) (by kernel_rfl) ?_
      obtain ⟨t_12, ht_369, h⟩ := bd h
      refine toD 2 (by kernel_rfl) (p_call 0 52 #[(.slice (o_357.map fun b => ⟨b, 0, none⟩) xs_8.length cap_358)] (by kernel_rfl) (by kernel_rfl) (fun w hm => spec_l01Sorted.calls xs_8 w _ (o_357.map fun b => ⟨b, 0, none⟩) xs_8.length cap_358 (hm.ownRow (hh := 4) (o := o_357) (T := 56) (enc := encGNote) (xs := xs_8) (sp := sp_359) (by kernel_rfl) (fun e => (ho_362 e).1) encGNote_len) rfl ht_369) ?_)
      rintro w v w' hm ⟨o_370, cap_371, sp_372, _, rfl, hs_373, ho_374, rfl, hm'⟩
      refine ⟨_, hm.app hm', jkD (fun w h => h.pick [0, 2, 3, 4] (by kernel_rfl) (by kernel_rfl)) ?_⟩
      clear hm hm'
      refine toD 3 (by kernel_rfl) (p_s 0 [1] (by kernel_rfl) (by kernel_rfl) (jkD (fun w h => h.pick [0, 2, 3, 4] (by kernel_rfl) (by kernel_rfl)) ?_))
      refine jd_f [⟨4, 0, 0⟩] 0 (by kernel_rfl) (by kernel_rfl) (fun w h => h.pick [0, 2, 3, 4] (by kernel_rfl) (by kernel_rfl)) (by kernel_rfl) (by kernel_rfl) ?_
      refine jd_end (by kernel_rfl) ?_
      refine jx_then ?_
      refine jc_ret ?_
      obtain rfl := Option.some.inj h
      exact jx_ret [1] (.tuple #[(.agg #[(.int .i16 (w16 (w64 (6 + t_1.1)))), (.slice (o_177.map fun b => ⟨b, 0, none⟩) xs_5.length cap_178)]), (.slice (o_370.map fun b => ⟨b, 0, none⟩) t_12.length cap_371)]) [(b_1, b_1), (b_1, b_1)] rfl (by kernel_rfl) (by kernel_rfl) (fun w hm => ⟨o_177, cap_178, sp_179, xs_5.length, rfl, hs_181, ho_182, o_370, cap_371, sp_372, t_12.length, rfl, hs_373, ho_374, rfl, hm.pick [0, 3, 5] (by kernel_rfl) (by kernel_rfl)⟩)

/-! ### spec.A2Short -/
noncomputable def spec_A2Short (code0 : List Int) : Option (GFrame × (List GNote)) := (spec_l00From code0).bind fun t_1 => (spec_l07Short (⟨code0, t_1.fat, t_1.fseed⟩ : Gl00Src)).bind fun t_2 => some (t_2.1, t_2.2.1)
set_option maxRecDepth 100000 in
theorem spec_A2Short.calls (code0 : List Int) (w : World) (r : GFrame × (List GNote)) (code0_a : Option Addr) (code0_an : Nat) (code0_c : Nat) (code0_h : Rw w code0_a 1 encU8 code0) (code0_hn : code0.length = code0_an) (h : spec_A2Short code0 = some r) :
    Calls Tryz.prog 5 #[(.slice code0_a code0_an code0_c)] w fun e w' => ∃ v, e = .returned v ∧ (∃ (o0 : Option Nat) (c0 : Nat) (s0 : List Value) (n0 : Nat), r.1.fHammers.length = n0 ∧ (o0 ≠ none → n0 ≤ c0 ∧ s0.length = (c0 - n0) * 2) ∧ (o0 = none → r.1.fHammers = [] ∧ c0 = 0) ∧ ∃ (o1 : Option Nat) (c1 : Nat) (s1 : List Value) (n1 : Nat), r.2.length = n1 ∧ (o1 ≠ none → n1 ≤ c1 ∧ s1.length = (c1 - n1) * 2) ∧ (o1 = none → r.2 = [] ∧ c1 = 0) ∧ v = .tuple #[.agg #[(.int .i16 r.1.fSteps), .slice (o0.map fun b => ⟨b, 0, none⟩) n0 c0], .slice (o1.map fun b => ⟨b, 0, none⟩) n1 c1] ∧ Mem w [] [⟨o0, 63, row encGHammer r.1.fHammers s0⟩, ⟨o1, 56, row encGNote r.2 s1⟩] w') := by
  subst code0_hn
  rw [spec_A2Short] at h
  refine enter (args := [(.slice code0_a code0.length code0_c)]) Tryz.func5 rfl Tryz.ntmps5 (by kernel_rfl) (L := []) (W := []) (Mem.start w) ?_
  refine jc_seq ?_
  refine jc_region ?_
  refine toO (by kernel_rfl) (p_a 0 [0] (by kernel_rfl) (fun b => by kernel_rfl) (fun b_1 => jkO ?_))
  refine jo_f [(0, 0)] (by kernel_rfl) ?_
  refine jo_end (by kernel_rfl) ?_
  refine jx_then ?_
  refine jc_seq ?_
  refine jc_region ?_
  refine jo_f [(0, 0)] (by kernel_rfl) ?_
  obtain ⟨t_1, ht_2, h⟩ := bd h
  refine toO (by kernel_rfl) (p_call 0 25 #[(.slice code0_a code0.length code0_c)] (by kernel_rfl) (by kernel_rfl) (fun w hm => spec_l00From.calls code0 w _ code0_a code0.length code0_c (hm.exRow code0_h List.not_mem_nil) rfl ht_2) ?_)
  rintro w v w' hm ⟨b_3, rfl, hm'⟩
  refine ⟨_, hm.app hm', jkO ?_⟩
  clear hm hm'
  obtain ⟨t_2, ht_4, h⟩ := bd h
  refine toO (by kernel_rfl) (p_call 0 24 #[(.pointer (some ⟨b_3, 0, none⟩))] (by kernel_rfl) (by kernel_rfl) (fun w hm => spec_l07Short.calls (⟨code0, t_1.fat, t_1.fseed⟩ : Gl00Src) w _ code0_a code0.length code0_c (hm.exRow code0_h List.not_mem_nil) rfl b_3 (hm.pass (N := [⟨some b_3, 101, [(.slice code0_a code0.length code0_c), (.int .i64 t_1.fat), (.int .u64 t_1.fseed)]⟩]) [1] (by kernel_rfl) (by kernel_rfl)) (hm.exApart (N := [⟨some b_3, 101, [(.slice code0_a code0.length code0_c), (.int .i64 t_1.fat), (.int .u64 t_1.fseed)]⟩]) code0_h (fun _ => List.not_mem_nil) [1] (by kernel_rfl)) ht_4) ?_)
  rintro w v w' hm ⟨o_5, cap_6, sp_7, _, rfl, hs_8, ho_9, o_10, cap_11, sp_12, _, rfl, hs_13, ho_14, rfl, hm'⟩
  refine ⟨_, hm.appW (ps := [(1, ⟨some b_3, 101, [(.slice code0_a code0.length code0_c), (.int .i64 t_2.2.2.fat), (.int .u64 t_2.2.2.fseed)]⟩)]) (N := [⟨o_5, 63, row encGHammer t_2.1.fHammers sp_7⟩, ⟨o_10, 56, row encGNote t_2.2.1 sp_12⟩]) hm' (by kernel_rfl) (by kernel_rfl), jkO ?_⟩
  clear hm hm'
  refine jo_f [(0, 0), (0, 0)] (by kernel_rfl) ?_
  refine toO (by kernel_rfl) (p_s 0 [0] (by kernel_rfl) (by kernel_rfl) (jkO ?_))
  refine jo_f [(0, 0)] (by kernel_rfl) ?_
  refine jo_end (by kernel_rfl) ?_
  refine jx_then ?_
  refine jc_ret ?_
  obtain rfl := Option.some.inj h
  exact jx_ret [0] (.tuple #[(.agg #[(.int .i16 t_2.1.fSteps), (.slice (o_5.map fun b => ⟨b, 0, none⟩) t_2.1.fHammers.length cap_6)]), (.slice (o_10.map fun b => ⟨b, 0, none⟩) t_2.2.1.length cap_11)]) [(b_1, b_1), (b_1, b_1)] rfl (by kernel_rfl) (by kernel_rfl) (fun w hm => ⟨o_5, cap_6, sp_7, t_2.1.fHammers.length, rfl, hs_8, ho_9, o_10, cap_11, sp_12, t_2.2.1.length, rfl, hs_13, ho_14, rfl, hm.pick [2, 3] (by kernel_rfl) (by kernel_rfl)⟩)

/-! ### spec.l07Signed -/
noncomputable def spec_l07Signed.k_2 (xs_1 : List Int) : Option ((List Int)) := some xs_1
noncomputable def spec_l07Signed.l_5 (most0 : Int) : ((List Int) × Int) → Option (((List Int) × Int) ⊕ ((List Int)))
  | (xs_3, i_4) => (if (decide (i_4 ≤ most0)) = true then (if xs_3.length + [(w8 (0 - i_4)), i_4].length ≤ 4294967296 then some (.inl ((xs_3 ++ [(w8 (0 - i_4)), i_4]), (w8 (i_4 + 1)))) else none) else some (.inr xs_3))
noncomputable def spec_l07Signed (most0 : Int) : Option ((List Int)) := (loop (spec_l07Signed.l_5 most0) ([0], 1)).bind fun t_6 => spec_l07Signed.k_2 t_6
set_option maxRecDepth 100000 in
theorem spec_l07Signed.calls (most0 : Int) (w : World) (r : (List Int)) (h : spec_l07Signed most0 = some r) :
    Calls Tryz.prog 53 #[(.int .i8 most0)] w fun e w' => ∃ v, e = .returned v ∧ (∃ (o0 : Option Nat) (c0 : Nat) (s0 : List Value) (n0 : Nat), r.length = n0 ∧ (o0 ≠ none → n0 ≤ c0 ∧ s0.length = (c0 - n0) * 1) ∧ (o0 = none → r = [] ∧ c0 = 0) ∧ v = .slice (o0.map fun b => ⟨b, 0, none⟩) n0 c0 ∧ Mem w [] [⟨o0, 54, row encI8 r s0⟩] w') := by
  rw [spec_l07Signed] at h
  refine enter (args := [(.int .i8 most0)]) Tryz.func53 rfl Tryz.ntmps53 (by kernel_rfl) (L := []) (W := []) (Mem.start w) ?_
  refine jc_seq ?_
  refine jc_region ?_
  refine jo_f [(0, 0)] (by kernel_rfl) ?_
  refine jo_end (by kernel_rfl) ?_
  refine jx_then ?_
  refine jc_seq ?_
  refine jc_region ?_
  refine toO (by kernel_rfl) (p_a 0 [0] (by kernel_rfl) (fun b => by kernel_rfl) (fun b_1 => jkO ?_))
  refine jo_f [(0, 0)] (by kernel_rfl) ?_
  refine jo_end (by kernel_rfl) ?_
  refine jx_then ?_
  refine jc_seq ?_
  refine jc_seq ?_
  refine jc_region ?_
  refine jo_f [(0, 0)] (by kernel_rfl) ?_
  refine jo_end (by kernel_rfl) ?_
  refine jx_then ?_
  refine jc_meet (fun (j : (List Int) × (Option Nat) × Nat × (List Value) × Nat) => match j with | ⟨xs_1, o_137, cap_138, sp_139, n_140⟩ => spec_l07Signed.k_2 xs_1 = some r ∧ (xs_1.length = n_140) ∧ ((o_137 ≠ none → n_140 ≤ cap_138 ∧ sp_139.length = (cap_138 - n_140) * 1)) ∧ ((o_137 = none → xs_1 = [] ∧ cap_138 = 0))) (fun (j : (List Int) × (Option Nat) × Nat × (List Value) × Nat) => match j with | ⟨xs_1, o_137, cap_138, sp_139, n_140⟩ => [(2, [], (.slice none 0 0)), (3, [], (.slice (o_137.map fun b => ⟨b, 0, none⟩) n_140 cap_138))]) (fun (j : (List Int) × (Option Nat) × Nat × (List Value) × Nat) => match j with | ⟨xs_1, o_137, cap_138, sp_139, n_140⟩ => [⟨o_137, 54, row encI8 xs_1 sp_139⟩]) ?_ ?_
  · refine jc_block ?_
    obtain ⟨t_6, ht_185, hr_173⟩ := bd h
    refine jc_loop (fun (s : (List Int) × Int) (x : (Option Nat) × Nat × (List Value) × Nat) => match s, x with | ⟨xs_3, i_4⟩, ⟨o_167, cap_168, sp_169, n_170⟩ => (xs_3.length = n_170) ∧ ((o_167 ≠ none → n_170 ≤ cap_168 ∧ sp_169.length = (cap_168 - n_170) * 1)) ∧ ((o_167 = none → xs_3 = [] ∧ cap_168 = 0))) (fun (s : (List Int) × Int) (x : (Option Nat) × Nat × (List Value) × Nat) => match s, x with | ⟨xs_3, i_4⟩, ⟨o_167, cap_168, sp_169, n_170⟩ => [(0, [], (.int .i8 most0)), (2, [], (.slice none 0 0)), (3, [], (.slice (o_167.map fun b => ⟨b, 0, none⟩) n_170 cap_168)), (4, [], (.int .i8 i_4))]) (fun (s : (List Int) × Int) (x : (Option Nat) × Nat × (List Value) × Nat) => match s, x with | ⟨xs_3, i_4⟩, ⟨o_167, cap_168, sp_169, n_170⟩ => [⟨o_167, 54, row encI8 xs_3 sp_169⟩]) ht_185 ⟨(some b_1), 1, [], 1⟩ ⟨rfl, (fun _ => ⟨Nat.le_refl _, by simp⟩), (fun e => nomatch e)⟩ (by kernel_rfl) [0] (by kernel_rfl) (by kernel_rfl) ?_
    rintro ⟨xs_3, i_4⟩ ⟨o_167, cap_168, sp_169, n_170⟩ y_174 ⟨rfl, hs_171, ho_172⟩ h
    rw [spec_l07Signed.l_5] at h
    refine jc_seq ?_
    refine jc_seq ?_
    refine jc_region ?_
    refine jo_f [(0, 0), (0, 0), (0, 0)] (by kernel_rfl) ?_
    refine jo_end (by kernel_rfl) ?_
    refine jx_then ?_
    refine jc_cond (decide (i_4 ≤ most0)) (by kernel_rfl) (fun hc_176 => ?_) (fun hc_176 => ?_)
    · replace h := ifT hc_176 h
      refine jc_skip ?_
      refine jx_then ?_
      refine jc_seq ?_
      refine jc_block ?_
      refine jc_region ?_
      refine jo_f [(0, 0), (0, 0), (0, 0), (0, 0)] (by kernel_rfl) ?_
      refine toO (by kernel_rfl) (p_a 0 [0] (by kernel_rfl) (fun b => by kernel_rfl) (fun b_177 => jkO ?_))
      obtain ⟨hg_178, h⟩ := gd h
      refine toO (by kernel_rfl) (p_apn 0 0 o_167 54 xs_3.length 2 cap_168 1 1 (some ⟨b_177, 0, none⟩) encI8 xs_3 [(w8 (0 - i_4)), i_4] sp_169 (.int .i8 0) rfl rfl (by kernel_rfl) (by kernel_rfl) (by kernel_rfl) encI8_len encI8_cell hs_171 ho_172 (fun w hm => (hm.ownRow (hh := 1) (o := (some b_177)) (T := 54) (enc := encI8) (xs := [(w8 (0 - i_4)), i_4]) (sp := []) (by kernel_rfl) (fun e => nomatch e) encI8_len)) hg_178 (by kernel_rfl) (by kernel_rfl) (fun o_179 cap_180 sp_181 hs_182 ho_183 => jkO ?_))
      refine jo_f [(0, 0)] (by kernel_rfl) ?_
      refine jo_end (by kernel_rfl) ?_
      refine jx_inn ?_
      refine jx_then ?_
      refine jc_region ?_
      refine jo_f [(0, 0), (0, 0), (0, 0)] (by kernel_rfl) ?_
      refine jo_end (by kernel_rfl) ?_
      exact jx_back ((xs_3 ++ [(w8 (0 - i_4)), i_4]), (w8 (i_4 + 1))) ⟨o_179, cap_180, sp_181, (xs_3 ++ [(w8 (0 - i_4)), i_4]).length⟩ (Option.some.inj h).symm ⟨rfl, hs_182, ho_183⟩ [0] (by kernel_rfl) (by kernel_rfl) (by kernel_rfl)
    · replace h := ifF hc_176 h
      refine jc_exit ?_
      refine jx_thenx ?_
      refine jx_leave xs_3 (Option.some.inj h).symm (fun e_184 => ?_)
      subst e_184
      refine jx_ine ?_
      exact jx_meet ⟨xs_3, o_167, cap_168, sp_169, xs_3.length⟩ ⟨hr_173, rfl, hs_171, ho_172⟩ (by kernel_rfl) [0] (by kernel_rfl) (by kernel_rfl)
  · rintro ⟨xs_1, o_137, cap_138, sp_139, n_140⟩ ⟨h, rfl, hs_141, ho_142⟩
    replace h : spec_l07Signed.k_2 xs_1 = some r := h
    rw [spec_l07Signed.k_2] at h
    refine jx_then ?_
    refine jc_seq ?_
    refine jc_region ?_
    refine jo_f [(0, 0), (0, 0)] (by kernel_rfl) ?_
    refine jo_end (by kernel_rfl) ?_
    refine jx_then ?_
    refine jc_ret ?_
    obtain rfl := Option.some.inj h
    exact jx_ret [] (.slice (o_137.map fun b => ⟨b, 0, none⟩) xs_1.length cap_138) [] rfl (by kernel_rfl) (by kernel_rfl) (fun w hm => ⟨o_137, cap_138, sp_139, xs_1.length, rfl, hs_141, ho_142, rfl, hm.pick [0] (by kernel_rfl) (by kernel_rfl)⟩)

/-! ### spec.l00In -/
noncomputable def spec_l00In (n0 : Int) (low1 : Int) (high2 : Int) : Option (Bool) := some ((decide (n0 ≥ low1)) && (decide (n0 ≤ high2)))
set_option maxRecDepth 100000 in
theorem spec_l00In.calls (n0 : Int) (low1 : Int) (high2 : Int) (w : World) (r : Bool) (h : spec_l00In n0 low1 high2 = some r) :
    Calls Tryz.prog 54 #[(.int .i64 n0), (.int .i64 low1), (.int .i64 high2)] w fun e w' => ∃ v, e = .returned v ∧ (v = (.bool r) ∧ Mem w [] [] w') := by
  rw [spec_l00In] at h
  refine enter (args := [(.int .i64 n0), (.int .i64 low1), (.int .i64 high2)]) Tryz.func54 rfl Tryz.ntmps54 (by kernel_rfl) (L := []) (W := []) (Mem.start w) ?_
  refine jc_seq ?_
  refine jc_region ?_
  refine jo_f [(0, 0)] (by kernel_rfl) ?_
  refine jo_end (by kernel_rfl) ?_
  refine jx_then ?_
  refine jc_seq ?_
  refine jc_region ?_
  refine jo_f [(0, 0), (0, 0), (0, 0), (0, 0), (0, 1), (0, 1), (0, 1), (0, 0), (0, 0)] (by kernel_rfl) ?_
  refine jo_end (by kernel_rfl) ?_
  refine jx_then ?_
  refine jc_ret ?_
  obtain rfl := Option.some.inj h
  exact jx_ret [] (.bool ((decide (n0 ≥ low1)) && (decide (n0 ≤ high2)))) [] rfl (by kernel_rfl) (by kernel_rfl) (fun w hm => ⟨rfl, hm.pick [] (by kernel_rfl) (by kernel_rfl)⟩)

/-! ### spec.l07For -/
noncomputable def spec_l07For.k_4 (xs_3 : List GChoice) : Option ((List GChoice)) := (if xs_3.length + [(⟨true, 0, 0, 0⟩ : GChoice)].length ≤ 4294967296 then some (xs_3 ++ [(⟨true, 0, 0, 0⟩ : GChoice)]) else none)
noncomputable def spec_l07For.k_12 (i_6 : Int) (xs_11 : List GChoice) : Option (((List GChoice) × Int) ⊕ ((List GChoice))) := some (.inl (xs_11, (w64 (i_6 + 1))))
noncomputable def spec_l07For.k_18 (i_14 : Int) (xs_17 : List GChoice) : Option (((List GChoice) × Int) ⊕ ((List GChoice))) := some (.inl (xs_17, (w64 (i_14 + 1))))
noncomputable def spec_l07For.l_21 (f0 : GFrame) (n1 : GNote) (t_1 : (List Int)) (t_2 : (List Int)) (i_6 : Int) (i_14 : Int) : ((List GChoice) × Int) → Option (((List GChoice) × Int) ⊕ ((List GChoice)))
  | (xs_19, i_20) => (if (decide (i_20 < (f0.fHammers.length : Int))) = true then (ix f0.fHammers i_20).bind fun x_23 => (ix t_2 i_14).bind fun x_24 => (if (x_23.fPitch == (w8 (n1.fPitch + (w8 (12 * x_24))))) = true then (ix t_1 i_6).bind fun x_25 => (ix t_2 i_14).bind fun x_26 => (if xs_19.length + [(⟨false, x_25, x_26, (w8 i_20)⟩ : GChoice)].length ≤ 4294967296 then some (.inl ((xs_19 ++ [(⟨false, x_25, x_26, (w8 i_20)⟩ : GChoice)]), (w64 (i_20 + 1)))) else none) else some (.inl (xs_19, (w64 (i_20 + 1))))) else some (.inr xs_19))
noncomputable def spec_l07For.l_15 (f0 : GFrame) (n1 : GNote) (t_1 : (List Int)) (t_2 : (List Int)) (i_6 : Int) : ((List GChoice) × Int) → Option (((List GChoice) × Int) ⊕ ((List GChoice)))
  | (xs_13, i_14) => (if (decide (i_14 < (t_2.length : Int))) = true then (loop (spec_l07For.l_21 f0 n1 t_1 t_2 i_6 i_14) (xs_13, 0)).bind fun t_22 => spec_l07For.k_18 i_14 t_22 else some (.inr xs_13))
noncomputable def spec_l07For.l_7 (f0 : GFrame) (n1 : GNote) (t_1 : (List Int)) (t_2 : (List Int)) : ((List GChoice) × Int) → Option (((List GChoice) × Int) ⊕ ((List GChoice)))
  | (xs_5, i_6) => (if (decide (i_6 < (t_1.length : Int))) = true then (ix t_1 i_6).bind fun x_9 => (spec_l00In (w64 ((w64 n1.fAt) + (w64 x_9))) 0 (w64 ((w64 f0.fSteps) - 1))).bind fun t_10 => (if (!t_10) = true then some (.inl (xs_5, (w64 (i_6 + 1)))) else (loop (spec_l07For.l_15 f0 n1 t_1 t_2 i_6) (xs_5, 0)).bind fun t_16 => spec_l07For.k_12 i_6 t_16) else some (.inr xs_5))
noncomputable def spec_l07For (f0 : GFrame) (n1 : GNote) : Option ((List GChoice)) := (spec_l07Signed 3).bind fun t_1 => (spec_l07Signed 1).bind fun t_2 => (loop (spec_l07For.l_7 f0 n1 t_1 t_2) (([] : List GChoice), 0)).bind fun t_8 => spec_l07For.k_4 t_8
set_option maxRecDepth 100000 in
theorem spec_l07For.calls (f0 : GFrame) (n1 : GNote) (w : World) (r : (List GChoice)) (f0_fHammers_a : Option Addr) (f0_fHammers_an : Nat) (f0_fHammers_c : Nat) (f0_fHammers_h : Rw w f0_fHammers_a 2 encGHammer f0.fHammers) (f0_fHammers_hn : f0.fHammers.length = f0_fHammers_an) (f0_b : Nat) (hm0 : Mem w (bs [some f0_b]) [⟨some f0_b, 27, [(.int .i16 f0.fSteps), (.slice f0_fHammers_a f0_fHammers_an f0_fHammers_c)]⟩] w) (f0_fHammers_ha : f0.fHammers ≠ [] → aB f0_fHammers_a ∉ bs [some f0_b]) (h : spec_l07For f0 n1 = some r) :
    Calls Tryz.prog 26 #[(.pointer (some ⟨f0_b, 0, none⟩)), (.agg #[(.int .i16 n1.fAt), (.int .i8 n1.fPitch)])] w fun e w' => ∃ v, e = .returned v ∧ (∃ (o0 : Option Nat) (c0 : Nat) (s0 : List Value) (n0 : Nat), r.length = n0 ∧ (o0 ≠ none → n0 ≤ c0 ∧ s0.length = (c0 - n0) * 4) ∧ (o0 = none → r = [] ∧ c0 = 0) ∧ v = .slice (o0.map fun b => ⟨b, 0, none⟩) n0 c0 ∧ Mem w (bs [some f0_b]) [⟨some f0_b, 27, [(.int .i16 f0.fSteps), (.slice f0_fHammers_a f0_fHammers_an f0_fHammers_c)]⟩, ⟨o0, 58, row encGChoice r s0⟩] w') := by
  subst f0_fHammers_hn
  rw [spec_l07For] at h
  refine enter (args := [(.pointer (some ⟨f0_b, 0, none⟩)), (.agg #[(.int .i16 n1.fAt), (.int .i8 n1.fPitch)])]) Tryz.func26 rfl Tryz.ntmps26 (by kernel_rfl) (L := [⟨some f0_b, 27, [(.int .i16 f0.fSteps), (.slice f0_fHammers_a f0.fHammers.length f0_fHammers_c)]⟩]) (W := bs [some f0_b]) hm0 ?_
  refine jc_seq ?_
  refine jc_region ?_
  refine toO (by kernel_rfl) (p_a 0 [0] (by kernel_rfl) (fun b => by kernel_rfl) (fun b_1 => jkO ?_))
  refine jo_f [(0, 0)] (by kernel_rfl) ?_
  refine jo_end (by kernel_rfl) ?_
  refine jx_then ?_
  refine jc_seq ?_
  refine jc_region ?_
  refine toO (by kernel_rfl) (p_a 0 [0] (by kernel_rfl) (fun b => by kernel_rfl) (fun b_2 => jkO ?_))
  refine jo_f [(0, 0)] (by kernel_rfl) ?_
  refine jo_end (by kernel_rfl) ?_
  refine jx_then ?_
  refine jc_seq ?_
  refine jc_region ?_
  obtain ⟨t_1, ht_3, h⟩ := bd h
  refine toO (by kernel_rfl) (p_call 0 53 #[(.int .i8 3)] (by kernel_rfl) (by kernel_rfl) (fun w hm => spec_l07Signed.calls 3 w _ ht_3) ?_)
  rintro w v w' hm ⟨o_4, cap_5, sp_6, _, rfl, hs_7, ho_8, rfl, hm'⟩
  refine ⟨_, hm.app hm', jkO ?_⟩
  clear hm hm'
  refine jo_f [(0, 0)] (by kernel_rfl) ?_
  refine jo_end (by kernel_rfl) ?_
  refine jx_then ?_
  refine jc_seq ?_
  refine jc_region ?_
  obtain ⟨t_2, ht_9, h⟩ := bd h
  refine toO (by kernel_rfl) (p_call 0 53 #[(.int .i8 1)] (by kernel_rfl) (by kernel_rfl) (fun w hm => spec_l07Signed.calls 1 w _ ht_9) ?_)
  rintro w v w' hm ⟨o_10, cap_11, sp_12, _, rfl, hs_13, ho_14, rfl, hm'⟩
  refine ⟨_, hm.app hm', jkO ?_⟩
  clear hm hm'
  refine jo_f [(0, 0)] (by kernel_rfl) ?_
  refine jo_end (by kernel_rfl) ?_
  refine jx_then ?_
  refine jc_seq ?_
  refine jc_seq ?_
  refine jc_region ?_
  refine jo_f [(0, 0)] (by kernel_rfl) ?_
  refine jo_end (by kernel_rfl) ?_
  refine jx_then ?_
  refine jc_meet (fun (j : (List GChoice) × (Option Nat) × Nat × (List Value) × Nat) => match j with | ⟨xs_3, o_8151, cap_8152, sp_8153, n_8154⟩ => spec_l07For.k_4 xs_3 = some r ∧ (xs_3.length = n_8154) ∧ ((o_8151 ≠ none → n_8154 ≤ cap_8152 ∧ sp_8153.length = (cap_8152 - n_8154) * 4)) ∧ ((o_8151 = none → xs_3 = [] ∧ cap_8152 = 0))) (fun (j : (List GChoice) × (Option Nat) × Nat × (List Value) × Nat) => match j with | ⟨xs_3, o_8151, cap_8152, sp_8153, n_8154⟩ => [(4, [], (.slice none 0 0)), (5, [], (.slice (o_8151.map fun b => ⟨b, 0, none⟩) n_8154 cap_8152))]) (fun (j : (List GChoice) × (Option Nat) × Nat × (List Value) × Nat) => match j with | ⟨xs_3, o_8151, cap_8152, sp_8153, n_8154⟩ => [⟨some f0_b, 27, [(.int .i16 f0.fSteps), (.slice f0_fHammers_a f0.fHammers.length f0_fHammers_c)]⟩, ⟨some b_1, 56, [(.int .i16 n1.fAt), (.int .i8 n1.fPitch)]⟩, ⟨o_8151, 58, row encGChoice xs_3 sp_8153⟩, ⟨o_4, 54, row encI8 t_1 sp_6⟩, ⟨o_10, 54, row encI8 t_2 sp_12⟩]) ?_ ?_
  · refine jc_block ?_
    obtain ⟨t_8, ht_10873, hr_9972⟩ := bd h
    refine jc_loop (fun (s : (List GChoice) × Int) (x : (Option Nat) × Nat × (List Value) × Nat) => match s, x with | ⟨xs_5, i_6⟩, ⟨o_9966, cap_9967, sp_9968, n_9969⟩ => (xs_5.length = n_9969) ∧ ((o_9966 ≠ none → n_9969 ≤ cap_9967 ∧ sp_9968.length = (cap_9967 - n_9969) * 4)) ∧ ((o_9966 = none → xs_5 = [] ∧ cap_9967 = 0))) (fun (s : (List GChoice) × Int) (x : (Option Nat) × Nat × (List Value) × Nat) => match s, x with | ⟨xs_5, i_6⟩, ⟨o_9966, cap_9967, sp_9968, n_9969⟩ => [(0, [], (.pointer (some ⟨f0_b, 0, none⟩))), (3, [], (.pointer (some ⟨b_1, 0, none⟩))), (4, [], (.slice none 0 0)), (5, [], (.slice (o_9966.map fun b => ⟨b, 0, none⟩) n_9969 cap_9967)), (6, [], (.slice (o_4.map fun b => ⟨b, 0, none⟩) t_1.length cap_5)), (7, [], (.slice (o_10.map fun b => ⟨b, 0, none⟩) t_2.length cap_11)), (8, [], (.int .i64 i_6))]) (fun (s : (List GChoice) × Int) (x : (Option Nat) × Nat × (List Value) × Nat) => match s, x with | ⟨xs_5, i_6⟩, ⟨o_9966, cap_9967, sp_9968, n_9969⟩ => [⟨some f0_b, 27, [(.int .i16 f0.fSteps), (.slice f0_fHammers_a f0.fHammers.length f0_fHammers_c)]⟩, ⟨some b_1, 56, [(.int .i16 n1.fAt), (.int .i8 n1.fPitch)]⟩, ⟨o_9966, 58, row encGChoice xs_5 sp_9968⟩, ⟨o_4, 54, row encI8 t_1 sp_6⟩, ⟨o_10, 54, row encI8 t_2 sp_12⟩]) ht_10873 ⟨(some b_2), 0, [], 0⟩ ⟨rfl, (fun _ => ⟨Nat.le_refl _, by simp⟩), (fun e => nomatch e)⟩ (by kernel_rfl) [0, 1, 2, 3, 4] (by kernel_rfl) (by kernel_rfl) ?_
    rintro ⟨xs_5, i_6⟩ ⟨o_9966, cap_9967, sp_9968, n_9969⟩ y_9973 ⟨rfl, hs_9970, ho_9971⟩ h
    rw [spec_l07For.l_7] at h
    refine jc_seq ?_
    refine jc_seq ?_
    refine jc_region ?_
    refine jo_f [(0, 0), (0, 0), (0, 0), (0, 0)] (by kernel_rfl) ?_
    refine jo_end (by kernel_rfl) ?_
    refine jx_then ?_
    refine jc_cond (decide (i_6 < (t_1.length : Int))) (by kernel_rfl) (fun hc_9975 => ?_) (fun hc_9975 => ?_)
    · replace h := ifT hc_9975 h
      refine jc_skip ?_
      refine jx_then ?_
      refine jc_seq ?_
      refine jc_block ?_
      refine jc_seq ?_
      refine jc_seq ?_
      refine jc_draw [⟨some f0_b, 27, [(.int .i16 f0.fSteps), (.slice f0_fHammers_a f0.fHammers.length f0_fHammers_c)]⟩, ⟨some b_1, 56, [(.int .i16 n1.fAt), (.int .i8 n1.fPitch)]⟩, ⟨o_9966, 58, row encGChoice xs_5 sp_9968⟩, ⟨o_4, 54, row encI8 t_1 sp_6⟩, ⟨o_10, 54, row encI8 t_2 sp_12⟩] 17 (by kernel_rfl) (by kernel_rfl) ?_
      refine jd_f [⟨0, 0, 0⟩, ⟨1, 1, 0⟩, ⟨2, 0, 0⟩, ⟨3, 0, 0⟩, ⟨4, 0, 0⟩, ⟨9, 0, 0⟩, ⟨10, 0, 0⟩, ⟨11, 0, 0⟩, ⟨12, 0, 0⟩, ⟨13, 0, 0⟩, ⟨14, 0, 0⟩] 6 (by kernel_rfl) (by kernel_rfl) (fun w h => h.pick [0, 1, 2, 3, 4] (by kernel_rfl) (by kernel_rfl)) (by kernel_rfl) (by kernel_rfl) ?_
      obtain ⟨x_9, hx_9979, h⟩ := bd h
      refine jd_v 5 0 (by kernel_rfl) (fun w h => h.pick [0, 1, 2, 3, 4] (by kernel_rfl) (by kernel_rfl)) (by kernel_rfl) (by kernel_rfl) _ (fun w hm => idx_run (a := (o_4.map fun b => ⟨b, 0, none⟩)) (len := t_1.length) (s := 1) (j := i_6) (by kernel_rfl) (ix_some hx_9979).1 (ltn hx_9979 rfl) (spo ho_8 hx_9979)) ?_
      refine jd_v 6 0 (by kernel_rfl) (fun w h => h.pick [0, 1, 2, 3, 4] (by kernel_rfl) (by kernel_rfl)) (by kernel_rfl) (by kernel_rfl) _ (fun w hm => ld_run (b := aB (o_4.map fun b => ⟨b, 0, none⟩)) (off := (aO (o_4.map fun b => ⟨b, 0, none⟩) + i_6.toNat * 1)) (s := 1) (agg := false) (vs := (encI8 x_9)) (by kernel_rfl) (by kernel_rfl) (.inr rfl) ((hm.ownRow (hh := 3) (o := o_4) (T := 54) (enc := encI8) (xs := t_1) (sp := sp_6) (by kernel_rfl) (fun e => (ho_8 e).1) encI8_len).at hx_9979)) ?_
      refine jd_f [⟨7, 0, 0⟩, ⟨8, 0, 0⟩] 2 (by kernel_rfl) (by kernel_rfl) (fun w h => h.pick [0, 1, 2, 3, 4] (by kernel_rfl) (by kernel_rfl)) (by kernel_rfl) (by kernel_rfl) ?_
      obtain ⟨t_10, ht_9980, h⟩ := bd h
      refine toD 15 (by kernel_rfl) (p_call 0 54 #[(.int .i64 (w64 ((w64 n1.fAt) + (w64 x_9)))), (.int .i64 0), (.int .i64 (w64 ((w64 f0.fSteps) - 1)))] (by kernel_rfl) (by kernel_rfl) (fun w hm => spec_l00In.calls (w64 ((w64 n1.fAt) + (w64 x_9))) 0 (w64 ((w64 f0.fSteps) - 1)) w _ ht_9980) ?_)
      rintro w v w' hm ⟨rfl, hm'⟩
      refine ⟨_, hm.app hm', jkD (fun w h => h.pick [0, 1, 2, 3, 4] (by kernel_rfl) (by kernel_rfl)) ?_⟩
      clear hm hm'
      refine jd_f [⟨16, 0, 0⟩] 0 (by kernel_rfl) (by kernel_rfl) (fun w h => h.pick [0, 1, 2, 3, 4] (by kernel_rfl) (by kernel_rfl)) (by kernel_rfl) (by kernel_rfl) ?_
      refine jd_end (by kernel_rfl) ?_
      refine jx_then ?_
      refine jc_cond (!t_10) (by kernel_rfl) (fun hc_9981 => ?_) (fun hc_9981 => ?_)
      · replace h := ifT hc_9981 h
        refine jc_exit ?_
        refine jx_thenx ?_
        refine jx_ine ?_
        refine jx_then ?_
        refine jc_region ?_
        refine jo_f [(0, 0), (0, 0), (0, 0)] (by kernel_rfl) ?_
        refine jo_end (by kernel_rfl) ?_
        exact jx_back (xs_5, (w64 (i_6 + 1))) ⟨o_9966, cap_9967, sp_9968, xs_5.length⟩ (Option.some.inj h).symm ⟨rfl, hs_9970, ho_9971⟩ [0, 1, 2, 3, 4] (by kernel_rfl) (by kernel_rfl) (by kernel_rfl)
      · replace h := ifF hc_9981 h
        refine jc_skip ?_
        refine jx_then ?_
        refine jc_seq ?_
        refine jc_region ?_
        refine jo_f [(0, 0)] (by kernel_rfl) ?_
        refine jo_end (by kernel_rfl) ?_
        refine jx_then ?_
        refine jc_meet (fun (j : (List GChoice) × (Option Nat) × Nat × (List Value) × Nat) => match j with | ⟨xs_11, o_10424, cap_10425, sp_10426, n_10427⟩ => spec_l07For.k_12 i_6 xs_11 = some y_9973 ∧ (xs_11.length = n_10427) ∧ ((o_10424 ≠ none → n_10427 ≤ cap_10425 ∧ sp_10426.length = (cap_10425 - n_10427) * 4)) ∧ ((o_10424 = none → xs_11 = [] ∧ cap_10425 = 0))) (fun (j : (List GChoice) × (Option Nat) × Nat × (List Value) × Nat) => match j with | ⟨xs_11, o_10424, cap_10425, sp_10426, n_10427⟩ => [(0, [], (.pointer (some ⟨f0_b, 0, none⟩))), (3, [], (.pointer (some ⟨b_1, 0, none⟩))), (4, [], (.slice none 0 0)), (5, [], (.slice (o_10424.map fun b => ⟨b, 0, none⟩) n_10427 cap_10425)), (6, [], (.slice (o_4.map fun b => ⟨b, 0, none⟩) t_1.length cap_5)), (7, [], (.slice (o_10.map fun b => ⟨b, 0, none⟩) t_2.length cap_11)), (8, [], (.int .i64 i_6))]) (fun (j : (List GChoice) × (Option Nat) × Nat × (List Value) × Nat) => match j with | ⟨xs_11, o_10424, cap_10425, sp_10426, n_10427⟩ => [⟨some f0_b, 27, [(.int .i16 f0.fSteps), (.slice f0_fHammers_a f0.fHammers.length f0_fHammers_c)]⟩, ⟨some b_1, 56, [(.int .i16 n1.fAt), (.int .i8 n1.fPitch)]⟩, ⟨o_10424, 58, row encGChoice xs_11 sp_10426⟩, ⟨o_4, 54, row encI8 t_1 sp_6⟩, ⟨o_10, 54, row encI8 t_2 sp_12⟩]) ?_ ?_
        · refine jc_block ?_
          obtain ⟨t_16, ht_10871, hr_10726⟩ := bd h
          refine jc_loop (fun (s : (List GChoice) × Int) (x : (Option Nat) × Nat × (List Value) × Nat) => match s, x with | ⟨xs_13, i_14⟩, ⟨o_10720, cap_10721, sp_10722, n_10723⟩ => (xs_13.length = n_10723) ∧ ((o_10720 ≠ none → n_10723 ≤ cap_10721 ∧ sp_10722.length = (cap_10721 - n_10723) * 4)) ∧ ((o_10720 = none → xs_13 = [] ∧ cap_10721 = 0))) (fun (s : (List GChoice) × Int) (x : (Option Nat) × Nat × (List Value) × Nat) => match s, x with | ⟨xs_13, i_14⟩, ⟨o_10720, cap_10721, sp_10722, n_10723⟩ => [(0, [], (.pointer (some ⟨f0_b, 0, none⟩))), (3, [], (.pointer (some ⟨b_1, 0, none⟩))), (4, [], (.slice none 0 0)), (5, [], (.slice (o_10720.map fun b => ⟨b, 0, none⟩) n_10723 cap_10721)), (6, [], (.slice (o_4.map fun b => ⟨b, 0, none⟩) t_1.length cap_5)), (7, [], (.slice (o_10.map fun b => ⟨b, 0, none⟩) t_2.length cap_11)), (8, [], (.int .i64 i_6)), (9, [], (.int .i64 i_14))]) (fun (s : (List GChoice) × Int) (x : (Option Nat) × Nat × (List Value) × Nat) => match s, x with | ⟨xs_13, i_14⟩, ⟨o_10720, cap_10721, sp_10722, n_10723⟩ => [⟨some f0_b, 27, [(.int .i16 f0.fSteps), (.slice f0_fHammers_a f0.fHammers.length f0_fHammers_c)]⟩, ⟨some b_1, 56, [(.int .i16 n1.fAt), (.int .i8 n1.fPitch)]⟩, ⟨o_10720, 58, row encGChoice xs_13 sp_10722⟩, ⟨o_4, 54, row encI8 t_1 sp_6⟩, ⟨o_10, 54, row encI8 t_2 sp_12⟩]) ht_10871 ⟨o_9966, cap_9967, sp_9968, xs_5.length⟩ ⟨rfl, hs_9970, ho_9971⟩ (by kernel_rfl) [0, 1, 2, 3, 4] (by kernel_rfl) (by kernel_rfl) ?_
          rintro ⟨xs_13, i_14⟩ ⟨o_10720, cap_10721, sp_10722, n_10723⟩ y_10727 ⟨rfl, hs_10724, ho_10725⟩ h
          rw [spec_l07For.l_15] at h
          refine jc_seq ?_
          refine jc_seq ?_
          refine jc_region ?_
          refine jo_f [(0, 0), (0, 0), (0, 0), (0, 0)] (by kernel_rfl) ?_
          refine jo_end (by kernel_rfl) ?_
          refine jx_then ?_
          refine jc_cond (decide (i_14 < (t_2.length : Int))) (by kernel_rfl) (fun hc_10729 => ?_) (fun hc_10729 => ?_)
          · replace h := ifT hc_10729 h
            refine jc_skip ?_
            refine jx_then ?_
            refine jc_seq ?_
            refine jc_block ?_
            refine jc_seq ?_
            refine jc_region ?_
            refine jo_f [(0, 0)] (by kernel_rfl) ?_
            refine jo_end (by kernel_rfl) ?_
            refine jx_then ?_
            refine jc_meet (fun (j : (List GChoice) × (Option Nat) × Nat × (List Value) × Nat) => match j with | ⟨xs_17, o_10797, cap_10798, sp_10799, n_10800⟩ => spec_l07For.k_18 i_14 xs_17 = some y_10727 ∧ (xs_17.length = n_10800) ∧ ((o_10797 ≠ none → n_10800 ≤ cap_10798 ∧ sp_10799.length = (cap_10798 - n_10800) * 4)) ∧ ((o_10797 = none → xs_17 = [] ∧ cap_10798 = 0))) (fun (j : (List GChoice) × (Option Nat) × Nat × (List Value) × Nat) => match j with | ⟨xs_17, o_10797, cap_10798, sp_10799, n_10800⟩ => [(0, [], (.pointer (some ⟨f0_b, 0, none⟩))), (3, [], (.pointer (some ⟨b_1, 0, none⟩))), (4, [], (.slice none 0 0)), (5, [], (.slice (o_10797.map fun b => ⟨b, 0, none⟩) n_10800 cap_10798)), (6, [], (.slice (o_4.map fun b => ⟨b, 0, none⟩) t_1.length cap_5)), (7, [], (.slice (o_10.map fun b => ⟨b, 0, none⟩) t_2.length cap_11)), (8, [], (.int .i64 i_6)), (9, [], (.int .i64 i_14))]) (fun (j : (List GChoice) × (Option Nat) × Nat × (List Value) × Nat) => match j with | ⟨xs_17, o_10797, cap_10798, sp_10799, n_10800⟩ => [⟨some f0_b, 27, [(.int .i16 f0.fSteps), (.slice f0_fHammers_a f0.fHammers.length f0_fHammers_c)]⟩, ⟨some b_1, 56, [(.int .i16 n1.fAt), (.int .i8 n1.fPitch)]⟩, ⟨o_10797, 58, row encGChoice xs_17 sp_10799⟩, ⟨o_4, 54, row encI8 t_1 sp_6⟩, ⟨o_10, 54, row encI8 t_2 sp_12⟩]) ?_ ?_
            · refine jc_block ?_
              obtain ⟨t_22, ht_10869, hr_10849⟩ := bd h
              refine jc_loop (fun (s : (List GChoice) × Int) (x : (Option Nat) × Nat × (List Value) × Nat) => match s, x with | ⟨xs_19, i_20⟩, ⟨o_10843, cap_10844, sp_10845, n_10846⟩ => (xs_19.length = n_10846) ∧ ((o_10843 ≠ none → n_10846 ≤ cap_10844 ∧ sp_10845.length = (cap_10844 - n_10846) * 4)) ∧ ((o_10843 = none → xs_19 = [] ∧ cap_10844 = 0))) (fun (s : (List GChoice) × Int) (x : (Option Nat) × Nat × (List Value) × Nat) => match s, x with | ⟨xs_19, i_20⟩, ⟨o_10843, cap_10844, sp_10845, n_10846⟩ => [(0, [], (.pointer (some ⟨f0_b, 0, none⟩))), (3, [], (.pointer (some ⟨b_1, 0, none⟩))), (4, [], (.slice none 0 0)), (5, [], (.slice (o_10843.map fun b => ⟨b, 0, none⟩) n_10846 cap_10844)), (6, [], (.slice (o_4.map fun b => ⟨b, 0, none⟩) t_1.length cap_5)), (7, [], (.slice (o_10.map fun b => ⟨b, 0, none⟩) t_2.length cap_11)), (8, [], (.int .i64 i_6)), (9, [], (.int .i64 i_14)), (10, [], (.int .i64 i_20))]) (fun (s : (List GChoice) × Int) (x : (Option Nat) × Nat × (List Value) × Nat) => match s, x with | ⟨xs_19, i_20⟩, ⟨o_10843, cap_10844, sp_10845, n_10846⟩ => [⟨some f0_b, 27, [(.int .i16 f0.fSteps), (.slice f0_fHammers_a f0.fHammers.length f0_fHammers_c)]⟩, ⟨some b_1, 56, [(.int .i16 n1.fAt), (.int .i8 n1.fPitch)]⟩, ⟨o_10843, 58, row encGChoice xs_19 sp_10845⟩, ⟨o_4, 54, row encI8 t_1 sp_6⟩, ⟨o_10, 54, row encI8 t_2 sp_12⟩]) ht_10869 ⟨o_10720, cap_10721, sp_10722, xs_13.length⟩ ⟨rfl, hs_10724, ho_10725⟩ (by kernel_rfl) [0, 1, 2, 3, 4] (by kernel_rfl) (by kernel_rfl) ?_
              rintro ⟨xs_19, i_20⟩ ⟨o_10843, cap_10844, sp_10845, n_10846⟩ y_10850 ⟨rfl, hs_10847, ho_10848⟩ h
              rw [spec_l07For.l_21] at h
              refine jc_seq ?_
              refine jc_seq ?_
              refine jc_region ?_
              refine jo_f [(0, 0), (0, 0), (0, 0), (0, 0), (0, 0), (0, 0), (0, 0)] (by kernel_rfl) ?_
              refine jo_end (by kernel_rfl) ?_
              refine jx_then ?_
              refine jc_cond (decide (i_20 < (f0.fHammers.length : Int))) (by kernel_rfl) (fun hc_10852 => ?_) (fun hc_10852 => ?_)
              · replace h := ifT hc_10852 h
                refine jc_skip ?_
                refine jx_then ?_
                refine jc_seq ?_
                refine jc_block ?_
                refine jc_seq ?_
                refine jc_draw [⟨some f0_b, 27, [(.int .i16 f0.fSteps), (.slice f0_fHammers_a f0.fHammers.length f0_fHammers_c)]⟩, ⟨some b_1, 56, [(.int .i16 n1.fAt), (.int .i8 n1.fPitch)]⟩, ⟨o_10843, 58, row encGChoice xs_19 sp_10845⟩, ⟨o_4, 54, row encI8 t_1 sp_6⟩, ⟨o_10, 54, row encI8 t_2 sp_12⟩] 17 (by kernel_rfl) (by kernel_rfl) ?_
                refine jd_f [⟨0, 0, 0⟩, ⟨1, 0, 0⟩, ⟨2, 0, 0⟩, ⟨3, 0, 0⟩, ⟨4, 0, 0⟩, ⟨8, 0, 0⟩, ⟨9, 1, 0⟩, ⟨10, 0, 0⟩, ⟨11, 0, 0⟩] 8 (by kernel_rfl) (by kernel_rfl) (fun w h => h.pick [0, 1, 2, 3, 4] (by kernel_rfl) (by kernel_rfl)) (by kernel_rfl) (by kernel_rfl) ?_
                obtain ⟨x_23, hx_10853, h⟩ := bd h
                refine jd_v 5 0 (by kernel_rfl) (fun w h => h.pick [0, 1, 2, 3, 4] (by kernel_rfl) (by kernel_rfl)) (by kernel_rfl) (by kernel_rfl) _ (fun w hm => idx_run (a := f0_fHammers_a) (len := f0.fHammers.length) (s := 2) (j := i_20) (by kernel_rfl) (ix_some hx_10853).1 (ltn hx_10853 rfl) (f0_fHammers_h.sp hx_10853)) ?_
                refine jd_f [⟨6, 0, 0⟩] 6 (by kernel_rfl) (by kernel_rfl) (fun w h => h.pick [0, 1, 2, 3, 4] (by kernel_rfl) (by kernel_rfl)) (by kernel_rfl) (by kernel_rfl) ?_
                refine jd_v 7 0 (by kernel_rfl) (fun w h => h.pick [0, 1, 2, 3, 4] (by kernel_rfl) (by kernel_rfl)) (by kernel_rfl) (by kernel_rfl) _ (fun w hm => ld_run (b := aB f0_fHammers_a) (off := (aO f0_fHammers_a + i_20.toNat * 2)) (s := 1) (agg := false) (vs := (((encGHammer x_23).drop 0).take 1)) (by kernel_rfl) (by kernel_rfl) (.inr rfl) (((hm.exRowW f0_fHammers_h f0_fHammers_ha).at hx_10853).sub 0 1)) ?_
                obtain ⟨x_24, hx_10854, h⟩ := bd h
                refine jd_v 12 0 (by kernel_rfl) (fun w h => h.pick [0, 1, 2, 3, 4] (by kernel_rfl) (by kernel_rfl)) (by kernel_rfl) (by kernel_rfl) _ (fun w hm => idx_run (a := (o_10.map fun b => ⟨b, 0, none⟩)) (len := t_2.length) (s := 1) (j := i_14) (by kernel_rfl) (ix_some hx_10854).1 (ltn hx_10854 rfl) (spo ho_14 hx_10854)) ?_
                refine jd_v 13 0 (by kernel_rfl) (fun w h => h.pick [0, 1, 2, 3, 4] (by kernel_rfl) (by kernel_rfl)) (by kernel_rfl) (by kernel_rfl) _ (fun w hm => ld_run (b := aB (o_10.map fun b => ⟨b, 0, none⟩)) (off := (aO (o_10.map fun b => ⟨b, 0, none⟩) + i_14.toNat * 1)) (s := 1) (agg := false) (vs := (encI8 x_24)) (by kernel_rfl) (by kernel_rfl) (.inr rfl) ((hm.ownRow (hh := 4) (o := o_10) (T := 54) (enc := encI8) (xs := t_2) (sp := sp_12) (by kernel_rfl) (fun e => (ho_14 e).1) encI8_len).at hx_10854)) ?_
                refine jd_f [⟨14, 0, 0⟩, ⟨15, 0, 0⟩, ⟨16, 0, 0⟩] 0 (by kernel_rfl) (by kernel_rfl) (fun w h => h.pick [0, 1, 2, 3, 4] (by kernel_rfl) (by kernel_rfl)) (by kernel_rfl) (by kernel_rfl) ?_
                refine jd_end (by kernel_rfl) ?_
                refine jx_then ?_
                refine jc_cond (x_23.fPitch == (w8 (n1.fPitch + (w8 (12 * x_24))))) (by kernel_rfl) (fun hc_10855 => ?_) (fun hc_10855 => ?_)
                · replace h := ifT hc_10855 h
                  refine jc_draw [⟨some f0_b, 27, [(.int .i16 f0.fSteps), (.slice f0_fHammers_a f0.fHammers.length f0_fHammers_c)]⟩, ⟨some b_1, 56, [(.int .i16 n1.fAt), (.int .i8 n1.fPitch)]⟩, ⟨o_4, 54, row encI8 t_1 sp_6⟩, ⟨o_10, 54, row encI8 t_2 sp_12⟩] 15 (by kernel_rfl) (by kernel_rfl) ?_
                  refine jd_f [⟨0, 0, 0⟩, ⟨1, 0, 0⟩, ⟨2, 0, 0⟩, ⟨5, 0, 0⟩, ⟨6, 0, 0⟩, ⟨9, 0, 0⟩, ⟨10, 0, 0⟩] 8 (by kernel_rfl) (by kernel_rfl) (fun w h => h.pick [0, 1, 3, 4] (by kernel_rfl) (by kernel_rfl)) (by kernel_rfl) (by kernel_rfl) ?_
                  obtain ⟨x_25, hx_10859, h⟩ := bd h
                  refine jd_v 3 0 (by kernel_rfl) (fun w h => h.pick [0, 1, 3, 4] (by kernel_rfl) (by kernel_rfl)) (by kernel_rfl) (by kernel_rfl) _ (fun w hm => idx_run (a := (o_4.map fun b => ⟨b, 0, none⟩)) (len := t_1.length) (s := 1) (j := i_6) (by kernel_rfl) (ix_some hx_10859).1 (ltn hx_10859 rfl) (spo ho_8 hx_10859)) ?_
                  refine jd_v 4 0 (by kernel_rfl) (fun w h => h.pick [0, 1, 3, 4] (by kernel_rfl) (by kernel_rfl)) (by kernel_rfl) (by kernel_rfl) _ (fun w hm => ld_run (b := aB (o_4.map fun b => ⟨b, 0, none⟩)) (off := (aO (o_4.map fun b => ⟨b, 0, none⟩) + i_6.toNat * 1)) (s := 1) (agg := false) (vs := (encI8 x_25)) (by kernel_rfl) (by kernel_rfl) (.inr rfl) ((hm.ownRow (hh := 2) (o := o_4) (T := 54) (enc := encI8) (xs := t_1) (sp := sp_6) (by kernel_rfl) (fun e => (ho_8 e).1) encI8_len).at hx_10859)) ?_
                  obtain ⟨x_26, hx_10860, h⟩ := bd h
                  refine jd_v 7 0 (by kernel_rfl) (fun w h => h.pick [0, 1, 3, 4] (by kernel_rfl) (by kernel_rfl)) (by kernel_rfl) (by kernel_rfl) _ (fun w hm => idx_run (a := (o_10.map fun b => ⟨b, 0, none⟩)) (len := t_2.length) (s := 1) (j := i_14) (by kernel_rfl) (ix_some hx_10860).1 (ltn hx_10860 rfl) (spo ho_14 hx_10860)) ?_
                  refine jd_v 8 0 (by kernel_rfl) (fun w h => h.pick [0, 1, 3, 4] (by kernel_rfl) (by kernel_rfl)) (by kernel_rfl) (by kernel_rfl) _ (fun w hm => ld_run (b := aB (o_10.map fun b => ⟨b, 0, none⟩)) (off := (aO (o_10.map fun b => ⟨b, 0, none⟩) + i_14.toNat * 1)) (s := 1) (agg := false) (vs := (encI8 x_26)) (by kernel_rfl) (by kernel_rfl) (.inr rfl) ((hm.ownRow (hh := 3) (o := o_10) (T := 54) (enc := encI8) (xs := t_2) (sp := sp_12) (by kernel_rfl) (fun e => (ho_14 e).1) encI8_len).at hx_10860)) ?_
                  refine jd_f [⟨11, 0, 0⟩] 3 (by kernel_rfl) (by kernel_rfl) (fun w h => h.pick [0, 1, 3, 4] (by kernel_rfl) (by kernel_rfl)) (by kernel_rfl) (by kernel_rfl) ?_
                  refine toD 12 (by kernel_rfl) (p_a 0 [0] (by kernel_rfl) (fun b => by kernel_rfl) (fun b_10861 => jkD (fun w h => h.pick [0, 1, 3, 4] (by kernel_rfl) (by kernel_rfl)) ?_))
                  obtain ⟨hg_10862, h⟩ := gd h
                  refine toD 13 (by kernel_rfl) (p_apn 0 2 o_10843 58 xs_19.length 1 cap_10844 4 4 (some ⟨b_10861, 0, none⟩) encGChoice xs_19 [(⟨false, x_25, x_26, (w8 i_20)⟩ : GChoice)] sp_10845 (.agg #[(.bool false), (.int .i8 0), (.int .i8 0), (.int .i8 0)]) rfl rfl (by kernel_rfl) (by kernel_rfl) (by kernel_rfl) encGChoice_len encGChoice_cell hs_10847 ho_10848 (fun w hm => (hm.ownRow (hh := 5) (o := (some b_10861)) (T := 58) (enc := encGChoice) (xs := [(⟨false, x_25, x_26, (w8 i_20)⟩ : GChoice)]) (sp := []) (by kernel_rfl) (fun e => nomatch e) encGChoice_len)) hg_10862 (by kernel_rfl) (by kernel_rfl) (fun o_10863 cap_10864 sp_10865 hs_10866 ho_10867 => jkD (fun w h => h.pick [0, 1, 3, 4] (by kernel_rfl) (by kernel_rfl)) ?_))
                  refine jd_f [⟨14, 0, 0⟩] 0 (by kernel_rfl) (by kernel_rfl) (fun w h => h.pick [0, 1, 3, 4] (by kernel_rfl) (by kernel_rfl)) (by kernel_rfl) (by kernel_rfl) ?_
                  refine jd_end (by kernel_rfl) ?_
                  refine jx_inn ?_
                  refine jx_then ?_
                  refine jc_region ?_
                  refine jo_f [(0, 0), (0, 0), (0, 0)] (by kernel_rfl) ?_
                  refine jo_end (by kernel_rfl) ?_
                  exact jx_back ((xs_19 ++ [(⟨false, x_25, x_26, (w8 i_20)⟩ : GChoice)]), (w64 (i_20 + 1))) ⟨o_10863, cap_10864, sp_10865, (xs_19 ++ [(⟨false, x_25, x_26, (w8 i_20)⟩ : GChoice)]).length⟩ (Option.some.inj h).symm ⟨rfl, hs_10866, ho_10867⟩ [0, 1, 2, 3, 4] (by kernel_rfl) (by kernel_rfl) (by kernel_rfl)
                · replace h := ifF hc_10855 h
                  refine jc_skip ?_
                  refine jx_inn ?_
                  refine jx_then ?_
                  refine jc_region ?_
                  refine jo_f [(0, 0), (0, 0), (0, 0)] (by kernel_rfl) ?_
                  refine jo_end (by kernel_rfl) ?_
                  exact jx_back (xs_19, (w64 (i_20 + 1))) ⟨o_10843, cap_10844, sp_10845, xs_19.length⟩ (Option.some.inj h).symm ⟨rfl, hs_10847, ho_10848⟩ [0, 1, 2, 3, 4] (by kernel_rfl) (by kernel_rfl) (by kernel_rfl)
              · replace h := ifF hc_10852 h
                refine jc_exit ?_
                refine jx_thenx ?_
                refine jx_leave xs_19 (Option.some.inj h).symm (fun e_10868 => ?_)
                subst e_10868
                refine jx_ine ?_
                exact jx_meet ⟨xs_19, o_10843, cap_10844, sp_10845, xs_19.length⟩ ⟨hr_10849, rfl, hs_10847, ho_10848⟩ (by kernel_rfl) [0, 1, 2, 3, 4] (by kernel_rfl) (by kernel_rfl)
            · rintro ⟨xs_17, o_10797, cap_10798, sp_10799, n_10800⟩ ⟨h, rfl, hs_10801, ho_10802⟩
              replace h : spec_l07For.k_18 i_14 xs_17 = some y_10727 := h
              rw [spec_l07For.k_18] at h
              refine jx_inn ?_
              refine jx_then ?_
              refine jc_region ?_
              refine jo_f [(0, 0), (0, 0), (0, 0)] (by kernel_rfl) ?_
              refine jo_end (by kernel_rfl) ?_
              exact jx_back (xs_17, (w64 (i_14 + 1))) ⟨o_10797, cap_10798, sp_10799, xs_17.length⟩ (Option.some.inj h).symm ⟨rfl, hs_10801, ho_10802⟩ [0, 1, 2, 3, 4] (by kernel_rfl) (by kernel_rfl) (by kernel_rfl)
          · replace h := ifF hc_10729 h
            refine jc_exit ?_
            refine jx_thenx ?_
            refine jx_leave xs_13 (Option.some.inj h).symm (fun e_10870 => ?_)
            subst e_10870
            refine jx_ine ?_
            exact jx_meet ⟨xs_13, o_10720, cap_10721, sp_10722, xs_13.length⟩ ⟨hr_10726, rfl, hs_10724, ho_10725⟩ (by kernel_rfl) [0, 1, 2, 3, 4] (by kernel_rfl) (by kernel_rfl)
        · rintro ⟨xs_11, o_10424, cap_10425, sp_10426, n_10427⟩ ⟨h, rfl, hs_10428, ho_10429⟩
          replace h : spec_l07For.k_12 i_6 xs_11 = some y_9973 := h
          rw [spec_l07For.k_12] at h
          refine jx_inn ?_
          refine jx_then ?_
          refine jc_region ?_
          refine jo_f [(0, 0), (0, 0), (0, 0)] (by kernel_rfl) ?_
          refine jo_end (by kernel_rfl) ?_
          exact jx_back (xs_11, (w64 (i_6 + 1))) ⟨o_10424, cap_10425, sp_10426, xs_11.length⟩ (Option.some.inj h).symm ⟨rfl, hs_10428, ho_10429⟩ [0, 1, 2, 3, 4] (by kernel_rfl) (by kernel_rfl) (by kernel_rfl)
    · replace h := ifF hc_9975 h
      refine jc_exit ?_
      refine jx_thenx ?_
      refine jx_leave xs_5 (Option.some.inj h).symm (fun e_10872 => ?_)
      subst e_10872
      refine jx_ine ?_
      exact jx_meet ⟨xs_5, o_9966, cap_9967, sp_9968, xs_5.length⟩ ⟨hr_9972, rfl, hs_9970, ho_9971⟩ (by kernel_rfl) [0, 1, 2, 3, 4] (by kernel_rfl) (by kernel_rfl)
  · rintro ⟨xs_3, o_8151, cap_8152, sp_8153, n_8154⟩ ⟨h, rfl, hs_8155, ho_8156⟩
    replace h : spec_l07For.k_4 xs_3 = some r := h
    rw [spec_l07For.k_4] at h
    refine jx_then ?_
    refine jc_seq ?_
    refine jc_region ?_
    refine jo_f [(0, 0), (0, 0)] (by kernel_rfl) ?_
    refine toO (by kernel_rfl) (p_a 0 [0] (by kernel_rfl) (fun b => by kernel_rfl) (fun b_8157 => jkO ?_))
    obtain ⟨hg_8158, h⟩ := gd h
    refine toO (by kernel_rfl) (p_apn 0 2 o_8151 58 xs_3.length 1 cap_8152 4 4 (some ⟨b_8157, 0, none⟩) encGChoice xs_3 [(⟨true, 0, 0, 0⟩ : GChoice)] sp_8153 (.agg #[(.bool false), (.int .i8 0), (.int .i8 0), (.int .i8 0)]) rfl rfl (by kernel_rfl) (by kernel_rfl) (by kernel_rfl) encGChoice_len encGChoice_cell hs_8155 ho_8156 (fun w hm => (hm.ownRow (hh := 5) (o := (some b_8157)) (T := 58) (enc := encGChoice) (xs := [(⟨true, 0, 0, 0⟩ : GChoice)]) (sp := []) (by kernel_rfl) (fun e => nomatch e) encGChoice_len)) hg_8158 (by kernel_rfl) (by kernel_rfl) (fun o_8159 cap_8160 sp_8161 hs_8162 ho_8163 => jkO ?_))
    refine jo_f [(0, 0)] (by kernel_rfl) ?_
    refine jo_end (by kernel_rfl) ?_
    refine jx_then ?_
    refine jc_ret ?_
    obtain rfl := Option.some.inj h
    exact jx_ret [] (.slice (o_8159.map fun b => ⟨b, 0, none⟩) ((xs_3 ++ [(⟨true, 0, 0, 0⟩ : GChoice)]).length) cap_8160) [] rfl (by kernel_rfl) (by kernel_rfl) (fun w hm => ⟨o_8159, cap_8160, sp_8161, ((xs_3 ++ [(⟨true, 0, 0, 0⟩ : GChoice)]).length), rfl, hs_8162, ho_8163, rfl, hm.pick [0, 2] (by kernel_rfl) (by kernel_rfl)⟩)

/-! ### spec.l02Pin -/
noncomputable def spec_l02Pin (d0 : Arr 96 Int) (step1 : Int) (track2 : Int) : Option (Bool) := (ix d0.1 step1).bind fun x_1 => (if 0 ≤ (u64 track2) then some ((Int.tmod (bShr .u32 x_1 (u64 track2)) 2) == 1) else none)
set_option maxRecDepth 100000 in
theorem spec_l02Pin.calls (d0 : Arr 96 Int) (step1 : Int) (track2 : Int) (w : World) (r : Bool) (d0_b : Nat) (hm0 : Mem w (bs [some d0_b]) [⟨(some d0_b), 39, row encU32 d0.1 []⟩] w) (h : spec_l02Pin d0 step1 track2 = some r) :
    Calls Tryz.prog 77 #[(.pointer (some ⟨d0_b, 0, none⟩)), (.int .i64 step1), (.int .i64 track2)] w fun e w' => ∃ v, e = .returned v ∧ (v = (.bool r) ∧ Mem w (bs [some d0_b]) [⟨(some d0_b), 39, row encU32 d0.1 []⟩] w') := by
  rw [spec_l02Pin] at h
  refine enter (args := [(.pointer (some ⟨d0_b, 0, none⟩)), (.int .i64 step1), (.int .i64 track2)]) Tryz.func77 rfl Tryz.ntmps77 (by kernel_rfl) (L := [⟨(some d0_b), 39, row encU32 d0.1 []⟩]) (W := bs [some d0_b]) hm0 ?_
  refine jc_seq ?_
  refine jc_region ?_
  refine jo_f [(0, 0)] (by kernel_rfl) ?_
  refine jo_end (by kernel_rfl) ?_
  refine jx_then ?_
  refine jc_seq ?_
  refine jc_region ?_
  refine jo_f [(0, 0), (0, 0), (0, 0)] (by kernel_rfl) ?_
  obtain ⟨x_1, hx_1, h⟩ := bd h
  refine toO (by kernel_rfl) (p_idx 0 (some ⟨d0_b, 0, none⟩) 96 step1 1 (by kernel_rfl) (by kernel_rfl) (ix_some hx_1).1 (ltn hx_1 d0.2) rfl (jkO ?_))
  refine toO (by kernel_rfl) (p_ld 0 (aB (some ⟨d0_b, 0, none⟩)) (aO (some ⟨d0_b, 0, none⟩) + step1.toNat * 1) false (encU32 x_1) (by kernel_rfl) (by kernel_rfl) (by kernel_rfl) (fun w hm => ((hm.ownRow (hh := 0) (o := (some d0_b)) (T := 39) (enc := encU32) (xs := d0.1) (sp := []) (by kernel_rfl) (fun e => nomatch e) encU32_len).at hx_1)) (jkO ?_))
  refine jo_f [(0, 0), (0, 0)] (by kernel_rfl) ?_
  obtain ⟨hg_2, h⟩ := gd h
  refine toO (by kernel_rfl) (p_shr 0 .u32 x_1 .u64 (u64 track2) (by kernel_rfl) (by kernel_rfl) hg_2 (jkO ?_))
  refine jo_f [(0, 0), (0, 0), (0, 0)] (by kernel_rfl) ?_
  refine jo_end (by kernel_rfl) ?_
  refine jx_then ?_
  refine jc_ret ?_
  obtain rfl := Option.some.inj h
  exact jx_ret [] (.bool ((Int.tmod (bShr .u32 x_1 (u64 track2)) 2) == 1)) [] rfl (by kernel_rfl) (by kernel_rfl) (fun w hm => ⟨rfl, hm.pick [0] (by kernel_rfl) (by kernel_rfl)⟩)

/-! ### spec.l02Free -/
noncomputable def spec_l02Free.k_3 : Option (Bool) := some true
noncomputable def spec_l02Free.k_8 (i_4 : Int) (q_7 : Bool) : Option ((Int) ⊕ (Bool ⊕ Unit)) := (if q_7 = true then some (.inr (.inl false)) else some (.inl (w64 (i_4 + 1))))
noncomputable def spec_l02Free.l_5 (f0 : GFrame) (d1 : Arr 96 Int) (step2 : Int) (track3 : Int) (x_2 : GHammer) : Int → Option ((Int) ⊕ (Bool ⊕ Unit))
  | i_4 => (if (decide (i_4 < (w64 x_2.fReady))) = true then (if (w64 f0.fSteps) ≠ 0 then (spec_l02Pin d1 (Int.tmod (w64 (step2 + i_4)) (w64 f0.fSteps)) track3).bind fun t_9 => (if t_9 = true then spec_l02Free.k_8 i_4 true else (if (w64 f0.fSteps) ≠ 0 then (spec_l02Pin d1 (Int.tmod (w64 ((w64 (step2 + (w64 f0.fSteps))) - i_4)) (w64 f0.fSteps)) track3).bind fun t_10 => spec_l02Free.k_8 i_4 t_10 else none)) else none) else some (.inr (.inr ())))
noncomputable def spec_l02Free (f0 : GFrame) (d1 : Arr 96 Int) (step2 : Int) (track3 : Int) : Option (Bool) := (spec_l02Pin d1 step2 track3).bind fun t_1 => (if t_1 = true then some false else (ix f0.fHammers track3).bind fun x_2 => (loop (spec_l02Free.l_5 f0 d1 step2 track3 x_2) 1).bind fun t_6 => match t_6 with | .inl p => some p | .inr p => spec_l02Free.k_3)
set_option maxRecDepth 100000 in
theorem spec_l02Free.calls (f0 : GFrame) (d1 : Arr 96 Int) (step2 : Int) (track3 : Int) (w : World) (r : Bool) (f0_fHammers_a : Option Addr) (f0_fHammers_an : Nat) (f0_fHammers_c : Nat) (f0_fHammers_h : Rw w f0_fHammers_a 2 encGHammer f0.fHammers) (f0_fHammers_hn : f0.fHammers.length = f0_fHammers_an) (f0_b : Nat) (d1_b : Nat) (hm0 : Mem w (bs [some f0_b, some d1_b]) [⟨some f0_b, 27, [(.int .i16 f0.fSteps), (.slice f0_fHammers_a f0_fHammers_an f0_fHammers_c)]⟩, ⟨(some d1_b), 39, row encU32 d1.1 []⟩] w) (f0_fHammers_ha : f0.fHammers ≠ [] → aB f0_fHammers_a ∉ bs [some f0_b, some d1_b]) (h : spec_l02Free f0 d1 step2 track3 = some r) :
    Calls Tryz.prog 56 #[(.pointer (some ⟨f0_b, 0, none⟩)), (.pointer (some ⟨d1_b, 0, none⟩)), (.int .i64 step2), (.int .i64 track3)] w fun e w' => ∃ v, e = .returned v ∧ (v = (.bool r) ∧ Mem w (bs [some f0_b, some d1_b]) [⟨some f0_b, 27, [(.int .i16 f0.fSteps), (.slice f0_fHammers_a f0_fHammers_an f0_fHammers_c)]⟩, ⟨(some d1_b), 39, row encU32 d1.1 []⟩] w') := by
  subst f0_fHammers_hn
  rw [spec_l02Free] at h
  refine enter (args := [(.pointer (some ⟨f0_b, 0, none⟩)), (.pointer (some ⟨d1_b, 0, none⟩)), (.int .i64 step2), (.int .i64 track3)]) Tryz.func56 rfl Tryz.ntmps56 (by kernel_rfl) (L := [⟨some f0_b, 27, [(.int .i16 f0.fSteps), (.slice f0_fHammers_a f0.fHammers.length f0_fHammers_c)]⟩, ⟨(some d1_b), 39, row encU32 d1.1 []⟩]) (W := bs [some f0_b, some d1_b]) hm0 ?_
  refine jc_seq ?_
  refine jc_region ?_
  refine jo_f [(0, 0)] (by kernel_rfl) ?_
  refine jo_end (by kernel_rfl) ?_
  refine jx_then ?_
  refine jc_seq ?_
  refine jc_seq ?_
  refine jc_region ?_
  refine jo_f [(0, 0), (0, 0), (0, 0)] (by kernel_rfl) ?_
  obtain ⟨t_1, ht_3, h⟩ := bd h
  refine toO (by kernel_rfl) (p_call 0 77 #[(.pointer (some ⟨d1_b, 0, none⟩)), (.int .i64 step2), (.int .i64 track3)] (by kernel_rfl) (by kernel_rfl) (fun w hm => spec_l02Pin.calls d1 step2 track3 w _ d1_b (hm.pass (N := [⟨(some d1_b), 39, row encU32 d1.1 []⟩]) [1] (by kernel_rfl) (by kernel_rfl)) ht_3) ?_)
  rintro w v w' hm ⟨rfl, hm'⟩
  refine ⟨_, hm.appW (ps := [(1, ⟨(some d1_b), 39, row encU32 d1.1 []⟩)]) (N := []) hm' (by kernel_rfl) (by kernel_rfl), jkO ?_⟩
  clear hm hm'
  refine jo_end (by kernel_rfl) ?_
  refine jx_then ?_
  refine jc_cond t_1 (by kernel_rfl) (fun hc_4 => ?_) (fun hc_4 => ?_)
  · replace h := ifT hc_4 h
    refine jc_seq ?_
    refine jc_region ?_
    refine jo_f [(0, 0)] (by kernel_rfl) ?_
    refine jo_end (by kernel_rfl) ?_
    refine jx_then ?_
    refine jc_ret ?_
    refine jx_thenr ?_
    obtain rfl := Option.some.inj h
    exact jx_ret [] (.bool false) [] rfl (by kernel_rfl) (by kernel_rfl) (fun w hm => ⟨rfl, hm.pick [0, 1] (by kernel_rfl) (by kernel_rfl)⟩)
  · replace h := ifF hc_4 h
    refine jc_skip ?_
    refine jx_then ?_
    refine jc_seq ?_
    refine jc_region ?_
    refine jo_f [(0, 0), (0, 0), (0, 0), (0, 0), (0, 0), (0, 0)] (by kernel_rfl) ?_
    refine jo_end (by kernel_rfl) ?_
    refine jx_then ?_
    refine jc_seq ?_
    refine jc_region ?_
    refine jo_f [(0, 0), (0, 0), (0, 0), (0, 0), (0, 0)] (by kernel_rfl) ?_
    obtain ⟨x_2, hx_5, h⟩ := bd h
    refine toO (by kernel_rfl) (p_idx 0 f0_fHammers_a f0.fHammers.length track3 2 (by kernel_rfl) (by kernel_rfl) (ix_some hx_5).1 (ltn hx_5 rfl) (f0_fHammers_h.sp hx_5) (jkO ?_))
    refine jo_f [(0, 0)] (by kernel_rfl) ?_
    refine toO (by kernel_rfl) (p_ld 0 (aB f0_fHammers_a) (aO f0_fHammers_a + track3.toNat * 2 + 1) false (((encGHammer x_2).drop 1).take 1) (by kernel_rfl) (by kernel_rfl) (by kernel_rfl) (fun w hm => (((hm.exRowW f0_fHammers_h f0_fHammers_ha).at hx_5).sub 1 1)) (jkO ?_))
    refine jo_f [(0, 0), (0, 0)] (by kernel_rfl) ?_
    refine jo_end (by kernel_rfl) ?_
    refine jx_then ?_
    refine jc_seq ?_
    refine jc_seq ?_
    refine jc_region ?_
    refine jo_f [(0, 0)] (by kernel_rfl) ?_
    refine jo_end (by kernel_rfl) ?_
    refine jx_then ?_
    refine jc_meet (fun (_ : Unit) => spec_l02Free.k_3 = some r) (fun (_ : Unit) => [(8, [], (.bool false))]) (fun (_ : Unit) => [⟨some f0_b, 27, [(.int .i16 f0.fSteps), (.slice f0_fHammers_a f0.fHammers.length f0_fHammers_c)]⟩, ⟨(some d1_b), 39, row encU32 d1.1 []⟩]) ?_ ?_
    · refine jc_block ?_
      obtain ⟨t_6, ht_93, hr_76⟩ := bd h
      refine jc_loop (fun (s : Int) (x : Unit) => match s, x with | i_4, _ => True) (fun (s : Int) (x : Unit) => match s, x with | i_4, _ => [(1, [], (.pointer (some ⟨d1_b, 0, none⟩))), (2, [], (.int .i64 step2)), (3, [], (.int .i64 track3)), (8, [], (.bool false)), (9, [], (.int .i64 (w64 f0.fSteps))), (10, [], (.int .i64 (w64 x_2.fReady))), (11, [], (.int .i64 i_4))]) (fun (s : Int) (x : Unit) => match s, x with | i_4, _ => [⟨some f0_b, 27, [(.int .i16 f0.fSteps), (.slice f0_fHammers_a f0.fHammers.length f0_fHammers_c)]⟩, ⟨(some d1_b), 39, row encU32 d1.1 []⟩]) ht_93 () trivial (by kernel_rfl) [0, 1] (by kernel_rfl) (by kernel_rfl) ?_
      rintro i_4 _ y_77 _ h
      rw [spec_l02Free.l_5] at h
      refine jc_seq ?_
      refine jc_seq ?_
      refine jc_region ?_
      refine jo_f [(0, 0), (0, 0), (0, 0)] (by kernel_rfl) ?_
      refine jo_end (by kernel_rfl) ?_
      refine jx_then ?_
      refine jc_cond (decide (i_4 < (w64 x_2.fReady))) (by kernel_rfl) (fun hc_79 => ?_) (fun hc_79 => ?_)
      · replace h := ifT hc_79 h
        refine jc_skip ?_
        refine jx_then ?_
        refine jc_seq ?_
        refine jc_block ?_
        refine jc_seq ?_
        refine jc_meet (fun (j : Bool) => match j with | q_7 => spec_l02Free.k_8 i_4 q_7 = some y_77) (fun (j : Bool) => match j with | q_7 => [(1, [], (.pointer (some ⟨d1_b, 0, none⟩))), (2, [], (.int .i64 step2)), (3, [], (.int .i64 track3)), (8, [], (.bool false)), (9, [], (.int .i64 (w64 f0.fSteps))), (10, [], (.int .i64 (w64 x_2.fReady))), (11, [], (.int .i64 i_4)), (54, [], (.bool q_7))]) (fun (j : Bool) => match j with | q_7 => [⟨some f0_b, 27, [(.int .i16 f0.fSteps), (.slice f0_fHammers_a f0.fHammers.length f0_fHammers_c)]⟩, ⟨(some d1_b), 39, row encU32 d1.1 []⟩]) ?_ ?_
        · refine jc_region ?_
          refine jo_f [(0, 0), (0, 0), (0, 0), (0, 0), (0, 0)] (by kernel_rfl) ?_
          obtain ⟨hg_87, h⟩ := gd h
          refine toO (by kernel_rfl) (p_rem 0 .i64 (w64 (step2 + i_4)) (w64 f0.fSteps) (by kernel_rfl) (by kernel_rfl) hg_87 (jkO ?_))
          refine jo_f [(0, 0)] (by kernel_rfl) ?_
          obtain ⟨t_9, ht_88, h⟩ := bd h
          refine toO (by kernel_rfl) (p_call 0 77 #[(.pointer (some ⟨d1_b, 0, none⟩)), (.int .i64 (Int.tmod (w64 (step2 + i_4)) (w64 f0.fSteps))), (.int .i64 track3)] (by kernel_rfl) (by kernel_rfl) (fun w hm => spec_l02Pin.calls d1 (Int.tmod (w64 (step2 + i_4)) (w64 f0.fSteps)) track3 w _ d1_b (hm.pass (N := [⟨(some d1_b), 39, row encU32 d1.1 []⟩]) [1] (by kernel_rfl) (by kernel_rfl)) ht_88) ?_)
          rintro w v w' hm ⟨rfl, hm'⟩
          refine ⟨_, hm.appW (ps := [(1, ⟨(some d1_b), 39, row encU32 d1.1 []⟩)]) (N := []) hm' (by kernel_rfl) (by kernel_rfl), jkO ?_⟩
          clear hm hm'
          refine jo_f [(0, 0), (0, 1), (0, 1), (0, 1), (0, 1), (0, 1), (0, 1), (0, 1)] (by kernel_rfl) ?_
          refine jo_split 43 t_9 (by kernel_rfl) (fun hc_89 => ?_) (fun hc_89 => ?_)
          · replace h := ifT hc_89 h
            refine jo_f [(0, 3), (0, 3), (0, 3), (0, 4)] (by kernel_rfl) ?_
            refine jo_end (by kernel_rfl) ?_
            exact jx_meet true h (by kernel_rfl) [0, 1] (by kernel_rfl) (by kernel_rfl)
          · replace h := ifF hc_89 h
            obtain ⟨hg_90, h⟩ := gd h
            refine toO (by kernel_rfl) (p_rem 2 .i64 (w64 ((w64 (step2 + (w64 f0.fSteps))) - i_4)) (w64 f0.fSteps) (by kernel_rfl) (by kernel_rfl) hg_90 (jkO ?_))
            refine jo_f [(0, 2)] (by kernel_rfl) ?_
            obtain ⟨t_10, ht_91, h⟩ := bd h
            refine toO (by kernel_rfl) (p_call 2 77 #[(.pointer (some ⟨d1_b, 0, none⟩)), (.int .i64 (Int.tmod (w64 ((w64 (step2 + (w64 f0.fSteps))) - i_4)) (w64 f0.fSteps))), (.int .i64 track3)] (by kernel_rfl) (by kernel_rfl) (fun w hm => spec_l02Pin.calls d1 (Int.tmod (w64 ((w64 (step2 + (w64 f0.fSteps))) - i_4)) (w64 f0.fSteps)) track3 w _ d1_b (hm.pass (N := [⟨(some d1_b), 39, row encU32 d1.1 []⟩]) [1] (by kernel_rfl) (by kernel_rfl)) ht_91) ?_)
            rintro w v w' hm ⟨rfl, hm'⟩
            refine ⟨_, hm.appW (ps := [(1, ⟨(some d1_b), 39, row encU32 d1.1 []⟩)]) (N := []) hm' (by kernel_rfl) (by kernel_rfl), jkO ?_⟩
            clear hm hm'
            refine jo_f [(0, 5)] (by kernel_rfl) ?_
            refine jo_end (by kernel_rfl) ?_
            exact jx_meet t_10 h (by kernel_rfl) [0, 1] (by kernel_rfl) (by kernel_rfl)
        · rintro q_7 h
          replace h : spec_l02Free.k_8 i_4 q_7 = some y_77 := h
          rw [spec_l02Free.k_8] at h
          refine jx_then ?_
          refine jc_cond q_7 (by kernel_rfl) (fun hc_85 => ?_) (fun hc_85 => ?_)
          · replace h := ifT hc_85 h
            refine jc_seq ?_
            refine jc_region ?_
            refine jo_f [(0, 0)] (by kernel_rfl) ?_
            refine jo_end (by kernel_rfl) ?_
            refine jx_then ?_
            refine jc_ret ?_
            refine jx_inr ?_
            refine jx_thenr ?_
            refine jx_leaver (.inl false) (Option.some.inj h).symm (fun e_86 => ?_)
            subst e_86
            refine jx_inr ?_
            refine jx_thenr ?_
            refine jx_thenr ?_
            obtain rfl := Option.some.inj hr_76
            exact jx_ret [] (.bool false) [] rfl (by kernel_rfl) (by kernel_rfl) (fun w hm => ⟨rfl, hm.pick [0, 1] (by kernel_rfl) (by kernel_rfl)⟩)
          · replace h := ifF hc_85 h
            refine jc_skip ?_
            refine jx_inn ?_
            refine jx_then ?_
            refine jc_region ?_
            refine jo_f [(0, 0), (0, 0), (0, 0)] (by kernel_rfl) ?_
            refine jo_end (by kernel_rfl) ?_
            exact jx_back (w64 (i_4 + 1)) () (Option.some.inj h).symm trivial [0, 1] (by kernel_rfl) (by kernel_rfl) (by kernel_rfl)
      · replace h := ifF hc_79 h
        refine jc_exit ?_
        refine jx_thenx ?_
        refine jx_leave (.inr ()) (Option.some.inj h).symm (fun e_92 => ?_)
        subst e_92
        refine jx_ine ?_
        exact jx_meet () hr_76 (by kernel_rfl) [0, 1] (by kernel_rfl) (by kernel_rfl)
    · rintro _ h
      replace h : spec_l02Free.k_3 = some r := h
      rw [spec_l02Free.k_3] at h
      refine jx_then ?_
      refine jc_seq ?_
      refine jc_region ?_
      refine jo_f [(0, 0)] (by kernel_rfl) ?_
      refine jo_end (by kernel_rfl) ?_
      refine jx_then ?_
      refine jc_ret ?_
      obtain rfl := Option.some.inj h
      exact jx_ret [] (.bool true) [] rfl (by kernel_rfl) (by kernel_rfl) (fun w hm => ⟨rfl, hm.pick [0, 1] (by kernel_rfl) (by kernel_rfl)⟩)

/-! ### spec.l07Put -/
noncomputable def spec_l07Put (f0 : GFrame) (d1 : Arr 96 Int) (n2 : GNote) (x3 : GChoice) : Option (Bool × (Arr 96 Int)) := (if x3.fAway = true then some (true, d1) else (spec_l02Free f0 d1 (w64 ((w64 n2.fAt) + (w64 x3.fLate))) (w64 x3.fTrack)).bind fun t_1 => (if (!t_1) = true then some (false, d1) else (ix d1.1 (w64 ((w64 n2.fAt) + (w64 x3.fLate)))).bind fun x_2 => (if 0 ≤ (u64 x3.fTrack) then (ix d1.1 (w64 ((w64 n2.fAt) + (w64 x3.fLate)))).bind fun x_3 => some (true, (Arr.set d1 (w64 ((w64 n2.fAt) + (w64 x3.fLate))) (bOr .u32 x_2 (bShl .u32 1 (u64 x3.fTrack))))) else none)))
set_option maxRecDepth 100000 in
theorem spec_l07Put.calls (f0 : GFrame) (d1 : Arr 96 Int) (n2 : GNote) (x3 : GChoice) (w : World) (r : Bool × (Arr 96 Int)) (f0_fHammers_a : Option Addr) (f0_fHammers_an : Nat) (f0_fHammers_c : Nat) (f0_fHammers_h : Rw w f0_fHammers_a 2 encGHammer f0.fHammers) (f0_fHammers_hn : f0.fHammers.length = f0_fHammers_an) (f0_b : Nat) (d1_b : Nat) (hm0 : Mem w (bs [some f0_b, some d1_b]) [⟨some f0_b, 27, [(.int .i16 f0.fSteps), (.slice f0_fHammers_a f0_fHammers_an f0_fHammers_c)]⟩, ⟨(some d1_b), 39, row encU32 d1.1 []⟩] w) (f0_fHammers_ha : f0.fHammers ≠ [] → aB f0_fHammers_a ∉ bs [some f0_b, some d1_b]) (h : spec_l07Put f0 d1 n2 x3 = some r) :
    Calls Tryz.prog 28 #[(.pointer (some ⟨f0_b, 0, none⟩)), (.pointer (some ⟨d1_b, 0, none⟩)), (.agg #[(.int .i16 n2.fAt), (.int .i8 n2.fPitch)]), (.agg #[(.bool x3.fAway), (.int .i8 x3.fLate), (.int .i8 x3.fOctave), (.int .i8 x3.fTrack)])] w fun e w' => ∃ v, e = .returned v ∧ (v = (.bool r.1) ∧ Mem w (bs [some f0_b, some d1_b]) [⟨some f0_b, 27, [(.int .i16 f0.fSteps), (.slice f0_fHammers_a f0_fHammers_an f0_fHammers_c)]⟩, ⟨(some d1_b), 39, row encU32 r.2.1 []⟩] w') := by
  subst f0_fHammers_hn
  rw [spec_l07Put] at h
  refine enter (args := [(.pointer (some ⟨f0_b, 0, none⟩)), (.pointer (some ⟨d1_b, 0, none⟩)), (.agg #[(.int .i16 n2.fAt), (.int .i8 n2.fPitch)]), (.agg #[(.bool x3.fAway), (.int .i8 x3.fLate), (.int .i8 x3.fOctave), (.int .i8 x3.fTrack)])]) Tryz.func28 rfl Tryz.ntmps28 (by kernel_rfl) (L := [⟨some f0_b, 27, [(.int .i16 f0.fSteps), (.slice f0_fHammers_a f0.fHammers.length f0_fHammers_c)]⟩, ⟨(some d1_b), 39, row encU32 d1.1 []⟩]) (W := bs [some f0_b, some d1_b]) hm0 ?_
  refine jc_seq ?_
  refine jc_region ?_
  refine toO (by kernel_rfl) (p_a 0 [0] (by kernel_rfl) (fun b => by kernel_rfl) (fun b_1 => jkO ?_))
  refine toO (by kernel_rfl) (p_a 0 [0] (by kernel_rfl) (fun b => by kernel_rfl) (fun b_2 => jkO ?_))
  refine jo_f [(0, 0)] (by kernel_rfl) ?_
  refine jo_end (by kernel_rfl) ?_
  refine jx_then ?_
  refine jc_seq ?_
  refine jc_seq ?_
  refine jc_region ?_
  refine jo_f [(0, 0), (3, 0)] (by kernel_rfl) ?_
  refine jo_end (by kernel_rfl) ?_
  refine jx_then ?_
  refine jc_cond x3.fAway (by kernel_rfl) (fun hc_4 => ?_) (fun hc_4 => ?_)
  · replace h := ifT hc_4 h
    refine jc_seq ?_
    refine jc_region ?_
    refine jo_f [(0, 0)] (by kernel_rfl) ?_
    refine jo_end (by kernel_rfl) ?_
    refine jx_then ?_
    refine jc_ret ?_
    refine jx_thenr ?_
    obtain rfl := Option.some.inj h
    exact jx_ret [] (.bool true) [] rfl (by kernel_rfl) (by kernel_rfl) (fun w hm => ⟨rfl, hm.pick [0, 1] (by kernel_rfl) (by kernel_rfl)⟩)
  · replace h := ifF hc_4 h
    refine jc_skip ?_
    refine jx_then ?_
    refine jc_seq ?_
    refine jc_region ?_
    refine jo_f [(0, 0), (2, 0), (0, 0), (0, 0), (3, 0), (0, 0), (0, 0), (0, 0)] (by kernel_rfl) ?_
    refine jo_end (by kernel_rfl) ?_
    refine jx_then ?_
    refine jc_seq ?_
    refine jc_seq ?_
    refine jc_region ?_
    refine jo_f [(0, 0), (0, 0), (0, 0), (0, 0), (3, 0), (0, 0)] (by kernel_rfl) ?_
    obtain ⟨t_1, ht_7, h⟩ := bd h
    refine toO (by kernel_rfl) (p_call 0 56 #[(.pointer (some ⟨f0_b, 0, none⟩)), (.pointer (some ⟨d1_b, 0, none⟩)), (.int .i64 (w64 ((w64 n2.fAt) + (w64 x3.fLate)))), (.int .i64 (w64 x3.fTrack))] (by kernel_rfl) (by kernel_rfl) (fun w hm => spec_l02Free.calls f0 d1 (w64 ((w64 n2.fAt) + (w64 x3.fLate))) (w64 x3.fTrack) w _ f0_fHammers_a f0.fHammers.length f0_fHammers_c (hm.exRowW f0_fHammers_h f0_fHammers_ha) rfl f0_b d1_b (hm.pass (N := [⟨some f0_b, 27, [(.int .i16 f0.fSteps), (.slice f0_fHammers_a f0.fHammers.length f0_fHammers_c)]⟩, ⟨(some d1_b), 39, row encU32 d1.1 []⟩]) [0, 1] (by kernel_rfl) (by kernel_rfl)) (hm.exApart (N := [⟨some f0_b, 27, [(.int .i16 f0.fSteps), (.slice f0_fHammers_a f0.fHammers.length f0_fHammers_c)]⟩, ⟨(some d1_b), 39, row encU32 d1.1 []⟩]) f0_fHammers_h f0_fHammers_ha [0, 1] (by kernel_rfl)) ht_7) ?_)
    rintro w v w' hm ⟨rfl, hm'⟩
    refine ⟨_, hm.appW (ps := [(0, ⟨some f0_b, 27, [(.int .i16 f0.fSteps), (.slice f0_fHammers_a f0.fHammers.length f0_fHammers_c)]⟩), (1, ⟨(some d1_b), 39, row encU32 d1.1 []⟩)]) (N := []) hm' (by kernel_rfl) (by kernel_rfl), jkO ?_⟩
    clear hm hm'
    refine jo_f [(0, 0)] (by kernel_rfl) ?_
    refine jo_end (by kernel_rfl) ?_
    refine jx_then ?_
    refine jc_cond (!t_1) (by kernel_rfl) (fun hc_8 => ?_) (fun hc_8 => ?_)
    · replace h := ifT hc_8 h
      refine jc_seq ?_
      refine jc_region ?_
      refine jo_f [(0, 0)] (by kernel_rfl) ?_
      refine jo_end (by kernel_rfl) ?_
      refine jx_then ?_
      refine jc_ret ?_
      refine jx_thenr ?_
      obtain rfl := Option.some.inj h
      exact jx_ret [] (.bool false) [] rfl (by kernel_rfl) (by kernel_rfl) (fun w hm => ⟨rfl, hm.pick [0, 1] (by kernel_rfl) (by kernel_rfl)⟩)
    · replace h := ifF hc_8 h
      refine jc_skip ?_
      refine jx_then ?_
      refine jc_seq ?_
      refine jc_draw [⟨some f0_b, 27, [(.int .i16 f0.fSteps), (.slice f0_fHammers_a f0.fHammers.length f0_fHammers_c)]⟩, ⟨some b_1, 56, [(.int .i16 n2.fAt), (.int .i8 n2.fPitch)]⟩, ⟨some b_2, 58, [(.bool x3.fAway), (.int .i8 x3.fLate), (.int .i8 x3.fOctave), (.int .i8 x3.fTrack)]⟩] 15 (by kernel_rfl) (by kernel_rfl) ?_
      refine jd_f [⟨0, 0, 0⟩, ⟨1, 0, 0⟩, ⟨2, 0, 0⟩, ⟨3, 0, 0⟩, ⟨4, 0, 0⟩, ⟨7, 0, 0⟩, ⟨8, 2, 0⟩, ⟨9, 0, 0⟩, ⟨12, 0, 0⟩] 6 (by kernel_rfl) (by kernel_rfl) (fun w h => h.pick [0, 2, 3] (by kernel_rfl) (by kernel_rfl)) (by kernel_rfl) (by kernel_rfl) ?_
      obtain ⟨x_2, hx_12, h⟩ := bd h
      refine jd_v 5 0 (by kernel_rfl) (fun w h => h.pick [0, 2, 3] (by kernel_rfl) (by kernel_rfl)) (by kernel_rfl) (by kernel_rfl) _ (fun w hm => idx_run (a := (some ⟨d1_b, 0, none⟩)) (len := 96) (s := 1) (j := (w64 ((w64 n2.fAt) + (w64 x3.fLate)))) (by kernel_rfl) (ix_some hx_12).1 (ltn hx_12 d1.2) rfl) ?_
      refine toD2 6 10 (by kernel_rfl) ?_ ?_
      · refine p_ld 0 (aB (some ⟨d1_b, 0, none⟩)) (aO (some ⟨d1_b, 0, none⟩) + (w64 ((w64 n2.fAt) + (w64 x3.fLate))).toNat * 1) false (encU32 x_2) (by kernel_rfl) (by kernel_rfl) (by kernel_rfl) (fun w hm => ((hm.ownRow (hh := 1) (o := (some d1_b)) (T := 39) (enc := encU32) (xs := d1.1) (sp := []) (by kernel_rfl) (fun e => nomatch e) encU32_len).at hx_12)) (jkD (fun w h => h.pick [0, 2, 3] (by kernel_rfl) (by kernel_rfl)) ?_)
        obtain ⟨hg_13, h⟩ := gd h
        refine toD 10 (by kernel_rfl) (p_shl 0 .u32 1 .u64 (u64 x3.fTrack) (by kernel_rfl) (by kernel_rfl) hg_13 (jkD (fun w h => h.pick [0, 2, 3] (by kernel_rfl) (by kernel_rfl)) ?_))
        refine jd_f [⟨11, 0, 0⟩] 2 (by kernel_rfl) (by kernel_rfl) (fun w h => h.pick [0, 2, 3] (by kernel_rfl) (by kernel_rfl)) (by kernel_rfl) (by kernel_rfl) ?_
        obtain ⟨x_3, hx_14, h⟩ := bd h
        refine jd_v 13 0 (by kernel_rfl) (fun w h => h.pick [0, 2, 3] (by kernel_rfl) (by kernel_rfl)) (by kernel_rfl) (by kernel_rfl) _ (fun w hm => idx_run (a := (some ⟨d1_b, 0, none⟩)) (len := 96) (s := 1) (j := (w64 ((w64 n2.fAt) + (w64 x3.fLate)))) (by kernel_rfl) (ix_some hx_14).1 (ltn hx_14 d1.2) rfl) ?_
        refine toD 14 (by kernel_rfl) (p_str 0 1 d1_b 39 encU32 d1.1 [] (w64 ((w64 n2.fAt) + (w64 x3.fLate))) (bOr .u32 x_2 (bShl .u32 1 (u64 x3.fTrack))) 1 0 [(.int .u32 (bOr .u32 x_2 (bShl .u32 1 (u64 x3.fTrack))))] (by kernel_rfl) (by kernel_rfl) (by kernel_rfl) encU32_len hx_14 (by kernel_rfl) (by kernel_rfl) (jkD (fun w h => h.pick [0, 2, 3] (by kernel_rfl) (by kernel_rfl)) ?_))
        refine jd_end (by kernel_rfl) ?_
        refine jx_then ?_
        refine jc_seq ?_
        refine jc_region ?_
        refine jo_f [(0, 0)] (by kernel_rfl) ?_
        refine jo_end (by kernel_rfl) ?_
        refine jx_then ?_
        refine jc_ret ?_
        obtain rfl := Option.some.inj h
        exact jx_ret [] (.bool true) [] rfl (by kernel_rfl) (by kernel_rfl) (fun w hm => ⟨rfl, hm.pick [0, 1] (by kernel_rfl) (by kernel_rfl)⟩)
      · obtain ⟨hg_15, h⟩ := gd h
        refine p_shl 0 .u32 1 .u64 (u64 x3.fTrack) (by kernel_rfl) (by kernel_rfl) hg_15 (jkD (fun w h => h.pick [0, 2, 3] (by kernel_rfl) (by kernel_rfl)) ?_)
        refine toD 6 (by kernel_rfl) (p_ld 0 (aB (some ⟨d1_b, 0, none⟩)) (aO (some ⟨d1_b, 0, none⟩) + (w64 ((w64 n2.fAt) + (w64 x3.fLate))).toNat * 1) false (encU32 x_2) (by kernel_rfl) (by kernel_rfl) (by kernel_rfl) (fun w hm => ((hm.ownRow (hh := 1) (o := (some d1_b)) (T := 39) (enc := encU32) (xs := d1.1) (sp := []) (by kernel_rfl) (fun e => nomatch e) encU32_len).at hx_12)) (jkD (fun w h => h.pick [0, 2, 3] (by kernel_rfl) (by kernel_rfl)) ?_))
        refine jd_f [⟨11, 0, 0⟩] 2 (by kernel_rfl) (by kernel_rfl) (fun w h => h.pick [0, 2, 3] (by kernel_rfl) (by kernel_rfl)) (by kernel_rfl) (by kernel_rfl) ?_
        obtain ⟨x_3, hx_16, h⟩ := bd h
        refine jd_v 13 0 (by kernel_rfl) (fun w h => h.pick [0, 2, 3] (by kernel_rfl) (by kernel_rfl)) (by kernel_rfl) (by kernel_rfl) _ (fun w hm => idx_run (a := (some ⟨d1_b, 0, none⟩)) (len := 96) (s := 1) (j := (w64 ((w64 n2.fAt) + (w64 x3.fLate)))) (by kernel_rfl) (ix_some hx_16).1 (ltn hx_16 d1.2) rfl) ?_
        refine toD 14 (by kernel_rfl) (p_str 0 1 d1_b 39 encU32 d1.1 [] (w64 ((w64 n2.fAt) + (w64 x3.fLate))) (bOr .u32 x_2 (bShl .u32 1 (u64 x3.fTrack))) 1 0 [(.int .u32 (bOr .u32 x_2 (bShl .u32 1 (u64 x3.fTrack))))] (by kernel_rfl) (by kernel_rfl) (by kernel_rfl) encU32_len hx_16 (by kernel_rfl) (by kernel_rfl) (jkD (fun w h => h.pick [0, 2, 3] (by kernel_rfl) (by kernel_rfl)) ?_))
        refine jd_end (by kernel_rfl) ?_
        refine jx_then ?_
        refine jc_seq ?_
        refine jc_region ?_
        refine jo_f [(0, 0)] (by kernel_rfl) ?_
        refine jo_end (by kernel_rfl) ?_
        refine jx_then ?_
        refine jc_ret ?_
        obtain rfl := Option.some.inj h
        exact jx_ret [] (.bool true) [] rfl (by kernel_rfl) (by kernel_rfl) (fun w hm => ⟨rfl, hm.pick [0, 1] (by kernel_rfl) (by kernel_rfl)⟩)

/-! ### spec.A2Choices -/
noncomputable def spec_A2Choices.k_6 (xs_2 : List GChoice) (a_3 : Arr 96 Int) (i_4 : Int) (i_5 : Int) : Option ((List GChoice)) := some xs_2
noncomputable def spec_A2Choices.k_23 (xs_7 : List GChoice) (i_11 : Int) (t_16 : Int × Gl00Src) (a_18 : Arr 96 Int) (q_19 : Bool) (i_20 : Int) (i_21 : Int) (i_22 : Int) : Option (((List GChoice) × (Arr 96 Int) × Int × Int × Int) ⊕ (((List GChoice) × (Arr 96 Int) × Int × Int))) := (if xs_7.length + [(⟨q_19, i_20, i_21, i_22⟩ : GChoice)].length ≤ 4294967296 then some (.inl ((xs_7 ++ [(⟨q_19, i_20, i_21, i_22⟩ : GChoice)]), a_18, t_16.2.fat, t_16.2.fseed, (w64 (i_11 + 1)))) else none)
noncomputable def spec_A2Choices.l_12 (code0 : List Int) (f1 : GFrame) (t2 : List GNote) : ((List GChoice) × (Arr 96 Int) × Int × Int × Int) → Option (((List GChoice) × (Arr 96 Int) × Int × Int × Int) ⊕ (((List GChoice) × (Arr 96 Int) × Int × Int)))
  | (xs_7, a_8, i_9, i_10, i_11) => (if (decide (i_11 < (t2.length : Int))) = true then (ix t2 i_11).bind fun x_14 => (spec_l07For f1 x_14).bind fun t_15 => (spec_l00Src_pick (⟨code0, i_9, i_10⟩ : Gl00Src) (t_15.length : Int)).bind fun t_16 => (ix t_15 t_16.1).bind fun x_17 => (ix t2 i_11).bind fun x_24 => (spec_l07Put f1 a_8 x_24 x_17).bind fun t_25 => (if (!t_25.1) = true then spec_A2Choices.k_23 xs_7 i_11 t_16 t_25.2 true 0 0 0 else spec_A2Choices.k_23 xs_7 i_11 t_16 t_25.2 x_17.fAway x_17.fLate x_17.fOctave x_17.fTrack) else some (.inr (xs_7, a_8, i_9, i_10)))
noncomputable def spec_A2Choices (code0 : List Int) (f1 : GFrame) (t2 : List GNote) : Option ((List GChoice)) := (spec_l00From code0).bind fun t_1 => (loop (spec_A2Choices.l_12 code0 f1 t2) (([] : List GChoice), (Arr.rep 96 0), t_1.fat, t_1.fseed, 0)).bind fun t_13 => spec_A2Choices.k_6 t_13.1 t_13.2.1 t_13.2.2.1 t_13.2.2.2
set_option maxRecDepth 100000 in
theorem spec_A2Choices.calls (code0 : List Int) (f1 : GFrame) (t2 : List GNote) (w : World) (r : (List GChoice)) (code0_a : Option Addr) (code0_an : Nat) (code0_c : Nat) (code0_h : Rw w code0_a 1 encU8 code0) (code0_hn : code0.length = code0_an) (f1_fHammers_a : Option Addr) (f1_fHammers_an : Nat) (f1_fHammers_c : Nat) (f1_fHammers_h : Rw w f1_fHammers_a 2 encGHammer f1.fHammers) (f1_fHammers_hn : f1.fHammers.length = f1_fHammers_an) (t2_a : Option Addr) (t2_an : Nat) (t2_c : Nat) (t2_h : Rw w t2_a 2 encGNote t2) (t2_hn : t2.length = t2_an) (h : spec_A2Choices code0 f1 t2 = some r) :
    Calls Tryz.prog 6 #[(.slice code0_a code0_an code0_c), (.agg #[(.int .i16 f1.fSteps), (.slice f1_fHammers_a f1_fHammers_an f1_fHammers_c)]), (.slice t2_a t2_an t2_c)] w fun e w' => ∃ v, e = .returned v ∧ (∃ (o0 : Option Nat) (c0 : Nat) (s0 : List Value) (n0 : Nat), r.length = n0 ∧ (o0 ≠ none → n0 ≤ c0 ∧ s0.length = (c0 - n0) * 4) ∧ (o0 = none → r = [] ∧ c0 = 0) ∧ v = .slice (o0.map fun b => ⟨b, 0, none⟩) n0 c0 ∧ Mem w [] [⟨o0, 58, row encGChoice r s0⟩] w') := by
  subst code0_hn f1_fHammers_hn t2_hn
  rw [spec_A2Choices] at h
  refine enter (args := [(.slice code0_a code0.length code0_c), (.agg #[(.int .i16 f1.fSteps), (.slice f1_fHammers_a f1.fHammers.length f1_fHammers_c)]), (.slice t2_a t2.length t2_c)]) Tryz.func6 rfl Tryz.ntmps6 (by kernel_rfl) (L := []) (W := []) (Mem.start w) ?_
  refine jc_seq ?_
  refine jc_region ?_
  refine toO (by kernel_rfl) (p_a 0 [0] (by kernel_rfl) (fun b => by kernel_rfl) (fun b_1 => jkO ?_))
  refine jo_f [(0, 0)] (by kernel_rfl) ?_
  refine jo_end (by kernel_rfl) ?_
  refine jx_then ?_
  refine jc_seq ?_
  refine jc_region ?_
  refine jo_f [(0, 0)] (by kernel_rfl) ?_
  obtain ⟨t_1, ht_2, h⟩ := bd h
  refine toO (by kernel_rfl) (p_call 0 25 #[(.slice code0_a code0.length code0_c)] (by kernel_rfl) (by kernel_rfl) (fun w hm => spec_l00From.calls code0 w _ code0_a code0.length code0_c (hm.exRow code0_h List.not_mem_nil) rfl ht_2) ?_)
  rintro w v w' hm ⟨b_3, rfl, hm'⟩
  refine ⟨_, hm.app hm', jkO ?_⟩
  clear hm hm'
  refine jo_f [(0, 0)] (by kernel_rfl) ?_
  refine jo_end (by kernel_rfl) ?_
  refine jx_then ?_
  refine jc_seq ?_
  refine jc_region ?_
  refine toO (by kernel_rfl) (p_a 0 [0] (by kernel_rfl) (fun b => by kernel_rfl) (fun b_4 => jkO ?_))
  refine jo_f [(0, 0)] (by kernel_rfl) ?_
  refine jo_end (by kernel_rfl) ?_
  refine jx_then ?_
  refine jc_seq ?_
  refine jc_region ?_
  refine jo_f [(0, 0)] (by kernel_rfl) ?_
  refine toO (by kernel_rfl) (p_a 0 [0] (by kernel_rfl) (fun b => by kernel_rfl) (fun b_5 => jkO ?_))
  refine toO (by kernel_rfl) (p_sA 0 3 b_5 96 1 39 encU32 (Arr.rep 96 0) (Arr.rep 96 0) (by kernel_rfl) (by kernel_rfl) (by kernel_rfl) encU32_len encU32_cell (by kernel_rfl) (jkO ?_))
  refine jo_end (by kernel_rfl) ?_
  refine jx_then ?_
  refine jc_seq ?_
  refine jc_seq ?_
  refine jc_region ?_
  refine jo_f [(0, 0)] (by kernel_rfl) ?_
  refine jo_end (by kernel_rfl) ?_
  refine jx_then ?_
  refine jc_meet (fun (j : (List GChoice) × (Arr 96 Int) × Int × Int × (Option Nat) × Nat × (List Value) × Nat) => match j with | ⟨xs_2, a_3, i_4, i_5, o_303, cap_304, sp_305, n_306⟩ => spec_A2Choices.k_6 xs_2 a_3 i_4 i_5 = some r ∧ (xs_2.length = n_306) ∧ ((o_303 ≠ none → n_306 ≤ cap_304 ∧ sp_305.length = (cap_304 - n_306) * 4)) ∧ ((o_303 = none → xs_2 = [] ∧ cap_304 = 0))) (fun (j : (List GChoice) × (Arr 96 Int) × Int × Int × (Option Nat) × Nat × (List Value) × Nat) => match j with | ⟨xs_2, a_3, i_4, i_5, o_303, cap_304, sp_305, n_306⟩ => [(6, [], (.slice none 0 0)), (8, [], (.slice (o_303.map fun b => ⟨b, 0, none⟩) n_306 cap_304))]) (fun (j : (List GChoice) × (Arr 96 Int) × Int × Int × (Option Nat) × Nat × (List Value) × Nat) => match j with | ⟨xs_2, a_3, i_4, i_5, o_303, cap_304, sp_305, n_306⟩ => [⟨some b_1, 27, [(.int .i16 f1.fSteps), (.slice f1_fHammers_a f1.fHammers.length f1_fHammers_c)]⟩, ⟨some b_3, 101, [(.slice code0_a code0.length code0_c), (.int .i64 i_4), (.int .u64 i_5)]⟩, ⟨o_303, 58, row encGChoice xs_2 sp_305⟩, ⟨(some b_5), 39, row encU32 a_3.1 []⟩]) ?_ ?_
  · refine jc_block ?_
    obtain ⟨t_13, ht_405, hr_375⟩ := bd h
    refine jc_loop (fun (s : (List GChoice) × (Arr 96 Int) × Int × Int × Int) (x : (Option Nat) × Nat × (List Value) × Nat) => match s, x with | ⟨xs_7, a_8, i_9, i_10, i_11⟩, ⟨o_369, cap_370, sp_371, n_372⟩ => (xs_7.length = n_372) ∧ ((o_369 ≠ none → n_372 ≤ cap_370 ∧ sp_371.length = (cap_370 - n_372) * 4)) ∧ ((o_369 = none → xs_7 = [] ∧ cap_370 = 0))) (fun (s : (List GChoice) × (Arr 96 Int) × Int × Int × Int) (x : (Option Nat) × Nat × (List Value) × Nat) => match s, x with | ⟨xs_7, a_8, i_9, i_10, i_11⟩, ⟨o_369, cap_370, sp_371, n_372⟩ => [(2, [], (.slice t2_a t2.length t2_c)), (4, [], (.pointer (some ⟨b_1, 0, none⟩))), (6, [], (.slice none 0 0)), (7, [], (.pointer (some ⟨b_3, 0, none⟩))), (8, [], (.slice (o_369.map fun b => ⟨b, 0, none⟩) n_372 cap_370)), (9, [], (.pointer (some ⟨b_5, 0, none⟩))), (10, [], (.int .i64 i_11))]) (fun (s : (List GChoice) × (Arr 96 Int) × Int × Int × Int) (x : (Option Nat) × Nat × (List Value) × Nat) => match s, x with | ⟨xs_7, a_8, i_9, i_10, i_11⟩, ⟨o_369, cap_370, sp_371, n_372⟩ => [⟨some b_1, 27, [(.int .i16 f1.fSteps), (.slice f1_fHammers_a f1.fHammers.length f1_fHammers_c)]⟩, ⟨some b_3, 101, [(.slice code0_a code0.length code0_c), (.int .i64 i_9), (.int .u64 i_10)]⟩, ⟨o_369, 58, row encGChoice xs_7 sp_371⟩, ⟨(some b_5), 39, row encU32 a_8.1 []⟩]) ht_405 ⟨(some b_4), 0, [], 0⟩ ⟨rfl, (fun _ => ⟨Nat.le_refl _, by simp⟩), (fun e => nomatch e)⟩ (by kernel_rfl) [0, 1, 2, 3] (by kernel_rfl) (by kernel_rfl) ?_
    rintro ⟨xs_7, a_8, i_9, i_10, i_11⟩ ⟨o_369, cap_370, sp_371, n_372⟩ y_376 ⟨rfl, hs_373, ho_374⟩ h
    rw [spec_A2Choices.l_12] at h
    refine jc_seq ?_
    refine jc_seq ?_
    refine jc_region ?_
    refine jo_f [(0, 0), (0, 0), (0, 0), (0, 0)] (by kernel_rfl) ?_
    refine jo_end (by kernel_rfl) ?_
    refine jx_then ?_
    refine jc_cond (decide (i_11 < (t2.length : Int))) (by kernel_rfl) (fun hc_378 => ?_) (fun hc_378 => ?_)
    · replace h := ifT hc_378 h
      refine jc_skip ?_
      refine jx_then ?_
      refine jc_seq ?_
      refine jc_block ?_
      refine jc_seq ?_
      refine jc_region ?_
      refine jo_f [(0, 0), (0, 0)] (by kernel_rfl) ?_
      obtain ⟨x_14, hx_379, h⟩ := bd h
      refine toO (by kernel_rfl) (p_idx 0 t2_a t2.length i_11 2 (by kernel_rfl) (by kernel_rfl) (ix_some hx_379).1 (ltn hx_379 rfl) (t2_h.sp hx_379) (jkO ?_))
      refine toO (by kernel_rfl) (p_ld 0 (aB t2_a) (aO t2_a + i_11.toNat * 2) true (encGNote x_14) (by kernel_rfl) (by kernel_rfl) (by kernel_rfl) (fun w hm => ((hm.exRow t2_h List.not_mem_nil).at hx_379)) (jkO ?_))
      obtain ⟨t_15, ht_380, h⟩ := bd h
      refine toO (by kernel_rfl) (p_call 0 26 #[(.pointer (some ⟨b_1, 0, none⟩)), (.agg #[(.int .i16 x_14.fAt), (.int .i8 x_14.fPitch)])] (by kernel_rfl) (by kernel_rfl) (fun w hm => spec_l07For.calls f1 x_14 w _ f1_fHammers_a f1.fHammers.length f1_fHammers_c (hm.exRow f1_fHammers_h List.not_mem_nil) rfl b_1 (hm.pass (N := [⟨some b_1, 27, [(.int .i16 f1.fSteps), (.slice f1_fHammers_a f1.fHammers.length f1_fHammers_c)]⟩]) [0] (by kernel_rfl) (by kernel_rfl)) (hm.exApart (N := [⟨some b_1, 27, [(.int .i16 f1.fSteps), (.slice f1_fHammers_a f1.fHammers.length f1_fHammers_c)]⟩]) f1_fHammers_h (fun _ => List.not_mem_nil) [0] (by kernel_rfl)) ht_380) ?_)
      rintro w v w' hm ⟨o_381, cap_382, sp_383, _, rfl, hs_384, ho_385, rfl, hm'⟩
      refine ⟨_, hm.appW (ps := [(0, ⟨some b_1, 27, [(.int .i16 f1.fSteps), (.slice f1_fHammers_a f1.fHammers.length f1_fHammers_c)]⟩)]) (N := [⟨o_381, 58, row encGChoice t_15 sp_383⟩]) hm' (by kernel_rfl) (by kernel_rfl), jkO ?_⟩
      clear hm hm'
      refine jo_f [(0, 0)] (by kernel_rfl) ?_
      refine jo_end (by kernel_rfl) ?_
      refine jx_then ?_
      refine jc_seq ?_
      refine jc_region ?_
      refine jo_f [(0, 0), (0, 0), (0, 0), (0, 0)] (by kernel_rfl) ?_
      obtain ⟨t_16, ht_386, h⟩ := bd h
      refine toO (by kernel_rfl) (p_call 0 27 #[(.pointer (some ⟨b_3, 0, none⟩)), (.int .i64 (t_15.length : Int))] (by kernel_rfl) (by kernel_rfl) (fun w hm => spec_l00Src_pick.calls (⟨code0, i_9, i_10⟩ : Gl00Src) (t_15.length : Int) w _ code0_a code0.length code0_c (hm.exRow code0_h List.not_mem_nil) rfl b_3 (hm.pass (N := [⟨some b_3, 101, [(.slice code0_a code0.length code0_c), (.int .i64 i_9), (.int .u64 i_10)]⟩]) [1] (by kernel_rfl) (by kernel_rfl)) (hm.exApart (N := [⟨some b_3, 101, [(.slice code0_a code0.length code0_c), (.int .i64 i_9), (.int .u64 i_10)]⟩]) code0_h (fun _ => List.not_mem_nil) [1] (by kernel_rfl)) ht_386) ?_)
      rintro w v w' hm ⟨rfl, hm'⟩
      refine ⟨_, hm.appW (ps := [(1, ⟨some b_3, 101, [(.slice code0_a code0.length code0_c), (.int .i64 t_16.2.fat), (.int .u64 t_16.2.fseed)]⟩)]) (N := []) hm' (by kernel_rfl) (by kernel_rfl), jkO ?_⟩
      clear hm hm'
      obtain ⟨x_17, hx_387, h⟩ := bd h
      refine toO (by kernel_rfl) (p_idx 0 (o_381.map fun b => ⟨b, 0, none⟩) t_15.length t_16.1 4 (by kernel_rfl) (by kernel_rfl) (ix_some hx_387).1 (ltn hx_387 rfl) (spo ho_385 hx_387) (jkO ?_))
      refine toO (by kernel_rfl) (p_ld 0 (aB (o_381.map fun b => ⟨b, 0, none⟩)) (aO (o_381.map fun b => ⟨b, 0, none⟩) + t_16.1.toNat * 4) true (encGChoice x_17) (by kernel_rfl) (by kernel_rfl) (by kernel_rfl) (fun w hm => ((hm.ownRow (hh := 4) (o := o_381) (T := 58) (enc := encGChoice) (xs := t_15) (sp := sp_383) (by kernel_rfl) (fun e => (ho_385 e).1) encGChoice_len).at hx_387)) (jkO ?_))
      refine toO (by kernel_rfl) (p_a 0 [0] (by kernel_rfl) (fun b => by kernel_rfl) (fun b_388 => jkO ?_))
      refine toO (by kernel_rfl) (p_s 0 [5] (by kernel_rfl) (by kernel_rfl) (jkO ?_))
      refine jo_end (by kernel_rfl) ?_
      refine jx_then ?_
      refine jc_seq ?_
      refine jc_meet (fun (j : (Arr 96 Int) × Bool × Int × Int × Int) => match j with | ⟨a_18, q_19, i_20, i_21, i_22⟩ => spec_A2Choices.k_23 xs_7 i_11 t_16 a_18 q_19 i_20 i_21 i_22 = some y_376) (fun (j : (Arr 96 Int) × Bool × Int × Int × Int) => match j with | ⟨a_18, q_19, i_20, i_21, i_22⟩ => [(2, [], (.slice t2_a t2.length t2_c)), (4, [], (.pointer (some ⟨b_1, 0, none⟩))), (6, [], (.slice none 0 0)), (7, [], (.pointer (some ⟨b_3, 0, none⟩))), (8, [], (.slice (o_369.map fun b => ⟨b, 0, none⟩) xs_7.length cap_370)), (9, [], (.pointer (some ⟨b_5, 0, none⟩))), (10, [], (.int .i64 i_11)), (12, [], (.pointer (some ⟨b_388, 0, none⟩)))]) (fun (j : (Arr 96 Int) × Bool × Int × Int × Int) => match j with | ⟨a_18, q_19, i_20, i_21, i_22⟩ => [⟨some b_1, 27, [(.int .i16 f1.fSteps), (.slice f1_fHammers_a f1.fHammers.length f1_fHammers_c)]⟩, ⟨some b_3, 101, [(.slice code0_a code0.length code0_c), (.int .i64 t_16.2.fat), (.int .u64 t_16.2.fseed)]⟩, ⟨o_369, 58, row encGChoice xs_7 sp_371⟩, ⟨(some b_5), 39, row encU32 a_18.1 []⟩, ⟨o_381, 58, row encGChoice t_15 sp_383⟩, ⟨some b_388, 58, [(.bool q_19), (.int .i8 i_20), (.int .i8 i_21), (.int .i8 i_22)]⟩]) ?_ ?_
      · refine jc_seq ?_
        refine jc_draw [⟨some b_1, 27, [(.int .i16 f1.fSteps), (.slice f1_fHammers_a f1.fHammers.length f1_fHammers_c)]⟩, ⟨some b_3, 101, [(.slice code0_a code0.length code0_c), (.int .i64 t_16.2.fat), (.int .u64 t_16.2.fseed)]⟩, ⟨o_369, 58, row encGChoice xs_7 sp_371⟩, ⟨o_381, 58, row encGChoice t_15 sp_383⟩, ⟨some b_388, 58, [(.bool x_17.fAway), (.int .i8 x_17.fLate), (.int .i8 x_17.fOctave), (.int .i8 x_17.fTrack)]⟩] 7 (by kernel_rfl) (by kernel_rfl) ?_
        refine jd_f [⟨0, 0, 0⟩, ⟨1, 0, 0⟩, ⟨4, 4, 0⟩] 4 (by kernel_rfl) (by kernel_rfl) (fun w h => h.pick [0, 1, 2, 4, 5] (by kernel_rfl) (by kernel_rfl)) (by kernel_rfl) (by kernel_rfl) ?_
        obtain ⟨x_24, hx_401, h⟩ := bd h
        refine jd_v 2 0 (by kernel_rfl) (fun w h => h.pick [0, 1, 2, 4, 5] (by kernel_rfl) (by kernel_rfl)) (by kernel_rfl) (by kernel_rfl) _ (fun w hm => idx_run (a := t2_a) (len := t2.length) (s := 2) (j := i_11) (by kernel_rfl) (ix_some hx_401).1 (ltn hx_401 rfl) (t2_h.sp hx_401)) ?_
        refine jd_v 3 0 (by kernel_rfl) (fun w h => h.pick [0, 1, 2, 4, 5] (by kernel_rfl) (by kernel_rfl)) (by kernel_rfl) (by kernel_rfl) _ (fun w hm => ld_run (b := aB t2_a) (off := (aO t2_a + i_11.toNat * 2)) (s := 2) (agg := true) (vs := (encGNote x_24)) (by kernel_rfl) (by kernel_rfl) (.inl rfl) ((hm.exRow t2_h List.not_mem_nil).at hx_401)) ?_
        obtain ⟨t_25, ht_402, h⟩ := bd h
        refine toD 5 (by kernel_rfl) (p_call 0 28 #[(.pointer (some ⟨b_1, 0, none⟩)), (.pointer (some ⟨b_5, 0, none⟩)), (.agg #[(.int .i16 x_24.fAt), (.int .i8 x_24.fPitch)]), (.agg #[(.bool x_17.fAway), (.int .i8 x_17.fLate), (.int .i8 x_17.fOctave), (.int .i8 x_17.fTrack)])] (by kernel_rfl) (by kernel_rfl) (fun w hm => spec_l07Put.calls f1 a_8 x_24 x_17 w _ f1_fHammers_a f1.fHammers.length f1_fHammers_c (hm.exRow f1_fHammers_h List.not_mem_nil) rfl b_1 b_5 (hm.pass (N := [⟨some b_1, 27, [(.int .i16 f1.fSteps), (.slice f1_fHammers_a f1.fHammers.length f1_fHammers_c)]⟩, ⟨(some b_5), 39, row encU32 a_8.1 []⟩]) [0, 3] (by kernel_rfl) (by kernel_rfl)) (hm.exApart (N := [⟨some b_1, 27, [(.int .i16 f1.fSteps), (.slice f1_fHammers_a f1.fHammers.length f1_fHammers_c)]⟩, ⟨(some b_5), 39, row encU32 a_8.1 []⟩]) f1_fHammers_h (fun _ => List.not_mem_nil) [0, 3] (by kernel_rfl)) ht_402) ?_)
        rintro w v w' hm ⟨rfl, hm'⟩
        refine ⟨_, hm.appW (ps := [(0, ⟨some b_1, 27, [(.int .i16 f1.fSteps), (.slice f1_fHammers_a f1.fHammers.length f1_fHammers_c)]⟩), (3, ⟨(some b_5), 39, row encU32 t_25.2.1 []⟩)]) (N := []) hm' (by kernel_rfl) (by kernel_rfl), jkD (fun w h => h.pick [0, 1, 2, 4, 5] (by kernel_rfl) (by kernel_rfl)) ?_⟩
        clear hm hm'
        refine jd_f [⟨6, 0, 0⟩] 0 (by kernel_rfl) (by kernel_rfl) (fun w h => h.pick [0, 1, 2, 4, 5] (by kernel_rfl) (by kernel_rfl)) (by kernel_rfl) (by kernel_rfl) ?_
        refine jd_end (by kernel_rfl) ?_
        refine jx_then ?_
        refine jc_cond (!t_25.1) (by kernel_rfl) (fun hc_403 => ?_) (fun hc_403 => ?_)
        · replace h := ifT hc_403 h
          refine jc_region ?_
          refine jo_f [(0, 0)] (by kernel_rfl) ?_
          refine toO (by kernel_rfl) (p_s 0 [5] (by kernel_rfl) (by kernel_rfl) (jkO ?_))
          refine jo_end (by kernel_rfl) ?_
          exact jx_meet ⟨t_25.2, true, 0, 0, 0⟩ h (by kernel_rfl) [0, 1, 2, 3, 4, 5] (by kernel_rfl) (by kernel_rfl)
        · replace h := ifF hc_403 h
          refine jc_skip ?_
          exact jx_meet ⟨t_25.2, x_17.fAway, x_17.fLate, x_17.fOctave, x_17.fTrack⟩ h (by kernel_rfl) [0, 1, 2, 3, 4, 5] (by kernel_rfl) (by kernel_rfl)
      · rintro ⟨a_18, q_19, i_20, i_21, i_22⟩ h
        replace h : spec_A2Choices.k_23 xs_7 i_11 t_16 a_18 q_19 i_20 i_21 i_22 = some y_376 := h
        rw [spec_A2Choices.k_23] at h
        refine jx_then ?_
        refine jc_region ?_
        refine jo_f [(0, 0), (5, 0)] (by kernel_rfl) ?_
        refine toO (by kernel_rfl) (p_a 0 [0] (by kernel_rfl) (fun b => by kernel_rfl) (fun b_393 => jkO ?_))
        obtain ⟨hg_394, h⟩ := gd h
        refine toO (by kernel_rfl) (p_apn 0 2 o_369 58 xs_7.length 1 cap_370 4 4 (some ⟨b_393, 0, none⟩) encGChoice xs_7 [(⟨q_19, i_20, i_21, i_22⟩ : GChoice)] sp_371 (.agg #[(.bool false), (.int .i8 0), (.int .i8 0), (.int .i8 0)]) rfl rfl (by kernel_rfl) (by kernel_rfl) (by kernel_rfl) encGChoice_len encGChoice_cell hs_373 ho_374 (fun w hm => (hm.ownRow (hh := 6) (o := (some b_393)) (T := 58) (enc := encGChoice) (xs := [(⟨q_19, i_20, i_21, i_22⟩ : GChoice)]) (sp := []) (by kernel_rfl) (fun e => nomatch e) encGChoice_len)) hg_394 (by kernel_rfl) (by kernel_rfl) (fun o_395 cap_396 sp_397 hs_398 ho_399 => jkO ?_))
        refine jo_f [(0, 0)] (by kernel_rfl) ?_
        refine jo_end (by kernel_rfl) ?_
        refine jx_inn ?_
        refine jx_then ?_
        refine jc_region ?_
        refine jo_f [(0, 0), (0, 0), (0, 0)] (by kernel_rfl) ?_
        refine jo_end (by kernel_rfl) ?_
        exact jx_back ((xs_7 ++ [(⟨q_19, i_20, i_21, i_22⟩ : GChoice)]), a_18, t_16.2.fat, t_16.2.fseed, (w64 (i_11 + 1))) ⟨o_395, cap_396, sp_397, (xs_7 ++ [(⟨q_19, i_20, i_21, i_22⟩ : GChoice)]).length⟩ (Option.some.inj h).symm ⟨rfl, hs_398, ho_399⟩ [0, 1, 2, 3] (by kernel_rfl) (by kernel_rfl) (by kernel_rfl)
    · replace h := ifF hc_378 h
      refine jc_exit ?_
      refine jx_thenx ?_
      refine jx_leave (xs_7, a_8, i_9, i_10) (Option.some.inj h).symm (fun e_404 => ?_)
      subst e_404
      refine jx_ine ?_
      exact jx_meet ⟨xs_7, a_8, i_9, i_10, o_369, cap_370, sp_371, xs_7.length⟩ ⟨hr_375, rfl, hs_373, ho_374⟩ (by kernel_rfl) [0, 1, 2, 3] (by kernel_rfl) (by kernel_rfl)
  · rintro ⟨xs_2, a_3, i_4, i_5, o_303, cap_304, sp_305, n_306⟩ ⟨h, rfl, hs_307, ho_308⟩
    replace h : spec_A2Choices.k_6 xs_2 a_3 i_4 i_5 = some r := h
    rw [spec_A2Choices.k_6] at h
    refine jx_then ?_
    refine jc_seq ?_
    refine jc_region ?_
    refine jo_f [(0, 0), (0, 0)] (by kernel_rfl) ?_
    refine jo_end (by kernel_rfl) ?_
    refine jx_then ?_
    refine jc_ret ?_
    obtain rfl := Option.some.inj h
    exact jx_ret [] (.slice (o_303.map fun b => ⟨b, 0, none⟩) xs_2.length cap_304) [] rfl (by kernel_rfl) (by kernel_rfl) (fun w hm => ⟨o_303, cap_304, sp_305, xs_2.length, rfl, hs_307, ho_308, rfl, hm.pick [2] (by kernel_rfl) (by kernel_rfl)⟩)

/-! ### impl.within -/
noncomputable def impl_within (n0 : Int) (low1 : Int) (high2 : Int) : Option (Bool) := some ((decide (low1 ≤ n0)) && (decide (n0 ≤ high2)))
set_option maxRecDepth 100000 in
theorem impl_within.calls (n0 : Int) (low1 : Int) (high2 : Int) (w : World) (r : Bool) (h : impl_within n0 low1 high2 = some r) :
    Calls Tryz.prog 50 #[(.int .i64 n0), (.int .i64 low1), (.int .i64 high2)] w fun e w' => ∃ v, e = .returned v ∧ (v = (.bool r) ∧ Mem w [] [] w') := by
  rw [impl_within] at h
  refine enter (args := [(.int .i64 n0), (.int .i64 low1), (.int .i64 high2)]) Tryz.func50 rfl Tryz.ntmps50 (by kernel_rfl) (L := []) (W := []) (Mem.start w) ?_
  refine jc_seq ?_
  refine jc_region ?_
  refine jo_f [(0, 0)] (by kernel_rfl) ?_
  refine jo_end (by kernel_rfl) ?_
  refine jx_then ?_
  refine jc_seq ?_
  refine jc_region ?_
  refine jo_f [(0, 0), (0, 0), (0, 0), (0, 0), (0, 1), (0, 1), (0, 1), (0, 0), (0, 0)] (by kernel_rfl) ?_
  refine jo_end (by kernel_rfl) ?_
  refine jx_then ?_
  refine jc_ret ?_
  obtain rfl := Option.some.inj h
  exact jx_ret [] (.bool ((decide (low1 ≤ n0)) && (decide (n0 ≤ high2)))) [] rfl (by kernel_rfl) (by kernel_rfl) (fun w hm => ⟨rfl, hm.pick [] (by kernel_rfl) (by kernel_rfl)⟩)

/-! ### impl.ValidChoice -/
noncomputable def impl_ValidChoice (x0 : GChoice) : Option (Bool) := (if x0.fAway = true then some ((x0.fAway == true) && ((x0.fLate == 0) && ((x0.fOctave == 0) && (x0.fTrack == 0)))) else (impl_within (w64 x0.fLate) (-3) 3).bind fun t_1 => (if t_1 = true then (impl_within (w64 x0.fOctave) (-1) 1).bind fun t_2 => (if t_2 = true then (impl_within (w64 x0.fTrack) 0 23).bind fun t_3 => some t_3 else some false) else some false))
set_option maxRecDepth 100000 in
theorem impl_ValidChoice.calls (x0 : GChoice) (w : World) (r : Bool) (h : impl_ValidChoice x0 = some r) :
    Calls Tryz.prog 23 #[(.agg #[(.bool x0.fAway), (.int .i8 x0.fLate), (.int .i8 x0.fOctave), (.int .i8 x0.fTrack)])] w fun e w' => ∃ v, e = .returned v ∧ (v = (.bool r) ∧ Mem w [] [] w') := by
  rw [impl_ValidChoice] at h
  refine enter (args := [(.agg #[(.bool x0.fAway), (.int .i8 x0.fLate), (.int .i8 x0.fOctave), (.int .i8 x0.fTrack)])]) Tryz.func23 rfl Tryz.ntmps23 (by kernel_rfl) (L := []) (W := []) (Mem.start w) ?_
  refine jc_seq ?_
  refine jc_region ?_
  refine toO (by kernel_rfl) (p_a 0 [0] (by kernel_rfl) (fun b => by kernel_rfl) (fun b_1 => jkO ?_))
  refine jo_f [(0, 0)] (by kernel_rfl) ?_
  refine jo_end (by kernel_rfl) ?_
  refine jx_then ?_
  refine jc_seq ?_
  refine jc_seq ?_
  refine jc_region ?_
  refine jo_f [(0, 0), (0, 0)] (by kernel_rfl) ?_
  refine jo_end (by kernel_rfl) ?_
  refine jx_then ?_
  refine jc_cond x0.fAway (by kernel_rfl) (fun hc_3 => ?_) (fun hc_3 => ?_)
  · replace h := ifT hc_3 h
    refine jc_seq ?_
    refine jc_region ?_
    refine jo_f [(0, 0), (0, 0), (0, 0), (0, 0)] (by kernel_rfl) ?_
    refine jo_end (by kernel_rfl) ?_
    refine jx_then ?_
    refine jc_ret ?_
    refine jx_thenr ?_
    obtain rfl := Option.some.inj h
    exact jx_ret [] (.bool ((x0.fAway == true) && ((x0.fLate == 0) && ((x0.fOctave == 0) && (x0.fTrack == 0))))) [] rfl (by kernel_rfl) (by kernel_rfl) (fun w hm => ⟨rfl, hm.pick [] (by kernel_rfl) (by kernel_rfl)⟩)
  · replace h := ifF hc_3 h
    refine jc_skip ?_
    refine jx_then ?_
    refine jc_seq ?_
    refine jc_region ?_
    refine jo_f [(0, 0), (0, 0), (0, 0)] (by kernel_rfl) ?_
    obtain ⟨t_1, ht_4, h⟩ := bd h
    refine toO (by kernel_rfl) (p_call 0 50 #[(.int .i64 (w64 x0.fLate)), (.int .i64 (-3)), (.int .i64 3)] (by kernel_rfl) (by kernel_rfl) (fun w hm => impl_within.calls (w64 x0.fLate) (-3) 3 w _ ht_4) ?_)
    rintro w v w' hm ⟨rfl, hm'⟩
    refine ⟨_, hm.app hm', jkO ?_⟩
    clear hm hm'
    refine jo_f [(0, 0), (0, 1), (0, 1), (0, 1)] (by kernel_rfl) ?_
    refine jo_split 12 t_1 (by kernel_rfl) (fun hc_5 => ?_) (fun hc_5 => ?_)
    · replace h := ifT hc_5 h
      obtain ⟨t_2, ht_6, h⟩ := bd h
      refine toO (by kernel_rfl) (p_call 2 50 #[(.int .i64 (w64 x0.fOctave)), (.int .i64 (-1)), (.int .i64 1)] (by kernel_rfl) (by kernel_rfl) (fun w hm => impl_within.calls (w64 x0.fOctave) (-1) 1 w _ ht_6) ?_)
      rintro w v w' hm ⟨rfl, hm'⟩
      refine ⟨_, hm.app hm', jkO ?_⟩
      clear hm hm'
      refine jo_f [(0, 4), (0, 0), (0, 1), (0, 1), (0, 1)] (by kernel_rfl) ?_
      refine jo_split 18 t_2 (by kernel_rfl) (fun hc_7 => ?_) (fun hc_7 => ?_)
      · replace h := ifT hc_7 h
        obtain ⟨t_3, ht_8, h⟩ := bd h
        refine toO (by kernel_rfl) (p_call 2 50 #[(.int .i64 (w64 x0.fTrack)), (.int .i64 0), (.int .i64 23)] (by kernel_rfl) (by kernel_rfl) (fun w hm => impl_within.calls (w64 x0.fTrack) 0 23 w _ ht_8) ?_)
        rintro w v w' hm ⟨rfl, hm'⟩
        refine ⟨_, hm.app hm', jkO ?_⟩
        clear hm hm'
        refine jo_f [(0, 4), (0, 0)] (by kernel_rfl) ?_
        refine jo_end (by kernel_rfl) ?_
        refine jx_then ?_
        refine jc_ret ?_
        obtain rfl := Option.some.inj h
        exact jx_ret [] (.bool t_3) [] rfl (by kernel_rfl) (by kernel_rfl) (fun w hm => ⟨rfl, hm.pick [] (by kernel_rfl) (by kernel_rfl)⟩)
      · replace h := ifF hc_7 h
        refine jo_f [(0, 3), (0, 5), (0, 0)] (by kernel_rfl) ?_
        refine jo_end (by kernel_rfl) ?_
        refine jx_then ?_
        refine jc_ret ?_
        obtain rfl := Option.some.inj h
        exact jx_ret [] (.bool false) [] rfl (by kernel_rfl) (by kernel_rfl) (fun w hm => ⟨rfl, hm.pick [] (by kernel_rfl) (by kernel_rfl)⟩)
    · replace h := ifF hc_5 h
      refine jo_f [(0, 3), (0, 5), (0, 0), (0, 3), (0, 3), (0, 3), (0, 3), (0, 5), (0, 0)] (by kernel_rfl) ?_
      refine jo_end (by kernel_rfl) ?_
      refine jx_then ?_
      refine jc_ret ?_
      obtain rfl := Option.some.inj h
      exact jx_ret [] (.bool false) [] rfl (by kernel_rfl) (by kernel_rfl) (fun w hm => ⟨rfl, hm.pick [] (by kernel_rfl) (by kernel_rfl)⟩)

/-! ### impl.choicesCode$1 -/
noncomputable def impl_choicesCode_1 (x0 : GChoice) : Option (Bool) := (impl_ValidChoice x0).bind fun t_1 => some (!t_1)
set_option maxRecDepth 100000 in
theorem impl_choicesCode_1.calls (x0 : GChoice) (w : World) (r : Bool) (h : impl_choicesCode_1 x0 = some r) :
    Calls Tryz.prog 62 #[(.agg #[(.bool x0.fAway), (.int .i8 x0.fLate), (.int .i8 x0.fOctave), (.int .i8 x0.fTrack)])] w fun e w' => ∃ v, e = .returned v ∧ (v = (.bool r) ∧ Mem w [] [] w') := by
  rw [impl_choicesCode_1] at h
  refine enter (args := [(.agg #[(.bool x0.fAway), (.int .i8 x0.fLate), (.int .i8 x0.fOctave), (.int .i8 x0.fTrack)])]) Tryz.func62 rfl Tryz.ntmps62 (by kernel_rfl) (L := []) (W := []) (Mem.start w) ?_
  refine jc_seq ?_
  refine jc_region ?_
  refine toO (by kernel_rfl) (p_a 0 [0] (by kernel_rfl) (fun b => by kernel_rfl) (fun b_1 => jkO ?_))
  refine jo_f [(0, 0)] (by kernel_rfl) ?_
  refine jo_end (by kernel_rfl) ?_
  refine jx_then ?_
  refine jc_seq ?_
  refine jc_region ?_
  refine jo_f [(0, 0)] (by kernel_rfl) ?_
  obtain ⟨t_1, ht_2, h⟩ := bd h
  refine toO (by kernel_rfl) (p_call 0 23 #[(.agg #[(.bool x0.fAway), (.int .i8 x0.fLate), (.int .i8 x0.fOctave), (.int .i8 x0.fTrack)])] (by kernel_rfl) (by kernel_rfl) (fun w hm => impl_ValidChoice.calls x0 w _ ht_2) ?_)
  rintro w v w' hm ⟨rfl, hm'⟩
  refine ⟨_, hm.app hm', jkO ?_⟩
  clear hm hm'
  refine jo_f [(0, 0), (0, 0)] (by kernel_rfl) ?_
  refine jo_end (by kernel_rfl) ?_
  refine jx_then ?_
  refine jc_ret ?_
  obtain rfl := Option.some.inj h
  exact jx_ret [] (.bool (!t_1)) [] rfl (by kernel_rfl) (by kernel_rfl) (fun w hm => ⟨rfl, hm.pick [] (by kernel_rfl) (by kernel_rfl)⟩)

/-! ### slices.IndexFunc[[]impl.Choice,impl.Choice] -/
noncomputable def slices_IndexFunc_Choice_at_impl_choicesCode_1.k_1 : Option (Int) := some (-1)
noncomputable def slices_IndexFunc_Choice_at_impl_choicesCode_1.l_3 (s0 : List GChoice) : Int → Option ((Int) ⊕ (Int ⊕ Unit))
  | i_2 => (if (decide (i_2 < (s0.length : Int))) = true then (ix s0 i_2).bind fun x_5 => (impl_choicesCode_1 x_5).bind fun t_6 => (if t_6 = true then some (.inr (.inl i_2)) else some (.inl (w64 (i_2 + 1)))) else some (.inr (.inr ())))
noncomputable def slices_IndexFunc_Choice_at_impl_choicesCode_1 (s0 : List GChoice) : Option (Int) := (loop (slices_IndexFunc_Choice_at_impl_choicesCode_1.l_3 s0) 0).bind fun t_4 => match t_4 with | .inl p => some p | .inr p => slices_IndexFunc_Choice_at_impl_choicesCode_1.k_1
set_option maxRecDepth 100000 in
theorem slices_IndexFunc_Choice_at_impl_choicesCode_1.calls (s0 : List GChoice) (w : World) (r : Int) (s0_a : Option Addr) (s0_an : Nat) (s0_c : Nat) (s0_h : Rw w s0_a 4 encGChoice s0) (s0_hn : s0.length = s0_an) (h : slices_IndexFunc_Choice_at_impl_choicesCode_1 s0 = some r) :
    Calls Tryz.prog 95 #[(.slice s0_a s0_an s0_c), (.func (.func 62) #[] #[])] w fun e w' => ∃ v, e = .returned v ∧ (v = (.int .i64 r) ∧ Mem w [] [] w') := by
  subst s0_hn
  rw [slices_IndexFunc_Choice_at_impl_choicesCode_1] at h
  refine enter (args := [(.slice s0_a s0.length s0_c), (.func (.func 62) #[] #[])]) Tryz.func95 rfl Tryz.ntmps95 (by kernel_rfl) (L := []) (W := []) (Mem.start w) ?_
  refine jc_seq ?_
  refine jc_region ?_
  refine jo_f [(0, 0)] (by kernel_rfl) ?_
  refine jo_end (by kernel_rfl) ?_
  refine jx_then ?_
  refine jc_seq ?_
  refine jc_seq ?_
  refine jc_region ?_
  refine jo_f [(0, 0), (0, 0), (0, 0)] (by kernel_rfl) ?_
  refine jo_end (by kernel_rfl) ?_
  refine jx_then ?_
  refine jc_meet (fun (_ : Unit) => slices_IndexFunc_Choice_at_impl_choicesCode_1.k_1 = some r) (fun (_ : Unit) => [(4, [], (.int .i64 0))]) (fun (_ : Unit) => []) ?_ ?_
  · refine jc_block ?_
    obtain ⟨t_4, ht_40, hr_31⟩ := bd h
    refine jc_loop (fun (s : Int) (x : Unit) => match s, x with | i_2, _ => True) (fun (s : Int) (x : Unit) => match s, x with | i_2, _ => [(0, [], (.slice s0_a s0.length s0_c)), (1, [], (.func (.func 62) #[] #[])), (4, [], (.int .i64 0)), (7, [], (.int .i64 (s0.length : Int))), (8, [], (.int .i64 i_2))]) (fun (s : Int) (x : Unit) => match s, x with | i_2, _ => []) ht_40 () trivial (by kernel_rfl) [] (by kernel_rfl) (by kernel_rfl) ?_
    rintro i_2 _ y_32 _ h
    rw [slices_IndexFunc_Choice_at_impl_choicesCode_1.l_3] at h
    refine jc_seq ?_
    refine jc_region ?_
    refine jo_f [(0, 0)] (by kernel_rfl) ?_
    refine jo_end (by kernel_rfl) ?_
    refine jx_then ?_
    refine jc_seq ?_
    refine jc_cond (decide (i_2 < (s0.length : Int))) (by kernel_rfl) (fun hc_34 => ?_) (fun hc_34 => ?_)
    · replace h := ifT hc_34 h
      refine jc_skip ?_
      refine jx_then ?_
      refine jc_seq ?_
      refine jc_block ?_
      refine jc_seq ?_
      refine jc_region ?_
      refine jo_f [(0, 0), (0, 0)] (by kernel_rfl) ?_
      refine jo_end (by kernel_rfl) ?_
      refine jx_then ?_
      refine jc_seq ?_
      refine jc_region ?_
      refine jo_f [(0, 0), (0, 0), (0, 0)] (by kernel_rfl) ?_
      obtain ⟨x_5, hx_35, h⟩ := bd h
      refine toO (by kernel_rfl) (p_idx 0 s0_a s0.length i_2 4 (by kernel_rfl) (by kernel_rfl) (ix_some hx_35).1 (ltn hx_35 rfl) (s0_h.sp hx_35) (jkO ?_))
      refine toO (by kernel_rfl) (p_ld 0 (aB s0_a) (aO s0_a + i_2.toNat * 4) true (encGChoice x_5) (by kernel_rfl) (by kernel_rfl) (by kernel_rfl) (fun w hm => ((hm.exRow s0_h List.not_mem_nil).at hx_35)) (jkO ?_))
      obtain ⟨t_6, ht_36, h⟩ := bd h
      refine toO (by kernel_rfl) (p_call 0 62 #[(.agg #[(.bool x_5.fAway), (.int .i8 x_5.fLate), (.int .i8 x_5.fOctave), (.int .i8 x_5.fTrack)])] (by kernel_rfl) (by kernel_rfl) (fun w hm => impl_choicesCode_1.calls x_5 w _ ht_36) ?_)
      rintro w v w' hm ⟨rfl, hm'⟩
      refine ⟨_, hm.app hm', jkO ?_⟩
      clear hm hm'
      refine jo_end (by kernel_rfl) ?_
      refine jx_then ?_
      refine jc_cond t_6 (by kernel_rfl) (fun hc_37 => ?_) (fun hc_37 => ?_)
      · replace h := ifT hc_37 h
        refine jc_seq ?_
        refine jc_region ?_
        refine jo_f [(0, 0), (0, 0)] (by kernel_rfl) ?_
        refine jo_end (by kernel_rfl) ?_
        refine jx_then ?_
        refine jc_ret ?_
        refine jx_inr ?_
        refine jx_thenr ?_
        refine jx_leaver (.inl i_2) (Option.some.inj h).symm (fun e_38 => ?_)
        subst e_38
        refine jx_inr ?_
        refine jx_thenr ?_
        refine jx_thenr ?_
        obtain rfl := Option.some.inj hr_31
        exact jx_ret [] (.int .i64 i_2) [] rfl (by kernel_rfl) (by kernel_rfl) (fun w hm => ⟨rfl, hm.pick [] (by kernel_rfl) (by kernel_rfl)⟩)
      · replace h := ifF hc_37 h
        refine jc_skip ?_
        refine jx_inn ?_
        refine jx_then ?_
        refine jc_region ?_
        refine jo_f [(0, 0), (0, 0)] (by kernel_rfl) ?_
        refine jo_end (by kernel_rfl) ?_
        exact jx_back (w64 (i_2 + 1)) () (Option.some.inj h).symm trivial [] (by kernel_rfl) (by kernel_rfl) (by kernel_rfl)
    · replace h := ifF hc_34 h
      refine jc_exit ?_
      refine jx_thenx ?_
      refine jx_leave (.inr ()) (Option.some.inj h).symm (fun e_39 => ?_)
      subst e_39
      refine jx_ine ?_
      exact jx_meet () hr_31 (by kernel_rfl) [] (by kernel_rfl) (by kernel_rfl)
  · rintro _ h
    replace h : slices_IndexFunc_Choice_at_impl_choicesCode_1.k_1 = some r := h
    rw [slices_IndexFunc_Choice_at_impl_choicesCode_1.k_1] at h
    refine jx_then ?_
    refine jc_seq ?_
    refine jc_region ?_
    refine jo_f [(0, 0)] (by kernel_rfl) ?_
    refine jo_end (by kernel_rfl) ?_
    refine jx_then ?_
    refine jc_ret ?_
    obtain rfl := Option.some.inj h
    exact jx_ret [] (.int .i64 (-1)) [] rfl (by kernel_rfl) (by kernel_rfl) (fun w hm => ⟨rfl, hm.pick [] (by kernel_rfl) (by kernel_rfl)⟩)

/-! ### slices.ContainsFunc[[]impl.Choice,impl.Choice] -/
noncomputable def slices_ContainsFunc_Choice_at_impl_choicesCode_1 (s0 : List GChoice) : Option (Bool) := (slices_IndexFunc_Choice_at_impl_choicesCode_1 s0).bind fun t_1 => some (decide (t_1 ≥ 0))
set_option maxRecDepth 100000 in
theorem slices_ContainsFunc_Choice_at_impl_choicesCode_1.calls (s0 : List GChoice) (w : World) (r : Bool) (s0_a : Option Addr) (s0_an : Nat) (s0_c : Nat) (s0_h : Rw w s0_a 4 encGChoice s0) (s0_hn : s0.length = s0_an) (h : slices_ContainsFunc_Choice_at_impl_choicesCode_1 s0 = some r) :
    Calls Tryz.prog 61 #[(.slice s0_a s0_an s0_c), (.func (.func 62) #[] #[])] w fun e w' => ∃ v, e = .returned v ∧ (v = (.bool r) ∧ Mem w [] [] w') := by
  subst s0_hn
  rw [slices_ContainsFunc_Choice_at_impl_choicesCode_1] at h
  refine enter (args := [(.slice s0_a s0.length s0_c), (.func (.func 62) #[] #[])]) Tryz.func61 rfl Tryz.ntmps61 (by kernel_rfl) (L := []) (W := []) (Mem.start w) ?_
  refine jc_seq ?_
  refine jc_region ?_
  refine jo_f [(0, 0)] (by kernel_rfl) ?_
  refine jo_end (by kernel_rfl) ?_
  refine jx_then ?_
  refine jc_seq ?_
  refine jc_region ?_
  refine jo_f [(0, 0), (0, 0)] (by kernel_rfl) ?_
  obtain ⟨t_1, ht_1, h⟩ := bd h
  refine toO (by kernel_rfl) (p_call 0 95 #[(.slice s0_a s0.length s0_c), (.func (.func 62) #[] #[])] (by kernel_rfl) (by kernel_rfl) (fun w hm => slices_IndexFunc_Choice_at_impl_choicesCode_1.calls s0 w _ s0_a s0.length s0_c (hm.exRow s0_h List.not_mem_nil) rfl ht_1) ?_)
  rintro w v w' hm ⟨rfl, hm'⟩
  refine ⟨_, hm.app hm', jkO ?_⟩
  clear hm hm'
  refine jo_f [(0, 0), (0, 0)] (by kernel_rfl) ?_
  refine jo_end (by kernel_rfl) ?_
  refine jx_then ?_
  refine jc_ret ?_
  obtain rfl := Option.some.inj h
  exact jx_ret [] (.bool (decide (t_1 ≥ 0))) [] rfl (by kernel_rfl) (by kernel_rfl) (fun w hm => ⟨rfl, hm.pick [] (by kernel_rfl) (by kernel_rfl)⟩)

/-! ### impl.unless -/
noncomputable def impl_unless (is0 : Bool) (code1 : Int) : Option (Int) := (if is0 = true then some 0 else some code1)
set_option maxRecDepth 100000 in
theorem impl_unless.calls (is0 : Bool) (code1 : Int) (w : World) (r : Int) (h : impl_unless is0 code1 = some r) :
    Calls Tryz.prog 60 #[(.bool is0), (.int .i64 code1)] w fun e w' => ∃ v, e = .returned v ∧ (v = (.int .i64 r) ∧ Mem w [] [] w') := by
  rw [impl_unless] at h
  refine enter (args := [(.bool is0), (.int .i64 code1)]) Tryz.func60 rfl Tryz.ntmps60 (by kernel_rfl) (L := []) (W := []) (Mem.start w) ?_
  refine jc_seq ?_
  refine jc_region ?_
  refine jo_f [(0, 0)] (by kernel_rfl) ?_
  refine jo_end (by kernel_rfl) ?_
  refine jx_then ?_
  refine jc_seq ?_
  refine jc_seq ?_
  refine jc_region ?_
  refine jo_f [(0, 0)] (by kernel_rfl) ?_
  refine jo_end (by kernel_rfl) ?_
  refine jx_then ?_
  refine jc_cond is0 (by kernel_rfl) (fun hc_2 => ?_) (fun hc_2 => ?_)
  · replace h := ifT hc_2 h
    refine jc_seq ?_
    refine jc_region ?_
    refine jo_f [(0, 0)] (by kernel_rfl) ?_
    refine jo_end (by kernel_rfl) ?_
    refine jx_then ?_
    refine jc_ret ?_
    refine jx_thenr ?_
    obtain rfl := Option.some.inj h
    exact jx_ret [] (.int .i64 0) [] rfl (by kernel_rfl) (by kernel_rfl) (fun w hm => ⟨rfl, hm.pick [] (by kernel_rfl) (by kernel_rfl)⟩)
  · replace h := ifF hc_2 h
    refine jc_skip ?_
    refine jx_then ?_
    refine jc_seq ?_
    refine jc_region ?_
    refine jo_f [(0, 0), (0, 0)] (by kernel_rfl) ?_
    refine jo_end (by kernel_rfl) ?_
    refine jx_then ?_
    refine jc_ret ?_
    obtain rfl := Option.some.inj h
    exact jx_ret [] (.int .i64 code1) [] rfl (by kernel_rfl) (by kernel_rfl) (fun w hm => ⟨rfl, hm.pick [] (by kernel_rfl) (by kernel_rfl)⟩)

/-! ### impl.choicesCode -/
noncomputable def impl_choicesCode (list0 : List GChoice) : Option (Int) := (slices_ContainsFunc_Choice_at_impl_choicesCode_1 list0).bind fun t_1 => (impl_unless (!t_1) 1).bind fun t_2 => some t_2
set_option maxRecDepth 100000 in
theorem impl_choicesCode.calls (list0 : List GChoice) (w : World) (r : Int) (list0_a : Option Addr) (list0_an : Nat) (list0_c : Nat) (list0_h : Rw w list0_a 4 encGChoice list0) (list0_hn : list0.length = list0_an) (h : impl_choicesCode list0 = some r) :
    Calls Tryz.prog 32 #[(.slice list0_a list0_an list0_c)] w fun e w' => ∃ v, e = .returned v ∧ (v = (.int .i64 r) ∧ Mem w [] [] w') := by
  subst list0_hn
  rw [impl_choicesCode] at h
  refine enter (args := [(.slice list0_a list0.length list0_c)]) Tryz.func32 rfl Tryz.ntmps32 (by kernel_rfl) (L := []) (W := []) (Mem.start w) ?_
  refine jc_seq ?_
  refine jc_region ?_
  refine jo_f [(0, 0)] (by kernel_rfl) ?_
  refine jo_end (by kernel_rfl) ?_
  refine jx_then ?_
  refine jc_seq ?_
  refine jc_region ?_
  refine jo_f [(0, 0)] (by kernel_rfl) ?_
  obtain ⟨t_1, ht_1, h⟩ := bd h
  refine toO (by kernel_rfl) (p_call 0 61 #[(.slice list0_a list0.length list0_c), (.func (.func 62) #[] #[])] (by kernel_rfl) (by kernel_rfl) (fun w hm => slices_ContainsFunc_Choice_at_impl_choicesCode_1.calls list0 w _ list0_a list0.length list0_c (hm.exRow list0_h List.not_mem_nil) rfl ht_1) ?_)
  rintro w v w' hm ⟨rfl, hm'⟩
  refine ⟨_, hm.app hm', jkO ?_⟩
  clear hm hm'
  refine jo_f [(0, 0)] (by kernel_rfl) ?_
  obtain ⟨t_2, ht_2, h⟩ := bd h
  refine toO (by kernel_rfl) (p_call 0 60 #[(.bool (!t_1)), (.int .i64 1)] (by kernel_rfl) (by kernel_rfl) (fun w hm => impl_unless.calls (!t_1) 1 w _ ht_2) ?_)
  rintro w v w' hm ⟨rfl, hm'⟩
  refine ⟨_, hm.app hm', jkO ?_⟩
  clear hm hm'
  refine jo_f [(0, 0)] (by kernel_rfl) ?_
  refine jo_end (by kernel_rfl) ?_
  refine jx_then ?_
  refine jc_ret ?_
  obtain rfl := Option.some.inj h
  exact jx_ret [] (.int .i64 t_2) [] rfl (by kernel_rfl) (by kernel_rfl) (fun w hm => ⟨rfl, hm.pick [] (by kernel_rfl) (by kernel_rfl)⟩)

def lay_strconv_FormatInt_ren : Go.Shelf.Ren := ⟨fun | 173 => 63 | 246 => 96 | 283 => 125 | 284 => 126 | 285 => 127 | 286 => 128 | 129 => 155 | 317 => 154 | 318 => 156 | 319 => 157 | 320 => 158 | 337 => 174 | 338 => 175 | n => n, fun | 2 => 2 | 3 => 3 | 9 => 9 | 4 => 4 | 171 => 175 | 0 => 0 | 53 => 99 | 37 => 22 | 5 => 5 | 173 => 178 | 212 => 201 | 51 => 37 | 20 => 20 | 213 => 202 | 46 => 105 | 232 => 231 | 233 => 232 | n => n, fun | 17 => 3 | 18 => 6 | 19 => 7 | n => n⟩
theorem lay_strconv_FormatInt : Go.Proofs.LaysM.n173 Tryz.prog lay_strconv_FormatInt_ren where
  mixed := by kernel_rfl
  f129 := Tryz.func155.trans (congrArg some (by kernel_rfl))
  f173 := Tryz.func63.trans (congrArg some (by kernel_rfl))
  f246 := Tryz.func96.trans (congrArg some (by kernel_rfl))
  f283 := Tryz.func125.trans (congrArg some (by kernel_rfl))
  f284 := Tryz.func126.trans (congrArg some (by kernel_rfl))
  f285 := Tryz.func127.trans (congrArg some (by kernel_rfl))
  f286 := Tryz.func128.trans (congrArg some (by kernel_rfl))
  f317 := Tryz.func154.trans (congrArg some (by kernel_rfl))
  f318 := Tryz.func156.trans (congrArg some (by kernel_rfl))
  f319 := Tryz.func157.trans (congrArg some (by kernel_rfl))
  f320 := Tryz.func158.trans (congrArg some (by kernel_rfl))
  f337 := Tryz.func174.trans (congrArg some (by kernel_rfl))
  f338 := Tryz.func175.trans (congrArg some (by kernel_rfl))
  t0 := Tryz.underlying0
  a0 := Tryz.isAgg0
  z0 := Tryz.sizeOf0
  v0 := Tryz.zeroValue0
  t2 := Tryz.underlying2
  a2 := Tryz.isAgg2
  z2 := Tryz.sizeOf2
  v2 := Tryz.zeroValue2
  t3 := Tryz.underlying3
  a3 := Tryz.isAgg3
  z3 := Tryz.sizeOf3
  v3 := Tryz.zeroValue3
  t4 := Tryz.underlying4
  a4 := Tryz.isAgg4
  z4 := Tryz.sizeOf4
  v4 := Tryz.zeroValue4
  t5 := Tryz.underlying5
  a5 := Tryz.isAgg5
  z5 := Tryz.sizeOf5
  v5 := Tryz.zeroValue5
  t9 := Tryz.underlying9
  a9 := Tryz.isAgg9
  z9 := Tryz.sizeOf9
  v9 := Tryz.zeroValue9
  t20 := Tryz.underlying20
  a20 := Tryz.isAgg20
  z20 := Tryz.sizeOf20
  v20 := Tryz.zeroValue20
  t37 := Tryz.underlying22
  a37 := Tryz.isAgg22
  z37 := Tryz.sizeOf22
  v37 := Tryz.zeroValue22
  t46 := Tryz.underlying105
  a46 := Tryz.isAgg105
  z46 := Tryz.sizeOf105
  v46 := Tryz.zeroValue105
  t51 := Tryz.underlying37
  a51 := Tryz.isAgg37
  z51 := Tryz.sizeOf37
  v51 := Tryz.zeroValue37
  t53 := Tryz.underlying99
  a53 := Tryz.isAgg99
  z53 := Tryz.sizeOf99
  v53 := Tryz.zeroValue99
  t171 := Tryz.underlying175
  a171 := Tryz.isAgg175
  z171 := Tryz.sizeOf175
  v171 := Tryz.zeroValue175
  t173 := Tryz.underlying178
  a173 := Tryz.isAgg178
  z173 := Tryz.sizeOf178
  v173 := Tryz.zeroValue178
  t212 := Tryz.underlying201
  a212 := Tryz.isAgg201
  z212 := Tryz.sizeOf201
  v212 := Tryz.zeroValue201
  t213 := Tryz.underlying202
  a213 := Tryz.isAgg202
  z213 := Tryz.sizeOf202
  t232 := Tryz.underlying231
  a232 := Tryz.isAgg231
  z232 := Tryz.sizeOf231
  v232 := Tryz.zeroValue231
  t233 := Tryz.underlying232
  a233 := Tryz.isAgg232
  z233 := Tryz.sizeOf232
  v233 := Tryz.zeroValue232
  g17 := by kernel_rfl
  g18 := by kernel_rfl
  g19 := by kernel_rfl
  i0 := by kernel_rfl
  i2 := by kernel_rfl
  i3 := by kernel_rfl
  i4 := by kernel_rfl
  i5 := by kernel_rfl
  i9 := by kernel_rfl
  i20 := by kernel_rfl
  i37 := by kernel_rfl
  i46 := by kernel_rfl
  i51 := by kernel_rfl
  i53 := by kernel_rfl
  i171 := by kernel_rfl
  i173 := by kernel_rfl
  i212 := by kernel_rfl
  i232 := by kernel_rfl
  i233 := by kernel_rfl
  m17 := by kernel_rfl
  m18 := by kernel_rfl
  m19 := by kernel_rfl
/-! ### strconv.FormatInt -/
noncomputable def strconv_FormatInt (i0 : Int) (base1 : Int) : Option (ByteArray) := fmtF i0 base1
set_option maxRecDepth 100000 in
theorem strconv_FormatInt.calls (i0 : Int) (base1 : Int) (w : World) (r : ByteArray) (g_pw : Glpw w) (h : strconv_FormatInt i0 base1 = some r) :
    Calls Tryz.prog 63 #[(.int .i64 i0), (.int .i64 base1)] w fun e w' => ∃ v, e = .returned v ∧ (v = (.string r) ∧ Mem w [] [] w') := by
  rw [strconv_FormatInt] at h
  exact fmt_calls lay_strconv_FormatInt i0 base1 w r g_pw.pw h

/-! ### impl.decimal -/
noncomputable def impl_decimal (n0 : Int) : Option (ByteArray) := (strconv_FormatInt n0 10).bind fun t_1 => some t_1
set_option maxRecDepth 100000 in
theorem impl_decimal.calls (n0 : Int) (w : World) (r : ByteArray) (g_pw : Glpw w) (h : impl_decimal n0 = some r) :
    Calls Tryz.prog 33 #[(.int .i64 n0)] w fun e w' => ∃ v, e = .returned v ∧ (v = (.string r) ∧ Mem w [] [] w') := by
  rw [impl_decimal] at h
  refine enter (args := [(.int .i64 n0)]) Tryz.func33 rfl Tryz.ntmps33 (by kernel_rfl) (L := []) (W := []) (Mem.start w) ?_
  refine jc_seq ?_
  refine jc_region ?_
  refine jo_f [(0, 0)] (by kernel_rfl) ?_
  refine jo_end (by kernel_rfl) ?_
  refine jx_then ?_
  refine jc_seq ?_
  refine jc_region ?_
  refine jo_f [(0, 0)] (by kernel_rfl) ?_
  obtain ⟨t_1, ht_1, h⟩ := bd h
  refine toO (by kernel_rfl) (p_call 0 63 #[(.int .i64 n0), (.int .i64 10)] (by kernel_rfl) (by kernel_rfl) (fun w hm => strconv_FormatInt.calls n0 10 w _ (g_pw.keep hm) ht_1) ?_)
  rintro w v w' hm ⟨rfl, hm'⟩
  refine ⟨_, hm.app hm', jkO ?_⟩
  clear hm hm'
  refine jo_f [(0, 0)] (by kernel_rfl) ?_
  refine jo_end (by kernel_rfl) ?_
  refine jx_then ?_
  refine jc_ret ?_
  obtain rfl := Option.some.inj h
  exact jx_ret [] (.string t_1) [] rfl (by kernel_rfl) (by kernel_rfl) (fun w hm => ⟨rfl, hm.pick [] (by kernel_rfl) (by kernel_rfl)⟩)

def lay_strings_Join_ren : Go.Shelf.Ren := ⟨fun | 156 => 34 | 165 => 64 | 166 => 65 | 169 => 66 | 240 => 97 | 241 => 98 | 276 => 129 | 277 => 130 | n => n, fun | 31 => 72 | 9 => 9 | 3 => 3 | 4 => 4 | 0 => 0 | 20 => 20 | 72 => 118 | 76 => 120 | 70 => 116 | 37 => 22 | 75 => 110 | 127 => 148 | 164 => 180 | 5 => 5 | 80 => 122 | n => n, fun | n => n⟩
theorem lay_strings_Join : Go.Proofs.Lays.n156 Tryz.prog lay_strings_Join_ren where
  mixed := by kernel_rfl
  f156 := Tryz.func34.trans (congrArg some (by kernel_rfl))
  f165 := Tryz.func64.trans (congrArg some (by kernel_rfl))
  f166 := Tryz.func65.trans (congrArg some (by kernel_rfl))
  f169 := Tryz.func66.trans (congrArg some (by kernel_rfl))
  f240 := Tryz.func97.trans (congrArg some (by kernel_rfl))
  f241 := Tryz.func98.trans (congrArg some (by kernel_rfl))
  f276 := Tryz.func129.trans (congrArg some (by kernel_rfl))
  f277 := Tryz.func130.trans (congrArg some (by kernel_rfl))
  t0 := Tryz.underlying0
  a0 := Tryz.isAgg0
  z0 := Tryz.sizeOf0
  v0 := Tryz.zeroValue0
  t3 := Tryz.underlying3
  a3 := Tryz.isAgg3
  z3 := Tryz.sizeOf3
  v3 := Tryz.zeroValue3
  t4 := Tryz.underlying4
  a4 := Tryz.isAgg4
  z4 := Tryz.sizeOf4
  v4 := Tryz.zeroValue4
  t9 := Tryz.underlying9
  a9 := Tryz.isAgg9
  z9 := Tryz.sizeOf9
  v9 := Tryz.zeroValue9
  t20 := Tryz.underlying20
  a20 := Tryz.isAgg20
  z20 := Tryz.sizeOf20
  v20 := Tryz.zeroValue20
  t31 := Tryz.underlying72
  a31 := Tryz.isAgg72
  z31 := Tryz.sizeOf72
  v31 := Tryz.zeroValue72
  t37 := Tryz.underlying22
  a37 := Tryz.isAgg22
  z37 := Tryz.sizeOf22
  v37 := Tryz.zeroValue22
  t70 := Tryz.underlying116
  a70 := Tryz.isAgg116
  z70 := Tryz.sizeOf116
  v70 := Tryz.zeroValue116
  t72 := Tryz.underlying118
  a72 := Tryz.isAgg118
  z72 := Tryz.sizeOf118
  v72 := Tryz.zeroValue118
  t75 := Tryz.underlying110
  a75 := Tryz.isAgg110
  z75 := Tryz.sizeOf110
  v75 := Tryz.zeroValue110
  t76 := Tryz.underlying120
  a76 := Tryz.isAgg120
  z76 := Tryz.sizeOf120
  v76 := Tryz.zeroValue120
  t127 := Tryz.underlying148
  a127 := Tryz.isAgg148
  z127 := Tryz.sizeOf148
  v127 := Tryz.zeroValue148
  t164 := Tryz.underlying180
  a164 := Tryz.isAgg180
  z164 := Tryz.sizeOf180
  v164 := Tryz.zeroValue180
theorem lay_strings_Join_x : Go.Proofs.Builder.Extra Tryz.prog lay_strings_Join_ren where
  sizeBuilder := by kernel_rfl
  liesBuilder := by kernel_rfl
  t5 := Tryz.underlying5
  a5 := Tryz.isAgg5
  z5 := Tryz.sizeOf5
  v5 := Tryz.zeroValue5
  infoByte := by kernel_rfl
  cellsByte := by kernel_rfl
  sizeByte := by kernel_rfl
  neB5 := by decide
/-! ### strings.Join -/
noncomputable def strings_Join (elems0 : List ByteArray) (sep1 : ByteArray) : Option (ByteArray) := joinF elems0 sep1
set_option maxRecDepth 100000 in
theorem strings_Join.calls (elems0 : List ByteArray) (sep1 : ByteArray) (w : World) (r : ByteArray) (g_lo : Gllo w) (elems0_o : Option Nat) (elems0_on : Nat) (elems0_c : Nat) (elems0_sp : List Value) (elems0_hn : elems0.length = elems0_on) (elems0_hs : elems0_o ≠ none → elems0_on ≤ elems0_c ∧ elems0_sp.length = (elems0_c - elems0_on) * 1) (elems0_ho : elems0_o = none → elems0 = [] ∧ elems0_c = 0) (hm0 : Mem w (bs [elems0_o]) [⟨elems0_o, 9, row encStr elems0 elems0_sp⟩] w) (h : strings_Join elems0 sep1 = some r) :
    Calls Tryz.prog 34 #[(.slice (elems0_o.map fun b => ⟨b, 0, none⟩) elems0_on elems0_c), (.string sep1)] w fun e w' => ∃ v, e = .returned v ∧ (v = (.string r) ∧ Mem w (bs [elems0_o]) [⟨elems0_o, 9, row encStr elems0 elems0_sp⟩] w') := by
  rw [strings_Join] at h
  exact join_calls lay_strings_Join lay_strings_Join_x g_lo.lo _ elems0 sep1 w r elems0_o elems0_on elems0_c elems0_sp elems0_hn elems0_hs elems0_ho hm0 h

/-! ### impl.ChoicesText -/
noncomputable def impl_ChoicesText.k_4 (xs_3 : List ByteArray) : Option (ByteArray) := (strings_Join xs_3 (ByteArray.mk #[32])).bind fun t_5 => some t_5
noncomputable def impl_ChoicesText.k_12 (xs_6 : List ByteArray) (i_7 : Int) (s_11 : ByteArray) : Option (((List ByteArray) × Int) ⊕ ((List ByteArray))) := (if xs_6.length + [s_11].length ≤ 4294967296 then some (.inl ((xs_6 ++ [s_11]), (w64 (i_7 + 1)))) else none)
noncomputable def impl_ChoicesText.l_8 (list0 : List GChoice) : ((List ByteArray) × Int) → Option (((List ByteArray) × Int) ⊕ ((List ByteArray)))
  | (xs_6, i_7) => (if (decide (i_7 < (list0.length : Int))) = true then (ix list0 i_7).bind fun x_10 => (if (!x_10.fAway) = true then (impl_decimal (w64 x_10.fLate)).bind fun t_13 => (if t_13.size + (ByteArray.mk #[47]).size ≤ 9223372036854775807 then (impl_decimal (w64 x_10.fOctave)).bind fun t_14 => (if (t_13 ++ (ByteArray.mk #[47])).size + t_14.size ≤ 9223372036854775807 then (if ((t_13 ++ (ByteArray.mk #[47])) ++ t_14).size + (ByteArray.mk #[47]).size ≤ 9223372036854775807 then (impl_decimal (w64 x_10.fTrack)).bind fun t_15 => (if (((t_13 ++ (ByteArray.mk #[47])) ++ t_14) ++ (ByteArray.mk #[47])).size + t_15.size ≤ 9223372036854775807 then impl_ChoicesText.k_12 xs_6 i_7 ((((t_13 ++ (ByteArray.mk #[47])) ++ t_14) ++ (ByteArray.mk #[47])) ++ t_15) else none) else none) else none) else none) else impl_ChoicesText.k_12 xs_6 i_7 (ByteArray.mk #[120])) else some (.inr xs_6))
noncomputable def impl_ChoicesText.k_2 (list0 : List GChoice) (q_1 : Bool) : Option (ByteArray) := (if q_1 = true then some (ByteArray.mk #[]) else (loop (impl_ChoicesText.l_8 list0) (([] : List ByteArray), 0)).bind fun t_9 => impl_ChoicesText.k_4 t_9)
noncomputable def impl_ChoicesText (list0 : List GChoice) : Option (ByteArray) := (if (decide ((list0.length : Int) > 120)) = true then impl_ChoicesText.k_2 list0 true else (impl_choicesCode list0).bind fun t_16 => impl_ChoicesText.k_2 list0 (t_16 != 0))
set_option maxRecDepth 100000 in
theorem impl_ChoicesText.calls (list0 : List GChoice) (w : World) (r : ByteArray) (g_lo : Gllo w) (g_pw : Glpw w) (list0_a : Option Addr) (list0_an : Nat) (list0_c : Nat) (list0_h : Rw w list0_a 4 encGChoice list0) (list0_hn : list0.length = list0_an) (h : impl_ChoicesText list0 = some r) :
    Calls Tryz.prog 8 #[(.slice list0_a list0_an list0_c)] w fun e w' => ∃ v, e = .returned v ∧ (v = (.string r) ∧ Mem w [] [] w') := by
  subst list0_hn
  rw [impl_ChoicesText] at h
  refine enter (args := [(.slice list0_a list0.length list0_c)]) Tryz.func8 rfl Tryz.ntmps8 (by kernel_rfl) (L := []) (W := []) (Mem.start w) ?_
  refine jc_seq ?_
  refine jc_region ?_
  refine jo_f [(0, 0)] (by kernel_rfl) ?_
  refine jo_end (by kernel_rfl) ?_
  refine jx_then ?_
  refine jc_seq ?_
  refine jc_seq ?_
  refine jc_meet (fun (j : Bool) => match j with | q_1 => impl_ChoicesText.k_2 list0 q_1 = some r) (fun (j : Bool) => match j with | q_1 => [(0, [], (.slice list0_a list0.length list0_c)), (2, [], (.string (ByteArray.mk #[]))), (14, [], (.bool q_1))]) (fun (j : Bool) => match j with | q_1 => []) ?_ ?_
  · refine jc_region ?_
    refine jo_f [(0, 0), (0, 0), (0, 0), (0, 0), (0, 1)] (by kernel_rfl) ?_
    refine jo_split 10 (decide ((list0.length : Int) > 120)) (by kernel_rfl) (fun hc_411 => ?_) (fun hc_411 => ?_)
    · replace h := ifT hc_411 h
      refine jo_f [(0, 3), (0, 3), (0, 4)] (by kernel_rfl) ?_
      refine jo_end (by kernel_rfl) ?_
      exact jx_meet true h (by kernel_rfl) [] (by kernel_rfl) (by kernel_rfl)
    · replace h := ifF hc_411 h
      obtain ⟨t_16, ht_412, h⟩ := bd h
      refine toO (by kernel_rfl) (p_call 2 32 #[(.slice list0_a list0.length list0_c)] (by kernel_rfl) (by kernel_rfl) (fun w hm => impl_choicesCode.calls list0 w _ list0_a list0.length list0_c (hm.exRow list0_h List.not_mem_nil) rfl ht_412) ?_)
      rintro w v w' hm ⟨rfl, hm'⟩
      refine ⟨_, hm.app hm', jkO ?_⟩
      clear hm hm'
      refine jo_f [(0, 2), (0, 5)] (by kernel_rfl) ?_
      refine jo_end (by kernel_rfl) ?_
      exact jx_meet (t_16 != 0) h (by kernel_rfl) [] (by kernel_rfl) (by kernel_rfl)
  · rintro q_1 h
    replace h : impl_ChoicesText.k_2 list0 q_1 = some r := h
    rw [impl_ChoicesText.k_2] at h
    refine jx_then ?_
    refine jc_cond q_1 (by kernel_rfl) (fun hc_8 => ?_) (fun hc_8 => ?_)
    · replace h := ifT hc_8 h
      refine jc_seq ?_
      refine jc_region ?_
      refine jo_f [(0, 0)] (by kernel_rfl) ?_
      refine jo_end (by kernel_rfl) ?_
      refine jx_then ?_
      refine jc_ret ?_
      refine jx_thenr ?_
      obtain rfl := Option.some.inj h
      exact jx_ret [] (.string (ByteArray.mk #[])) [] rfl (by kernel_rfl) (by kernel_rfl) (fun w hm => ⟨rfl, hm.pick [] (by kernel_rfl) (by kernel_rfl)⟩)
    · replace h := ifF hc_8 h
      refine jc_skip ?_
      refine jx_then ?_
      refine jc_seq ?_
      refine jc_region ?_
      refine toO (by kernel_rfl) (p_a 0 [0] (by kernel_rfl) (fun b => by kernel_rfl) (fun b_9 => jkO ?_))
      refine jo_f [(0, 0)] (by kernel_rfl) ?_
      refine jo_end (by kernel_rfl) ?_
      refine jx_then ?_
      refine jc_seq ?_
      refine jc_seq ?_
      refine jc_region ?_
      refine jo_f [(0, 0), (0, 0), (0, 0)] (by kernel_rfl) ?_
      refine jo_end (by kernel_rfl) ?_
      refine jx_then ?_
      refine jc_meet (fun (j : (List ByteArray) × (Option Nat) × Nat × (List Value) × Nat) => match j with | ⟨xs_3, o_307, cap_308, sp_309, n_310⟩ => impl_ChoicesText.k_4 xs_3 = some r ∧ (xs_3.length = n_310) ∧ ((o_307 ≠ none → n_310 ≤ cap_308 ∧ sp_309.length = (cap_308 - n_310) * 1)) ∧ ((o_307 = none → xs_3 = [] ∧ cap_308 = 0))) (fun (j : (List ByteArray) × (Option Nat) × Nat × (List Value) × Nat) => match j with | ⟨xs_3, o_307, cap_308, sp_309, n_310⟩ => [(2, [], (.string (ByteArray.mk #[]))), (3, [], (.slice (o_307.map fun b => ⟨b, 0, none⟩) n_310 cap_308))]) (fun (j : (List ByteArray) × (Option Nat) × Nat × (List Value) × Nat) => match j with | ⟨xs_3, o_307, cap_308, sp_309, n_310⟩ => [⟨o_307, 9, row encStr xs_3 sp_309⟩]) ?_ ?_
      · refine jc_block ?_
        obtain ⟨t_9, ht_410, hr_380⟩ := bd h
        refine jc_loop (fun (s : (List ByteArray) × Int) (x : (Option Nat) × Nat × (List Value) × Nat) => match s, x with | ⟨xs_6, i_7⟩, ⟨o_374, cap_375, sp_376, n_377⟩ => (xs_6.length = n_377) ∧ ((o_374 ≠ none → n_377 ≤ cap_375 ∧ sp_376.length = (cap_375 - n_377) * 1)) ∧ ((o_374 = none → xs_6 = [] ∧ cap_375 = 0))) (fun (s : (List ByteArray) × Int) (x : (Option Nat) × Nat × (List Value) × Nat) => match s, x with | ⟨xs_6, i_7⟩, ⟨o_374, cap_375, sp_376, n_377⟩ => [(2, [], (.string (ByteArray.mk #[]))), (3, [], (.slice (o_374.map fun b => ⟨b, 0, none⟩) n_377 cap_375)), (16, [], (.slice list0_a list0.length list0_c)), (17, [], (.int .i64 (list0.length : Int))), (18, [], (.int .i64 i_7))]) (fun (s : (List ByteArray) × Int) (x : (Option Nat) × Nat × (List Value) × Nat) => match s, x with | ⟨xs_6, i_7⟩, ⟨o_374, cap_375, sp_376, n_377⟩ => [⟨o_374, 9, row encStr xs_6 sp_376⟩]) ht_410 ⟨(some b_9), 0, [], 0⟩ ⟨rfl, (fun _ => ⟨Nat.le_refl _, by simp⟩), (fun e => nomatch e)⟩ (by kernel_rfl) [0] (by kernel_rfl) (by kernel_rfl) ?_
        rintro ⟨xs_6, i_7⟩ ⟨o_374, cap_375, sp_376, n_377⟩ y_381 ⟨rfl, hs_378, ho_379⟩ h
        rw [impl_ChoicesText.l_8] at h
        refine jc_seq ?_
        refine jc_region ?_
        refine jo_f [(0, 0)] (by kernel_rfl) ?_
        refine jo_end (by kernel_rfl) ?_
        refine jx_then ?_
        refine jc_seq ?_
        refine jc_cond (decide (i_7 < (list0.length : Int))) (by kernel_rfl) (fun hc_383 => ?_) (fun hc_383 => ?_)
        · replace h := ifT hc_383 h
          refine jc_skip ?_
          refine jx_then ?_
          refine jc_seq ?_
          refine jc_block ?_
          refine jc_seq ?_
          refine jc_region ?_
          obtain ⟨x_10, hx_384, h⟩ := bd h
          refine toO (by kernel_rfl) (p_idx 0 list0_a list0.length i_7 4 (by kernel_rfl) (by kernel_rfl) (ix_some hx_384).1 (ltn hx_384 rfl) (list0_h.sp hx_384) (jkO ?_))
          refine toO (by kernel_rfl) (p_ld 0 (aB list0_a) (aO list0_a + i_7.toNat * 4) true (encGChoice x_10) (by kernel_rfl) (by kernel_rfl) (by kernel_rfl) (fun w hm => ((hm.exRow list0_h List.not_mem_nil).at hx_384)) (jkO ?_))
          refine toO (by kernel_rfl) (p_a 0 [0] (by kernel_rfl) (fun b => by kernel_rfl) (fun b_385 => jkO ?_))
          refine toO (by kernel_rfl) (p_s 0 [1] (by kernel_rfl) (by kernel_rfl) (jkO ?_))
          refine jo_end (by kernel_rfl) ?_
          refine jx_then ?_
          refine jc_seq ?_
          refine jc_region ?_
          refine jo_f [(0, 0)] (by kernel_rfl) ?_
          refine jo_end (by kernel_rfl) ?_
          refine jx_then ?_
          refine jc_seq ?_
          refine jc_meet (fun (j : ByteArray) => match j with | s_11 => impl_ChoicesText.k_12 xs_6 i_7 s_11 = some y_381) (fun (j : ByteArray) => match j with | s_11 => [(2, [], (.string (ByteArray.mk #[]))), (3, [], (.slice (o_374.map fun b => ⟨b, 0, none⟩) xs_6.length cap_375)), (6, [], (.string s_11)), (16, [], (.slice list0_a list0.length list0_c)), (17, [], (.int .i64 (list0.length : Int))), (18, [], (.int .i64 i_7))]) (fun (j : ByteArray) => match j with | s_11 => [⟨o_374, 9, row encStr xs_6 sp_376⟩, ⟨some b_385, 58, [(.bool x_10.fAway), (.int .i8 x_10.fLate), (.int .i8 x_10.fOctave), (.int .i8 x_10.fTrack)]⟩]) ?_ ?_
          · refine jc_seq ?_
            refine jc_region ?_
            refine jo_f [(0, 0), (1, 0), (0, 0)] (by kernel_rfl) ?_
            refine jo_end (by kernel_rfl) ?_
            refine jx_then ?_
            refine jc_cond (!x_10.fAway) (by kernel_rfl) (fun hc_401 => ?_) (fun hc_401 => ?_)
            · replace h := ifT hc_401 h
              refine jc_draw [⟨o_374, 9, row encStr xs_6 sp_376⟩, ⟨some b_385, 58, [(.bool x_10.fAway), (.int .i8 x_10.fLate), (.int .i8 x_10.fOctave), (.int .i8 x_10.fTrack)]⟩] 17 (by kernel_rfl) (by kernel_rfl) ?_
              refine jd_f [⟨0, 0, 0⟩, ⟨1, 1, 0⟩, ⟨2, 0, 0⟩, ⟨5, 0, 0⟩, ⟨6, 1, 0⟩, ⟨7, 0, 0⟩, ⟨11, 0, 0⟩, ⟨12, 1, 0⟩, ⟨13, 0, 0⟩] 8 (by kernel_rfl) (by kernel_rfl) (fun w h => h.pick [0, 1] (by kernel_rfl) (by kernel_rfl)) (by kernel_rfl) (by kernel_rfl) ?_
              obtain ⟨t_13, ht_402, h⟩ := bd h
              refine toD 3 (by kernel_rfl) (p_call 0 33 #[(.int .i64 (w64 x_10.fLate))] (by kernel_rfl) (by kernel_rfl) (fun w hm => impl_decimal.calls (w64 x_10.fLate) w _ (g_pw.keep hm) ht_402) ?_)
              rintro w v w' hm ⟨rfl, hm'⟩
              refine ⟨_, hm.app hm', jkD (fun w h => h.pick [0, 1] (by kernel_rfl) (by kernel_rfl)) ?_⟩
              clear hm hm'
              obtain ⟨hg_403, h⟩ := gd h
              refine jd_v 4 0 (by kernel_rfl) (fun w h => h.pick [0, 1] (by kernel_rfl) (by kernel_rfl)) (by kernel_rfl) (by kernel_rfl) _ (fun w hm => cat_run (a := t_13) (b := (ByteArray.mk #[47])) (by kernel_rfl) hg_403) ?_
              obtain ⟨t_14, ht_404, h⟩ := bd h
              refine toD 8 (by kernel_rfl) (p_call 0 33 #[(.int .i64 (w64 x_10.fOctave))] (by kernel_rfl) (by kernel_rfl) (fun w hm => impl_decimal.calls (w64 x_10.fOctave) w _ (g_pw.keep hm) ht_404) ?_)
              rintro w v w' hm ⟨rfl, hm'⟩
              refine ⟨_, hm.app hm', jkD (fun w h => h.pick [0, 1] (by kernel_rfl) (by kernel_rfl)) ?_⟩
              clear hm hm'
              obtain ⟨hg_405, h⟩ := gd h
              refine jd_v 9 0 (by kernel_rfl) (fun w h => h.pick [0, 1] (by kernel_rfl) (by kernel_rfl)) (by kernel_rfl) (by kernel_rfl) _ (fun w hm => cat_run (a := (t_13 ++ (ByteArray.mk #[47]))) (b := t_14) (by kernel_rfl) hg_405) ?_
              obtain ⟨hg_406, h⟩ := gd h
              refine jd_v 10 0 (by kernel_rfl) (fun w h => h.pick [0, 1] (by kernel_rfl) (by kernel_rfl)) (by kernel_rfl) (by kernel_rfl) _ (fun w hm => cat_run (a := ((t_13 ++ (ByteArray.mk #[47])) ++ t_14)) (b := (ByteArray.mk #[47])) (by kernel_rfl) hg_406) ?_
              obtain ⟨t_15, ht_407, h⟩ := bd h
              refine toD 14 (by kernel_rfl) (p_call 0 33 #[(.int .i64 (w64 x_10.fTrack))] (by kernel_rfl) (by kernel_rfl) (fun w hm => impl_decimal.calls (w64 x_10.fTrack) w _ (g_pw.keep hm) ht_407) ?_)
              rintro w v w' hm ⟨rfl, hm'⟩
              refine ⟨_, hm.app hm', jkD (fun w h => h.pick [0, 1] (by kernel_rfl) (by kernel_rfl)) ?_⟩
              clear hm hm'
              obtain ⟨hg_408, h⟩ := gd h
              refine jd_v 15 0 (by kernel_rfl) (fun w h => h.pick [0, 1] (by kernel_rfl) (by kernel_rfl)) (by kernel_rfl) (by kernel_rfl) _ (fun w hm => cat_run (a := (((t_13 ++ (ByteArray.mk #[47])) ++ t_14) ++ (ByteArray.mk #[47]))) (b := t_15) (by kernel_rfl) hg_408) ?_
              refine jd_f [⟨16, 0, 0⟩] 0 (by kernel_rfl) (by kernel_rfl) (fun w h => h.pick [0, 1] (by kernel_rfl) (by kernel_rfl)) (by kernel_rfl) (by kernel_rfl) ?_
              refine jd_end (by kernel_rfl) ?_
              exact jx_meet ((((t_13 ++ (ByteArray.mk #[47])) ++ t_14) ++ (ByteArray.mk #[47])) ++ t_15) h (by kernel_rfl) [0, 1] (by kernel_rfl) (by kernel_rfl)
            · replace h := ifF hc_401 h
              refine jc_skip ?_
              exact jx_meet (ByteArray.mk #[120]) h (by kernel_rfl) [0, 1] (by kernel_rfl) (by kernel_rfl)
          · rintro s_11 h
            replace h : impl_ChoicesText.k_12 xs_6 i_7 s_11 = some y_381 := h
            rw [impl_ChoicesText.k_12] at h
            refine jx_then ?_
            refine jc_region ?_
            refine jo_f [(0, 0), (0, 0)] (by kernel_rfl) ?_
            refine toO (by kernel_rfl) (p_a 0 [0] (by kernel_rfl) (fun b => by kernel_rfl) (fun b_394 => jkO ?_))
            obtain ⟨hg_395, h⟩ := gd h
            refine toO (by kernel_rfl) (p_apn 0 0 o_374 9 xs_6.length 1 cap_375 1 16 (some ⟨b_394, 0, none⟩) encStr xs_6 [s_11] sp_376 (.string ByteArray.empty) rfl rfl (by kernel_rfl) (by kernel_rfl) (by kernel_rfl) encStr_len encStr_cell hs_378 ho_379 (fun w hm => (hm.ownRow (hh := 2) (o := (some b_394)) (T := 9) (enc := encStr) (xs := [s_11]) (sp := []) (by kernel_rfl) (fun e => nomatch e) encStr_len)) hg_395 (by kernel_rfl) (by kernel_rfl) (fun o_396 cap_397 sp_398 hs_399 ho_400 => jkO ?_))
            refine jo_f [(0, 0)] (by kernel_rfl) ?_
            refine jo_end (by kernel_rfl) ?_
            refine jx_inn ?_
            refine jx_then ?_
            refine jc_region ?_
            refine jo_f [(0, 0), (0, 0)] (by kernel_rfl) ?_
            refine jo_end (by kernel_rfl) ?_
            exact jx_back ((xs_6 ++ [s_11]), (w64 (i_7 + 1))) ⟨o_396, cap_397, sp_398, (xs_6 ++ [s_11]).length⟩ (Option.some.inj h).symm ⟨rfl, hs_399, ho_400⟩ [0] (by kernel_rfl) (by kernel_rfl) (by kernel_rfl)
        · replace h := ifF hc_383 h
          refine jc_exit ?_
          refine jx_thenx ?_
          refine jx_leave xs_6 (Option.some.inj h).symm (fun e_409 => ?_)
          subst e_409
          refine jx_ine ?_
          exact jx_meet ⟨xs_6, o_374, cap_375, sp_376, xs_6.length⟩ ⟨hr_380, rfl, hs_378, ho_379⟩ (by kernel_rfl) [0] (by kernel_rfl) (by kernel_rfl)
      · rintro ⟨xs_3, o_307, cap_308, sp_309, n_310⟩ ⟨h, rfl, hs_311, ho_312⟩
        replace h : impl_ChoicesText.k_4 xs_3 = some r := h
        rw [impl_ChoicesText.k_4] at h
        refine jx_then ?_
        refine jc_seq ?_
        refine jc_region ?_
        refine jo_f [(0, 0)] (by kernel_rfl) ?_
        obtain ⟨t_5, ht_313, h⟩ := bd h
        refine toO (by kernel_rfl) (p_call 0 34 #[(.slice (o_307.map fun b => ⟨b, 0, none⟩) xs_3.length cap_308), (.string (ByteArray.mk #[32]))] (by kernel_rfl) (by kernel_rfl) (fun w hm => strings_Join.calls xs_3 (ByteArray.mk #[32]) w _ (g_lo.keep hm) o_307 xs_3.length cap_308 sp_309 rfl hs_311 ho_312 (hm.pass (N := [⟨o_307, 9, row encStr xs_3 sp_309⟩]) [0] (by kernel_rfl) (by kernel_rfl)) ht_313) ?_)
        rintro w v w' hm ⟨rfl, hm'⟩
        refine ⟨_, hm.appW (ps := [(0, ⟨o_307, 9, row encStr xs_3 sp_309⟩)]) (N := []) hm' (by kernel_rfl) (by kernel_rfl), jkO ?_⟩
        clear hm hm'
        refine jo_f [(0, 0)] (by kernel_rfl) ?_
        refine jo_end (by kernel_rfl) ?_
        refine jx_then ?_
        refine jc_ret ?_
        obtain rfl := Option.some.inj h
        exact jx_ret [] (.string t_5) [] rfl (by kernel_rfl) (by kernel_rfl) (fun w hm => ⟨rfl, hm.pick [] (by kernel_rfl) (by kernel_rfl)⟩)

def lay_strings_Split_ren : Go.Shelf.Ren := ⟨fun | 146 => 29 | 221 => 57 | 268 => 89 | 138 => 90 | 143 => 91 | 195 => 115 | 197 => 116 | 218 => 117 | 219 => 118 | 260 => 144 | 217 => 145 | 225 => 146 | 224 => 147 | 267 => 148 | 266 => 171 | 314 => 172 | n => n, fun | 9 => 9 | 31 => 72 | 3 => 3 | 4 => 4 | 0 => 0 | 105 => 164 | 21 => 21 | 5 => 5 | 46 => 105 | 119 => 216 | 139 => 219 | 138 => 218 | 146 => 220 | 51 => 37 | n => n, fun | 1 => 0 | 3 => 4 | 4 => 5 | n => n⟩
theorem lay_strings_Split : Go.Proofs.Lays.n146 Tryz.prog lay_strings_Split_ren where
  mixed := by kernel_rfl
  f138 := Tryz.func90.trans (congrArg some (by kernel_rfl))
  f143 := Tryz.func91.trans (congrArg some (by kernel_rfl))
  f146 := Tryz.func29.trans (congrArg some (by kernel_rfl))
  f195 := Tryz.func115.trans (congrArg some (by kernel_rfl))
  f197 := Tryz.func116.trans (congrArg some (by kernel_rfl))
  f217 := Tryz.func145.trans (congrArg some (by kernel_rfl))
  f218 := Tryz.func117.trans (congrArg some (by kernel_rfl))
  f219 := Tryz.func118.trans (congrArg some (by kernel_rfl))
  f221 := Tryz.func57.trans (congrArg some (by kernel_rfl))
  f224 := Tryz.func147.trans (congrArg some (by kernel_rfl))
  f225 := Tryz.func146.trans (congrArg some (by kernel_rfl))
  f260 := Tryz.func144.trans (congrArg some (by kernel_rfl))
  f266 := Tryz.func171.trans (congrArg some (by kernel_rfl))
  f267 := Tryz.func148.trans (congrArg some (by kernel_rfl))
  f268 := Tryz.func89.trans (congrArg some (by kernel_rfl))
  f314 := Tryz.func172.trans (congrArg some (by kernel_rfl))
  t0 := Tryz.underlying0
  a0 := Tryz.isAgg0
  z0 := Tryz.sizeOf0
  v0 := Tryz.zeroValue0
  t3 := Tryz.underlying3
  a3 := Tryz.isAgg3
  z3 := Tryz.sizeOf3
  v3 := Tryz.zeroValue3
  t4 := Tryz.underlying4
  a4 := Tryz.isAgg4
  z4 := Tryz.sizeOf4
  v4 := Tryz.zeroValue4
  t5 := Tryz.underlying5
  a5 := Tryz.isAgg5
  z5 := Tryz.sizeOf5
  v5 := Tryz.zeroValue5
  t9 := Tryz.underlying9
  a9 := Tryz.isAgg9
  z9 := Tryz.sizeOf9
  v9 := Tryz.zeroValue9
  t21 := Tryz.underlying21
  a21 := Tryz.isAgg21
  z21 := Tryz.sizeOf21
  v21 := Tryz.zeroValue21
  t31 := Tryz.underlying72
  a31 := Tryz.isAgg72
  z31 := Tryz.sizeOf72
  v31 := Tryz.zeroValue72
  t46 := Tryz.underlying105
  a46 := Tryz.isAgg105
  z46 := Tryz.sizeOf105
  v46 := Tryz.zeroValue105
  t51 := Tryz.underlying37
  a51 := Tryz.isAgg37
  z51 := Tryz.sizeOf37
  v51 := Tryz.zeroValue37
  t105 := Tryz.underlying164
  a105 := Tryz.isAgg164
  z105 := Tryz.sizeOf164
  v105 := Tryz.zeroValue164
  t119 := Tryz.underlying216
  a119 := Tryz.isAgg216
  z119 := Tryz.sizeOf216
  t138 := Tryz.underlying218
  a138 := Tryz.isAgg218
  z138 := Tryz.sizeOf218
  v138 := Tryz.zeroValue218
  t139 := Tryz.underlying219
  a139 := Tryz.isAgg219
  z139 := Tryz.sizeOf219
  v139 := Tryz.zeroValue219
  t146 := Tryz.underlying220
  a146 := Tryz.isAgg220
  z146 := Tryz.sizeOf220
  v146 := Tryz.zeroValue220
  g1 := by kernel_rfl
  g3 := by kernel_rfl
  g4 := by kernel_rfl
/-! ### strings.Split -/
noncomputable def strings_Split (s0 : ByteArray) (sep1 : ByteArray) : Option ((List ByteArray)) := splitF s0 sep1
set_option maxRecDepth 100000 in
theorem strings_Split.calls (s0 : ByteArray) (sep1 : ByteArray) (w : World) (r : (List ByteArray)) (g_ml : Glml w) (h : strings_Split s0 sep1 = some r) :
    Calls Tryz.prog 29 #[(.string s0), (.string sep1)] w fun e w' => ∃ v, e = .returned v ∧ (∃ (o0 : Option Nat) (c0 : Nat) (s0 : List Value) (n0 : Nat), r.length = n0 ∧ (o0 ≠ none → n0 ≤ c0 ∧ s0.length = (c0 - n0) * 1) ∧ (o0 = none → r = [] ∧ c0 = 0) ∧ v = .slice (o0.map fun b => ⟨b, 0, none⟩) n0 c0 ∧ Mem w [] [⟨o0, 9, row encStr r s0⟩] w') := by
  rw [strings_Split] at h
  exact split_calls lay_strings_Split (by kernel_rfl) s0 sep1 w r g_ml.ml h

/-! ### internal/stringslite.HasPrefix -/
noncomputable def stringslite_HasPrefix (s0 : ByteArray) (prefix1 : ByteArray) : Option (Bool) := (if (decide ((s0.size : Int) ≥ (prefix1.size : Int))) = true then (if 0 ≤ (0 : Int) ∧ (0 : Int) ≤ (prefix1.size : Int) ∧ (prefix1.size : Int) ≤ (s0.size : Int) then some ((s0.extract (0 : Int).toNat (prefix1.size : Int).toNat).toList == prefix1.toList) else none) else some false)
set_option maxRecDepth 100000 in
theorem stringslite_HasPrefix.calls (s0 : ByteArray) (prefix1 : ByteArray) (w : World) (r : Bool) (h : stringslite_HasPrefix s0 prefix1 = some r) :
    Calls Tryz.prog 119 #[(.string s0), (.string prefix1)] w fun e w' => ∃ v, e = .returned v ∧ (v = (.bool r) ∧ Mem w [] [] w') := by
  rw [stringslite_HasPrefix] at h
  refine enter (args := [(.string s0), (.string prefix1)]) Tryz.func119 rfl Tryz.ntmps119 (by kernel_rfl) (L := []) (W := []) (Mem.start w) ?_
  refine jc_seq ?_
  refine jc_region ?_
  refine jo_f [(0, 0)] (by kernel_rfl) ?_
  refine jo_end (by kernel_rfl) ?_
  refine jx_then ?_
  refine jc_seq ?_
  refine jc_region ?_
  refine jo_f [(0, 0), (0, 0), (0, 0), (0, 0), (0, 0), (0, 0), (0, 1), (0, 1), (0, 1)] (by kernel_rfl) ?_
  refine jo_split 10 (decide ((s0.size : Int) ≥ (prefix1.size : Int))) (by kernel_rfl) (fun hc_1 => ?_) (fun hc_1 => ?_)
  · replace h := ifT hc_1 h
    obtain ⟨hg_2, h⟩ := gd h
    refine toO (by kernel_rfl) (p_v 2 (by kernel_rfl) _ (fun w hm => ssl_run (s := s0) (lo := none) (hi := some (prefix1.size : Int)) (l := (0 : Int)) (h := (prefix1.size : Int)) (by kernel_rfl) rfl rfl hg_2) (jkO ?_))
    refine jo_f [(0, 2), (0, 2), (0, 4), (0, 0)] (by kernel_rfl) ?_
    refine jo_end (by kernel_rfl) ?_
    refine jx_then ?_
    refine jc_ret ?_
    obtain rfl := Option.some.inj h
    exact jx_ret [] (.bool ((s0.extract (0 : Int).toNat (prefix1.size : Int).toNat).toList == prefix1.toList)) [] rfl (by kernel_rfl) (by kernel_rfl) (fun w hm => ⟨rfl, hm.pick [] (by kernel_rfl) (by kernel_rfl)⟩)
  · replace h := ifF hc_1 h
    refine jo_f [(0, 3), (0, 3), (0, 3), (0, 5), (0, 0)] (by kernel_rfl) ?_
    refine jo_end (by kernel_rfl) ?_
    refine jx_then ?_
    refine jc_ret ?_
    obtain rfl := Option.some.inj h
    exact jx_ret [] (.bool false) [] rfl (by kernel_rfl) (by kernel_rfl) (fun w hm => ⟨rfl, hm.pick [] (by kernel_rfl) (by kernel_rfl)⟩)

/-! ### internal/stringslite.CutPrefix -/
noncomputable def stringslite_CutPrefix (s0 : ByteArray) (prefix1 : ByteArray) : Option (ByteArray × Bool) := (stringslite_HasPrefix s0 prefix1).bind fun t_1 => (if (!t_1) = true then some (s0, false) else (if 0 ≤ (prefix1.size : Int) ∧ (prefix1.size : Int) ≤ (s0.size : Int) ∧ (s0.size : Int) ≤ (s0.size : Int) then some ((s0.extract (prefix1.size : Int).toNat (s0.size : Int).toNat), true) else none))
set_option maxRecDepth 100000 in
theorem stringslite_CutPrefix.calls (s0 : ByteArray) (prefix1 : ByteArray) (w : World) (r : ByteArray × Bool) (h : stringslite_CutPrefix s0 prefix1 = some r) :
    Calls Tryz.prog 92 #[(.string s0), (.string prefix1)] w fun e w' => ∃ v, e = .returned v ∧ (v = .tuple #[(.string r.1), (.bool r.2)] ∧ Mem w [] [] w') := by
  rw [stringslite_CutPrefix] at h
  refine enter (args := [(.string s0), (.string prefix1)]) Tryz.func92 rfl Tryz.ntmps92 (by kernel_rfl) (L := []) (W := []) (Mem.start w) ?_
  refine jc_seq ?_
  refine jc_region ?_
  refine jo_f [(0, 0), (0, 0)] (by kernel_rfl) ?_
  refine jo_end (by kernel_rfl) ?_
  refine jx_then ?_
  refine jc_seq ?_
  refine jc_seq ?_
  refine jc_region ?_
  refine jo_f [(0, 0), (0, 0)] (by kernel_rfl) ?_
  obtain ⟨t_1, ht_3, h⟩ := bd h
  refine toO (by kernel_rfl) (p_call 0 119 #[(.string s0), (.string prefix1)] (by kernel_rfl) (by kernel_rfl) (fun w hm => stringslite_HasPrefix.calls s0 prefix1 w _ ht_3) ?_)
  rintro w v w' hm ⟨rfl, hm'⟩
  refine ⟨_, hm.app hm', jkO ?_⟩
  clear hm hm'
  refine jo_f [(0, 0)] (by kernel_rfl) ?_
  refine jo_end (by kernel_rfl) ?_
  refine jx_then ?_
  refine jc_cond (!t_1) (by kernel_rfl) (fun hc_4 => ?_) (fun hc_4 => ?_)
  · replace h := ifT hc_4 h
    refine jc_seq ?_
    refine jc_region ?_
    refine jo_f [(0, 0), (0, 0), (0, 0)] (by kernel_rfl) ?_
    refine jo_end (by kernel_rfl) ?_
    refine jx_then ?_
    refine jc_ret ?_
    refine jx_thenr ?_
    obtain rfl := Option.some.inj h
    exact jx_ret [] (.tuple #[(.string s0), (.bool false)]) [] rfl (by kernel_rfl) (by kernel_rfl) (fun w hm => ⟨rfl, hm.pick [] (by kernel_rfl) (by kernel_rfl)⟩)
  · replace h := ifF hc_4 h
    refine jc_skip ?_
    refine jx_then ?_
    refine jc_seq ?_
    refine jc_region ?_
    refine jo_f [(0, 0), (0, 0), (0, 0)] (by kernel_rfl) ?_
    obtain ⟨hg_5, h⟩ := gd h
    refine toO (by kernel_rfl) (p_v 0 (by kernel_rfl) _ (fun w hm => ssl_run (s := s0) (lo := some (prefix1.size : Int)) (hi := none) (l := (prefix1.size : Int)) (h := (s0.size : Int)) (by kernel_rfl) rfl rfl hg_5) (jkO ?_))
    refine jo_f [(0, 0), (0, 0)] (by kernel_rfl) ?_
    refine jo_end (by kernel_rfl) ?_
    refine jx_then ?_
    refine jc_ret ?_
    obtain rfl := Option.some.inj h
    exact jx_ret [] (.tuple #[(.string (s0.extract (prefix1.size : Int).toNat (s0.size : Int).toNat)), (.bool true)]) [] rfl (by kernel_rfl) (by kernel_rfl) (fun w hm => ⟨rfl, hm.pick [] (by kernel_rfl) (by kernel_rfl)⟩)

/-! ### strings.CutPrefix -/
noncomputable def strings_CutPrefix (s0 : ByteArray) (prefix1 : ByteArray) : Option (ByteArray × Bool) := (stringslite_CutPrefix s0 prefix1).bind fun t_1 => some (t_1.1, t_1.2)
set_option maxRecDepth 100000 in
theorem strings_CutPrefix.calls (s0 : ByteArray) (prefix1 : ByteArray) (w : World) (r : ByteArray × Bool) (h : strings_CutPrefix s0 prefix1 = some r) :
    Calls Tryz.prog 58 #[(.string s0), (.string prefix1)] w fun e w' => ∃ v, e = .returned v ∧ (v = .tuple #[(.string r.1), (.bool r.2)] ∧ Mem w [] [] w') := by
  rw [strings_CutPrefix] at h
  refine enter (args := [(.string s0), (.string prefix1)]) Tryz.func58 rfl Tryz.ntmps58 (by kernel_rfl) (L := []) (W := []) (Mem.start w) ?_
  refine jc_seq ?_
  refine jc_region ?_
  refine jo_f [(0, 0), (0, 0)] (by kernel_rfl) ?_
  refine jo_end (by kernel_rfl) ?_
  refine jx_then ?_
  refine jc_seq ?_
  refine jc_region ?_
  refine jo_f [(0, 0), (0, 0)] (by kernel_rfl) ?_
  obtain ⟨t_1, ht_1, h⟩ := bd h
  refine toO (by kernel_rfl) (p_call 0 92 #[(.string s0), (.string prefix1)] (by kernel_rfl) (by kernel_rfl) (fun w hm => stringslite_CutPrefix.calls s0 prefix1 w _ ht_1) ?_)
  rintro w v w' hm ⟨rfl, hm'⟩
  refine ⟨_, hm.app hm', jkO ?_⟩
  clear hm hm'
  refine jo_f [(0, 0), (0, 0), (0, 0), (0, 0)] (by kernel_rfl) ?_
  refine jo_end (by kernel_rfl) ?_
  refine jx_then ?_
  refine jc_ret ?_
  obtain rfl := Option.some.inj h
  exact jx_ret [] (.tuple #[(.string t_1.1), (.bool t_1.2)]) [] rfl (by kernel_rfl) (by kernel_rfl) (fun w hm => ⟨rfl, hm.pick [] (by kernel_rfl) (by kernel_rfl)⟩)

def lay_strconv_ParseInt_ren : Go.Shelf.Ren := ⟨fun | 174 => 59 | 247 => 93 | 245 => 94 | 287 => 120 | 279 => 121 | 280 => 122 | 281 => 123 | 282 => 124 | 321 => 149 | 322 => 150 | 316 => 151 | 171 => 153 | 205 => 152 | 243 => 173 | 246 => 96 | 283 => 125 | 284 => 126 | 285 => 127 | 286 => 128 | 129 => 155 | 317 => 154 | 318 => 156 | 319 => 157 | 320 => 158 | 337 => 174 | 338 => 175 | n => n, fun | 9 => 9 | 3 => 3 | 2 => 2 | 75 => 110 | 85 => 111 | 4 => 4 | 167 => 168 | 5 => 5 | 53 => 99 | 175 => 169 | 46 => 105 | 168 => 171 | 37 => 22 | 0 => 0 | 210 => 198 | 21 => 21 | 127 => 148 | 145 => 224 | 143 => 222 | 171 => 175 | 173 => 178 | 212 => 201 | 51 => 37 | 20 => 20 | 213 => 202 | 232 => 231 | 233 => 232 | 80 => 122 | n => n, fun | 15 => 1 | 16 => 2 | 17 => 3 | 18 => 6 | 19 => 7 | n => n⟩
theorem lay_strconv_ParseInt : Go.Proofs.LaysC.n174 Tryz.prog lay_strconv_ParseInt_ren where
  mixed := by kernel_rfl
  f129 := Tryz.func155.trans (congrArg some (by kernel_rfl))
  f171 := Tryz.func153.trans (congrArg some (by kernel_rfl))
  f174 := Tryz.func59.trans (congrArg some (by kernel_rfl))
  f205 := Tryz.func152.trans (congrArg some (by kernel_rfl))
  f243 := Tryz.func173.trans (congrArg some (by kernel_rfl))
  f245 := Tryz.func94.trans (congrArg some (by kernel_rfl))
  f246 := Tryz.func96.trans (congrArg some (by kernel_rfl))
  f247 := Tryz.func93.trans (congrArg some (by kernel_rfl))
  f279 := Tryz.func121.trans (congrArg some (by kernel_rfl))
  f280 := Tryz.func122.trans (congrArg some (by kernel_rfl))
  f281 := Tryz.func123.trans (congrArg some (by kernel_rfl))
  f282 := Tryz.func124.trans (congrArg some (by kernel_rfl))
  f283 := Tryz.func125.trans (congrArg some (by kernel_rfl))
  f284 := Tryz.func126.trans (congrArg some (by kernel_rfl))
  f285 := Tryz.func127.trans (congrArg some (by kernel_rfl))
  f286 := Tryz.func128.trans (congrArg some (by kernel_rfl))
  f287 := Tryz.func120.trans (congrArg some (by kernel_rfl))
  f316 := Tryz.func151.trans (congrArg some (by kernel_rfl))
  f317 := Tryz.func154.trans (congrArg some (by kernel_rfl))
  f318 := Tryz.func156.trans (congrArg some (by kernel_rfl))
  f319 := Tryz.func157.trans (congrArg some (by kernel_rfl))
  f320 := Tryz.func158.trans (congrArg some (by kernel_rfl))
  f321 := Tryz.func149.trans (congrArg some (by kernel_rfl))
  f322 := Tryz.func150.trans (congrArg some (by kernel_rfl))
  f337 := Tryz.func174.trans (congrArg some (by kernel_rfl))
  f338 := Tryz.func175.trans (congrArg some (by kernel_rfl))
  t0 := Tryz.underlying0
  a0 := Tryz.isAgg0
  z0 := Tryz.sizeOf0
  v0 := Tryz.zeroValue0
  t2 := Tryz.underlying2
  a2 := Tryz.isAgg2
  z2 := Tryz.sizeOf2
  v2 := Tryz.zeroValue2
  t3 := Tryz.underlying3
  a3 := Tryz.isAgg3
  z3 := Tryz.sizeOf3
  v3 := Tryz.zeroValue3
  t4 := Tryz.underlying4
  a4 := Tryz.isAgg4
  z4 := Tryz.sizeOf4
  v4 := Tryz.zeroValue4
  t5 := Tryz.underlying5
  a5 := Tryz.isAgg5
  z5 := Tryz.sizeOf5
  v5 := Tryz.zeroValue5
  t9 := Tryz.underlying9
  a9 := Tryz.isAgg9
  z9 := Tryz.sizeOf9
  v9 := Tryz.zeroValue9
  t20 := Tryz.underlying20
  a20 := Tryz.isAgg20
  z20 := Tryz.sizeOf20
  v20 := Tryz.zeroValue20
  t21 := Tryz.underlying21
  a21 := Tryz.isAgg21
  z21 := Tryz.sizeOf21
  v21 := Tryz.zeroValue21
  t37 := Tryz.underlying22
  a37 := Tryz.isAgg22
  z37 := Tryz.sizeOf22
  v37 := Tryz.zeroValue22
  t46 := Tryz.underlying105
  a46 := Tryz.isAgg105
  z46 := Tryz.sizeOf105
  v46 := Tryz.zeroValue105
  t51 := Tryz.underlying37
  a51 := Tryz.isAgg37
  z51 := Tryz.sizeOf37
  v51 := Tryz.zeroValue37
  t53 := Tryz.underlying99
  a53 := Tryz.isAgg99
  z53 := Tryz.sizeOf99
  v53 := Tryz.zeroValue99
  t75 := Tryz.underlying110
  a75 := Tryz.isAgg110
  z75 := Tryz.sizeOf110
  v75 := Tryz.zeroValue110
  t85 := Tryz.underlying111
  a85 := Tryz.isAgg111
  z85 := Tryz.sizeOf111
  v85 := Tryz.zeroValue111
  t127 := Tryz.underlying148
  a127 := Tryz.isAgg148
  z127 := Tryz.sizeOf148
  v127 := Tryz.zeroValue148
  t143 := Tryz.underlying222
  a143 := Tryz.isAgg222
  z143 := Tryz.sizeOf222
  v143 := Tryz.zeroValue222
  t145 := Tryz.underlying224
  a145 := Tryz.isAgg224
  z145 := Tryz.sizeOf224
  v145 := Tryz.zeroValue224
  t167 := Tryz.underlying168
  a167 := Tryz.isAgg168
  z167 := Tryz.sizeOf168
  v167 := Tryz.zeroValue168
  t168 := Tryz.underlying171
  a168 := Tryz.isAgg171
  z168 := Tryz.sizeOf171
  v168 := Tryz.zeroValue171
  t171 := Tryz.underlying175
  a171 := Tryz.isAgg175
  z171 := Tryz.sizeOf175
  v171 := Tryz.zeroValue175
  t173 := Tryz.underlying178
  a173 := Tryz.isAgg178
  z173 := Tryz.sizeOf178
  v173 := Tryz.zeroValue178
  t175 := Tryz.underlying169
  a175 := Tryz.isAgg169
  z175 := Tryz.sizeOf169
  v175 := Tryz.zeroValue169
  t210 := Tryz.underlying198
  a210 := Tryz.isAgg198
  z210 := Tryz.sizeOf198
  v210 := Tryz.zeroValue198
  t212 := Tryz.underlying201
  a212 := Tryz.isAgg201
  z212 := Tryz.sizeOf201
  v212 := Tryz.zeroValue201
  t213 := Tryz.underlying202
  a213 := Tryz.isAgg202
  z213 := Tryz.sizeOf202
  t232 := Tryz.underlying231
  a232 := Tryz.isAgg231
  z232 := Tryz.sizeOf231
  v232 := Tryz.zeroValue231
  t233 := Tryz.underlying232
  a233 := Tryz.isAgg232
  z233 := Tryz.sizeOf232
  v233 := Tryz.zeroValue232
  g15 := by kernel_rfl
  g16 := by kernel_rfl
  g17 := by kernel_rfl
  g18 := by kernel_rfl
  g19 := by kernel_rfl
  t80 := Tryz.underlying122
  a80 := Tryz.isAgg122
  z80 := Tryz.sizeOf122
  v80 := Tryz.zeroValue122
  i0 := by kernel_rfl
  i2 := by kernel_rfl
  i3 := by kernel_rfl
  i4 := by kernel_rfl
  i5 := by kernel_rfl
  i9 := by kernel_rfl
  i20 := by kernel_rfl
  i21 := by kernel_rfl
  i37 := by kernel_rfl
  i46 := by kernel_rfl
  i51 := by kernel_rfl
  i53 := by kernel_rfl
  i75 := by kernel_rfl
  i80 := by kernel_rfl
  i85 := by kernel_rfl
  i127 := by kernel_rfl
  i143 := by kernel_rfl
  i145 := by kernel_rfl
  i167 := by kernel_rfl
  i168 := by kernel_rfl
  i171 := by kernel_rfl
  i173 := by kernel_rfl
  i175 := by kernel_rfl
  i210 := by kernel_rfl
  i212 := by kernel_rfl
  i232 := by kernel_rfl
  i233 := by kernel_rfl
  m15 := by kernel_rfl
  m16 := by kernel_rfl
  m17 := by kernel_rfl
  m18 := by kernel_rfl
  m19 := by kernel_rfl
  c0 := by kernel_rfl
  c2 := by kernel_rfl
  c3 := by kernel_rfl
  c4 := by kernel_rfl
  c5 := by kernel_rfl
  c9 := by kernel_rfl
  c20 := by kernel_rfl
  c21 := by kernel_rfl
  c37 := by kernel_rfl
  c46 := by kernel_rfl
  c51 := by kernel_rfl
  c53 := by kernel_rfl
  c75 := by kernel_rfl
  c80 := by kernel_rfl
  c85 := by kernel_rfl
  c127 := by kernel_rfl
  c143 := by kernel_rfl
  c145 := by kernel_rfl
  c167 := by kernel_rfl
  c168 := by kernel_rfl
  c171 := by kernel_rfl
  c173 := by kernel_rfl
  c175 := by kernel_rfl
  c210 := by kernel_rfl
  c212 := by kernel_rfl
  c213 := by kernel_rfl
  c232 := by kernel_rfl
  c233 := by kernel_rfl
/-! ### strconv.ParseInt -/
noncomputable def strconv_ParseInt (s0 : ByteArray) (base1 : Int) (bitSize2 : Int) : Option (Int × Bool) := parseF s0 base1 bitSize2
set_option maxRecDepth 100000 in
theorem strconv_ParseInt.calls (s0 : ByteArray) (base1 : Int) (bitSize2 : Int) (w : World) (r : Int × Bool) (g_er : Gler w) (g_lo : Gllo w) (h : strconv_ParseInt s0 base1 bitSize2 = some r) :
    Calls Tryz.prog 59 #[(.string s0), (.int .i64 base1), (.int .i64 bitSize2)] w fun e w' => ∃ v, e = .returned v ∧ (∃ (ev0 : Value), ErrIs r.2 ev0 ∧ v = .tuple #[(.int .i64 r.1), ev0] ∧ Mem w [] [] w') := by
  rw [strconv_ParseInt] at h
  exact parse_calls lay_strconv_ParseInt g_lo.lo s0 base1 bitSize2 w r g_er.es g_er.er h

/-! ### impl.number -/
noncomputable def impl_number.k_3 (t_1 : Int × Bool) (q_2 : Bool) : Option (Int × Bool) := (if q_2 = true then some (0, false) else some (t_1.1, true))
noncomputable def impl_number (s0 : ByteArray) (most1 : Int) : Option (Int × Bool) := (strconv_ParseInt s0 10 64).bind fun t_1 => (if t_1.2 = true then impl_number.k_3 t_1 true else (impl_decimal t_1.1).bind fun t_4 => (if (!(t_4.toList == s0.toList)) = true then impl_number.k_3 t_1 true else (impl_within t_1.1 0 most1).bind fun t_5 => impl_number.k_3 t_1 (!t_5)))
set_option maxRecDepth 100000 in
theorem impl_number.calls (s0 : ByteArray) (most1 : Int) (w : World) (r : Int × Bool) (g_er : Gler w) (g_lo : Gllo w) (g_pw : Glpw w) (h : impl_number s0 most1 = some r) :
    Calls Tryz.prog 31 #[(.string s0), (.int .i64 most1)] w fun e w' => ∃ v, e = .returned v ∧ (v = .tuple #[(.int .i64 r.1), (.bool r.2)] ∧ Mem w [] [] w') := by
  rw [impl_number] at h
  refine enter (args := [(.string s0), (.int .i64 most1)]) Tryz.func31 rfl Tryz.ntmps31 (by kernel_rfl) (L := []) (W := []) (Mem.start w) ?_
  refine jc_seq ?_
  refine jc_region ?_
  refine jo_f [(0, 0), (0, 0)] (by kernel_rfl) ?_
  refine jo_end (by kernel_rfl) ?_
  refine jx_then ?_
  refine jc_seq ?_
  refine jc_region ?_
  refine jo_f [(0, 0)] (by kernel_rfl) ?_
  obtain ⟨t_1, ht_1, h⟩ := bd h
  refine toO (by kernel_rfl) (p_call 0 59 #[(.string s0), (.int .i64 10), (.int .i64 64)] (by kernel_rfl) (by kernel_rfl) (fun w hm => strconv_ParseInt.calls s0 10 64 w _ (g_er.keep hm) (g_lo.keep hm) ht_1) ?_)
  rintro w v w' hm ⟨ev_2, hev_3, rfl, hm'⟩
  refine ⟨_, hm.app hm', jkO ?_⟩
  clear hm hm'
  refine jo_f [(0, 0), (0, 0), (0, 0), (0, 0), (0, 0)] (by kernel_rfl) ?_
  refine jo_end (by kernel_rfl) ?_
  refine jx_then ?_
  refine jc_seq ?_
  refine jc_seq ?_
  refine jc_meet (fun (j : Bool) => match j with | q_2 => impl_number.k_3 t_1 q_2 = some r) (fun (j : Bool) => match j with | q_2 => [(4, [], (.int .i64 0)), (5, [], (.bool false)), (6, [], (.int .i64 t_1.1)), (26, [], (.bool q_2))]) (fun (j : Bool) => match j with | q_2 => []) ?_ ?_
  · refine jc_region ?_
    refine jo_f [(0, 0)] (by kernel_rfl) ?_
    refine toO (by kernel_rfl) (p_v 0 (by kernel_rfl) _ (fun w hm => err_ne (ev := ev_2) (b := t_1.2) (by kernel_rfl) hev_3) (jkO ?_))
    refine jo_f [(0, 0), (0, 1)] (by kernel_rfl) ?_
    refine jo_split 15 t_1.2 (by kernel_rfl) (fun hc_18 => ?_) (fun hc_18 => ?_)
    · replace h := ifT hc_18 h
      refine jo_f [(0, 3), (0, 3), (0, 3), (0, 4), (0, 0), (0, 3), (0, 3), (0, 3), (0, 3), (0, 4)] (by kernel_rfl) ?_
      refine jo_end (by kernel_rfl) ?_
      exact jx_meet true h (by kernel_rfl) [] (by kernel_rfl) (by kernel_rfl)
    · replace h := ifF hc_18 h
      obtain ⟨t_4, ht_19, h⟩ := bd h
      refine toO (by kernel_rfl) (p_call 2 33 #[(.int .i64 t_1.1)] (by kernel_rfl) (by kernel_rfl) (fun w hm => impl_decimal.calls t_1.1 w _ (g_pw.keep hm) ht_19) ?_)
      rintro w v w' hm ⟨rfl, hm'⟩
      refine ⟨_, hm.app hm', jkO ?_⟩
      clear hm hm'
      refine jo_f [(0, 2), (0, 2), (0, 5), (0, 0), (0, 1), (0, 1)] (by kernel_rfl) ?_
      refine jo_split 21 (!(t_4.toList == s0.toList)) (by kernel_rfl) (fun hc_20 => ?_) (fun hc_20 => ?_)
      · replace h := ifT hc_20 h
        refine jo_f [(0, 3), (0, 3), (0, 4)] (by kernel_rfl) ?_
        refine jo_end (by kernel_rfl) ?_
        exact jx_meet true h (by kernel_rfl) [] (by kernel_rfl) (by kernel_rfl)
      · replace h := ifF hc_20 h
        obtain ⟨t_5, ht_21, h⟩ := bd h
        refine toO (by kernel_rfl) (p_call 2 50 #[(.int .i64 t_1.1), (.int .i64 0), (.int .i64 most1)] (by kernel_rfl) (by kernel_rfl) (fun w hm => impl_within.calls t_1.1 0 most1 w _ ht_21) ?_)
        rintro w v w' hm ⟨rfl, hm'⟩
        refine ⟨_, hm.app hm', jkO ?_⟩
        clear hm hm'
        refine jo_f [(0, 2), (0, 5)] (by kernel_rfl) ?_
        refine jo_end (by kernel_rfl) ?_
        exact jx_meet (!t_5) h (by kernel_rfl) [] (by kernel_rfl) (by kernel_rfl)
  · rintro q_2 h
    replace h : impl_number.k_3 t_1 q_2 = some r := h
    rw [impl_number.k_3] at h
    refine jx_then ?_
    refine jc_cond q_2 (by kernel_rfl) (fun hc_17 => ?_) (fun hc_17 => ?_)
    · replace h := ifT hc_17 h
      refine jc_seq ?_
      refine jc_region ?_
      refine jo_f [(0, 0), (0, 0)] (by kernel_rfl) ?_
      refine jo_end (by kernel_rfl) ?_
      refine jx_then ?_
      refine jc_ret ?_
      refine jx_thenr ?_
      obtain rfl := Option.some.inj h
      exact jx_ret [] (.tuple #[(.int .i64 0), (.bool false)]) [] rfl (by kernel_rfl) (by kernel_rfl) (fun w hm => ⟨rfl, hm.pick [] (by kernel_rfl) (by kernel_rfl)⟩)
    · replace h := ifF hc_17 h
      refine jc_skip ?_
      refine jx_then ?_
      refine jc_seq ?_
      refine jc_region ?_
      refine jo_f [(0, 0), (0, 0), (0, 0)] (by kernel_rfl) ?_
      refine jo_end (by kernel_rfl) ?_
      refine jx_then ?_
      refine jc_ret ?_
      obtain rfl := Option.some.inj h
      exact jx_ret [] (.tuple #[(.int .i64 t_1.1), (.bool true)]) [] rfl (by kernel_rfl) (by kernel_rfl) (fun w hm => ⟨rfl, hm.pick [] (by kernel_rfl) (by kernel_rfl)⟩)

/-! ### impl.readSigned -/
noncomputable def impl_readSigned (s0 : ByteArray) (most1 : Int) : Option (Int × Bool) := (strings_CutPrefix s0 (ByteArray.mk #[45])).bind fun t_1 => (impl_number t_1.1 most1).bind fun t_2 => (if t_1.2 = true then some ((w64 (0 - t_2.1)), (t_2.2 && (decide (t_2.1 > 0)))) else some (t_2.1, t_2.2))
set_option maxRecDepth 100000 in
theorem impl_readSigned.calls (s0 : ByteArray) (most1 : Int) (w : World) (r : Int × Bool) (g_er : Gler w) (g_lo : Gllo w) (g_pw : Glpw w) (h : impl_readSigned s0 most1 = some r) :
    Calls Tryz.prog 30 #[(.string s0), (.int .i64 most1)] w fun e w' => ∃ v, e = .returned v ∧ (v = .tuple #[(.int .i64 r.1), (.bool r.2)] ∧ Mem w [] [] w') := by
  rw [impl_readSigned] at h
  refine enter (args := [(.string s0), (.int .i64 most1)]) Tryz.func30 rfl Tryz.ntmps30 (by kernel_rfl) (L := []) (W := []) (Mem.start w) ?_
  refine jc_seq ?_
  refine jc_region ?_
  refine jo_f [(0, 0), (0, 0)] (by kernel_rfl) ?_
  refine jo_end (by kernel_rfl) ?_
  refine jx_then ?_
  refine jc_seq ?_
  refine jc_region ?_
  refine jo_f [(0, 0)] (by kernel_rfl) ?_
  obtain ⟨t_1, ht_1, h⟩ := bd h
  refine toO (by kernel_rfl) (p_call 0 58 #[(.string s0), (.string (ByteArray.mk #[45]))] (by kernel_rfl) (by kernel_rfl) (fun w hm => strings_CutPrefix.calls s0 (ByteArray.mk #[45]) w _ ht_1) ?_)
  rintro w v w' hm ⟨rfl, hm'⟩
  refine ⟨_, hm.app hm', jkO ?_⟩
  clear hm hm'
  refine jo_f [(0, 0), (0, 0), (0, 0), (0, 0), (0, 0)] (by kernel_rfl) ?_
  refine jo_end (by kernel_rfl) ?_
  refine jx_then ?_
  refine jc_seq ?_
  refine jc_region ?_
  refine jo_f [(0, 0), (0, 0)] (by kernel_rfl) ?_
  obtain ⟨t_2, ht_2, h⟩ := bd h
  refine toO (by kernel_rfl) (p_call 0 31 #[(.string t_1.1), (.int .i64 most1)] (by kernel_rfl) (by kernel_rfl) (fun w hm => impl_number.calls t_1.1 most1 w _ (g_er.keep hm) (g_lo.keep hm) (g_pw.keep hm) ht_2) ?_)
  rintro w v w' hm ⟨rfl, hm'⟩
  refine ⟨_, hm.app hm', jkO ?_⟩
  clear hm hm'
  refine jo_f [(0, 0), (0, 0), (0, 0), (0, 0), (0, 0)] (by kernel_rfl) ?_
  refine jo_end (by kernel_rfl) ?_
  refine jx_then ?_
  refine jc_seq ?_
  refine jc_seq ?_
  refine jc_region ?_
  refine jo_f [(0, 0)] (by kernel_rfl) ?_
  refine jo_end (by kernel_rfl) ?_
  refine jx_then ?_
  refine jc_cond t_1.2 (by kernel_rfl) (fun hc_4 => ?_) (fun hc_4 => ?_)
  · replace h := ifT hc_4 h
    refine jc_seq ?_
    refine jc_region ?_
    refine jo_f [(0, 0), (0, 0), (0, 0), (0, 0), (0, 1), (0, 1), (0, 0), (0, 0), (0, 0)] (by kernel_rfl) ?_
    refine jo_end (by kernel_rfl) ?_
    refine jx_then ?_
    refine jc_ret ?_
    refine jx_thenr ?_
    obtain rfl := Option.some.inj h
    exact jx_ret [] (.tuple #[(.int .i64 (w64 (0 - t_2.1))), (.bool (t_2.2 && (decide (t_2.1 > 0))))]) [] rfl (by kernel_rfl) (by kernel_rfl) (fun w hm => ⟨rfl, hm.pick [] (by kernel_rfl) (by kernel_rfl)⟩)
  · replace h := ifF hc_4 h
    refine jc_skip ?_
    refine jx_then ?_
    refine jc_seq ?_
    refine jc_region ?_
    refine jo_f [(0, 0), (0, 0), (0, 0), (0, 0)] (by kernel_rfl) ?_
    refine jo_end (by kernel_rfl) ?_
    refine jx_then ?_
    refine jc_ret ?_
    obtain rfl := Option.some.inj h
    exact jx_ret [] (.tuple #[(.int .i64 t_2.1), (.bool t_2.2)]) [] rfl (by kernel_rfl) (by kernel_rfl) (fun w hm => ⟨rfl, hm.pick [] (by kernel_rfl) (by kernel_rfl)⟩)

/-! ### impl.ReadChoices -/
noncomputable def impl_ReadChoices.k_3 (text0 : ByteArray) (xs_2 : List GChoice) : Option ((List GChoice) × Int) := (impl_ChoicesText xs_2).bind fun t_4 => (if (!(t_4.toList == text0.toList)) = true then some ([], 5) else some (xs_2, 0))
noncomputable def impl_ReadChoices.k_14 (xs_5 : List GChoice) (i_6 : Int) (q_10 : Bool) (i_11 : Int) (i_12 : Int) (i_13 : Int) : Option (((List GChoice) × Int) ⊕ (((List GChoice) × Int) ⊕ (List GChoice))) := (if xs_5.length + [(⟨q_10, i_11, i_12, i_13⟩ : GChoice)].length ≤ 4294967296 then some (.inl ((xs_5 ++ [(⟨q_10, i_11, i_12, i_13⟩ : GChoice)]), (w64 (i_6 + 1)))) else none)
noncomputable def impl_ReadChoices.l_7 (t_1 : (List ByteArray)) : ((List GChoice) × Int) → Option (((List GChoice) × Int) ⊕ (((List GChoice) × Int) ⊕ (List GChoice)))
  | (xs_5, i_6) => (if (decide (i_6 < (t_1.length : Int))) = true then (ix t_1 i_6).bind fun x_9 => (if (!(x_9.toList == (ByteArray.mk #[120]).toList)) = true then (strings_Split x_9 (ByteArray.mk #[47])).bind fun t_15 => (if ((t_15.length : Int) != 3) = true then some (.inr (.inl ([], 5))) else (ix t_15 0).bind fun x_16 => (impl_readSigned x_16 3).bind fun t_17 => (ix t_15 1).bind fun x_18 => (impl_readSigned x_18 1).bind fun t_19 => (ix t_15 2).bind fun x_20 => (impl_number x_20 23).bind fun t_21 => (if (((!t_17.2) || (!t_19.2)) || (!t_21.2)) = true then some (.inr (.inl ([], 5))) else impl_ReadChoices.k_14 xs_5 i_6 false (w8 t_17.1) (w8 t_19.1) (w8 t_21.1))) else impl_ReadChoices.k_14 xs_5 i_6 true 0 0 0) else some (.inr (.inr xs_5)))
noncomputable def impl_ReadChoices (text0 : ByteArray) : Option ((List GChoice) × Int) := (if (text0.toList == (ByteArray.mk #[]).toList) = true then some (([] : List GChoice), 0) else (strings_Split text0 (ByteArray.mk #[32])).bind fun t_1 => (loop (impl_ReadChoices.l_7 t_1) (([] : List GChoice), 0)).bind fun t_8 => match t_8 with | .inl p => some p | .inr p => impl_ReadChoices.k_3 text0 p)
set_option maxRecDepth 100000 in
set_option maxHeartbeats 8000000 in
theorem impl_ReadChoices.calls (text0 : ByteArray) (w : World) (r : (List GChoice) × Int) (g_er : Gler w) (g_lo : Gllo w) (g_ml : Glml w) (g_pw : Glpw w) (h : impl_ReadChoices text0 = some r) :
    Calls Tryz.prog 7 #[(.string text0)] w fun e w' => ∃ v, e = .returned v ∧ (∃ (o0 : Option Nat) (c0 : Nat) (s0 : List Value) (n0 : Nat), r.1.length = n0 ∧ (o0 ≠ none → n0 ≤ c0 ∧ s0.length = (c0 - n0) * 4) ∧ (o0 = none → r.1 = [] ∧ c0 = 0) ∧ v = .tuple #[.slice (o0.map fun b => ⟨b, 0, none⟩) n0 c0, (.int .i64 r.2)] ∧ Mem w [] [⟨o0, 58, row encGChoice r.1 s0⟩] w') := by
  rw [impl_ReadChoices] at h
  refine enter (args := [(.string text0)]) Tryz.func7 rfl Tryz.ntmps7 (by kernel_rfl) (L := []) (W := []) (Mem.start w) ?_
  refine jc_seq ?_
  refine jc_region ?_
  refine jo_f [(0, 0), (0, 0)] (by kernel_rfl) ?_
  refine jo_end (by kernel_rfl) ?_
  refine jx_then ?_
  refine jc_seq ?_
  refine jc_region ?_
  refine toO (by kernel_rfl) (p_a 0 [0] (by kernel_rfl) (fun b => by kernel_rfl) (fun b_1 => jkO ?_))
  refine jo_f [(0, 0)] (by kernel_rfl) ?_
  refine jo_end (by kernel_rfl) ?_
  refine jx_then ?_
  refine jc_seq ?_
  refine jc_seq ?_
  refine jc_region ?_
  refine jo_f [(0, 0), (0, 0)] (by kernel_rfl) ?_
  refine jo_end (by kernel_rfl) ?_
  refine jx_then ?_
  refine jc_cond (text0.toList == (ByteArray.mk #[]).toList) (by kernel_rfl) (fun hc_3 => ?_) (fun hc_3 => ?_)
  · replace h := ifT hc_3 h
    refine jc_seq ?_
    refine jc_region ?_
    refine jo_f [(0, 0), (0, 0), (0, 0)] (by kernel_rfl) ?_
    refine jo_end (by kernel_rfl) ?_
    refine jx_then ?_
    refine jc_ret ?_
    refine jx_thenr ?_
    obtain rfl := Option.some.inj h
    exact jx_ret [] (.tuple #[(.slice (some ⟨b_1, 0, none⟩) 0 0), (.int .i64 0)]) [] rfl (by kernel_rfl) (by kernel_rfl) (fun w hm => ⟨(some b_1), 0, [], 0, rfl, (fun _ => ⟨Nat.le_refl _, by simp⟩), (fun e => nomatch e), rfl, hm.pick [0] (by kernel_rfl) (by kernel_rfl)⟩)
  · replace h := ifF hc_3 h
    refine jc_skip ?_
    refine jx_then ?_
    refine jc_seq ?_
    refine jc_seq ?_
    refine jc_region ?_
    refine jo_f [(0, 0)] (by kernel_rfl) ?_
    obtain ⟨t_1, ht_322, h⟩ := bd h
    refine toO (by kernel_rfl) (p_call 0 29 #[(.string text0), (.string (ByteArray.mk #[32]))] (by kernel_rfl) (by kernel_rfl) (fun w hm => strings_Split.calls text0 (ByteArray.mk #[32]) w _ (g_ml.keep hm) ht_322) ?_)
    rintro w v w' hm ⟨o_323, cap_324, sp_325, _, rfl, hs_326, ho_327, rfl, hm'⟩
    refine ⟨_, hm.app hm', jkO ?_⟩
    clear hm hm'
    refine jo_f [(0, 0), (0, 0)] (by kernel_rfl) ?_
    refine jo_end (by kernel_rfl) ?_
    refine jx_then ?_
    refine jc_meet (fun (j : (List GChoice) × (Option Nat) × Nat × (List Value) × Nat) => match j with | ⟨xs_2, o_481, cap_482, sp_483, n_484⟩ => impl_ReadChoices.k_3 text0 xs_2 = some r ∧ (xs_2.length = n_484) ∧ ((o_481 ≠ none → n_484 ≤ cap_482 ∧ sp_483.length = (cap_482 - n_484) * 4)) ∧ ((o_481 = none → xs_2 = [] ∧ cap_482 = 0))) (fun (j : (List GChoice) × (Option Nat) × Nat × (List Value) × Nat) => match j with | ⟨xs_2, o_481, cap_482, sp_483, n_484⟩ => [(0, [], (.string text0)), (2, [], (.slice none 0 0)), (3, [], (.int .i64 0)), (4, [], (.slice (o_481.map fun b => ⟨b, 0, none⟩) n_484 cap_482))]) (fun (j : (List GChoice) × (Option Nat) × Nat × (List Value) × Nat) => match j with | ⟨xs_2, o_481, cap_482, sp_483, n_484⟩ => [⟨o_481, 58, row encGChoice xs_2 sp_483⟩, ⟨o_323, 9, row encStr t_1 sp_325⟩]) ?_ ?_
    · refine jc_block ?_
      obtain ⟨t_8, ht_643, hr_593⟩ := bd h
      refine jc_loop (fun (s : (List GChoice) × Int) (x : (Option Nat) × Nat × (List Value) × Nat) => match s, x with | ⟨xs_5, i_6⟩, ⟨o_587, cap_588, sp_589, n_590⟩ => (xs_5.length = n_590) ∧ ((o_587 ≠ none → n_590 ≤ cap_588 ∧ sp_589.length = (cap_588 - n_590) * 4)) ∧ ((o_587 = none → xs_5 = [] ∧ cap_588 = 0))) (fun (s : (List GChoice) × Int) (x : (Option Nat) × Nat × (List Value) × Nat) => match s, x with | ⟨xs_5, i_6⟩, ⟨o_587, cap_588, sp_589, n_590⟩ => [(0, [], (.string text0)), (2, [], (.slice none 0 0)), (3, [], (.int .i64 0)), (4, [], (.slice (o_587.map fun b => ⟨b, 0, none⟩) n_590 cap_588)), (20, [], (.slice (o_323.map fun b => ⟨b, 0, none⟩) t_1.length cap_324)), (21, [], (.int .i64 (t_1.length : Int))), (22, [], (.int .i64 i_6))]) (fun (s : (List GChoice) × Int) (x : (Option Nat) × Nat × (List Value) × Nat) => match s, x with | ⟨xs_5, i_6⟩, ⟨o_587, cap_588, sp_589, n_590⟩ => [⟨o_587, 58, row encGChoice xs_5 sp_589⟩, ⟨o_323, 9, row encStr t_1 sp_325⟩]) ht_643 ⟨(some b_1), 0, [], 0⟩ ⟨rfl, (fun _ => ⟨Nat.le_refl _, by simp⟩), (fun e => nomatch e)⟩ (by kernel_rfl) [0, 1] (by kernel_rfl) (by kernel_rfl) ?_
      rintro ⟨xs_5, i_6⟩ ⟨o_587, cap_588, sp_589, n_590⟩ y_594 ⟨rfl, hs_591, ho_592⟩ h
      rw [impl_ReadChoices.l_7] at h
      refine jc_seq ?_
      refine jc_region ?_
      refine jo_f [(0, 0)] (by kernel_rfl) ?_
      refine jo_end (by kernel_rfl) ?_
      refine jx_then ?_
      refine jc_seq ?_
      refine jc_cond (decide (i_6 < (t_1.length : Int))) (by kernel_rfl) (fun hc_596 => ?_) (fun hc_596 => ?_)
      · replace h := ifT hc_596 h
        refine jc_skip ?_
        refine jx_then ?_
        refine jc_seq ?_
        refine jc_block ?_
        refine jc_seq ?_
        refine jc_region ?_
        obtain ⟨x_9, hx_597, h⟩ := bd h
        refine toO (by kernel_rfl) (p_idx 0 (o_323.map fun b => ⟨b, 0, none⟩) t_1.length i_6 1 (by kernel_rfl) (by kernel_rfl) (ix_some hx_597).1 (ltn hx_597 rfl) (spo ho_327 hx_597) (jkO ?_))
        refine toO (by kernel_rfl) (p_ld 0 (aB (o_323.map fun b => ⟨b, 0, none⟩)) (aO (o_323.map fun b => ⟨b, 0, none⟩) + i_6.toNat * 1) false (encStr x_9) (by kernel_rfl) (by kernel_rfl) (by kernel_rfl) (fun w hm => ((hm.ownRow (hh := 1) (o := o_323) (T := 9) (enc := encStr) (xs := t_1) (sp := sp_325) (by kernel_rfl) (fun e => (ho_327 e).1) encStr_len).at hx_597)) (jkO ?_))
        refine jo_f [(0, 0)] (by kernel_rfl) ?_
        refine jo_end (by kernel_rfl) ?_
        refine jx_then ?_
        refine jc_seq ?_
        refine jc_region ?_
        refine jo_f [(0, 0)] (by kernel_rfl) ?_
        refine toO (by kernel_rfl) (p_a 0 [0] (by kernel_rfl) (fun b => by kernel_rfl) (fun b_598 => jkO ?_))
        refine toO (by kernel_rfl) (p_s 0 [2] (by kernel_rfl) (by kernel_rfl) (jkO ?_))
        refine jo_end (by kernel_rfl) ?_
        refine jx_then ?_
        refine jc_seq ?_
        refine jc_meet (fun (j : Bool × Int × Int × Int) => match j with | ⟨q_10, i_11, i_12, i_13⟩ => impl_ReadChoices.k_14 xs_5 i_6 q_10 i_11 i_12 i_13 = some y_594) (fun (j : Bool × Int × Int × Int) => match j with | ⟨q_10, i_11, i_12, i_13⟩ => [(0, [], (.string text0)), (2, [], (.slice none 0 0)), (3, [], (.int .i64 0)), (4, [], (.slice (o_587.map fun b => ⟨b, 0, none⟩) xs_5.length cap_588)), (7, [], (.pointer (some ⟨b_598, 0, none⟩))), (20, [], (.slice (o_323.map fun b => ⟨b, 0, none⟩) t_1.length cap_324)), (21, [], (.int .i64 (t_1.length : Int))), (22, [], (.int .i64 i_6))]) (fun (j : Bool × Int × Int × Int) => match j with | ⟨q_10, i_11, i_12, i_13⟩ => [⟨o_587, 58, row encGChoice xs_5 sp_589⟩, ⟨o_323, 9, row encStr t_1 sp_325⟩, ⟨some b_598, 58, [(.bool q_10), (.int .i8 i_11), (.int .i8 i_12), (.int .i8 i_13)]⟩]) ?_ ?_
        · refine jc_seq ?_
          refine jc_region ?_
          refine jo_f [(0, 0), (0, 0)] (by kernel_rfl) ?_
          refine jo_end (by kernel_rfl) ?_
          refine jx_then ?_
          refine jc_cond (!(x_9.toList == (ByteArray.mk #[120]).toList)) (by kernel_rfl) (fun hc_623 => ?_) (fun hc_623 => ?_)
          · replace h := ifT hc_623 h
            refine jc_seq ?_
            refine jc_region ?_
            refine jo_f [(0, 0)] (by kernel_rfl) ?_
            obtain ⟨t_15, ht_624, h⟩ := bd h
            refine toO (by kernel_rfl) (p_call 0 29 #[(.string x_9), (.string (ByteArray.mk #[47]))] (by kernel_rfl) (by kernel_rfl) (fun w hm => strings_Split.calls x_9 (ByteArray.mk #[47]) w _ (g_ml.keep hm) ht_624) ?_)
            rintro w v w' hm ⟨o_625, cap_626, sp_627, _, rfl, hs_628, ho_629, rfl, hm'⟩
            refine ⟨_, hm.app hm', jkO ?_⟩
            clear hm hm'
            refine jo_f [(0, 0)] (by kernel_rfl) ?_
            refine jo_end (by kernel_rfl) ?_
            refine jx_then ?_
            refine jc_seq ?_
            refine jc_seq ?_
            refine jc_region ?_
            refine jo_f [(0, 0), (0, 0), (0, 0)] (by kernel_rfl) ?_
            refine jo_end (by kernel_rfl) ?_
            refine jx_then ?_
            refine jc_cond ((t_15.length : Int) != 3) (by kernel_rfl) (fun hc_631 => ?_) (fun hc_631 => ?_)
            · replace h := ifT hc_631 h
              refine jc_seq ?_
              refine jc_region ?_
              refine jo_f [(0, 0), (0, 0)] (by kernel_rfl) ?_
              refine jo_end (by kernel_rfl) ?_
              refine jx_then ?_
              refine jc_ret ?_
              refine jx_thenr ?_
              refine jx_thenr ?_
              refine jx_thenr ?_
              refine jx_inr ?_
              refine jx_thenr ?_
              refine jx_leaver (.inl ([], 5)) (Option.some.inj h).symm (fun e_632 => ?_)
              subst e_632
              refine jx_inr ?_
              refine jx_thenr ?_
              refine jx_thenr ?_
              obtain rfl := Option.some.inj hr_593
              refine jx_ghost 58 encGChoice ?_
              exact jx_ret [] (.tuple #[(.slice none 0 0), (.int .i64 5)]) [] rfl (by kernel_rfl) (by kernel_rfl) (fun w hm => ⟨none, 0, [], 0, rfl, (fun e => absurd rfl e), (fun _ => ⟨rfl, rfl⟩), rfl, hm.pick [4] (by kernel_rfl) (by kernel_rfl)⟩)
            · replace h := ifF hc_631 h
              refine jc_skip ?_
              refine jx_then ?_
              refine jc_seq ?_
              refine jc_region ?_
              refine jo_f [(0, 0)] (by kernel_rfl) ?_
              obtain ⟨x_16, hx_633, h⟩ := bd h
              refine toO (by kernel_rfl) (p_idx 0 (o_625.map fun b => ⟨b, 0, none⟩) t_15.length 0 1 (by kernel_rfl) (by kernel_rfl) (ix_some hx_633).1 (ltn hx_633 rfl) (spo ho_629 hx_633) (jkO ?_))
              refine toO (by kernel_rfl) (p_ld 0 (aB (o_625.map fun b => ⟨b, 0, none⟩)) (aO (o_625.map fun b => ⟨b, 0, none⟩) + (0 : Int).toNat * 1) false (encStr x_16) (by kernel_rfl) (by kernel_rfl) (by kernel_rfl) (fun w hm => ((hm.ownRow (hh := 3) (o := o_625) (T := 9) (enc := encStr) (xs := t_15) (sp := sp_627) (by kernel_rfl) (fun e => (ho_629 e).1) encStr_len).at hx_633)) (jkO ?_))
              obtain ⟨t_17, ht_634, h⟩ := bd h
              refine toO (by kernel_rfl) (p_call 0 30 #[(.string x_16), (.int .i64 3)] (by kernel_rfl) (by kernel_rfl) (fun w hm => impl_readSigned.calls x_16 3 w _ (g_er.keep hm) (g_lo.keep hm) (g_pw.keep hm) ht_634) ?_)
              rintro w v w' hm ⟨rfl, hm'⟩
              refine ⟨_, hm.app hm', jkO ?_⟩
              clear hm hm'
              refine jo_f [(0, 0), (0, 0), (0, 0), (0, 0), (0, 0)] (by kernel_rfl) ?_
              refine jo_end (by kernel_rfl) ?_
              refine jx_then ?_
              refine jc_seq ?_
              refine jc_region ?_
              refine jo_f [(0, 0)] (by kernel_rfl) ?_
              obtain ⟨x_18, hx_635, h⟩ := bd h
              refine toO (by kernel_rfl) (p_idx 0 (o_625.map fun b => ⟨b, 0, none⟩) t_15.length 1 1 (by kernel_rfl) (by kernel_rfl) (ix_some hx_635).1 (ltn hx_635 rfl) (spo ho_629 hx_635) (jkO ?_))
              refine toO (by kernel_rfl) (p_ld 0 (aB (o_625.map fun b => ⟨b, 0, none⟩)) (aO (o_625.map fun b => ⟨b, 0, none⟩) + (1 : Int).toNat * 1) false (encStr x_18) (by kernel_rfl) (by kernel_rfl) (by kernel_rfl) (fun w hm => ((hm.ownRow (hh := 3) (o := o_625) (T := 9) (enc := encStr) (xs := t_15) (sp := sp_627) (by kernel_rfl) (fun e => (ho_629 e).1) encStr_len).at hx_635)) (jkO ?_))
              obtain ⟨t_19, ht_636, h⟩ := bd h
              refine toO (by kernel_rfl) (p_call 0 30 #[(.string x_18), (.int .i64 1)] (by kernel_rfl) (by kernel_rfl) (fun w hm => impl_readSigned.calls x_18 1 w _ (g_er.keep hm) (g_lo.keep hm) (g_pw.keep hm) ht_636) ?_)
              rintro w v w' hm ⟨rfl, hm'⟩
              refine ⟨_, hm.app hm', jkO ?_⟩
              clear hm hm'
              refine jo_f [(0, 0), (0, 0), (0, 0), (0, 0), (0, 0)] (by kernel_rfl) ?_
              refine jo_end (by kernel_rfl) ?_
              refine jx_then ?_
              refine jc_seq ?_
              refine jc_region ?_
              refine jo_f [(0, 0)] (by kernel_rfl) ?_
              obtain ⟨x_20, hx_637, h⟩ := bd h
              refine toO (by kernel_rfl) (p_idx 0 (o_625.map fun b => ⟨b, 0, none⟩) t_15.length 2 1 (by kernel_rfl) (by kernel_rfl) (ix_some hx_637).1 (ltn hx_637 rfl) (spo ho_629 hx_637) (jkO ?_))
              refine toO (by kernel_rfl) (p_ld 0 (aB (o_625.map fun b => ⟨b, 0, none⟩)) (aO (o_625.map fun b => ⟨b, 0, none⟩) + (2 : Int).toNat * 1) false (encStr x_20) (by kernel_rfl) (by kernel_rfl) (by kernel_rfl) (fun w hm => ((hm.ownRow (hh := 3) (o := o_625) (T := 9) (enc := encStr) (xs := t_15) (sp := sp_627) (by kernel_rfl) (fun e => (ho_629 e).1) encStr_len).at hx_637)) (jkO ?_))
              obtain ⟨t_21, ht_638, h⟩ := bd h
              refine toO (by kernel_rfl) (p_call 0 31 #[(.string x_20), (.int .i64 23)] (by kernel_rfl) (by kernel_rfl) (fun w hm => impl_number.calls x_20 23 w _ (g_er.keep hm) (g_lo.keep hm) (g_pw.keep hm) ht_638) ?_)
              rintro w v w' hm ⟨rfl, hm'⟩
              refine ⟨_, hm.app hm', jkO ?_⟩
              clear hm hm'
              refine jo_f [(0, 0), (0, 0), (0, 0), (0, 0), (0, 0)] (by kernel_rfl) ?_
              refine jo_end (by kernel_rfl) ?_
              refine jx_then ?_
              refine jc_seq ?_
              refine jc_seq ?_
              refine jc_region ?_
              refine jo_f [(0, 0), (0, 0), (0, 0), (0, 1), (0, 1), (0, 0), (0, 0), (0, 1), (0, 1), (0, 0)] (by kernel_rfl) ?_
              refine jo_end (by kernel_rfl) ?_
              refine jx_then ?_
              refine jc_cond (((!t_17.2) || (!t_19.2)) || (!t_21.2)) (by kernel_rfl) (fun hc_640 => ?_) (fun hc_640 => ?_)
              · replace h := ifT hc_640 h
                refine jc_seq ?_
                refine jc_region ?_
                refine jo_f [(0, 0), (0, 0)] (by kernel_rfl) ?_
                refine jo_end (by kernel_rfl) ?_
                refine jx_then ?_
                refine jc_ret ?_
                refine jx_thenr ?_
                refine jx_thenr ?_
                refine jx_thenr ?_
                refine jx_inr ?_
                refine jx_thenr ?_
                refine jx_leaver (.inl ([], 5)) (Option.some.inj h).symm (fun e_641 => ?_)
                subst e_641
                refine jx_inr ?_
                refine jx_thenr ?_
                refine jx_thenr ?_
                obtain rfl := Option.some.inj hr_593
                refine jx_ghost 58 encGChoice ?_
                exact jx_ret [] (.tuple #[(.slice none 0 0), (.int .i64 5)]) [] rfl (by kernel_rfl) (by kernel_rfl) (fun w hm => ⟨none, 0, [], 0, rfl, (fun e => absurd rfl e), (fun _ => ⟨rfl, rfl⟩), rfl, hm.pick [4] (by kernel_rfl) (by kernel_rfl)⟩)
              · replace h := ifF hc_640 h
                refine jc_skip ?_
                refine jx_then ?_
                refine jc_region ?_
                refine jo_f [(0, 0), (0, 0), (0, 0), (0, 0), (0, 0), (0, 0), (0, 0)] (by kernel_rfl) ?_
                refine toO (by kernel_rfl) (p_s 0 [2] (by kernel_rfl) (by kernel_rfl) (jkO ?_))
                refine jo_end (by kernel_rfl) ?_
                exact jx_meet ⟨false, (w8 t_17.1), (w8 t_19.1), (w8 t_21.1)⟩ h (by kernel_rfl) [0, 1, 2] (by kernel_rfl) (by kernel_rfl)
          · replace h := ifF hc_623 h
            refine jc_skip ?_
            exact jx_meet ⟨true, 0, 0, 0⟩ h (by kernel_rfl) [0, 1, 2] (by kernel_rfl) (by kernel_rfl)
        · rintro ⟨q_10, i_11, i_12, i_13⟩ h
          replace h : impl_ReadChoices.k_14 xs_5 i_6 q_10 i_11 i_12 i_13 = some y_594 := h
          rw [impl_ReadChoices.k_14] at h
          refine jx_then ?_
          refine jc_region ?_
          refine jo_f [(0, 0), (2, 0)] (by kernel_rfl) ?_
          refine toO (by kernel_rfl) (p_a 0 [0] (by kernel_rfl) (fun b => by kernel_rfl) (fun b_616 => jkO ?_))
          obtain ⟨hg_617, h⟩ := gd h
          refine toO (by kernel_rfl) (p_apn 0 0 o_587 58 xs_5.length 1 cap_588 4 4 (some ⟨b_616, 0, none⟩) encGChoice xs_5 [(⟨q_10, i_11, i_12, i_13⟩ : GChoice)] sp_589 (.agg #[(.bool false), (.int .i8 0), (.int .i8 0), (.int .i8 0)]) rfl rfl (by kernel_rfl) (by kernel_rfl) (by kernel_rfl) encGChoice_len encGChoice_cell hs_591 ho_592 (fun w hm => (hm.ownRow (hh := 3) (o := (some b_616)) (T := 58) (enc := encGChoice) (xs := [(⟨q_10, i_11, i_12, i_13⟩ : GChoice)]) (sp := []) (by kernel_rfl) (fun e => nomatch e) encGChoice_len)) hg_617 (by kernel_rfl) (by kernel_rfl) (fun o_618 cap_619 sp_620 hs_621 ho_622 => jkO ?_))
          refine jo_f [(0, 0)] (by kernel_rfl) ?_
          refine jo_end (by kernel_rfl) ?_
          refine jx_inn ?_
          refine jx_then ?_
          refine jc_region ?_
          refine jo_f [(0, 0), (0, 0)] (by kernel_rfl) ?_
          refine jo_end (by kernel_rfl) ?_
          exact jx_back ((xs_5 ++ [(⟨q_10, i_11, i_12, i_13⟩ : GChoice)]), (w64 (i_6 + 1))) ⟨o_618, cap_619, sp_620, (xs_5 ++ [(⟨q_10, i_11, i_12, i_13⟩ : GChoice)]).length⟩ (Option.some.inj h).symm ⟨rfl, hs_621, ho_622⟩ [0, 1] (by kernel_rfl) (by kernel_rfl) (by kernel_rfl)
      · replace h := ifF hc_596 h
        refine jc_exit ?_
        refine jx_thenx ?_
        refine jx_leave (.inr xs_5) (Option.some.inj h).symm (fun e_642 => ?_)
        subst e_642
        refine jx_ine ?_
        exact jx_meet ⟨xs_5, o_587, cap_588, sp_589, xs_5.length⟩ ⟨hr_593, rfl, hs_591, ho_592⟩ (by kernel_rfl) [0, 1] (by kernel_rfl) (by kernel_rfl)
    · rintro ⟨xs_2, o_481, cap_482, sp_483, n_484⟩ ⟨h, rfl, hs_485, ho_486⟩
      replace h : impl_ReadChoices.k_3 text0 xs_2 = some r := h
      rw [impl_ReadChoices.k_3] at h
      refine jx_then ?_
      refine jc_seq ?_
      refine jc_seq ?_
      refine jc_region ?_
      refine jo_f [(0, 0)] (by kernel_rfl) ?_
      obtain ⟨t_4, ht_489, h⟩ := bd h
      refine toO (by kernel_rfl) (p_call 0 8 #[(.slice (o_481.map fun b => ⟨b, 0, none⟩) xs_2.length cap_482)] (by kernel_rfl) (by kernel_rfl) (fun w hm => impl_ChoicesText.calls xs_2 w _ (g_lo.keep hm) (g_pw.keep hm) (o_481.map fun b => ⟨b, 0, none⟩) xs_2.length cap_482 (hm.ownRow (hh := 0) (o := o_481) (T := 58) (enc := encGChoice) (xs := xs_2) (sp := sp_483) (by kernel_rfl) (fun e => (ho_486 e).1) encGChoice_len) rfl ht_489) ?_)
      rintro w v w' hm ⟨rfl, hm'⟩
      refine ⟨_, hm.app hm', jkO ?_⟩
      clear hm hm'
      refine jo_f [(0, 0), (0, 0)] (by kernel_rfl) ?_
      refine jo_end (by kernel_rfl) ?_
      refine jx_then ?_
      refine jc_cond (!(t_4.toList == text0.toList)) (by kernel_rfl) (fun hc_490 => ?_) (fun hc_490 => ?_)
      · replace h := ifT hc_490 h
        refine jc_seq ?_
        refine jc_region ?_
        refine jo_f [(0, 0), (0, 0)] (by kernel_rfl) ?_
        refine jo_end (by kernel_rfl) ?_
        refine jx_then ?_
        refine jc_ret ?_
        refine jx_thenr ?_
        obtain rfl := Option.some.inj h
        refine jx_ghost 58 encGChoice ?_
        exact jx_ret [] (.tuple #[(.slice none 0 0), (.int .i64 5)]) [] rfl (by kernel_rfl) (by kernel_rfl) (fun w hm => ⟨none, 0, [], 0, rfl, (fun e => absurd rfl e), (fun _ => ⟨rfl, rfl⟩), rfl, hm.pick [2] (by kernel_rfl) (by kernel_rfl)⟩)
      · replace h := ifF hc_490 h
        refine jc_skip ?_
        refine jx_then ?_
        refine jc_seq ?_
        refine jc_region ?_
        refine jo_f [(0, 0), (0, 0), (0, 0)] (by kernel_rfl) ?_
        refine jo_end (by kernel_rfl) ?_
        refine jx_then ?_
        refine jc_ret ?_
        obtain rfl := Option.some.inj h
        exact jx_ret [] (.tuple #[(.slice (o_481.map fun b => ⟨b, 0, none⟩) xs_2.length cap_482), (.int .i64 0)]) [] rfl (by kernel_rfl) (by kernel_rfl) (fun w hm => ⟨o_481, cap_482, sp_483, xs_2.length, rfl, hs_485, ho_486, rfl, hm.pick [0] (by kernel_rfl) (by kernel_rfl)⟩)

/-! ### impl.size[impl.Hammer] -/
noncomputable def impl_size_Hammer (list0 : List GHammer) : Option (Int) := some (list0.length : Int)
set_option maxRecDepth 100000 in
theorem impl_size_Hammer.calls (list0 : List GHammer) (w : World) (r : Int) (list0_a : Option Addr) (list0_an : Nat) (list0_c : Nat) (list0_h : Rw w list0_a 2 encGHammer list0) (list0_hn : list0.length = list0_an) (h : impl_size_Hammer list0 = some r) :
    Calls Tryz.prog 82 #[(.slice list0_a list0_an list0_c)] w fun e w' => ∃ v, e = .returned v ∧ (v = (.int .i64 r) ∧ Mem w [] [] w') := by
  subst list0_hn
  rw [impl_size_Hammer] at h
  refine enter (args := [(.slice list0_a list0.length list0_c)]) Tryz.func82 rfl Tryz.ntmps82 (by kernel_rfl) (L := []) (W := []) (Mem.start w) ?_
  refine jc_seq ?_
  refine jc_region ?_
  refine jo_f [(0, 0)] (by kernel_rfl) ?_
  refine jo_end (by kernel_rfl) ?_
  refine jx_then ?_
  refine jc_seq ?_
  refine jc_region ?_
  refine jo_f [(0, 0), (0, 0), (0, 0)] (by kernel_rfl) ?_
  refine jo_end (by kernel_rfl) ?_
  refine jx_then ?_
  refine jc_ret ?_
  obtain rfl := Option.some.inj h
  exact jx_ret [] (.int .i64 (list0.length : Int)) [] rfl (by kernel_rfl) (by kernel_rfl) (fun w hm => ⟨rfl, hm.pick [] (by kernel_rfl) (by kernel_rfl)⟩)

/-! ### impl.isPitch -/
noncomputable def impl_isPitch (n0 : Int) : Option (Bool) := (impl_within n0 0 47).bind fun t_1 => some t_1
set_option maxRecDepth 100000 in
theorem impl_isPitch.calls (n0 : Int) (w : World) (r : Bool) (h : impl_isPitch n0 = some r) :
    Calls Tryz.prog 85 #[(.int .i64 n0)] w fun e w' => ∃ v, e = .returned v ∧ (v = (.bool r) ∧ Mem w [] [] w') := by
  rw [impl_isPitch] at h
  refine enter (args := [(.int .i64 n0)]) Tryz.func85 rfl Tryz.ntmps85 (by kernel_rfl) (L := []) (W := []) (Mem.start w) ?_
  refine jc_seq ?_
  refine jc_region ?_
  refine jo_f [(0, 0)] (by kernel_rfl) ?_
  refine jo_end (by kernel_rfl) ?_
  refine jx_then ?_
  refine jc_seq ?_
  refine jc_region ?_
  refine jo_f [(0, 0)] (by kernel_rfl) ?_
  obtain ⟨t_1, ht_1, h⟩ := bd h
  refine toO (by kernel_rfl) (p_call 0 50 #[(.int .i64 n0), (.int .i64 0), (.int .i64 47)] (by kernel_rfl) (by kernel_rfl) (fun w hm => impl_within.calls n0 0 47 w _ ht_1) ?_)
  rintro w v w' hm ⟨rfl, hm'⟩
  refine ⟨_, hm.app hm', jkO ?_⟩
  clear hm hm'
  refine jo_f [(0, 0)] (by kernel_rfl) ?_
  refine jo_end (by kernel_rfl) ?_
  refine jx_then ?_
  refine jc_ret ?_
  obtain rfl := Option.some.inj h
  exact jx_ret [] (.bool t_1) [] rfl (by kernel_rfl) (by kernel_rfl) (fun w hm => ⟨rfl, hm.pick [] (by kernel_rfl) (by kernel_rfl)⟩)

/-! ### impl.ValidFrame$1 -/
noncomputable def impl_ValidFrame_1 (h0 : GHammer) (p1 : GFrame) : Option (Bool) := (impl_isPitch (w64 h0.fPitch)).bind fun t_1 => (if (!t_1) = true then some true else (impl_within (w64 h0.fReady) 1 (if (w64 p1.fSteps) < 20 then (w64 p1.fSteps) else 20)).bind fun t_2 => some (!t_2))
set_option maxRecDepth 100000 in
theorem impl_ValidFrame_1.calls (h0 : GHammer) (p1 : GFrame) (w : World) (r : Bool) (p1_fHammers_a : Option Addr) (p1_fHammers_an : Nat) (p1_fHammers_c : Nat) (p1_fHammers_h : Rw w p1_fHammers_a 2 encGHammer p1.fHammers) (p1_fHammers_hn : p1.fHammers.length = p1_fHammers_an) (p1_b : Nat) (hm0 : Mem w (bs [some p1_b]) [⟨some p1_b, 27, [(.int .i16 p1.fSteps), (.slice p1_fHammers_a p1_fHammers_an p1_fHammers_c)]⟩] w) (p1_fHammers_ha : p1.fHammers ≠ [] → aB p1_fHammers_a ∉ bs [some p1_b]) (h : impl_ValidFrame_1 h0 p1 = some r) :
    Calls Tryz.prog 84 #[(.agg #[(.int .i8 h0.fPitch), (.int .i8 h0.fReady)]), (.pointer (some ⟨p1_b, 0, none⟩))] w fun e w' => ∃ v, e = .returned v ∧ (v = (.bool r) ∧ Mem w (bs [some p1_b]) [⟨some p1_b, 27, [(.int .i16 p1.fSteps), (.slice p1_fHammers_a p1_fHammers_an p1_fHammers_c)]⟩] w') := by
  subst p1_fHammers_hn
  rw [impl_ValidFrame_1] at h
  refine enter (args := [(.agg #[(.int .i8 h0.fPitch), (.int .i8 h0.fReady)]), (.pointer (some ⟨p1_b, 0, none⟩))]) Tryz.func84 rfl Tryz.ntmps84 (by kernel_rfl) (L := [⟨some p1_b, 27, [(.int .i16 p1.fSteps), (.slice p1_fHammers_a p1.fHammers.length p1_fHammers_c)]⟩]) (W := bs [some p1_b]) hm0 ?_
  refine jc_seq ?_
  refine jc_region ?_
  refine toO (by kernel_rfl) (p_a 0 [0] (by kernel_rfl) (fun b => by kernel_rfl) (fun b_1 => jkO ?_))
  refine jo_f [(0, 0)] (by kernel_rfl) ?_
  refine jo_end (by kernel_rfl) ?_
  refine jx_then ?_
  refine jc_seq ?_
  refine jc_region ?_
  refine jo_f [(0, 0), (1, 0), (0, 0)] (by kernel_rfl) ?_
  obtain ⟨t_1, ht_2, h⟩ := bd h
  refine toO (by kernel_rfl) (p_call 0 85 #[(.int .i64 (w64 h0.fPitch))] (by kernel_rfl) (by kernel_rfl) (fun w hm => impl_isPitch.calls (w64 h0.fPitch) w _ ht_2) ?_)
  rintro w v w' hm ⟨rfl, hm'⟩
  refine ⟨_, hm.app hm', jkO ?_⟩
  clear hm hm'
  refine jo_f [(0, 0), (0, 0), (0, 1), (1, 1), (0, 1), (0, 1), (0, 1), (0, 1), (0, 1)] (by kernel_rfl) ?_
  refine jo_split 9 (!t_1) (by kernel_rfl) (fun hc_3 => ?_) (fun hc_3 => ?_)
  · replace h := ifT hc_3 h
    refine jo_f [(0, 3), (0, 3), (0, 4), (0, 0)] (by kernel_rfl) ?_
    refine jo_end (by kernel_rfl) ?_
    refine jx_then ?_
    refine jc_ret ?_
    obtain rfl := Option.some.inj h
    exact jx_ret [] (.bool true) [] rfl (by kernel_rfl) (by kernel_rfl) (fun w hm => ⟨rfl, hm.pick [0] (by kernel_rfl) (by kernel_rfl)⟩)
  · replace h := ifF hc_3 h
    obtain ⟨t_2, ht_4, h⟩ := bd h
    refine toO (by kernel_rfl) (p_call 2 50 #[(.int .i64 (w64 h0.fReady)), (.int .i64 1), (.int .i64 (if (w64 p1.fSteps) < 20 then (w64 p1.fSteps) else 20))] (by kernel_rfl) (by kernel_rfl) (fun w hm => impl_within.calls (w64 h0.fReady) 1 (if (w64 p1.fSteps) < 20 then (w64 p1.fSteps) else 20) w _ ht_4) ?_)
    rintro w v w' hm ⟨rfl, hm'⟩
    refine ⟨_, hm.app hm', jkO ?_⟩
    clear hm hm'
    refine jo_f [(0, 2), (0, 5), (0, 0)] (by kernel_rfl) ?_
    refine jo_end (by kernel_rfl) ?_
    refine jx_then ?_
    refine jc_ret ?_
    obtain rfl := Option.some.inj h
    exact jx_ret [] (.bool (!t_2)) [] rfl (by kernel_rfl) (by kernel_rfl) (fun w hm => ⟨rfl, hm.pick [0] (by kernel_rfl) (by kernel_rfl)⟩)
end Go.Proofs.YtplklknkkaeniaaGreatDoor
