/- Functions of the program that the laws reach: a plain function each, and that the call comes to its answer if the plain function has one. Printed by a program. -/
import Derived.Test.YtdnkjgmncfhejaaT
namespace Go.Proofs.Ytdnkjgmncfhejaa
open Eng
set_option linter.unusedVariables false

/-! ### laws.eqDrum -/
noncomputable def laws_eqDrum.k_1 : Option (Bool) := some true
noncomputable def laws_eqDrum.l_3 (a0 : Arr 96 Int) (b1 : Arr 96 Int) : Int → Option ((Int) ⊕ (Bool ⊕ Unit))
  | i_2 => (if (decide (i_2 < 96)) = true then (ix a0.1 i_2).bind fun x_5 => (ix b1.1 i_2).bind fun x_6 => (if (x_5 != x_6) = true then some (.inr (.inl false)) else some (.inl (w64 (i_2 + 1)))) else some (.inr (.inr ())))
noncomputable def laws_eqDrum (a0 : Arr 96 Int) (b1 : Arr 96 Int) : Option (Bool) := (loop (laws_eqDrum.l_3 a0 b1) 0).bind fun t_4 => match t_4 with | .inl p => some p | .inr p => laws_eqDrum.k_1
set_option maxRecDepth 100000 in
theorem laws_eqDrum.calls (a0 : Arr 96 Int) (b1 : Arr 96 Int) (w : World) (r : Bool) (h : laws_eqDrum a0 b1 = some r) :
    Calls Try.prog 33 #[(.agg (row encU32 a0.1 []).toArray), (.agg (row encU32 b1.1 []).toArray)] w fun e w' => ∃ v, e = .returned v ∧ (v = (.bool r) ∧ Mem w [] [] w') := by
  rw [laws_eqDrum] at h
  refine enter (args := [(.agg (row encU32 a0.1 []).toArray), (.agg (row encU32 b1.1 []).toArray)]) Try.func33 rfl Try.ntmps33 (by kernel_rfl) (L := []) (W := []) (Mem.start w) ?_
  refine jc_seq ?_
  refine jc_region ?_
  refine toO (by kernel_rfl) (p_a 0 [0] (by kernel_rfl) (fun b => by kernel_rfl) (fun b_1 => jkO ?_))
  refine toO (by kernel_rfl) (p_a 0 [0] (by kernel_rfl) (fun b => by kernel_rfl) (fun b_2 => jkO ?_))
  refine jo_f [(0, 0)] (by kernel_rfl) ?_
  refine jo_end (by kernel_rfl) ?_
  refine jx_then ?_
  refine jc_seq ?_
  refine jc_seq ?_
  refine jc_region ?_
  refine jo_f [(0, 0)] (by kernel_rfl) ?_
  refine jo_end (by kernel_rfl) ?_
  refine jx_then ?_
  refine jc_meet (fun (_ : Unit) => laws_eqDrum.k_1 = some r) (fun (_ : Unit) => [(4, [], (.bool false))]) (fun (_ : Unit) => [⟨(some b_1), 58, row encU32 a0.1 []⟩, ⟨(some b_2), 58, row encU32 b1.1 []⟩]) ?_ ?_
  · refine jc_block ?_
    obtain ⟨t_4, ht_42, hr_33⟩ := bd h
    refine jc_loop (fun (s : Int) (x : Unit) => match s, x with | i_2, _ => True) (fun (s : Int) (x : Unit) => match s, x with | i_2, _ => [(2, [], (.pointer (some ⟨b_1, 0, none⟩))), (3, [], (.pointer (some ⟨b_2, 0, none⟩))), (4, [], (.bool false)), (5, [], (.int .i64 i_2))]) (fun (s : Int) (x : Unit) => match s, x with | i_2, _ => [⟨(some b_1), 58, row encU32 a0.1 []⟩, ⟨(some b_2), 58, row encU32 b1.1 []⟩]) ht_42 () trivial (by kernel_rfl) [0, 1] (by kernel_rfl) (by kernel_rfl) ?_
    rintro i_2 _ y_34 _ h
    rw [laws_eqDrum.l_3] at h
    refine jc_seq ?_
    refine jc_seq ?_
    refine jc_region ?_
    refine jo_f [(0, 0), (0, 0)] (by kernel_rfl) ?_
    refine jo_end (by kernel_rfl) ?_
    refine jx_then ?_
    refine jc_cond (decide (i_2 < 96)) (by kernel_rfl) (fun hc_36 => ?_) (fun hc_36 => ?_)
    · replace h := ifT hc_36 h
      refine jc_skip ?_
      refine jx_then ?_
      refine jc_seq ?_
      refine jc_block ?_
      refine jc_seq ?_
      refine jc_draw [⟨(some b_1), 58, row encU32 a0.1 []⟩, ⟨(some b_2), 58, row encU32 b1.1 []⟩] 7 (by kernel_rfl) (by kernel_rfl) ?_
      refine jd_f [⟨0, 0, 0⟩, ⟨3, 0, 0⟩] 5 (by kernel_rfl) (by kernel_rfl) (fun w h => h.pick [0, 1] (by kernel_rfl) (by kernel_rfl)) (by kernel_rfl) (by kernel_rfl) ?_
      obtain ⟨x_5, hx_37, h⟩ := bd h
      refine jd_v 1 0 (by kernel_rfl) (fun w h => h.pick [0, 1] (by kernel_rfl) (by kernel_rfl)) (by kernel_rfl) (by kernel_rfl) _ (fun w hm => idx_run (a := (some ⟨b_1, 0, none⟩)) (len := 96) (s := 1) (j := i_2) (by kernel_rfl) (ix_some hx_37).1 (ltn hx_37 a0.2) rfl) ?_
      refine jd_v 2 0 (by kernel_rfl) (fun w h => h.pick [0, 1] (by kernel_rfl) (by kernel_rfl)) (by kernel_rfl) (by kernel_rfl) _ (fun w hm => ld_run (b := aB (some ⟨b_1, 0, none⟩)) (off := (aO (some ⟨b_1, 0, none⟩) + i_2.toNat * 1)) (s := 1) (agg := false) (vs := (encU32 x_5)) (by kernel_rfl) (by kernel_rfl) (.inr rfl) ((hm.ownRow (hh := 0) (o := (some b_1)) (T := 58) (enc := encU32) (xs := a0.1) (sp := []) (by kernel_rfl) (fun e => nomatch e) encU32_len).at hx_37)) ?_
      obtain ⟨x_6, hx_38, h⟩ := bd h
      refine jd_v 4 0 (by kernel_rfl) (fun w h => h.pick [0, 1] (by kernel_rfl) (by kernel_rfl)) (by kernel_rfl) (by kernel_rfl) _ (fun w hm => idx_run (a := (some ⟨b_2, 0, none⟩)) (len := 96) (s := 1) (j := i_2) (by kernel_rfl) (ix_some hx_38).1 (ltn hx_38 b1.2) rfl) ?_
      refine jd_v 5 0 (by kernel_rfl) (fun w h => h.pick [0, 1] (by kernel_rfl) (by kernel_rfl)) (by kernel_rfl) (by kernel_rfl) _ (fun w hm => ld_run (b := aB (some ⟨b_2, 0, none⟩)) (off := (aO (some ⟨b_2, 0, none⟩) + i_2.toNat * 1)) (s := 1) (agg := false) (vs := (encU32 x_6)) (by kernel_rfl) (by kernel_rfl) (.inr rfl) ((hm.ownRow (hh := 1) (o := (some b_2)) (T := 58) (enc := encU32) (xs := b1.1) (sp := []) (by kernel_rfl) (fun e => nomatch e) encU32_len).at hx_38)) ?_
      refine jd_f [⟨6, 0, 0⟩] 0 (by kernel_rfl) (by kernel_rfl) (fun w h => h.pick [0, 1] (by kernel_rfl) (by kernel_rfl)) (by kernel_rfl) (by kernel_rfl) ?_
      refine jd_end (by kernel_rfl) ?_
      refine jx_then ?_
      refine jc_cond (x_5 != x_6) (by kernel_rfl) (fun hc_39 => ?_) (fun hc_39 => ?_)
      · replace h := ifT hc_39 h
        refine jc_seq ?_
        refine jc_region ?_
        refine jo_f [(0, 0)] (by kernel_rfl) ?_
        refine jo_end (by kernel_rfl) ?_
        refine jx_then ?_
        refine jc_ret ?_
        refine jx_inr ?_
        refine jx_thenr ?_
        refine jx_leaver (.inl false) (Option.some.inj h).symm (fun e_40 => ?_)
        subst e_40
        refine jx_inr ?_
        refine jx_thenr ?_
        refine jx_thenr ?_
        obtain rfl := Option.some.inj hr_33
        exact jx_ret [] (.bool false) [] rfl (by kernel_rfl) (by kernel_rfl) (fun w hm => ⟨rfl, hm.pick [] (by kernel_rfl) (by kernel_rfl)⟩)
      · replace h := ifF hc_39 h
        refine jc_skip ?_
        refine jx_inn ?_
        refine jx_then ?_
        refine jc_region ?_
        refine jo_f [(0, 0), (0, 0), (0, 0)] (by kernel_rfl) ?_
        refine jo_end (by kernel_rfl) ?_
        exact jx_back (w64 (i_2 + 1)) () (Option.some.inj h).symm trivial [0, 1] (by kernel_rfl) (by kernel_rfl) (by kernel_rfl)
    · replace h := ifF hc_36 h
      refine jc_exit ?_
      refine jx_thenx ?_
      refine jx_leave (.inr ()) (Option.some.inj h).symm (fun e_41 => ?_)
      subst e_41
      refine jx_ine ?_
      exact jx_meet () hr_33 (by kernel_rfl) [0, 1] (by kernel_rfl) (by kernel_rfl)
  · rintro _ h
    replace h : laws_eqDrum.k_1 = some r := h
    rw [laws_eqDrum.k_1] at h
    refine jx_then ?_
    refine jc_seq ?_
    refine jc_region ?_
    refine jo_f [(0, 0)] (by kernel_rfl) ?_
    refine jo_end (by kernel_rfl) ?_
    refine jx_then ?_
    refine jc_ret ?_
    obtain rfl := Option.some.inj h
    exact jx_ret [] (.bool true) [] rfl (by kernel_rfl) (by kernel_rfl) (fun w hm => ⟨rfl, hm.pick [] (by kernel_rfl) (by kernel_rfl)⟩)
end Go.Proofs.Ytdnkjgmncfhejaa
