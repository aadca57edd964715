/- Functions of the program that the laws reach: a plain function each, and that the call comes to its answer if the plain function has one. Printed by a program. -/
import Derived.Test.YtdnkjgmncfhejaaT
namespace Go.Proofs.Ytdnkjgmncfhejaa
open Eng
set_option linter.unusedVariables false

/-! ### spec.l06Each -/
noncomputable def spec_l06Each.k_2 (xs_1 : List Int) : Option ((List Int)) := some xs_1
noncomputable def spec_l06Each.l_5 (w0 : GWear) : ((List Int) × Int) → Option (((List Int) × Int) ⊕ ((List Int)))
  | (xs_3, i_4) => (if (decide (i_4 < (w0.fPins.length : Int))) = true then (ix w0.fPins i_4).bind fun x_7 => (ix xs_3 x_7.fTrack).bind fun x_8 => (ix xs_3 x_7.fTrack).bind fun x_9 => some (.inl ((xs_3.set x_7.fTrack.toNat (w64 (x_8 + 1))), (w64 (i_4 + 1)))) else some (.inr xs_3))
noncomputable def spec_l06Each (w0 : GWear) : Option ((List Int)) := (if 0 ≤ (w0.fStrokes.length : Int) ∧ (w0.fStrokes.length : Int) ≤ 17592186044416 then (loop (spec_l06Each.l_5 w0) ((List.replicate (w0.fStrokes.length : Int).toNat 0), 0)).bind fun t_6 => spec_l06Each.k_2 t_6 else none)
set_option maxRecDepth 100000 in
theorem spec_l06Each.calls (w0 : GWear) (w : World) (r : (List Int)) (w0_fPins_a : Option Addr) (w0_fPins_an : Nat) (w0_fPins_c : Nat) (w0_fPins_h : Rw w w0_fPins_a 3 encGWornPin w0.fPins) (w0_fPins_hn : w0.fPins.length = w0_fPins_an) (w0_fStrokes_a : Option Addr) (w0_fStrokes_an : Nat) (w0_fStrokes_c : Nat) (w0_fStrokes_h : Rw w w0_fStrokes_a 1 encI64 w0.fStrokes) (w0_fStrokes_hn : w0.fStrokes.length = w0_fStrokes_an) (w0_b : Nat) (hm0 : Mem w (bs [some w0_b]) [⟨some w0_b, 52, [(.slice w0_fPins_a w0_fPins_an w0_fPins_c), (.slice w0_fStrokes_a w0_fStrokes_an w0_fStrokes_c)]⟩] w) (w0_fPins_ha : w0.fPins ≠ [] → aB w0_fPins_a ∉ bs [some w0_b]) (w0_fStrokes_ha : w0.fStrokes ≠ [] → aB w0_fStrokes_a ∉ bs [some w0_b]) (h : spec_l06Each w0 = some r) :
    Calls Try.prog 124 #[(.pointer (some ⟨w0_b, 0, none⟩))] w fun e w' => ∃ v, e = .returned v ∧ (∃ (o0 : Option Nat) (c0 : Nat) (s0 : List Value) (n0 : Nat), r.length = n0 ∧ (o0 ≠ none → n0 ≤ c0 ∧ s0.length = (c0 - n0) * 1) ∧ (o0 = none → r = [] ∧ c0 = 0) ∧ v = .slice (o0.map fun b => ⟨b, 0, none⟩) n0 c0 ∧ Mem w (bs [some w0_b]) [⟨some w0_b, 52, [(.slice w0_fPins_a w0_fPins_an w0_fPins_c), (.slice w0_fStrokes_a w0_fStrokes_an w0_fStrokes_c)]⟩, ⟨o0, 2, row encI64 r s0⟩] w') := by
  subst w0_fPins_hn w0_fStrokes_hn
  rw [spec_l06Each] at h
  refine enter (args := [(.pointer (some ⟨w0_b, 0, none⟩))]) Try.func124 rfl Try.ntmps124 (by kernel_rfl) (L := [⟨some w0_b, 52, [(.slice w0_fPins_a w0.fPins.length w0_fPins_c), (.slice w0_fStrokes_a w0.fStrokes.length w0_fStrokes_c)]⟩]) (W := bs [some w0_b]) hm0 ?_
  refine jc_seq ?_
  refine jc_region ?_
  refine jo_f [(0, 0)] (by kernel_rfl) ?_
  refine jo_end (by kernel_rfl) ?_
  refine jx_then ?_
  refine jc_seq ?_
  refine jc_region ?_
  refine jo_f [(0, 0), (0, 0), (0, 0), (0, 0), (0, 0)] (by kernel_rfl) ?_
  obtain ⟨hg_88, h⟩ := gd h
  refine toO (by kernel_rfl) (p_mk 0 2 (w0.fStrokes.length : Int) 1 8 encI64 0 (by kernel_rfl) (by kernel_rfl) hg_88.1 (by omega) (by kernel_rfl) (fun b_1 => jkO ?_))
  refine jo_f [(0, 0)] (by kernel_rfl) ?_
  refine jo_end (by kernel_rfl) ?_
  refine jx_then ?_
  refine jc_seq ?_
  refine jc_seq ?_
  refine jc_region ?_
  refine jo_f [(0, 0)] (by kernel_rfl) ?_
  refine jo_end (by kernel_rfl) ?_
  refine jx_then ?_
  refine jc_meet (fun (j : (List Int)) => match j with | xs_1 => spec_l06Each.k_2 xs_1 = some r ∧ (xs_1.length = (w0.fStrokes.length : Int).toNat)) (fun (j : (List Int)) => match j with | xs_1 => [(2, [], (.slice none 0 0)), (3, [], (.slice (some ⟨b_1, 0, none⟩) ((w0.fStrokes.length : Int).toNat) ((w0.fStrokes.length : Int).toNat)))]) (fun (j : (List Int)) => match j with | xs_1 => [⟨some w0_b, 52, [(.slice w0_fPins_a w0.fPins.length w0_fPins_c), (.slice w0_fStrokes_a w0.fStrokes.length w0_fStrokes_c)]⟩, ⟨(some b_1), 2, row encI64 xs_1 []⟩]) ?_ ?_
  · refine jc_block ?_
    obtain ⟨t_6, ht_87, hr_79⟩ := bd h
    refine jc_loop (fun (s : (List Int) × Int) (x : Unit) => match s, x with | ⟨xs_3, i_4⟩, _ => (xs_3.length = (w0.fStrokes.length : Int).toNat)) (fun (s : (List Int) × Int) (x : Unit) => match s, x with | ⟨xs_3, i_4⟩, _ => [(0, [], (.pointer (some ⟨w0_b, 0, none⟩))), (2, [], (.slice none 0 0)), (3, [], (.slice (some ⟨b_1, 0, none⟩) ((w0.fStrokes.length : Int).toNat) ((w0.fStrokes.length : Int).toNat))), (4, [], (.int .i64 i_4))]) (fun (s : (List Int) × Int) (x : Unit) => match s, x with | ⟨xs_3, i_4⟩, _ => [⟨some w0_b, 52, [(.slice w0_fPins_a w0.fPins.length w0_fPins_c), (.slice w0_fStrokes_a w0.fStrokes.length w0_fStrokes_c)]⟩, ⟨(some b_1), 2, row encI64 xs_3 []⟩]) ht_87 () List.length_replicate (by kernel_rfl) [0, 1] (by kernel_rfl) (by kernel_rfl) ?_
    rintro ⟨xs_3, i_4⟩ _ y_80 hn_78 h
    rw [spec_l06Each.l_5] at h
    refine jc_seq ?_
    refine jc_seq ?_
    refine jc_region ?_
    refine jo_f [(0, 0), (0, 0), (0, 0), (0, 0), (0, 0), (0, 0), (0, 0)] (by kernel_rfl) ?_
    refine jo_end (by kernel_rfl) ?_
    refine jx_then ?_
    refine jc_cond (decide (i_4 < (w0.fPins.length : Int))) (by kernel_rfl) (fun hc_82 => ?_) (fun hc_82 => ?_)
    · replace h := ifT hc_82 h
      refine jc_skip ?_
      refine jx_then ?_
      refine jc_seq ?_
      refine jc_block ?_
      refine jc_region ?_
      refine jo_f [(0, 0), (0, 0), (0, 0), (0, 0), (0, 0), (0, 0)] (by kernel_rfl) ?_
      obtain ⟨x_7, hx_83, h⟩ := bd h
      refine toO (by kernel_rfl) (p_idx 0 w0_fPins_a w0.fPins.length i_4 3 (by kernel_rfl) (by kernel_rfl) (ix_some hx_83).1 (ltn hx_83 rfl) (w0_fPins_h.sp hx_83) (jkO ?_))
      refine jo_f [(0, 0)] (by kernel_rfl) ?_
      refine toO (by kernel_rfl) (p_ld 0 (aB w0_fPins_a) (aO w0_fPins_a + i_4.toNat * 3 + 1) false (((encGWornPin x_7).drop 1).take 1) (by kernel_rfl) (by kernel_rfl) (by kernel_rfl) (fun w hm => (((hm.exRowW w0_fPins_h w0_fPins_ha).at hx_83).sub 1 1)) (jkO ?_))
      obtain ⟨x_8, hx_84, h⟩ := bd h
      refine toO (by kernel_rfl) (p_idx 0 (some ⟨b_1, 0, none⟩) ((w0.fStrokes.length : Int).toNat) x_7.fTrack 1 (by kernel_rfl) (by kernel_rfl) (ix_some hx_84).1 (ltn hx_84 hn_78) rfl (jkO ?_))
      refine toO (by kernel_rfl) (p_ld 0 (aB (some ⟨b_1, 0, none⟩)) (aO (some ⟨b_1, 0, none⟩) + x_7.fTrack.toNat * 1) false (encI64 x_8) (by kernel_rfl) (by kernel_rfl) (by kernel_rfl) (fun w hm => ((hm.ownRow (hh := 1) (o := (some b_1)) (T := 2) (enc := encI64) (xs := xs_3) (sp := []) (by kernel_rfl) (fun e => nomatch e) encI64_len).at hx_84)) (jkO ?_))
      refine jo_f [(0, 0)] (by kernel_rfl) ?_
      obtain ⟨x_9, hx_85, h⟩ := bd h
      refine toO (by kernel_rfl) (p_idx 0 (some ⟨b_1, 0, none⟩) ((w0.fStrokes.length : Int).toNat) x_7.fTrack 1 (by kernel_rfl) (by kernel_rfl) (ix_some hx_85).1 (ltn hx_85 hn_78) rfl (jkO ?_))
      refine toO (by kernel_rfl) (p_str 0 1 b_1 2 encI64 xs_3 [] x_7.fTrack (w64 (x_8 + 1)) 1 0 [(.int .i64 (w64 (x_8 + 1)))] (by kernel_rfl) (by kernel_rfl) (by kernel_rfl) encI64_len hx_85 (by kernel_rfl) (by kernel_rfl) (jkO ?_))
      refine jo_end (by kernel_rfl) ?_
      refine jx_inn ?_
      refine jx_then ?_
      refine jc_region ?_
      refine jo_f [(0, 0), (0, 0), (0, 0)] (by kernel_rfl) ?_
      refine jo_end (by kernel_rfl) ?_
      exact jx_back ((xs_3.set x_7.fTrack.toNat (w64 (x_8 + 1))), (w64 (i_4 + 1))) () (Option.some.inj h).symm (List.length_set.trans hn_78) [0, 1] (by kernel_rfl) (by kernel_rfl) (by kernel_rfl)
    · replace h := ifF hc_82 h
      refine jc_exit ?_
      refine jx_thenx ?_
      refine jx_leave xs_3 (Option.some.inj h).symm (fun e_86 => ?_)
      subst e_86
      refine jx_ine ?_
      exact jx_meet xs_3 ⟨hr_79, hn_78⟩ (by kernel_rfl) [0, 1] (by kernel_rfl) (by kernel_rfl)
  · rintro xs_1 ⟨h, hn_66⟩
    replace h : spec_l06Each.k_2 xs_1 = some r := h
    rw [spec_l06Each.k_2] at h
    refine jx_then ?_
    refine jc_seq ?_
    refine jc_region ?_
    refine jo_f [(0, 0), (0, 0)] (by kernel_rfl) ?_
    refine jo_end (by kernel_rfl) ?_
    refine jx_then ?_
    refine jc_ret ?_
    obtain rfl := Option.some.inj h
    exact jx_ret [] (.slice (some ⟨b_1, 0, none⟩) ((w0.fStrokes.length : Int).toNat) ((w0.fStrokes.length : Int).toNat)) [] rfl (by kernel_rfl) (by kernel_rfl) (fun w hm => ⟨(some b_1), ((w0.fStrokes.length : Int).toNat), [], ((w0.fStrokes.length : Int).toNat), hn_66, (fun _ => ⟨Nat.le_refl _, by simp⟩), (fun e => nomatch e), rfl, hm.pick [0, 1] (by kernel_rfl) (by kernel_rfl)⟩)
end Go.Proofs.Ytdnkjgmncfhejaa
