/- Functions of the program that the laws reach: a plain function each, and that the call comes to its answer if the plain function has one. Printed by a program. -/
import Derived.Test.YtdnkjgmncfhejaaT
import Derived.Test.YtdnkjgmncfhejaaM0
namespace Go.Proofs.Ytdnkjgmncfhejaa
open Eng
set_option linter.unusedVariables false

/-! ### laws.toDrum -/
noncomputable def laws_toDrum.k_2 (a_1 : Arr 96 Int) : Option ((Arr 96 Int)) := some a_1
noncomputable def laws_toDrum.l_5 (a0 : Arr 96 Int) : ((Arr 96 Int) × Int) → Option (((Arr 96 Int) × Int) ⊕ ((Arr 96 Int)))
  | (a_3, i_4) => (if (decide (i_4 < 96)) = true then (ix a0.1 i_4).bind fun x_7 => (ix a_3.1 i_4).bind fun x_8 => some (.inl ((Arr.set a_3 i_4 x_7), (w64 (i_4 + 1)))) else some (.inr a_3))
noncomputable def laws_toDrum (a0 : Arr 96 Int) : Option ((Arr 96 Int)) := (loop (laws_toDrum.l_5 a0) ((Arr.rep 96 0), 0)).bind fun t_6 => laws_toDrum.k_2 t_6
set_option maxRecDepth 100000 in
theorem laws_toDrum.calls (a0 : Arr 96 Int) (w : World) (r : (Arr 96 Int)) (h : laws_toDrum a0 = some r) :
    Calls Try.prog 31 #[(.agg (row encU32 a0.1 []).toArray)] w fun e w' => ∃ v, e = .returned v ∧ (v = (.agg (row encU32 r.1 []).toArray) ∧ Mem w [] [] w') := by
  rw [laws_toDrum] at h
  refine enter (args := [(.agg (row encU32 a0.1 []).toArray)]) Try.func31 rfl Try.ntmps31 (by kernel_rfl) (L := []) (W := []) (Mem.start w) ?_
  refine jc_seq ?_
  refine jc_region ?_
  refine toO (by kernel_rfl) (p_a 0 [0] (by kernel_rfl) (fun b => by kernel_rfl) (fun b_1 => jkO ?_))
  refine toO (by kernel_rfl) (p_a 0 [0] (by kernel_rfl) (fun b => by kernel_rfl) (fun b_2 => jkO ?_))
  refine jo_end (by kernel_rfl) ?_
  refine jx_then ?_
  refine jc_seq ?_
  refine jc_region ?_
  refine toO (by kernel_rfl) (p_a 0 [0] (by kernel_rfl) (fun b => by kernel_rfl) (fun b_3 => jkO ?_))
  refine jo_end (by kernel_rfl) ?_
  refine jx_then ?_
  refine jc_seq ?_
  refine jc_seq ?_
  refine jc_region ?_
  refine jo_f [(0, 0)] (by kernel_rfl) ?_
  refine jo_end (by kernel_rfl) ?_
  refine jx_then ?_
  refine jc_meet (fun (j : (Arr 96 Int)) => match j with | a_1 => laws_toDrum.k_2 a_1 = some r) (fun (j : (Arr 96 Int)) => match j with | a_1 => [(2, [], (.pointer (some ⟨b_2, 0, none⟩))), (3, [], (.pointer (some ⟨b_3, 0, none⟩)))]) (fun (j : (Arr 96 Int)) => match j with | a_1 => [⟨(some b_1), 57, row encU32 a0.1 []⟩, ⟨(some b_2), 58, row encU32 ((Arr.rep 96 0).1) []⟩, ⟨(some b_3), 58, row encU32 a_1.1 []⟩]) ?_ ?_
  · refine jc_block ?_
    obtain ⟨t_6, ht_67, hr_60⟩ := bd h
    refine jc_loop (fun (s : (Arr 96 Int) × Int) (x : Unit) => match s, x with | ⟨a_3, i_4⟩, _ => True) (fun (s : (Arr 96 Int) × Int) (x : Unit) => match s, x with | ⟨a_3, i_4⟩, _ => [(1, [], (.pointer (some ⟨b_1, 0, none⟩))), (2, [], (.pointer (some ⟨b_2, 0, none⟩))), (3, [], (.pointer (some ⟨b_3, 0, none⟩))), (4, [], (.int .i64 i_4))]) (fun (s : (Arr 96 Int) × Int) (x : Unit) => match s, x with | ⟨a_3, i_4⟩, _ => [⟨(some b_1), 57, row encU32 a0.1 []⟩, ⟨(some b_2), 58, row encU32 ((Arr.rep 96 0).1) []⟩, ⟨(some b_3), 58, row encU32 a_3.1 []⟩]) ht_67 () trivial (by kernel_rfl) [0, 1, 2] (by kernel_rfl) (by kernel_rfl) ?_
    rintro ⟨a_3, i_4⟩ _ y_61 _ h
    rw [laws_toDrum.l_5] at h
    refine jc_seq ?_
    refine jc_seq ?_
    refine jc_region ?_
    refine jo_f [(0, 0), (0, 0)] (by kernel_rfl) ?_
    refine jo_end (by kernel_rfl) ?_
    refine jx_then ?_
    refine jc_cond (decide (i_4 < 96)) (by kernel_rfl) (fun hc_63 => ?_) (fun hc_63 => ?_)
    · replace h := ifT hc_63 h
      refine jc_skip ?_
      refine jx_then ?_
      refine jc_seq ?_
      refine jc_block ?_
      refine jc_region ?_
      refine jo_f [(0, 0), (0, 0)] (by kernel_rfl) ?_
      obtain ⟨x_7, hx_64, h⟩ := bd h
      refine toO (by kernel_rfl) (p_idx 0 (some ⟨b_1, 0, none⟩) 96 i_4 1 (by kernel_rfl) (by kernel_rfl) (ix_some hx_64).1 (ltn hx_64 a0.2) rfl (jkO ?_))
      refine toO (by kernel_rfl) (p_ld 0 (aB (some ⟨b_1, 0, none⟩)) (aO (some ⟨b_1, 0, none⟩) + i_4.toNat * 1) false (encU32 x_7) (by kernel_rfl) (by kernel_rfl) (by kernel_rfl) (fun w hm => ((hm.ownRow (hh := 0) (o := (some b_1)) (T := 57) (enc := encU32) (xs := a0.1) (sp := []) (by kernel_rfl) (fun e => nomatch e) encU32_len).at hx_64)) (jkO ?_))
      obtain ⟨x_8, hx_65, h⟩ := bd h
      refine toO (by kernel_rfl) (p_idx 0 (some ⟨b_3, 0, none⟩) 96 i_4 1 (by kernel_rfl) (by kernel_rfl) (ix_some hx_65).1 (ltn hx_65 a_3.2) rfl (jkO ?_))
      refine toO (by kernel_rfl) (p_str 0 2 b_3 58 encU32 a_3.1 [] i_4 x_7 1 0 [(.int .u32 x_7)] (by kernel_rfl) (by kernel_rfl) (by kernel_rfl) encU32_len hx_65 (by kernel_rfl) (by kernel_rfl) (jkO ?_))
      refine jo_end (by kernel_rfl) ?_
      refine jx_inn ?_
      refine jx_then ?_
      refine jc_region ?_
      refine jo_f [(0, 0), (0, 0), (0, 0)] (by kernel_rfl) ?_
      refine jo_end (by kernel_rfl) ?_
      exact jx_back ((Arr.set a_3 i_4 x_7), (w64 (i_4 + 1))) () (Option.some.inj h).symm trivial [0, 1, 2] (by kernel_rfl) (by kernel_rfl) (by kernel_rfl)
    · replace h := ifF hc_63 h
      refine jc_exit ?_
      refine jx_thenx ?_
      refine jx_leave a_3 (Option.some.inj h).symm (fun e_66 => ?_)
      subst e_66
      refine jx_ine ?_
      exact jx_meet a_3 hr_60 (by kernel_rfl) [0, 1, 2] (by kernel_rfl) (by kernel_rfl)
  · rintro a_1 h
    replace h : laws_toDrum.k_2 a_1 = some r := h
    rw [laws_toDrum.k_2] at h
    refine jx_then ?_
    refine jc_seq ?_
    refine jc_region ?_
    refine toO (by kernel_rfl) (p_ldA 0 2 b_3 96 1 58 encU32 a_1 (by kernel_rfl) (by kernel_rfl) (by kernel_rfl) encU32_len (by kernel_rfl) (jkO ?_))
    refine toO (by kernel_rfl) (p_sA 0 1 b_2 96 1 58 encU32 (Arr.rep 96 0) a_1 (by kernel_rfl) (by kernel_rfl) (by kernel_rfl) encU32_len encU32_cell (by kernel_rfl) (jkO ?_))
    refine jo_end (by kernel_rfl) ?_
    refine jx_then ?_
    refine jc_ret ?_
    obtain rfl := Option.some.inj h
    exact jx_retV rfl (rq_arr (b := b_2) (T' := 58) (hh := 1) (mm := 1) encU32 a_1 (by kernel_rfl) (by kernel_rfl) encU32_len (by kernel_rfl) rq_nil) (fun w hm => ⟨rfl, hm.pick [] (by kernel_rfl) (by kernel_rfl)⟩)

/-! ### spec.l02Drum -/
noncomputable def spec_l02Drum.k_1 : Option (Bool) := some true
noncomputable def spec_l02Drum.k_6 (i_2 : Int) (q_5 : Bool) : Option ((Int) ⊕ (Bool ⊕ Unit)) := (if q_5 = true then some (.inr (.inl false)) else some (.inl (w64 (i_2 + 1))))
noncomputable def spec_l02Drum.l_3 (f0 : GFrame) (d1 : Arr 96 Int) : Int → Option ((Int) ⊕ (Bool ⊕ Unit))
  | i_2 => (if (decide (i_2 < 96)) = true then (ix d1.1 i_2).bind fun x_7 => (if 0 ≤ (u64 (f0.fHammers.length : Int)) then (if ((bShr .u32 x_7 (u64 (f0.fHammers.length : Int))) != 0) = true then spec_l02Drum.k_6 i_2 true else (if (decide (i_2 ≥ (w64 f0.fSteps))) = true then (ix d1.1 i_2).bind fun x_8 => spec_l02Drum.k_6 i_2 (x_8 != 0) else spec_l02Drum.k_6 i_2 false)) else none) else some (.inr (.inr ())))
noncomputable def spec_l02Drum (f0 : GFrame) (d1 : Arr 96 Int) : Option (Bool) := (loop (spec_l02Drum.l_3 f0 d1) 0).bind fun t_4 => match t_4 with | .inl p => some p | .inr p => spec_l02Drum.k_1
set_option maxRecDepth 100000 in
theorem spec_l02Drum.calls (f0 : GFrame) (d1 : Arr 96 Int) (w : World) (r : Bool) (f0_fHammers_a : Option Addr) (f0_fHammers_an : Nat) (f0_fHammers_c : Nat) (f0_fHammers_h : Rw w f0_fHammers_a 2 encGHammer f0.fHammers) (f0_fHammers_hn : f0.fHammers.length = f0_fHammers_an) (f0_b : Nat) (d1_b : Nat) (hm0 : Mem w (bs [some f0_b, some d1_b]) [⟨some f0_b, 35, [(.int .i16 f0.fSteps), (.slice f0_fHammers_a f0_fHammers_an f0_fHammers_c)]⟩, ⟨(some d1_b), 58, row encU32 d1.1 []⟩] w) (f0_fHammers_ha : f0.fHammers ≠ [] → aB f0_fHammers_a ∉ bs [some f0_b, some d1_b]) (h : spec_l02Drum f0 d1 = some r) :
    Calls Try.prog 149 #[(.pointer (some ⟨f0_b, 0, none⟩)), (.pointer (some ⟨d1_b, 0, none⟩))] w fun e w' => ∃ v, e = .returned v ∧ (v = (.bool r) ∧ Mem w (bs [some f0_b, some d1_b]) [⟨some f0_b, 35, [(.int .i16 f0.fSteps), (.slice f0_fHammers_a f0_fHammers_an f0_fHammers_c)]⟩, ⟨(some d1_b), 58, row encU32 d1.1 []⟩] w') := by
  subst f0_fHammers_hn
  rw [spec_l02Drum] at h
  refine enter (args := [(.pointer (some ⟨f0_b, 0, none⟩)), (.pointer (some ⟨d1_b, 0, none⟩))]) Try.func149 rfl Try.ntmps149 (by kernel_rfl) (L := [⟨some f0_b, 35, [(.int .i16 f0.fSteps), (.slice f0_fHammers_a f0.fHammers.length f0_fHammers_c)]⟩, ⟨(some d1_b), 58, row encU32 d1.1 []⟩]) (W := bs [some f0_b, some d1_b]) hm0 ?_
  refine jc_seq ?_
  refine jc_region ?_
  refine jo_f [(0, 0)] (by kernel_rfl) ?_
  refine jo_end (by kernel_rfl) ?_
  refine jx_then ?_
  refine jc_seq ?_
  refine jc_seq ?_
  refine jc_region ?_
  refine jo_f [(0, 0)] (by kernel_rfl) ?_
  refine jo_end (by kernel_rfl) ?_
  refine jx_then ?_
  refine jc_meet (fun (_ : Unit) => spec_l02Drum.k_1 = some r) (fun (_ : Unit) => [(4, [], (.bool false))]) (fun (_ : Unit) => [⟨some f0_b, 35, [(.int .i16 f0.fSteps), (.slice f0_fHammers_a f0.fHammers.length f0_fHammers_c)]⟩, ⟨(some d1_b), 58, row encU32 d1.1 []⟩]) ?_ ?_
  · refine jc_block ?_
    obtain ⟨t_4, ht_88, hr_71⟩ := bd h
    refine jc_loop (fun (s : Int) (x : Unit) => match s, x with | i_2, _ => True) (fun (s : Int) (x : Unit) => match s, x with | i_2, _ => [(0, [], (.pointer (some ⟨f0_b, 0, none⟩))), (1, [], (.pointer (some ⟨d1_b, 0, none⟩))), (4, [], (.bool false)), (5, [], (.int .i64 i_2))]) (fun (s : Int) (x : Unit) => match s, x with | i_2, _ => [⟨some f0_b, 35, [(.int .i16 f0.fSteps), (.slice f0_fHammers_a f0.fHammers.length f0_fHammers_c)]⟩, ⟨(some d1_b), 58, row encU32 d1.1 []⟩]) ht_88 () trivial (by kernel_rfl) [0, 1] (by kernel_rfl) (by kernel_rfl) ?_
    rintro i_2 _ y_72 _ h
    rw [spec_l02Drum.l_3] at h
    refine jc_seq ?_
    refine jc_seq ?_
    refine jc_region ?_
    refine jo_f [(0, 0), (0, 0)] (by kernel_rfl) ?_
    refine jo_end (by kernel_rfl) ?_
    refine jx_then ?_
    refine jc_cond (decide (i_2 < 96)) (by kernel_rfl) (fun hc_74 => ?_) (fun hc_74 => ?_)
    · replace h := ifT hc_74 h
      refine jc_skip ?_
      refine jx_then ?_
      refine jc_seq ?_
      refine jc_block ?_
      refine jc_seq ?_
      refine jc_meet (fun (j : Bool) => match j with | q_5 => spec_l02Drum.k_6 i_2 q_5 = some y_72) (fun (j : Bool) => match j with | q_5 => [(0, [], (.pointer (some ⟨f0_b, 0, none⟩))), (1, [], (.pointer (some ⟨d1_b, 0, none⟩))), (4, [], (.bool false)), (5, [], (.int .i64 i_2)), (39, [], (.bool q_5))]) (fun (j : Bool) => match j with | q_5 => [⟨some f0_b, 35, [(.int .i16 f0.fSteps), (.slice f0_fHammers_a f0.fHammers.length f0_fHammers_c)]⟩, ⟨(some d1_b), 58, row encU32 d1.1 []⟩]) ?_ ?_
      · refine jc_draw [⟨some f0_b, 35, [(.int .i16 f0.fSteps), (.slice f0_fHammers_a f0.fHammers.length f0_fHammers_c)]⟩, ⟨(some d1_b), 58, row encU32 d1.1 []⟩] 30 (by kernel_rfl) (by kernel_rfl) ?_
        refine jd_f [⟨0, 0, 0⟩, ⟨1, 0, 0⟩, ⟨2, 0, 0⟩, ⟨5, 0, 0⟩, ⟨6, 0, 0⟩, ⟨7, 0, 0⟩, ⟨8, 0, 0⟩, ⟨9, 0, 0⟩, ⟨10, 0, 0⟩] 21 (by kernel_rfl) (by kernel_rfl) (fun w h => h.pick [0, 1] (by kernel_rfl) (by kernel_rfl)) (by kernel_rfl) (by kernel_rfl) ?_
        obtain ⟨x_7, hx_82, h⟩ := bd h
        refine jd_v 3 0 (by kernel_rfl) (fun w h => h.pick [0, 1] (by kernel_rfl) (by kernel_rfl)) (by kernel_rfl) (by kernel_rfl) _ (fun w hm => idx_run (a := (some ⟨d1_b, 0, none⟩)) (len := 96) (s := 1) (j := i_2) (by kernel_rfl) (ix_some hx_82).1 (ltn hx_82 d1.2) rfl) ?_
        refine jd_v 4 0 (by kernel_rfl) (fun w h => h.pick [0, 1] (by kernel_rfl) (by kernel_rfl)) (by kernel_rfl) (by kernel_rfl) _ (fun w hm => ld_run (b := aB (some ⟨d1_b, 0, none⟩)) (off := (aO (some ⟨d1_b, 0, none⟩) + i_2.toNat * 1)) (s := 1) (agg := false) (vs := (encU32 x_7)) (by kernel_rfl) (by kernel_rfl) (.inr rfl) ((hm.ownRow (hh := 1) (o := (some d1_b)) (T := 58) (enc := encU32) (xs := d1.1) (sp := []) (by kernel_rfl) (fun e => nomatch e) encU32_len).at hx_82)) ?_
        obtain ⟨hg_83, h⟩ := gd h
        refine toD 11 (by kernel_rfl) (p_shr 0 .u32 x_7 .u64 (u64 (f0.fHammers.length : Int)) (by kernel_rfl) (by kernel_rfl) hg_83 (jkD (fun w h => h.pick [0, 1] (by kernel_rfl) (by kernel_rfl)) ?_))
        refine jd_f [⟨12, 0, 0⟩, ⟨13, 0, 0⟩, ⟨14, 0, 1⟩, ⟨15, 0, 1⟩, ⟨16, 0, 1⟩, ⟨17, 0, 1⟩, ⟨18, 0, 1⟩, ⟨19, 0, 1⟩, ⟨20, 0, 1⟩] 9 (by kernel_rfl) (by kernel_rfl) (fun w h => h.pick [0, 1] (by kernel_rfl) (by kernel_rfl)) (by kernel_rfl) (by kernel_rfl) ?_
        refine jd_split 23 ((bShr .u32 x_7 (u64 (f0.fHammers.length : Int))) != 0) (by kernel_rfl) (fun hc_84 => ?_) (fun hc_84 => ?_)
        · replace h := ifT hc_84 h
          refine jd_f [⟨21, 0, 3⟩, ⟨22, 0, 3⟩, ⟨23, 0, 3⟩, ⟨24, 0, 3⟩, ⟨25, 0, 3⟩, ⟨26, 0, 3⟩, ⟨27, 0, 3⟩, ⟨28, 0, 3⟩, ⟨29, 0, 4⟩] 0 (by kernel_rfl) (by kernel_rfl) (fun w h => h.pick [0, 1] (by kernel_rfl) (by kernel_rfl)) (by kernel_rfl) (by kernel_rfl) ?_
          refine jd_end (by kernel_rfl) ?_
          exact jx_meet true h (by kernel_rfl) [0, 1] (by kernel_rfl) (by kernel_rfl)
        · replace h := ifF hc_84 h
          refine jd_f [⟨21, 0, 2⟩, ⟨22, 0, 1⟩, ⟨23, 0, 1⟩, ⟨24, 0, 1⟩] 5 (by kernel_rfl) (by kernel_rfl) (fun w h => h.pick [0, 1] (by kernel_rfl) (by kernel_rfl)) (by kernel_rfl) (by kernel_rfl) ?_
          refine jd_split 31 (decide (i_2 ≥ (w64 f0.fSteps))) (by kernel_rfl) (fun hc_85 => ?_) (fun hc_85 => ?_)
          · replace h := ifT hc_85 h
            obtain ⟨x_8, hx_86, h⟩ := bd h
            refine jd_v 25 2 (by kernel_rfl) (fun w h => h.pick [0, 1] (by kernel_rfl) (by kernel_rfl)) (by kernel_rfl) (by kernel_rfl) _ (fun w hm => idx_run (a := (some ⟨d1_b, 0, none⟩)) (len := 96) (s := 1) (j := i_2) (by kernel_rfl) (ix_some hx_86).1 (ltn hx_86 d1.2) rfl) ?_
            refine jd_v 26 2 (by kernel_rfl) (fun w h => h.pick [0, 1] (by kernel_rfl) (by kernel_rfl)) (by kernel_rfl) (by kernel_rfl) _ (fun w hm => ld_run (b := aB (some ⟨d1_b, 0, none⟩)) (off := (aO (some ⟨d1_b, 0, none⟩) + i_2.toNat * 1)) (s := 1) (agg := false) (vs := (encU32 x_8)) (by kernel_rfl) (by kernel_rfl) (.inr rfl) ((hm.ownRow (hh := 1) (o := (some d1_b)) (T := 58) (enc := encU32) (xs := d1.1) (sp := []) (by kernel_rfl) (fun e => nomatch e) encU32_len).at hx_86)) ?_
            refine jd_f [⟨27, 0, 2⟩, ⟨28, 0, 4⟩, ⟨29, 0, 5⟩] 0 (by kernel_rfl) (by kernel_rfl) (fun w h => h.pick [0, 1] (by kernel_rfl) (by kernel_rfl)) (by kernel_rfl) (by kernel_rfl) ?_
            refine jd_end (by kernel_rfl) ?_
            exact jx_meet (x_8 != 0) h (by kernel_rfl) [0, 1] (by kernel_rfl) (by kernel_rfl)
          · replace h := ifF hc_85 h
            refine jd_f [⟨25, 0, 3⟩, ⟨26, 0, 3⟩, ⟨27, 0, 3⟩, ⟨28, 0, 5⟩, ⟨29, 0, 5⟩] 0 (by kernel_rfl) (by kernel_rfl) (fun w h => h.pick [0, 1] (by kernel_rfl) (by kernel_rfl)) (by kernel_rfl) (by kernel_rfl) ?_
            refine jd_end (by kernel_rfl) ?_
            exact jx_meet false h (by kernel_rfl) [0, 1] (by kernel_rfl) (by kernel_rfl)
      · rintro q_5 h
        replace h : spec_l02Drum.k_6 i_2 q_5 = some y_72 := h
        rw [spec_l02Drum.k_6] at h
        refine jx_then ?_
        refine jc_cond q_5 (by kernel_rfl) (fun hc_80 => ?_) (fun hc_80 => ?_)
        · replace h := ifT hc_80 h
          refine jc_seq ?_
          refine jc_region ?_
          refine jo_f [(0, 0)] (by kernel_rfl) ?_
          refine jo_end (by kernel_rfl) ?_
          refine jx_then ?_
          refine jc_ret ?_
          refine jx_inr ?_
          refine jx_thenr ?_
          refine jx_leaver (.inl false) (Option.some.inj h).symm (fun e_81 => ?_)
          subst e_81
          refine jx_inr ?_
          refine jx_thenr ?_
          refine jx_thenr ?_
          obtain rfl := Option.some.inj hr_71
          exact jx_ret [] (.bool false) [] rfl (by kernel_rfl) (by kernel_rfl) (fun w hm => ⟨rfl, hm.pick [0, 1] (by kernel_rfl) (by kernel_rfl)⟩)
        · replace h := ifF hc_80 h
          refine jc_skip ?_
          refine jx_inn ?_
          refine jx_then ?_
          refine jc_region ?_
          refine jo_f [(0, 0), (0, 0), (0, 0)] (by kernel_rfl) ?_
          refine jo_end (by kernel_rfl) ?_
          exact jx_back (w64 (i_2 + 1)) () (Option.some.inj h).symm trivial [0, 1] (by kernel_rfl) (by kernel_rfl) (by kernel_rfl)
    · replace h := ifF hc_74 h
      refine jc_exit ?_
      refine jx_thenx ?_
      refine jx_leave (.inr ()) (Option.some.inj h).symm (fun e_87 => ?_)
      subst e_87
      refine jx_ine ?_
      exact jx_meet () hr_71 (by kernel_rfl) [0, 1] (by kernel_rfl) (by kernel_rfl)
  · rintro _ h
    replace h : spec_l02Drum.k_1 = some r := h
    rw [spec_l02Drum.k_1] at h
    refine jx_then ?_
    refine jc_seq ?_
    refine jc_region ?_
    refine jo_f [(0, 0)] (by kernel_rfl) ?_
    refine jo_end (by kernel_rfl) ?_
    refine jx_then ?_
    refine jc_ret ?_
    obtain rfl := Option.some.inj h
    exact jx_ret [] (.bool true) [] rfl (by kernel_rfl) (by kernel_rfl) (fun w hm => ⟨rfl, hm.pick [0, 1] (by kernel_rfl) (by kernel_rfl)⟩)

/-! ### spec.l02Asked -/
noncomputable def spec_l02Asked.k_2 (q_1 : Bool) : Option (Int) := (if q_1 = true then some 1 else some 0)
noncomputable def spec_l02Asked (f0 : GFrame) (d1 : Arr 96 Int) : Option (Int) := (spec_l02Frame f0).bind fun t_3 => (if (!t_3) = true then spec_l02Asked.k_2 true else (spec_l02Drum f0 d1).bind fun t_4 => spec_l02Asked.k_2 (!t_4))
set_option maxRecDepth 100000 in
theorem spec_l02Asked.calls (f0 : GFrame) (d1 : Arr 96 Int) (w : World) (r : Int) (f0_fHammers_a : Option Addr) (f0_fHammers_an : Nat) (f0_fHammers_c : Nat) (f0_fHammers_h : Rw w f0_fHammers_a 2 encGHammer f0.fHammers) (f0_fHammers_hn : f0.fHammers.length = f0_fHammers_an) (f0_b : Nat) (d1_b : Nat) (hm0 : Mem w (bs [some f0_b, some d1_b]) [⟨some f0_b, 35, [(.int .i16 f0.fSteps), (.slice f0_fHammers_a f0_fHammers_an f0_fHammers_c)]⟩, ⟨(some d1_b), 58, row encU32 d1.1 []⟩] w) (f0_fHammers_ha : f0.fHammers ≠ [] → aB f0_fHammers_a ∉ bs [some f0_b, some d1_b]) (h : spec_l02Asked f0 d1 = some r) :
    Calls Try.prog 96 #[(.pointer (some ⟨f0_b, 0, none⟩)), (.pointer (some ⟨d1_b, 0, none⟩))] w fun e w' => ∃ v, e = .returned v ∧ (v = (.int .i64 r) ∧ Mem w (bs [some f0_b, some d1_b]) [⟨some f0_b, 35, [(.int .i16 f0.fSteps), (.slice f0_fHammers_a f0_fHammers_an f0_fHammers_c)]⟩, ⟨(some d1_b), 58, row encU32 d1.1 []⟩] w') := by
  subst f0_fHammers_hn
  rw [spec_l02Asked] at h
  refine enter (args := [(.pointer (some ⟨f0_b, 0, none⟩)), (.pointer (some ⟨d1_b, 0, none⟩))]) Try.func96 rfl Try.ntmps96 (by kernel_rfl) (L := [⟨some f0_b, 35, [(.int .i16 f0.fSteps), (.slice f0_fHammers_a f0.fHammers.length f0_fHammers_c)]⟩, ⟨(some d1_b), 58, row encU32 d1.1 []⟩]) (W := bs [some f0_b, some d1_b]) hm0 ?_
  refine jc_seq ?_
  refine jc_region ?_
  refine jo_f [(0, 0)] (by kernel_rfl) ?_
  refine jo_end (by kernel_rfl) ?_
  refine jx_then ?_
  refine jc_seq ?_
  refine jc_seq ?_
  refine jc_meet (fun (j : Bool) => match j with | q_1 => spec_l02Asked.k_2 q_1 = some r) (fun (j : Bool) => match j with | q_1 => [(4, [], (.int .i64 0)), (13, [], (.bool q_1))]) (fun (j : Bool) => match j with | q_1 => [⟨some f0_b, 35, [(.int .i16 f0.fSteps), (.slice f0_fHammers_a f0.fHammers.length f0_fHammers_c)]⟩, ⟨(some d1_b), 58, row encU32 d1.1 []⟩]) ?_ ?_
  · refine jc_region ?_
    refine jo_f [(0, 0)] (by kernel_rfl) ?_
    obtain ⟨t_3, ht_5, h⟩ := bd h
    refine toO (by kernel_rfl) (p_call 0 68 #[(.pointer (some ⟨f0_b, 0, none⟩))] (by kernel_rfl) (by kernel_rfl) (fun w hm => spec_l02Frame.calls f0 w _ f0_fHammers_a f0.fHammers.length f0_fHammers_c (hm.exRowW f0_fHammers_h f0_fHammers_ha) rfl f0_b (hm.pass (N := [⟨some f0_b, 35, [(.int .i16 f0.fSteps), (.slice f0_fHammers_a f0.fHammers.length f0_fHammers_c)]⟩]) [0] (by kernel_rfl) (by kernel_rfl)) (hm.exApart (N := [⟨some f0_b, 35, [(.int .i16 f0.fSteps), (.slice f0_fHammers_a f0.fHammers.length f0_fHammers_c)]⟩]) f0_fHammers_h f0_fHammers_ha [0] (by kernel_rfl)) ht_5) ?_)
    rintro w v w' hm ⟨rfl, hm'⟩
    refine ⟨_, hm.appW (ps := [(0, ⟨some f0_b, 35, [(.int .i16 f0.fSteps), (.slice f0_fHammers_a f0.fHammers.length f0_fHammers_c)]⟩)]) (N := []) hm' (by kernel_rfl) (by kernel_rfl), jkO ?_⟩
    clear hm hm'
    refine jo_f [(0, 0), (0, 0), (0, 1), (0, 1)] (by kernel_rfl) ?_
    refine jo_split 8 (!t_3) (by kernel_rfl) (fun hc_6 => ?_) (fun hc_6 => ?_)
    · replace h := ifT hc_6 h
      refine jo_f [(0, 3), (0, 3), (0, 4)] (by kernel_rfl) ?_
      refine jo_end (by kernel_rfl) ?_
      exact jx_meet true h (by kernel_rfl) [0, 1] (by kernel_rfl) (by kernel_rfl)
    · replace h := ifF hc_6 h
      obtain ⟨t_4, ht_7, h⟩ := bd h
      refine toO (by kernel_rfl) (p_call 2 149 #[(.pointer (some ⟨f0_b, 0, none⟩)), (.pointer (some ⟨d1_b, 0, none⟩))] (by kernel_rfl) (by kernel_rfl) (fun w hm => spec_l02Drum.calls f0 d1 w _ f0_fHammers_a f0.fHammers.length f0_fHammers_c (hm.exRowW f0_fHammers_h f0_fHammers_ha) rfl f0_b d1_b (hm.pass (N := [⟨some f0_b, 35, [(.int .i16 f0.fSteps), (.slice f0_fHammers_a f0.fHammers.length f0_fHammers_c)]⟩, ⟨(some d1_b), 58, row encU32 d1.1 []⟩]) [0, 1] (by kernel_rfl) (by kernel_rfl)) (hm.exApart (N := [⟨some f0_b, 35, [(.int .i16 f0.fSteps), (.slice f0_fHammers_a f0.fHammers.length f0_fHammers_c)]⟩, ⟨(some d1_b), 58, row encU32 d1.1 []⟩]) f0_fHammers_h f0_fHammers_ha [0, 1] (by kernel_rfl)) ht_7) ?_)
      rintro w v w' hm ⟨rfl, hm'⟩
      refine ⟨_, hm.appW (ps := [(0, ⟨some f0_b, 35, [(.int .i16 f0.fSteps), (.slice f0_fHammers_a f0.fHammers.length f0_fHammers_c)]⟩), (1, ⟨(some d1_b), 58, row encU32 d1.1 []⟩)]) (N := []) hm' (by kernel_rfl) (by kernel_rfl), jkO ?_⟩
      clear hm hm'
      refine jo_f [(0, 2), (0, 5)] (by kernel_rfl) ?_
      refine jo_end (by kernel_rfl) ?_
      exact jx_meet (!t_4) h (by kernel_rfl) [0, 1] (by kernel_rfl) (by kernel_rfl)
  · rintro q_1 h
    replace h : spec_l02Asked.k_2 q_1 = some r := h
    rw [spec_l02Asked.k_2] at h
    refine jx_then ?_
    refine jc_cond q_1 (by kernel_rfl) (fun hc_4 => ?_) (fun hc_4 => ?_)
    · replace h := ifT hc_4 h
      refine jc_seq ?_
      refine jc_region ?_
      refine jo_f [(0, 0)] (by kernel_rfl) ?_
      refine jo_end (by kernel_rfl) ?_
      refine jx_then ?_
      refine jc_ret ?_
      refine jx_thenr ?_
      obtain rfl := Option.some.inj h
      exact jx_ret [] (.int .i64 1) [] rfl (by kernel_rfl) (by kernel_rfl) (fun w hm => ⟨rfl, hm.pick [0, 1] (by kernel_rfl) (by kernel_rfl)⟩)
    · replace h := ifF hc_4 h
      refine jc_skip ?_
      refine jx_then ?_
      refine jc_seq ?_
      refine jc_region ?_
      refine jo_f [(0, 0)] (by kernel_rfl) ?_
      refine jo_end (by kernel_rfl) ?_
      refine jx_then ?_
      refine jc_ret ?_
      obtain rfl := Option.some.inj h
      exact jx_ret [] (.int .i64 0) [] rfl (by kernel_rfl) (by kernel_rfl) (fun w hm => ⟨rfl, hm.pick [0, 1] (by kernel_rfl) (by kernel_rfl)⟩)

/-! ### (impl.Frame).isDrum -/
noncomputable def impl_Frame_isDrum.k_1 : Option (Bool) := some true
noncomputable def impl_Frame_isDrum.k_7 (i_2 : Int) (q_6 : Bool) : Option ((Int) ⊕ (Bool ⊕ Unit)) := (if q_6 = true then some (.inr (.inl false)) else some (.inl (w64 (i_2 + 1))))
noncomputable def impl_Frame_isDrum.l_3 (f0 : GFrame) (d1 : Arr 96 Int) : Int → Option ((Int) ⊕ (Bool ⊕ Unit))
  | i_2 => (if (decide (i_2 < 96)) = true then (ix d1.1 i_2).bind fun x_5 => (if 0 ≤ (f0.fHammers.length : Int) then (if ((bShr .u32 x_5 (f0.fHammers.length : Int)) != 0) = true then impl_Frame_isDrum.k_7 i_2 true else impl_Frame_isDrum.k_7 i_2 ((decide (i_2 ≥ (w64 f0.fSteps))) && (x_5 != 0))) else none) else some (.inr (.inr ())))
noncomputable def impl_Frame_isDrum (f0 : GFrame) (d1 : Arr 96 Int) : Option (Bool) := (loop (impl_Frame_isDrum.l_3 f0 d1) 0).bind fun t_4 => match t_4 with | .inl p => some p | .inr p => impl_Frame_isDrum.k_1
set_option maxRecDepth 100000 in
theorem impl_Frame_isDrum.calls (f0 : GFrame) (d1 : Arr 96 Int) (w : World) (r : Bool) (f0_fHammers_a : Option Addr) (f0_fHammers_an : Nat) (f0_fHammers_c : Nat) (f0_fHammers_h : Rw w f0_fHammers_a 2 encGHammer f0.fHammers) (f0_fHammers_hn : f0.fHammers.length = f0_fHammers_an) (h : impl_Frame_isDrum f0 d1 = some r) :
    Calls Try.prog 152 #[(.agg #[(.int .i16 f0.fSteps), (.slice f0_fHammers_a f0_fHammers_an f0_fHammers_c)]), (.agg (row encU32 d1.1 []).toArray)] w fun e w' => ∃ v, e = .returned v ∧ (v = (.bool r) ∧ Mem w [] [] w') := by
  subst f0_fHammers_hn
  rw [impl_Frame_isDrum] at h
  refine enter (args := [(.agg #[(.int .i16 f0.fSteps), (.slice f0_fHammers_a f0.fHammers.length f0_fHammers_c)]), (.agg (row encU32 d1.1 []).toArray)]) Try.func152 rfl Try.ntmps152 (by kernel_rfl) (L := []) (W := []) (Mem.start w) ?_
  refine jc_seq ?_
  refine jc_region ?_
  refine toO (by kernel_rfl) (p_a 0 [0] (by kernel_rfl) (fun b => by kernel_rfl) (fun b_1 => jkO ?_))
  refine toO (by kernel_rfl) (p_a 0 [0] (by kernel_rfl) (fun b => by kernel_rfl) (fun b_2 => jkO ?_))
  refine jo_f [(0, 0)] (by kernel_rfl) ?_
  refine jo_end (by kernel_rfl) ?_
  refine jx_then ?_
  refine jc_seq ?_
  refine jc_seq ?_
  refine jc_region ?_
  refine toO (by kernel_rfl) (p_ldA 0 1 b_2 96 1 58 encU32 d1 (by kernel_rfl) (by kernel_rfl) (by kernel_rfl) encU32_len (by kernel_rfl) (jkO ?_))
  refine jo_f [(0, 0)] (by kernel_rfl) ?_
  refine jo_end (by kernel_rfl) ?_
  refine jx_then ?_
  refine jc_meet (fun (_ : Unit) => impl_Frame_isDrum.k_1 = some r) (fun (_ : Unit) => [(4, [], (.bool false))]) (fun (_ : Unit) => [⟨some b_1, 35, [(.int .i16 f0.fSteps), (.slice f0_fHammers_a f0.fHammers.length f0_fHammers_c)]⟩, ⟨(some b_2), 58, row encU32 d1.1 []⟩]) ?_ ?_
  · refine jc_block ?_
    obtain ⟨t_4, ht_60, hr_48⟩ := bd h
    refine jc_loop (fun (s : Int) (x : Unit) => match s, x with | i_2, _ => True) (fun (s : Int) (x : Unit) => match s, x with | i_2, _ => [(2, [], (.pointer (some ⟨b_1, 0, none⟩))), (4, [], (.bool false)), (7, [], (.agg (row encU32 d1.1 []).toArray)), (8, [], (.int .i64 i_2))]) (fun (s : Int) (x : Unit) => match s, x with | i_2, _ => [⟨some b_1, 35, [(.int .i16 f0.fSteps), (.slice f0_fHammers_a f0.fHammers.length f0_fHammers_c)]⟩, ⟨(some b_2), 58, row encU32 d1.1 []⟩]) ht_60 () trivial (by kernel_rfl) [0, 1] (by kernel_rfl) (by kernel_rfl) ?_
    rintro i_2 _ y_49 _ h
    rw [impl_Frame_isDrum.l_3] at h
    refine jc_seq ?_
    refine jc_region ?_
    refine jo_f [(0, 0)] (by kernel_rfl) ?_
    refine jo_end (by kernel_rfl) ?_
    refine jx_then ?_
    refine jc_seq ?_
    refine jc_cond (decide (i_2 < 96)) (by kernel_rfl) (fun hc_51 => ?_) (fun hc_51 => ?_)
    · replace h := ifT hc_51 h
      refine jc_skip ?_
      refine jx_then ?_
      refine jc_seq ?_
      refine jc_block ?_
      refine jc_seq ?_
      refine jc_region ?_
      refine jo_f [(0, 0)] (by kernel_rfl) ?_
      obtain ⟨x_5, hx_52, h⟩ := bd h
      refine toO (by kernel_rfl) (p_ixA 0 encU32 (fun x => (.int .u32 x)) d1 i_2 (by kernel_rfl) (by kernel_rfl) (fun _ => rfl) hx_52 (jkO ?_))
      refine jo_f [(0, 0), (0, 0)] (by kernel_rfl) ?_
      refine jo_end (by kernel_rfl) ?_
      refine jx_then ?_
      refine jc_seq ?_
      refine jc_meet (fun (j : Bool) => match j with | q_6 => impl_Frame_isDrum.k_7 i_2 q_6 = some y_49) (fun (j : Bool) => match j with | q_6 => [(2, [], (.pointer (some ⟨b_1, 0, none⟩))), (4, [], (.bool false)), (7, [], (.agg (row encU32 d1.1 []).toArray)), (8, [], (.int .i64 i_2)), (28, [], (.bool q_6))]) (fun (j : Bool) => match j with | q_6 => [⟨some b_1, 35, [(.int .i16 f0.fSteps), (.slice f0_fHammers_a f0.fHammers.length f0_fHammers_c)]⟩, ⟨(some b_2), 58, row encU32 d1.1 []⟩]) ?_ ?_
      · refine jc_region ?_
        refine jo_f [(0, 0), (0, 0), (0, 0), (0, 0)] (by kernel_rfl) ?_
        obtain ⟨hg_57, h⟩ := gd h
        refine toO (by kernel_rfl) (p_shr 0 .u32 x_5 .i64 (f0.fHammers.length : Int) (by kernel_rfl) (by kernel_rfl) hg_57 (jkO ?_))
        refine jo_f [(0, 0), (0, 0), (0, 1), (0, 1), (0, 1), (0, 1), (0, 1)] (by kernel_rfl) ?_
        refine jo_split 18 ((bShr .u32 x_5 (f0.fHammers.length : Int)) != 0) (by kernel_rfl) (fun hc_58 => ?_) (fun hc_58 => ?_)
        · replace h := ifT hc_58 h
          refine jo_f [(0, 3), (0, 3), (0, 3), (0, 3), (0, 4)] (by kernel_rfl) ?_
          refine jo_end (by kernel_rfl) ?_
          exact jx_meet true h (by kernel_rfl) [0, 1] (by kernel_rfl) (by kernel_rfl)
        · replace h := ifF hc_58 h
          refine jo_f [(0, 2), (0, 1), (0, 1), (0, 2), (0, 5)] (by kernel_rfl) ?_
          refine jo_end (by kernel_rfl) ?_
          exact jx_meet ((decide (i_2 ≥ (w64 f0.fSteps))) && (x_5 != 0)) h (by kernel_rfl) [0, 1] (by kernel_rfl) (by kernel_rfl)
      · rintro q_6 h
        replace h : impl_Frame_isDrum.k_7 i_2 q_6 = some y_49 := h
        rw [impl_Frame_isDrum.k_7] at h
        refine jx_then ?_
        refine jc_cond q_6 (by kernel_rfl) (fun hc_55 => ?_) (fun hc_55 => ?_)
        · replace h := ifT hc_55 h
          refine jc_seq ?_
          refine jc_region ?_
          refine jo_f [(0, 0)] (by kernel_rfl) ?_
          refine jo_end (by kernel_rfl) ?_
          refine jx_then ?_
          refine jc_ret ?_
          refine jx_inr ?_
          refine jx_thenr ?_
          refine jx_leaver (.inl false) (Option.some.inj h).symm (fun e_56 => ?_)
          subst e_56
          refine jx_inr ?_
          refine jx_thenr ?_
          refine jx_thenr ?_
          obtain rfl := Option.some.inj hr_48
          exact jx_ret [] (.bool false) [] rfl (by kernel_rfl) (by kernel_rfl) (fun w hm => ⟨rfl, hm.pick [] (by kernel_rfl) (by kernel_rfl)⟩)
        · replace h := ifF hc_55 h
          refine jc_skip ?_
          refine jx_inn ?_
          refine jx_then ?_
          refine jc_region ?_
          refine jo_f [(0, 0), (0, 0)] (by kernel_rfl) ?_
          refine jo_end (by kernel_rfl) ?_
          exact jx_back (w64 (i_2 + 1)) () (Option.some.inj h).symm trivial [0, 1] (by kernel_rfl) (by kernel_rfl) (by kernel_rfl)
    · replace h := ifF hc_51 h
      refine jc_exit ?_
      refine jx_thenx ?_
      refine jx_leave (.inr ()) (Option.some.inj h).symm (fun e_59 => ?_)
      subst e_59
      refine jx_ine ?_
      exact jx_meet () hr_48 (by kernel_rfl) [0, 1] (by kernel_rfl) (by kernel_rfl)
  · rintro _ h
    replace h : impl_Frame_isDrum.k_1 = some r := h
    rw [impl_Frame_isDrum.k_1] at h
    refine jx_then ?_
    refine jc_seq ?_
    refine jc_region ?_
    refine jo_f [(0, 0)] (by kernel_rfl) ?_
    refine jo_end (by kernel_rfl) ?_
    refine jx_then ?_
    refine jc_ret ?_
    obtain rfl := Option.some.inj h
    exact jx_ret [] (.bool true) [] rfl (by kernel_rfl) (by kernel_rfl) (fun w hm => ⟨rfl, hm.pick [] (by kernel_rfl) (by kernel_rfl)⟩)

/-! ### impl.drumCode$1 -/
noncomputable def impl_drumCode_1 (d0 : Arr 96 Int) (p1 : GFrame) : Option (Bool) := (impl_Frame_isDrum p1 d0).bind fun t_1 => some (!t_1)
set_option maxRecDepth 100000 in
theorem impl_drumCode_1.calls (d0 : Arr 96 Int) (p1 : GFrame) (w : World) (r : Bool) (p1_fHammers_a : Option Addr) (p1_fHammers_an : Nat) (p1_fHammers_c : Nat) (p1_fHammers_h : Rw w p1_fHammers_a 2 encGHammer p1.fHammers) (p1_fHammers_hn : p1.fHammers.length = p1_fHammers_an) (p1_b : Nat) (hm0 : Mem w (bs [some p1_b]) [⟨some p1_b, 35, [(.int .i16 p1.fSteps), (.slice p1_fHammers_a p1_fHammers_an p1_fHammers_c)]⟩] w) (p1_fHammers_ha : p1.fHammers ≠ [] → aB p1_fHammers_a ∉ bs [some p1_b]) (h : impl_drumCode_1 d0 p1 = some r) :
    Calls Try.prog 151 #[(.agg (row encU32 d0.1 []).toArray), (.pointer (some ⟨p1_b, 0, none⟩))] w fun e w' => ∃ v, e = .returned v ∧ (v = (.bool r) ∧ Mem w (bs [some p1_b]) [⟨some p1_b, 35, [(.int .i16 p1.fSteps), (.slice p1_fHammers_a p1_fHammers_an p1_fHammers_c)]⟩] w') := by
  subst p1_fHammers_hn
  rw [impl_drumCode_1] at h
  refine enter (args := [(.agg (row encU32 d0.1 []).toArray), (.pointer (some ⟨p1_b, 0, none⟩))]) Try.func151 rfl Try.ntmps151 (by kernel_rfl) (L := [⟨some p1_b, 35, [(.int .i16 p1.fSteps), (.slice p1_fHammers_a p1.fHammers.length p1_fHammers_c)]⟩]) (W := bs [some p1_b]) hm0 ?_
  refine jc_seq ?_
  refine jc_region ?_
  refine toO (by kernel_rfl) (p_a 0 [0] (by kernel_rfl) (fun b => by kernel_rfl) (fun b_1 => jkO ?_))
  refine jo_f [(0, 0)] (by kernel_rfl) ?_
  refine jo_end (by kernel_rfl) ?_
  refine jx_then ?_
  refine jc_seq ?_
  refine jc_region ?_
  refine jo_f [(0, 0)] (by kernel_rfl) ?_
  refine toO (by kernel_rfl) (p_ldA 0 1 b_1 96 1 58 encU32 d0 (by kernel_rfl) (by kernel_rfl) (by kernel_rfl) encU32_len (by kernel_rfl) (jkO ?_))
  obtain ⟨t_1, ht_2, h⟩ := bd h
  refine toO (by kernel_rfl) (p_call 0 152 #[(.agg #[(.int .i16 p1.fSteps), (.slice p1_fHammers_a p1.fHammers.length p1_fHammers_c)]), (.agg (row encU32 d0.1 []).toArray)] (by kernel_rfl) (by kernel_rfl) (fun w hm => impl_Frame_isDrum.calls p1 d0 w _ p1_fHammers_a p1.fHammers.length p1_fHammers_c (hm.exRowW p1_fHammers_h p1_fHammers_ha) rfl ht_2) ?_)
  rintro w v w' hm ⟨rfl, hm'⟩
  refine ⟨_, hm.app hm', jkO ?_⟩
  clear hm hm'
  refine jo_f [(0, 0), (0, 0)] (by kernel_rfl) ?_
  refine jo_end (by kernel_rfl) ?_
  refine jx_then ?_
  refine jc_ret ?_
  obtain rfl := Option.some.inj h
  exact jx_ret [] (.bool (!t_1)) [] rfl (by kernel_rfl) (by kernel_rfl) (fun w hm => ⟨rfl, hm.pick [0] (by kernel_rfl) (by kernel_rfl)⟩)

/-! ### slices.IndexFunc[[]impl.Drum,impl.Drum] -/
noncomputable def slices_IndexFunc_Drum_at_impl_drumCode_1.k_1 : Option (Int) := some (-1)
noncomputable def slices_IndexFunc_Drum_at_impl_drumCode_1.l_3 (s0 : List (Arr 96 Int)) (g1c0 : GFrame) : Int → Option ((Int) ⊕ (Int ⊕ Unit))
  | i_2 => (if (decide (i_2 < (s0.length : Int))) = true then (ix s0 i_2).bind fun x_5 => (impl_drumCode_1 x_5 g1c0).bind fun t_6 => (if t_6 = true then some (.inr (.inl i_2)) else some (.inl (w64 (i_2 + 1)))) else some (.inr (.inr ())))
noncomputable def slices_IndexFunc_Drum_at_impl_drumCode_1 (s0 : List (Arr 96 Int)) (g1c0 : GFrame) : Option (Int) := (loop (slices_IndexFunc_Drum_at_impl_drumCode_1.l_3 s0 g1c0) 0).bind fun t_4 => match t_4 with | .inl p => some p | .inr p => slices_IndexFunc_Drum_at_impl_drumCode_1.k_1
set_option maxRecDepth 100000 in
theorem slices_IndexFunc_Drum_at_impl_drumCode_1.calls (s0 : List (Arr 96 Int)) (g1c0 : GFrame) (w : World) (r : Int) (s0_a : Option Addr) (s0_an : Nat) (s0_c : Nat) (s0_h : Rw w s0_a 96 encA96U32 s0) (s0_hn : s0.length = s0_an) (g1c0_fHammers_a : Option Addr) (g1c0_fHammers_an : Nat) (g1c0_fHammers_c : Nat) (g1c0_fHammers_h : Rw w g1c0_fHammers_a 2 encGHammer g1c0.fHammers) (g1c0_fHammers_hn : g1c0.fHammers.length = g1c0_fHammers_an) (g1c0_b : Nat) (hm0 : Mem w (bs [some g1c0_b]) [⟨some g1c0_b, 35, [(.int .i16 g1c0.fSteps), (.slice g1c0_fHammers_a g1c0_fHammers_an g1c0_fHammers_c)]⟩] w) (s0_ha : s0 ≠ [] → aB s0_a ∉ bs [some g1c0_b]) (g1c0_fHammers_ha : g1c0.fHammers ≠ [] → aB g1c0_fHammers_a ∉ bs [some g1c0_b]) (h : slices_IndexFunc_Drum_at_impl_drumCode_1 s0 g1c0 = some r) :
    Calls Try.prog 174 #[(.slice s0_a s0_an s0_c), (.func (.func 151) #[] #[(.pointer (some ⟨g1c0_b, 0, none⟩))])] w fun e w' => ∃ v, e = .returned v ∧ (v = (.int .i64 r) ∧ Mem w (bs [some g1c0_b]) [⟨some g1c0_b, 35, [(.int .i16 g1c0.fSteps), (.slice g1c0_fHammers_a g1c0_fHammers_an g1c0_fHammers_c)]⟩] w') := by
  subst s0_hn g1c0_fHammers_hn
  rw [slices_IndexFunc_Drum_at_impl_drumCode_1] at h
  refine enter (args := [(.slice s0_a s0.length s0_c), (.func (.func 151) #[] #[(.pointer (some ⟨g1c0_b, 0, none⟩))])]) Try.func174 rfl Try.ntmps174 (by kernel_rfl) (L := [⟨some g1c0_b, 35, [(.int .i16 g1c0.fSteps), (.slice g1c0_fHammers_a g1c0.fHammers.length g1c0_fHammers_c)]⟩]) (W := bs [some g1c0_b]) hm0 ?_
  refine jc_seq ?_
  refine jc_region ?_
  refine jo_f [(0, 0)] (by kernel_rfl) ?_
  refine jo_end (by kernel_rfl) ?_
  refine jx_then ?_
  refine jc_seq ?_
  refine jc_seq ?_
  refine jc_region ?_
  refine jo_f [(0, 0), (0, 0), (0, 0)] (by kernel_rfl) ?_
  refine jo_end (by kernel_rfl) ?_
  refine jx_then ?_
  refine jc_meet (fun (_ : Unit) => slices_IndexFunc_Drum_at_impl_drumCode_1.k_1 = some r) (fun (_ : Unit) => [(4, [], (.int .i64 0))]) (fun (_ : Unit) => [⟨some g1c0_b, 35, [(.int .i16 g1c0.fSteps), (.slice g1c0_fHammers_a g1c0.fHammers.length g1c0_fHammers_c)]⟩]) ?_ ?_
  · refine jc_block ?_
    obtain ⟨t_4, ht_40, hr_31⟩ := bd h
    refine jc_loop (fun (s : Int) (x : Unit) => match s, x with | i_2, _ => True) (fun (s : Int) (x : Unit) => match s, x with | i_2, _ => [(0, [], (.slice s0_a s0.length s0_c)), (1, [], (.func (.func 151) #[] #[(.pointer (some ⟨g1c0_b, 0, none⟩))])), (4, [], (.int .i64 0)), (7, [], (.int .i64 (s0.length : Int))), (8, [], (.int .i64 i_2))]) (fun (s : Int) (x : Unit) => match s, x with | i_2, _ => [⟨some g1c0_b, 35, [(.int .i16 g1c0.fSteps), (.slice g1c0_fHammers_a g1c0.fHammers.length g1c0_fHammers_c)]⟩]) ht_40 () trivial (by kernel_rfl) [0] (by kernel_rfl) (by kernel_rfl) ?_
    rintro i_2 _ y_32 _ h
    rw [slices_IndexFunc_Drum_at_impl_drumCode_1.l_3] at h
    refine jc_seq ?_
    refine jc_region ?_
    refine jo_f [(0, 0)] (by kernel_rfl) ?_
    refine jo_end (by kernel_rfl) ?_
    refine jx_then ?_
    refine jc_seq ?_
    refine jc_cond (decide (i_2 < (s0.length : Int))) (by kernel_rfl) (fun hc_34 => ?_) (fun hc_34 => ?_)
    · replace h := ifT hc_34 h
      refine jc_skip ?_
      refine jx_then ?_
      refine jc_seq ?_
      refine jc_block ?_
      refine jc_seq ?_
      refine jc_region ?_
      refine jo_f [(0, 0), (0, 0)] (by kernel_rfl) ?_
      refine jo_end (by kernel_rfl) ?_
      refine jx_then ?_
      refine jc_seq ?_
      refine jc_region ?_
      refine jo_f [(0, 0), (0, 0), (0, 0)] (by kernel_rfl) ?_
      obtain ⟨x_5, hx_35, h⟩ := bd h
      refine toO (by kernel_rfl) (p_idx 0 s0_a s0.length i_2 96 (by kernel_rfl) (by kernel_rfl) (ix_some hx_35).1 (ltn hx_35 rfl) (s0_h.sp hx_35) (jkO ?_))
      refine toO (by kernel_rfl) (p_ldx 0 (aB s0_a) (aO s0_a + i_2.toNat * 96) (encA96U32 x_5) 96 (by kernel_rfl) (by kernel_rfl) (encA96U32_len x_5) (fun w hm => ((hm.exRowW s0_h s0_ha).at hx_35)) (jkO ?_))
      obtain ⟨t_6, ht_36, h⟩ := bd h
      refine toO (by kernel_rfl) (p_call 0 151 #[(.agg (row encU32 x_5.1 []).toArray), (.pointer (some ⟨g1c0_b, 0, none⟩))] (by kernel_rfl) (by kernel_rfl) (fun w hm => impl_drumCode_1.calls x_5 g1c0 w _ g1c0_fHammers_a g1c0.fHammers.length g1c0_fHammers_c (hm.exRowW g1c0_fHammers_h g1c0_fHammers_ha) rfl g1c0_b (hm.pass (N := [⟨some g1c0_b, 35, [(.int .i16 g1c0.fSteps), (.slice g1c0_fHammers_a g1c0.fHammers.length g1c0_fHammers_c)]⟩]) [0] (by kernel_rfl) (by kernel_rfl)) (hm.exApart (N := [⟨some g1c0_b, 35, [(.int .i16 g1c0.fSteps), (.slice g1c0_fHammers_a g1c0.fHammers.length g1c0_fHammers_c)]⟩]) g1c0_fHammers_h g1c0_fHammers_ha [0] (by kernel_rfl)) ht_36) ?_)
      rintro w v w' hm ⟨rfl, hm'⟩
      refine ⟨_, hm.appW (ps := [(0, ⟨some g1c0_b, 35, [(.int .i16 g1c0.fSteps), (.slice g1c0_fHammers_a g1c0.fHammers.length g1c0_fHammers_c)]⟩)]) (N := []) hm' (by kernel_rfl) (by kernel_rfl), jkO ?_⟩
      clear hm hm'
      refine jo_end (by kernel_rfl) ?_
      refine jx_then ?_
      refine jc_cond t_6 (by kernel_rfl) (fun hc_37 => ?_) (fun hc_37 => ?_)
      · replace h := ifT hc_37 h
        refine jc_seq ?_
        refine jc_region ?_
        refine jo_f [(0, 0), (0, 0)] (by kernel_rfl) ?_
        refine jo_end (by kernel_rfl) ?_
        refine jx_then ?_
        refine jc_ret ?_
        refine jx_inr ?_
        refine jx_thenr ?_
        refine jx_leaver (.inl i_2) (Option.some.inj h).symm (fun e_38 => ?_)
        subst e_38
        refine jx_inr ?_
        refine jx_thenr ?_
        refine jx_thenr ?_
        obtain rfl := Option.some.inj hr_31
        exact jx_ret [] (.int .i64 i_2) [] rfl (by kernel_rfl) (by kernel_rfl) (fun w hm => ⟨rfl, hm.pick [0] (by kernel_rfl) (by kernel_rfl)⟩)
      · replace h := ifF hc_37 h
        refine jc_skip ?_
        refine jx_inn ?_
        refine jx_then ?_
        refine jc_region ?_
        refine jo_f [(0, 0), (0, 0)] (by kernel_rfl) ?_
        refine jo_end (by kernel_rfl) ?_
        exact jx_back (w64 (i_2 + 1)) () (Option.some.inj h).symm trivial [0] (by kernel_rfl) (by kernel_rfl) (by kernel_rfl)
    · replace h := ifF hc_34 h
      refine jc_exit ?_
      refine jx_thenx ?_
      refine jx_leave (.inr ()) (Option.some.inj h).symm (fun e_39 => ?_)
      subst e_39
      refine jx_ine ?_
      exact jx_meet () hr_31 (by kernel_rfl) [0] (by kernel_rfl) (by kernel_rfl)
  · rintro _ h
    replace h : slices_IndexFunc_Drum_at_impl_drumCode_1.k_1 = some r := h
    rw [slices_IndexFunc_Drum_at_impl_drumCode_1.k_1] at h
    refine jx_then ?_
    refine jc_seq ?_
    refine jc_region ?_
    refine jo_f [(0, 0)] (by kernel_rfl) ?_
    refine jo_end (by kernel_rfl) ?_
    refine jx_then ?_
    refine jc_ret ?_
    obtain rfl := Option.some.inj h
    exact jx_ret [] (.int .i64 (-1)) [] rfl (by kernel_rfl) (by kernel_rfl) (fun w hm => ⟨rfl, hm.pick [0] (by kernel_rfl) (by kernel_rfl)⟩)

/-! ### slices.ContainsFunc[[]impl.Drum,impl.Drum] -/
noncomputable def slices_ContainsFunc_Drum_at_impl_drumCode_1 (s0 : List (Arr 96 Int)) (g1c0 : GFrame) : Option (Bool) := (slices_IndexFunc_Drum_at_impl_drumCode_1 s0 g1c0).bind fun t_1 => some (decide (t_1 ≥ 0))
set_option maxRecDepth 100000 in
theorem slices_ContainsFunc_Drum_at_impl_drumCode_1.calls (s0 : List (Arr 96 Int)) (g1c0 : GFrame) (w : World) (r : Bool) (s0_a : Option Addr) (s0_an : Nat) (s0_c : Nat) (s0_h : Rw w s0_a 96 encA96U32 s0) (s0_hn : s0.length = s0_an) (g1c0_fHammers_a : Option Addr) (g1c0_fHammers_an : Nat) (g1c0_fHammers_c : Nat) (g1c0_fHammers_h : Rw w g1c0_fHammers_a 2 encGHammer g1c0.fHammers) (g1c0_fHammers_hn : g1c0.fHammers.length = g1c0_fHammers_an) (g1c0_b : Nat) (hm0 : Mem w (bs [some g1c0_b]) [⟨some g1c0_b, 35, [(.int .i16 g1c0.fSteps), (.slice g1c0_fHammers_a g1c0_fHammers_an g1c0_fHammers_c)]⟩] w) (s0_ha : s0 ≠ [] → aB s0_a ∉ bs [some g1c0_b]) (g1c0_fHammers_ha : g1c0.fHammers ≠ [] → aB g1c0_fHammers_a ∉ bs [some g1c0_b]) (h : slices_ContainsFunc_Drum_at_impl_drumCode_1 s0 g1c0 = some r) :
    Calls Try.prog 150 #[(.slice s0_a s0_an s0_c), (.func (.func 151) #[] #[(.pointer (some ⟨g1c0_b, 0, none⟩))])] w fun e w' => ∃ v, e = .returned v ∧ (v = (.bool r) ∧ Mem w (bs [some g1c0_b]) [⟨some g1c0_b, 35, [(.int .i16 g1c0.fSteps), (.slice g1c0_fHammers_a g1c0_fHammers_an g1c0_fHammers_c)]⟩] w') := by
  subst s0_hn g1c0_fHammers_hn
  rw [slices_ContainsFunc_Drum_at_impl_drumCode_1] at h
  refine enter (args := [(.slice s0_a s0.length s0_c), (.func (.func 151) #[] #[(.pointer (some ⟨g1c0_b, 0, none⟩))])]) Try.func150 rfl Try.ntmps150 (by kernel_rfl) (L := [⟨some g1c0_b, 35, [(.int .i16 g1c0.fSteps), (.slice g1c0_fHammers_a g1c0.fHammers.length g1c0_fHammers_c)]⟩]) (W := bs [some g1c0_b]) hm0 ?_
  refine jc_seq ?_
  refine jc_region ?_
  refine jo_f [(0, 0)] (by kernel_rfl) ?_
  refine jo_end (by kernel_rfl) ?_
  refine jx_then ?_
  refine jc_seq ?_
  refine jc_region ?_
  refine jo_f [(0, 0), (0, 0)] (by kernel_rfl) ?_
  obtain ⟨t_1, ht_1, h⟩ := bd h
  refine toO (by kernel_rfl) (p_call 0 174 #[(.slice s0_a s0.length s0_c), (.func (.func 151) #[] #[(.pointer (some ⟨g1c0_b, 0, none⟩))])] (by kernel_rfl) (by kernel_rfl) (fun w hm => slices_IndexFunc_Drum_at_impl_drumCode_1.calls s0 g1c0 w _ s0_a s0.length s0_c (hm.exRowW s0_h s0_ha) rfl g1c0_fHammers_a g1c0.fHammers.length g1c0_fHammers_c (hm.exRowW g1c0_fHammers_h g1c0_fHammers_ha) rfl g1c0_b (hm.pass (N := [⟨some g1c0_b, 35, [(.int .i16 g1c0.fSteps), (.slice g1c0_fHammers_a g1c0.fHammers.length g1c0_fHammers_c)]⟩]) [0] (by kernel_rfl) (by kernel_rfl)) (hm.exApart (N := [⟨some g1c0_b, 35, [(.int .i16 g1c0.fSteps), (.slice g1c0_fHammers_a g1c0.fHammers.length g1c0_fHammers_c)]⟩]) s0_h s0_ha [0] (by kernel_rfl)) (hm.exApart (N := [⟨some g1c0_b, 35, [(.int .i16 g1c0.fSteps), (.slice g1c0_fHammers_a g1c0.fHammers.length g1c0_fHammers_c)]⟩]) g1c0_fHammers_h g1c0_fHammers_ha [0] (by kernel_rfl)) ht_1) ?_)
  rintro w v w' hm ⟨rfl, hm'⟩
  refine ⟨_, hm.appW (ps := [(0, ⟨some g1c0_b, 35, [(.int .i16 g1c0.fSteps), (.slice g1c0_fHammers_a g1c0.fHammers.length g1c0_fHammers_c)]⟩)]) (N := []) hm' (by kernel_rfl) (by kernel_rfl), jkO ?_⟩
  clear hm hm'
  refine jo_f [(0, 0), (0, 0)] (by kernel_rfl) ?_
  refine jo_end (by kernel_rfl) ?_
  refine jx_then ?_
  refine jc_ret ?_
  obtain rfl := Option.some.inj h
  exact jx_ret [] (.bool (decide (t_1 ≥ 0))) [] rfl (by kernel_rfl) (by kernel_rfl) (fun w hm => ⟨rfl, hm.pick [0] (by kernel_rfl) (by kernel_rfl)⟩)

/-! ### impl.drumCode -/
noncomputable def impl_drumCode (f0 : GFrame) (list1 : List (Arr 96 Int)) : Option (Int) := (impl_ValidFrame f0).bind fun t_1 => (if t_1 = true then (slices_ContainsFunc_Drum_at_impl_drumCode_1 list1 f0).bind fun t_2 => (impl_unless (!t_2) 1).bind fun t_3 => some t_3 else (impl_unless false 1).bind fun t_4 => some t_4)
set_option maxRecDepth 100000 in
theorem impl_drumCode.calls (f0 : GFrame) (list1 : List (Arr 96 Int)) (w : World) (r : Int) (f0_fHammers_a : Option Addr) (f0_fHammers_an : Nat) (f0_fHammers_c : Nat) (f0_fHammers_h : Rw w f0_fHammers_a 2 encGHammer f0.fHammers) (f0_fHammers_hn : f0.fHammers.length = f0_fHammers_an) (list1_a : Option Addr) (list1_an : Nat) (list1_c : Nat) (list1_h : Rw w list1_a 96 encA96U32 list1) (list1_hn : list1.length = list1_an) (h : impl_drumCode f0 list1 = some r) :
    Calls Try.prog 98 #[(.agg #[(.int .i16 f0.fSteps), (.slice f0_fHammers_a f0_fHammers_an f0_fHammers_c)]), (.slice list1_a list1_an list1_c)] w fun e w' => ∃ v, e = .returned v ∧ (v = (.int .i64 r) ∧ Mem w [] [] w') := by
  subst f0_fHammers_hn list1_hn
  rw [impl_drumCode] at h
  refine enter (args := [(.agg #[(.int .i16 f0.fSteps), (.slice f0_fHammers_a f0.fHammers.length f0_fHammers_c)]), (.slice list1_a list1.length list1_c)]) Try.func98 rfl Try.ntmps98 (by kernel_rfl) (L := []) (W := []) (Mem.start w) ?_
  refine jc_seq ?_
  refine jc_region ?_
  refine toO (by kernel_rfl) (p_a 0 [0] (by kernel_rfl) (fun b => by kernel_rfl) (fun b_1 => jkO ?_))
  refine jo_f [(0, 0)] (by kernel_rfl) ?_
  refine jo_end (by kernel_rfl) ?_
  refine jx_then ?_
  refine jc_seq ?_
  refine jc_region ?_
  refine jo_f [(0, 0)] (by kernel_rfl) ?_
  obtain ⟨t_1, ht_2, h⟩ := bd h
  refine toO (by kernel_rfl) (p_call 0 72 #[(.agg #[(.int .i16 f0.fSteps), (.slice f0_fHammers_a f0.fHammers.length f0_fHammers_c)])] (by kernel_rfl) (by kernel_rfl) (fun w hm => impl_ValidFrame.calls f0 w _ f0_fHammers_a f0.fHammers.length f0_fHammers_c (hm.exRow f0_fHammers_h List.not_mem_nil) rfl ht_2) ?_)
  rintro w v w' hm ⟨rfl, hm'⟩
  refine ⟨_, hm.app hm', jkO ?_⟩
  clear hm hm'
  refine jo_f [(0, 0), (0, 1), (0, 1)] (by kernel_rfl) ?_
  refine jo_split 7 t_1 (by kernel_rfl) (fun hc_3 => ?_) (fun hc_3 => ?_)
  · replace h := ifT hc_3 h
    obtain ⟨t_2, ht_4, h⟩ := bd h
    refine toO (by kernel_rfl) (p_call 2 150 #[(.slice list1_a list1.length list1_c), (.func (.func 151) #[] #[(.pointer (some ⟨b_1, 0, none⟩))])] (by kernel_rfl) (by kernel_rfl) (fun w hm => slices_ContainsFunc_Drum_at_impl_drumCode_1.calls list1 f0 w _ list1_a list1.length list1_c (hm.exRow list1_h List.not_mem_nil) rfl f0_fHammers_a f0.fHammers.length f0_fHammers_c (hm.exRow f0_fHammers_h List.not_mem_nil) rfl b_1 (hm.pass (N := [⟨some b_1, 35, [(.int .i16 f0.fSteps), (.slice f0_fHammers_a f0.fHammers.length f0_fHammers_c)]⟩]) [0] (by kernel_rfl) (by kernel_rfl)) (hm.exApart (N := [⟨some b_1, 35, [(.int .i16 f0.fSteps), (.slice f0_fHammers_a f0.fHammers.length f0_fHammers_c)]⟩]) list1_h (fun _ => List.not_mem_nil) [0] (by kernel_rfl)) (hm.exApart (N := [⟨some b_1, 35, [(.int .i16 f0.fSteps), (.slice f0_fHammers_a f0.fHammers.length f0_fHammers_c)]⟩]) f0_fHammers_h (fun _ => List.not_mem_nil) [0] (by kernel_rfl)) ht_4) ?_)
    rintro w v w' hm ⟨rfl, hm'⟩
    refine ⟨_, hm.appW (ps := [(0, ⟨some b_1, 35, [(.int .i16 f0.fSteps), (.slice f0_fHammers_a f0.fHammers.length f0_fHammers_c)]⟩)]) (N := []) hm' (by kernel_rfl) (by kernel_rfl), jkO ?_⟩
    clear hm hm'
    refine jo_f [(0, 2), (0, 4)] (by kernel_rfl) ?_
    obtain ⟨t_3, ht_5, h⟩ := bd h
    refine toO (by kernel_rfl) (p_call 0 108 #[(.bool (!t_2)), (.int .i64 1)] (by kernel_rfl) (by kernel_rfl) (fun w hm => impl_unless.calls (!t_2) 1 w _ ht_5) ?_)
    rintro w v w' hm ⟨rfl, hm'⟩
    refine ⟨_, hm.app hm', jkO ?_⟩
    clear hm hm'
    refine jo_f [(0, 0)] (by kernel_rfl) ?_
    refine jo_end (by kernel_rfl) ?_
    refine jx_then ?_
    refine jc_ret ?_
    obtain rfl := Option.some.inj h
    exact jx_ret [] (.int .i64 t_3) [] rfl (by kernel_rfl) (by kernel_rfl) (fun w hm => ⟨rfl, hm.pick [] (by kernel_rfl) (by kernel_rfl)⟩)
  · replace h := ifF hc_3 h
    refine jo_f [(0, 3), (0, 3), (0, 5)] (by kernel_rfl) ?_
    obtain ⟨t_4, ht_6, h⟩ := bd h
    refine toO (by kernel_rfl) (p_call 0 108 #[(.bool false), (.int .i64 1)] (by kernel_rfl) (by kernel_rfl) (fun w hm => impl_unless.calls false 1 w _ ht_6) ?_)
    rintro w v w' hm ⟨rfl, hm'⟩
    refine ⟨_, hm.app hm', jkO ?_⟩
    clear hm hm'
    refine jo_f [(0, 0)] (by kernel_rfl) ?_
    refine jo_end (by kernel_rfl) ?_
    refine jx_then ?_
    refine jc_ret ?_
    obtain rfl := Option.some.inj h
    exact jx_ret [] (.int .i64 t_4) [] rfl (by kernel_rfl) (by kernel_rfl) (fun w hm => ⟨rfl, hm.pick [] (by kernel_rfl) (by kernel_rfl)⟩)
end Go.Proofs.Ytdnkjgmncfhejaa
