/- Functions of the program that the laws reach: a plain function each, and that the call comes to its answer if the plain function has one. Printed by a program. -/
import Derived.Test.YtdnkjgmncfhejaaT
import Derived.Test.YtdnkjgmncfhejaaM0
import Derived.Test.YtdnkjgmncfhejaaM2
import Derived.Test.YtdnkjgmncfhejaaM8
import Derived.Test.YtdnkjgmncfhejaaM12
import Derived.Test.YtdnkjgmncfhejaaM16
namespace Go.Proofs.Ytdnkjgmncfhejaa
open Eng
set_option linter.unusedVariables false

/-! ### spec.l02Place -/
noncomputable def spec_l02Place.k_3 (i_2 : Int) : Option (Int) := some i_2
noncomputable def spec_l02Place (f0 : GFrame) (d1 : Arr 96 Int) (step2 : Int) (track3 : Int) : Option (Int) := (spec_l02Asked f0 d1).bind fun t_1 => (if (t_1 == 0) = true then (spec_l00In step2 0 (w64 ((w64 f0.fSteps) - 1))).bind fun t_4 => (if (!t_4) = true then spec_l02Place.k_3 2 else (spec_l00In track3 0 (w64 ((f0.fHammers.length : Int) - 1))).bind fun t_5 => (if (!t_5) = true then spec_l02Place.k_3 2 else spec_l02Place.k_3 t_1)) else spec_l02Place.k_3 t_1)
set_option maxRecDepth 100000 in
theorem spec_l02Place.calls (f0 : GFrame) (d1 : Arr 96 Int) (step2 : Int) (track3 : Int) (w : World) (r : Int) (f0_fHammers_a : Option Addr) (f0_fHammers_an : Nat) (f0_fHammers_c : Nat) (f0_fHammers_h : Rw w f0_fHammers_a 2 encGHammer f0.fHammers) (f0_fHammers_hn : f0.fHammers.length = f0_fHammers_an) (f0_b : Nat) (d1_b : Nat) (hm0 : Mem w (bs [some f0_b, some d1_b]) [⟨some f0_b, 35, [(.int .i16 f0.fSteps), (.slice f0_fHammers_a f0_fHammers_an f0_fHammers_c)]⟩, ⟨(some d1_b), 58, row encU32 d1.1 []⟩] w) (f0_fHammers_ha : f0.fHammers ≠ [] → aB f0_fHammers_a ∉ bs [some f0_b, some d1_b]) (h : spec_l02Place f0 d1 step2 track3 = some r) :
    Calls Try.prog 88 #[(.pointer (some ⟨f0_b, 0, none⟩)), (.pointer (some ⟨d1_b, 0, none⟩)), (.int .i64 step2), (.int .i64 track3)] w fun e w' => ∃ v, e = .returned v ∧ (v = (.int .i64 r) ∧ Mem w (bs [some f0_b, some d1_b]) [⟨some f0_b, 35, [(.int .i16 f0.fSteps), (.slice f0_fHammers_a f0_fHammers_an f0_fHammers_c)]⟩, ⟨(some d1_b), 58, row encU32 d1.1 []⟩] w') := by
  subst f0_fHammers_hn
  rw [spec_l02Place] at h
  refine enter (args := [(.pointer (some ⟨f0_b, 0, none⟩)), (.pointer (some ⟨d1_b, 0, none⟩)), (.int .i64 step2), (.int .i64 track3)]) Try.func88 rfl Try.ntmps88 (by kernel_rfl) (L := [⟨some f0_b, 35, [(.int .i16 f0.fSteps), (.slice f0_fHammers_a f0.fHammers.length f0_fHammers_c)]⟩, ⟨(some d1_b), 58, row encU32 d1.1 []⟩]) (W := bs [some f0_b, some d1_b]) hm0 ?_
  refine jc_seq ?_
  refine jc_region ?_
  refine jo_f [(0, 0)] (by kernel_rfl) ?_
  refine jo_end (by kernel_rfl) ?_
  refine jx_then ?_
  refine jc_seq ?_
  refine jc_region ?_
  refine jo_f [(0, 0), (0, 0)] (by kernel_rfl) ?_
  obtain ⟨t_1, ht_1, h⟩ := bd h
  refine toO (by kernel_rfl) (p_call 0 96 #[(.pointer (some ⟨f0_b, 0, none⟩)), (.pointer (some ⟨d1_b, 0, none⟩))] (by kernel_rfl) (by kernel_rfl) (fun w hm => spec_l02Asked.calls f0 d1 w _ f0_fHammers_a f0.fHammers.length f0_fHammers_c (hm.exRowW f0_fHammers_h f0_fHammers_ha) rfl f0_b d1_b (hm.pass (N := [⟨some f0_b, 35, [(.int .i16 f0.fSteps), (.slice f0_fHammers_a f0.fHammers.length f0_fHammers_c)]⟩, ⟨(some d1_b), 58, row encU32 d1.1 []⟩]) [0, 1] (by kernel_rfl) (by kernel_rfl)) (hm.exApart (N := [⟨some f0_b, 35, [(.int .i16 f0.fSteps), (.slice f0_fHammers_a f0.fHammers.length f0_fHammers_c)]⟩, ⟨(some d1_b), 58, row encU32 d1.1 []⟩]) f0_fHammers_h f0_fHammers_ha [0, 1] (by kernel_rfl)) ht_1) ?_)
  rintro w v w' hm ⟨rfl, hm'⟩
  refine ⟨_, hm.appW (ps := [(0, ⟨some f0_b, 35, [(.int .i16 f0.fSteps), (.slice f0_fHammers_a f0.fHammers.length f0_fHammers_c)]⟩), (1, ⟨(some d1_b), 58, row encU32 d1.1 []⟩)]) (N := []) hm' (by kernel_rfl) (by kernel_rfl), jkO ?_⟩
  clear hm hm'
  refine jo_f [(0, 0)] (by kernel_rfl) ?_
  refine jo_end (by kernel_rfl) ?_
  refine jx_then ?_
  refine jc_seq ?_
  refine jc_meet (fun (j : Int) => match j with | i_2 => spec_l02Place.k_3 i_2 = some r) (fun (j : Int) => match j with | i_2 => [(8, [], (.int .i64 0)), (9, [], (.int .i64 i_2))]) (fun (j : Int) => match j with | i_2 => [⟨some f0_b, 35, [(.int .i16 f0.fSteps), (.slice f0_fHammers_a f0.fHammers.length f0_fHammers_c)]⟩, ⟨(some d1_b), 58, row encU32 d1.1 []⟩]) ?_ ?_
  · refine jc_seq ?_
    refine jc_region ?_
    refine jo_f [(0, 0), (0, 0), (0, 0), (0, 1), (0, 1), (0, 1), (0, 1), (0, 1), (0, 1), (0, 1)] (by kernel_rfl) ?_
    refine jo_split 15 (t_1 == 0) (by kernel_rfl) (fun hc_9 => ?_) (fun hc_9 => ?_)
    · replace h := ifT hc_9 h
      obtain ⟨t_4, ht_10, h⟩ := bd h
      refine toO (by kernel_rfl) (p_call 2 104 #[(.int .i64 step2), (.int .i64 0), (.int .i64 (w64 ((w64 f0.fSteps) - 1)))] (by kernel_rfl) (by kernel_rfl) (fun w hm => spec_l00In.calls step2 0 (w64 ((w64 f0.fSteps) - 1)) w _ ht_10) ?_)
      rintro w v w' hm ⟨rfl, hm'⟩
      refine ⟨_, hm.app hm', jkO ?_⟩
      clear hm hm'
      refine jo_f [(0, 2), (0, 2), (0, 1), (0, 1), (0, 1), (0, 1), (0, 1), (0, 1), (0, 1)] (by kernel_rfl) ?_
      refine jo_split 25 (!t_4) (by kernel_rfl) (fun hc_11 => ?_) (fun hc_11 => ?_)
      · replace h := ifT hc_11 h
        refine jo_f [(0, 3), (0, 3), (0, 4), (0, 4)] (by kernel_rfl) ?_
        refine jo_end (by kernel_rfl) ?_
        refine jx_then ?_
        refine jc_cond true (by kernel_rfl) (fun hc_12 => ?_) (fun hc_12 => nomatch hc_12)
        refine jc_region ?_
        refine jo_f [(0, 0)] (by kernel_rfl) ?_
        refine jo_end (by kernel_rfl) ?_
        exact jx_meet 2 h (by kernel_rfl) [0, 1] (by kernel_rfl) (by kernel_rfl)
      · replace h := ifF hc_11 h
        obtain ⟨t_5, ht_13, h⟩ := bd h
        refine toO (by kernel_rfl) (p_call 2 104 #[(.int .i64 track3), (.int .i64 0), (.int .i64 (w64 ((f0.fHammers.length : Int) - 1)))] (by kernel_rfl) (by kernel_rfl) (fun w hm => spec_l00In.calls track3 0 (w64 ((f0.fHammers.length : Int) - 1)) w _ ht_13) ?_)
        rintro w v w' hm ⟨rfl, hm'⟩
        refine ⟨_, hm.app hm', jkO ?_⟩
        clear hm hm'
        refine jo_f [(0, 2), (0, 5), (0, 4)] (by kernel_rfl) ?_
        refine jo_end (by kernel_rfl) ?_
        refine jx_then ?_
        refine jc_cond (!t_5) (by kernel_rfl) (fun hc_14 => ?_) (fun hc_14 => ?_)
        · replace h := ifT hc_14 h
          refine jc_region ?_
          refine jo_f [(0, 0)] (by kernel_rfl) ?_
          refine jo_end (by kernel_rfl) ?_
          exact jx_meet 2 h (by kernel_rfl) [0, 1] (by kernel_rfl) (by kernel_rfl)
        · replace h := ifF hc_14 h
          refine jc_skip ?_
          exact jx_meet t_1 h (by kernel_rfl) [0, 1] (by kernel_rfl) (by kernel_rfl)
    · replace h := ifF hc_9 h
      refine jo_f [(0, 3), (0, 3), (0, 3), (0, 3), (0, 3), (0, 3), (0, 3), (0, 3), (0, 3), (0, 3), (0, 3), (0, 3), (0, 3), (0, 5)] (by kernel_rfl) ?_
      refine jo_end (by kernel_rfl) ?_
      refine jx_then ?_
      refine jc_cond false (by kernel_rfl) (fun hc_15 => nomatch hc_15) (fun hc_15 => ?_)
      refine jc_skip ?_
      exact jx_meet t_1 h (by kernel_rfl) [0, 1] (by kernel_rfl) (by kernel_rfl)
  · rintro i_2 h
    replace h : spec_l02Place.k_3 i_2 = some r := h
    rw [spec_l02Place.k_3] at h
    refine jx_then ?_
    refine jc_seq ?_
    refine jc_region ?_
    refine jo_f [(0, 0), (0, 0)] (by kernel_rfl) ?_
    refine jo_end (by kernel_rfl) ?_
    refine jx_then ?_
    refine jc_ret ?_
    obtain rfl := Option.some.inj h
    exact jx_ret [] (.int .i64 i_2) [] rfl (by kernel_rfl) (by kernel_rfl) (fun w hm => ⟨rfl, hm.pick [0, 1] (by kernel_rfl) (by kernel_rfl)⟩)

/-! ### spec.l03Bit -/
noncomputable def spec_l03Bit (track0 : Int) : Option (Int) := (if 0 ≤ (u64 track0) then some (bShl .u32 1 (u64 track0)) else none)
set_option maxRecDepth 100000 in
theorem spec_l03Bit.calls (track0 : Int) (w : World) (r : Int) (h : spec_l03Bit track0 = some r) :
    Calls Try.prog 90 #[(.int .i64 track0)] w fun e w' => ∃ v, e = .returned v ∧ (v = (.int .u32 r) ∧ Mem w [] [] w') := by
  rw [spec_l03Bit] at h
  refine enter (args := [(.int .i64 track0)]) Try.func90 rfl Try.ntmps90 (by kernel_rfl) (L := []) (W := []) (Mem.start w) ?_
  refine jc_seq ?_
  refine jc_region ?_
  refine jo_f [(0, 0)] (by kernel_rfl) ?_
  refine jo_end (by kernel_rfl) ?_
  refine jx_then ?_
  refine jc_seq ?_
  refine jc_region ?_
  refine jo_f [(0, 0), (0, 0)] (by kernel_rfl) ?_
  obtain ⟨hg_1, h⟩ := gd h
  refine toO (by kernel_rfl) (p_shl 0 .u32 1 .u64 (u64 track0) (by kernel_rfl) (by kernel_rfl) hg_1 (jkO ?_))
  refine jo_f [(0, 0)] (by kernel_rfl) ?_
  refine jo_end (by kernel_rfl) ?_
  refine jx_then ?_
  refine jc_ret ?_
  obtain rfl := Option.some.inj h
  exact jx_ret [] (.int .u32 (bShl .u32 1 (u64 track0))) [] rfl (by kernel_rfl) (by kernel_rfl) (fun w hm => ⟨rfl, hm.pick [] (by kernel_rfl) (by kernel_rfl)⟩)

/-! ### spec.l03Uses -/
noncomputable def spec_l03Uses.k_1 : Option (Bool) := some false
noncomputable def spec_l03Uses.l_3 (d0 : Arr 96 Int) (track1 : Int) : Int → Option ((Int) ⊕ (Bool ⊕ Unit))
  | i_2 => (if (decide (i_2 < 96)) = true then (ix d0.1 i_2).bind fun x_5 => (spec_l03Bit track1).bind fun t_6 => (if ((bAnd .u32 x_5 t_6) != 0) = true then some (.inr (.inl true)) else some (.inl (w64 (i_2 + 1)))) else some (.inr (.inr ())))
noncomputable def spec_l03Uses (d0 : Arr 96 Int) (track1 : Int) : Option (Bool) := (loop (spec_l03Uses.l_3 d0 track1) 0).bind fun t_4 => match t_4 with | .inl p => some p | .inr p => spec_l03Uses.k_1
set_option maxRecDepth 100000 in
theorem spec_l03Uses.calls (d0 : Arr 96 Int) (track1 : Int) (w : World) (r : Bool) (d0_b : Nat) (hm0 : Mem w (bs [some d0_b]) [⟨(some d0_b), 58, row encU32 d0.1 []⟩] w) (h : spec_l03Uses d0 track1 = some r) :
    Calls Try.prog 89 #[(.pointer (some ⟨d0_b, 0, none⟩)), (.int .i64 track1)] w fun e w' => ∃ v, e = .returned v ∧ (v = (.bool r) ∧ Mem w (bs [some d0_b]) [⟨(some d0_b), 58, row encU32 d0.1 []⟩] w') := by
  rw [spec_l03Uses] at h
  refine enter (args := [(.pointer (some ⟨d0_b, 0, none⟩)), (.int .i64 track1)]) Try.func89 rfl Try.ntmps89 (by kernel_rfl) (L := [⟨(some d0_b), 58, row encU32 d0.1 []⟩]) (W := bs [some d0_b]) hm0 ?_
  refine jc_seq ?_
  refine jc_region ?_
  refine jo_f [(0, 0)] (by kernel_rfl) ?_
  refine jo_end (by kernel_rfl) ?_
  refine jx_then ?_
  refine jc_seq ?_
  refine jc_seq ?_
  refine jc_region ?_
  refine jo_f [(0, 0)] (by kernel_rfl) ?_
  refine jo_end (by kernel_rfl) ?_
  refine jx_then ?_
  refine jc_meet (fun (_ : Unit) => spec_l03Uses.k_1 = some r) (fun (_ : Unit) => [(4, [], (.bool false))]) (fun (_ : Unit) => [⟨(some d0_b), 58, row encU32 d0.1 []⟩]) ?_ ?_
  · refine jc_block ?_
    obtain ⟨t_4, ht_40, hr_31⟩ := bd h
    refine jc_loop (fun (s : Int) (x : Unit) => match s, x with | i_2, _ => True) (fun (s : Int) (x : Unit) => match s, x with | i_2, _ => [(0, [], (.pointer (some ⟨d0_b, 0, none⟩))), (1, [], (.int .i64 track1)), (4, [], (.bool false)), (5, [], (.int .i64 i_2))]) (fun (s : Int) (x : Unit) => match s, x with | i_2, _ => [⟨(some d0_b), 58, row encU32 d0.1 []⟩]) ht_40 () trivial (by kernel_rfl) [0] (by kernel_rfl) (by kernel_rfl) ?_
    rintro i_2 _ y_32 _ h
    rw [spec_l03Uses.l_3] at h
    refine jc_seq ?_
    refine jc_seq ?_
    refine jc_region ?_
    refine jo_f [(0, 0), (0, 0)] (by kernel_rfl) ?_
    refine jo_end (by kernel_rfl) ?_
    refine jx_then ?_
    refine jc_cond (decide (i_2 < 96)) (by kernel_rfl) (fun hc_34 => ?_) (fun hc_34 => ?_)
    · replace h := ifT hc_34 h
      refine jc_skip ?_
      refine jx_then ?_
      refine jc_seq ?_
      refine jc_block ?_
      refine jc_seq ?_
      refine jc_draw [⟨(some d0_b), 58, row encU32 d0.1 []⟩] 9 (by kernel_rfl) (by kernel_rfl) ?_
      refine jd_f [⟨0, 0, 0⟩, ⟨1, 0, 0⟩, ⟨2, 0, 0⟩, ⟨5, 0, 0⟩] 5 (by kernel_rfl) (by kernel_rfl) (fun w h => h.pick [0] (by kernel_rfl) (by kernel_rfl)) (by kernel_rfl) (by kernel_rfl) ?_
      obtain ⟨x_5, hx_35, h⟩ := bd h
      refine jd_v 3 0 (by kernel_rfl) (fun w h => h.pick [0] (by kernel_rfl) (by kernel_rfl)) (by kernel_rfl) (by kernel_rfl) _ (fun w hm => idx_run (a := (some ⟨d0_b, 0, none⟩)) (len := 96) (s := 1) (j := i_2) (by kernel_rfl) (ix_some hx_35).1 (ltn hx_35 d0.2) rfl) ?_
      refine jd_v 4 0 (by kernel_rfl) (fun w h => h.pick [0] (by kernel_rfl) (by kernel_rfl)) (by kernel_rfl) (by kernel_rfl) _ (fun w hm => ld_run (b := aB (some ⟨d0_b, 0, none⟩)) (off := (aO (some ⟨d0_b, 0, none⟩) + i_2.toNat * 1)) (s := 1) (agg := false) (vs := (encU32 x_5)) (by kernel_rfl) (by kernel_rfl) (.inr rfl) ((hm.ownRow (hh := 0) (o := (some d0_b)) (T := 58) (enc := encU32) (xs := d0.1) (sp := []) (by kernel_rfl) (fun e => nomatch e) encU32_len).at hx_35)) ?_
      obtain ⟨t_6, ht_36, h⟩ := bd h
      refine toD 6 (by kernel_rfl) (p_call 0 90 #[(.int .i64 track1)] (by kernel_rfl) (by kernel_rfl) (fun w hm => spec_l03Bit.calls track1 w _ ht_36) ?_)
      rintro w v w' hm ⟨rfl, hm'⟩
      refine ⟨_, hm.app hm', jkD (fun w h => h.pick [0] (by kernel_rfl) (by kernel_rfl)) ?_⟩
      clear hm hm'
      refine jd_f [⟨7, 0, 0⟩, ⟨8, 0, 0⟩] 0 (by kernel_rfl) (by kernel_rfl) (fun w h => h.pick [0] (by kernel_rfl) (by kernel_rfl)) (by kernel_rfl) (by kernel_rfl) ?_
      refine jd_end (by kernel_rfl) ?_
      refine jx_then ?_
      refine jc_cond ((bAnd .u32 x_5 t_6) != 0) (by kernel_rfl) (fun hc_37 => ?_) (fun hc_37 => ?_)
      · replace h := ifT hc_37 h
        refine jc_seq ?_
        refine jc_region ?_
        refine jo_f [(0, 0)] (by kernel_rfl) ?_
        refine jo_end (by kernel_rfl) ?_
        refine jx_then ?_
        refine jc_ret ?_
        refine jx_inr ?_
        refine jx_thenr ?_
        refine jx_leaver (.inl true) (Option.some.inj h).symm (fun e_38 => ?_)
        subst e_38
        refine jx_inr ?_
        refine jx_thenr ?_
        refine jx_thenr ?_
        obtain rfl := Option.some.inj hr_31
        exact jx_ret [] (.bool true) [] rfl (by kernel_rfl) (by kernel_rfl) (fun w hm => ⟨rfl, hm.pick [0] (by kernel_rfl) (by kernel_rfl)⟩)
      · replace h := ifF hc_37 h
        refine jc_skip ?_
        refine jx_inn ?_
        refine jx_then ?_
        refine jc_region ?_
        refine jo_f [(0, 0), (0, 0), (0, 0)] (by kernel_rfl) ?_
        refine jo_end (by kernel_rfl) ?_
        exact jx_back (w64 (i_2 + 1)) () (Option.some.inj h).symm trivial [0] (by kernel_rfl) (by kernel_rfl) (by kernel_rfl)
    · replace h := ifF hc_34 h
      refine jc_exit ?_
      refine jx_thenx ?_
      refine jx_leave (.inr ()) (Option.some.inj h).symm (fun e_39 => ?_)
      subst e_39
      refine jx_ine ?_
      exact jx_meet () hr_31 (by kernel_rfl) [0] (by kernel_rfl) (by kernel_rfl)
  · rintro _ h
    replace h : spec_l03Uses.k_1 = some r := h
    rw [spec_l03Uses.k_1] at h
    refine jx_then ?_
    refine jc_seq ?_
    refine jc_region ?_
    refine jo_f [(0, 0)] (by kernel_rfl) ?_
    refine jo_end (by kernel_rfl) ?_
    refine jx_then ?_
    refine jc_ret ?_
    obtain rfl := Option.some.inj h
    exact jx_ret [] (.bool false) [] rfl (by kernel_rfl) (by kernel_rfl) (fun w hm => ⟨rfl, hm.pick [0] (by kernel_rfl) (by kernel_rfl)⟩)

/-! ### spec.l03Less -/
noncomputable def spec_l03Less (f0 : GFrame) (track1 : Int) : Option (GFrame) := (if 0 ≤ track1 ∧ track1 ≤ (f0.fHammers.length : Int) then (if 0 ≤ (w64 (track1 + 1)) ∧ (w64 (track1 + 1)) ≤ (f0.fHammers.length : Int) then (if ([] : List GHammer).length + (f0.fHammers.take track1.toNat).length ≤ 4294967296 then (if (([] : List GHammer) ++ (f0.fHammers.take track1.toNat)).length + (f0.fHammers.drop (w64 (track1 + 1)).toNat).length ≤ 4294967296 then some (⟨f0.fSteps, ((([] : List GHammer) ++ (f0.fHammers.take track1.toNat)) ++ (f0.fHammers.drop (w64 (track1 + 1)).toNat))⟩ : GFrame) else none) else none) else none) else none)
set_option maxRecDepth 100000 in
theorem spec_l03Less.calls (f0 : GFrame) (track1 : Int) (w : World) (r : GFrame) (f0_b : Nat) (f0_fHammers_o : Option Nat) (f0_fHammers_on : Nat) (f0_fHammers_c : Nat) (f0_fHammers_sp : List Value) (f0_fHammers_hn : f0.fHammers.length = f0_fHammers_on) (f0_fHammers_hs : f0_fHammers_o ≠ none → f0_fHammers_on ≤ f0_fHammers_c ∧ f0_fHammers_sp.length = (f0_fHammers_c - f0_fHammers_on) * 2) (f0_fHammers_ho : f0_fHammers_o = none → f0.fHammers = [] ∧ f0_fHammers_c = 0) (hm0 : Mem w (bs [some f0_b, f0_fHammers_o]) [⟨some f0_b, 35, [(.int .i16 f0.fSteps), (.slice (f0_fHammers_o.map fun b => ⟨b, 0, none⟩) f0_fHammers_on f0_fHammers_c)]⟩, ⟨f0_fHammers_o, 176, row encGHammer f0.fHammers f0_fHammers_sp⟩] w) (h : spec_l03Less f0 track1 = some r) :
    Calls Try.prog 91 #[(.pointer (some ⟨f0_b, 0, none⟩)), (.int .i64 track1)] w fun e w' => ∃ v, e = .returned v ∧ (∃ (o0 : Option Nat) (c0 : Nat) (s0 : List Value) (n0 : Nat), r.fHammers.length = n0 ∧ (o0 ≠ none → n0 ≤ c0 ∧ s0.length = (c0 - n0) * 2) ∧ (o0 = none → r.fHammers = [] ∧ c0 = 0) ∧ v = .agg #[(.int .i16 r.fSteps), .slice (o0.map fun b => ⟨b, 0, none⟩) n0 c0] ∧ Mem w (bs [some f0_b, f0_fHammers_o]) [⟨some f0_b, 35, [(.int .i16 f0.fSteps), (.slice (f0_fHammers_o.map fun b => ⟨b, 0, none⟩) f0_fHammers_on f0_fHammers_c)]⟩, ⟨f0_fHammers_o, 176, row encGHammer f0.fHammers f0_fHammers_sp⟩, ⟨o0, 176, row encGHammer r.fHammers s0⟩] w') := by
  subst f0_fHammers_hn
  rw [spec_l03Less] at h
  refine enter (args := [(.pointer (some ⟨f0_b, 0, none⟩)), (.int .i64 track1)]) Try.func91 rfl Try.ntmps91 (by kernel_rfl) (L := [⟨some f0_b, 35, [(.int .i16 f0.fSteps), (.slice (f0_fHammers_o.map fun b => ⟨b, 0, none⟩) f0.fHammers.length f0_fHammers_c)]⟩, ⟨f0_fHammers_o, 176, row encGHammer f0.fHammers f0_fHammers_sp⟩]) (W := bs [some f0_b, f0_fHammers_o]) hm0 ?_
  refine jc_seq ?_
  refine jc_region ?_
  refine toO (by kernel_rfl) (p_a 0 [0] (by kernel_rfl) (fun b => by kernel_rfl) (fun b_1 => jkO ?_))
  refine jo_end (by kernel_rfl) ?_
  refine jx_then ?_
  refine jc_seq ?_
  refine jc_draw [⟨some f0_b, 35, [(.int .i16 f0.fSteps), (.slice (f0_fHammers_o.map fun b => ⟨b, 0, none⟩) f0.fHammers.length f0_fHammers_c)]⟩, ⟨f0_fHammers_o, 176, row encGHammer f0.fHammers f0_fHammers_sp⟩, ⟨some b_1, 35, [(.int .i16 0), (.slice none 0 0)]⟩] 17 (by kernel_rfl) (by kernel_rfl) ?_
  refine jd_f [⟨1, 0, 0⟩, ⟨2, 0, 0⟩, ⟨3, 0, 0⟩, ⟨4, 0, 0⟩, ⟨5, 0, 0⟩, ⟨8, 0, 0⟩, ⟨9, 0, 0⟩, ⟨10, 0, 0⟩, ⟨11, 0, 0⟩, ⟨12, 0, 0⟩, ⟨13, 0, 0⟩] 6 (by kernel_rfl) (by kernel_rfl) (fun w h => h.pick [0, 1, 2] (by kernel_rfl) (by kernel_rfl)) (by kernel_rfl) (by kernel_rfl) ?_
  obtain ⟨hg_2, h⟩ := gd h
  refine jd_v 6 0 (by kernel_rfl) (fun w h => h.pick [0, 1, 2] (by kernel_rfl) (by kernel_rfl)) (by kernel_rfl) (by kernel_rfl) _ (fun w hm => slH_run (a := (f0_fHammers_o.map fun b => ⟨b, 0, none⟩)) (len := f0.fHammers.length) (cap := f0_fHammers_c) (size := 2) (h := track1) (by kernel_rfl) hg_2.1 (Int.le_trans hg_2.2 (Int.ofNat_le.2 (cap_le rfl f0_fHammers_hs f0_fHammers_ho)))) ?_
  obtain ⟨hg_3, h⟩ := gd h
  refine jd_v 14 0 (by kernel_rfl) (fun w h => h.pick [0, 1, 2] (by kernel_rfl) (by kernel_rfl)) (by kernel_rfl) (by kernel_rfl) _ (fun w hm => slL_run (a := (f0_fHammers_o.map fun b => ⟨b, 0, none⟩)) (len := f0.fHammers.length) (cap := f0_fHammers_c) (size := 2) (l := (w64 (track1 + 1))) (by kernel_rfl) hg_3.1 (Int.le_trans hg_3.2 (Int.ofNat_le.2 (Nat.le_of_eq rfl)))) ?_
  refine toD 0 (by kernel_rfl) (p_a 0 [0] (by kernel_rfl) (fun b => by kernel_rfl) (fun b_4 => jkD (fun w h => h.pick [0, 1, 2] (by kernel_rfl) (by kernel_rfl)) ?_))
  obtain ⟨hg_5, h⟩ := gd h
  refine toD 7 (by kernel_rfl) (p_apn 0 3 (some b_4) 176 0 track1.toNat 0 2 2 (f0_fHammers_o.map fun b => ⟨b, 0, none⟩) encGHammer ([] : List GHammer) (f0.fHammers.take track1.toNat) [] (.agg #[(.int .i8 0), (.int .i8 0)]) rfl (hd_len hg_2) (by kernel_rfl) (by kernel_rfl) (by kernel_rfl) encGHammer_len encGHammer_cell (fun _ => ⟨Nat.le_refl _, by simp⟩) (fun e => nomatch e) (fun w hm => ((hm.ownRow (hh := 1) (o := f0_fHammers_o) (T := 176) (enc := encGHammer) (xs := f0.fHammers) (sp := f0_fHammers_sp) (by kernel_rfl) (fun e => (f0_fHammers_ho e).1) encGHammer_len).hd track1.toNat)) hg_5 (by kernel_rfl) (by kernel_rfl) (fun o_6 cap_7 sp_8 hs_9 ho_10 => jkD (fun w h => h.pick [0, 1, 2] (by kernel_rfl) (by kernel_rfl)) ?_))
  obtain ⟨hg_11, h⟩ := gd h
  refine toD 15 (by kernel_rfl) (p_apn 0 3 o_6 176 ((([] : List GHammer) ++ (f0.fHammers.take track1.toNat)).length) (f0.fHammers.length - (w64 (track1 + 1)).toNat) cap_7 2 2 (pa (f0_fHammers_o.map fun b => ⟨b, 0, none⟩) (w64 (track1 + 1)).toNat f0_fHammers_c 2) encGHammer (([] : List GHammer) ++ (f0.fHammers.take track1.toNat)) (f0.fHammers.drop (w64 (track1 + 1)).toNat) sp_8 (.agg #[(.int .i8 0), (.int .i8 0)]) rfl (tl_len rfl (w64 (track1 + 1))) (by kernel_rfl) (by kernel_rfl) (by kernel_rfl) encGHammer_len encGHammer_cell hs_9 ho_10 (fun w hm => ((hm.ownRow (hh := 1) (o := f0_fHammers_o) (T := 176) (enc := encGHammer) (xs := f0.fHammers) (sp := f0_fHammers_sp) (by kernel_rfl) (fun e => (f0_fHammers_ho e).1) encGHammer_len).tl ((w64 (track1 + 1)).toNat) f0_fHammers_c (cap_le rfl f0_fHammers_hs f0_fHammers_ho))) hg_11 (by kernel_rfl) (by kernel_rfl) (fun o_12 cap_13 sp_14 hs_15 ho_16 => jkD (fun w h => h.pick [0, 1, 2] (by kernel_rfl) (by kernel_rfl)) ?_))
  refine jd_f [⟨16, 0, 0⟩] 0 (by kernel_rfl) (by kernel_rfl) (fun w h => h.pick [0, 1, 2] (by kernel_rfl) (by kernel_rfl)) (by kernel_rfl) (by kernel_rfl) ?_
  refine jd_end (by kernel_rfl) ?_
  refine jx_then ?_
  refine jc_seq ?_
  refine jc_region ?_
  refine jo_f [(0, 0), (0, 0), (0, 0), (0, 0), (0, 0), (0, 0)] (by kernel_rfl) ?_
  refine toO (by kernel_rfl) (p_s 0 [2] (by kernel_rfl) (by kernel_rfl) (jkO ?_))
  refine jo_end (by kernel_rfl) ?_
  refine jx_then ?_
  refine jc_ret ?_
  obtain rfl := Option.some.inj h
  exact jx_ret [2] (.agg #[(.int .i16 f0.fSteps), (.slice (o_12.map fun b => ⟨b, 0, none⟩) (((([] : List GHammer) ++ (f0.fHammers.take track1.toNat)) ++ (f0.fHammers.drop (w64 (track1 + 1)).toNat)).length) cap_13)]) [(b_1, b_1), (b_1, b_1)] rfl (by kernel_rfl) (by kernel_rfl) (fun w hm => ⟨o_12, cap_13, sp_14, (((([] : List GHammer) ++ (f0.fHammers.take track1.toNat)) ++ (f0.fHammers.drop (w64 (track1 + 1)).toNat)).length), rfl, hs_15, ho_16, rfl, hm.pick [0, 1, 3] (by kernel_rfl) (by kernel_rfl)⟩)

/-! ### spec.WithoutTrack -/
noncomputable def spec_WithoutTrack.k_5 (f0 : GFrame) (track2 : Int) (a_4 : Arr 96 Int) : Option (GFrame × (Arr 96 Int) × Int) := (spec_l03Less f0 track2).bind fun t_6 => some (t_6, a_4, 0)
noncomputable def spec_WithoutTrack.l_9 (t_3 : Int) : ((Arr 96 Int) × Int) → Option (((Arr 96 Int) × Int) ⊕ ((Arr 96 Int)))
  | (a_7, i_8) => (if (decide (i_8 < 96)) = true then (ix a_7.1 i_8).bind fun x_11 => (ix a_7.1 i_8).bind fun x_12 => (ix a_7.1 i_8).bind fun x_13 => some (.inl ((Arr.set a_7 i_8 (bOr .u32 (bAnd .u32 x_11 (u32 (t_3 - 1))) (bClr .u32 (bShr .u32 x_12 1) (u32 (t_3 - 1))))), (w64 (i_8 + 1)))) else some (.inr a_7))
noncomputable def spec_WithoutTrack (f0 : GFrame) (d1 : Arr 96 Int) (track2 : Int) : Option (GFrame × (Arr 96 Int) × Int) := (spec_l02Place f0 d1 0 track2).bind fun t_1 => (if (t_1 != 0) = true then some ((⟨0, []⟩ : GFrame), (Arr.rep 96 0), t_1) else (spec_l03Uses d1 track2).bind fun t_2 => (if (t_2 || ((f0.fHammers.length : Int) == 1)) = true then some ((⟨0, []⟩ : GFrame), (Arr.rep 96 0), 4) else (spec_l03Bit track2).bind fun t_3 => (loop (spec_WithoutTrack.l_9 t_3) (d1, 0)).bind fun t_10 => spec_WithoutTrack.k_5 f0 track2 t_10))
set_option maxRecDepth 100000 in
theorem spec_WithoutTrack.calls (f0 : GFrame) (d1 : Arr 96 Int) (track2 : Int) (w : World) (r : GFrame × (Arr 96 Int) × Int) (f0_fHammers_o : Option Nat) (f0_fHammers_on : Nat) (f0_fHammers_c : Nat) (f0_fHammers_sp : List Value) (f0_fHammers_hn : f0.fHammers.length = f0_fHammers_on) (f0_fHammers_hs : f0_fHammers_o ≠ none → f0_fHammers_on ≤ f0_fHammers_c ∧ f0_fHammers_sp.length = (f0_fHammers_c - f0_fHammers_on) * 2) (f0_fHammers_ho : f0_fHammers_o = none → f0.fHammers = [] ∧ f0_fHammers_c = 0) (hm0 : Mem w (bs [f0_fHammers_o]) [⟨f0_fHammers_o, 176, row encGHammer f0.fHammers f0_fHammers_sp⟩] w) (h : spec_WithoutTrack f0 d1 track2 = some r) :
    Calls Try.prog 30 #[(.agg #[(.int .i16 f0.fSteps), (.slice (f0_fHammers_o.map fun b => ⟨b, 0, none⟩) f0_fHammers_on f0_fHammers_c)]), (.agg (row encU32 d1.1 []).toArray), (.int .i64 track2)] w fun e w' => ∃ v, e = .returned v ∧ (∃ (o0 : Option Nat) (c0 : Nat) (s0 : List Value) (n0 : Nat), r.1.fHammers.length = n0 ∧ (o0 ≠ none → n0 ≤ c0 ∧ s0.length = (c0 - n0) * 2) ∧ (o0 = none → r.1.fHammers = [] ∧ c0 = 0) ∧ v = .tuple #[.agg #[(.int .i16 r.1.fSteps), .slice (o0.map fun b => ⟨b, 0, none⟩) n0 c0], (.agg (row encU32 r.2.1.1 []).toArray), (.int .i64 r.2.2)] ∧ Mem w (bs [f0_fHammers_o]) [⟨f0_fHammers_o, 176, row encGHammer f0.fHammers f0_fHammers_sp⟩, ⟨o0, 176, row encGHammer r.1.fHammers s0⟩] w') := by
  subst f0_fHammers_hn
  rw [spec_WithoutTrack] at h
  refine enter (args := [(.agg #[(.int .i16 f0.fSteps), (.slice (f0_fHammers_o.map fun b => ⟨b, 0, none⟩) f0.fHammers.length f0_fHammers_c)]), (.agg (row encU32 d1.1 []).toArray), (.int .i64 track2)]) Try.func30 rfl Try.ntmps30 (by kernel_rfl) (L := [⟨f0_fHammers_o, 176, row encGHammer f0.fHammers f0_fHammers_sp⟩]) (W := bs [f0_fHammers_o]) hm0 ?_
  refine jc_seq ?_
  refine jc_region ?_
  refine toO (by kernel_rfl) (p_a 0 [0] (by kernel_rfl) (fun b => by kernel_rfl) (fun b_1 => jkO ?_))
  refine toO (by kernel_rfl) (p_a 0 [0] (by kernel_rfl) (fun b => by kernel_rfl) (fun b_2 => jkO ?_))
  refine toO (by kernel_rfl) (p_a 0 [0] (by kernel_rfl) (fun b => by kernel_rfl) (fun b_3 => jkO ?_))
  refine toO (by kernel_rfl) (p_a 0 [0] (by kernel_rfl) (fun b => by kernel_rfl) (fun b_4 => jkO ?_))
  refine jo_f [(0, 0)] (by kernel_rfl) ?_
  refine jo_end (by kernel_rfl) ?_
  refine jx_then ?_
  refine jc_seq ?_
  refine jc_seq ?_
  refine jc_region ?_
  refine jo_f [(0, 0)] (by kernel_rfl) ?_
  obtain ⟨t_1, ht_7, h⟩ := bd h
  refine toO (by kernel_rfl) (p_call 0 88 #[(.pointer (some ⟨b_1, 0, none⟩)), (.pointer (some ⟨b_2, 0, none⟩)), (.int .i64 0), (.int .i64 track2)] (by kernel_rfl) (by kernel_rfl) (fun w hm => spec_l02Place.calls f0 d1 0 track2 w _ (f0_fHammers_o.map fun b => ⟨b, 0, none⟩) f0.fHammers.length f0_fHammers_c (hm.ownRow (hh := 0) (o := f0_fHammers_o) (T := 176) (enc := encGHammer) (xs := f0.fHammers) (sp := f0_fHammers_sp) (by kernel_rfl) (fun e => (f0_fHammers_ho e).1) encGHammer_len) rfl b_1 b_2 (hm.pass (N := [⟨some b_1, 35, [(.int .i16 f0.fSteps), (.slice (f0_fHammers_o.map fun b => ⟨b, 0, none⟩) f0.fHammers.length f0_fHammers_c)]⟩, ⟨(some b_2), 58, row encU32 d1.1 []⟩]) [1, 2] (by kernel_rfl) (by kernel_rfl)) (hm.ownApart (S := GHammer) (N := [⟨some b_1, 35, [(.int .i16 f0.fSteps), (.slice (f0_fHammers_o.map fun b => ⟨b, 0, none⟩) f0.fHammers.length f0_fHammers_c)]⟩, ⟨(some b_2), 58, row encU32 d1.1 []⟩]) (hh := 0) (o := f0_fHammers_o) (T := 176) (cs := row encGHammer f0.fHammers f0_fHammers_sp) (xs := f0.fHammers) (by kernel_rfl) (fun e => (f0_fHammers_ho e).1) [1, 2] (by kernel_rfl) (by kernel_rfl)) ht_7) ?_)
  rintro w v w' hm ⟨rfl, hm'⟩
  refine ⟨_, hm.appW (ps := [(1, ⟨some b_1, 35, [(.int .i16 f0.fSteps), (.slice (f0_fHammers_o.map fun b => ⟨b, 0, none⟩) f0.fHammers.length f0_fHammers_c)]⟩), (2, ⟨(some b_2), 58, row encU32 d1.1 []⟩)]) (N := []) hm' (by kernel_rfl) (by kernel_rfl), jkO ?_⟩
  clear hm hm'
  refine jo_f [(0, 0)] (by kernel_rfl) ?_
  refine jo_end (by kernel_rfl) ?_
  refine jx_then ?_
  refine jc_seq ?_
  refine jc_region ?_
  refine jo_f [(0, 0), (0, 0)] (by kernel_rfl) ?_
  refine jo_end (by kernel_rfl) ?_
  refine jx_then ?_
  refine jc_cond (t_1 != 0) (by kernel_rfl) (fun hc_8 => ?_) (fun hc_8 => ?_)
  · replace h := ifT hc_8 h
    refine jc_seq ?_
    refine jc_region ?_
    refine jo_f [(0, 0), (0, 0), (0, 0)] (by kernel_rfl) ?_
    refine toO (by kernel_rfl) (p_s 0 [3] (by kernel_rfl) (by kernel_rfl) (jkO ?_))
    refine toO (by kernel_rfl) (p_sA 0 4 b_4 96 1 58 encU32 (Arr.rep 96 0) (Arr.rep 96 0) (by kernel_rfl) (by kernel_rfl) (by kernel_rfl) encU32_len encU32_cell (by kernel_rfl) (jkO ?_))
    refine jo_f [(0, 0)] (by kernel_rfl) ?_
    refine jo_end (by kernel_rfl) ?_
    refine jx_then ?_
    refine jc_ret ?_
    refine jx_thenr ?_
    obtain rfl := Option.some.inj h
    refine jx_ghost 176 encGHammer ?_
    exact jx_retV rfl (rq_cell (v := (.agg #[(.int .i16 0), (.slice none 0 0)])) [3] [(b_3, b_3), (b_3, b_3)] (by kernel_rfl) (by kernel_rfl) (rq_arr (b := b_4) (T' := 58) (hh := 4) (mm := 1) encU32 (Arr.rep 96 0) (by kernel_rfl) (by kernel_rfl) encU32_len (by kernel_rfl) (rq_tmp (by kernel_rfl) rq_nil))) (fun w hm => ⟨none, 0, [], 0, rfl, (fun e => absurd rfl e), (fun _ => ⟨rfl, rfl⟩), rfl, hm.pick [0, 5] (by kernel_rfl) (by kernel_rfl)⟩)
  · replace h := ifF hc_8 h
    refine jc_skip ?_
    refine jx_then ?_
    refine jc_seq ?_
    refine jc_seq ?_
    refine jc_region ?_
    refine jo_f [(0, 0)] (by kernel_rfl) ?_
    obtain ⟨t_2, ht_13, h⟩ := bd h
    refine toO (by kernel_rfl) (p_call 0 89 #[(.pointer (some ⟨b_2, 0, none⟩)), (.int .i64 track2)] (by kernel_rfl) (by kernel_rfl) (fun w hm => spec_l03Uses.calls d1 track2 w _ b_2 (hm.pass (N := [⟨(some b_2), 58, row encU32 d1.1 []⟩]) [2] (by kernel_rfl) (by kernel_rfl)) ht_13) ?_)
    rintro w v w' hm ⟨rfl, hm'⟩
    refine ⟨_, hm.appW (ps := [(2, ⟨(some b_2), 58, row encU32 d1.1 []⟩)]) (N := []) hm' (by kernel_rfl) (by kernel_rfl), jkO ?_⟩
    clear hm hm'
    refine jo_f [(0, 0), (0, 1), (1, 1), (0, 1), (0, 1), (0, 0)] (by kernel_rfl) ?_
    refine jo_end (by kernel_rfl) ?_
    refine jx_then ?_
    refine jc_cond (t_2 || ((f0.fHammers.length : Int) == 1)) (by kernel_rfl) (fun hc_14 => ?_) (fun hc_14 => ?_)
    · replace h := ifT hc_14 h
      refine jc_seq ?_
      refine jc_region ?_
      refine jo_f [(0, 0), (0, 0)] (by kernel_rfl) ?_
      refine toO (by kernel_rfl) (p_s 0 [3] (by kernel_rfl) (by kernel_rfl) (jkO ?_))
      refine toO (by kernel_rfl) (p_sA 0 4 b_4 96 1 58 encU32 (Arr.rep 96 0) (Arr.rep 96 0) (by kernel_rfl) (by kernel_rfl) (by kernel_rfl) encU32_len encU32_cell (by kernel_rfl) (jkO ?_))
      refine jo_f [(0, 0)] (by kernel_rfl) ?_
      refine jo_end (by kernel_rfl) ?_
      refine jx_then ?_
      refine jc_ret ?_
      refine jx_thenr ?_
      obtain rfl := Option.some.inj h
      refine jx_ghost 176 encGHammer ?_
      exact jx_retV rfl (rq_cell (v := (.agg #[(.int .i16 0), (.slice none 0 0)])) [3] [(b_3, b_3), (b_3, b_3)] (by kernel_rfl) (by kernel_rfl) (rq_arr (b := b_4) (T' := 58) (hh := 4) (mm := 1) encU32 (Arr.rep 96 0) (by kernel_rfl) (by kernel_rfl) encU32_len (by kernel_rfl) (rq_tmp (by kernel_rfl) rq_nil))) (fun w hm => ⟨none, 0, [], 0, rfl, (fun e => absurd rfl e), (fun _ => ⟨rfl, rfl⟩), rfl, hm.pick [0, 5] (by kernel_rfl) (by kernel_rfl)⟩)
    · replace h := ifF hc_14 h
      refine jc_skip ?_
      refine jx_then ?_
      refine jc_seq ?_
      refine jc_region ?_
      refine jo_f [(0, 0)] (by kernel_rfl) ?_
      obtain ⟨t_3, ht_15, h⟩ := bd h
      refine toO (by kernel_rfl) (p_call 0 90 #[(.int .i64 track2)] (by kernel_rfl) (by kernel_rfl) (fun w hm => spec_l03Bit.calls track2 w _ ht_15) ?_)
      rintro w v w' hm ⟨rfl, hm'⟩
      refine ⟨_, hm.app hm', jkO ?_⟩
      clear hm hm'
      refine jo_f [(0, 0), (0, 0)] (by kernel_rfl) ?_
      refine jo_end (by kernel_rfl) ?_
      refine jx_then ?_
      refine jc_seq ?_
      refine jc_seq ?_
      refine jc_region ?_
      refine jo_f [(0, 0)] (by kernel_rfl) ?_
      refine jo_end (by kernel_rfl) ?_
      refine jx_then ?_
      refine jc_meet (fun (j : (Arr 96 Int)) => match j with | a_4 => spec_WithoutTrack.k_5 f0 track2 a_4 = some r) (fun (j : (Arr 96 Int)) => match j with | a_4 => [(2, [], (.int .i64 track2)), (3, [], (.pointer (some ⟨b_1, 0, none⟩))), (4, [], (.pointer (some ⟨b_2, 0, none⟩))), (6, [], (.pointer (some ⟨b_3, 0, none⟩))), (7, [], (.pointer (some ⟨b_4, 0, none⟩))), (8, [], (.int .i64 0))]) (fun (j : (Arr 96 Int)) => match j with | a_4 => [⟨f0_fHammers_o, 176, row encGHammer f0.fHammers f0_fHammers_sp⟩, ⟨some b_1, 35, [(.int .i16 f0.fSteps), (.slice (f0_fHammers_o.map fun b => ⟨b, 0, none⟩) f0.fHammers.length f0_fHammers_c)]⟩, ⟨(some b_2), 58, row encU32 a_4.1 []⟩, ⟨some b_3, 35, [(.int .i16 0), (.slice none 0 0)]⟩, ⟨(some b_4), 58, row encU32 ((Arr.rep 96 0).1) []⟩]) ?_ ?_
      · refine jc_block ?_
        obtain ⟨t_10, ht_157, hr_145⟩ := bd h
        refine jc_loop (fun (s : (Arr 96 Int) × Int) (x : Unit) => match s, x with | ⟨a_7, i_8⟩, _ => True) (fun (s : (Arr 96 Int) × Int) (x : Unit) => match s, x with | ⟨a_7, i_8⟩, _ => [(2, [], (.int .i64 track2)), (3, [], (.pointer (some ⟨b_1, 0, none⟩))), (4, [], (.pointer (some ⟨b_2, 0, none⟩))), (6, [], (.pointer (some ⟨b_3, 0, none⟩))), (7, [], (.pointer (some ⟨b_4, 0, none⟩))), (8, [], (.int .i64 0)), (10, [], (.int .u32 (u32 (t_3 - 1)))), (11, [], (.int .i64 i_8))]) (fun (s : (Arr 96 Int) × Int) (x : Unit) => match s, x with | ⟨a_7, i_8⟩, _ => [⟨f0_fHammers_o, 176, row encGHammer f0.fHammers f0_fHammers_sp⟩, ⟨some b_1, 35, [(.int .i16 f0.fSteps), (.slice (f0_fHammers_o.map fun b => ⟨b, 0, none⟩) f0.fHammers.length f0_fHammers_c)]⟩, ⟨(some b_2), 58, row encU32 a_7.1 []⟩, ⟨some b_3, 35, [(.int .i16 0), (.slice none 0 0)]⟩, ⟨(some b_4), 58, row encU32 ((Arr.rep 96 0).1) []⟩]) ht_157 () trivial (by kernel_rfl) [0, 1, 2, 3, 4] (by kernel_rfl) (by kernel_rfl) ?_
        rintro ⟨a_7, i_8⟩ _ y_146 _ h
        rw [spec_WithoutTrack.l_9] at h
        refine jc_seq ?_
        refine jc_seq ?_
        refine jc_region ?_
        refine jo_f [(0, 0), (0, 0)] (by kernel_rfl) ?_
        refine jo_end (by kernel_rfl) ?_
        refine jx_then ?_
        refine jc_cond (decide (i_8 < 96)) (by kernel_rfl) (fun hc_148 => ?_) (fun hc_148 => ?_)
        · replace h := ifT hc_148 h
          refine jc_skip ?_
          refine jx_then ?_
          refine jc_seq ?_
          refine jc_block ?_
          refine jc_draw [⟨f0_fHammers_o, 176, row encGHammer f0.fHammers f0_fHammers_sp⟩, ⟨some b_1, 35, [(.int .i16 f0.fSteps), (.slice (f0_fHammers_o.map fun b => ⟨b, 0, none⟩) f0.fHammers.length f0_fHammers_c)]⟩, ⟨some b_3, 35, [(.int .i16 0), (.slice none 0 0)]⟩, ⟨(some b_4), 58, row encU32 ((Arr.rep 96 0).1) []⟩] 15 (by kernel_rfl) (by kernel_rfl) ?_
          refine jd_f [⟨0, 0, 0⟩, ⟨1, 0, 0⟩, ⟨4, 0, 0⟩, ⟨6, 0, 0⟩, ⟨10, 0, 0⟩] 10 (by kernel_rfl) (by kernel_rfl) (fun w h => h.pick [0, 1, 3, 4] (by kernel_rfl) (by kernel_rfl)) (by kernel_rfl) (by kernel_rfl) ?_
          obtain ⟨x_11, hx_152, h⟩ := bd h
          refine jd_v 2 0 (by kernel_rfl) (fun w h => h.pick [0, 1, 3, 4] (by kernel_rfl) (by kernel_rfl)) (by kernel_rfl) (by kernel_rfl) _ (fun w hm => idx_run (a := (some ⟨b_2, 0, none⟩)) (len := 96) (s := 1) (j := i_8) (by kernel_rfl) (ix_some hx_152).1 (ltn hx_152 a_7.2) rfl) ?_
          obtain ⟨x_12, hx_153, h⟩ := bd h
          refine jd_v 7 0 (by kernel_rfl) (fun w h => h.pick [0, 1, 3, 4] (by kernel_rfl) (by kernel_rfl)) (by kernel_rfl) (by kernel_rfl) _ (fun w hm => idx_run (a := (some ⟨b_2, 0, none⟩)) (len := 96) (s := 1) (j := i_8) (by kernel_rfl) (ix_some hx_153).1 (ltn hx_153 a_7.2) rfl) ?_
          refine toD2 3 8 (by kernel_rfl) ?_ ?_
          · refine p_ld 0 (aB (some ⟨b_2, 0, none⟩)) (aO (some ⟨b_2, 0, none⟩) + i_8.toNat * 1) false (encU32 x_11) (by kernel_rfl) (by kernel_rfl) (by kernel_rfl) (fun w hm => ((hm.ownRow (hh := 2) (o := (some b_2)) (T := 58) (enc := encU32) (xs := a_7.1) (sp := []) (by kernel_rfl) (fun e => nomatch e) encU32_len).at hx_152)) (jkD (fun w h => h.pick [0, 1, 3, 4] (by kernel_rfl) (by kernel_rfl)) ?_)
            refine jd_f [⟨5, 0, 0⟩] 6 (by kernel_rfl) (by kernel_rfl) (fun w h => h.pick [0, 1, 3, 4] (by kernel_rfl) (by kernel_rfl)) (by kernel_rfl) (by kernel_rfl) ?_
            refine toD 8 (by kernel_rfl) (p_ld 0 (aB (some ⟨b_2, 0, none⟩)) (aO (some ⟨b_2, 0, none⟩) + i_8.toNat * 1) false (encU32 x_12) (by kernel_rfl) (by kernel_rfl) (by kernel_rfl) (fun w hm => ((hm.ownRow (hh := 2) (o := (some b_2)) (T := 58) (enc := encU32) (xs := a_7.1) (sp := []) (by kernel_rfl) (fun e => nomatch e) encU32_len).at hx_153)) (jkD (fun w h => h.pick [0, 1, 3, 4] (by kernel_rfl) (by kernel_rfl)) ?_))
            refine jd_f [⟨9, 0, 0⟩, ⟨11, 0, 0⟩, ⟨12, 0, 0⟩] 2 (by kernel_rfl) (by kernel_rfl) (fun w h => h.pick [0, 1, 3, 4] (by kernel_rfl) (by kernel_rfl)) (by kernel_rfl) (by kernel_rfl) ?_
            obtain ⟨x_13, hx_154, h⟩ := bd h
            refine jd_v 13 0 (by kernel_rfl) (fun w h => h.pick [0, 1, 3, 4] (by kernel_rfl) (by kernel_rfl)) (by kernel_rfl) (by kernel_rfl) _ (fun w hm => idx_run (a := (some ⟨b_2, 0, none⟩)) (len := 96) (s := 1) (j := i_8) (by kernel_rfl) (ix_some hx_154).1 (ltn hx_154 a_7.2) rfl) ?_
            refine toD 14 (by kernel_rfl) (p_str 0 2 b_2 58 encU32 a_7.1 [] i_8 (bOr .u32 (bAnd .u32 x_11 (u32 (t_3 - 1))) (bClr .u32 (bShr .u32 x_12 1) (u32 (t_3 - 1)))) 1 0 [(.int .u32 (bOr .u32 (bAnd .u32 x_11 (u32 (t_3 - 1))) (bClr .u32 (bShr .u32 x_12 1) (u32 (t_3 - 1)))))] (by kernel_rfl) (by kernel_rfl) (by kernel_rfl) encU32_len hx_154 (by kernel_rfl) (by kernel_rfl) (jkD (fun w h => h.pick [0, 1, 3, 4] (by kernel_rfl) (by kernel_rfl)) ?_))
            refine jd_end (by kernel_rfl) ?_
            refine jx_inn ?_
            refine jx_then ?_
            refine jc_region ?_
            refine jo_f [(0, 0), (0, 0), (0, 0)] (by kernel_rfl) ?_
            refine jo_end (by kernel_rfl) ?_
            exact jx_back ((Arr.set a_7 i_8 (bOr .u32 (bAnd .u32 x_11 (u32 (t_3 - 1))) (bClr .u32 (bShr .u32 x_12 1) (u32 (t_3 - 1))))), (w64 (i_8 + 1))) () (Option.some.inj h).symm trivial [0, 1, 2, 3, 4] (by kernel_rfl) (by kernel_rfl) (by kernel_rfl)
          · refine p_ld 0 (aB (some ⟨b_2, 0, none⟩)) (aO (some ⟨b_2, 0, none⟩) + i_8.toNat * 1) false (encU32 x_12) (by kernel_rfl) (by kernel_rfl) (by kernel_rfl) (fun w hm => ((hm.ownRow (hh := 2) (o := (some b_2)) (T := 58) (enc := encU32) (xs := a_7.1) (sp := []) (by kernel_rfl) (fun e => nomatch e) encU32_len).at hx_153)) (jkD (fun w h => h.pick [0, 1, 3, 4] (by kernel_rfl) (by kernel_rfl)) ?_)
            refine jd_f [⟨9, 0, 0⟩, ⟨11, 0, 0⟩] 5 (by kernel_rfl) (by kernel_rfl) (fun w h => h.pick [0, 1, 3, 4] (by kernel_rfl) (by kernel_rfl)) (by kernel_rfl) (by kernel_rfl) ?_
            refine toD 3 (by kernel_rfl) (p_ld 0 (aB (some ⟨b_2, 0, none⟩)) (aO (some ⟨b_2, 0, none⟩) + i_8.toNat * 1) false (encU32 x_11) (by kernel_rfl) (by kernel_rfl) (by kernel_rfl) (fun w hm => ((hm.ownRow (hh := 2) (o := (some b_2)) (T := 58) (enc := encU32) (xs := a_7.1) (sp := []) (by kernel_rfl) (fun e => nomatch e) encU32_len).at hx_152)) (jkD (fun w h => h.pick [0, 1, 3, 4] (by kernel_rfl) (by kernel_rfl)) ?_))
            refine jd_f [⟨5, 0, 0⟩, ⟨12, 0, 0⟩] 2 (by kernel_rfl) (by kernel_rfl) (fun w h => h.pick [0, 1, 3, 4] (by kernel_rfl) (by kernel_rfl)) (by kernel_rfl) (by kernel_rfl) ?_
            obtain ⟨x_13, hx_155, h⟩ := bd h
            refine jd_v 13 0 (by kernel_rfl) (fun w h => h.pick [0, 1, 3, 4] (by kernel_rfl) (by kernel_rfl)) (by kernel_rfl) (by kernel_rfl) _ (fun w hm => idx_run (a := (some ⟨b_2, 0, none⟩)) (len := 96) (s := 1) (j := i_8) (by kernel_rfl) (ix_some hx_155).1 (ltn hx_155 a_7.2) rfl) ?_
            refine toD 14 (by kernel_rfl) (p_str 0 2 b_2 58 encU32 a_7.1 [] i_8 (bOr .u32 (bAnd .u32 x_11 (u32 (t_3 - 1))) (bClr .u32 (bShr .u32 x_12 1) (u32 (t_3 - 1)))) 1 0 [(.int .u32 (bOr .u32 (bAnd .u32 x_11 (u32 (t_3 - 1))) (bClr .u32 (bShr .u32 x_12 1) (u32 (t_3 - 1)))))] (by kernel_rfl) (by kernel_rfl) (by kernel_rfl) encU32_len hx_155 (by kernel_rfl) (by kernel_rfl) (jkD (fun w h => h.pick [0, 1, 3, 4] (by kernel_rfl) (by kernel_rfl)) ?_))
            refine jd_end (by kernel_rfl) ?_
            refine jx_inn ?_
            refine jx_then ?_
            refine jc_region ?_
            refine jo_f [(0, 0), (0, 0), (0, 0)] (by kernel_rfl) ?_
            refine jo_end (by kernel_rfl) ?_
            exact jx_back ((Arr.set a_7 i_8 (bOr .u32 (bAnd .u32 x_11 (u32 (t_3 - 1))) (bClr .u32 (bShr .u32 x_12 1) (u32 (t_3 - 1))))), (w64 (i_8 + 1))) () (Option.some.inj h).symm trivial [0, 1, 2, 3, 4] (by kernel_rfl) (by kernel_rfl) (by kernel_rfl)
        · replace h := ifF hc_148 h
          refine jc_exit ?_
          refine jx_thenx ?_
          refine jx_leave a_7 (Option.some.inj h).symm (fun e_156 => ?_)
          subst e_156
          refine jx_ine ?_
          exact jx_meet a_7 hr_145 (by kernel_rfl) [0, 1, 2, 3, 4] (by kernel_rfl) (by kernel_rfl)
      · rintro a_4 h
        replace h : spec_WithoutTrack.k_5 f0 track2 a_4 = some r := h
        rw [spec_WithoutTrack.k_5] at h
        refine jx_then ?_
        refine jc_seq ?_
        refine jc_draw [⟨f0_fHammers_o, 176, row encGHammer f0.fHammers f0_fHammers_sp⟩, ⟨some b_1, 35, [(.int .i16 f0.fSteps), (.slice (f0_fHammers_o.map fun b => ⟨b, 0, none⟩) f0.fHammers.length f0_fHammers_c)]⟩, ⟨(some b_2), 58, row encU32 a_4.1 []⟩] 6 (by kernel_rfl) (by kernel_rfl) ?_
        refine jd_f [⟨0, 0, 0⟩] 5 (by kernel_rfl) (by kernel_rfl) (fun w h => h.pick [0, 1, 2] (by kernel_rfl) (by kernel_rfl)) (by kernel_rfl) (by kernel_rfl) ?_
        refine jd_v 2 0 (by kernel_rfl) (fun w h => h.pick [0, 1, 2] (by kernel_rfl) (by kernel_rfl)) (by kernel_rfl) (by kernel_rfl) _ (fun w hm => ld_run (b := b_2) (off := 0) (s := 96) (agg := true) (vs := row encU32 a_4.1 []) (by kernel_rfl) ((row_len encU32_len a_4).trans rfl) (.inl rfl) (hm.all (hh := 2) (T := 58) (by kernel_rfl))) ?_
        obtain ⟨t_6, ht_121, h⟩ := bd h
        refine toD 1 (by kernel_rfl) (p_call 0 91 #[(.pointer (some ⟨b_1, 0, none⟩)), (.int .i64 track2)] (by kernel_rfl) (by kernel_rfl) (fun w hm => spec_l03Less.calls f0 track2 w _ b_1 f0_fHammers_o f0.fHammers.length f0_fHammers_c f0_fHammers_sp rfl f0_fHammers_hs f0_fHammers_ho (hm.pass (N := [⟨some b_1, 35, [(.int .i16 f0.fSteps), (.slice (f0_fHammers_o.map fun b => ⟨b, 0, none⟩) f0.fHammers.length f0_fHammers_c)]⟩, ⟨f0_fHammers_o, 176, row encGHammer f0.fHammers f0_fHammers_sp⟩]) [1, 0] (by kernel_rfl) (by kernel_rfl)) ht_121) ?_)
        rintro w v w' hm ⟨o_122, cap_123, sp_124, _, rfl, hs_125, ho_126, rfl, hm'⟩
        refine ⟨_, hm.appW (ps := [(1, ⟨some b_1, 35, [(.int .i16 f0.fSteps), (.slice (f0_fHammers_o.map fun b => ⟨b, 0, none⟩) f0.fHammers.length f0_fHammers_c)]⟩), (0, ⟨f0_fHammers_o, 176, row encGHammer f0.fHammers f0_fHammers_sp⟩)]) (N := [⟨o_122, 176, row encGHammer t_6.fHammers sp_124⟩]) hm' (by kernel_rfl) (by kernel_rfl), jkD (fun w h => h.pick [0, 1, 2] (by kernel_rfl) (by kernel_rfl)) ?_⟩
        clear hm hm'
        refine toD 3 (by kernel_rfl) (p_s 0 [3] (by kernel_rfl) (by kernel_rfl) (jkD (fun w h => h.pick [0, 1, 2] (by kernel_rfl) (by kernel_rfl)) ?_))
        refine toD 4 (by kernel_rfl) (p_sA 0 4 b_4 96 1 58 encU32 (Arr.rep 96 0) a_4 (by kernel_rfl) (by kernel_rfl) (by kernel_rfl) encU32_len encU32_cell (by kernel_rfl) (jkD (fun w h => h.pick [0, 1, 2] (by kernel_rfl) (by kernel_rfl)) ?_))
        refine jd_f [⟨5, 0, 0⟩] 0 (by kernel_rfl) (by kernel_rfl) (fun w h => h.pick [0, 1, 2] (by kernel_rfl) (by kernel_rfl)) (by kernel_rfl) (by kernel_rfl) ?_
        refine jd_end (by kernel_rfl) ?_
        refine jx_then ?_
        refine jc_ret ?_
        obtain rfl := Option.some.inj h
        exact jx_retV rfl (rq_cell (v := (.agg #[(.int .i16 t_6.fSteps), (.slice (o_122.map fun b => ⟨b, 0, none⟩) t_6.fHammers.length cap_123)])) [3] [(b_3, b_3), (b_3, b_3)] (by kernel_rfl) (by kernel_rfl) (rq_arr (b := b_4) (T' := 58) (hh := 4) (mm := 1) encU32 a_4 (by kernel_rfl) (by kernel_rfl) encU32_len (by kernel_rfl) (rq_tmp (by kernel_rfl) rq_nil))) (fun w hm => ⟨o_122, cap_123, sp_124, t_6.fHammers.length, rfl, hs_125, ho_126, rfl, hm.pick [0, 5] (by kernel_rfl) (by kernel_rfl)⟩)

/-! ### impl.placeCode -/
noncomputable def impl_placeCode (f0 : GFrame) (d1 : Arr 96 Int) (step2 : Int) (track3 : Int) : Option (Int) := (impl_drumCode f0 [d1]).bind fun t_1 => (impl_Frame_isPlace f0 step2 track3).bind fun t_2 => (impl_unless t_2 2).bind fun t_3 => (impl_firstOf [t_1, t_3]).bind fun t_4 => some t_4
set_option maxRecDepth 100000 in
theorem impl_placeCode.calls (f0 : GFrame) (d1 : Arr 96 Int) (step2 : Int) (track3 : Int) (w : World) (r : Int) (f0_fHammers_a : Option Addr) (f0_fHammers_an : Nat) (f0_fHammers_c : Nat) (f0_fHammers_h : Rw w f0_fHammers_a 2 encGHammer f0.fHammers) (f0_fHammers_hn : f0.fHammers.length = f0_fHammers_an) (h : impl_placeCode f0 d1 step2 track3 = some r) :
    Calls Try.prog 92 #[(.agg #[(.int .i16 f0.fSteps), (.slice f0_fHammers_a f0_fHammers_an f0_fHammers_c)]), (.agg (row encU32 d1.1 []).toArray), (.int .i64 step2), (.int .i64 track3)] w fun e w' => ∃ v, e = .returned v ∧ (v = (.int .i64 r) ∧ Mem w [] [] w') := by
  subst f0_fHammers_hn
  rw [impl_placeCode] at h
  refine enter (args := [(.agg #[(.int .i16 f0.fSteps), (.slice f0_fHammers_a f0.fHammers.length f0_fHammers_c)]), (.agg (row encU32 d1.1 []).toArray), (.int .i64 step2), (.int .i64 track3)]) Try.func92 rfl Try.ntmps92 (by kernel_rfl) (L := []) (W := []) (Mem.start w) ?_
  refine jc_seq ?_
  refine jc_region ?_
  refine toO (by kernel_rfl) (p_a 0 [0] (by kernel_rfl) (fun b => by kernel_rfl) (fun b_1 => jkO ?_))
  refine toO (by kernel_rfl) (p_a 0 [0] (by kernel_rfl) (fun b => by kernel_rfl) (fun b_2 => jkO ?_))
  refine jo_f [(0, 0)] (by kernel_rfl) ?_
  refine jo_end (by kernel_rfl) ?_
  refine jx_then ?_
  refine jc_seq ?_
  refine jc_draw [⟨some b_1, 35, [(.int .i16 f0.fSteps), (.slice f0_fHammers_a f0.fHammers.length f0_fHammers_c)]⟩, ⟨(some b_2), 58, row encU32 d1.1 []⟩] 12 (by kernel_rfl) (by kernel_rfl) ?_
  refine jd_f [⟨0, 0, 0⟩, ⟨4, 0, 0⟩, ⟨5, 0, 0⟩, ⟨6, 0, 0⟩] 8 (by kernel_rfl) (by kernel_rfl) (fun w h => h.pick [0, 1] (by kernel_rfl) (by kernel_rfl)) (by kernel_rfl) (by kernel_rfl) ?_
  refine jd_v 1 0 (by kernel_rfl) (fun w h => h.pick [0, 1] (by kernel_rfl) (by kernel_rfl)) (by kernel_rfl) (by kernel_rfl) _ (fun w hm => ld_run (b := b_2) (off := 0) (s := 96) (agg := true) (vs := row encU32 d1.1 []) (by kernel_rfl) ((row_len encU32_len d1).trans rfl) (.inl rfl) (hm.all (hh := 1) (T := 58) (by kernel_rfl))) ?_
  refine toD 2 (by kernel_rfl) (p_bs 0 58 96 1 encA96U32 [(.agg (row encU32 d1.1 []).toArray)] [d1] (by kernel_rfl) (by kernel_rfl) rfl (by kernel_rfl) (by kernel_rfl) encA96U32_len (fun b_3 => jkD (fun w h => h.pick [0, 1] (by kernel_rfl) (by kernel_rfl)) ?_))
  obtain ⟨t_1, ht_4, h⟩ := bd h
  refine toD 3 (by kernel_rfl) (p_call 0 98 #[(.agg #[(.int .i16 f0.fSteps), (.slice f0_fHammers_a f0.fHammers.length f0_fHammers_c)]), (.slice (some ⟨b_3, 0, none⟩) 1 1)] (by kernel_rfl) (by kernel_rfl) (fun w hm => impl_drumCode.calls f0 [d1] w _ f0_fHammers_a f0.fHammers.length f0_fHammers_c (hm.exRow f0_fHammers_h List.not_mem_nil) rfl (some ⟨b_3, 0, none⟩) 1 1 (hm.ownRow (hh := 2) (o := (some b_3)) (T := 58) (enc := encA96U32) (xs := [d1]) (sp := []) (by kernel_rfl) (fun e => nomatch e) encA96U32_len) rfl ht_4) ?_)
  rintro w v w' hm ⟨rfl, hm'⟩
  refine ⟨_, hm.app hm', jkD (fun w h => h.pick [0, 1] (by kernel_rfl) (by kernel_rfl)) ?_⟩
  clear hm hm'
  obtain ⟨t_2, ht_5, h⟩ := bd h
  refine toD 7 (by kernel_rfl) (p_call 0 86 #[(.agg #[(.int .i16 f0.fSteps), (.slice f0_fHammers_a f0.fHammers.length f0_fHammers_c)]), (.int .i64 step2), (.int .i64 track3)] (by kernel_rfl) (by kernel_rfl) (fun w hm => impl_Frame_isPlace.calls f0 step2 track3 w _ f0_fHammers_a f0.fHammers.length f0_fHammers_c (hm.exRow f0_fHammers_h List.not_mem_nil) rfl ht_5) ?_)
  rintro w v w' hm ⟨rfl, hm'⟩
  refine ⟨_, hm.app hm', jkD (fun w h => h.pick [0, 1] (by kernel_rfl) (by kernel_rfl)) ?_⟩
  clear hm hm'
  obtain ⟨t_3, ht_6, h⟩ := bd h
  refine toD 8 (by kernel_rfl) (p_call 0 108 #[(.bool t_2), (.int .i64 2)] (by kernel_rfl) (by kernel_rfl) (fun w hm => impl_unless.calls t_2 2 w _ ht_6) ?_)
  rintro w v w' hm ⟨rfl, hm'⟩
  refine ⟨_, hm.app hm', jkD (fun w h => h.pick [0, 1] (by kernel_rfl) (by kernel_rfl)) ?_⟩
  clear hm hm'
  refine toD 9 (by kernel_rfl) (p_a 0 [0] (by kernel_rfl) (fun b => by kernel_rfl) (fun b_7 => jkD (fun w h => h.pick [0, 1] (by kernel_rfl) (by kernel_rfl)) ?_))
  obtain ⟨t_4, ht_8, h⟩ := bd h
  refine toD 10 (by kernel_rfl) (p_call 0 106 #[(.slice (some ⟨b_7, 0, none⟩) 2 2)] (by kernel_rfl) (by kernel_rfl) (fun w hm => impl_firstOf.calls [t_1, t_3] w _ (some ⟨b_7, 0, none⟩) 2 2 (hm.ownRow (hh := 3) (o := (some b_7)) (T := 2) (enc := encI64) (xs := [t_1, t_3]) (sp := []) (by kernel_rfl) (fun e => nomatch e) encI64_len) rfl ht_8) ?_)
  rintro w v w' hm ⟨rfl, hm'⟩
  refine ⟨_, hm.app hm', jkD (fun w h => h.pick [0, 1] (by kernel_rfl) (by kernel_rfl)) ?_⟩
  clear hm hm'
  refine jd_f [⟨11, 0, 0⟩] 0 (by kernel_rfl) (by kernel_rfl) (fun w h => h.pick [0, 1] (by kernel_rfl) (by kernel_rfl)) (by kernel_rfl) (by kernel_rfl) ?_
  refine jd_end (by kernel_rfl) ?_
  refine jx_then ?_
  refine jc_ret ?_
  obtain rfl := Option.some.inj h
  exact jx_ret [] (.int .i64 t_4) [] rfl (by kernel_rfl) (by kernel_rfl) (fun w hm => ⟨rfl, hm.pick [] (by kernel_rfl) (by kernel_rfl)⟩)

/-! ### slices.Clone[[]impl.Hammer,impl.Hammer] -/
noncomputable def slices_Clone_Hammer (s0 : List GHammer) : Option ((List GHammer)) := (if ([] : List GHammer).length + s0.length ≤ 4294967296 then some (([] : List GHammer) ++ s0) else none)
set_option maxRecDepth 100000 in
theorem slices_Clone_Hammer.calls (s0 : List GHammer) (w : World) (r : (List GHammer)) (s0_a : Option Addr) (s0_an : Nat) (s0_c : Nat) (s0_h : Rw w s0_a 2 encGHammer s0) (s0_hn : s0.length = s0_an) (h : slices_Clone_Hammer s0 = some r) :
    Calls Try.prog 148 #[(.slice s0_a s0_an s0_c)] w fun e w' => ∃ v, e = .returned v ∧ (∃ (o0 : Option Nat) (c0 : Nat) (s0 : List Value) (n0 : Nat), r.length = n0 ∧ (o0 ≠ none → n0 ≤ c0 ∧ s0.length = (c0 - n0) * 2) ∧ (o0 = none → r = [] ∧ c0 = 0) ∧ v = .slice (o0.map fun b => ⟨b, 0, none⟩) n0 c0 ∧ Mem w [] [⟨o0, 176, row encGHammer r s0⟩] w') := by
  subst s0_hn
  rw [slices_Clone_Hammer] at h
  refine enter (args := [(.slice s0_a s0.length s0_c)]) Try.func148 rfl Try.ntmps148 (by kernel_rfl) (L := []) (W := []) (Mem.start w) ?_
  refine jc_seq ?_
  refine jc_region ?_
  refine jo_f [(0, 0)] (by kernel_rfl) ?_
  refine jo_end (by kernel_rfl) ?_
  refine jx_then ?_
  refine jc_seq ?_
  refine jc_seq ?_
  refine jc_region ?_
  refine jo_f [(0, 0)] (by kernel_rfl) ?_
  by_cases hn_4 : s0_a = none
  · have hx0 : s0 = [] := (nil_of s0_h hn_4)
    replace h : some [] = some r := by simpa [hx0] using h
    refine toO (by kernel_rfl) (p_nil 0 s0_a true true (by kernel_rfl) (by kernel_rfl) (by rw [hn_4]; rfl) (jkO ?_))
    refine jo_end (by kernel_rfl) ?_
    refine jx_then ?_
    refine jc_cond true (by kernel_rfl) (fun hc_5 => ?_) (fun hc_5 => nomatch hc_5)
    refine jc_seq ?_
    refine jc_region ?_
    refine jo_f [(0, 0)] (by kernel_rfl) ?_
    refine jo_end (by kernel_rfl) ?_
    refine jx_then ?_
    refine jc_ret ?_
    refine jx_thenr ?_
    obtain rfl := Option.some.inj h
    refine jx_ghost 176 encGHammer ?_
    exact jx_ret [] (.slice none 0 0) [] rfl (by kernel_rfl) (by kernel_rfl) (fun w hm => ⟨none, 0, [], 0, rfl, (fun e => absurd rfl e), (fun _ => ⟨rfl, rfl⟩), rfl, hm.pick [0] (by kernel_rfl) (by kernel_rfl)⟩)
  · refine toO (by kernel_rfl) (p_nil 0 s0_a true false (by kernel_rfl) (by kernel_rfl) (by rw [Option.isNone_eq_false_iff.2 (Option.ne_none_iff_isSome.1 hn_4)]; rfl) (jkO ?_))
    refine jo_end (by kernel_rfl) ?_
    refine jx_then ?_
    refine jc_cond false (by kernel_rfl) (fun hc_6 => nomatch hc_6) (fun hc_6 => ?_)
    refine jc_skip ?_
    refine jx_then ?_
    refine jc_seq ?_
    refine jc_region ?_
    refine toO (by kernel_rfl) (p_a 0 [0] (by kernel_rfl) (fun b => by kernel_rfl) (fun b_7 => jkO ?_))
    refine jo_f [(0, 0)] (by kernel_rfl) ?_
    obtain ⟨hg_8, h⟩ := gd h
    refine toO (by kernel_rfl) (p_apn 0 0 (some b_7) 176 0 s0.length 0 2 2 s0_a encGHammer ([] : List GHammer) s0 [] (.agg #[(.int .i8 0), (.int .i8 0)]) rfl rfl (by kernel_rfl) (by kernel_rfl) (by kernel_rfl) encGHammer_len encGHammer_cell (fun _ => ⟨Nat.le_refl _, by simp⟩) (fun e => nomatch e) (fun w hm => (hm.exRow s0_h List.not_mem_nil)) hg_8 (by kernel_rfl) (by kernel_rfl) (fun o_9 cap_10 sp_11 hs_12 ho_13 => jkO ?_))
    refine jo_f [(0, 0)] (by kernel_rfl) ?_
    refine jo_end (by kernel_rfl) ?_
    refine jx_then ?_
    refine jc_ret ?_
    obtain rfl := Option.some.inj h
    exact jx_ret [] (.slice (o_9.map fun b => ⟨b, 0, none⟩) ((([] : List GHammer) ++ s0).length) cap_10) [] rfl (by kernel_rfl) (by kernel_rfl) (fun w hm => ⟨o_9, cap_10, sp_11, ((([] : List GHammer) ++ s0).length), rfl, hs_12, ho_13, rfl, hm.pick [0] (by kernel_rfl) (by kernel_rfl)⟩)

/-! ### slices.Delete[[]impl.Hammer,impl.Hammer] -/
noncomputable def slices_Delete_Hammer (s0 : List GHammer) (i1 : Int) (j2 : Int) : Option ((List GHammer)) := (if 0 ≤ i1 ∧ i1 ≤ j2 ∧ j2 ≤ (s0.length : Int) ∧ (s0.length : Int) ≤ (s0.length : Int) then (if (i1 == j2) = true then some s0 else (if 0 ≤ i1 ∧ i1 ≤ (s0.length : Int) then (if 0 ≤ j2 ∧ j2 ≤ (s0.length : Int) then (if i1.toNat + (s0.drop j2.toNat).length ≤ s0.length then some (s0.take i1.toNat ++ (s0.drop j2.toNat)) else none) else none) else none)) else none)
set_option maxRecDepth 100000 in
theorem slices_Delete_Hammer.calls (s0 : List GHammer) (i1 : Int) (j2 : Int) (w : World) (r : (List GHammer)) (s0_o : Option Nat) (s0_on : Nat) (s0_c : Nat) (s0_sp : List Value) (s0_hn : s0.length = s0_on) (s0_hs : s0_o ≠ none → s0_on ≤ s0_c ∧ s0_sp.length = (s0_c - s0_on) * 2) (s0_ho : s0_o = none → s0 = [] ∧ s0_c = 0) (hm0 : Mem w (bs [s0_o]) [⟨s0_o, 176, row encGHammer s0 s0_sp⟩] w) (h : slices_Delete_Hammer s0 i1 j2 = some r) :
    Calls Try.prog 147 #[(.slice (s0_o.map fun b => ⟨b, 0, none⟩) s0_on s0_c), (.int .i64 i1), (.int .i64 j2)] w fun e w' => ∃ v, e = .returned v ∧ (∃ (o0 : Option Nat) (c0 : Nat) (s0 : List Value) (n0 : Nat), r.length = n0 ∧ (o0 ≠ none → n0 ≤ c0 ∧ s0.length = (c0 - n0) * 2) ∧ (o0 = none → r = [] ∧ c0 = 0) ∧ v = .slice (o0.map fun b => ⟨b, 0, none⟩) n0 c0 ∧ Mem w (bs [s0_o]) [⟨o0, 176, row encGHammer r s0⟩] w') := by
  subst s0_hn
  rw [slices_Delete_Hammer] at h
  refine enter (args := [(.slice (s0_o.map fun b => ⟨b, 0, none⟩) s0.length s0_c), (.int .i64 i1), (.int .i64 j2)]) Try.func147 rfl Try.ntmps147 (by kernel_rfl) (L := [⟨s0_o, 176, row encGHammer s0 s0_sp⟩]) (W := bs [s0_o]) hm0 ?_
  refine jc_seq ?_
  refine jc_region ?_
  refine jo_f [(0, 0)] (by kernel_rfl) ?_
  refine jo_end (by kernel_rfl) ?_
  refine jx_then ?_
  refine jc_seq ?_
  refine jc_region ?_
  refine jo_f [(0, 0), (0, 0), (0, 0), (0, 0), (0, 0)] (by kernel_rfl) ?_
  obtain ⟨hg_1, h⟩ := gd h
  refine toO (by kernel_rfl) (p_slM 0 (s0_o.map fun b => ⟨b, 0, none⟩) s0.length s0_c 2 i1 j2 (s0.length : Int) (by kernel_rfl) (by kernel_rfl) hg_1.1 hg_1.2.1 hg_1.2.2.1 (Int.le_trans hg_1.2.2.2 (Int.ofNat_le.2 (cap_le rfl s0_hs s0_ho))) (jkO ?_))
  refine jo_end (by kernel_rfl) ?_
  refine jx_then ?_
  refine jc_seq ?_
  refine jc_seq ?_
  refine jc_region ?_
  refine jo_f [(0, 0), (0, 0), (0, 0)] (by kernel_rfl) ?_
  refine jo_end (by kernel_rfl) ?_
  refine jx_then ?_
  refine jc_cond (i1 == j2) (by kernel_rfl) (fun hc_3 => ?_) (fun hc_3 => ?_)
  · replace h := ifT hc_3 h
    refine jc_seq ?_
    refine jc_region ?_
    refine jo_f [(0, 0), (0, 0)] (by kernel_rfl) ?_
    refine jo_end (by kernel_rfl) ?_
    refine jx_then ?_
    refine jc_ret ?_
    refine jx_thenr ?_
    obtain rfl := Option.some.inj h
    exact jx_ret [] (.slice (s0_o.map fun b => ⟨b, 0, none⟩) s0.length s0_c) [] rfl (by kernel_rfl) (by kernel_rfl) (fun w hm => ⟨s0_o, s0_c, s0_sp, s0.length, rfl, s0_hs, s0_ho, rfl, hm.pick [0] (by kernel_rfl) (by kernel_rfl)⟩)
  · replace h := ifF hc_3 h
    refine jc_skip ?_
    refine jx_then ?_
    refine jc_seq ?_
    refine jc_region ?_
    refine jo_f [(0, 0), (0, 0), (0, 0)] (by kernel_rfl) ?_
    refine jo_end (by kernel_rfl) ?_
    refine jx_then ?_
    refine jc_seq ?_
    refine jc_draw [] 8 (by kernel_rfl) (by kernel_rfl) ?_
    refine jd_f [⟨0, 0, 0⟩, ⟨1, 0, 0⟩, ⟨3, 0, 0⟩, ⟨4, 0, 0⟩] 4 (by kernel_rfl) (by kernel_rfl) (fun w h => h.pick [] (by kernel_rfl) (by kernel_rfl)) (by kernel_rfl) (by kernel_rfl) ?_
    obtain ⟨hg_6, h⟩ := gd h
    refine jd_v 2 0 (by kernel_rfl) (fun w h => h.pick [] (by kernel_rfl) (by kernel_rfl)) (by kernel_rfl) (by kernel_rfl) _ (fun w hm => slH_run (a := (s0_o.map fun b => ⟨b, 0, none⟩)) (len := s0.length) (cap := s0_c) (size := 2) (h := i1) (by kernel_rfl) hg_6.1 (Int.le_trans hg_6.2 (Int.ofNat_le.2 (cap_le rfl s0_hs s0_ho)))) ?_
    obtain ⟨hg_7, h⟩ := gd h
    refine jd_v 5 0 (by kernel_rfl) (fun w h => h.pick [] (by kernel_rfl) (by kernel_rfl)) (by kernel_rfl) (by kernel_rfl) _ (fun w hm => slL_run (a := (s0_o.map fun b => ⟨b, 0, none⟩)) (len := s0.length) (cap := s0_c) (size := 2) (l := j2) (by kernel_rfl) hg_7.1 (Int.le_trans hg_7.2 (Int.ofNat_le.2 (Nat.le_of_eq rfl)))) ?_
    obtain ⟨hg_8, h⟩ := gd h
    refine toD 6 (by kernel_rfl) (p_apN 0 0 s0_o 176 i1.toNat s0.length (s0.length - j2.toNat) s0_c 2 2 (pa (s0_o.map fun b => ⟨b, 0, none⟩) j2.toNat s0_c 2) encGHammer s0 (s0.drop j2.toNat) s0_sp hg_8 rfl (tl_len rfl j2) (by kernel_rfl) (by kernel_rfl) (by kernel_rfl) encGHammer_len encGHammer_cell s0_hs s0_ho (fun w hm => ((hm.ownRow (hh := 0) (o := s0_o) (T := 176) (enc := encGHammer) (xs := s0) (sp := s0_sp) (by kernel_rfl) (fun e => (s0_ho e).1) encGHammer_len).tl j2.toNat s0_c (cap_le rfl s0_hs s0_ho))) (fun sp_11 hs_12 ho_13 => jkD (fun w h => h.pick [] (by kernel_rfl) (by kernel_rfl)) ?_))
    refine jd_f [⟨7, 0, 0⟩] 0 (by kernel_rfl) (by kernel_rfl) (fun w h => h.pick [] (by kernel_rfl) (by kernel_rfl)) (by kernel_rfl) (by kernel_rfl) ?_
    refine jd_end (by kernel_rfl) ?_
    refine jx_then ?_
    refine jc_seq ?_
    refine jc_region ?_
    refine jo_f [(0, 0), (0, 0), (0, 0), (0, 0)] (by kernel_rfl) ?_
    refine toO (by kernel_rfl) (p_slLH 0 (s0_o.map fun b => ⟨b, 0, none⟩) ((s0.take i1.toNat ++ (s0.drop j2.toNat)).length) s0_c 2 (((s0.take i1.toNat ++ (s0.drop j2.toNat)).length) : Int) (s0.length : Int) (by kernel_rfl) (by kernel_rfl) (by omega) (Int.ofNat_le.2 (Nat.le_trans (apn_le hg_8) (Nat.le_of_eq rfl))) (Int.ofNat_le.2 (show s0.length ≤ s0_c by have := (cap_le rfl s0_hs s0_ho); have : s0.length = s0.length := rfl; omega)) (jkO ?_))
    refine toO (by kernel_rfl) (p_clr 0 0 s0_o 176 ((((s0.take i1.toNat ++ (s0.drop j2.toNat)).length) : Int).toNat) ((s0.take i1.toNat ++ (s0.drop j2.toNat)).length) ((s0.length : Int).toNat - (((s0.take i1.toNat ++ (s0.drop j2.toNat)).length) : Int).toNat) s0_c 2 [(.int .i8 0), (.int .i8 0)] encGHammer (s0.take i1.toNat ++ (s0.drop j2.toNat)) sp_11 rfl (by omega) (by kernel_rfl) (by kernel_rfl) (by kernel_rfl) encGHammer_len (by kernel_rfl) hs_12 ho_13 (by have := (show s0.length ≤ s0_c by have := (cap_le rfl s0_hs s0_ho); have : s0.length = s0.length := rfl; omega); have := (Nat.le_trans (apn_le hg_8) (Nat.le_of_eq rfl)); omega) (fun sp_15 hl_16 => jkO ?_))
    refine jo_end (by kernel_rfl) ?_
    refine jx_then ?_
    refine jc_seq ?_
    refine jc_region ?_
    refine jo_f [(0, 0), (0, 0)] (by kernel_rfl) ?_
    refine jo_end (by kernel_rfl) ?_
    refine jx_then ?_
    refine jc_ret ?_
    obtain rfl := Option.some.inj h
    exact jx_ret [] (.slice (s0_o.map fun b => ⟨b, 0, none⟩) ((s0.take i1.toNat ++ (s0.drop j2.toNat)).length) s0_c) [] rfl (by kernel_rfl) (by kernel_rfl) (fun w hm => ⟨s0_o, s0_c, sp_15, ((s0.take i1.toNat ++ (s0.drop j2.toNat)).length), rfl, (fun e => ⟨(hs_12 e).1, hl_16.trans (hs_12 e).2⟩), ho_13, rfl, hm.pick [0] (by kernel_rfl) (by kernel_rfl)⟩)

/-! ### (impl.Frame).without -/
noncomputable def impl_Frame_without (f0 : GFrame) (track1 : Int) : Option (GFrame) := (slices_Clone_Hammer f0.fHammers).bind fun t_1 => (slices_Delete_Hammer t_1 track1 (w64 (track1 + 1))).bind fun t_2 => some (⟨f0.fSteps, t_2⟩ : GFrame)
set_option maxRecDepth 100000 in
theorem impl_Frame_without.calls (f0 : GFrame) (track1 : Int) (w : World) (r : GFrame) (f0_fHammers_a : Option Addr) (f0_fHammers_an : Nat) (f0_fHammers_c : Nat) (f0_fHammers_h : Rw w f0_fHammers_a 2 encGHammer f0.fHammers) (f0_fHammers_hn : f0.fHammers.length = f0_fHammers_an) (h : impl_Frame_without f0 track1 = some r) :
    Calls Try.prog 94 #[(.agg #[(.int .i16 f0.fSteps), (.slice f0_fHammers_a f0_fHammers_an f0_fHammers_c)]), (.int .i64 track1)] w fun e w' => ∃ v, e = .returned v ∧ (∃ (o0 : Option Nat) (c0 : Nat) (s0 : List Value) (n0 : Nat), r.fHammers.length = n0 ∧ (o0 ≠ none → n0 ≤ c0 ∧ s0.length = (c0 - n0) * 2) ∧ (o0 = none → r.fHammers = [] ∧ c0 = 0) ∧ v = .agg #[(.int .i16 r.fSteps), .slice (o0.map fun b => ⟨b, 0, none⟩) n0 c0] ∧ Mem w [] [⟨o0, 176, row encGHammer r.fHammers s0⟩] w') := by
  subst f0_fHammers_hn
  rw [impl_Frame_without] at h
  refine enter (args := [(.agg #[(.int .i16 f0.fSteps), (.slice f0_fHammers_a f0.fHammers.length f0_fHammers_c)]), (.int .i64 track1)]) Try.func94 rfl Try.ntmps94 (by kernel_rfl) (L := []) (W := []) (Mem.start w) ?_
  refine jc_seq ?_
  refine jc_region ?_
  refine toO (by kernel_rfl) (p_a 0 [0] (by kernel_rfl) (fun b => by kernel_rfl) (fun b_1 => jkO ?_))
  refine toO (by kernel_rfl) (p_a 0 [0] (by kernel_rfl) (fun b => by kernel_rfl) (fun b_2 => jkO ?_))
  refine jo_end (by kernel_rfl) ?_
  refine jx_then ?_
  refine jc_seq ?_
  refine jc_draw [⟨some b_1, 35, [(.int .i16 f0.fSteps), (.slice f0_fHammers_a f0.fHammers.length f0_fHammers_c)]⟩] 11 (by kernel_rfl) (by kernel_rfl) ?_
  refine jd_f [⟨0, 0, 0⟩, ⟨1, 0, 0⟩, ⟨2, 0, 0⟩, ⟨3, 0, 0⟩, ⟨5, 0, 0⟩, ⟨6, 0, 0⟩, ⟨7, 0, 0⟩] 4 (by kernel_rfl) (by kernel_rfl) (fun w h => h.pick [0] (by kernel_rfl) (by kernel_rfl)) (by kernel_rfl) (by kernel_rfl) ?_
  obtain ⟨t_1, ht_15, h⟩ := bd h
  refine toD 4 (by kernel_rfl) (p_call 0 148 #[(.slice f0_fHammers_a f0.fHammers.length f0_fHammers_c)] (by kernel_rfl) (by kernel_rfl) (fun w hm => slices_Clone_Hammer.calls f0.fHammers w _ f0_fHammers_a f0.fHammers.length f0_fHammers_c (hm.exRow f0_fHammers_h List.not_mem_nil) rfl ht_15) ?_)
  rintro w v w' hm ⟨o_16, cap_17, sp_18, _, rfl, hs_19, ho_20, rfl, hm'⟩
  refine ⟨_, hm.app hm', jkD (fun w h => h.pick [0] (by kernel_rfl) (by kernel_rfl)) ?_⟩
  clear hm hm'
  obtain ⟨t_2, ht_21, h⟩ := bd h
  refine toD 8 (by kernel_rfl) (p_call 0 147 #[(.slice (o_16.map fun b => ⟨b, 0, none⟩) t_1.length cap_17), (.int .i64 track1), (.int .i64 (w64 (track1 + 1)))] (by kernel_rfl) (by kernel_rfl) (fun w hm => slices_Delete_Hammer.calls t_1 track1 (w64 (track1 + 1)) w _ o_16 t_1.length cap_17 sp_18 rfl hs_19 ho_20 (hm.pass (N := [⟨o_16, 176, row encGHammer t_1 sp_18⟩]) [2] (by kernel_rfl) (by kernel_rfl)) ht_21) ?_)
  rintro w v w' hm ⟨o_22, cap_23, sp_24, _, rfl, hs_25, ho_26, rfl, hm'⟩
  refine ⟨_, hm.appP (ps := []) (ds := [2]) (N := [⟨o_22, 176, row encGHammer t_2 sp_24⟩]) hm' [0] (by kernel_rfl) (by kernel_rfl) (by kernel_rfl), jkD (fun w h => h.pick [0] (by kernel_rfl) (by kernel_rfl)) ?_⟩
  clear hm hm'
  refine jd_f [⟨9, 0, 0⟩] 1 (by kernel_rfl) (by kernel_rfl) (fun w h => h.pick [0] (by kernel_rfl) (by kernel_rfl)) (by kernel_rfl) (by kernel_rfl) ?_
  refine toD 10 (by kernel_rfl) (p_s 0 [1] (by kernel_rfl) (by kernel_rfl) (jkD (fun w h => h.pick [0] (by kernel_rfl) (by kernel_rfl)) ?_))
  refine jd_end (by kernel_rfl) ?_
  refine jx_then ?_
  refine jc_ret ?_
  obtain rfl := Option.some.inj h
  exact jx_ret [1] (.agg #[(.int .i16 f0.fSteps), (.slice (o_22.map fun b => ⟨b, 0, none⟩) t_2.length cap_23)]) [(b_2, b_2), (b_2, b_2)] rfl (by kernel_rfl) (by kernel_rfl) (fun w hm => ⟨o_22, cap_23, sp_24, t_2.length, rfl, hs_25, ho_26, rfl, hm.pick [3] (by kernel_rfl) (by kernel_rfl)⟩)

/-! ### impl.WithoutTrack -/
noncomputable def impl_WithoutTrack.k_5 (f0 : GFrame) (track2 : Int) (a_4 : Arr 96 Int) : Option (GFrame × (Arr 96 Int) × Int) := (impl_Frame_without f0 track2).bind fun t_6 => some (t_6, a_4, 0)
noncomputable def impl_WithoutTrack.l_9 (d1 : Arr 96 Int) (track2 : Int) : ((Arr 96 Int) × Int) → Option (((Arr 96 Int) × Int) ⊕ ((Arr 96 Int)))
  | (a_7, i_8) => (if (decide (i_8 < 96)) = true then (ix d1.1 i_8).bind fun x_11 => (if 0 ≤ track2 then (ix a_7.1 i_8).bind fun x_12 => some (.inl ((Arr.set a_7 i_8 (bOr .u32 (bAnd .u32 x_11 (u32 ((bShl .u32 1 track2) - 1))) (bShr .u32 (bClr .u32 x_11 (bAnd .u32 x_11 (u32 ((bShl .u32 1 track2) - 1)))) 1))), (w64 (i_8 + 1)))) else none) else some (.inr a_7))
noncomputable def impl_WithoutTrack.k_3 (f0 : GFrame) (d1 : Arr 96 Int) (track2 : Int) (q_2 : Bool) : Option (GFrame × (Arr 96 Int) × Int) := (if q_2 = true then some ((⟨0, []⟩ : GFrame), (Arr.rep 96 0), 4) else (loop (impl_WithoutTrack.l_9 d1 track2) (d1, 0)).bind fun t_10 => impl_WithoutTrack.k_5 f0 track2 t_10)
noncomputable def impl_WithoutTrack (f0 : GFrame) (d1 : Arr 96 Int) (track2 : Int) : Option (GFrame × (Arr 96 Int) × Int) := (impl_placeCode f0 d1 0 track2).bind fun t_1 => (if (t_1 != 0) = true then some ((⟨0, []⟩ : GFrame), (Arr.rep 96 0), t_1) else (if ((f0.fHammers.length : Int) == 1) = true then impl_WithoutTrack.k_3 f0 d1 track2 true else (impl_Frame_byTrack f0 d1).bind fun t_13 => (ix t_13 track2).bind fun x_14 => impl_WithoutTrack.k_3 f0 d1 track2 (decide (x_14 > 0))))
set_option maxRecDepth 100000 in
theorem impl_WithoutTrack.calls (f0 : GFrame) (d1 : Arr 96 Int) (track2 : Int) (w : World) (r : GFrame × (Arr 96 Int) × Int) (f0_fHammers_a : Option Addr) (f0_fHammers_an : Nat) (f0_fHammers_c : Nat) (f0_fHammers_h : Rw w f0_fHammers_a 2 encGHammer f0.fHammers) (f0_fHammers_hn : f0.fHammers.length = f0_fHammers_an) (h : impl_WithoutTrack f0 d1 track2 = some r) :
    Calls Try.prog 32 #[(.agg #[(.int .i16 f0.fSteps), (.slice f0_fHammers_a f0_fHammers_an f0_fHammers_c)]), (.agg (row encU32 d1.1 []).toArray), (.int .i64 track2)] w fun e w' => ∃ v, e = .returned v ∧ (∃ (o0 : Option Nat) (c0 : Nat) (s0 : List Value) (n0 : Nat), r.1.fHammers.length = n0 ∧ (o0 ≠ none → n0 ≤ c0 ∧ s0.length = (c0 - n0) * 2) ∧ (o0 = none → r.1.fHammers = [] ∧ c0 = 0) ∧ v = .tuple #[.agg #[(.int .i16 r.1.fSteps), .slice (o0.map fun b => ⟨b, 0, none⟩) n0 c0], (.agg (row encU32 r.2.1.1 []).toArray), (.int .i64 r.2.2)] ∧ Mem w [] [⟨o0, 176, row encGHammer r.1.fHammers s0⟩] w') := by
  subst f0_fHammers_hn
  rw [impl_WithoutTrack] at h
  refine enter (args := [(.agg #[(.int .i16 f0.fSteps), (.slice f0_fHammers_a f0.fHammers.length f0_fHammers_c)]), (.agg (row encU32 d1.1 []).toArray), (.int .i64 track2)]) Try.func32 rfl Try.ntmps32 (by kernel_rfl) (L := []) (W := []) (Mem.start w) ?_
  refine jc_seq ?_
  refine jc_region ?_
  refine toO (by kernel_rfl) (p_a 0 [0] (by kernel_rfl) (fun b => by kernel_rfl) (fun b_1 => jkO ?_))
  refine toO (by kernel_rfl) (p_a 0 [0] (by kernel_rfl) (fun b => by kernel_rfl) (fun b_2 => jkO ?_))
  refine toO (by kernel_rfl) (p_a 0 [0] (by kernel_rfl) (fun b => by kernel_rfl) (fun b_3 => jkO ?_))
  refine toO (by kernel_rfl) (p_a 0 [0] (by kernel_rfl) (fun b => by kernel_rfl) (fun b_4 => jkO ?_))
  refine jo_f [(0, 0)] (by kernel_rfl) ?_
  refine jo_end (by kernel_rfl) ?_
  refine jx_then ?_
  refine jc_seq ?_
  refine jc_seq ?_
  refine jc_region ?_
  refine jo_f [(0, 0)] (by kernel_rfl) ?_
  refine toO (by kernel_rfl) (p_ldA 0 1 b_2 96 1 58 encU32 d1 (by kernel_rfl) (by kernel_rfl) (by kernel_rfl) encU32_len (by kernel_rfl) (jkO ?_))
  refine jo_f [(0, 0)] (by kernel_rfl) ?_
  obtain ⟨t_1, ht_7, h⟩ := bd h
  refine toO (by kernel_rfl) (p_call 0 92 #[(.agg #[(.int .i16 f0.fSteps), (.slice f0_fHammers_a f0.fHammers.length f0_fHammers_c)]), (.agg (row encU32 d1.1 []).toArray), (.int .i64 0), (.int .i64 track2)] (by kernel_rfl) (by kernel_rfl) (fun w hm => impl_placeCode.calls f0 d1 0 track2 w _ f0_fHammers_a f0.fHammers.length f0_fHammers_c (hm.exRow f0_fHammers_h List.not_mem_nil) rfl ht_7) ?_)
  rintro w v w' hm ⟨rfl, hm'⟩
  refine ⟨_, hm.app hm', jkO ?_⟩
  clear hm hm'
  refine jo_f [(0, 0)] (by kernel_rfl) ?_
  refine jo_end (by kernel_rfl) ?_
  refine jx_then ?_
  refine jc_seq ?_
  refine jc_region ?_
  refine jo_f [(0, 0), (0, 0)] (by kernel_rfl) ?_
  refine jo_end (by kernel_rfl) ?_
  refine jx_then ?_
  refine jc_cond (t_1 != 0) (by kernel_rfl) (fun hc_8 => ?_) (fun hc_8 => ?_)
  · replace h := ifT hc_8 h
    refine jc_seq ?_
    refine jc_region ?_
    refine jo_f [(0, 0), (0, 0), (0, 0)] (by kernel_rfl) ?_
    refine toO (by kernel_rfl) (p_s 0 [2] (by kernel_rfl) (by kernel_rfl) (jkO ?_))
    refine toO (by kernel_rfl) (p_sA 0 3 b_4 96 1 58 encU32 (Arr.rep 96 0) (Arr.rep 96 0) (by kernel_rfl) (by kernel_rfl) (by kernel_rfl) encU32_len encU32_cell (by kernel_rfl) (jkO ?_))
    refine jo_f [(0, 0)] (by kernel_rfl) ?_
    refine jo_end (by kernel_rfl) ?_
    refine jx_then ?_
    refine jc_ret ?_
    refine jx_thenr ?_
    obtain rfl := Option.some.inj h
    refine jx_ghost 176 encGHammer ?_
    exact jx_retV rfl (rq_cell (v := (.agg #[(.int .i16 0), (.slice none 0 0)])) [2] [(b_3, b_3), (b_3, b_3)] (by kernel_rfl) (by kernel_rfl) (rq_arr (b := b_4) (T' := 58) (hh := 3) (mm := 1) encU32 (Arr.rep 96 0) (by kernel_rfl) (by kernel_rfl) encU32_len (by kernel_rfl) (rq_tmp (by kernel_rfl) rq_nil))) (fun w hm => ⟨none, 0, [], 0, rfl, (fun e => absurd rfl e), (fun _ => ⟨rfl, rfl⟩), rfl, hm.pick [4] (by kernel_rfl) (by kernel_rfl)⟩)
  · replace h := ifF hc_8 h
    refine jc_skip ?_
    refine jx_then ?_
    refine jc_seq ?_
    refine jc_seq ?_
    refine jc_meet (fun (j : Bool) => match j with | q_2 => impl_WithoutTrack.k_3 f0 d1 track2 q_2 = some r) (fun (j : Bool) => match j with | q_2 => [(2, [], (.int .i64 track2)), (3, [], (.pointer (some ⟨b_1, 0, none⟩))), (4, [], (.pointer (some ⟨b_2, 0, none⟩))), (6, [], (.pointer (some ⟨b_3, 0, none⟩))), (7, [], (.pointer (some ⟨b_4, 0, none⟩))), (8, [], (.int .i64 0)), (34, [], (.bool q_2))]) (fun (j : Bool) => match j with | q_2 => [⟨some b_1, 35, [(.int .i16 f0.fSteps), (.slice f0_fHammers_a f0.fHammers.length f0_fHammers_c)]⟩, ⟨(some b_2), 58, row encU32 d1.1 []⟩, ⟨some b_3, 35, [(.int .i16 0), (.slice none 0 0)]⟩, ⟨(some b_4), 58, row encU32 ((Arr.rep 96 0).1) []⟩]) ?_ ?_
    · refine jc_region ?_
      refine jo_f [(0, 0), (0, 0), (0, 0), (0, 0), (0, 0), (0, 1)] (by kernel_rfl) ?_
      refine jo_split 26 ((f0.fHammers.length : Int) == 1) (by kernel_rfl) (fun hc_129 => ?_) (fun hc_129 => ?_)
      · replace h := ifT hc_129 h
        refine jo_f [(0, 3), (0, 3), (0, 3), (0, 3), (0, 3), (0, 3), (0, 4)] (by kernel_rfl) ?_
        refine jo_end (by kernel_rfl) ?_
        exact jx_meet true h (by kernel_rfl) [0, 1, 2, 3] (by kernel_rfl) (by kernel_rfl)
      · replace h := ifF hc_129 h
        refine toO (by kernel_rfl) (p_ldA 2 1 b_2 96 1 58 encU32 d1 (by kernel_rfl) (by kernel_rfl) (by kernel_rfl) encU32_len (by kernel_rfl) (jkO ?_))
        obtain ⟨t_13, ht_130, h⟩ := bd h
        refine toO (by kernel_rfl) (p_call 2 93 #[(.agg #[(.int .i16 f0.fSteps), (.slice f0_fHammers_a f0.fHammers.length f0_fHammers_c)]), (.agg (row encU32 d1.1 []).toArray)] (by kernel_rfl) (by kernel_rfl) (fun w hm => impl_Frame_byTrack.calls f0 d1 w _ f0_fHammers_a f0.fHammers.length f0_fHammers_c (hm.exRow f0_fHammers_h List.not_mem_nil) rfl ht_130) ?_)
        rintro w v w' hm ⟨o_131, cap_132, sp_133, _, rfl, hs_134, ho_135, rfl, hm'⟩
        refine ⟨_, hm.app hm', jkO ?_⟩
        clear hm hm'
        refine jo_f [(0, 2)] (by kernel_rfl) ?_
        obtain ⟨x_14, hx_136, h⟩ := bd h
        refine toO (by kernel_rfl) (p_idx 2 (o_131.map fun b => ⟨b, 0, none⟩) t_13.length track2 1 (by kernel_rfl) (by kernel_rfl) (ix_some hx_136).1 (ltn hx_136 rfl) (spo ho_135 hx_136) (jkO ?_))
        refine toO (by kernel_rfl) (p_ld 2 (aB (o_131.map fun b => ⟨b, 0, none⟩)) (aO (o_131.map fun b => ⟨b, 0, none⟩) + track2.toNat * 1) false (encI64 x_14) (by kernel_rfl) (by kernel_rfl) (by kernel_rfl) (fun w hm => ((hm.ownRow (hh := 4) (o := o_131) (T := 2) (enc := encI64) (xs := t_13) (sp := sp_133) (by kernel_rfl) (fun e => (ho_135 e).1) encI64_len).at hx_136)) (jkO ?_))
        refine jo_f [(0, 2), (0, 5)] (by kernel_rfl) ?_
        refine jo_end (by kernel_rfl) ?_
        exact jx_meet (decide (x_14 > 0)) h (by kernel_rfl) [0, 1, 2, 3] (by kernel_rfl) (by kernel_rfl)
    · rintro q_2 h
      replace h : impl_WithoutTrack.k_3 f0 d1 track2 q_2 = some r := h
      rw [impl_WithoutTrack.k_3] at h
      refine jx_then ?_
      refine jc_cond q_2 (by kernel_rfl) (fun hc_34 => ?_) (fun hc_34 => ?_)
      · replace h := ifT hc_34 h
        refine jc_seq ?_
        refine jc_region ?_
        refine jo_f [(0, 0), (0, 0)] (by kernel_rfl) ?_
        refine toO (by kernel_rfl) (p_s 0 [2] (by kernel_rfl) (by kernel_rfl) (jkO ?_))
        refine toO (by kernel_rfl) (p_sA 0 3 b_4 96 1 58 encU32 (Arr.rep 96 0) (Arr.rep 96 0) (by kernel_rfl) (by kernel_rfl) (by kernel_rfl) encU32_len encU32_cell (by kernel_rfl) (jkO ?_))
        refine jo_f [(0, 0)] (by kernel_rfl) ?_
        refine jo_end (by kernel_rfl) ?_
        refine jx_then ?_
        refine jc_ret ?_
        refine jx_thenr ?_
        obtain rfl := Option.some.inj h
        refine jx_ghost 176 encGHammer ?_
        exact jx_retV rfl (rq_cell (v := (.agg #[(.int .i16 0), (.slice none 0 0)])) [2] [(b_3, b_3), (b_3, b_3)] (by kernel_rfl) (by kernel_rfl) (rq_arr (b := b_4) (T' := 58) (hh := 3) (mm := 1) encU32 (Arr.rep 96 0) (by kernel_rfl) (by kernel_rfl) encU32_len (by kernel_rfl) (rq_tmp (by kernel_rfl) rq_nil))) (fun w hm => ⟨none, 0, [], 0, rfl, (fun e => absurd rfl e), (fun _ => ⟨rfl, rfl⟩), rfl, hm.pick [4] (by kernel_rfl) (by kernel_rfl)⟩)
      · replace h := ifF hc_34 h
        refine jc_skip ?_
        refine jx_then ?_
        refine jc_seq ?_
        refine jc_seq ?_
        refine jc_region ?_
        refine toO (by kernel_rfl) (p_ldA 0 1 b_2 96 1 58 encU32 d1 (by kernel_rfl) (by kernel_rfl) (by kernel_rfl) encU32_len (by kernel_rfl) (jkO ?_))
        refine jo_f [(0, 0)] (by kernel_rfl) ?_
        refine jo_end (by kernel_rfl) ?_
        refine jx_then ?_
        refine jc_meet (fun (j : (Arr 96 Int)) => match j with | a_4 => impl_WithoutTrack.k_5 f0 track2 a_4 = some r) (fun (j : (Arr 96 Int)) => match j with | a_4 => [(2, [], (.int .i64 track2)), (3, [], (.pointer (some ⟨b_1, 0, none⟩))), (4, [], (.pointer (some ⟨b_2, 0, none⟩))), (6, [], (.pointer (some ⟨b_3, 0, none⟩))), (7, [], (.pointer (some ⟨b_4, 0, none⟩))), (8, [], (.int .i64 0))]) (fun (j : (Arr 96 Int)) => match j with | a_4 => [⟨some b_1, 35, [(.int .i16 f0.fSteps), (.slice f0_fHammers_a f0.fHammers.length f0_fHammers_c)]⟩, ⟨(some b_2), 58, row encU32 a_4.1 []⟩, ⟨some b_3, 35, [(.int .i16 0), (.slice none 0 0)]⟩, ⟨(some b_4), 58, row encU32 ((Arr.rep 96 0).1) []⟩]) ?_ ?_
        · refine jc_block ?_
          obtain ⟨t_10, ht_128, hr_120⟩ := bd h
          refine jc_loop (fun (s : (Arr 96 Int) × Int) (x : Unit) => match s, x with | ⟨a_7, i_8⟩, _ => True) (fun (s : (Arr 96 Int) × Int) (x : Unit) => match s, x with | ⟨a_7, i_8⟩, _ => [(2, [], (.int .i64 track2)), (3, [], (.pointer (some ⟨b_1, 0, none⟩))), (4, [], (.pointer (some ⟨b_2, 0, none⟩))), (6, [], (.pointer (some ⟨b_3, 0, none⟩))), (7, [], (.pointer (some ⟨b_4, 0, none⟩))), (8, [], (.int .i64 0)), (37, [], (.agg (row encU32 d1.1 []).toArray)), (38, [], (.int .i64 i_8))]) (fun (s : (Arr 96 Int) × Int) (x : Unit) => match s, x with | ⟨a_7, i_8⟩, _ => [⟨some b_1, 35, [(.int .i16 f0.fSteps), (.slice f0_fHammers_a f0.fHammers.length f0_fHammers_c)]⟩, ⟨(some b_2), 58, row encU32 a_7.1 []⟩, ⟨some b_3, 35, [(.int .i16 0), (.slice none 0 0)]⟩, ⟨(some b_4), 58, row encU32 ((Arr.rep 96 0).1) []⟩]) ht_128 () trivial (by kernel_rfl) [0, 1, 2, 3] (by kernel_rfl) (by kernel_rfl) ?_
          rintro ⟨a_7, i_8⟩ _ y_121 _ h
          rw [impl_WithoutTrack.l_9] at h
          refine jc_seq ?_
          refine jc_region ?_
          refine jo_f [(0, 0)] (by kernel_rfl) ?_
          refine jo_end (by kernel_rfl) ?_
          refine jx_then ?_
          refine jc_seq ?_
          refine jc_cond (decide (i_8 < 96)) (by kernel_rfl) (fun hc_123 => ?_) (fun hc_123 => ?_)
          · replace h := ifT hc_123 h
            refine jc_skip ?_
            refine jx_then ?_
            refine jc_seq ?_
            refine jc_block ?_
            refine jc_seq ?_
            refine jc_region ?_
            refine jo_f [(0, 0)] (by kernel_rfl) ?_
            obtain ⟨x_11, hx_124, h⟩ := bd h
            refine toO (by kernel_rfl) (p_ixA 0 encU32 (fun x => (.int .u32 x)) d1 i_8 (by kernel_rfl) (by kernel_rfl) (fun _ => rfl) hx_124 (jkO ?_))
            refine jo_f [(0, 0), (0, 0)] (by kernel_rfl) ?_
            refine jo_end (by kernel_rfl) ?_
            refine jx_then ?_
            refine jc_seq ?_
            refine jc_region ?_
            refine jo_f [(0, 0), (0, 0)] (by kernel_rfl) ?_
            obtain ⟨hg_125, h⟩ := gd h
            refine toO (by kernel_rfl) (p_shl 0 .u32 1 .i64 track2 (by kernel_rfl) (by kernel_rfl) hg_125 (jkO ?_))
            refine jo_f [(0, 0), (0, 0), (0, 0)] (by kernel_rfl) ?_
            refine jo_end (by kernel_rfl) ?_
            refine jx_then ?_
            refine jc_region ?_
            refine jo_f [(0, 0), (0, 0), (0, 0), (0, 0), (0, 0), (0, 0), (0, 0)] (by kernel_rfl) ?_
            obtain ⟨x_12, hx_126, h⟩ := bd h
            refine toO (by kernel_rfl) (p_idx 0 (some ⟨b_2, 0, none⟩) 96 i_8 1 (by kernel_rfl) (by kernel_rfl) (ix_some hx_126).1 (ltn hx_126 a_7.2) rfl (jkO ?_))
            refine toO (by kernel_rfl) (p_str 0 1 b_2 58 encU32 a_7.1 [] i_8 (bOr .u32 (bAnd .u32 x_11 (u32 ((bShl .u32 1 track2) - 1))) (bShr .u32 (bClr .u32 x_11 (bAnd .u32 x_11 (u32 ((bShl .u32 1 track2) - 1)))) 1)) 1 0 [(.int .u32 (bOr .u32 (bAnd .u32 x_11 (u32 ((bShl .u32 1 track2) - 1))) (bShr .u32 (bClr .u32 x_11 (bAnd .u32 x_11 (u32 ((bShl .u32 1 track2) - 1)))) 1)))] (by kernel_rfl) (by kernel_rfl) (by kernel_rfl) encU32_len hx_126 (by kernel_rfl) (by kernel_rfl) (jkO ?_))
            refine jo_end (by kernel_rfl) ?_
            refine jx_inn ?_
            refine jx_then ?_
            refine jc_region ?_
            refine jo_f [(0, 0), (0, 0)] (by kernel_rfl) ?_
            refine jo_end (by kernel_rfl) ?_
            exact jx_back ((Arr.set a_7 i_8 (bOr .u32 (bAnd .u32 x_11 (u32 ((bShl .u32 1 track2) - 1))) (bShr .u32 (bClr .u32 x_11 (bAnd .u32 x_11 (u32 ((bShl .u32 1 track2) - 1)))) 1))), (w64 (i_8 + 1))) () (Option.some.inj h).symm trivial [0, 1, 2, 3] (by kernel_rfl) (by kernel_rfl) (by kernel_rfl)
          · replace h := ifF hc_123 h
            refine jc_exit ?_
            refine jx_thenx ?_
            refine jx_leave a_7 (Option.some.inj h).symm (fun e_127 => ?_)
            subst e_127
            refine jx_ine ?_
            exact jx_meet a_7 hr_120 (by kernel_rfl) [0, 1, 2, 3] (by kernel_rfl) (by kernel_rfl)
        · rintro a_4 h
          replace h : impl_WithoutTrack.k_5 f0 track2 a_4 = some r := h
          rw [impl_WithoutTrack.k_5] at h
          refine jx_then ?_
          refine jc_seq ?_
          refine jc_draw [⟨some b_1, 35, [(.int .i16 f0.fSteps), (.slice f0_fHammers_a f0.fHammers.length f0_fHammers_c)]⟩, ⟨(some b_2), 58, row encU32 a_4.1 []⟩] 7 (by kernel_rfl) (by kernel_rfl) ?_
          refine jd_f [⟨0, 0, 0⟩, ⟨1, 0, 0⟩] 5 (by kernel_rfl) (by kernel_rfl) (fun w h => h.pick [0, 1] (by kernel_rfl) (by kernel_rfl)) (by kernel_rfl) (by kernel_rfl) ?_
          refine jd_v 3 0 (by kernel_rfl) (fun w h => h.pick [0, 1] (by kernel_rfl) (by kernel_rfl)) (by kernel_rfl) (by kernel_rfl) _ (fun w hm => ld_run (b := b_2) (off := 0) (s := 96) (agg := true) (vs := row encU32 a_4.1 []) (by kernel_rfl) ((row_len encU32_len a_4).trans rfl) (.inl rfl) (hm.all (hh := 1) (T := 58) (by kernel_rfl))) ?_
          obtain ⟨t_6, ht_104, h⟩ := bd h
          refine toD 2 (by kernel_rfl) (p_call 0 94 #[(.agg #[(.int .i16 f0.fSteps), (.slice f0_fHammers_a f0.fHammers.length f0_fHammers_c)]), (.int .i64 track2)] (by kernel_rfl) (by kernel_rfl) (fun w hm => impl_Frame_without.calls f0 track2 w _ f0_fHammers_a f0.fHammers.length f0_fHammers_c (hm.exRow f0_fHammers_h List.not_mem_nil) rfl ht_104) ?_)
          rintro w v w' hm ⟨o_105, cap_106, sp_107, _, rfl, hs_108, ho_109, rfl, hm'⟩
          refine ⟨_, hm.app hm', jkD (fun w h => h.pick [0, 1] (by kernel_rfl) (by kernel_rfl)) ?_⟩
          clear hm hm'
          refine toD 4 (by kernel_rfl) (p_s 0 [2] (by kernel_rfl) (by kernel_rfl) (jkD (fun w h => h.pick [0, 1] (by kernel_rfl) (by kernel_rfl)) ?_))
          refine toD 5 (by kernel_rfl) (p_sA 0 3 b_4 96 1 58 encU32 (Arr.rep 96 0) a_4 (by kernel_rfl) (by kernel_rfl) (by kernel_rfl) encU32_len encU32_cell (by kernel_rfl) (jkD (fun w h => h.pick [0, 1] (by kernel_rfl) (by kernel_rfl)) ?_))
          refine jd_f [⟨6, 0, 0⟩] 0 (by kernel_rfl) (by kernel_rfl) (fun w h => h.pick [0, 1] (by kernel_rfl) (by kernel_rfl)) (by kernel_rfl) (by kernel_rfl) ?_
          refine jd_end (by kernel_rfl) ?_
          refine jx_then ?_
          refine jc_ret ?_
          obtain rfl := Option.some.inj h
          exact jx_retV rfl (rq_cell (v := (.agg #[(.int .i16 t_6.fSteps), (.slice (o_105.map fun b => ⟨b, 0, none⟩) t_6.fHammers.length cap_106)])) [2] [(b_3, b_3), (b_3, b_3)] (by kernel_rfl) (by kernel_rfl) (rq_arr (b := b_4) (T' := 58) (hh := 3) (mm := 1) encU32 a_4 (by kernel_rfl) (by kernel_rfl) encU32_len (by kernel_rfl) (rq_tmp (by kernel_rfl) rq_nil))) (fun w hm => ⟨o_105, cap_106, sp_107, t_6.fHammers.length, rfl, hs_108, ho_109, rfl, hm.pick [4] (by kernel_rfl) (by kernel_rfl)⟩)

/-! ### laws.heldHammerS -/
noncomputable def laws_heldHammerS.k_2 (i_1 : Int) : Option (Int) := some i_1
noncomputable def laws_heldHammerS.l_5 (a0 : List GHammer) : (Int × Int) → Option ((Int × Int) ⊕ (Int ⊕ Int))
  | (i_3, i_4) => (if (decide (i_4 < (a0.length : Int))) = true then (ix a0 i_4).bind fun x_7 => (if (x_7.fPitch != (w8 i_3)) = true then some (.inr (.inl (-1))) else (ix a0 i_4).bind fun x_8 => (if (x_8.fReady != (w8 (w64 (i_3 + 1)))) = true then some (.inr (.inl (-1))) else some (.inl ((w64 ((w64 (i_3 + 1)) + 1)), (w64 (i_4 + 1)))))) else some (.inr (.inr i_3)))
noncomputable def laws_heldHammerS (a0 : List GHammer) (k1 : Int) : Option (Int) := (loop (laws_heldHammerS.l_5 a0) (k1, 0)).bind fun t_6 => match t_6 with | .inl p => some p | .inr p => laws_heldHammerS.k_2 p
set_option maxRecDepth 100000 in
theorem laws_heldHammerS.calls (a0 : List GHammer) (k1 : Int) (w : World) (r : Int) (a0_a : Option Addr) (a0_an : Nat) (a0_c : Nat) (a0_h : Rw w a0_a 2 encGHammer a0) (a0_hn : a0.length = a0_an) (h : laws_heldHammerS a0 k1 = some r) :
    Calls Try.prog 95 #[(.slice a0_a a0_an a0_c), (.int .i64 k1)] w fun e w' => ∃ v, e = .returned v ∧ (v = (.int .i64 r) ∧ Mem w [] [] w') := by
  subst a0_hn
  rw [laws_heldHammerS] at h
  refine enter (args := [(.slice a0_a a0.length a0_c), (.int .i64 k1)]) Try.func95 rfl Try.ntmps95 (by kernel_rfl) (L := []) (W := []) (Mem.start w) ?_
  refine jc_seq ?_
  refine jc_region ?_
  refine jo_f [(0, 0)] (by kernel_rfl) ?_
  refine jo_end (by kernel_rfl) ?_
  refine jx_then ?_
  refine jc_seq ?_
  refine jc_seq ?_
  refine jc_region ?_
  refine jo_f [(0, 0)] (by kernel_rfl) ?_
  refine jo_end (by kernel_rfl) ?_
  refine jx_then ?_
  refine jc_meet (fun (j : Int) => match j with | i_1 => laws_heldHammerS.k_2 i_1 = some r) (fun (j : Int) => match j with | i_1 => [(1, [], (.int .i64 i_1)), (4, [], (.int .i64 0))]) (fun (j : Int) => match j with | i_1 => []) ?_ ?_
  · refine jc_block ?_
    obtain ⟨t_6, ht_120, hr_107⟩ := bd h
    refine jc_loop (fun (s : Int × Int) (x : Unit) => match s, x with | ⟨i_3, i_4⟩, _ => True) (fun (s : Int × Int) (x : Unit) => match s, x with | ⟨i_3, i_4⟩, _ => [(0, [], (.slice a0_a a0.length a0_c)), (1, [], (.int .i64 i_3)), (4, [], (.int .i64 0)), (5, [], (.int .i64 i_4))]) (fun (s : Int × Int) (x : Unit) => match s, x with | ⟨i_3, i_4⟩, _ => []) ht_120 () trivial (by kernel_rfl) [] (by kernel_rfl) (by kernel_rfl) ?_
    rintro ⟨i_3, i_4⟩ _ y_108 _ h
    rw [laws_heldHammerS.l_5] at h
    refine jc_seq ?_
    refine jc_seq ?_
    refine jc_region ?_
    refine jo_f [(0, 0), (0, 0), (0, 0), (0, 0)] (by kernel_rfl) ?_
    refine jo_end (by kernel_rfl) ?_
    refine jx_then ?_
    refine jc_cond (decide (i_4 < (a0.length : Int))) (by kernel_rfl) (fun hc_110 => ?_) (fun hc_110 => ?_)
    · replace h := ifT hc_110 h
      refine jc_skip ?_
      refine jx_then ?_
      refine jc_seq ?_
      refine jc_block ?_
      refine jc_seq ?_
      refine jc_seq ?_
      refine jc_region ?_
      refine jo_f [(0, 0), (0, 0)] (by kernel_rfl) ?_
      obtain ⟨x_7, hx_113, h⟩ := bd h
      refine toO (by kernel_rfl) (p_idx 0 a0_a a0.length i_4 2 (by kernel_rfl) (by kernel_rfl) (ix_some hx_113).1 (ltn hx_113 rfl) (a0_h.sp hx_113) (jkO ?_))
      refine jo_f [(0, 0)] (by kernel_rfl) ?_
      refine toO (by kernel_rfl) (p_ld 0 (aB a0_a) (aO a0_a + i_4.toNat * 2) false (((encGHammer x_7).drop 0).take 1) (by kernel_rfl) (by kernel_rfl) (by kernel_rfl) (fun w hm => (((hm.exRow a0_h List.not_mem_nil).at hx_113).sub 0 1)) (jkO ?_))
      refine jo_f [(0, 0), (0, 0), (0, 0)] (by kernel_rfl) ?_
      refine jo_end (by kernel_rfl) ?_
      refine jx_then ?_
      refine jc_cond (x_7.fPitch != (w8 i_3)) (by kernel_rfl) (fun hc_114 => ?_) (fun hc_114 => ?_)
      · replace h := ifT hc_114 h
        refine jc_seq ?_
        refine jc_region ?_
        refine jo_f [(0, 0)] (by kernel_rfl) ?_
        refine jo_end (by kernel_rfl) ?_
        refine jx_then ?_
        refine jc_ret ?_
        refine jx_thenr ?_
        refine jx_inr ?_
        refine jx_thenr ?_
        refine jx_leaver (.inl (-1)) (Option.some.inj h).symm (fun e_115 => ?_)
        subst e_115
        refine jx_inr ?_
        refine jx_thenr ?_
        refine jx_thenr ?_
        obtain rfl := Option.some.inj hr_107
        exact jx_ret [] (.int .i64 (-1)) [] rfl (by kernel_rfl) (by kernel_rfl) (fun w hm => ⟨rfl, hm.pick [] (by kernel_rfl) (by kernel_rfl)⟩)
      · replace h := ifF hc_114 h
        refine jc_skip ?_
        refine jx_then ?_
        refine jc_seq ?_
        refine jc_region ?_
        refine jo_f [(0, 0), (0, 0), (0, 0)] (by kernel_rfl) ?_
        refine jo_end (by kernel_rfl) ?_
        refine jx_then ?_
        refine jc_seq ?_
        refine jc_seq ?_
        refine jc_region ?_
        refine jo_f [(0, 0), (0, 0)] (by kernel_rfl) ?_
        obtain ⟨x_8, hx_116, h⟩ := bd h
        refine toO (by kernel_rfl) (p_idx 0 a0_a a0.length i_4 2 (by kernel_rfl) (by kernel_rfl) (ix_some hx_116).1 (ltn hx_116 rfl) (a0_h.sp hx_116) (jkO ?_))
        refine jo_f [(0, 0)] (by kernel_rfl) ?_
        refine toO (by kernel_rfl) (p_ld 0 (aB a0_a) (aO a0_a + i_4.toNat * 2 + 1) false (((encGHammer x_8).drop 1).take 1) (by kernel_rfl) (by kernel_rfl) (by kernel_rfl) (fun w hm => (((hm.exRow a0_h List.not_mem_nil).at hx_116).sub 1 1)) (jkO ?_))
        refine jo_f [(0, 0), (0, 0), (0, 0)] (by kernel_rfl) ?_
        refine jo_end (by kernel_rfl) ?_
        refine jx_then ?_
        refine jc_cond (x_8.fReady != (w8 (w64 (i_3 + 1)))) (by kernel_rfl) (fun hc_117 => ?_) (fun hc_117 => ?_)
        · replace h := ifT hc_117 h
          refine jc_seq ?_
          refine jc_region ?_
          refine jo_f [(0, 0)] (by kernel_rfl) ?_
          refine jo_end (by kernel_rfl) ?_
          refine jx_then ?_
          refine jc_ret ?_
          refine jx_thenr ?_
          refine jx_inr ?_
          refine jx_thenr ?_
          refine jx_leaver (.inl (-1)) (Option.some.inj h).symm (fun e_118 => ?_)
          subst e_118
          refine jx_inr ?_
          refine jx_thenr ?_
          refine jx_thenr ?_
          obtain rfl := Option.some.inj hr_107
          exact jx_ret [] (.int .i64 (-1)) [] rfl (by kernel_rfl) (by kernel_rfl) (fun w hm => ⟨rfl, hm.pick [] (by kernel_rfl) (by kernel_rfl)⟩)
        · replace h := ifF hc_117 h
          refine jc_skip ?_
          refine jx_then ?_
          refine jc_region ?_
          refine jo_f [(0, 0), (0, 0), (0, 0)] (by kernel_rfl) ?_
          refine jo_end (by kernel_rfl) ?_
          refine jx_inn ?_
          refine jx_then ?_
          refine jc_region ?_
          refine jo_f [(0, 0), (0, 0), (0, 0)] (by kernel_rfl) ?_
          refine jo_end (by kernel_rfl) ?_
          exact jx_back ((w64 ((w64 (i_3 + 1)) + 1)), (w64 (i_4 + 1))) () (Option.some.inj h).symm trivial [] (by kernel_rfl) (by kernel_rfl) (by kernel_rfl)
    · replace h := ifF hc_110 h
      refine jc_exit ?_
      refine jx_thenx ?_
      refine jx_leave (.inr i_3) (Option.some.inj h).symm (fun e_119 => ?_)
      subst e_119
      refine jx_ine ?_
      exact jx_meet i_3 hr_107 (by kernel_rfl) [] (by kernel_rfl) (by kernel_rfl)
  · rintro i_1 h
    replace h : laws_heldHammerS.k_2 i_1 = some r := h
    rw [laws_heldHammerS.k_2] at h
    refine jx_then ?_
    refine jc_seq ?_
    refine jc_region ?_
    refine jo_f [(0, 0), (0, 0)] (by kernel_rfl) ?_
    refine jo_end (by kernel_rfl) ?_
    refine jx_then ?_
    refine jc_ret ?_
    obtain rfl := Option.some.inj h
    exact jx_ret [] (.int .i64 i_1) [] rfl (by kernel_rfl) (by kernel_rfl) (fun w hm => ⟨rfl, hm.pick [] (by kernel_rfl) (by kernel_rfl)⟩)

/-! ### laws.heldFrame -/
noncomputable def laws_heldFrame (a0 : GFrame) (k1 : Int) : Option (Int) := (laws_heldHammerS a0.fHammers k1).bind fun t_1 => (if (decide (t_1 < 0)) = true then some (-1) else some t_1)
set_option maxRecDepth 100000 in
theorem laws_heldFrame.calls (a0 : GFrame) (k1 : Int) (w : World) (r : Int) (a0_fHammers_a : Option Addr) (a0_fHammers_an : Nat) (a0_fHammers_c : Nat) (a0_fHammers_h : Rw w a0_fHammers_a 2 encGHammer a0.fHammers) (a0_fHammers_hn : a0.fHammers.length = a0_fHammers_an) (h : laws_heldFrame a0 k1 = some r) :
    Calls Try.prog 34 #[(.agg #[(.int .i16 a0.fSteps), (.slice a0_fHammers_a a0_fHammers_an a0_fHammers_c)]), (.int .i64 k1)] w fun e w' => ∃ v, e = .returned v ∧ (v = (.int .i64 r) ∧ Mem w [] [] w') := by
  subst a0_fHammers_hn
  rw [laws_heldFrame] at h
  refine enter (args := [(.agg #[(.int .i16 a0.fSteps), (.slice a0_fHammers_a a0.fHammers.length a0_fHammers_c)]), (.int .i64 k1)]) Try.func34 rfl Try.ntmps34 (by kernel_rfl) (L := []) (W := []) (Mem.start w) ?_
  refine jc_seq ?_
  refine jc_region ?_
  refine toO (by kernel_rfl) (p_a 0 [0] (by kernel_rfl) (fun b => by kernel_rfl) (fun b_1 => jkO ?_))
  refine jo_f [(0, 0)] (by kernel_rfl) ?_
  refine jo_end (by kernel_rfl) ?_
  refine jx_then ?_
  refine jc_seq ?_
  refine jc_region ?_
  refine jo_f [(0, 0), (0, 0), (0, 0)] (by kernel_rfl) ?_
  obtain ⟨t_1, ht_2, h⟩ := bd h
  refine toO (by kernel_rfl) (p_call 0 95 #[(.slice a0_fHammers_a a0.fHammers.length a0_fHammers_c), (.int .i64 k1)] (by kernel_rfl) (by kernel_rfl) (fun w hm => laws_heldHammerS.calls a0.fHammers k1 w _ a0_fHammers_a a0.fHammers.length a0_fHammers_c (hm.exRow a0_fHammers_h List.not_mem_nil) rfl ht_2) ?_)
  rintro w v w' hm ⟨rfl, hm'⟩
  refine ⟨_, hm.app hm', jkO ?_⟩
  clear hm hm'
  refine jo_f [(0, 0)] (by kernel_rfl) ?_
  refine jo_end (by kernel_rfl) ?_
  refine jx_then ?_
  refine jc_seq ?_
  refine jc_seq ?_
  refine jc_region ?_
  refine jo_f [(0, 0), (0, 0)] (by kernel_rfl) ?_
  refine jo_end (by kernel_rfl) ?_
  refine jx_then ?_
  refine jc_cond (decide (t_1 < 0)) (by kernel_rfl) (fun hc_4 => ?_) (fun hc_4 => ?_)
  · replace h := ifT hc_4 h
    refine jc_seq ?_
    refine jc_region ?_
    refine jo_f [(0, 0)] (by kernel_rfl) ?_
    refine jo_end (by kernel_rfl) ?_
    refine jx_then ?_
    refine jc_ret ?_
    refine jx_thenr ?_
    obtain rfl := Option.some.inj h
    exact jx_ret [] (.int .i64 (-1)) [] rfl (by kernel_rfl) (by kernel_rfl) (fun w hm => ⟨rfl, hm.pick [] (by kernel_rfl) (by kernel_rfl)⟩)
  · replace h := ifF hc_4 h
    refine jc_skip ?_
    refine jx_then ?_
    refine jc_seq ?_
    refine jc_region ?_
    refine jo_f [(0, 0), (0, 0)] (by kernel_rfl) ?_
    refine jo_end (by kernel_rfl) ?_
    refine jx_then ?_
    refine jc_ret ?_
    obtain rfl := Option.some.inj h
    exact jx_ret [] (.int .i64 t_1) [] rfl (by kernel_rfl) (by kernel_rfl) (fun w hm => ⟨rfl, hm.pick [] (by kernel_rfl) (by kernel_rfl)⟩)
end Go.Proofs.Ytdnkjgmncfhejaa
