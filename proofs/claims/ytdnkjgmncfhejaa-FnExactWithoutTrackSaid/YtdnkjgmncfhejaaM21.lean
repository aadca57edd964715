/- Functions of the program that the laws reach: a plain function each, and that the call comes to its answer if the plain function has one. Printed by a program. -/
import Derived.Test.YtdnkjgmncfhejaaT
import Derived.Test.YtdnkjgmncfhejaaM0
import Derived.Test.YtdnkjgmncfhejaaM6
import Derived.Test.YtdnkjgmncfhejaaM16
import Derived.Test.YtdnkjgmncfhejaaM17
import Derived.Test.YtdnkjgmncfhejaaM20
namespace Go.Proofs.Ytdnkjgmncfhejaa
open Eng
set_option linter.unusedVariables false

/-! ### laws.FnExactWithoutTrack -/
noncomputable def laws_FnExactWithoutTrack.k_28 (i_8 : Int) (t_20 : Int × (List GHammer)) (q_27 : Bool) : Option (Bool) := (if q_27 = true then some false else (laws_heldFrame (⟨i_8, t_20.2⟩ : GFrame) 1).bind fun t_29 => (if (decide (t_29 < 0)) = true then some false else (if (t_29 != t_20.1) = true then some false else some true)))
noncomputable def laws_FnExactWithoutTrack.k_26 (i_2 : Int) (xs_3 : List GHammer) (a_4 : Arr 96 Int) (i_5 : Int) (i_8 : Int) (t_20 : Int × (List GHammer)) (i_22 : Int) (xs_23 : List GHammer) (a_24 : Arr 96 Int) (i_25 : Int) : Option (Bool) := (laws_eqFrame (⟨i_22, xs_23⟩ : GFrame) (⟨i_2, xs_3⟩ : GFrame)).bind fun t_30 => (if (!t_30) = true then laws_FnExactWithoutTrack.k_28 i_8 t_20 true else (laws_eqDrum a_24 a_4).bind fun t_31 => laws_FnExactWithoutTrack.k_28 i_8 t_20 ((!t_31) || (i_25 != i_5)))
noncomputable def laws_FnExactWithoutTrack.k_19 (aF0 : GFrame) (aD1 : Arr 96 Int) (aTrack2 : Int) (i_2 : Int) (xs_3 : List GHammer) (a_4 : Arr 96 Int) (i_5 : Int) (i_8 : Int) (xs_9 : List GHammer) (q_18 : Bool) : Option (Bool) := (if q_18 = true then some false else (laws_markFrame (⟨i_8, xs_9⟩ : GFrame) 1).bind fun t_20 => (laws_heldFrame (⟨i_8, t_20.2⟩ : GFrame) 1).bind fun t_21 => (if (decide (t_21 < 0)) = true then some false else (if (t_21 != t_20.1) = true then some false else (laws_toFrame aF0).bind fun t_32 => (laws_toDrum aD1).bind fun t_33 => (impl_WithoutTrack t_32 t_33 aTrack2).bind fun t_34 => laws_FnExactWithoutTrack.k_26 i_2 xs_3 a_4 i_5 i_8 t_20 t_34.1.fSteps t_34.1.fHammers t_34.2.1 t_34.2.2)))
noncomputable def laws_FnExactWithoutTrack.k_14 (aF0 : GFrame) (aD1 : Arr 96 Int) (aTrack2 : Int) (i_2 : Int) (xs_3 : List GHammer) (a_4 : Arr 96 Int) (i_5 : Int) (t_7 : GFrame) (i_8 : Int) (xs_9 : List GHammer) (a_10 : Arr 96 Int) (i_11 : Int) (q_13 : Bool) : Option (Bool) := (if q_13 = true then some false else (laws_toFrame aF0).bind fun t_15 => (laws_eqFrame t_7 t_15).bind fun t_16 => (if (!t_16) = true then some false else (laws_markFrame t_7 1).bind fun t_17 => (if (decide (t_17.1 < 0)) = true then laws_FnExactWithoutTrack.k_19 aF0 aD1 aTrack2 i_2 xs_3 a_4 i_5 i_8 xs_9 true else (laws_eqFrame (⟨i_8, xs_9⟩ : GFrame) (⟨i_2, xs_3⟩ : GFrame)).bind fun t_35 => (if (!t_35) = true then laws_FnExactWithoutTrack.k_19 aF0 aD1 aTrack2 i_2 xs_3 a_4 i_5 i_8 xs_9 true else (laws_eqDrum a_10 a_4).bind fun t_36 => laws_FnExactWithoutTrack.k_19 aF0 aD1 aTrack2 i_2 xs_3 a_4 i_5 i_8 xs_9 ((!t_36) || (i_11 != i_5))))))
noncomputable def laws_FnExactWithoutTrack.k_12 (aF0 : GFrame) (aD1 : Arr 96 Int) (aTrack2 : Int) (i_2 : Int) (xs_3 : List GHammer) (a_4 : Arr 96 Int) (i_5 : Int) (t_7 : GFrame) (i_8 : Int) (xs_9 : List GHammer) (a_10 : Arr 96 Int) (i_11 : Int) : Option (Bool) := (laws_eqFrame (⟨i_8, xs_9⟩ : GFrame) (⟨i_2, xs_3⟩ : GFrame)).bind fun t_37 => (if (!t_37) = true then laws_FnExactWithoutTrack.k_14 aF0 aD1 aTrack2 i_2 xs_3 a_4 i_5 t_7 i_8 xs_9 a_10 i_11 true else (laws_eqDrum a_10 a_4).bind fun t_38 => laws_FnExactWithoutTrack.k_14 aF0 aD1 aTrack2 i_2 xs_3 a_4 i_5 t_7 i_8 xs_9 a_10 i_11 ((!t_38) || (i_11 != i_5)))
noncomputable def laws_FnExactWithoutTrack.k_6 (aF0 : GFrame) (aD1 : Arr 96 Int) (aTrack2 : Int) (i_2 : Int) (xs_3 : List GHammer) (a_4 : Arr 96 Int) (i_5 : Int) : Option (Bool) := (laws_toFrame aF0).bind fun t_7 => (laws_toDrum aD1).bind fun t_39 => (impl_WithoutTrack t_7 t_39 aTrack2).bind fun t_40 => laws_FnExactWithoutTrack.k_12 aF0 aD1 aTrack2 i_2 xs_3 a_4 i_5 t_7 t_40.1.fSteps t_40.1.fHammers t_40.2.1 t_40.2.2
noncomputable def laws_FnExactWithoutTrack (aF0 : GFrame) (aD1 : Arr 96 Int) (aTrack2 : Int) : Option (Bool) := (laws_szFrame aF0 1048576).bind fun t_1 => (if (decide (t_1 < 0)) = true then some true else (laws_toFrame aF0).bind fun t_41 => (laws_toDrum aD1).bind fun t_42 => (spec_WithoutTrack t_41 t_42 aTrack2).bind fun t_43 => laws_FnExactWithoutTrack.k_6 aF0 aD1 aTrack2 t_43.1.fSteps t_43.1.fHammers t_43.2.1 t_43.2.2)
set_option maxRecDepth 100000 in
set_option maxHeartbeats 8000000 in
theorem laws_FnExactWithoutTrack.calls (aF0 : GFrame) (aD1 : Arr 96 Int) (aTrack2 : Int) (w : World) (r : Bool) (aF0_fHammers_a : Option Addr) (aF0_fHammers_an : Nat) (aF0_fHammers_c : Nat) (aF0_fHammers_h : Rw w aF0_fHammers_a 2 encGHammer aF0.fHammers) (aF0_fHammers_hn : aF0.fHammers.length = aF0_fHammers_an) (h : laws_FnExactWithoutTrack aF0 aD1 aTrack2 = some r) :
    Calls Try.prog 5 #[(.agg #[(.int .i16 aF0.fSteps), (.slice aF0_fHammers_a aF0_fHammers_an aF0_fHammers_c)]), (.agg (row encU32 aD1.1 []).toArray), (.int .i64 aTrack2)] w fun e w' => ∃ v, e = .returned v ∧ (v = (.bool r) ∧ Mem w [] [] w') := by
  subst aF0_fHammers_hn
  rw [laws_FnExactWithoutTrack] at h
  refine enter (args := [(.agg #[(.int .i16 aF0.fSteps), (.slice aF0_fHammers_a aF0.fHammers.length aF0_fHammers_c)]), (.agg (row encU32 aD1.1 []).toArray), (.int .i64 aTrack2)]) Try.func5 rfl Try.ntmps5 (by kernel_rfl) (L := []) (W := []) (Mem.start w) ?_
  refine jc_seq ?_
  refine jc_region ?_
  refine toO (by kernel_rfl) (p_a 0 [0] (by kernel_rfl) (fun b => by kernel_rfl) (fun b_1 => jkO ?_))
  refine toO (by kernel_rfl) (p_a 0 [0] (by kernel_rfl) (fun b => by kernel_rfl) (fun b_2 => jkO ?_))
  refine jo_f [(0, 0)] (by kernel_rfl) ?_
  refine jo_end (by kernel_rfl) ?_
  refine jx_then ?_
  refine jc_seq ?_
  refine jc_region ?_
  refine jo_f [(0, 0)] (by kernel_rfl) ?_
  refine jo_end (by kernel_rfl) ?_
  refine jx_then ?_
  refine jc_seq ?_
  refine jc_region ?_
  refine jo_f [(0, 0), (0, 0)] (by kernel_rfl) ?_
  obtain ⟨t_1, ht_3, h⟩ := bd h
  refine toO (by kernel_rfl) (p_call 0 15 #[(.agg #[(.int .i16 aF0.fSteps), (.slice aF0_fHammers_a aF0.fHammers.length aF0_fHammers_c)]), (.int .i64 1048576)] (by kernel_rfl) (by kernel_rfl) (fun w hm => laws_szFrame.calls aF0 1048576 w _ aF0_fHammers_a aF0.fHammers.length aF0_fHammers_c (hm.exRow aF0_fHammers_h List.not_mem_nil) rfl ht_3) ?_)
  rintro w v w' hm ⟨rfl, hm'⟩
  refine ⟨_, hm.app hm', jkO ?_⟩
  clear hm hm'
  refine jo_f [(0, 0)] (by kernel_rfl) ?_
  refine jo_end (by kernel_rfl) ?_
  refine jx_then ?_
  refine jc_seq ?_
  refine jc_seq ?_
  refine jc_region ?_
  refine jo_f [(0, 0), (0, 0)] (by kernel_rfl) ?_
  refine jo_end (by kernel_rfl) ?_
  refine jx_then ?_
  refine jc_cond (decide (t_1 < 0)) (by kernel_rfl) (fun hc_5 => ?_) (fun hc_5 => ?_)
  · replace h := ifT hc_5 h
    refine jc_seq ?_
    refine jc_region ?_
    refine jo_f [(0, 0)] (by kernel_rfl) ?_
    refine jo_end (by kernel_rfl) ?_
    refine jx_then ?_
    refine jc_ret ?_
    refine jx_thenr ?_
    obtain rfl := Option.some.inj h
    exact jx_ret [] (.bool true) [] rfl (by kernel_rfl) (by kernel_rfl) (fun w hm => ⟨rfl, hm.pick [] (by kernel_rfl) (by kernel_rfl)⟩)
  · replace h := ifF hc_5 h
    refine jc_skip ?_
    refine jx_then ?_
    refine jc_seq ?_
    refine jc_meet (fun (j : Int × (List GHammer) × (Arr 96 Int) × Int × Nat × (Option Nat) × Nat × (List Value) × Nat × Nat) => match j with | ⟨i_2, xs_3, a_4, i_5, b_189, o_190, cap_191, sp_192, n_193, b_196⟩ => laws_FnExactWithoutTrack.k_6 aF0 aD1 aTrack2 i_2 xs_3 a_4 i_5 = some r ∧ (xs_3.length = n_193) ∧ ((o_190 ≠ none → n_193 ≤ cap_191 ∧ sp_192.length = (cap_191 - n_193) * 2)) ∧ ((o_190 = none → xs_3 = [] ∧ cap_191 = 0))) (fun (j : Int × (List GHammer) × (Arr 96 Int) × Int × Nat × (Option Nat) × Nat × (List Value) × Nat × Nat) => match j with | ⟨i_2, xs_3, a_4, i_5, b_189, o_190, cap_191, sp_192, n_193, b_196⟩ => [(2, [], (.int .i64 aTrack2)), (3, [], (.pointer (some ⟨b_1, 0, none⟩))), (4, [], (.pointer (some ⟨b_2, 0, none⟩))), (6, [], (.bool false)), (8, [], (.pointer (some ⟨b_189, 0, none⟩))), (9, [], (.pointer (some ⟨b_196, 0, none⟩))), (10, [], (.int .i64 i_5))]) (fun (j : Int × (List GHammer) × (Arr 96 Int) × Int × Nat × (Option Nat) × Nat × (List Value) × Nat × Nat) => match j with | ⟨i_2, xs_3, a_4, i_5, b_189, o_190, cap_191, sp_192, n_193, b_196⟩ => [⟨some b_1, 25, [(.int .i16 aF0.fSteps), (.slice aF0_fHammers_a aF0.fHammers.length aF0_fHammers_c)]⟩, ⟨(some b_2), 57, row encU32 aD1.1 []⟩, ⟨some b_189, 35, [(.int .i16 i_2), (.slice (o_190.map fun b => ⟨b, 0, none⟩) n_193 cap_191)]⟩, ⟨o_190, 176, row encGHammer xs_3 sp_192⟩, ⟨(some b_196), 58, row encU32 a_4.1 []⟩]) ?_ ?_
    · refine jc_draw [⟨some b_1, 25, [(.int .i16 aF0.fSteps), (.slice aF0_fHammers_a aF0.fHammers.length aF0_fHammers_c)]⟩, ⟨(some b_2), 57, row encU32 aD1.1 []⟩] 15 (by kernel_rfl) (by kernel_rfl) ?_
      refine jd_f [⟨0, 0, 0⟩, ⟨4, 0, 0⟩] 13 (by kernel_rfl) (by kernel_rfl) (fun w h => h.pick [0, 1] (by kernel_rfl) (by kernel_rfl)) (by kernel_rfl) (by kernel_rfl) ?_
      refine jd_v 2 0 (by kernel_rfl) (fun w h => h.pick [0, 1] (by kernel_rfl) (by kernel_rfl)) (by kernel_rfl) (by kernel_rfl) _ (fun w hm => ld_run (b := b_2) (off := 0) (s := 96) (agg := true) (vs := row encU32 aD1.1 []) (by kernel_rfl) ((row_len encU32_len aD1).trans rfl) (.inl rfl) (hm.all (hh := 1) (T := 57) (by kernel_rfl))) ?_
      refine toD3 1 10 11 (by kernel_rfl) ?_ ?_ ?_
      · obtain ⟨t_41, ht_888, h⟩ := bd h
        refine p_call 0 17 #[(.agg #[(.int .i16 aF0.fSteps), (.slice aF0_fHammers_a aF0.fHammers.length aF0_fHammers_c)])] (by kernel_rfl) (by kernel_rfl) (fun w hm => laws_toFrame.calls aF0 w _ aF0_fHammers_a aF0.fHammers.length aF0_fHammers_c (hm.exRow aF0_fHammers_h List.not_mem_nil) rfl ht_888) ?_
        rintro w v w' hm ⟨o_889, cap_890, sp_891, _, rfl, hs_892, ho_893, rfl, hm'⟩
        refine ⟨_, hm.app hm', jkD (fun w h => h.pick [0, 1] (by kernel_rfl) (by kernel_rfl)) ?_⟩
        clear hm hm'
        refine toD3 3 10 11 (by kernel_rfl) ?_ ?_ ?_
        · obtain ⟨t_42, ht_894, h⟩ := bd h
          refine p_call 0 31 #[(.agg (row encU32 aD1.1 []).toArray)] (by kernel_rfl) (by kernel_rfl) (fun w hm => laws_toDrum.calls aD1 w _ ht_894) ?_
          rintro w v w' hm ⟨rfl, hm'⟩
          refine ⟨_, hm.app hm', jkD (fun w h => h.pick [0, 1] (by kernel_rfl) (by kernel_rfl)) ?_⟩
          clear hm hm'
          refine toD3 5 10 11 (by kernel_rfl) ?_ ?_ ?_
          · obtain ⟨t_43, ht_895, h⟩ := bd h
            refine p_call 0 30 #[(.agg #[(.int .i16 t_41.fSteps), (.slice (o_889.map fun b => ⟨b, 0, none⟩) t_41.fHammers.length cap_890)]), (.agg (row encU32 t_42.1 []).toArray), (.int .i64 aTrack2)] (by kernel_rfl) (by kernel_rfl) (fun w hm => spec_WithoutTrack.calls t_41 t_42 aTrack2 w _ o_889 t_41.fHammers.length cap_890 sp_891 rfl hs_892 ho_893 (hm.pass (N := [⟨o_889, 176, row encGHammer t_41.fHammers sp_891⟩]) [2] (by kernel_rfl) (by kernel_rfl)) ht_895) ?_
            rintro w v w' hm ⟨o_896, cap_897, sp_898, _, rfl, hs_899, ho_900, rfl, hm'⟩
            refine ⟨_, hm.appW (ps := [(2, ⟨o_889, 176, row encGHammer t_41.fHammers sp_891⟩)]) (N := [⟨o_896, 176, row encGHammer t_43.1.fHammers sp_898⟩]) hm' (by kernel_rfl) (by kernel_rfl), jkD (fun w h => h.pick [0, 1] (by kernel_rfl) (by kernel_rfl)) ?_⟩
            clear hm hm'
            refine jd_f [⟨6, 0, 0⟩, ⟨7, 0, 0⟩, ⟨8, 0, 0⟩, ⟨9, 0, 0⟩] 5 (by kernel_rfl) (by kernel_rfl) (fun w h => h.pick [0, 1] (by kernel_rfl) (by kernel_rfl)) (by kernel_rfl) (by kernel_rfl) ?_
            refine toD2 10 11 (by kernel_rfl) ?_ ?_
            · refine p_a 0 [0] (by kernel_rfl) (fun b => by kernel_rfl) (fun b_901 => jkD (fun w h => h.pick [0, 1] (by kernel_rfl) (by kernel_rfl)) ?_)
              refine toD 11 (by kernel_rfl) (p_a 0 [0] (by kernel_rfl) (fun b => by kernel_rfl) (fun b_902 => jkD (fun w h => h.pick [0, 1] (by kernel_rfl) (by kernel_rfl)) ?_))
              refine toD 12 (by kernel_rfl) (p_s 0 [4] (by kernel_rfl) (by kernel_rfl) (jkD (fun w h => h.pick [0, 1] (by kernel_rfl) (by kernel_rfl)) ?_))
              refine toD 13 (by kernel_rfl) (p_sA 0 5 b_902 96 1 58 encU32 (Arr.rep 96 0) t_43.2.1 (by kernel_rfl) (by kernel_rfl) (by kernel_rfl) encU32_len encU32_cell (by kernel_rfl) (jkD (fun w h => h.pick [0, 1] (by kernel_rfl) (by kernel_rfl)) ?_))
              refine jd_f [⟨14, 0, 0⟩] 0 (by kernel_rfl) (by kernel_rfl) (fun w h => h.pick [0, 1] (by kernel_rfl) (by kernel_rfl)) (by kernel_rfl) (by kernel_rfl) ?_
              refine jd_end (by kernel_rfl) ?_
              exact jx_meet ⟨t_43.1.fSteps, t_43.1.fHammers, t_43.2.1, t_43.2.2, b_901, o_896, cap_897, sp_898, t_43.1.fHammers.length, b_902⟩ ⟨h, rfl, hs_899, ho_900⟩ (by kernel_rfl) [0, 1, 4, 3, 5] (by kernel_rfl) (by kernel_rfl)
            · refine p_a 0 [0] (by kernel_rfl) (fun b => by kernel_rfl) (fun b_903 => jkD (fun w h => h.pick [0, 1] (by kernel_rfl) (by kernel_rfl)) ?_)
              refine toD 10 (by kernel_rfl) (p_a 0 [0] (by kernel_rfl) (fun b => by kernel_rfl) (fun b_904 => jkD (fun w h => h.pick [0, 1] (by kernel_rfl) (by kernel_rfl)) ?_))
              refine toD 12 (by kernel_rfl) (p_s 0 [5] (by kernel_rfl) (by kernel_rfl) (jkD (fun w h => h.pick [0, 1] (by kernel_rfl) (by kernel_rfl)) ?_))
              refine toD 13 (by kernel_rfl) (p_sA 0 4 b_903 96 1 58 encU32 (Arr.rep 96 0) t_43.2.1 (by kernel_rfl) (by kernel_rfl) (by kernel_rfl) encU32_len encU32_cell (by kernel_rfl) (jkD (fun w h => h.pick [0, 1] (by kernel_rfl) (by kernel_rfl)) ?_))
              refine jd_f [⟨14, 0, 0⟩] 0 (by kernel_rfl) (by kernel_rfl) (fun w h => h.pick [0, 1] (by kernel_rfl) (by kernel_rfl)) (by kernel_rfl) (by kernel_rfl) ?_
              refine jd_end (by kernel_rfl) ?_
              exact jx_meet ⟨t_43.1.fSteps, t_43.1.fHammers, t_43.2.1, t_43.2.2, b_904, o_896, cap_897, sp_898, t_43.1.fHammers.length, b_903⟩ ⟨h, rfl, hs_899, ho_900⟩ (by kernel_rfl) [0, 1, 5, 3, 4] (by kernel_rfl) (by kernel_rfl)
          · refine p_a 0 [0] (by kernel_rfl) (fun b => by kernel_rfl) (fun b_905 => jkD (fun w h => h.pick [0, 1] (by kernel_rfl) (by kernel_rfl)) ?_)
            refine toD2 5 11 (by kernel_rfl) ?_ ?_
            · obtain ⟨t_43, ht_906, h⟩ := bd h
              refine p_call 0 30 #[(.agg #[(.int .i16 t_41.fSteps), (.slice (o_889.map fun b => ⟨b, 0, none⟩) t_41.fHammers.length cap_890)]), (.agg (row encU32 t_42.1 []).toArray), (.int .i64 aTrack2)] (by kernel_rfl) (by kernel_rfl) (fun w hm => spec_WithoutTrack.calls t_41 t_42 aTrack2 w _ o_889 t_41.fHammers.length cap_890 sp_891 rfl hs_892 ho_893 (hm.pass (N := [⟨o_889, 176, row encGHammer t_41.fHammers sp_891⟩]) [2] (by kernel_rfl) (by kernel_rfl)) ht_906) ?_
              rintro w v w' hm ⟨o_907, cap_908, sp_909, _, rfl, hs_910, ho_911, rfl, hm'⟩
              refine ⟨_, hm.appW (ps := [(2, ⟨o_889, 176, row encGHammer t_41.fHammers sp_891⟩)]) (N := [⟨o_907, 176, row encGHammer t_43.1.fHammers sp_909⟩]) hm' (by kernel_rfl) (by kernel_rfl), jkD (fun w h => h.pick [0, 1] (by kernel_rfl) (by kernel_rfl)) ?_⟩
              clear hm hm'
              refine jd_f [⟨6, 0, 0⟩, ⟨7, 0, 0⟩, ⟨8, 0, 0⟩, ⟨9, 0, 0⟩] 4 (by kernel_rfl) (by kernel_rfl) (fun w h => h.pick [0, 1] (by kernel_rfl) (by kernel_rfl)) (by kernel_rfl) (by kernel_rfl) ?_
              refine toD 11 (by kernel_rfl) (p_a 0 [0] (by kernel_rfl) (fun b => by kernel_rfl) (fun b_912 => jkD (fun w h => h.pick [0, 1] (by kernel_rfl) (by kernel_rfl)) ?_))
              refine toD 12 (by kernel_rfl) (p_s 0 [3] (by kernel_rfl) (by kernel_rfl) (jkD (fun w h => h.pick [0, 1] (by kernel_rfl) (by kernel_rfl)) ?_))
              refine toD 13 (by kernel_rfl) (p_sA 0 5 b_912 96 1 58 encU32 (Arr.rep 96 0) t_43.2.1 (by kernel_rfl) (by kernel_rfl) (by kernel_rfl) encU32_len encU32_cell (by kernel_rfl) (jkD (fun w h => h.pick [0, 1] (by kernel_rfl) (by kernel_rfl)) ?_))
              refine jd_f [⟨14, 0, 0⟩] 0 (by kernel_rfl) (by kernel_rfl) (fun w h => h.pick [0, 1] (by kernel_rfl) (by kernel_rfl)) (by kernel_rfl) (by kernel_rfl) ?_
              refine jd_end (by kernel_rfl) ?_
              exact jx_meet ⟨t_43.1.fSteps, t_43.1.fHammers, t_43.2.1, t_43.2.2, b_905, o_907, cap_908, sp_909, t_43.1.fHammers.length, b_912⟩ ⟨h, rfl, hs_910, ho_911⟩ (by kernel_rfl) [0, 1, 3, 4, 5] (by kernel_rfl) (by kernel_rfl)
            · refine p_a 0 [0] (by kernel_rfl) (fun b => by kernel_rfl) (fun b_913 => jkD (fun w h => h.pick [0, 1] (by kernel_rfl) (by kernel_rfl)) ?_)
              obtain ⟨t_43, ht_914, h⟩ := bd h
              refine toD 5 (by kernel_rfl) (p_call 0 30 #[(.agg #[(.int .i16 t_41.fSteps), (.slice (o_889.map fun b => ⟨b, 0, none⟩) t_41.fHammers.length cap_890)]), (.agg (row encU32 t_42.1 []).toArray), (.int .i64 aTrack2)] (by kernel_rfl) (by kernel_rfl) (fun w hm => spec_WithoutTrack.calls t_41 t_42 aTrack2 w _ o_889 t_41.fHammers.length cap_890 sp_891 rfl hs_892 ho_893 (hm.pass (N := [⟨o_889, 176, row encGHammer t_41.fHammers sp_891⟩]) [2] (by kernel_rfl) (by kernel_rfl)) ht_914) ?_)
              rintro w v w' hm ⟨o_915, cap_916, sp_917, _, rfl, hs_918, ho_919, rfl, hm'⟩
              refine ⟨_, hm.appW (ps := [(2, ⟨o_889, 176, row encGHammer t_41.fHammers sp_891⟩)]) (N := [⟨o_915, 176, row encGHammer t_43.1.fHammers sp_917⟩]) hm' (by kernel_rfl) (by kernel_rfl), jkD (fun w h => h.pick [0, 1] (by kernel_rfl) (by kernel_rfl)) ?_⟩
              clear hm hm'
              refine jd_f [⟨6, 0, 0⟩, ⟨7, 0, 0⟩, ⟨8, 0, 0⟩, ⟨9, 0, 0⟩] 3 (by kernel_rfl) (by kernel_rfl) (fun w h => h.pick [0, 1] (by kernel_rfl) (by kernel_rfl)) (by kernel_rfl) (by kernel_rfl) ?_
              refine toD 12 (by kernel_rfl) (p_s 0 [3] (by kernel_rfl) (by kernel_rfl) (jkD (fun w h => h.pick [0, 1] (by kernel_rfl) (by kernel_rfl)) ?_))
              refine toD 13 (by kernel_rfl) (p_sA 0 4 b_913 96 1 58 encU32 (Arr.rep 96 0) t_43.2.1 (by kernel_rfl) (by kernel_rfl) (by kernel_rfl) encU32_len encU32_cell (by kernel_rfl) (jkD (fun w h => h.pick [0, 1] (by kernel_rfl) (by kernel_rfl)) ?_))
              refine jd_f [⟨14, 0, 0⟩] 0 (by kernel_rfl) (by kernel_rfl) (fun w h => h.pick [0, 1] (by kernel_rfl) (by kernel_rfl)) (by kernel_rfl) (by kernel_rfl) ?_
              refine jd_end (by kernel_rfl) ?_
              exact jx_meet ⟨t_43.1.fSteps, t_43.1.fHammers, t_43.2.1, t_43.2.2, b_905, o_915, cap_916, sp_917, t_43.1.fHammers.length, b_913⟩ ⟨h, rfl, hs_918, ho_919⟩ (by kernel_rfl) [0, 1, 3, 5, 4] (by kernel_rfl) (by kernel_rfl)
          · refine p_a 0 [0] (by kernel_rfl) (fun b => by kernel_rfl) (fun b_920 => jkD (fun w h => h.pick [0, 1] (by kernel_rfl) (by kernel_rfl)) ?_)
            refine toD2 5 10 (by kernel_rfl) ?_ ?_
            · obtain ⟨t_43, ht_921, h⟩ := bd h
              refine p_call 0 30 #[(.agg #[(.int .i16 t_41.fSteps), (.slice (o_889.map fun b => ⟨b, 0, none⟩) t_41.fHammers.length cap_890)]), (.agg (row encU32 t_42.1 []).toArray), (.int .i64 aTrack2)] (by kernel_rfl) (by kernel_rfl) (fun w hm => spec_WithoutTrack.calls t_41 t_42 aTrack2 w _ o_889 t_41.fHammers.length cap_890 sp_891 rfl hs_892 ho_893 (hm.pass (N := [⟨o_889, 176, row encGHammer t_41.fHammers sp_891⟩]) [2] (by kernel_rfl) (by kernel_rfl)) ht_921) ?_
              rintro w v w' hm ⟨o_922, cap_923, sp_924, _, rfl, hs_925, ho_926, rfl, hm'⟩
              refine ⟨_, hm.appW (ps := [(2, ⟨o_889, 176, row encGHammer t_41.fHammers sp_891⟩)]) (N := [⟨o_922, 176, row encGHammer t_43.1.fHammers sp_924⟩]) hm' (by kernel_rfl) (by kernel_rfl), jkD (fun w h => h.pick [0, 1] (by kernel_rfl) (by kernel_rfl)) ?_⟩
              clear hm hm'
              refine jd_f [⟨6, 0, 0⟩, ⟨7, 0, 0⟩, ⟨8, 0, 0⟩, ⟨9, 0, 0⟩] 4 (by kernel_rfl) (by kernel_rfl) (fun w h => h.pick [0, 1] (by kernel_rfl) (by kernel_rfl)) (by kernel_rfl) (by kernel_rfl) ?_
              refine toD 10 (by kernel_rfl) (p_a 0 [0] (by kernel_rfl) (fun b => by kernel_rfl) (fun b_927 => jkD (fun w h => h.pick [0, 1] (by kernel_rfl) (by kernel_rfl)) ?_))
              refine toD 12 (by kernel_rfl) (p_s 0 [5] (by kernel_rfl) (by kernel_rfl) (jkD (fun w h => h.pick [0, 1] (by kernel_rfl) (by kernel_rfl)) ?_))
              refine toD 13 (by kernel_rfl) (p_sA 0 3 b_920 96 1 58 encU32 (Arr.rep 96 0) t_43.2.1 (by kernel_rfl) (by kernel_rfl) (by kernel_rfl) encU32_len encU32_cell (by kernel_rfl) (jkD (fun w h => h.pick [0, 1] (by kernel_rfl) (by kernel_rfl)) ?_))
              refine jd_f [⟨14, 0, 0⟩] 0 (by kernel_rfl) (by kernel_rfl) (fun w h => h.pick [0, 1] (by kernel_rfl) (by kernel_rfl)) (by kernel_rfl) (by kernel_rfl) ?_
              refine jd_end (by kernel_rfl) ?_
              exact jx_meet ⟨t_43.1.fSteps, t_43.1.fHammers, t_43.2.1, t_43.2.2, b_927, o_922, cap_923, sp_924, t_43.1.fHammers.length, b_920⟩ ⟨h, rfl, hs_925, ho_926⟩ (by kernel_rfl) [0, 1, 5, 4, 3] (by kernel_rfl) (by kernel_rfl)
            · refine p_a 0 [0] (by kernel_rfl) (fun b => by kernel_rfl) (fun b_928 => jkD (fun w h => h.pick [0, 1] (by kernel_rfl) (by kernel_rfl)) ?_)
              obtain ⟨t_43, ht_929, h⟩ := bd h
              refine toD 5 (by kernel_rfl) (p_call 0 30 #[(.agg #[(.int .i16 t_41.fSteps), (.slice (o_889.map fun b => ⟨b, 0, none⟩) t_41.fHammers.length cap_890)]), (.agg (row encU32 t_42.1 []).toArray), (.int .i64 aTrack2)] (by kernel_rfl) (by kernel_rfl) (fun w hm => spec_WithoutTrack.calls t_41 t_42 aTrack2 w _ o_889 t_41.fHammers.length cap_890 sp_891 rfl hs_892 ho_893 (hm.pass (N := [⟨o_889, 176, row encGHammer t_41.fHammers sp_891⟩]) [2] (by kernel_rfl) (by kernel_rfl)) ht_929) ?_)
              rintro w v w' hm ⟨o_930, cap_931, sp_932, _, rfl, hs_933, ho_934, rfl, hm'⟩
              refine ⟨_, hm.appW (ps := [(2, ⟨o_889, 176, row encGHammer t_41.fHammers sp_891⟩)]) (N := [⟨o_930, 176, row encGHammer t_43.1.fHammers sp_932⟩]) hm' (by kernel_rfl) (by kernel_rfl), jkD (fun w h => h.pick [0, 1] (by kernel_rfl) (by kernel_rfl)) ?_⟩
              clear hm hm'
              refine jd_f [⟨6, 0, 0⟩, ⟨7, 0, 0⟩, ⟨8, 0, 0⟩, ⟨9, 0, 0⟩] 3 (by kernel_rfl) (by kernel_rfl) (fun w h => h.pick [0, 1] (by kernel_rfl) (by kernel_rfl)) (by kernel_rfl) (by kernel_rfl) ?_
              refine toD 12 (by kernel_rfl) (p_s 0 [4] (by kernel_rfl) (by kernel_rfl) (jkD (fun w h => h.pick [0, 1] (by kernel_rfl) (by kernel_rfl)) ?_))
              refine toD 13 (by kernel_rfl) (p_sA 0 3 b_920 96 1 58 encU32 (Arr.rep 96 0) t_43.2.1 (by kernel_rfl) (by kernel_rfl) (by kernel_rfl) encU32_len encU32_cell (by kernel_rfl) (jkD (fun w h => h.pick [0, 1] (by kernel_rfl) (by kernel_rfl)) ?_))
              refine jd_f [⟨14, 0, 0⟩] 0 (by kernel_rfl) (by kernel_rfl) (fun w h => h.pick [0, 1] (by kernel_rfl) (by kernel_rfl)) (by kernel_rfl) (by kernel_rfl) ?_
              refine jd_end (by kernel_rfl) ?_
              exact jx_meet ⟨t_43.1.fSteps, t_43.1.fHammers, t_43.2.1, t_43.2.2, b_928, o_930, cap_931, sp_932, t_43.1.fHammers.length, b_920⟩ ⟨h, rfl, hs_933, ho_934⟩ (by kernel_rfl) [0, 1, 4, 5, 3] (by kernel_rfl) (by kernel_rfl)
        · refine p_a 0 [0] (by kernel_rfl) (fun b => by kernel_rfl) (fun b_935 => jkD (fun w h => h.pick [0, 1] (by kernel_rfl) (by kernel_rfl)) ?_)
          refine toD2 3 11 (by kernel_rfl) ?_ ?_
          · obtain ⟨t_42, ht_936, h⟩ := bd h
            refine p_call 0 31 #[(.agg (row encU32 aD1.1 []).toArray)] (by kernel_rfl) (by kernel_rfl) (fun w hm => laws_toDrum.calls aD1 w _ ht_936) ?_
            rintro w v w' hm ⟨rfl, hm'⟩
            refine ⟨_, hm.app hm', jkD (fun w h => h.pick [0, 1] (by kernel_rfl) (by kernel_rfl)) ?_⟩
            clear hm hm'
            refine toD2 5 11 (by kernel_rfl) ?_ ?_
            · obtain ⟨t_43, ht_937, h⟩ := bd h
              refine p_call 0 30 #[(.agg #[(.int .i16 t_41.fSteps), (.slice (o_889.map fun b => ⟨b, 0, none⟩) t_41.fHammers.length cap_890)]), (.agg (row encU32 t_42.1 []).toArray), (.int .i64 aTrack2)] (by kernel_rfl) (by kernel_rfl) (fun w hm => spec_WithoutTrack.calls t_41 t_42 aTrack2 w _ o_889 t_41.fHammers.length cap_890 sp_891 rfl hs_892 ho_893 (hm.pass (N := [⟨o_889, 176, row encGHammer t_41.fHammers sp_891⟩]) [2] (by kernel_rfl) (by kernel_rfl)) ht_937) ?_
              rintro w v w' hm ⟨o_938, cap_939, sp_940, _, rfl, hs_941, ho_942, rfl, hm'⟩
              refine ⟨_, hm.appW (ps := [(2, ⟨o_889, 176, row encGHammer t_41.fHammers sp_891⟩)]) (N := [⟨o_938, 176, row encGHammer t_43.1.fHammers sp_940⟩]) hm' (by kernel_rfl) (by kernel_rfl), jkD (fun w h => h.pick [0, 1] (by kernel_rfl) (by kernel_rfl)) ?_⟩
              clear hm hm'
              refine jd_f [⟨6, 0, 0⟩, ⟨7, 0, 0⟩, ⟨8, 0, 0⟩, ⟨9, 0, 0⟩] 4 (by kernel_rfl) (by kernel_rfl) (fun w h => h.pick [0, 1] (by kernel_rfl) (by kernel_rfl)) (by kernel_rfl) (by kernel_rfl) ?_
              refine toD 11 (by kernel_rfl) (p_a 0 [0] (by kernel_rfl) (fun b => by kernel_rfl) (fun b_943 => jkD (fun w h => h.pick [0, 1] (by kernel_rfl) (by kernel_rfl)) ?_))
              refine toD 12 (by kernel_rfl) (p_s 0 [3] (by kernel_rfl) (by kernel_rfl) (jkD (fun w h => h.pick [0, 1] (by kernel_rfl) (by kernel_rfl)) ?_))
              refine toD 13 (by kernel_rfl) (p_sA 0 5 b_943 96 1 58 encU32 (Arr.rep 96 0) t_43.2.1 (by kernel_rfl) (by kernel_rfl) (by kernel_rfl) encU32_len encU32_cell (by kernel_rfl) (jkD (fun w h => h.pick [0, 1] (by kernel_rfl) (by kernel_rfl)) ?_))
              refine jd_f [⟨14, 0, 0⟩] 0 (by kernel_rfl) (by kernel_rfl) (fun w h => h.pick [0, 1] (by kernel_rfl) (by kernel_rfl)) (by kernel_rfl) (by kernel_rfl) ?_
              refine jd_end (by kernel_rfl) ?_
              exact jx_meet ⟨t_43.1.fSteps, t_43.1.fHammers, t_43.2.1, t_43.2.2, b_935, o_938, cap_939, sp_940, t_43.1.fHammers.length, b_943⟩ ⟨h, rfl, hs_941, ho_942⟩ (by kernel_rfl) [0, 1, 3, 4, 5] (by kernel_rfl) (by kernel_rfl)
            · refine p_a 0 [0] (by kernel_rfl) (fun b => by kernel_rfl) (fun b_944 => jkD (fun w h => h.pick [0, 1] (by kernel_rfl) (by kernel_rfl)) ?_)
              obtain ⟨t_43, ht_945, h⟩ := bd h
              refine toD 5 (by kernel_rfl) (p_call 0 30 #[(.agg #[(.int .i16 t_41.fSteps), (.slice (o_889.map fun b => ⟨b, 0, none⟩) t_41.fHammers.length cap_890)]), (.agg (row encU32 t_42.1 []).toArray), (.int .i64 aTrack2)] (by kernel_rfl) (by kernel_rfl) (fun w hm => spec_WithoutTrack.calls t_41 t_42 aTrack2 w _ o_889 t_41.fHammers.length cap_890 sp_891 rfl hs_892 ho_893 (hm.pass (N := [⟨o_889, 176, row encGHammer t_41.fHammers sp_891⟩]) [2] (by kernel_rfl) (by kernel_rfl)) ht_945) ?_)
              rintro w v w' hm ⟨o_946, cap_947, sp_948, _, rfl, hs_949, ho_950, rfl, hm'⟩
              refine ⟨_, hm.appW (ps := [(2, ⟨o_889, 176, row encGHammer t_41.fHammers sp_891⟩)]) (N := [⟨o_946, 176, row encGHammer t_43.1.fHammers sp_948⟩]) hm' (by kernel_rfl) (by kernel_rfl), jkD (fun w h => h.pick [0, 1] (by kernel_rfl) (by kernel_rfl)) ?_⟩
              clear hm hm'
              refine jd_f [⟨6, 0, 0⟩, ⟨7, 0, 0⟩, ⟨8, 0, 0⟩, ⟨9, 0, 0⟩] 3 (by kernel_rfl) (by kernel_rfl) (fun w h => h.pick [0, 1] (by kernel_rfl) (by kernel_rfl)) (by kernel_rfl) (by kernel_rfl) ?_
              refine toD 12 (by kernel_rfl) (p_s 0 [3] (by kernel_rfl) (by kernel_rfl) (jkD (fun w h => h.pick [0, 1] (by kernel_rfl) (by kernel_rfl)) ?_))
              refine toD 13 (by kernel_rfl) (p_sA 0 4 b_944 96 1 58 encU32 (Arr.rep 96 0) t_43.2.1 (by kernel_rfl) (by kernel_rfl) (by kernel_rfl) encU32_len encU32_cell (by kernel_rfl) (jkD (fun w h => h.pick [0, 1] (by kernel_rfl) (by kernel_rfl)) ?_))
              refine jd_f [⟨14, 0, 0⟩] 0 (by kernel_rfl) (by kernel_rfl) (fun w h => h.pick [0, 1] (by kernel_rfl) (by kernel_rfl)) (by kernel_rfl) (by kernel_rfl) ?_
              refine jd_end (by kernel_rfl) ?_
              exact jx_meet ⟨t_43.1.fSteps, t_43.1.fHammers, t_43.2.1, t_43.2.2, b_935, o_946, cap_947, sp_948, t_43.1.fHammers.length, b_944⟩ ⟨h, rfl, hs_949, ho_950⟩ (by kernel_rfl) [0, 1, 3, 5, 4] (by kernel_rfl) (by kernel_rfl)
          · refine p_a 0 [0] (by kernel_rfl) (fun b => by kernel_rfl) (fun b_951 => jkD (fun w h => h.pick [0, 1] (by kernel_rfl) (by kernel_rfl)) ?_)
            obtain ⟨t_42, ht_952, h⟩ := bd h
            refine toD 3 (by kernel_rfl) (p_call 0 31 #[(.agg (row encU32 aD1.1 []).toArray)] (by kernel_rfl) (by kernel_rfl) (fun w hm => laws_toDrum.calls aD1 w _ ht_952) ?_)
            rintro w v w' hm ⟨rfl, hm'⟩
            refine ⟨_, hm.app hm', jkD (fun w h => h.pick [0, 1] (by kernel_rfl) (by kernel_rfl)) ?_⟩
            clear hm hm'
            obtain ⟨t_43, ht_953, h⟩ := bd h
            refine toD 5 (by kernel_rfl) (p_call 0 30 #[(.agg #[(.int .i16 t_41.fSteps), (.slice (o_889.map fun b => ⟨b, 0, none⟩) t_41.fHammers.length cap_890)]), (.agg (row encU32 t_42.1 []).toArray), (.int .i64 aTrack2)] (by kernel_rfl) (by kernel_rfl) (fun w hm => spec_WithoutTrack.calls t_41 t_42 aTrack2 w _ o_889 t_41.fHammers.length cap_890 sp_891 rfl hs_892 ho_893 (hm.pass (N := [⟨o_889, 176, row encGHammer t_41.fHammers sp_891⟩]) [2] (by kernel_rfl) (by kernel_rfl)) ht_953) ?_)
            rintro w v w' hm ⟨o_954, cap_955, sp_956, _, rfl, hs_957, ho_958, rfl, hm'⟩
            refine ⟨_, hm.appW (ps := [(2, ⟨o_889, 176, row encGHammer t_41.fHammers sp_891⟩)]) (N := [⟨o_954, 176, row encGHammer t_43.1.fHammers sp_956⟩]) hm' (by kernel_rfl) (by kernel_rfl), jkD (fun w h => h.pick [0, 1] (by kernel_rfl) (by kernel_rfl)) ?_⟩
            clear hm hm'
            refine jd_f [⟨6, 0, 0⟩, ⟨7, 0, 0⟩, ⟨8, 0, 0⟩, ⟨9, 0, 0⟩] 3 (by kernel_rfl) (by kernel_rfl) (fun w h => h.pick [0, 1] (by kernel_rfl) (by kernel_rfl)) (by kernel_rfl) (by kernel_rfl) ?_
            refine toD 12 (by kernel_rfl) (p_s 0 [3] (by kernel_rfl) (by kernel_rfl) (jkD (fun w h => h.pick [0, 1] (by kernel_rfl) (by kernel_rfl)) ?_))
            refine toD 13 (by kernel_rfl) (p_sA 0 4 b_951 96 1 58 encU32 (Arr.rep 96 0) t_43.2.1 (by kernel_rfl) (by kernel_rfl) (by kernel_rfl) encU32_len encU32_cell (by kernel_rfl) (jkD (fun w h => h.pick [0, 1] (by kernel_rfl) (by kernel_rfl)) ?_))
            refine jd_f [⟨14, 0, 0⟩] 0 (by kernel_rfl) (by kernel_rfl) (fun w h => h.pick [0, 1] (by kernel_rfl) (by kernel_rfl)) (by kernel_rfl) (by kernel_rfl) ?_
            refine jd_end (by kernel_rfl) ?_
            exact jx_meet ⟨t_43.1.fSteps, t_43.1.fHammers, t_43.2.1, t_43.2.2, b_935, o_954, cap_955, sp_956, t_43.1.fHammers.length, b_951⟩ ⟨h, rfl, hs_957, ho_958⟩ (by kernel_rfl) [0, 1, 3, 5, 4] (by kernel_rfl) (by kernel_rfl)
        · refine p_a 0 [0] (by kernel_rfl) (fun b => by kernel_rfl) (fun b_959 => jkD (fun w h => h.pick [0, 1] (by kernel_rfl) (by kernel_rfl)) ?_)
          refine toD2 3 10 (by kernel_rfl) ?_ ?_
          · obtain ⟨t_42, ht_960, h⟩ := bd h
            refine p_call 0 31 #[(.agg (row encU32 aD1.1 []).toArray)] (by kernel_rfl) (by kernel_rfl) (fun w hm => laws_toDrum.calls aD1 w _ ht_960) ?_
            rintro w v w' hm ⟨rfl, hm'⟩
            refine ⟨_, hm.app hm', jkD (fun w h => h.pick [0, 1] (by kernel_rfl) (by kernel_rfl)) ?_⟩
            clear hm hm'
            refine toD2 5 10 (by kernel_rfl) ?_ ?_
            · obtain ⟨t_43, ht_961, h⟩ := bd h
              refine p_call 0 30 #[(.agg #[(.int .i16 t_41.fSteps), (.slice (o_889.map fun b => ⟨b, 0, none⟩) t_41.fHammers.length cap_890)]), (.agg (row encU32 t_42.1 []).toArray), (.int .i64 aTrack2)] (by kernel_rfl) (by kernel_rfl) (fun w hm => spec_WithoutTrack.calls t_41 t_42 aTrack2 w _ o_889 t_41.fHammers.length cap_890 sp_891 rfl hs_892 ho_893 (hm.pass (N := [⟨o_889, 176, row encGHammer t_41.fHammers sp_891⟩]) [2] (by kernel_rfl) (by kernel_rfl)) ht_961) ?_
              rintro w v w' hm ⟨o_962, cap_963, sp_964, _, rfl, hs_965, ho_966, rfl, hm'⟩
              refine ⟨_, hm.appW (ps := [(2, ⟨o_889, 176, row encGHammer t_41.fHammers sp_891⟩)]) (N := [⟨o_962, 176, row encGHammer t_43.1.fHammers sp_964⟩]) hm' (by kernel_rfl) (by kernel_rfl), jkD (fun w h => h.pick [0, 1] (by kernel_rfl) (by kernel_rfl)) ?_⟩
              clear hm hm'
              refine jd_f [⟨6, 0, 0⟩, ⟨7, 0, 0⟩, ⟨8, 0, 0⟩, ⟨9, 0, 0⟩] 4 (by kernel_rfl) (by kernel_rfl) (fun w h => h.pick [0, 1] (by kernel_rfl) (by kernel_rfl)) (by kernel_rfl) (by kernel_rfl) ?_
              refine toD 10 (by kernel_rfl) (p_a 0 [0] (by kernel_rfl) (fun b => by kernel_rfl) (fun b_967 => jkD (fun w h => h.pick [0, 1] (by kernel_rfl) (by kernel_rfl)) ?_))
              refine toD 12 (by kernel_rfl) (p_s 0 [5] (by kernel_rfl) (by kernel_rfl) (jkD (fun w h => h.pick [0, 1] (by kernel_rfl) (by kernel_rfl)) ?_))
              refine toD 13 (by kernel_rfl) (p_sA 0 3 b_959 96 1 58 encU32 (Arr.rep 96 0) t_43.2.1 (by kernel_rfl) (by kernel_rfl) (by kernel_rfl) encU32_len encU32_cell (by kernel_rfl) (jkD (fun w h => h.pick [0, 1] (by kernel_rfl) (by kernel_rfl)) ?_))
              refine jd_f [⟨14, 0, 0⟩] 0 (by kernel_rfl) (by kernel_rfl) (fun w h => h.pick [0, 1] (by kernel_rfl) (by kernel_rfl)) (by kernel_rfl) (by kernel_rfl) ?_
              refine jd_end (by kernel_rfl) ?_
              exact jx_meet ⟨t_43.1.fSteps, t_43.1.fHammers, t_43.2.1, t_43.2.2, b_967, o_962, cap_963, sp_964, t_43.1.fHammers.length, b_959⟩ ⟨h, rfl, hs_965, ho_966⟩ (by kernel_rfl) [0, 1, 5, 4, 3] (by kernel_rfl) (by kernel_rfl)
            · refine p_a 0 [0] (by kernel_rfl) (fun b => by kernel_rfl) (fun b_968 => jkD (fun w h => h.pick [0, 1] (by kernel_rfl) (by kernel_rfl)) ?_)
              obtain ⟨t_43, ht_969, h⟩ := bd h
              refine toD 5 (by kernel_rfl) (p_call 0 30 #[(.agg #[(.int .i16 t_41.fSteps), (.slice (o_889.map fun b => ⟨b, 0, none⟩) t_41.fHammers.length cap_890)]), (.agg (row encU32 t_42.1 []).toArray), (.int .i64 aTrack2)] (by kernel_rfl) (by kernel_rfl) (fun w hm => spec_WithoutTrack.calls t_41 t_42 aTrack2 w _ o_889 t_41.fHammers.length cap_890 sp_891 rfl hs_892 ho_893 (hm.pass (N := [⟨o_889, 176, row encGHammer t_41.fHammers sp_891⟩]) [2] (by kernel_rfl) (by kernel_rfl)) ht_969) ?_)
              rintro w v w' hm ⟨o_970, cap_971, sp_972, _, rfl, hs_973, ho_974, rfl, hm'⟩
              refine ⟨_, hm.appW (ps := [(2, ⟨o_889, 176, row encGHammer t_41.fHammers sp_891⟩)]) (N := [⟨o_970, 176, row encGHammer t_43.1.fHammers sp_972⟩]) hm' (by kernel_rfl) (by kernel_rfl), jkD (fun w h => h.pick [0, 1] (by kernel_rfl) (by kernel_rfl)) ?_⟩
              clear hm hm'
              refine jd_f [⟨6, 0, 0⟩, ⟨7, 0, 0⟩, ⟨8, 0, 0⟩, ⟨9, 0, 0⟩] 3 (by kernel_rfl) (by kernel_rfl) (fun w h => h.pick [0, 1] (by kernel_rfl) (by kernel_rfl)) (by kernel_rfl) (by kernel_rfl) ?_
              refine toD 12 (by kernel_rfl) (p_s 0 [4] (by kernel_rfl) (by kernel_rfl) (jkD (fun w h => h.pick [0, 1] (by kernel_rfl) (by kernel_rfl)) ?_))
              refine toD 13 (by kernel_rfl) (p_sA 0 3 b_959 96 1 58 encU32 (Arr.rep 96 0) t_43.2.1 (by kernel_rfl) (by kernel_rfl) (by kernel_rfl) encU32_len encU32_cell (by kernel_rfl) (jkD (fun w h => h.pick [0, 1] (by kernel_rfl) (by kernel_rfl)) ?_))
              refine jd_f [⟨14, 0, 0⟩] 0 (by kernel_rfl) (by kernel_rfl) (fun w h => h.pick [0, 1] (by kernel_rfl) (by kernel_rfl)) (by kernel_rfl) (by kernel_rfl) ?_
              refine jd_end (by kernel_rfl) ?_
              exact jx_meet ⟨t_43.1.fSteps, t_43.1.fHammers, t_43.2.1, t_43.2.2, b_968, o_970, cap_971, sp_972, t_43.1.fHammers.length, b_959⟩ ⟨h, rfl, hs_973, ho_974⟩ (by kernel_rfl) [0, 1, 4, 5, 3] (by kernel_rfl) (by kernel_rfl)
          · refine p_a 0 [0] (by kernel_rfl) (fun b => by kernel_rfl) (fun b_975 => jkD (fun w h => h.pick [0, 1] (by kernel_rfl) (by kernel_rfl)) ?_)
            obtain ⟨t_42, ht_976, h⟩ := bd h
            refine toD 3 (by kernel_rfl) (p_call 0 31 #[(.agg (row encU32 aD1.1 []).toArray)] (by kernel_rfl) (by kernel_rfl) (fun w hm => laws_toDrum.calls aD1 w _ ht_976) ?_)
            rintro w v w' hm ⟨rfl, hm'⟩
            refine ⟨_, hm.app hm', jkD (fun w h => h.pick [0, 1] (by kernel_rfl) (by kernel_rfl)) ?_⟩
            clear hm hm'
            obtain ⟨t_43, ht_977, h⟩ := bd h
            refine toD 5 (by kernel_rfl) (p_call 0 30 #[(.agg #[(.int .i16 t_41.fSteps), (.slice (o_889.map fun b => ⟨b, 0, none⟩) t_41.fHammers.length cap_890)]), (.agg (row encU32 t_42.1 []).toArray), (.int .i64 aTrack2)] (by kernel_rfl) (by kernel_rfl) (fun w hm => spec_WithoutTrack.calls t_41 t_42 aTrack2 w _ o_889 t_41.fHammers.length cap_890 sp_891 rfl hs_892 ho_893 (hm.pass (N := [⟨o_889, 176, row encGHammer t_41.fHammers sp_891⟩]) [2] (by kernel_rfl) (by kernel_rfl)) ht_977) ?_)
            rintro w v w' hm ⟨o_978, cap_979, sp_980, _, rfl, hs_981, ho_982, rfl, hm'⟩
            refine ⟨_, hm.appW (ps := [(2, ⟨o_889, 176, row encGHammer t_41.fHammers sp_891⟩)]) (N := [⟨o_978, 176, row encGHammer t_43.1.fHammers sp_980⟩]) hm' (by kernel_rfl) (by kernel_rfl), jkD (fun w h => h.pick [0, 1] (by kernel_rfl) (by kernel_rfl)) ?_⟩
            clear hm hm'
            refine jd_f [⟨6, 0, 0⟩, ⟨7, 0, 0⟩, ⟨8, 0, 0⟩, ⟨9, 0, 0⟩] 3 (by kernel_rfl) (by kernel_rfl) (fun w h => h.pick [0, 1] (by kernel_rfl) (by kernel_rfl)) (by kernel_rfl) (by kernel_rfl) ?_
            refine toD 12 (by kernel_rfl) (p_s 0 [4] (by kernel_rfl) (by kernel_rfl) (jkD (fun w h => h.pick [0, 1] (by kernel_rfl) (by kernel_rfl)) ?_))
            refine toD 13 (by kernel_rfl) (p_sA 0 3 b_959 96 1 58 encU32 (Arr.rep 96 0) t_43.2.1 (by kernel_rfl) (by kernel_rfl) (by kernel_rfl) encU32_len encU32_cell (by kernel_rfl) (jkD (fun w h => h.pick [0, 1] (by kernel_rfl) (by kernel_rfl)) ?_))
            refine jd_f [⟨14, 0, 0⟩] 0 (by kernel_rfl) (by kernel_rfl) (fun w h => h.pick [0, 1] (by kernel_rfl) (by kernel_rfl)) (by kernel_rfl) (by kernel_rfl) ?_
            refine jd_end (by kernel_rfl) ?_
            exact jx_meet ⟨t_43.1.fSteps, t_43.1.fHammers, t_43.2.1, t_43.2.2, b_975, o_978, cap_979, sp_980, t_43.1.fHammers.length, b_959⟩ ⟨h, rfl, hs_981, ho_982⟩ (by kernel_rfl) [0, 1, 4, 5, 3] (by kernel_rfl) (by kernel_rfl)
      · refine p_a 0 [0] (by kernel_rfl) (fun b => by kernel_rfl) (fun b_983 => jkD (fun w h => h.pick [0, 1] (by kernel_rfl) (by kernel_rfl)) ?_)
        refine toD2 1 11 (by kernel_rfl) ?_ ?_
        · obtain ⟨t_41, ht_984, h⟩ := bd h
          refine p_call 0 17 #[(.agg #[(.int .i16 aF0.fSteps), (.slice aF0_fHammers_a aF0.fHammers.length aF0_fHammers_c)])] (by kernel_rfl) (by kernel_rfl) (fun w hm => laws_toFrame.calls aF0 w _ aF0_fHammers_a aF0.fHammers.length aF0_fHammers_c (hm.exRow aF0_fHammers_h List.not_mem_nil) rfl ht_984) ?_
          rintro w v w' hm ⟨o_985, cap_986, sp_987, _, rfl, hs_988, ho_989, rfl, hm'⟩
          refine ⟨_, hm.app hm', jkD (fun w h => h.pick [0, 1] (by kernel_rfl) (by kernel_rfl)) ?_⟩
          clear hm hm'
          refine toD2 3 11 (by kernel_rfl) ?_ ?_
          · obtain ⟨t_42, ht_990, h⟩ := bd h
            refine p_call 0 31 #[(.agg (row encU32 aD1.1 []).toArray)] (by kernel_rfl) (by kernel_rfl) (fun w hm => laws_toDrum.calls aD1 w _ ht_990) ?_
            rintro w v w' hm ⟨rfl, hm'⟩
            refine ⟨_, hm.app hm', jkD (fun w h => h.pick [0, 1] (by kernel_rfl) (by kernel_rfl)) ?_⟩
            clear hm hm'
            refine toD2 5 11 (by kernel_rfl) ?_ ?_
            · obtain ⟨t_43, ht_991, h⟩ := bd h
              refine p_call 0 30 #[(.agg #[(.int .i16 t_41.fSteps), (.slice (o_985.map fun b => ⟨b, 0, none⟩) t_41.fHammers.length cap_986)]), (.agg (row encU32 t_42.1 []).toArray), (.int .i64 aTrack2)] (by kernel_rfl) (by kernel_rfl) (fun w hm => spec_WithoutTrack.calls t_41 t_42 aTrack2 w _ o_985 t_41.fHammers.length cap_986 sp_987 rfl hs_988 ho_989 (hm.pass (N := [⟨o_985, 176, row encGHammer t_41.fHammers sp_987⟩]) [3] (by kernel_rfl) (by kernel_rfl)) ht_991) ?_
              rintro w v w' hm ⟨o_992, cap_993, sp_994, _, rfl, hs_995, ho_996, rfl, hm'⟩
              refine ⟨_, hm.appW (ps := [(3, ⟨o_985, 176, row encGHammer t_41.fHammers sp_987⟩)]) (N := [⟨o_992, 176, row encGHammer t_43.1.fHammers sp_994⟩]) hm' (by kernel_rfl) (by kernel_rfl), jkD (fun w h => h.pick [0, 1] (by kernel_rfl) (by kernel_rfl)) ?_⟩
              clear hm hm'
              refine jd_f [⟨6, 0, 0⟩, ⟨7, 0, 0⟩, ⟨8, 0, 0⟩, ⟨9, 0, 0⟩] 4 (by kernel_rfl) (by kernel_rfl) (fun w h => h.pick [0, 1] (by kernel_rfl) (by kernel_rfl)) (by kernel_rfl) (by kernel_rfl) ?_
              refine toD 11 (by kernel_rfl) (p_a 0 [0] (by kernel_rfl) (fun b => by kernel_rfl) (fun b_997 => jkD (fun w h => h.pick [0, 1] (by kernel_rfl) (by kernel_rfl)) ?_))
              refine toD 12 (by kernel_rfl) (p_s 0 [2] (by kernel_rfl) (by kernel_rfl) (jkD (fun w h => h.pick [0, 1] (by kernel_rfl) (by kernel_rfl)) ?_))
              refine toD 13 (by kernel_rfl) (p_sA 0 5 b_997 96 1 58 encU32 (Arr.rep 96 0) t_43.2.1 (by kernel_rfl) (by kernel_rfl) (by kernel_rfl) encU32_len encU32_cell (by kernel_rfl) (jkD (fun w h => h.pick [0, 1] (by kernel_rfl) (by kernel_rfl)) ?_))
              refine jd_f [⟨14, 0, 0⟩] 0 (by kernel_rfl) (by kernel_rfl) (fun w h => h.pick [0, 1] (by kernel_rfl) (by kernel_rfl)) (by kernel_rfl) (by kernel_rfl) ?_
              refine jd_end (by kernel_rfl) ?_
              exact jx_meet ⟨t_43.1.fSteps, t_43.1.fHammers, t_43.2.1, t_43.2.2, b_983, o_992, cap_993, sp_994, t_43.1.fHammers.length, b_997⟩ ⟨h, rfl, hs_995, ho_996⟩ (by kernel_rfl) [0, 1, 2, 4, 5] (by kernel_rfl) (by kernel_rfl)
            · refine p_a 0 [0] (by kernel_rfl) (fun b => by kernel_rfl) (fun b_998 => jkD (fun w h => h.pick [0, 1] (by kernel_rfl) (by kernel_rfl)) ?_)
              obtain ⟨t_43, ht_999, h⟩ := bd h
              refine toD 5 (by kernel_rfl) (p_call 0 30 #[(.agg #[(.int .i16 t_41.fSteps), (.slice (o_985.map fun b => ⟨b, 0, none⟩) t_41.fHammers.length cap_986)]), (.agg (row encU32 t_42.1 []).toArray), (.int .i64 aTrack2)] (by kernel_rfl) (by kernel_rfl) (fun w hm => spec_WithoutTrack.calls t_41 t_42 aTrack2 w _ o_985 t_41.fHammers.length cap_986 sp_987 rfl hs_988 ho_989 (hm.pass (N := [⟨o_985, 176, row encGHammer t_41.fHammers sp_987⟩]) [3] (by kernel_rfl) (by kernel_rfl)) ht_999) ?_)
              rintro w v w' hm ⟨o_1000, cap_1001, sp_1002, _, rfl, hs_1003, ho_1004, rfl, hm'⟩
              refine ⟨_, hm.appW (ps := [(3, ⟨o_985, 176, row encGHammer t_41.fHammers sp_987⟩)]) (N := [⟨o_1000, 176, row encGHammer t_43.1.fHammers sp_1002⟩]) hm' (by kernel_rfl) (by kernel_rfl), jkD (fun w h => h.pick [0, 1] (by kernel_rfl) (by kernel_rfl)) ?_⟩
              clear hm hm'
              refine jd_f [⟨6, 0, 0⟩, ⟨7, 0, 0⟩, ⟨8, 0, 0⟩, ⟨9, 0, 0⟩] 3 (by kernel_rfl) (by kernel_rfl) (fun w h => h.pick [0, 1] (by kernel_rfl) (by kernel_rfl)) (by kernel_rfl) (by kernel_rfl) ?_
              refine toD 12 (by kernel_rfl) (p_s 0 [2] (by kernel_rfl) (by kernel_rfl) (jkD (fun w h => h.pick [0, 1] (by kernel_rfl) (by kernel_rfl)) ?_))
              refine toD 13 (by kernel_rfl) (p_sA 0 4 b_998 96 1 58 encU32 (Arr.rep 96 0) t_43.2.1 (by kernel_rfl) (by kernel_rfl) (by kernel_rfl) encU32_len encU32_cell (by kernel_rfl) (jkD (fun w h => h.pick [0, 1] (by kernel_rfl) (by kernel_rfl)) ?_))
              refine jd_f [⟨14, 0, 0⟩] 0 (by kernel_rfl) (by kernel_rfl) (fun w h => h.pick [0, 1] (by kernel_rfl) (by kernel_rfl)) (by kernel_rfl) (by kernel_rfl) ?_
              refine jd_end (by kernel_rfl) ?_
              exact jx_meet ⟨t_43.1.fSteps, t_43.1.fHammers, t_43.2.1, t_43.2.2, b_983, o_1000, cap_1001, sp_1002, t_43.1.fHammers.length, b_998⟩ ⟨h, rfl, hs_1003, ho_1004⟩ (by kernel_rfl) [0, 1, 2, 5, 4] (by kernel_rfl) (by kernel_rfl)
          · refine p_a 0 [0] (by kernel_rfl) (fun b => by kernel_rfl) (fun b_1005 => jkD (fun w h => h.pick [0, 1] (by kernel_rfl) (by kernel_rfl)) ?_)
            obtain ⟨t_42, ht_1006, h⟩ := bd h
            refine toD 3 (by kernel_rfl) (p_call 0 31 #[(.agg (row encU32 aD1.1 []).toArray)] (by kernel_rfl) (by kernel_rfl) (fun w hm => laws_toDrum.calls aD1 w _ ht_1006) ?_)
            rintro w v w' hm ⟨rfl, hm'⟩
            refine ⟨_, hm.app hm', jkD (fun w h => h.pick [0, 1] (by kernel_rfl) (by kernel_rfl)) ?_⟩
            clear hm hm'
            obtain ⟨t_43, ht_1007, h⟩ := bd h
            refine toD 5 (by kernel_rfl) (p_call 0 30 #[(.agg #[(.int .i16 t_41.fSteps), (.slice (o_985.map fun b => ⟨b, 0, none⟩) t_41.fHammers.length cap_986)]), (.agg (row encU32 t_42.1 []).toArray), (.int .i64 aTrack2)] (by kernel_rfl) (by kernel_rfl) (fun w hm => spec_WithoutTrack.calls t_41 t_42 aTrack2 w _ o_985 t_41.fHammers.length cap_986 sp_987 rfl hs_988 ho_989 (hm.pass (N := [⟨o_985, 176, row encGHammer t_41.fHammers sp_987⟩]) [3] (by kernel_rfl) (by kernel_rfl)) ht_1007) ?_)
            rintro w v w' hm ⟨o_1008, cap_1009, sp_1010, _, rfl, hs_1011, ho_1012, rfl, hm'⟩
            refine ⟨_, hm.appW (ps := [(3, ⟨o_985, 176, row encGHammer t_41.fHammers sp_987⟩)]) (N := [⟨o_1008, 176, row encGHammer t_43.1.fHammers sp_1010⟩]) hm' (by kernel_rfl) (by kernel_rfl), jkD (fun w h => h.pick [0, 1] (by kernel_rfl) (by kernel_rfl)) ?_⟩
            clear hm hm'
            refine jd_f [⟨6, 0, 0⟩, ⟨7, 0, 0⟩, ⟨8, 0, 0⟩, ⟨9, 0, 0⟩] 3 (by kernel_rfl) (by kernel_rfl) (fun w h => h.pick [0, 1] (by kernel_rfl) (by kernel_rfl)) (by kernel_rfl) (by kernel_rfl) ?_
            refine toD 12 (by kernel_rfl) (p_s 0 [2] (by kernel_rfl) (by kernel_rfl) (jkD (fun w h => h.pick [0, 1] (by kernel_rfl) (by kernel_rfl)) ?_))
            refine toD 13 (by kernel_rfl) (p_sA 0 4 b_1005 96 1 58 encU32 (Arr.rep 96 0) t_43.2.1 (by kernel_rfl) (by kernel_rfl) (by kernel_rfl) encU32_len encU32_cell (by kernel_rfl) (jkD (fun w h => h.pick [0, 1] (by kernel_rfl) (by kernel_rfl)) ?_))
            refine jd_f [⟨14, 0, 0⟩] 0 (by kernel_rfl) (by kernel_rfl) (fun w h => h.pick [0, 1] (by kernel_rfl) (by kernel_rfl)) (by kernel_rfl) (by kernel_rfl) ?_
            refine jd_end (by kernel_rfl) ?_
            exact jx_meet ⟨t_43.1.fSteps, t_43.1.fHammers, t_43.2.1, t_43.2.2, b_983, o_1008, cap_1009, sp_1010, t_43.1.fHammers.length, b_1005⟩ ⟨h, rfl, hs_1011, ho_1012⟩ (by kernel_rfl) [0, 1, 2, 5, 4] (by kernel_rfl) (by kernel_rfl)
        · refine p_a 0 [0] (by kernel_rfl) (fun b => by kernel_rfl) (fun b_1013 => jkD (fun w h => h.pick [0, 1] (by kernel_rfl) (by kernel_rfl)) ?_)
          obtain ⟨t_41, ht_1014, h⟩ := bd h
          refine toD 1 (by kernel_rfl) (p_call 0 17 #[(.agg #[(.int .i16 aF0.fSteps), (.slice aF0_fHammers_a aF0.fHammers.length aF0_fHammers_c)])] (by kernel_rfl) (by kernel_rfl) (fun w hm => laws_toFrame.calls aF0 w _ aF0_fHammers_a aF0.fHammers.length aF0_fHammers_c (hm.exRow aF0_fHammers_h List.not_mem_nil) rfl ht_1014) ?_)
          rintro w v w' hm ⟨o_1015, cap_1016, sp_1017, _, rfl, hs_1018, ho_1019, rfl, hm'⟩
          refine ⟨_, hm.app hm', jkD (fun w h => h.pick [0, 1] (by kernel_rfl) (by kernel_rfl)) ?_⟩
          clear hm hm'
          obtain ⟨t_42, ht_1020, h⟩ := bd h
          refine toD 3 (by kernel_rfl) (p_call 0 31 #[(.agg (row encU32 aD1.1 []).toArray)] (by kernel_rfl) (by kernel_rfl) (fun w hm => laws_toDrum.calls aD1 w _ ht_1020) ?_)
          rintro w v w' hm ⟨rfl, hm'⟩
          refine ⟨_, hm.app hm', jkD (fun w h => h.pick [0, 1] (by kernel_rfl) (by kernel_rfl)) ?_⟩
          clear hm hm'
          obtain ⟨t_43, ht_1021, h⟩ := bd h
          refine toD 5 (by kernel_rfl) (p_call 0 30 #[(.agg #[(.int .i16 t_41.fSteps), (.slice (o_1015.map fun b => ⟨b, 0, none⟩) t_41.fHammers.length cap_1016)]), (.agg (row encU32 t_42.1 []).toArray), (.int .i64 aTrack2)] (by kernel_rfl) (by kernel_rfl) (fun w hm => spec_WithoutTrack.calls t_41 t_42 aTrack2 w _ o_1015 t_41.fHammers.length cap_1016 sp_1017 rfl hs_1018 ho_1019 (hm.pass (N := [⟨o_1015, 176, row encGHammer t_41.fHammers sp_1017⟩]) [4] (by kernel_rfl) (by kernel_rfl)) ht_1021) ?_)
          rintro w v w' hm ⟨o_1022, cap_1023, sp_1024, _, rfl, hs_1025, ho_1026, rfl, hm'⟩
          refine ⟨_, hm.appW (ps := [(4, ⟨o_1015, 176, row encGHammer t_41.fHammers sp_1017⟩)]) (N := [⟨o_1022, 176, row encGHammer t_43.1.fHammers sp_1024⟩]) hm' (by kernel_rfl) (by kernel_rfl), jkD (fun w h => h.pick [0, 1] (by kernel_rfl) (by kernel_rfl)) ?_⟩
          clear hm hm'
          refine jd_f [⟨6, 0, 0⟩, ⟨7, 0, 0⟩, ⟨8, 0, 0⟩, ⟨9, 0, 0⟩] 3 (by kernel_rfl) (by kernel_rfl) (fun w h => h.pick [0, 1] (by kernel_rfl) (by kernel_rfl)) (by kernel_rfl) (by kernel_rfl) ?_
          refine toD 12 (by kernel_rfl) (p_s 0 [2] (by kernel_rfl) (by kernel_rfl) (jkD (fun w h => h.pick [0, 1] (by kernel_rfl) (by kernel_rfl)) ?_))
          refine toD 13 (by kernel_rfl) (p_sA 0 3 b_1013 96 1 58 encU32 (Arr.rep 96 0) t_43.2.1 (by kernel_rfl) (by kernel_rfl) (by kernel_rfl) encU32_len encU32_cell (by kernel_rfl) (jkD (fun w h => h.pick [0, 1] (by kernel_rfl) (by kernel_rfl)) ?_))
          refine jd_f [⟨14, 0, 0⟩] 0 (by kernel_rfl) (by kernel_rfl) (fun w h => h.pick [0, 1] (by kernel_rfl) (by kernel_rfl)) (by kernel_rfl) (by kernel_rfl) ?_
          refine jd_end (by kernel_rfl) ?_
          exact jx_meet ⟨t_43.1.fSteps, t_43.1.fHammers, t_43.2.1, t_43.2.2, b_983, o_1022, cap_1023, sp_1024, t_43.1.fHammers.length, b_1013⟩ ⟨h, rfl, hs_1025, ho_1026⟩ (by kernel_rfl) [0, 1, 2, 5, 3] (by kernel_rfl) (by kernel_rfl)
      · refine p_a 0 [0] (by kernel_rfl) (fun b => by kernel_rfl) (fun b_1027 => jkD (fun w h => h.pick [0, 1] (by kernel_rfl) (by kernel_rfl)) ?_)
        refine toD2 1 10 (by kernel_rfl) ?_ ?_
        · obtain ⟨t_41, ht_1028, h⟩ := bd h
          refine p_call 0 17 #[(.agg #[(.int .i16 aF0.fSteps), (.slice aF0_fHammers_a aF0.fHammers.length aF0_fHammers_c)])] (by kernel_rfl) (by kernel_rfl) (fun w hm => laws_toFrame.calls aF0 w _ aF0_fHammers_a aF0.fHammers.length aF0_fHammers_c (hm.exRow aF0_fHammers_h List.not_mem_nil) rfl ht_1028) ?_
          rintro w v w' hm ⟨o_1029, cap_1030, sp_1031, _, rfl, hs_1032, ho_1033, rfl, hm'⟩
          refine ⟨_, hm.app hm', jkD (fun w h => h.pick [0, 1] (by kernel_rfl) (by kernel_rfl)) ?_⟩
          clear hm hm'
          refine toD2 3 10 (by kernel_rfl) ?_ ?_
          · obtain ⟨t_42, ht_1034, h⟩ := bd h
            refine p_call 0 31 #[(.agg (row encU32 aD1.1 []).toArray)] (by kernel_rfl) (by kernel_rfl) (fun w hm => laws_toDrum.calls aD1 w _ ht_1034) ?_
            rintro w v w' hm ⟨rfl, hm'⟩
            refine ⟨_, hm.app hm', jkD (fun w h => h.pick [0, 1] (by kernel_rfl) (by kernel_rfl)) ?_⟩
            clear hm hm'
            refine toD2 5 10 (by kernel_rfl) ?_ ?_
            · obtain ⟨t_43, ht_1035, h⟩ := bd h
              refine p_call 0 30 #[(.agg #[(.int .i16 t_41.fSteps), (.slice (o_1029.map fun b => ⟨b, 0, none⟩) t_41.fHammers.length cap_1030)]), (.agg (row encU32 t_42.1 []).toArray), (.int .i64 aTrack2)] (by kernel_rfl) (by kernel_rfl) (fun w hm => spec_WithoutTrack.calls t_41 t_42 aTrack2 w _ o_1029 t_41.fHammers.length cap_1030 sp_1031 rfl hs_1032 ho_1033 (hm.pass (N := [⟨o_1029, 176, row encGHammer t_41.fHammers sp_1031⟩]) [3] (by kernel_rfl) (by kernel_rfl)) ht_1035) ?_
              rintro w v w' hm ⟨o_1036, cap_1037, sp_1038, _, rfl, hs_1039, ho_1040, rfl, hm'⟩
              refine ⟨_, hm.appW (ps := [(3, ⟨o_1029, 176, row encGHammer t_41.fHammers sp_1031⟩)]) (N := [⟨o_1036, 176, row encGHammer t_43.1.fHammers sp_1038⟩]) hm' (by kernel_rfl) (by kernel_rfl), jkD (fun w h => h.pick [0, 1] (by kernel_rfl) (by kernel_rfl)) ?_⟩
              clear hm hm'
              refine jd_f [⟨6, 0, 0⟩, ⟨7, 0, 0⟩, ⟨8, 0, 0⟩, ⟨9, 0, 0⟩] 4 (by kernel_rfl) (by kernel_rfl) (fun w h => h.pick [0, 1] (by kernel_rfl) (by kernel_rfl)) (by kernel_rfl) (by kernel_rfl) ?_
              refine toD 10 (by kernel_rfl) (p_a 0 [0] (by kernel_rfl) (fun b => by kernel_rfl) (fun b_1041 => jkD (fun w h => h.pick [0, 1] (by kernel_rfl) (by kernel_rfl)) ?_))
              refine toD 12 (by kernel_rfl) (p_s 0 [5] (by kernel_rfl) (by kernel_rfl) (jkD (fun w h => h.pick [0, 1] (by kernel_rfl) (by kernel_rfl)) ?_))
              refine toD 13 (by kernel_rfl) (p_sA 0 2 b_1027 96 1 58 encU32 (Arr.rep 96 0) t_43.2.1 (by kernel_rfl) (by kernel_rfl) (by kernel_rfl) encU32_len encU32_cell (by kernel_rfl) (jkD (fun w h => h.pick [0, 1] (by kernel_rfl) (by kernel_rfl)) ?_))
              refine jd_f [⟨14, 0, 0⟩] 0 (by kernel_rfl) (by kernel_rfl) (fun w h => h.pick [0, 1] (by kernel_rfl) (by kernel_rfl)) (by kernel_rfl) (by kernel_rfl) ?_
              refine jd_end (by kernel_rfl) ?_
              exact jx_meet ⟨t_43.1.fSteps, t_43.1.fHammers, t_43.2.1, t_43.2.2, b_1041, o_1036, cap_1037, sp_1038, t_43.1.fHammers.length, b_1027⟩ ⟨h, rfl, hs_1039, ho_1040⟩ (by kernel_rfl) [0, 1, 5, 4, 2] (by kernel_rfl) (by kernel_rfl)
            · refine p_a 0 [0] (by kernel_rfl) (fun b => by kernel_rfl) (fun b_1042 => jkD (fun w h => h.pick [0, 1] (by kernel_rfl) (by kernel_rfl)) ?_)
              obtain ⟨t_43, ht_1043, h⟩ := bd h
              refine toD 5 (by kernel_rfl) (p_call 0 30 #[(.agg #[(.int .i16 t_41.fSteps), (.slice (o_1029.map fun b => ⟨b, 0, none⟩) t_41.fHammers.length cap_1030)]), (.agg (row encU32 t_42.1 []).toArray), (.int .i64 aTrack2)] (by kernel_rfl) (by kernel_rfl) (fun w hm => spec_WithoutTrack.calls t_41 t_42 aTrack2 w _ o_1029 t_41.fHammers.length cap_1030 sp_1031 rfl hs_1032 ho_1033 (hm.pass (N := [⟨o_1029, 176, row encGHammer t_41.fHammers sp_1031⟩]) [3] (by kernel_rfl) (by kernel_rfl)) ht_1043) ?_)
              rintro w v w' hm ⟨o_1044, cap_1045, sp_1046, _, rfl, hs_1047, ho_1048, rfl, hm'⟩
              refine ⟨_, hm.appW (ps := [(3, ⟨o_1029, 176, row encGHammer t_41.fHammers sp_1031⟩)]) (N := [⟨o_1044, 176, row encGHammer t_43.1.fHammers sp_1046⟩]) hm' (by kernel_rfl) (by kernel_rfl), jkD (fun w h => h.pick [0, 1] (by kernel_rfl) (by kernel_rfl)) ?_⟩
              clear hm hm'
              refine jd_f [⟨6, 0, 0⟩, ⟨7, 0, 0⟩, ⟨8, 0, 0⟩, ⟨9, 0, 0⟩] 3 (by kernel_rfl) (by kernel_rfl) (fun w h => h.pick [0, 1] (by kernel_rfl) (by kernel_rfl)) (by kernel_rfl) (by kernel_rfl) ?_
              refine toD 12 (by kernel_rfl) (p_s 0 [4] (by kernel_rfl) (by kernel_rfl) (jkD (fun w h => h.pick [0, 1] (by kernel_rfl) (by kernel_rfl)) ?_))
              refine toD 13 (by kernel_rfl) (p_sA 0 2 b_1027 96 1 58 encU32 (Arr.rep 96 0) t_43.2.1 (by kernel_rfl) (by kernel_rfl) (by kernel_rfl) encU32_len encU32_cell (by kernel_rfl) (jkD (fun w h => h.pick [0, 1] (by kernel_rfl) (by kernel_rfl)) ?_))
              refine jd_f [⟨14, 0, 0⟩] 0 (by kernel_rfl) (by kernel_rfl) (fun w h => h.pick [0, 1] (by kernel_rfl) (by kernel_rfl)) (by kernel_rfl) (by kernel_rfl) ?_
              refine jd_end (by kernel_rfl) ?_
              exact jx_meet ⟨t_43.1.fSteps, t_43.1.fHammers, t_43.2.1, t_43.2.2, b_1042, o_1044, cap_1045, sp_1046, t_43.1.fHammers.length, b_1027⟩ ⟨h, rfl, hs_1047, ho_1048⟩ (by kernel_rfl) [0, 1, 4, 5, 2] (by kernel_rfl) (by kernel_rfl)
          · refine p_a 0 [0] (by kernel_rfl) (fun b => by kernel_rfl) (fun b_1049 => jkD (fun w h => h.pick [0, 1] (by kernel_rfl) (by kernel_rfl)) ?_)
            obtain ⟨t_42, ht_1050, h⟩ := bd h
            refine toD 3 (by kernel_rfl) (p_call 0 31 #[(.agg (row encU32 aD1.1 []).toArray)] (by kernel_rfl) (by kernel_rfl) (fun w hm => laws_toDrum.calls aD1 w _ ht_1050) ?_)
            rintro w v w' hm ⟨rfl, hm'⟩
            refine ⟨_, hm.app hm', jkD (fun w h => h.pick [0, 1] (by kernel_rfl) (by kernel_rfl)) ?_⟩
            clear hm hm'
            obtain ⟨t_43, ht_1051, h⟩ := bd h
            refine toD 5 (by kernel_rfl) (p_call 0 30 #[(.agg #[(.int .i16 t_41.fSteps), (.slice (o_1029.map fun b => ⟨b, 0, none⟩) t_41.fHammers.length cap_1030)]), (.agg (row encU32 t_42.1 []).toArray), (.int .i64 aTrack2)] (by kernel_rfl) (by kernel_rfl) (fun w hm => spec_WithoutTrack.calls t_41 t_42 aTrack2 w _ o_1029 t_41.fHammers.length cap_1030 sp_1031 rfl hs_1032 ho_1033 (hm.pass (N := [⟨o_1029, 176, row encGHammer t_41.fHammers sp_1031⟩]) [3] (by kernel_rfl) (by kernel_rfl)) ht_1051) ?_)
            rintro w v w' hm ⟨o_1052, cap_1053, sp_1054, _, rfl, hs_1055, ho_1056, rfl, hm'⟩
            refine ⟨_, hm.appW (ps := [(3, ⟨o_1029, 176, row encGHammer t_41.fHammers sp_1031⟩)]) (N := [⟨o_1052, 176, row encGHammer t_43.1.fHammers sp_1054⟩]) hm' (by kernel_rfl) (by kernel_rfl), jkD (fun w h => h.pick [0, 1] (by kernel_rfl) (by kernel_rfl)) ?_⟩
            clear hm hm'
            refine jd_f [⟨6, 0, 0⟩, ⟨7, 0, 0⟩, ⟨8, 0, 0⟩, ⟨9, 0, 0⟩] 3 (by kernel_rfl) (by kernel_rfl) (fun w h => h.pick [0, 1] (by kernel_rfl) (by kernel_rfl)) (by kernel_rfl) (by kernel_rfl) ?_
            refine toD 12 (by kernel_rfl) (p_s 0 [4] (by kernel_rfl) (by kernel_rfl) (jkD (fun w h => h.pick [0, 1] (by kernel_rfl) (by kernel_rfl)) ?_))
            refine toD 13 (by kernel_rfl) (p_sA 0 2 b_1027 96 1 58 encU32 (Arr.rep 96 0) t_43.2.1 (by kernel_rfl) (by kernel_rfl) (by kernel_rfl) encU32_len encU32_cell (by kernel_rfl) (jkD (fun w h => h.pick [0, 1] (by kernel_rfl) (by kernel_rfl)) ?_))
            refine jd_f [⟨14, 0, 0⟩] 0 (by kernel_rfl) (by kernel_rfl) (fun w h => h.pick [0, 1] (by kernel_rfl) (by kernel_rfl)) (by kernel_rfl) (by kernel_rfl) ?_
            refine jd_end (by kernel_rfl) ?_
            exact jx_meet ⟨t_43.1.fSteps, t_43.1.fHammers, t_43.2.1, t_43.2.2, b_1049, o_1052, cap_1053, sp_1054, t_43.1.fHammers.length, b_1027⟩ ⟨h, rfl, hs_1055, ho_1056⟩ (by kernel_rfl) [0, 1, 4, 5, 2] (by kernel_rfl) (by kernel_rfl)
        · refine p_a 0 [0] (by kernel_rfl) (fun b => by kernel_rfl) (fun b_1057 => jkD (fun w h => h.pick [0, 1] (by kernel_rfl) (by kernel_rfl)) ?_)
          obtain ⟨t_41, ht_1058, h⟩ := bd h
          refine toD 1 (by kernel_rfl) (p_call 0 17 #[(.agg #[(.int .i16 aF0.fSteps), (.slice aF0_fHammers_a aF0.fHammers.length aF0_fHammers_c)])] (by kernel_rfl) (by kernel_rfl) (fun w hm => laws_toFrame.calls aF0 w _ aF0_fHammers_a aF0.fHammers.length aF0_fHammers_c (hm.exRow aF0_fHammers_h List.not_mem_nil) rfl ht_1058) ?_)
          rintro w v w' hm ⟨o_1059, cap_1060, sp_1061, _, rfl, hs_1062, ho_1063, rfl, hm'⟩
          refine ⟨_, hm.app hm', jkD (fun w h => h.pick [0, 1] (by kernel_rfl) (by kernel_rfl)) ?_⟩
          clear hm hm'
          obtain ⟨t_42, ht_1064, h⟩ := bd h
          refine toD 3 (by kernel_rfl) (p_call 0 31 #[(.agg (row encU32 aD1.1 []).toArray)] (by kernel_rfl) (by kernel_rfl) (fun w hm => laws_toDrum.calls aD1 w _ ht_1064) ?_)
          rintro w v w' hm ⟨rfl, hm'⟩
          refine ⟨_, hm.app hm', jkD (fun w h => h.pick [0, 1] (by kernel_rfl) (by kernel_rfl)) ?_⟩
          clear hm hm'
          obtain ⟨t_43, ht_1065, h⟩ := bd h
          refine toD 5 (by kernel_rfl) (p_call 0 30 #[(.agg #[(.int .i16 t_41.fSteps), (.slice (o_1059.map fun b => ⟨b, 0, none⟩) t_41.fHammers.length cap_1060)]), (.agg (row encU32 t_42.1 []).toArray), (.int .i64 aTrack2)] (by kernel_rfl) (by kernel_rfl) (fun w hm => spec_WithoutTrack.calls t_41 t_42 aTrack2 w _ o_1059 t_41.fHammers.length cap_1060 sp_1061 rfl hs_1062 ho_1063 (hm.pass (N := [⟨o_1059, 176, row encGHammer t_41.fHammers sp_1061⟩]) [4] (by kernel_rfl) (by kernel_rfl)) ht_1065) ?_)
          rintro w v w' hm ⟨o_1066, cap_1067, sp_1068, _, rfl, hs_1069, ho_1070, rfl, hm'⟩
          refine ⟨_, hm.appW (ps := [(4, ⟨o_1059, 176, row encGHammer t_41.fHammers sp_1061⟩)]) (N := [⟨o_1066, 176, row encGHammer t_43.1.fHammers sp_1068⟩]) hm' (by kernel_rfl) (by kernel_rfl), jkD (fun w h => h.pick [0, 1] (by kernel_rfl) (by kernel_rfl)) ?_⟩
          clear hm hm'
          refine jd_f [⟨6, 0, 0⟩, ⟨7, 0, 0⟩, ⟨8, 0, 0⟩, ⟨9, 0, 0⟩] 3 (by kernel_rfl) (by kernel_rfl) (fun w h => h.pick [0, 1] (by kernel_rfl) (by kernel_rfl)) (by kernel_rfl) (by kernel_rfl) ?_
          refine toD 12 (by kernel_rfl) (p_s 0 [3] (by kernel_rfl) (by kernel_rfl) (jkD (fun w h => h.pick [0, 1] (by kernel_rfl) (by kernel_rfl)) ?_))
          refine toD 13 (by kernel_rfl) (p_sA 0 2 b_1027 96 1 58 encU32 (Arr.rep 96 0) t_43.2.1 (by kernel_rfl) (by kernel_rfl) (by kernel_rfl) encU32_len encU32_cell (by kernel_rfl) (jkD (fun w h => h.pick [0, 1] (by kernel_rfl) (by kernel_rfl)) ?_))
          refine jd_f [⟨14, 0, 0⟩] 0 (by kernel_rfl) (by kernel_rfl) (fun w h => h.pick [0, 1] (by kernel_rfl) (by kernel_rfl)) (by kernel_rfl) (by kernel_rfl) ?_
          refine jd_end (by kernel_rfl) ?_
          exact jx_meet ⟨t_43.1.fSteps, t_43.1.fHammers, t_43.2.1, t_43.2.2, b_1057, o_1066, cap_1067, sp_1068, t_43.1.fHammers.length, b_1027⟩ ⟨h, rfl, hs_1069, ho_1070⟩ (by kernel_rfl) [0, 1, 3, 5, 2] (by kernel_rfl) (by kernel_rfl)
    · rintro ⟨i_2, xs_3, a_4, i_5, b_189, o_190, cap_191, sp_192, n_193, b_196⟩ ⟨h, rfl, hs_194, ho_195⟩
      replace h : laws_FnExactWithoutTrack.k_6 aF0 aD1 aTrack2 i_2 xs_3 a_4 i_5 = some r := h
      rw [laws_FnExactWithoutTrack.k_6] at h
      refine jx_then ?_
      refine jc_seq ?_
      refine jc_region ?_
      refine jo_f [(0, 0)] (by kernel_rfl) ?_
      obtain ⟨t_7, ht_197, h⟩ := bd h
      refine toO (by kernel_rfl) (p_call 0 17 #[(.agg #[(.int .i16 aF0.fSteps), (.slice aF0_fHammers_a aF0.fHammers.length aF0_fHammers_c)])] (by kernel_rfl) (by kernel_rfl) (fun w hm => laws_toFrame.calls aF0 w _ aF0_fHammers_a aF0.fHammers.length aF0_fHammers_c (hm.exRow aF0_fHammers_h List.not_mem_nil) rfl ht_197) ?_)
      rintro w v w' hm ⟨o_198, cap_199, sp_200, _, rfl, hs_201, ho_202, rfl, hm'⟩
      refine ⟨_, hm.app hm', jkO ?_⟩
      clear hm hm'
      refine toO (by kernel_rfl) (p_a 0 [0] (by kernel_rfl) (fun b => by kernel_rfl) (fun b_203 => jkO ?_))
      refine toO (by kernel_rfl) (p_s 0 [6] (by kernel_rfl) (by kernel_rfl) (jkO ?_))
      refine jo_end (by kernel_rfl) ?_
      refine jx_then ?_
      refine jc_seq ?_
      refine jc_meet (fun (j : Int × (List GHammer) × (Arr 96 Int) × Int × Nat × (Option Nat) × Nat × (List Value) × Nat × Nat) => match j with | ⟨i_8, xs_9, a_10, i_11, b_293, o_294, cap_295, sp_296, n_297, b_300⟩ => laws_FnExactWithoutTrack.k_12 aF0 aD1 aTrack2 i_2 xs_3 a_4 i_5 t_7 i_8 xs_9 a_10 i_11 = some r ∧ (xs_9.length = n_297) ∧ ((o_294 ≠ none → n_297 ≤ cap_295 ∧ sp_296.length = (cap_295 - n_297) * 2)) ∧ ((o_294 = none → xs_9 = [] ∧ cap_295 = 0))) (fun (j : Int × (List GHammer) × (Arr 96 Int) × Int × Nat × (Option Nat) × Nat × (List Value) × Nat × Nat) => match j with | ⟨i_8, xs_9, a_10, i_11, b_293, o_294, cap_295, sp_296, n_297, b_300⟩ => [(2, [], (.int .i64 aTrack2)), (3, [], (.pointer (some ⟨b_1, 0, none⟩))), (4, [], (.pointer (some ⟨b_2, 0, none⟩))), (6, [], (.bool false)), (8, [], (.pointer (some ⟨b_189, 0, none⟩))), (9, [], (.pointer (some ⟨b_196, 0, none⟩))), (10, [], (.int .i64 i_5)), (11, [], (.pointer (some ⟨b_203, 0, none⟩))), (12, [], (.pointer (some ⟨b_293, 0, none⟩))), (13, [], (.pointer (some ⟨b_300, 0, none⟩))), (14, [], (.int .i64 i_11))]) (fun (j : Int × (List GHammer) × (Arr 96 Int) × Int × Nat × (Option Nat) × Nat × (List Value) × Nat × Nat) => match j with | ⟨i_8, xs_9, a_10, i_11, b_293, o_294, cap_295, sp_296, n_297, b_300⟩ => [⟨some b_1, 25, [(.int .i16 aF0.fSteps), (.slice aF0_fHammers_a aF0.fHammers.length aF0_fHammers_c)]⟩, ⟨(some b_2), 57, row encU32 aD1.1 []⟩, ⟨some b_189, 35, [(.int .i16 i_2), (.slice (o_190.map fun b => ⟨b, 0, none⟩) xs_3.length cap_191)]⟩, ⟨o_190, 176, row encGHammer xs_3 sp_192⟩, ⟨(some b_196), 58, row encU32 a_4.1 []⟩, ⟨o_198, 176, row encGHammer t_7.fHammers sp_200⟩, ⟨some b_203, 35, [(.int .i16 t_7.fSteps), (.slice (o_198.map fun b => ⟨b, 0, none⟩) t_7.fHammers.length cap_199)]⟩, ⟨some b_293, 35, [(.int .i16 i_8), (.slice (o_294.map fun b => ⟨b, 0, none⟩) n_297 cap_295)]⟩, ⟨o_294, 176, row encGHammer xs_9 sp_296⟩, ⟨(some b_300), 58, row encU32 a_10.1 []⟩]) ?_ ?_
      · refine jc_draw [⟨some b_1, 25, [(.int .i16 aF0.fSteps), (.slice aF0_fHammers_a aF0.fHammers.length aF0_fHammers_c)]⟩, ⟨(some b_2), 57, row encU32 aD1.1 []⟩, ⟨some b_189, 35, [(.int .i16 i_2), (.slice (o_190.map fun b => ⟨b, 0, none⟩) xs_3.length cap_191)]⟩, ⟨o_190, 176, row encGHammer xs_3 sp_192⟩, ⟨(some b_196), 58, row encU32 a_4.1 []⟩, ⟨o_198, 176, row encGHammer t_7.fHammers sp_200⟩, ⟨some b_203, 35, [(.int .i16 t_7.fSteps), (.slice (o_198.map fun b => ⟨b, 0, none⟩) t_7.fHammers.length cap_199)]⟩] 14 (by kernel_rfl) (by kernel_rfl) ?_
        refine jd_f [⟨0, 6, 0⟩, ⟨3, 0, 0⟩] 12 (by kernel_rfl) (by kernel_rfl) (fun w h => h.pick [0, 1, 2, 3, 4, 5, 6] (by kernel_rfl) (by kernel_rfl)) (by kernel_rfl) (by kernel_rfl) ?_
        refine jd_v 1 0 (by kernel_rfl) (fun w h => h.pick [0, 1, 2, 3, 4, 5, 6] (by kernel_rfl) (by kernel_rfl)) (by kernel_rfl) (by kernel_rfl) _ (fun w hm => ld_run (b := b_2) (off := 0) (s := 96) (agg := true) (vs := row encU32 aD1.1 []) (by kernel_rfl) ((row_len encU32_len aD1).trans rfl) (.inl rfl) (hm.all (hh := 1) (T := 57) (by kernel_rfl))) ?_
        refine toD3 2 9 10 (by kernel_rfl) ?_ ?_ ?_
        · obtain ⟨t_39, ht_799, h⟩ := bd h
          refine p_call 0 31 #[(.agg (row encU32 aD1.1 []).toArray)] (by kernel_rfl) (by kernel_rfl) (fun w hm => laws_toDrum.calls aD1 w _ ht_799) ?_
          rintro w v w' hm ⟨rfl, hm'⟩
          refine ⟨_, hm.app hm', jkD (fun w h => h.pick [0, 1, 2, 3, 4, 5, 6] (by kernel_rfl) (by kernel_rfl)) ?_⟩
          clear hm hm'
          refine toD3 4 9 10 (by kernel_rfl) ?_ ?_ ?_
          · obtain ⟨t_40, ht_800, h⟩ := bd h
            refine p_call 0 32 #[(.agg #[(.int .i16 t_7.fSteps), (.slice (o_198.map fun b => ⟨b, 0, none⟩) t_7.fHammers.length cap_199)]), (.agg (row encU32 t_39.1 []).toArray), (.int .i64 aTrack2)] (by kernel_rfl) (by kernel_rfl) (fun w hm => impl_WithoutTrack.calls t_7 t_39 aTrack2 w _ (o_198.map fun b => ⟨b, 0, none⟩) t_7.fHammers.length cap_199 (hm.ownRow (hh := 5) (o := o_198) (T := 176) (enc := encGHammer) (xs := t_7.fHammers) (sp := sp_200) (by kernel_rfl) (fun e => (ho_202 e).1) encGHammer_len) rfl ht_800) ?_
            rintro w v w' hm ⟨o_801, cap_802, sp_803, _, rfl, hs_804, ho_805, rfl, hm'⟩
            refine ⟨_, hm.app hm', jkD (fun w h => h.pick [0, 1, 2, 3, 4, 5, 6] (by kernel_rfl) (by kernel_rfl)) ?_⟩
            clear hm hm'
            refine jd_f [⟨5, 0, 0⟩, ⟨6, 0, 0⟩, ⟨7, 0, 0⟩, ⟨8, 0, 0⟩] 5 (by kernel_rfl) (by kernel_rfl) (fun w h => h.pick [0, 1, 2, 3, 4, 5, 6] (by kernel_rfl) (by kernel_rfl)) (by kernel_rfl) (by kernel_rfl) ?_
            refine toD2 9 10 (by kernel_rfl) ?_ ?_
            · refine p_a 0 [0] (by kernel_rfl) (fun b => by kernel_rfl) (fun b_806 => jkD (fun w h => h.pick [0, 1, 2, 3, 4, 5, 6] (by kernel_rfl) (by kernel_rfl)) ?_)
              refine toD 10 (by kernel_rfl) (p_a 0 [0] (by kernel_rfl) (fun b => by kernel_rfl) (fun b_807 => jkD (fun w h => h.pick [0, 1, 2, 3, 4, 5, 6] (by kernel_rfl) (by kernel_rfl)) ?_))
              refine toD 11 (by kernel_rfl) (p_s 0 [8] (by kernel_rfl) (by kernel_rfl) (jkD (fun w h => h.pick [0, 1, 2, 3, 4, 5, 6] (by kernel_rfl) (by kernel_rfl)) ?_))
              refine toD 12 (by kernel_rfl) (p_sA 0 9 b_807 96 1 58 encU32 (Arr.rep 96 0) t_40.2.1 (by kernel_rfl) (by kernel_rfl) (by kernel_rfl) encU32_len encU32_cell (by kernel_rfl) (jkD (fun w h => h.pick [0, 1, 2, 3, 4, 5, 6] (by kernel_rfl) (by kernel_rfl)) ?_))
              refine jd_f [⟨13, 0, 0⟩] 0 (by kernel_rfl) (by kernel_rfl) (fun w h => h.pick [0, 1, 2, 3, 4, 5, 6] (by kernel_rfl) (by kernel_rfl)) (by kernel_rfl) (by kernel_rfl) ?_
              refine jd_end (by kernel_rfl) ?_
              exact jx_meet ⟨t_40.1.fSteps, t_40.1.fHammers, t_40.2.1, t_40.2.2, b_806, o_801, cap_802, sp_803, t_40.1.fHammers.length, b_807⟩ ⟨h, rfl, hs_804, ho_805⟩ (by kernel_rfl) [0, 1, 2, 3, 4, 5, 6, 8, 7, 9] (by kernel_rfl) (by kernel_rfl)
            · refine p_a 0 [0] (by kernel_rfl) (fun b => by kernel_rfl) (fun b_808 => jkD (fun w h => h.pick [0, 1, 2, 3, 4, 5, 6] (by kernel_rfl) (by kernel_rfl)) ?_)
              refine toD 9 (by kernel_rfl) (p_a 0 [0] (by kernel_rfl) (fun b => by kernel_rfl) (fun b_809 => jkD (fun w h => h.pick [0, 1, 2, 3, 4, 5, 6] (by kernel_rfl) (by kernel_rfl)) ?_))
              refine toD 11 (by kernel_rfl) (p_s 0 [9] (by kernel_rfl) (by kernel_rfl) (jkD (fun w h => h.pick [0, 1, 2, 3, 4, 5, 6] (by kernel_rfl) (by kernel_rfl)) ?_))
              refine toD 12 (by kernel_rfl) (p_sA 0 8 b_808 96 1 58 encU32 (Arr.rep 96 0) t_40.2.1 (by kernel_rfl) (by kernel_rfl) (by kernel_rfl) encU32_len encU32_cell (by kernel_rfl) (jkD (fun w h => h.pick [0, 1, 2, 3, 4, 5, 6] (by kernel_rfl) (by kernel_rfl)) ?_))
              refine jd_f [⟨13, 0, 0⟩] 0 (by kernel_rfl) (by kernel_rfl) (fun w h => h.pick [0, 1, 2, 3, 4, 5, 6] (by kernel_rfl) (by kernel_rfl)) (by kernel_rfl) (by kernel_rfl) ?_
              refine jd_end (by kernel_rfl) ?_
              exact jx_meet ⟨t_40.1.fSteps, t_40.1.fHammers, t_40.2.1, t_40.2.2, b_809, o_801, cap_802, sp_803, t_40.1.fHammers.length, b_808⟩ ⟨h, rfl, hs_804, ho_805⟩ (by kernel_rfl) [0, 1, 2, 3, 4, 5, 6, 9, 7, 8] (by kernel_rfl) (by kernel_rfl)
          · refine p_a 0 [0] (by kernel_rfl) (fun b => by kernel_rfl) (fun b_810 => jkD (fun w h => h.pick [0, 1, 2, 3, 4, 5, 6] (by kernel_rfl) (by kernel_rfl)) ?_)
            refine toD2 4 10 (by kernel_rfl) ?_ ?_
            · obtain ⟨t_40, ht_811, h⟩ := bd h
              refine p_call 0 32 #[(.agg #[(.int .i16 t_7.fSteps), (.slice (o_198.map fun b => ⟨b, 0, none⟩) t_7.fHammers.length cap_199)]), (.agg (row encU32 t_39.1 []).toArray), (.int .i64 aTrack2)] (by kernel_rfl) (by kernel_rfl) (fun w hm => impl_WithoutTrack.calls t_7 t_39 aTrack2 w _ (o_198.map fun b => ⟨b, 0, none⟩) t_7.fHammers.length cap_199 (hm.ownRow (hh := 5) (o := o_198) (T := 176) (enc := encGHammer) (xs := t_7.fHammers) (sp := sp_200) (by kernel_rfl) (fun e => (ho_202 e).1) encGHammer_len) rfl ht_811) ?_
              rintro w v w' hm ⟨o_812, cap_813, sp_814, _, rfl, hs_815, ho_816, rfl, hm'⟩
              refine ⟨_, hm.app hm', jkD (fun w h => h.pick [0, 1, 2, 3, 4, 5, 6] (by kernel_rfl) (by kernel_rfl)) ?_⟩
              clear hm hm'
              refine jd_f [⟨5, 0, 0⟩, ⟨6, 0, 0⟩, ⟨7, 0, 0⟩, ⟨8, 0, 0⟩] 4 (by kernel_rfl) (by kernel_rfl) (fun w h => h.pick [0, 1, 2, 3, 4, 5, 6] (by kernel_rfl) (by kernel_rfl)) (by kernel_rfl) (by kernel_rfl) ?_
              refine toD 10 (by kernel_rfl) (p_a 0 [0] (by kernel_rfl) (fun b => by kernel_rfl) (fun b_817 => jkD (fun w h => h.pick [0, 1, 2, 3, 4, 5, 6] (by kernel_rfl) (by kernel_rfl)) ?_))
              refine toD 11 (by kernel_rfl) (p_s 0 [7] (by kernel_rfl) (by kernel_rfl) (jkD (fun w h => h.pick [0, 1, 2, 3, 4, 5, 6] (by kernel_rfl) (by kernel_rfl)) ?_))
              refine toD 12 (by kernel_rfl) (p_sA 0 9 b_817 96 1 58 encU32 (Arr.rep 96 0) t_40.2.1 (by kernel_rfl) (by kernel_rfl) (by kernel_rfl) encU32_len encU32_cell (by kernel_rfl) (jkD (fun w h => h.pick [0, 1, 2, 3, 4, 5, 6] (by kernel_rfl) (by kernel_rfl)) ?_))
              refine jd_f [⟨13, 0, 0⟩] 0 (by kernel_rfl) (by kernel_rfl) (fun w h => h.pick [0, 1, 2, 3, 4, 5, 6] (by kernel_rfl) (by kernel_rfl)) (by kernel_rfl) (by kernel_rfl) ?_
              refine jd_end (by kernel_rfl) ?_
              exact jx_meet ⟨t_40.1.fSteps, t_40.1.fHammers, t_40.2.1, t_40.2.2, b_810, o_812, cap_813, sp_814, t_40.1.fHammers.length, b_817⟩ ⟨h, rfl, hs_815, ho_816⟩ (by kernel_rfl) [0, 1, 2, 3, 4, 5, 6, 7, 8, 9] (by kernel_rfl) (by kernel_rfl)
            · refine p_a 0 [0] (by kernel_rfl) (fun b => by kernel_rfl) (fun b_818 => jkD (fun w h => h.pick [0, 1, 2, 3, 4, 5, 6] (by kernel_rfl) (by kernel_rfl)) ?_)
              obtain ⟨t_40, ht_819, h⟩ := bd h
              refine toD 4 (by kernel_rfl) (p_call 0 32 #[(.agg #[(.int .i16 t_7.fSteps), (.slice (o_198.map fun b => ⟨b, 0, none⟩) t_7.fHammers.length cap_199)]), (.agg (row encU32 t_39.1 []).toArray), (.int .i64 aTrack2)] (by kernel_rfl) (by kernel_rfl) (fun w hm => impl_WithoutTrack.calls t_7 t_39 aTrack2 w _ (o_198.map fun b => ⟨b, 0, none⟩) t_7.fHammers.length cap_199 (hm.ownRow (hh := 5) (o := o_198) (T := 176) (enc := encGHammer) (xs := t_7.fHammers) (sp := sp_200) (by kernel_rfl) (fun e => (ho_202 e).1) encGHammer_len) rfl ht_819) ?_)
              rintro w v w' hm ⟨o_820, cap_821, sp_822, _, rfl, hs_823, ho_824, rfl, hm'⟩
              refine ⟨_, hm.app hm', jkD (fun w h => h.pick [0, 1, 2, 3, 4, 5, 6] (by kernel_rfl) (by kernel_rfl)) ?_⟩
              clear hm hm'
              refine jd_f [⟨5, 0, 0⟩, ⟨6, 0, 0⟩, ⟨7, 0, 0⟩, ⟨8, 0, 0⟩] 3 (by kernel_rfl) (by kernel_rfl) (fun w h => h.pick [0, 1, 2, 3, 4, 5, 6] (by kernel_rfl) (by kernel_rfl)) (by kernel_rfl) (by kernel_rfl) ?_
              refine toD 11 (by kernel_rfl) (p_s 0 [7] (by kernel_rfl) (by kernel_rfl) (jkD (fun w h => h.pick [0, 1, 2, 3, 4, 5, 6] (by kernel_rfl) (by kernel_rfl)) ?_))
              refine toD 12 (by kernel_rfl) (p_sA 0 8 b_818 96 1 58 encU32 (Arr.rep 96 0) t_40.2.1 (by kernel_rfl) (by kernel_rfl) (by kernel_rfl) encU32_len encU32_cell (by kernel_rfl) (jkD (fun w h => h.pick [0, 1, 2, 3, 4, 5, 6] (by kernel_rfl) (by kernel_rfl)) ?_))
              refine jd_f [⟨13, 0, 0⟩] 0 (by kernel_rfl) (by kernel_rfl) (fun w h => h.pick [0, 1, 2, 3, 4, 5, 6] (by kernel_rfl) (by kernel_rfl)) (by kernel_rfl) (by kernel_rfl) ?_
              refine jd_end (by kernel_rfl) ?_
              exact jx_meet ⟨t_40.1.fSteps, t_40.1.fHammers, t_40.2.1, t_40.2.2, b_810, o_820, cap_821, sp_822, t_40.1.fHammers.length, b_818⟩ ⟨h, rfl, hs_823, ho_824⟩ (by kernel_rfl) [0, 1, 2, 3, 4, 5, 6, 7, 9, 8] (by kernel_rfl) (by kernel_rfl)
          · refine p_a 0 [0] (by kernel_rfl) (fun b => by kernel_rfl) (fun b_825 => jkD (fun w h => h.pick [0, 1, 2, 3, 4, 5, 6] (by kernel_rfl) (by kernel_rfl)) ?_)
            refine toD2 4 9 (by kernel_rfl) ?_ ?_
            · obtain ⟨t_40, ht_826, h⟩ := bd h
              refine p_call 0 32 #[(.agg #[(.int .i16 t_7.fSteps), (.slice (o_198.map fun b => ⟨b, 0, none⟩) t_7.fHammers.length cap_199)]), (.agg (row encU32 t_39.1 []).toArray), (.int .i64 aTrack2)] (by kernel_rfl) (by kernel_rfl) (fun w hm => impl_WithoutTrack.calls t_7 t_39 aTrack2 w _ (o_198.map fun b => ⟨b, 0, none⟩) t_7.fHammers.length cap_199 (hm.ownRow (hh := 5) (o := o_198) (T := 176) (enc := encGHammer) (xs := t_7.fHammers) (sp := sp_200) (by kernel_rfl) (fun e => (ho_202 e).1) encGHammer_len) rfl ht_826) ?_
              rintro w v w' hm ⟨o_827, cap_828, sp_829, _, rfl, hs_830, ho_831, rfl, hm'⟩
              refine ⟨_, hm.app hm', jkD (fun w h => h.pick [0, 1, 2, 3, 4, 5, 6] (by kernel_rfl) (by kernel_rfl)) ?_⟩
              clear hm hm'
              refine jd_f [⟨5, 0, 0⟩, ⟨6, 0, 0⟩, ⟨7, 0, 0⟩, ⟨8, 0, 0⟩] 4 (by kernel_rfl) (by kernel_rfl) (fun w h => h.pick [0, 1, 2, 3, 4, 5, 6] (by kernel_rfl) (by kernel_rfl)) (by kernel_rfl) (by kernel_rfl) ?_
              refine toD 9 (by kernel_rfl) (p_a 0 [0] (by kernel_rfl) (fun b => by kernel_rfl) (fun b_832 => jkD (fun w h => h.pick [0, 1, 2, 3, 4, 5, 6] (by kernel_rfl) (by kernel_rfl)) ?_))
              refine toD 11 (by kernel_rfl) (p_s 0 [9] (by kernel_rfl) (by kernel_rfl) (jkD (fun w h => h.pick [0, 1, 2, 3, 4, 5, 6] (by kernel_rfl) (by kernel_rfl)) ?_))
              refine toD 12 (by kernel_rfl) (p_sA 0 7 b_825 96 1 58 encU32 (Arr.rep 96 0) t_40.2.1 (by kernel_rfl) (by kernel_rfl) (by kernel_rfl) encU32_len encU32_cell (by kernel_rfl) (jkD (fun w h => h.pick [0, 1, 2, 3, 4, 5, 6] (by kernel_rfl) (by kernel_rfl)) ?_))
              refine jd_f [⟨13, 0, 0⟩] 0 (by kernel_rfl) (by kernel_rfl) (fun w h => h.pick [0, 1, 2, 3, 4, 5, 6] (by kernel_rfl) (by kernel_rfl)) (by kernel_rfl) (by kernel_rfl) ?_
              refine jd_end (by kernel_rfl) ?_
              exact jx_meet ⟨t_40.1.fSteps, t_40.1.fHammers, t_40.2.1, t_40.2.2, b_832, o_827, cap_828, sp_829, t_40.1.fHammers.length, b_825⟩ ⟨h, rfl, hs_830, ho_831⟩ (by kernel_rfl) [0, 1, 2, 3, 4, 5, 6, 9, 8, 7] (by kernel_rfl) (by kernel_rfl)
            · refine p_a 0 [0] (by kernel_rfl) (fun b => by kernel_rfl) (fun b_833 => jkD (fun w h => h.pick [0, 1, 2, 3, 4, 5, 6] (by kernel_rfl) (by kernel_rfl)) ?_)
              obtain ⟨t_40, ht_834, h⟩ := bd h
              refine toD 4 (by kernel_rfl) (p_call 0 32 #[(.agg #[(.int .i16 t_7.fSteps), (.slice (o_198.map fun b => ⟨b, 0, none⟩) t_7.fHammers.length cap_199)]), (.agg (row encU32 t_39.1 []).toArray), (.int .i64 aTrack2)] (by kernel_rfl) (by kernel_rfl) (fun w hm => impl_WithoutTrack.calls t_7 t_39 aTrack2 w _ (o_198.map fun b => ⟨b, 0, none⟩) t_7.fHammers.length cap_199 (hm.ownRow (hh := 5) (o := o_198) (T := 176) (enc := encGHammer) (xs := t_7.fHammers) (sp := sp_200) (by kernel_rfl) (fun e => (ho_202 e).1) encGHammer_len) rfl ht_834) ?_)
              rintro w v w' hm ⟨o_835, cap_836, sp_837, _, rfl, hs_838, ho_839, rfl, hm'⟩
              refine ⟨_, hm.app hm', jkD (fun w h => h.pick [0, 1, 2, 3, 4, 5, 6] (by kernel_rfl) (by kernel_rfl)) ?_⟩
              clear hm hm'
              refine jd_f [⟨5, 0, 0⟩, ⟨6, 0, 0⟩, ⟨7, 0, 0⟩, ⟨8, 0, 0⟩] 3 (by kernel_rfl) (by kernel_rfl) (fun w h => h.pick [0, 1, 2, 3, 4, 5, 6] (by kernel_rfl) (by kernel_rfl)) (by kernel_rfl) (by kernel_rfl) ?_
              refine toD 11 (by kernel_rfl) (p_s 0 [8] (by kernel_rfl) (by kernel_rfl) (jkD (fun w h => h.pick [0, 1, 2, 3, 4, 5, 6] (by kernel_rfl) (by kernel_rfl)) ?_))
              refine toD 12 (by kernel_rfl) (p_sA 0 7 b_825 96 1 58 encU32 (Arr.rep 96 0) t_40.2.1 (by kernel_rfl) (by kernel_rfl) (by kernel_rfl) encU32_len encU32_cell (by kernel_rfl) (jkD (fun w h => h.pick [0, 1, 2, 3, 4, 5, 6] (by kernel_rfl) (by kernel_rfl)) ?_))
              refine jd_f [⟨13, 0, 0⟩] 0 (by kernel_rfl) (by kernel_rfl) (fun w h => h.pick [0, 1, 2, 3, 4, 5, 6] (by kernel_rfl) (by kernel_rfl)) (by kernel_rfl) (by kernel_rfl) ?_
              refine jd_end (by kernel_rfl) ?_
              exact jx_meet ⟨t_40.1.fSteps, t_40.1.fHammers, t_40.2.1, t_40.2.2, b_833, o_835, cap_836, sp_837, t_40.1.fHammers.length, b_825⟩ ⟨h, rfl, hs_838, ho_839⟩ (by kernel_rfl) [0, 1, 2, 3, 4, 5, 6, 8, 9, 7] (by kernel_rfl) (by kernel_rfl)
        · refine p_a 0 [0] (by kernel_rfl) (fun b => by kernel_rfl) (fun b_840 => jkD (fun w h => h.pick [0, 1, 2, 3, 4, 5, 6] (by kernel_rfl) (by kernel_rfl)) ?_)
          refine toD2 2 10 (by kernel_rfl) ?_ ?_
          · obtain ⟨t_39, ht_841, h⟩ := bd h
            refine p_call 0 31 #[(.agg (row encU32 aD1.1 []).toArray)] (by kernel_rfl) (by kernel_rfl) (fun w hm => laws_toDrum.calls aD1 w _ ht_841) ?_
            rintro w v w' hm ⟨rfl, hm'⟩
            refine ⟨_, hm.app hm', jkD (fun w h => h.pick [0, 1, 2, 3, 4, 5, 6] (by kernel_rfl) (by kernel_rfl)) ?_⟩
            clear hm hm'
            refine toD2 4 10 (by kernel_rfl) ?_ ?_
            · obtain ⟨t_40, ht_842, h⟩ := bd h
              refine p_call 0 32 #[(.agg #[(.int .i16 t_7.fSteps), (.slice (o_198.map fun b => ⟨b, 0, none⟩) t_7.fHammers.length cap_199)]), (.agg (row encU32 t_39.1 []).toArray), (.int .i64 aTrack2)] (by kernel_rfl) (by kernel_rfl) (fun w hm => impl_WithoutTrack.calls t_7 t_39 aTrack2 w _ (o_198.map fun b => ⟨b, 0, none⟩) t_7.fHammers.length cap_199 (hm.ownRow (hh := 5) (o := o_198) (T := 176) (enc := encGHammer) (xs := t_7.fHammers) (sp := sp_200) (by kernel_rfl) (fun e => (ho_202 e).1) encGHammer_len) rfl ht_842) ?_
              rintro w v w' hm ⟨o_843, cap_844, sp_845, _, rfl, hs_846, ho_847, rfl, hm'⟩
              refine ⟨_, hm.app hm', jkD (fun w h => h.pick [0, 1, 2, 3, 4, 5, 6] (by kernel_rfl) (by kernel_rfl)) ?_⟩
              clear hm hm'
              refine jd_f [⟨5, 0, 0⟩, ⟨6, 0, 0⟩, ⟨7, 0, 0⟩, ⟨8, 0, 0⟩] 4 (by kernel_rfl) (by kernel_rfl) (fun w h => h.pick [0, 1, 2, 3, 4, 5, 6] (by kernel_rfl) (by kernel_rfl)) (by kernel_rfl) (by kernel_rfl) ?_
              refine toD 10 (by kernel_rfl) (p_a 0 [0] (by kernel_rfl) (fun b => by kernel_rfl) (fun b_848 => jkD (fun w h => h.pick [0, 1, 2, 3, 4, 5, 6] (by kernel_rfl) (by kernel_rfl)) ?_))
              refine toD 11 (by kernel_rfl) (p_s 0 [7] (by kernel_rfl) (by kernel_rfl) (jkD (fun w h => h.pick [0, 1, 2, 3, 4, 5, 6] (by kernel_rfl) (by kernel_rfl)) ?_))
              refine toD 12 (by kernel_rfl) (p_sA 0 9 b_848 96 1 58 encU32 (Arr.rep 96 0) t_40.2.1 (by kernel_rfl) (by kernel_rfl) (by kernel_rfl) encU32_len encU32_cell (by kernel_rfl) (jkD (fun w h => h.pick [0, 1, 2, 3, 4, 5, 6] (by kernel_rfl) (by kernel_rfl)) ?_))
              refine jd_f [⟨13, 0, 0⟩] 0 (by kernel_rfl) (by kernel_rfl) (fun w h => h.pick [0, 1, 2, 3, 4, 5, 6] (by kernel_rfl) (by kernel_rfl)) (by kernel_rfl) (by kernel_rfl) ?_
              refine jd_end (by kernel_rfl) ?_
              exact jx_meet ⟨t_40.1.fSteps, t_40.1.fHammers, t_40.2.1, t_40.2.2, b_840, o_843, cap_844, sp_845, t_40.1.fHammers.length, b_848⟩ ⟨h, rfl, hs_846, ho_847⟩ (by kernel_rfl) [0, 1, 2, 3, 4, 5, 6, 7, 8, 9] (by kernel_rfl) (by kernel_rfl)
            · refine p_a 0 [0] (by kernel_rfl) (fun b => by kernel_rfl) (fun b_849 => jkD (fun w h => h.pick [0, 1, 2, 3, 4, 5, 6] (by kernel_rfl) (by kernel_rfl)) ?_)
              obtain ⟨t_40, ht_850, h⟩ := bd h
              refine toD 4 (by kernel_rfl) (p_call 0 32 #[(.agg #[(.int .i16 t_7.fSteps), (.slice (o_198.map fun b => ⟨b, 0, none⟩) t_7.fHammers.length cap_199)]), (.agg (row encU32 t_39.1 []).toArray), (.int .i64 aTrack2)] (by kernel_rfl) (by kernel_rfl) (fun w hm => impl_WithoutTrack.calls t_7 t_39 aTrack2 w _ (o_198.map fun b => ⟨b, 0, none⟩) t_7.fHammers.length cap_199 (hm.ownRow (hh := 5) (o := o_198) (T := 176) (enc := encGHammer) (xs := t_7.fHammers) (sp := sp_200) (by kernel_rfl) (fun e => (ho_202 e).1) encGHammer_len) rfl ht_850) ?_)
              rintro w v w' hm ⟨o_851, cap_852, sp_853, _, rfl, hs_854, ho_855, rfl, hm'⟩
              refine ⟨_, hm.app hm', jkD (fun w h => h.pick [0, 1, 2, 3, 4, 5, 6] (by kernel_rfl) (by kernel_rfl)) ?_⟩
              clear hm hm'
              refine jd_f [⟨5, 0, 0⟩, ⟨6, 0, 0⟩, ⟨7, 0, 0⟩, ⟨8, 0, 0⟩] 3 (by kernel_rfl) (by kernel_rfl) (fun w h => h.pick [0, 1, 2, 3, 4, 5, 6] (by kernel_rfl) (by kernel_rfl)) (by kernel_rfl) (by kernel_rfl) ?_
              refine toD 11 (by kernel_rfl) (p_s 0 [7] (by kernel_rfl) (by kernel_rfl) (jkD (fun w h => h.pick [0, 1, 2, 3, 4, 5, 6] (by kernel_rfl) (by kernel_rfl)) ?_))
              refine toD 12 (by kernel_rfl) (p_sA 0 8 b_849 96 1 58 encU32 (Arr.rep 96 0) t_40.2.1 (by kernel_rfl) (by kernel_rfl) (by kernel_rfl) encU32_len encU32_cell (by kernel_rfl) (jkD (fun w h => h.pick [0, 1, 2, 3, 4, 5, 6] (by kernel_rfl) (by kernel_rfl)) ?_))
              refine jd_f [⟨13, 0, 0⟩] 0 (by kernel_rfl) (by kernel_rfl) (fun w h => h.pick [0, 1, 2, 3, 4, 5, 6] (by kernel_rfl) (by kernel_rfl)) (by kernel_rfl) (by kernel_rfl) ?_
              refine jd_end (by kernel_rfl) ?_
              exact jx_meet ⟨t_40.1.fSteps, t_40.1.fHammers, t_40.2.1, t_40.2.2, b_840, o_851, cap_852, sp_853, t_40.1.fHammers.length, b_849⟩ ⟨h, rfl, hs_854, ho_855⟩ (by kernel_rfl) [0, 1, 2, 3, 4, 5, 6, 7, 9, 8] (by kernel_rfl) (by kernel_rfl)
          · refine p_a 0 [0] (by kernel_rfl) (fun b => by kernel_rfl) (fun b_856 => jkD (fun w h => h.pick [0, 1, 2, 3, 4, 5, 6] (by kernel_rfl) (by kernel_rfl)) ?_)
            obtain ⟨t_39, ht_857, h⟩ := bd h
            refine toD 2 (by kernel_rfl) (p_call 0 31 #[(.agg (row encU32 aD1.1 []).toArray)] (by kernel_rfl) (by kernel_rfl) (fun w hm => laws_toDrum.calls aD1 w _ ht_857) ?_)
            rintro w v w' hm ⟨rfl, hm'⟩
            refine ⟨_, hm.app hm', jkD (fun w h => h.pick [0, 1, 2, 3, 4, 5, 6] (by kernel_rfl) (by kernel_rfl)) ?_⟩
            clear hm hm'
            obtain ⟨t_40, ht_858, h⟩ := bd h
            refine toD 4 (by kernel_rfl) (p_call 0 32 #[(.agg #[(.int .i16 t_7.fSteps), (.slice (o_198.map fun b => ⟨b, 0, none⟩) t_7.fHammers.length cap_199)]), (.agg (row encU32 t_39.1 []).toArray), (.int .i64 aTrack2)] (by kernel_rfl) (by kernel_rfl) (fun w hm => impl_WithoutTrack.calls t_7 t_39 aTrack2 w _ (o_198.map fun b => ⟨b, 0, none⟩) t_7.fHammers.length cap_199 (hm.ownRow (hh := 5) (o := o_198) (T := 176) (enc := encGHammer) (xs := t_7.fHammers) (sp := sp_200) (by kernel_rfl) (fun e => (ho_202 e).1) encGHammer_len) rfl ht_858) ?_)
            rintro w v w' hm ⟨o_859, cap_860, sp_861, _, rfl, hs_862, ho_863, rfl, hm'⟩
            refine ⟨_, hm.app hm', jkD (fun w h => h.pick [0, 1, 2, 3, 4, 5, 6] (by kernel_rfl) (by kernel_rfl)) ?_⟩
            clear hm hm'
            refine jd_f [⟨5, 0, 0⟩, ⟨6, 0, 0⟩, ⟨7, 0, 0⟩, ⟨8, 0, 0⟩] 3 (by kernel_rfl) (by kernel_rfl) (fun w h => h.pick [0, 1, 2, 3, 4, 5, 6] (by kernel_rfl) (by kernel_rfl)) (by kernel_rfl) (by kernel_rfl) ?_
            refine toD 11 (by kernel_rfl) (p_s 0 [7] (by kernel_rfl) (by kernel_rfl) (jkD (fun w h => h.pick [0, 1, 2, 3, 4, 5, 6] (by kernel_rfl) (by kernel_rfl)) ?_))
            refine toD 12 (by kernel_rfl) (p_sA 0 8 b_856 96 1 58 encU32 (Arr.rep 96 0) t_40.2.1 (by kernel_rfl) (by kernel_rfl) (by kernel_rfl) encU32_len encU32_cell (by kernel_rfl) (jkD (fun w h => h.pick [0, 1, 2, 3, 4, 5, 6] (by kernel_rfl) (by kernel_rfl)) ?_))
            refine jd_f [⟨13, 0, 0⟩] 0 (by kernel_rfl) (by kernel_rfl) (fun w h => h.pick [0, 1, 2, 3, 4, 5, 6] (by kernel_rfl) (by kernel_rfl)) (by kernel_rfl) (by kernel_rfl) ?_
            refine jd_end (by kernel_rfl) ?_
            exact jx_meet ⟨t_40.1.fSteps, t_40.1.fHammers, t_40.2.1, t_40.2.2, b_840, o_859, cap_860, sp_861, t_40.1.fHammers.length, b_856⟩ ⟨h, rfl, hs_862, ho_863⟩ (by kernel_rfl) [0, 1, 2, 3, 4, 5, 6, 7, 9, 8] (by kernel_rfl) (by kernel_rfl)
        · refine p_a 0 [0] (by kernel_rfl) (fun b => by kernel_rfl) (fun b_864 => jkD (fun w h => h.pick [0, 1, 2, 3, 4, 5, 6] (by kernel_rfl) (by kernel_rfl)) ?_)
          refine toD2 2 9 (by kernel_rfl) ?_ ?_
          · obtain ⟨t_39, ht_865, h⟩ := bd h
            refine p_call 0 31 #[(.agg (row encU32 aD1.1 []).toArray)] (by kernel_rfl) (by kernel_rfl) (fun w hm => laws_toDrum.calls aD1 w _ ht_865) ?_
            rintro w v w' hm ⟨rfl, hm'⟩
            refine ⟨_, hm.app hm', jkD (fun w h => h.pick [0, 1, 2, 3, 4, 5, 6] (by kernel_rfl) (by kernel_rfl)) ?_⟩
            clear hm hm'
            refine toD2 4 9 (by kernel_rfl) ?_ ?_
            · obtain ⟨t_40, ht_866, h⟩ := bd h
              refine p_call 0 32 #[(.agg #[(.int .i16 t_7.fSteps), (.slice (o_198.map fun b => ⟨b, 0, none⟩) t_7.fHammers.length cap_199)]), (.agg (row encU32 t_39.1 []).toArray), (.int .i64 aTrack2)] (by kernel_rfl) (by kernel_rfl) (fun w hm => impl_WithoutTrack.calls t_7 t_39 aTrack2 w _ (o_198.map fun b => ⟨b, 0, none⟩) t_7.fHammers.length cap_199 (hm.ownRow (hh := 5) (o := o_198) (T := 176) (enc := encGHammer) (xs := t_7.fHammers) (sp := sp_200) (by kernel_rfl) (fun e => (ho_202 e).1) encGHammer_len) rfl ht_866) ?_
              rintro w v w' hm ⟨o_867, cap_868, sp_869, _, rfl, hs_870, ho_871, rfl, hm'⟩
              refine ⟨_, hm.app hm', jkD (fun w h => h.pick [0, 1, 2, 3, 4, 5, 6] (by kernel_rfl) (by kernel_rfl)) ?_⟩
              clear hm hm'
              refine jd_f [⟨5, 0, 0⟩, ⟨6, 0, 0⟩, ⟨7, 0, 0⟩, ⟨8, 0, 0⟩] 4 (by kernel_rfl) (by kernel_rfl) (fun w h => h.pick [0, 1, 2, 3, 4, 5, 6] (by kernel_rfl) (by kernel_rfl)) (by kernel_rfl) (by kernel_rfl) ?_
              refine toD 9 (by kernel_rfl) (p_a 0 [0] (by kernel_rfl) (fun b => by kernel_rfl) (fun b_872 => jkD (fun w h => h.pick [0, 1, 2, 3, 4, 5, 6] (by kernel_rfl) (by kernel_rfl)) ?_))
              refine toD 11 (by kernel_rfl) (p_s 0 [9] (by kernel_rfl) (by kernel_rfl) (jkD (fun w h => h.pick [0, 1, 2, 3, 4, 5, 6] (by kernel_rfl) (by kernel_rfl)) ?_))
              refine toD 12 (by kernel_rfl) (p_sA 0 7 b_864 96 1 58 encU32 (Arr.rep 96 0) t_40.2.1 (by kernel_rfl) (by kernel_rfl) (by kernel_rfl) encU32_len encU32_cell (by kernel_rfl) (jkD (fun w h => h.pick [0, 1, 2, 3, 4, 5, 6] (by kernel_rfl) (by kernel_rfl)) ?_))
              refine jd_f [⟨13, 0, 0⟩] 0 (by kernel_rfl) (by kernel_rfl) (fun w h => h.pick [0, 1, 2, 3, 4, 5, 6] (by kernel_rfl) (by kernel_rfl)) (by kernel_rfl) (by kernel_rfl) ?_
              refine jd_end (by kernel_rfl) ?_
              exact jx_meet ⟨t_40.1.fSteps, t_40.1.fHammers, t_40.2.1, t_40.2.2, b_872, o_867, cap_868, sp_869, t_40.1.fHammers.length, b_864⟩ ⟨h, rfl, hs_870, ho_871⟩ (by kernel_rfl) [0, 1, 2, 3, 4, 5, 6, 9, 8, 7] (by kernel_rfl) (by kernel_rfl)
            · refine p_a 0 [0] (by kernel_rfl) (fun b => by kernel_rfl) (fun b_873 => jkD (fun w h => h.pick [0, 1, 2, 3, 4, 5, 6] (by kernel_rfl) (by kernel_rfl)) ?_)
              obtain ⟨t_40, ht_874, h⟩ := bd h
              refine toD 4 (by kernel_rfl) (p_call 0 32 #[(.agg #[(.int .i16 t_7.fSteps), (.slice (o_198.map fun b => ⟨b, 0, none⟩) t_7.fHammers.length cap_199)]), (.agg (row encU32 t_39.1 []).toArray), (.int .i64 aTrack2)] (by kernel_rfl) (by kernel_rfl) (fun w hm => impl_WithoutTrack.calls t_7 t_39 aTrack2 w _ (o_198.map fun b => ⟨b, 0, none⟩) t_7.fHammers.length cap_199 (hm.ownRow (hh := 5) (o := o_198) (T := 176) (enc := encGHammer) (xs := t_7.fHammers) (sp := sp_200) (by kernel_rfl) (fun e => (ho_202 e).1) encGHammer_len) rfl ht_874) ?_)
              rintro w v w' hm ⟨o_875, cap_876, sp_877, _, rfl, hs_878, ho_879, rfl, hm'⟩
              refine ⟨_, hm.app hm', jkD (fun w h => h.pick [0, 1, 2, 3, 4, 5, 6] (by kernel_rfl) (by kernel_rfl)) ?_⟩
              clear hm hm'
              refine jd_f [⟨5, 0, 0⟩, ⟨6, 0, 0⟩, ⟨7, 0, 0⟩, ⟨8, 0, 0⟩] 3 (by kernel_rfl) (by kernel_rfl) (fun w h => h.pick [0, 1, 2, 3, 4, 5, 6] (by kernel_rfl) (by kernel_rfl)) (by kernel_rfl) (by kernel_rfl) ?_
              refine toD 11 (by kernel_rfl) (p_s 0 [8] (by kernel_rfl) (by kernel_rfl) (jkD (fun w h => h.pick [0, 1, 2, 3, 4, 5, 6] (by kernel_rfl) (by kernel_rfl)) ?_))
              refine toD 12 (by kernel_rfl) (p_sA 0 7 b_864 96 1 58 encU32 (Arr.rep 96 0) t_40.2.1 (by kernel_rfl) (by kernel_rfl) (by kernel_rfl) encU32_len encU32_cell (by kernel_rfl) (jkD (fun w h => h.pick [0, 1, 2, 3, 4, 5, 6] (by kernel_rfl) (by kernel_rfl)) ?_))
              refine jd_f [⟨13, 0, 0⟩] 0 (by kernel_rfl) (by kernel_rfl) (fun w h => h.pick [0, 1, 2, 3, 4, 5, 6] (by kernel_rfl) (by kernel_rfl)) (by kernel_rfl) (by kernel_rfl) ?_
              refine jd_end (by kernel_rfl) ?_
              exact jx_meet ⟨t_40.1.fSteps, t_40.1.fHammers, t_40.2.1, t_40.2.2, b_873, o_875, cap_876, sp_877, t_40.1.fHammers.length, b_864⟩ ⟨h, rfl, hs_878, ho_879⟩ (by kernel_rfl) [0, 1, 2, 3, 4, 5, 6, 8, 9, 7] (by kernel_rfl) (by kernel_rfl)
          · refine p_a 0 [0] (by kernel_rfl) (fun b => by kernel_rfl) (fun b_880 => jkD (fun w h => h.pick [0, 1, 2, 3, 4, 5, 6] (by kernel_rfl) (by kernel_rfl)) ?_)
            obtain ⟨t_39, ht_881, h⟩ := bd h
            refine toD 2 (by kernel_rfl) (p_call 0 31 #[(.agg (row encU32 aD1.1 []).toArray)] (by kernel_rfl) (by kernel_rfl) (fun w hm => laws_toDrum.calls aD1 w _ ht_881) ?_)
            rintro w v w' hm ⟨rfl, hm'⟩
            refine ⟨_, hm.app hm', jkD (fun w h => h.pick [0, 1, 2, 3, 4, 5, 6] (by kernel_rfl) (by kernel_rfl)) ?_⟩
            clear hm hm'
            obtain ⟨t_40, ht_882, h⟩ := bd h
            refine toD 4 (by kernel_rfl) (p_call 0 32 #[(.agg #[(.int .i16 t_7.fSteps), (.slice (o_198.map fun b => ⟨b, 0, none⟩) t_7.fHammers.length cap_199)]), (.agg (row encU32 t_39.1 []).toArray), (.int .i64 aTrack2)] (by kernel_rfl) (by kernel_rfl) (fun w hm => impl_WithoutTrack.calls t_7 t_39 aTrack2 w _ (o_198.map fun b => ⟨b, 0, none⟩) t_7.fHammers.length cap_199 (hm.ownRow (hh := 5) (o := o_198) (T := 176) (enc := encGHammer) (xs := t_7.fHammers) (sp := sp_200) (by kernel_rfl) (fun e => (ho_202 e).1) encGHammer_len) rfl ht_882) ?_)
            rintro w v w' hm ⟨o_883, cap_884, sp_885, _, rfl, hs_886, ho_887, rfl, hm'⟩
            refine ⟨_, hm.app hm', jkD (fun w h => h.pick [0, 1, 2, 3, 4, 5, 6] (by kernel_rfl) (by kernel_rfl)) ?_⟩
            clear hm hm'
            refine jd_f [⟨5, 0, 0⟩, ⟨6, 0, 0⟩, ⟨7, 0, 0⟩, ⟨8, 0, 0⟩] 3 (by kernel_rfl) (by kernel_rfl) (fun w h => h.pick [0, 1, 2, 3, 4, 5, 6] (by kernel_rfl) (by kernel_rfl)) (by kernel_rfl) (by kernel_rfl) ?_
            refine toD 11 (by kernel_rfl) (p_s 0 [8] (by kernel_rfl) (by kernel_rfl) (jkD (fun w h => h.pick [0, 1, 2, 3, 4, 5, 6] (by kernel_rfl) (by kernel_rfl)) ?_))
            refine toD 12 (by kernel_rfl) (p_sA 0 7 b_864 96 1 58 encU32 (Arr.rep 96 0) t_40.2.1 (by kernel_rfl) (by kernel_rfl) (by kernel_rfl) encU32_len encU32_cell (by kernel_rfl) (jkD (fun w h => h.pick [0, 1, 2, 3, 4, 5, 6] (by kernel_rfl) (by kernel_rfl)) ?_))
            refine jd_f [⟨13, 0, 0⟩] 0 (by kernel_rfl) (by kernel_rfl) (fun w h => h.pick [0, 1, 2, 3, 4, 5, 6] (by kernel_rfl) (by kernel_rfl)) (by kernel_rfl) (by kernel_rfl) ?_
            refine jd_end (by kernel_rfl) ?_
            exact jx_meet ⟨t_40.1.fSteps, t_40.1.fHammers, t_40.2.1, t_40.2.2, b_880, o_883, cap_884, sp_885, t_40.1.fHammers.length, b_864⟩ ⟨h, rfl, hs_886, ho_887⟩ (by kernel_rfl) [0, 1, 2, 3, 4, 5, 6, 8, 9, 7] (by kernel_rfl) (by kernel_rfl)
      · rintro ⟨i_8, xs_9, a_10, i_11, b_293, o_294, cap_295, sp_296, n_297, b_300⟩ ⟨h, rfl, hs_298, ho_299⟩
        replace h : laws_FnExactWithoutTrack.k_12 aF0 aD1 aTrack2 i_2 xs_3 a_4 i_5 t_7 i_8 xs_9 a_10 i_11 = some r := h
        rw [laws_FnExactWithoutTrack.k_12] at h
        refine jx_then ?_
        refine jc_seq ?_
        refine jc_seq ?_
        refine jc_meet (fun (j : Bool) => match j with | q_13 => laws_FnExactWithoutTrack.k_14 aF0 aD1 aTrack2 i_2 xs_3 a_4 i_5 t_7 i_8 xs_9 a_10 i_11 q_13 = some r) (fun (j : Bool) => match j with | q_13 => [(2, [], (.int .i64 aTrack2)), (3, [], (.pointer (some ⟨b_1, 0, none⟩))), (4, [], (.pointer (some ⟨b_2, 0, none⟩))), (6, [], (.bool false)), (8, [], (.pointer (some ⟨b_189, 0, none⟩))), (9, [], (.pointer (some ⟨b_196, 0, none⟩))), (10, [], (.int .i64 i_5)), (11, [], (.pointer (some ⟨b_203, 0, none⟩))), (12, [], (.pointer (some ⟨b_293, 0, none⟩))), (13, [], (.pointer (some ⟨b_300, 0, none⟩))), (14, [], (.int .i64 i_11)), (61, [], (.bool q_13))]) (fun (j : Bool) => match j with | q_13 => [⟨some b_1, 25, [(.int .i16 aF0.fSteps), (.slice aF0_fHammers_a aF0.fHammers.length aF0_fHammers_c)]⟩, ⟨(some b_2), 57, row encU32 aD1.1 []⟩, ⟨some b_189, 35, [(.int .i16 i_2), (.slice (o_190.map fun b => ⟨b, 0, none⟩) xs_3.length cap_191)]⟩, ⟨o_190, 176, row encGHammer xs_3 sp_192⟩, ⟨(some b_196), 58, row encU32 a_4.1 []⟩, ⟨o_198, 176, row encGHammer t_7.fHammers sp_200⟩, ⟨some b_203, 35, [(.int .i16 t_7.fSteps), (.slice (o_198.map fun b => ⟨b, 0, none⟩) t_7.fHammers.length cap_199)]⟩, ⟨some b_293, 35, [(.int .i16 i_8), (.slice (o_294.map fun b => ⟨b, 0, none⟩) xs_9.length cap_295)]⟩, ⟨o_294, 176, row encGHammer xs_9 sp_296⟩, ⟨(some b_300), 58, row encU32 a_10.1 []⟩]) ?_ ?_
        · refine jc_region ?_
          refine jo_f [(7, 0), (2, 0)] (by kernel_rfl) ?_
          obtain ⟨t_37, ht_796, h⟩ := bd h
          refine toO (by kernel_rfl) (p_call 0 21 #[(.agg #[(.int .i16 i_8), (.slice (o_294.map fun b => ⟨b, 0, none⟩) xs_9.length cap_295)]), (.agg #[(.int .i16 i_2), (.slice (o_190.map fun b => ⟨b, 0, none⟩) xs_3.length cap_191)])] (by kernel_rfl) (by kernel_rfl) (fun w hm => laws_eqFrame.calls (⟨i_8, xs_9⟩ : GFrame) (⟨i_2, xs_3⟩ : GFrame) w _ (o_294.map fun b => ⟨b, 0, none⟩) xs_9.length cap_295 (hm.ownRow (hh := 8) (o := o_294) (T := 176) (enc := encGHammer) (xs := xs_9) (sp := sp_296) (by kernel_rfl) (fun e => (ho_299 e).1) encGHammer_len) rfl (o_190.map fun b => ⟨b, 0, none⟩) xs_3.length cap_191 (hm.ownRow (hh := 3) (o := o_190) (T := 176) (enc := encGHammer) (xs := xs_3) (sp := sp_192) (by kernel_rfl) (fun e => (ho_195 e).1) encGHammer_len) rfl ht_796) ?_)
          rintro w v w' hm ⟨rfl, hm'⟩
          refine ⟨_, hm.app hm', jkO ?_⟩
          clear hm hm'
          refine jo_f [(0, 0), (0, 0)] (by kernel_rfl) ?_
          refine jo_split 51 (!t_37) (by kernel_rfl) (fun hc_797 => ?_) (fun hc_797 => ?_)
          · replace h := ifT hc_797 h
            refine jo_f [(0, 3), (0, 3), (0, 3), (0, 3), (0, 4), (0, 0), (0, 3), (0, 3), (0, 3), (0, 4)] (by kernel_rfl) ?_
            refine jo_end (by kernel_rfl) ?_
            exact jx_meet true h (by kernel_rfl) [0, 1, 2, 3, 4, 5, 6, 7, 8, 9] (by kernel_rfl) (by kernel_rfl)
          · replace h := ifF hc_797 h
            refine toO (by kernel_rfl) (p_ldA 2 9 b_300 96 1 58 encU32 a_10 (by kernel_rfl) (by kernel_rfl) (by kernel_rfl) encU32_len (by kernel_rfl) (jkO ?_))
            refine toO (by kernel_rfl) (p_ldA 2 4 b_196 96 1 58 encU32 a_4 (by kernel_rfl) (by kernel_rfl) (by kernel_rfl) encU32_len (by kernel_rfl) (jkO ?_))
            obtain ⟨t_38, ht_798, h⟩ := bd h
            refine toO (by kernel_rfl) (p_call 2 33 #[(.agg (row encU32 a_10.1 []).toArray), (.agg (row encU32 a_4.1 []).toArray)] (by kernel_rfl) (by kernel_rfl) (fun w hm => laws_eqDrum.calls a_10 a_4 w _ ht_798) ?_)
            rintro w v w' hm ⟨rfl, hm'⟩
            refine ⟨_, hm.app hm', jkO ?_⟩
            clear hm hm'
            refine jo_f [(0, 2), (0, 5), (0, 0), (0, 1), (0, 1), (0, 1), (0, 0)] (by kernel_rfl) ?_
            refine jo_end (by kernel_rfl) ?_
            exact jx_meet ((!t_38) || (i_11 != i_5)) h (by kernel_rfl) [0, 1, 2, 3, 4, 5, 6, 7, 8, 9] (by kernel_rfl) (by kernel_rfl)
        · rintro q_13 h
          replace h : laws_FnExactWithoutTrack.k_14 aF0 aD1 aTrack2 i_2 xs_3 a_4 i_5 t_7 i_8 xs_9 a_10 i_11 q_13 = some r := h
          rw [laws_FnExactWithoutTrack.k_14] at h
          refine jx_then ?_
          refine jc_cond q_13 (by kernel_rfl) (fun hc_311 => ?_) (fun hc_311 => ?_)
          · replace h := ifT hc_311 h
            refine jc_seq ?_
            refine jc_region ?_
            refine jo_f [(0, 0)] (by kernel_rfl) ?_
            refine jo_end (by kernel_rfl) ?_
            refine jx_then ?_
            refine jc_ret ?_
            refine jx_thenr ?_
            obtain rfl := Option.some.inj h
            exact jx_ret [] (.bool false) [] rfl (by kernel_rfl) (by kernel_rfl) (fun w hm => ⟨rfl, hm.pick [] (by kernel_rfl) (by kernel_rfl)⟩)
          · replace h := ifF hc_311 h
            refine jc_skip ?_
            refine jx_then ?_
            refine jc_seq ?_
            refine jc_seq ?_
            refine jc_draw [⟨some b_1, 25, [(.int .i16 aF0.fSteps), (.slice aF0_fHammers_a aF0.fHammers.length aF0_fHammers_c)]⟩, ⟨(some b_2), 57, row encU32 aD1.1 []⟩, ⟨some b_189, 35, [(.int .i16 i_2), (.slice (o_190.map fun b => ⟨b, 0, none⟩) xs_3.length cap_191)]⟩, ⟨o_190, 176, row encGHammer xs_3 sp_192⟩, ⟨(some b_196), 58, row encU32 a_4.1 []⟩, ⟨some b_203, 35, [(.int .i16 t_7.fSteps), (.slice (o_198.map fun b => ⟨b, 0, none⟩) t_7.fHammers.length cap_199)]⟩, ⟨some b_293, 35, [(.int .i16 i_8), (.slice (o_294.map fun b => ⟨b, 0, none⟩) xs_9.length cap_295)]⟩, ⟨(some b_300), 58, row encU32 a_10.1 []⟩] 5 (by kernel_rfl) (by kernel_rfl) ?_
            refine jd_f [⟨0, 5, 0⟩, ⟨1, 0, 0⟩] 3 (by kernel_rfl) (by kernel_rfl) (fun w h => h.pick [0, 1, 2, 3, 4, 6, 7, 9] (by kernel_rfl) (by kernel_rfl)) (by kernel_rfl) (by kernel_rfl) ?_
            obtain ⟨t_15, ht_367, h⟩ := bd h
            refine toD 2 (by kernel_rfl) (p_call 0 17 #[(.agg #[(.int .i16 aF0.fSteps), (.slice aF0_fHammers_a aF0.fHammers.length aF0_fHammers_c)])] (by kernel_rfl) (by kernel_rfl) (fun w hm => laws_toFrame.calls aF0 w _ aF0_fHammers_a aF0.fHammers.length aF0_fHammers_c (hm.exRow aF0_fHammers_h List.not_mem_nil) rfl ht_367) ?_)
            rintro w v w' hm ⟨o_368, cap_369, sp_370, _, rfl, hs_371, ho_372, rfl, hm'⟩
            refine ⟨_, hm.app hm', jkD (fun w h => h.pick [0, 1, 2, 3, 4, 6, 7, 9] (by kernel_rfl) (by kernel_rfl)) ?_⟩
            clear hm hm'
            obtain ⟨t_16, ht_373, h⟩ := bd h
            refine toD 3 (by kernel_rfl) (p_call 0 21 #[(.agg #[(.int .i16 t_7.fSteps), (.slice (o_198.map fun b => ⟨b, 0, none⟩) t_7.fHammers.length cap_199)]), (.agg #[(.int .i16 t_15.fSteps), (.slice (o_368.map fun b => ⟨b, 0, none⟩) t_15.fHammers.length cap_369)])] (by kernel_rfl) (by kernel_rfl) (fun w hm => laws_eqFrame.calls t_7 t_15 w _ (o_198.map fun b => ⟨b, 0, none⟩) t_7.fHammers.length cap_199 (hm.ownRow (hh := 5) (o := o_198) (T := 176) (enc := encGHammer) (xs := t_7.fHammers) (sp := sp_200) (by kernel_rfl) (fun e => (ho_202 e).1) encGHammer_len) rfl (o_368.map fun b => ⟨b, 0, none⟩) t_15.fHammers.length cap_369 (hm.ownRow (hh := 10) (o := o_368) (T := 176) (enc := encGHammer) (xs := t_15.fHammers) (sp := sp_370) (by kernel_rfl) (fun e => (ho_372 e).1) encGHammer_len) rfl ht_373) ?_)
            rintro w v w' hm ⟨rfl, hm'⟩
            refine ⟨_, hm.app hm', jkD (fun w h => h.pick [0, 1, 2, 3, 4, 6, 7, 9] (by kernel_rfl) (by kernel_rfl)) ?_⟩
            clear hm hm'
            refine jd_f [⟨4, 0, 0⟩] 0 (by kernel_rfl) (by kernel_rfl) (fun w h => h.pick [0, 1, 2, 3, 4, 6, 7, 9] (by kernel_rfl) (by kernel_rfl)) (by kernel_rfl) (by kernel_rfl) ?_
            refine jd_end (by kernel_rfl) ?_
            refine jx_then ?_
            refine jc_cond (!t_16) (by kernel_rfl) (fun hc_374 => ?_) (fun hc_374 => ?_)
            · replace h := ifT hc_374 h
              refine jc_seq ?_
              refine jc_region ?_
              refine jo_f [(0, 0)] (by kernel_rfl) ?_
              refine jo_end (by kernel_rfl) ?_
              refine jx_then ?_
              refine jc_ret ?_
              refine jx_thenr ?_
              obtain rfl := Option.some.inj h
              exact jx_ret [] (.bool false) [] rfl (by kernel_rfl) (by kernel_rfl) (fun w hm => ⟨rfl, hm.pick [] (by kernel_rfl) (by kernel_rfl)⟩)
            · replace h := ifF hc_374 h
              refine jc_skip ?_
              refine jx_then ?_
              refine jc_seq ?_
              refine jc_region ?_
              refine jo_f [(0, 0)] (by kernel_rfl) ?_
              refine jo_end (by kernel_rfl) ?_
              refine jx_then ?_
              refine jc_seq ?_
              refine jc_region ?_
              refine jo_f [(6, 0), (0, 0)] (by kernel_rfl) ?_
              obtain ⟨t_17, ht_375, h⟩ := bd h
              refine toO (by kernel_rfl) (p_call 0 22 #[(.agg #[(.int .i16 t_7.fSteps), (.slice (o_198.map fun b => ⟨b, 0, none⟩) t_7.fHammers.length cap_199)]), (.int .i64 1)] (by kernel_rfl) (by kernel_rfl) (fun w hm => laws_markFrame.calls t_7 1 w _ o_198 t_7.fHammers.length cap_199 sp_200 rfl hs_201 ho_202 (hm.pass (N := [⟨o_198, 176, row encGHammer t_7.fHammers sp_200⟩]) [5] (by kernel_rfl) (by kernel_rfl)) ht_375) ?_)
              rintro w v w' hm ⟨hn_376, ho_377, rfl, hm'⟩
              refine ⟨_, hm.appW (ps := [(5, ⟨o_198, 176, row encGHammer t_17.2 sp_200⟩)]) (N := []) hm' (by kernel_rfl) (by kernel_rfl), jkO ?_⟩
              clear hm hm'
              refine jo_f [(0, 0)] (by kernel_rfl) ?_
              refine jo_end (by kernel_rfl) ?_
              refine jx_then ?_
              refine jc_seq ?_
              refine jc_seq ?_
              refine jc_meet (fun (j : Bool) => match j with | q_18 => laws_FnExactWithoutTrack.k_19 aF0 aD1 aTrack2 i_2 xs_3 a_4 i_5 i_8 xs_9 q_18 = some r) (fun (j : Bool) => match j with | q_18 => [(2, [], (.int .i64 aTrack2)), (3, [], (.pointer (some ⟨b_1, 0, none⟩))), (4, [], (.pointer (some ⟨b_2, 0, none⟩))), (6, [], (.bool false)), (8, [], (.pointer (some ⟨b_189, 0, none⟩))), (9, [], (.pointer (some ⟨b_196, 0, none⟩))), (10, [], (.int .i64 i_5)), (12, [], (.pointer (some ⟨b_293, 0, none⟩))), (88, [], (.bool q_18))]) (fun (j : Bool) => match j with | q_18 => [⟨some b_1, 25, [(.int .i16 aF0.fSteps), (.slice aF0_fHammers_a aF0.fHammers.length aF0_fHammers_c)]⟩, ⟨(some b_2), 57, row encU32 aD1.1 []⟩, ⟨some b_189, 35, [(.int .i16 i_2), (.slice (o_190.map fun b => ⟨b, 0, none⟩) xs_3.length cap_191)]⟩, ⟨o_190, 176, row encGHammer xs_3 sp_192⟩, ⟨(some b_196), 58, row encU32 a_4.1 []⟩, ⟨o_198, 176, row encGHammer t_17.2 sp_200⟩, ⟨some b_203, 35, [(.int .i16 t_7.fSteps), (.slice (o_198.map fun b => ⟨b, 0, none⟩) t_7.fHammers.length cap_199)]⟩, ⟨some b_293, 35, [(.int .i16 i_8), (.slice (o_294.map fun b => ⟨b, 0, none⟩) xs_9.length cap_295)]⟩, ⟨o_294, 176, row encGHammer xs_9 sp_296⟩, ⟨(some b_300), 58, row encU32 a_10.1 []⟩, ⟨o_368, 176, row encGHammer t_15.fHammers sp_370⟩]) ?_ ?_
              · refine jc_region ?_
                refine jo_f [(0, 0), (0, 0), (0, 0), (7, 1), (2, 1)] (by kernel_rfl) ?_
                refine jo_split 72 (decide (t_17.1 < 0)) (by kernel_rfl) (fun hc_792 => ?_) (fun hc_792 => ?_)
                · replace h := ifT hc_792 h
                  refine jo_f [(0, 3), (0, 3), (0, 4), (0, 0), (0, 3), (0, 3), (0, 3), (0, 3), (0, 4), (0, 0), (0, 3), (0, 3), (0, 3), (0, 4)] (by kernel_rfl) ?_
                  refine jo_end (by kernel_rfl) ?_
                  exact jx_meet true h (by kernel_rfl) [0, 1, 2, 3, 4, 5, 6, 7, 8, 9, 10] (by kernel_rfl) (by kernel_rfl)
                · replace h := ifF hc_792 h
                  obtain ⟨t_35, ht_793, h⟩ := bd h
                  refine toO (by kernel_rfl) (p_call 2 21 #[(.agg #[(.int .i16 i_8), (.slice (o_294.map fun b => ⟨b, 0, none⟩) xs_9.length cap_295)]), (.agg #[(.int .i16 i_2), (.slice (o_190.map fun b => ⟨b, 0, none⟩) xs_3.length cap_191)])] (by kernel_rfl) (by kernel_rfl) (fun w hm => laws_eqFrame.calls (⟨i_8, xs_9⟩ : GFrame) (⟨i_2, xs_3⟩ : GFrame) w _ (o_294.map fun b => ⟨b, 0, none⟩) xs_9.length cap_295 (hm.ownRow (hh := 8) (o := o_294) (T := 176) (enc := encGHammer) (xs := xs_9) (sp := sp_296) (by kernel_rfl) (fun e => (ho_299 e).1) encGHammer_len) rfl (o_190.map fun b => ⟨b, 0, none⟩) xs_3.length cap_191 (hm.ownRow (hh := 3) (o := o_190) (T := 176) (enc := encGHammer) (xs := xs_3) (sp := sp_192) (by kernel_rfl) (fun e => (ho_195 e).1) encGHammer_len) rfl ht_793) ?_)
                  rintro w v w' hm ⟨rfl, hm'⟩
                  refine ⟨_, hm.app hm', jkO ?_⟩
                  clear hm hm'
                  refine jo_f [(0, 2), (0, 5), (0, 0)] (by kernel_rfl) ?_
                  refine jo_split 78 (!t_35) (by kernel_rfl) (fun hc_794 => ?_) (fun hc_794 => ?_)
                  · replace h := ifT hc_794 h
                    refine jo_f [(0, 3), (0, 3), (0, 3), (0, 3), (0, 4), (0, 0), (0, 3), (0, 3), (0, 3), (0, 4)] (by kernel_rfl) ?_
                    refine jo_end (by kernel_rfl) ?_
                    exact jx_meet true h (by kernel_rfl) [0, 1, 2, 3, 4, 5, 6, 7, 8, 9, 10] (by kernel_rfl) (by kernel_rfl)
                  · replace h := ifF hc_794 h
                    refine toO (by kernel_rfl) (p_ldA 2 9 b_300 96 1 58 encU32 a_10 (by kernel_rfl) (by kernel_rfl) (by kernel_rfl) encU32_len (by kernel_rfl) (jkO ?_))
                    refine toO (by kernel_rfl) (p_ldA 2 4 b_196 96 1 58 encU32 a_4 (by kernel_rfl) (by kernel_rfl) (by kernel_rfl) encU32_len (by kernel_rfl) (jkO ?_))
                    obtain ⟨t_36, ht_795, h⟩ := bd h
                    refine toO (by kernel_rfl) (p_call 2 33 #[(.agg (row encU32 a_10.1 []).toArray), (.agg (row encU32 a_4.1 []).toArray)] (by kernel_rfl) (by kernel_rfl) (fun w hm => laws_eqDrum.calls a_10 a_4 w _ ht_795) ?_)
                    rintro w v w' hm ⟨rfl, hm'⟩
                    refine ⟨_, hm.app hm', jkO ?_⟩
                    clear hm hm'
                    refine jo_f [(0, 2), (0, 5), (0, 0), (0, 1), (0, 1), (0, 1), (0, 0)] (by kernel_rfl) ?_
                    refine jo_end (by kernel_rfl) ?_
                    exact jx_meet ((!t_36) || (i_11 != i_5)) h (by kernel_rfl) [0, 1, 2, 3, 4, 5, 6, 7, 8, 9, 10] (by kernel_rfl) (by kernel_rfl)
              · rintro q_18 h
                replace h : laws_FnExactWithoutTrack.k_19 aF0 aD1 aTrack2 i_2 xs_3 a_4 i_5 i_8 xs_9 q_18 = some r := h
                rw [laws_FnExactWithoutTrack.k_19] at h
                refine jx_then ?_
                refine jc_cond q_18 (by kernel_rfl) (fun hc_391 => ?_) (fun hc_391 => ?_)
                · replace h := ifT hc_391 h
                  refine jc_seq ?_
                  refine jc_region ?_
                  refine jo_f [(0, 0)] (by kernel_rfl) ?_
                  refine jo_end (by kernel_rfl) ?_
                  refine jx_then ?_
                  refine jc_ret ?_
                  refine jx_thenr ?_
                  obtain rfl := Option.some.inj h
                  exact jx_ret [] (.bool false) [] rfl (by kernel_rfl) (by kernel_rfl) (fun w hm => ⟨rfl, hm.pick [] (by kernel_rfl) (by kernel_rfl)⟩)
                · replace h := ifF hc_391 h
                  refine jc_skip ?_
                  refine jx_then ?_
                  refine jc_seq ?_
                  refine jc_region ?_
                  refine jo_f [(0, 0)] (by kernel_rfl) ?_
                  refine jo_end (by kernel_rfl) ?_
                  refine jx_then ?_
                  refine jc_seq ?_
                  refine jc_region ?_
                  refine jo_f [(7, 0), (0, 0)] (by kernel_rfl) ?_
                  obtain ⟨t_20, ht_392, h⟩ := bd h
                  refine toO (by kernel_rfl) (p_call 0 22 #[(.agg #[(.int .i16 i_8), (.slice (o_294.map fun b => ⟨b, 0, none⟩) xs_9.length cap_295)]), (.int .i64 1)] (by kernel_rfl) (by kernel_rfl) (fun w hm => laws_markFrame.calls (⟨i_8, xs_9⟩ : GFrame) 1 w _ o_294 xs_9.length cap_295 sp_296 rfl hs_298 ho_299 (hm.pass (N := [⟨o_294, 176, row encGHammer xs_9 sp_296⟩]) [8] (by kernel_rfl) (by kernel_rfl)) ht_392) ?_)
                  rintro w v w' hm ⟨hn_393, ho_394, rfl, hm'⟩
                  refine ⟨_, hm.appW (ps := [(8, ⟨o_294, 176, row encGHammer t_20.2 sp_296⟩)]) (N := []) hm' (by kernel_rfl) (by kernel_rfl), jkO ?_⟩
                  clear hm hm'
                  refine jo_f [(0, 0)] (by kernel_rfl) ?_
                  refine jo_end (by kernel_rfl) ?_
                  refine jx_then ?_
                  refine jc_seq ?_
                  refine jc_region ?_
                  refine jo_f [(0, 0)] (by kernel_rfl) ?_
                  refine jo_end (by kernel_rfl) ?_
                  refine jx_then ?_
                  refine jc_seq ?_
                  refine jc_region ?_
                  refine jo_f [(7, 0), (0, 0)] (by kernel_rfl) ?_
                  obtain ⟨t_21, ht_395, h⟩ := bd h
                  refine toO (by kernel_rfl) (p_call 0 34 #[(.agg #[(.int .i16 i_8), (.slice (o_294.map fun b => ⟨b, 0, none⟩) xs_9.length cap_295)]), (.int .i64 1)] (by kernel_rfl) (by kernel_rfl) (fun w hm => laws_heldFrame.calls (⟨i_8, t_20.2⟩ : GFrame) 1 w _ (o_294.map fun b => ⟨b, 0, none⟩) xs_9.length cap_295 (hm.ownRow (hh := 8) (o := o_294) (T := 176) (enc := encGHammer) (xs := t_20.2) (sp := sp_296) (by kernel_rfl) (fun e => (ho_394 e).1) encGHammer_len) hn_393 ht_395) ?_)
                  rintro w v w' hm ⟨rfl, hm'⟩
                  refine ⟨_, hm.app hm', jkO ?_⟩
                  clear hm hm'
                  refine jo_f [(0, 0)] (by kernel_rfl) ?_
                  refine jo_end (by kernel_rfl) ?_
                  refine jx_then ?_
                  refine jc_seq ?_
                  refine jc_seq ?_
                  refine jc_region ?_
                  refine jo_f [(0, 0), (0, 0)] (by kernel_rfl) ?_
                  refine jo_end (by kernel_rfl) ?_
                  refine jx_then ?_
                  refine jc_cond (decide (t_21 < 0)) (by kernel_rfl) (fun hc_397 => ?_) (fun hc_397 => ?_)
                  · replace h := ifT hc_397 h
                    refine jc_seq ?_
                    refine jc_region ?_
                    refine jo_f [(0, 0)] (by kernel_rfl) ?_
                    refine jo_end (by kernel_rfl) ?_
                    refine jx_then ?_
                    refine jc_ret ?_
                    refine jx_thenr ?_
                    obtain rfl := Option.some.inj h
                    exact jx_ret [] (.bool false) [] rfl (by kernel_rfl) (by kernel_rfl) (fun w hm => ⟨rfl, hm.pick [] (by kernel_rfl) (by kernel_rfl)⟩)
                  · replace h := ifF hc_397 h
                    refine jc_skip ?_
                    refine jx_then ?_
                    refine jc_seq ?_
                    refine jc_seq ?_
                    refine jc_region ?_
                    refine jo_f [(0, 0), (0, 0), (0, 0)] (by kernel_rfl) ?_
                    refine jo_end (by kernel_rfl) ?_
                    refine jx_then ?_
                    refine jc_cond (t_21 != t_20.1) (by kernel_rfl) (fun hc_399 => ?_) (fun hc_399 => ?_)
                    · replace h := ifT hc_399 h
                      refine jc_seq ?_
                      refine jc_region ?_
                      refine jo_f [(0, 0)] (by kernel_rfl) ?_
                      refine jo_end (by kernel_rfl) ?_
                      refine jx_then ?_
                      refine jc_ret ?_
                      refine jx_thenr ?_
                      obtain rfl := Option.some.inj h
                      exact jx_ret [] (.bool false) [] rfl (by kernel_rfl) (by kernel_rfl) (fun w hm => ⟨rfl, hm.pick [] (by kernel_rfl) (by kernel_rfl)⟩)
                    · replace h := ifF hc_399 h
                      refine jc_skip ?_
                      refine jx_then ?_
                      refine jc_seq ?_
                      refine jc_meet (fun (j : Int × (List GHammer) × (Arr 96 Int) × Int × Nat × (Option Nat) × Nat × (List Value) × Nat × Nat) => match j with | ⟨i_22, xs_23, a_24, i_25, b_583, o_584, cap_585, sp_586, n_587, b_590⟩ => laws_FnExactWithoutTrack.k_26 i_2 xs_3 a_4 i_5 i_8 t_20 i_22 xs_23 a_24 i_25 = some r ∧ (xs_23.length = n_587) ∧ ((o_584 ≠ none → n_587 ≤ cap_585 ∧ sp_586.length = (cap_585 - n_587) * 2)) ∧ ((o_584 = none → xs_23 = [] ∧ cap_585 = 0))) (fun (j : Int × (List GHammer) × (Arr 96 Int) × Int × Nat × (Option Nat) × Nat × (List Value) × Nat × Nat) => match j with | ⟨i_22, xs_23, a_24, i_25, b_583, o_584, cap_585, sp_586, n_587, b_590⟩ => [(6, [], (.bool false)), (8, [], (.pointer (some ⟨b_189, 0, none⟩))), (9, [], (.pointer (some ⟨b_196, 0, none⟩))), (10, [], (.int .i64 i_5)), (12, [], (.pointer (some ⟨b_293, 0, none⟩))), (16, [], (.int .i64 t_20.1)), (17, [], (.int .i64 t_21)), (18, [], (.pointer (some ⟨b_583, 0, none⟩))), (19, [], (.pointer (some ⟨b_590, 0, none⟩))), (20, [], (.int .i64 i_25))]) (fun (j : Int × (List GHammer) × (Arr 96 Int) × Int × Nat × (Option Nat) × Nat × (List Value) × Nat × Nat) => match j with | ⟨i_22, xs_23, a_24, i_25, b_583, o_584, cap_585, sp_586, n_587, b_590⟩ => [⟨some b_1, 25, [(.int .i16 aF0.fSteps), (.slice aF0_fHammers_a aF0.fHammers.length aF0_fHammers_c)]⟩, ⟨(some b_2), 57, row encU32 aD1.1 []⟩, ⟨some b_189, 35, [(.int .i16 i_2), (.slice (o_190.map fun b => ⟨b, 0, none⟩) xs_3.length cap_191)]⟩, ⟨o_190, 176, row encGHammer xs_3 sp_192⟩, ⟨(some b_196), 58, row encU32 a_4.1 []⟩, ⟨o_198, 176, row encGHammer t_17.2 sp_200⟩, ⟨some b_203, 35, [(.int .i16 t_7.fSteps), (.slice (o_198.map fun b => ⟨b, 0, none⟩) t_7.fHammers.length cap_199)]⟩, ⟨some b_293, 35, [(.int .i16 i_8), (.slice (o_294.map fun b => ⟨b, 0, none⟩) xs_9.length cap_295)]⟩, ⟨o_294, 176, row encGHammer t_20.2 sp_296⟩, ⟨(some b_300), 58, row encU32 a_10.1 []⟩, ⟨o_368, 176, row encGHammer t_15.fHammers sp_370⟩, ⟨some b_583, 35, [(.int .i16 i_22), (.slice (o_584.map fun b => ⟨b, 0, none⟩) n_587 cap_585)]⟩, ⟨o_584, 176, row encGHammer xs_23 sp_586⟩, ⟨(some b_590), 58, row encU32 a_24.1 []⟩]) ?_ ?_
                      · refine jc_draw [⟨some b_1, 25, [(.int .i16 aF0.fSteps), (.slice aF0_fHammers_a aF0.fHammers.length aF0_fHammers_c)]⟩, ⟨(some b_2), 57, row encU32 aD1.1 []⟩, ⟨some b_189, 35, [(.int .i16 i_2), (.slice (o_190.map fun b => ⟨b, 0, none⟩) xs_3.length cap_191)]⟩, ⟨o_190, 176, row encGHammer xs_3 sp_192⟩, ⟨(some b_196), 58, row encU32 a_4.1 []⟩, ⟨o_198, 176, row encGHammer t_17.2 sp_200⟩, ⟨some b_203, 35, [(.int .i16 t_7.fSteps), (.slice (o_198.map fun b => ⟨b, 0, none⟩) t_7.fHammers.length cap_199)]⟩, ⟨some b_293, 35, [(.int .i16 i_8), (.slice (o_294.map fun b => ⟨b, 0, none⟩) xs_9.length cap_295)]⟩, ⟨o_294, 176, row encGHammer t_20.2 sp_296⟩, ⟨(some b_300), 58, row encU32 a_10.1 []⟩, ⟨o_368, 176, row encGHammer t_15.fHammers sp_370⟩] 15 (by kernel_rfl) (by kernel_rfl) ?_
                        refine jd_f [⟨0, 0, 0⟩, ⟨4, 0, 0⟩] 13 (by kernel_rfl) (by kernel_rfl) (fun w h => h.pick [0, 1, 2, 3, 4, 5, 6, 7, 8, 9, 10] (by kernel_rfl) (by kernel_rfl)) (by kernel_rfl) (by kernel_rfl) ?_
                        refine jd_v 2 0 (by kernel_rfl) (fun w h => h.pick [0, 1, 2, 3, 4, 5, 6, 7, 8, 9, 10] (by kernel_rfl) (by kernel_rfl)) (by kernel_rfl) (by kernel_rfl) _ (fun w hm => ld_run (b := b_2) (off := 0) (s := 96) (agg := true) (vs := row encU32 aD1.1 []) (by kernel_rfl) ((row_len encU32_len aD1).trans rfl) (.inl rfl) (hm.all (hh := 1) (T := 57) (by kernel_rfl))) ?_
                        refine toD3 1 10 11 (by kernel_rfl) ?_ ?_ ?_
                        · obtain ⟨t_32, ht_609, h⟩ := bd h
                          refine p_call 0 17 #[(.agg #[(.int .i16 aF0.fSteps), (.slice aF0_fHammers_a aF0.fHammers.length aF0_fHammers_c)])] (by kernel_rfl) (by kernel_rfl) (fun w hm => laws_toFrame.calls aF0 w _ aF0_fHammers_a aF0.fHammers.length aF0_fHammers_c (hm.exRow aF0_fHammers_h List.not_mem_nil) rfl ht_609) ?_
                          rintro w v w' hm ⟨o_610, cap_611, sp_612, _, rfl, hs_613, ho_614, rfl, hm'⟩
                          refine ⟨_, hm.app hm', jkD (fun w h => h.pick [0, 1, 2, 3, 4, 5, 6, 7, 8, 9, 10] (by kernel_rfl) (by kernel_rfl)) ?_⟩
                          clear hm hm'
                          refine toD3 3 10 11 (by kernel_rfl) ?_ ?_ ?_
                          · obtain ⟨t_33, ht_615, h⟩ := bd h
                            refine p_call 0 31 #[(.agg (row encU32 aD1.1 []).toArray)] (by kernel_rfl) (by kernel_rfl) (fun w hm => laws_toDrum.calls aD1 w _ ht_615) ?_
                            rintro w v w' hm ⟨rfl, hm'⟩
                            refine ⟨_, hm.app hm', jkD (fun w h => h.pick [0, 1, 2, 3, 4, 5, 6, 7, 8, 9, 10] (by kernel_rfl) (by kernel_rfl)) ?_⟩
                            clear hm hm'
                            refine toD3 5 10 11 (by kernel_rfl) ?_ ?_ ?_
                            · obtain ⟨t_34, ht_616, h⟩ := bd h
                              refine p_call 0 32 #[(.agg #[(.int .i16 t_32.fSteps), (.slice (o_610.map fun b => ⟨b, 0, none⟩) t_32.fHammers.length cap_611)]), (.agg (row encU32 t_33.1 []).toArray), (.int .i64 aTrack2)] (by kernel_rfl) (by kernel_rfl) (fun w hm => impl_WithoutTrack.calls t_32 t_33 aTrack2 w _ (o_610.map fun b => ⟨b, 0, none⟩) t_32.fHammers.length cap_611 (hm.ownRow (hh := 11) (o := o_610) (T := 176) (enc := encGHammer) (xs := t_32.fHammers) (sp := sp_612) (by kernel_rfl) (fun e => (ho_614 e).1) encGHammer_len) rfl ht_616) ?_
                              rintro w v w' hm ⟨o_617, cap_618, sp_619, _, rfl, hs_620, ho_621, rfl, hm'⟩
                              refine ⟨_, hm.app hm', jkD (fun w h => h.pick [0, 1, 2, 3, 4, 5, 6, 7, 8, 9, 10] (by kernel_rfl) (by kernel_rfl)) ?_⟩
                              clear hm hm'
                              refine jd_f [⟨6, 0, 0⟩, ⟨7, 0, 0⟩, ⟨8, 0, 0⟩, ⟨9, 0, 0⟩] 5 (by kernel_rfl) (by kernel_rfl) (fun w h => h.pick [0, 1, 2, 3, 4, 5, 6, 7, 8, 9, 10] (by kernel_rfl) (by kernel_rfl)) (by kernel_rfl) (by kernel_rfl) ?_
                              refine toD2 10 11 (by kernel_rfl) ?_ ?_
                              · refine p_a 0 [0] (by kernel_rfl) (fun b => by kernel_rfl) (fun b_622 => jkD (fun w h => h.pick [0, 1, 2, 3, 4, 5, 6, 7, 8, 9, 10] (by kernel_rfl) (by kernel_rfl)) ?_)
                                refine toD 11 (by kernel_rfl) (p_a 0 [0] (by kernel_rfl) (fun b => by kernel_rfl) (fun b_623 => jkD (fun w h => h.pick [0, 1, 2, 3, 4, 5, 6, 7, 8, 9, 10] (by kernel_rfl) (by kernel_rfl)) ?_))
                                refine toD 12 (by kernel_rfl) (p_s 0 [13] (by kernel_rfl) (by kernel_rfl) (jkD (fun w h => h.pick [0, 1, 2, 3, 4, 5, 6, 7, 8, 9, 10] (by kernel_rfl) (by kernel_rfl)) ?_))
                                refine toD 13 (by kernel_rfl) (p_sA 0 14 b_623 96 1 58 encU32 (Arr.rep 96 0) t_34.2.1 (by kernel_rfl) (by kernel_rfl) (by kernel_rfl) encU32_len encU32_cell (by kernel_rfl) (jkD (fun w h => h.pick [0, 1, 2, 3, 4, 5, 6, 7, 8, 9, 10] (by kernel_rfl) (by kernel_rfl)) ?_))
                                refine jd_f [⟨14, 0, 0⟩] 0 (by kernel_rfl) (by kernel_rfl) (fun w h => h.pick [0, 1, 2, 3, 4, 5, 6, 7, 8, 9, 10] (by kernel_rfl) (by kernel_rfl)) (by kernel_rfl) (by kernel_rfl) ?_
                                refine jd_end (by kernel_rfl) ?_
                                exact jx_meet ⟨t_34.1.fSteps, t_34.1.fHammers, t_34.2.1, t_34.2.2, b_622, o_617, cap_618, sp_619, t_34.1.fHammers.length, b_623⟩ ⟨h, rfl, hs_620, ho_621⟩ (by kernel_rfl) [0, 1, 2, 3, 4, 5, 6, 7, 8, 9, 10, 13, 12, 14] (by kernel_rfl) (by kernel_rfl)
                              · refine p_a 0 [0] (by kernel_rfl) (fun b => by kernel_rfl) (fun b_624 => jkD (fun w h => h.pick [0, 1, 2, 3, 4, 5, 6, 7, 8, 9, 10] (by kernel_rfl) (by kernel_rfl)) ?_)
                                refine toD 10 (by kernel_rfl) (p_a 0 [0] (by kernel_rfl) (fun b => by kernel_rfl) (fun b_625 => jkD (fun w h => h.pick [0, 1, 2, 3, 4, 5, 6, 7, 8, 9, 10] (by kernel_rfl) (by kernel_rfl)) ?_))
                                refine toD 12 (by kernel_rfl) (p_s 0 [14] (by kernel_rfl) (by kernel_rfl) (jkD (fun w h => h.pick [0, 1, 2, 3, 4, 5, 6, 7, 8, 9, 10] (by kernel_rfl) (by kernel_rfl)) ?_))
                                refine toD 13 (by kernel_rfl) (p_sA 0 13 b_624 96 1 58 encU32 (Arr.rep 96 0) t_34.2.1 (by kernel_rfl) (by kernel_rfl) (by kernel_rfl) encU32_len encU32_cell (by kernel_rfl) (jkD (fun w h => h.pick [0, 1, 2, 3, 4, 5, 6, 7, 8, 9, 10] (by kernel_rfl) (by kernel_rfl)) ?_))
                                refine jd_f [⟨14, 0, 0⟩] 0 (by kernel_rfl) (by kernel_rfl) (fun w h => h.pick [0, 1, 2, 3, 4, 5, 6, 7, 8, 9, 10] (by kernel_rfl) (by kernel_rfl)) (by kernel_rfl) (by kernel_rfl) ?_
                                refine jd_end (by kernel_rfl) ?_
                                exact jx_meet ⟨t_34.1.fSteps, t_34.1.fHammers, t_34.2.1, t_34.2.2, b_625, o_617, cap_618, sp_619, t_34.1.fHammers.length, b_624⟩ ⟨h, rfl, hs_620, ho_621⟩ (by kernel_rfl) [0, 1, 2, 3, 4, 5, 6, 7, 8, 9, 10, 14, 12, 13] (by kernel_rfl) (by kernel_rfl)
                            · refine p_a 0 [0] (by kernel_rfl) (fun b => by kernel_rfl) (fun b_626 => jkD (fun w h => h.pick [0, 1, 2, 3, 4, 5, 6, 7, 8, 9, 10] (by kernel_rfl) (by kernel_rfl)) ?_)
                              refine toD2 5 11 (by kernel_rfl) ?_ ?_
                              · obtain ⟨t_34, ht_627, h⟩ := bd h
                                refine p_call 0 32 #[(.agg #[(.int .i16 t_32.fSteps), (.slice (o_610.map fun b => ⟨b, 0, none⟩) t_32.fHammers.length cap_611)]), (.agg (row encU32 t_33.1 []).toArray), (.int .i64 aTrack2)] (by kernel_rfl) (by kernel_rfl) (fun w hm => impl_WithoutTrack.calls t_32 t_33 aTrack2 w _ (o_610.map fun b => ⟨b, 0, none⟩) t_32.fHammers.length cap_611 (hm.ownRow (hh := 11) (o := o_610) (T := 176) (enc := encGHammer) (xs := t_32.fHammers) (sp := sp_612) (by kernel_rfl) (fun e => (ho_614 e).1) encGHammer_len) rfl ht_627) ?_
                                rintro w v w' hm ⟨o_628, cap_629, sp_630, _, rfl, hs_631, ho_632, rfl, hm'⟩
                                refine ⟨_, hm.app hm', jkD (fun w h => h.pick [0, 1, 2, 3, 4, 5, 6, 7, 8, 9, 10] (by kernel_rfl) (by kernel_rfl)) ?_⟩
                                clear hm hm'
                                refine jd_f [⟨6, 0, 0⟩, ⟨7, 0, 0⟩, ⟨8, 0, 0⟩, ⟨9, 0, 0⟩] 4 (by kernel_rfl) (by kernel_rfl) (fun w h => h.pick [0, 1, 2, 3, 4, 5, 6, 7, 8, 9, 10] (by kernel_rfl) (by kernel_rfl)) (by kernel_rfl) (by kernel_rfl) ?_
                                refine toD 11 (by kernel_rfl) (p_a 0 [0] (by kernel_rfl) (fun b => by kernel_rfl) (fun b_633 => jkD (fun w h => h.pick [0, 1, 2, 3, 4, 5, 6, 7, 8, 9, 10] (by kernel_rfl) (by kernel_rfl)) ?_))
                                refine toD 12 (by kernel_rfl) (p_s 0 [12] (by kernel_rfl) (by kernel_rfl) (jkD (fun w h => h.pick [0, 1, 2, 3, 4, 5, 6, 7, 8, 9, 10] (by kernel_rfl) (by kernel_rfl)) ?_))
                                refine toD 13 (by kernel_rfl) (p_sA 0 14 b_633 96 1 58 encU32 (Arr.rep 96 0) t_34.2.1 (by kernel_rfl) (by kernel_rfl) (by kernel_rfl) encU32_len encU32_cell (by kernel_rfl) (jkD (fun w h => h.pick [0, 1, 2, 3, 4, 5, 6, 7, 8, 9, 10] (by kernel_rfl) (by kernel_rfl)) ?_))
                                refine jd_f [⟨14, 0, 0⟩] 0 (by kernel_rfl) (by kernel_rfl) (fun w h => h.pick [0, 1, 2, 3, 4, 5, 6, 7, 8, 9, 10] (by kernel_rfl) (by kernel_rfl)) (by kernel_rfl) (by kernel_rfl) ?_
                                refine jd_end (by kernel_rfl) ?_
                                exact jx_meet ⟨t_34.1.fSteps, t_34.1.fHammers, t_34.2.1, t_34.2.2, b_626, o_628, cap_629, sp_630, t_34.1.fHammers.length, b_633⟩ ⟨h, rfl, hs_631, ho_632⟩ (by kernel_rfl) [0, 1, 2, 3, 4, 5, 6, 7, 8, 9, 10, 12, 13, 14] (by kernel_rfl) (by kernel_rfl)
                              · refine p_a 0 [0] (by kernel_rfl) (fun b => by kernel_rfl) (fun b_634 => jkD (fun w h => h.pick [0, 1, 2, 3, 4, 5, 6, 7, 8, 9, 10] (by kernel_rfl) (by kernel_rfl)) ?_)
                                obtain ⟨t_34, ht_635, h⟩ := bd h
                                refine toD 5 (by kernel_rfl) (p_call 0 32 #[(.agg #[(.int .i16 t_32.fSteps), (.slice (o_610.map fun b => ⟨b, 0, none⟩) t_32.fHammers.length cap_611)]), (.agg (row encU32 t_33.1 []).toArray), (.int .i64 aTrack2)] (by kernel_rfl) (by kernel_rfl) (fun w hm => impl_WithoutTrack.calls t_32 t_33 aTrack2 w _ (o_610.map fun b => ⟨b, 0, none⟩) t_32.fHammers.length cap_611 (hm.ownRow (hh := 11) (o := o_610) (T := 176) (enc := encGHammer) (xs := t_32.fHammers) (sp := sp_612) (by kernel_rfl) (fun e => (ho_614 e).1) encGHammer_len) rfl ht_635) ?_)
                                rintro w v w' hm ⟨o_636, cap_637, sp_638, _, rfl, hs_639, ho_640, rfl, hm'⟩
                                refine ⟨_, hm.app hm', jkD (fun w h => h.pick [0, 1, 2, 3, 4, 5, 6, 7, 8, 9, 10] (by kernel_rfl) (by kernel_rfl)) ?_⟩
                                clear hm hm'
                                refine jd_f [⟨6, 0, 0⟩, ⟨7, 0, 0⟩, ⟨8, 0, 0⟩, ⟨9, 0, 0⟩] 3 (by kernel_rfl) (by kernel_rfl) (fun w h => h.pick [0, 1, 2, 3, 4, 5, 6, 7, 8, 9, 10] (by kernel_rfl) (by kernel_rfl)) (by kernel_rfl) (by kernel_rfl) ?_
                                refine toD 12 (by kernel_rfl) (p_s 0 [12] (by kernel_rfl) (by kernel_rfl) (jkD (fun w h => h.pick [0, 1, 2, 3, 4, 5, 6, 7, 8, 9, 10] (by kernel_rfl) (by kernel_rfl)) ?_))
                                refine toD 13 (by kernel_rfl) (p_sA 0 13 b_634 96 1 58 encU32 (Arr.rep 96 0) t_34.2.1 (by kernel_rfl) (by kernel_rfl) (by kernel_rfl) encU32_len encU32_cell (by kernel_rfl) (jkD (fun w h => h.pick [0, 1, 2, 3, 4, 5, 6, 7, 8, 9, 10] (by kernel_rfl) (by kernel_rfl)) ?_))
                                refine jd_f [⟨14, 0, 0⟩] 0 (by kernel_rfl) (by kernel_rfl) (fun w h => h.pick [0, 1, 2, 3, 4, 5, 6, 7, 8, 9, 10] (by kernel_rfl) (by kernel_rfl)) (by kernel_rfl) (by kernel_rfl) ?_
                                refine jd_end (by kernel_rfl) ?_
                                exact jx_meet ⟨t_34.1.fSteps, t_34.1.fHammers, t_34.2.1, t_34.2.2, b_626, o_636, cap_637, sp_638, t_34.1.fHammers.length, b_634⟩ ⟨h, rfl, hs_639, ho_640⟩ (by kernel_rfl) [0, 1, 2, 3, 4, 5, 6, 7, 8, 9, 10, 12, 14, 13] (by kernel_rfl) (by kernel_rfl)
                            · refine p_a 0 [0] (by kernel_rfl) (fun b => by kernel_rfl) (fun b_641 => jkD (fun w h => h.pick [0, 1, 2, 3, 4, 5, 6, 7, 8, 9, 10] (by kernel_rfl) (by kernel_rfl)) ?_)
                              refine toD2 5 10 (by kernel_rfl) ?_ ?_
                              · obtain ⟨t_34, ht_642, h⟩ := bd h
                                refine p_call 0 32 #[(.agg #[(.int .i16 t_32.fSteps), (.slice (o_610.map fun b => ⟨b, 0, none⟩) t_32.fHammers.length cap_611)]), (.agg (row encU32 t_33.1 []).toArray), (.int .i64 aTrack2)] (by kernel_rfl) (by kernel_rfl) (fun w hm => impl_WithoutTrack.calls t_32 t_33 aTrack2 w _ (o_610.map fun b => ⟨b, 0, none⟩) t_32.fHammers.length cap_611 (hm.ownRow (hh := 11) (o := o_610) (T := 176) (enc := encGHammer) (xs := t_32.fHammers) (sp := sp_612) (by kernel_rfl) (fun e => (ho_614 e).1) encGHammer_len) rfl ht_642) ?_
                                rintro w v w' hm ⟨o_643, cap_644, sp_645, _, rfl, hs_646, ho_647, rfl, hm'⟩
                                refine ⟨_, hm.app hm', jkD (fun w h => h.pick [0, 1, 2, 3, 4, 5, 6, 7, 8, 9, 10] (by kernel_rfl) (by kernel_rfl)) ?_⟩
                                clear hm hm'
                                refine jd_f [⟨6, 0, 0⟩, ⟨7, 0, 0⟩, ⟨8, 0, 0⟩, ⟨9, 0, 0⟩] 4 (by kernel_rfl) (by kernel_rfl) (fun w h => h.pick [0, 1, 2, 3, 4, 5, 6, 7, 8, 9, 10] (by kernel_rfl) (by kernel_rfl)) (by kernel_rfl) (by kernel_rfl) ?_
                                refine toD 10 (by kernel_rfl) (p_a 0 [0] (by kernel_rfl) (fun b => by kernel_rfl) (fun b_648 => jkD (fun w h => h.pick [0, 1, 2, 3, 4, 5, 6, 7, 8, 9, 10] (by kernel_rfl) (by kernel_rfl)) ?_))
                                refine toD 12 (by kernel_rfl) (p_s 0 [14] (by kernel_rfl) (by kernel_rfl) (jkD (fun w h => h.pick [0, 1, 2, 3, 4, 5, 6, 7, 8, 9, 10] (by kernel_rfl) (by kernel_rfl)) ?_))
                                refine toD 13 (by kernel_rfl) (p_sA 0 12 b_641 96 1 58 encU32 (Arr.rep 96 0) t_34.2.1 (by kernel_rfl) (by kernel_rfl) (by kernel_rfl) encU32_len encU32_cell (by kernel_rfl) (jkD (fun w h => h.pick [0, 1, 2, 3, 4, 5, 6, 7, 8, 9, 10] (by kernel_rfl) (by kernel_rfl)) ?_))
                                refine jd_f [⟨14, 0, 0⟩] 0 (by kernel_rfl) (by kernel_rfl) (fun w h => h.pick [0, 1, 2, 3, 4, 5, 6, 7, 8, 9, 10] (by kernel_rfl) (by kernel_rfl)) (by kernel_rfl) (by kernel_rfl) ?_
                                refine jd_end (by kernel_rfl) ?_
                                exact jx_meet ⟨t_34.1.fSteps, t_34.1.fHammers, t_34.2.1, t_34.2.2, b_648, o_643, cap_644, sp_645, t_34.1.fHammers.length, b_641⟩ ⟨h, rfl, hs_646, ho_647⟩ (by kernel_rfl) [0, 1, 2, 3, 4, 5, 6, 7, 8, 9, 10, 14, 13, 12] (by kernel_rfl) (by kernel_rfl)
                              · refine p_a 0 [0] (by kernel_rfl) (fun b => by kernel_rfl) (fun b_649 => jkD (fun w h => h.pick [0, 1, 2, 3, 4, 5, 6, 7, 8, 9, 10] (by kernel_rfl) (by kernel_rfl)) ?_)
                                obtain ⟨t_34, ht_650, h⟩ := bd h
                                refine toD 5 (by kernel_rfl) (p_call 0 32 #[(.agg #[(.int .i16 t_32.fSteps), (.slice (o_610.map fun b => ⟨b, 0, none⟩) t_32.fHammers.length cap_611)]), (.agg (row encU32 t_33.1 []).toArray), (.int .i64 aTrack2)] (by kernel_rfl) (by kernel_rfl) (fun w hm => impl_WithoutTrack.calls t_32 t_33 aTrack2 w _ (o_610.map fun b => ⟨b, 0, none⟩) t_32.fHammers.length cap_611 (hm.ownRow (hh := 11) (o := o_610) (T := 176) (enc := encGHammer) (xs := t_32.fHammers) (sp := sp_612) (by kernel_rfl) (fun e => (ho_614 e).1) encGHammer_len) rfl ht_650) ?_)
                                rintro w v w' hm ⟨o_651, cap_652, sp_653, _, rfl, hs_654, ho_655, rfl, hm'⟩
                                refine ⟨_, hm.app hm', jkD (fun w h => h.pick [0, 1, 2, 3, 4, 5, 6, 7, 8, 9, 10] (by kernel_rfl) (by kernel_rfl)) ?_⟩
                                clear hm hm'
                                refine jd_f [⟨6, 0, 0⟩, ⟨7, 0, 0⟩, ⟨8, 0, 0⟩, ⟨9, 0, 0⟩] 3 (by kernel_rfl) (by kernel_rfl) (fun w h => h.pick [0, 1, 2, 3, 4, 5, 6, 7, 8, 9, 10] (by kernel_rfl) (by kernel_rfl)) (by kernel_rfl) (by kernel_rfl) ?_
                                refine toD 12 (by kernel_rfl) (p_s 0 [13] (by kernel_rfl) (by kernel_rfl) (jkD (fun w h => h.pick [0, 1, 2, 3, 4, 5, 6, 7, 8, 9, 10] (by kernel_rfl) (by kernel_rfl)) ?_))
                                refine toD 13 (by kernel_rfl) (p_sA 0 12 b_641 96 1 58 encU32 (Arr.rep 96 0) t_34.2.1 (by kernel_rfl) (by kernel_rfl) (by kernel_rfl) encU32_len encU32_cell (by kernel_rfl) (jkD (fun w h => h.pick [0, 1, 2, 3, 4, 5, 6, 7, 8, 9, 10] (by kernel_rfl) (by kernel_rfl)) ?_))
                                refine jd_f [⟨14, 0, 0⟩] 0 (by kernel_rfl) (by kernel_rfl) (fun w h => h.pick [0, 1, 2, 3, 4, 5, 6, 7, 8, 9, 10] (by kernel_rfl) (by kernel_rfl)) (by kernel_rfl) (by kernel_rfl) ?_
                                refine jd_end (by kernel_rfl) ?_
                                exact jx_meet ⟨t_34.1.fSteps, t_34.1.fHammers, t_34.2.1, t_34.2.2, b_649, o_651, cap_652, sp_653, t_34.1.fHammers.length, b_641⟩ ⟨h, rfl, hs_654, ho_655⟩ (by kernel_rfl) [0, 1, 2, 3, 4, 5, 6, 7, 8, 9, 10, 13, 14, 12] (by kernel_rfl) (by kernel_rfl)
                          · refine p_a 0 [0] (by kernel_rfl) (fun b => by kernel_rfl) (fun b_656 => jkD (fun w h => h.pick [0, 1, 2, 3, 4, 5, 6, 7, 8, 9, 10] (by kernel_rfl) (by kernel_rfl)) ?_)
                            refine toD2 3 11 (by kernel_rfl) ?_ ?_
                            · obtain ⟨t_33, ht_657, h⟩ := bd h
                              refine p_call 0 31 #[(.agg (row encU32 aD1.1 []).toArray)] (by kernel_rfl) (by kernel_rfl) (fun w hm => laws_toDrum.calls aD1 w _ ht_657) ?_
                              rintro w v w' hm ⟨rfl, hm'⟩
                              refine ⟨_, hm.app hm', jkD (fun w h => h.pick [0, 1, 2, 3, 4, 5, 6, 7, 8, 9, 10] (by kernel_rfl) (by kernel_rfl)) ?_⟩
                              clear hm hm'
                              refine toD2 5 11 (by kernel_rfl) ?_ ?_
                              · obtain ⟨t_34, ht_658, h⟩ := bd h
                                refine p_call 0 32 #[(.agg #[(.int .i16 t_32.fSteps), (.slice (o_610.map fun b => ⟨b, 0, none⟩) t_32.fHammers.length cap_611)]), (.agg (row encU32 t_33.1 []).toArray), (.int .i64 aTrack2)] (by kernel_rfl) (by kernel_rfl) (fun w hm => impl_WithoutTrack.calls t_32 t_33 aTrack2 w _ (o_610.map fun b => ⟨b, 0, none⟩) t_32.fHammers.length cap_611 (hm.ownRow (hh := 11) (o := o_610) (T := 176) (enc := encGHammer) (xs := t_32.fHammers) (sp := sp_612) (by kernel_rfl) (fun e => (ho_614 e).1) encGHammer_len) rfl ht_658) ?_
                                rintro w v w' hm ⟨o_659, cap_660, sp_661, _, rfl, hs_662, ho_663, rfl, hm'⟩
                                refine ⟨_, hm.app hm', jkD (fun w h => h.pick [0, 1, 2, 3, 4, 5, 6, 7, 8, 9, 10] (by kernel_rfl) (by kernel_rfl)) ?_⟩
                                clear hm hm'
                                refine jd_f [⟨6, 0, 0⟩, ⟨7, 0, 0⟩, ⟨8, 0, 0⟩, ⟨9, 0, 0⟩] 4 (by kernel_rfl) (by kernel_rfl) (fun w h => h.pick [0, 1, 2, 3, 4, 5, 6, 7, 8, 9, 10] (by kernel_rfl) (by kernel_rfl)) (by kernel_rfl) (by kernel_rfl) ?_
                                refine toD 11 (by kernel_rfl) (p_a 0 [0] (by kernel_rfl) (fun b => by kernel_rfl) (fun b_664 => jkD (fun w h => h.pick [0, 1, 2, 3, 4, 5, 6, 7, 8, 9, 10] (by kernel_rfl) (by kernel_rfl)) ?_))
                                refine toD 12 (by kernel_rfl) (p_s 0 [12] (by kernel_rfl) (by kernel_rfl) (jkD (fun w h => h.pick [0, 1, 2, 3, 4, 5, 6, 7, 8, 9, 10] (by kernel_rfl) (by kernel_rfl)) ?_))
                                refine toD 13 (by kernel_rfl) (p_sA 0 14 b_664 96 1 58 encU32 (Arr.rep 96 0) t_34.2.1 (by kernel_rfl) (by kernel_rfl) (by kernel_rfl) encU32_len encU32_cell (by kernel_rfl) (jkD (fun w h => h.pick [0, 1, 2, 3, 4, 5, 6, 7, 8, 9, 10] (by kernel_rfl) (by kernel_rfl)) ?_))
                                refine jd_f [⟨14, 0, 0⟩] 0 (by kernel_rfl) (by kernel_rfl) (fun w h => h.pick [0, 1, 2, 3, 4, 5, 6, 7, 8, 9, 10] (by kernel_rfl) (by kernel_rfl)) (by kernel_rfl) (by kernel_rfl) ?_
                                refine jd_end (by kernel_rfl) ?_
                                exact jx_meet ⟨t_34.1.fSteps, t_34.1.fHammers, t_34.2.1, t_34.2.2, b_656, o_659, cap_660, sp_661, t_34.1.fHammers.length, b_664⟩ ⟨h, rfl, hs_662, ho_663⟩ (by kernel_rfl) [0, 1, 2, 3, 4, 5, 6, 7, 8, 9, 10, 12, 13, 14] (by kernel_rfl) (by kernel_rfl)
                              · refine p_a 0 [0] (by kernel_rfl) (fun b => by kernel_rfl) (fun b_665 => jkD (fun w h => h.pick [0, 1, 2, 3, 4, 5, 6, 7, 8, 9, 10] (by kernel_rfl) (by kernel_rfl)) ?_)
                                obtain ⟨t_34, ht_666, h⟩ := bd h
                                refine toD 5 (by kernel_rfl) (p_call 0 32 #[(.agg #[(.int .i16 t_32.fSteps), (.slice (o_610.map fun b => ⟨b, 0, none⟩) t_32.fHammers.length cap_611)]), (.agg (row encU32 t_33.1 []).toArray), (.int .i64 aTrack2)] (by kernel_rfl) (by kernel_rfl) (fun w hm => impl_WithoutTrack.calls t_32 t_33 aTrack2 w _ (o_610.map fun b => ⟨b, 0, none⟩) t_32.fHammers.length cap_611 (hm.ownRow (hh := 11) (o := o_610) (T := 176) (enc := encGHammer) (xs := t_32.fHammers) (sp := sp_612) (by kernel_rfl) (fun e => (ho_614 e).1) encGHammer_len) rfl ht_666) ?_)
                                rintro w v w' hm ⟨o_667, cap_668, sp_669, _, rfl, hs_670, ho_671, rfl, hm'⟩
                                refine ⟨_, hm.app hm', jkD (fun w h => h.pick [0, 1, 2, 3, 4, 5, 6, 7, 8, 9, 10] (by kernel_rfl) (by kernel_rfl)) ?_⟩
                                clear hm hm'
                                refine jd_f [⟨6, 0, 0⟩, ⟨7, 0, 0⟩, ⟨8, 0, 0⟩, ⟨9, 0, 0⟩] 3 (by kernel_rfl) (by kernel_rfl) (fun w h => h.pick [0, 1, 2, 3, 4, 5, 6, 7, 8, 9, 10] (by kernel_rfl) (by kernel_rfl)) (by kernel_rfl) (by kernel_rfl) ?_
                                refine toD 12 (by kernel_rfl) (p_s 0 [12] (by kernel_rfl) (by kernel_rfl) (jkD (fun w h => h.pick [0, 1, 2, 3, 4, 5, 6, 7, 8, 9, 10] (by kernel_rfl) (by kernel_rfl)) ?_))
                                refine toD 13 (by kernel_rfl) (p_sA 0 13 b_665 96 1 58 encU32 (Arr.rep 96 0) t_34.2.1 (by kernel_rfl) (by kernel_rfl) (by kernel_rfl) encU32_len encU32_cell (by kernel_rfl) (jkD (fun w h => h.pick [0, 1, 2, 3, 4, 5, 6, 7, 8, 9, 10] (by kernel_rfl) (by kernel_rfl)) ?_))
                                refine jd_f [⟨14, 0, 0⟩] 0 (by kernel_rfl) (by kernel_rfl) (fun w h => h.pick [0, 1, 2, 3, 4, 5, 6, 7, 8, 9, 10] (by kernel_rfl) (by kernel_rfl)) (by kernel_rfl) (by kernel_rfl) ?_
                                refine jd_end (by kernel_rfl) ?_
                                exact jx_meet ⟨t_34.1.fSteps, t_34.1.fHammers, t_34.2.1, t_34.2.2, b_656, o_667, cap_668, sp_669, t_34.1.fHammers.length, b_665⟩ ⟨h, rfl, hs_670, ho_671⟩ (by kernel_rfl) [0, 1, 2, 3, 4, 5, 6, 7, 8, 9, 10, 12, 14, 13] (by kernel_rfl) (by kernel_rfl)
                            · refine p_a 0 [0] (by kernel_rfl) (fun b => by kernel_rfl) (fun b_672 => jkD (fun w h => h.pick [0, 1, 2, 3, 4, 5, 6, 7, 8, 9, 10] (by kernel_rfl) (by kernel_rfl)) ?_)
                              obtain ⟨t_33, ht_673, h⟩ := bd h
                              refine toD 3 (by kernel_rfl) (p_call 0 31 #[(.agg (row encU32 aD1.1 []).toArray)] (by kernel_rfl) (by kernel_rfl) (fun w hm => laws_toDrum.calls aD1 w _ ht_673) ?_)
                              rintro w v w' hm ⟨rfl, hm'⟩
                              refine ⟨_, hm.app hm', jkD (fun w h => h.pick [0, 1, 2, 3, 4, 5, 6, 7, 8, 9, 10] (by kernel_rfl) (by kernel_rfl)) ?_⟩
                              clear hm hm'
                              obtain ⟨t_34, ht_674, h⟩ := bd h
                              refine toD 5 (by kernel_rfl) (p_call 0 32 #[(.agg #[(.int .i16 t_32.fSteps), (.slice (o_610.map fun b => ⟨b, 0, none⟩) t_32.fHammers.length cap_611)]), (.agg (row encU32 t_33.1 []).toArray), (.int .i64 aTrack2)] (by kernel_rfl) (by kernel_rfl) (fun w hm => impl_WithoutTrack.calls t_32 t_33 aTrack2 w _ (o_610.map fun b => ⟨b, 0, none⟩) t_32.fHammers.length cap_611 (hm.ownRow (hh := 11) (o := o_610) (T := 176) (enc := encGHammer) (xs := t_32.fHammers) (sp := sp_612) (by kernel_rfl) (fun e => (ho_614 e).1) encGHammer_len) rfl ht_674) ?_)
                              rintro w v w' hm ⟨o_675, cap_676, sp_677, _, rfl, hs_678, ho_679, rfl, hm'⟩
                              refine ⟨_, hm.app hm', jkD (fun w h => h.pick [0, 1, 2, 3, 4, 5, 6, 7, 8, 9, 10] (by kernel_rfl) (by kernel_rfl)) ?_⟩
                              clear hm hm'
                              refine jd_f [⟨6, 0, 0⟩, ⟨7, 0, 0⟩, ⟨8, 0, 0⟩, ⟨9, 0, 0⟩] 3 (by kernel_rfl) (by kernel_rfl) (fun w h => h.pick [0, 1, 2, 3, 4, 5, 6, 7, 8, 9, 10] (by kernel_rfl) (by kernel_rfl)) (by kernel_rfl) (by kernel_rfl) ?_
                              refine toD 12 (by kernel_rfl) (p_s 0 [12] (by kernel_rfl) (by kernel_rfl) (jkD (fun w h => h.pick [0, 1, 2, 3, 4, 5, 6, 7, 8, 9, 10] (by kernel_rfl) (by kernel_rfl)) ?_))
                              refine toD 13 (by kernel_rfl) (p_sA 0 13 b_672 96 1 58 encU32 (Arr.rep 96 0) t_34.2.1 (by kernel_rfl) (by kernel_rfl) (by kernel_rfl) encU32_len encU32_cell (by kernel_rfl) (jkD (fun w h => h.pick [0, 1, 2, 3, 4, 5, 6, 7, 8, 9, 10] (by kernel_rfl) (by kernel_rfl)) ?_))
                              refine jd_f [⟨14, 0, 0⟩] 0 (by kernel_rfl) (by kernel_rfl) (fun w h => h.pick [0, 1, 2, 3, 4, 5, 6, 7, 8, 9, 10] (by kernel_rfl) (by kernel_rfl)) (by kernel_rfl) (by kernel_rfl) ?_
                              refine jd_end (by kernel_rfl) ?_
                              exact jx_meet ⟨t_34.1.fSteps, t_34.1.fHammers, t_34.2.1, t_34.2.2, b_656, o_675, cap_676, sp_677, t_34.1.fHammers.length, b_672⟩ ⟨h, rfl, hs_678, ho_679⟩ (by kernel_rfl) [0, 1, 2, 3, 4, 5, 6, 7, 8, 9, 10, 12, 14, 13] (by kernel_rfl) (by kernel_rfl)
                          · refine p_a 0 [0] (by kernel_rfl) (fun b => by kernel_rfl) (fun b_680 => jkD (fun w h => h.pick [0, 1, 2, 3, 4, 5, 6, 7, 8, 9, 10] (by kernel_rfl) (by kernel_rfl)) ?_)
                            refine toD2 3 10 (by kernel_rfl) ?_ ?_
                            · obtain ⟨t_33, ht_681, h⟩ := bd h
                              refine p_call 0 31 #[(.agg (row encU32 aD1.1 []).toArray)] (by kernel_rfl) (by kernel_rfl) (fun w hm => laws_toDrum.calls aD1 w _ ht_681) ?_
                              rintro w v w' hm ⟨rfl, hm'⟩
                              refine ⟨_, hm.app hm', jkD (fun w h => h.pick [0, 1, 2, 3, 4, 5, 6, 7, 8, 9, 10] (by kernel_rfl) (by kernel_rfl)) ?_⟩
                              clear hm hm'
                              refine toD2 5 10 (by kernel_rfl) ?_ ?_
                              · obtain ⟨t_34, ht_682, h⟩ := bd h
                                refine p_call 0 32 #[(.agg #[(.int .i16 t_32.fSteps), (.slice (o_610.map fun b => ⟨b, 0, none⟩) t_32.fHammers.length cap_611)]), (.agg (row encU32 t_33.1 []).toArray), (.int .i64 aTrack2)] (by kernel_rfl) (by kernel_rfl) (fun w hm => impl_WithoutTrack.calls t_32 t_33 aTrack2 w _ (o_610.map fun b => ⟨b, 0, none⟩) t_32.fHammers.length cap_611 (hm.ownRow (hh := 11) (o := o_610) (T := 176) (enc := encGHammer) (xs := t_32.fHammers) (sp := sp_612) (by kernel_rfl) (fun e => (ho_614 e).1) encGHammer_len) rfl ht_682) ?_
                                rintro w v w' hm ⟨o_683, cap_684, sp_685, _, rfl, hs_686, ho_687, rfl, hm'⟩
                                refine ⟨_, hm.app hm', jkD (fun w h => h.pick [0, 1, 2, 3, 4, 5, 6, 7, 8, 9, 10] (by kernel_rfl) (by kernel_rfl)) ?_⟩
                                clear hm hm'
                                refine jd_f [⟨6, 0, 0⟩, ⟨7, 0, 0⟩, ⟨8, 0, 0⟩, ⟨9, 0, 0⟩] 4 (by kernel_rfl) (by kernel_rfl) (fun w h => h.pick [0, 1, 2, 3, 4, 5, 6, 7, 8, 9, 10] (by kernel_rfl) (by kernel_rfl)) (by kernel_rfl) (by kernel_rfl) ?_
                                refine toD 10 (by kernel_rfl) (p_a 0 [0] (by kernel_rfl) (fun b => by kernel_rfl) (fun b_688 => jkD (fun w h => h.pick [0, 1, 2, 3, 4, 5, 6, 7, 8, 9, 10] (by kernel_rfl) (by kernel_rfl)) ?_))
                                refine toD 12 (by kernel_rfl) (p_s 0 [14] (by kernel_rfl) (by kernel_rfl) (jkD (fun w h => h.pick [0, 1, 2, 3, 4, 5, 6, 7, 8, 9, 10] (by kernel_rfl) (by kernel_rfl)) ?_))
                                refine toD 13 (by kernel_rfl) (p_sA 0 12 b_680 96 1 58 encU32 (Arr.rep 96 0) t_34.2.1 (by kernel_rfl) (by kernel_rfl) (by kernel_rfl) encU32_len encU32_cell (by kernel_rfl) (jkD (fun w h => h.pick [0, 1, 2, 3, 4, 5, 6, 7, 8, 9, 10] (by kernel_rfl) (by kernel_rfl)) ?_))
                                refine jd_f [⟨14, 0, 0⟩] 0 (by kernel_rfl) (by kernel_rfl) (fun w h => h.pick [0, 1, 2, 3, 4, 5, 6, 7, 8, 9, 10] (by kernel_rfl) (by kernel_rfl)) (by kernel_rfl) (by kernel_rfl) ?_
                                refine jd_end (by kernel_rfl) ?_
                                exact jx_meet ⟨t_34.1.fSteps, t_34.1.fHammers, t_34.2.1, t_34.2.2, b_688, o_683, cap_684, sp_685, t_34.1.fHammers.length, b_680⟩ ⟨h, rfl, hs_686, ho_687⟩ (by kernel_rfl) [0, 1, 2, 3, 4, 5, 6, 7, 8, 9, 10, 14, 13, 12] (by kernel_rfl) (by kernel_rfl)
                              · refine p_a 0 [0] (by kernel_rfl) (fun b => by kernel_rfl) (fun b_689 => jkD (fun w h => h.pick [0, 1, 2, 3, 4, 5, 6, 7, 8, 9, 10] (by kernel_rfl) (by kernel_rfl)) ?_)
                                obtain ⟨t_34, ht_690, h⟩ := bd h
                                refine toD 5 (by kernel_rfl) (p_call 0 32 #[(.agg #[(.int .i16 t_32.fSteps), (.slice (o_610.map fun b => ⟨b, 0, none⟩) t_32.fHammers.length cap_611)]), (.agg (row encU32 t_33.1 []).toArray), (.int .i64 aTrack2)] (by kernel_rfl) (by kernel_rfl) (fun w hm => impl_WithoutTrack.calls t_32 t_33 aTrack2 w _ (o_610.map fun b => ⟨b, 0, none⟩) t_32.fHammers.length cap_611 (hm.ownRow (hh := 11) (o := o_610) (T := 176) (enc := encGHammer) (xs := t_32.fHammers) (sp := sp_612) (by kernel_rfl) (fun e => (ho_614 e).1) encGHammer_len) rfl ht_690) ?_)
                                rintro w v w' hm ⟨o_691, cap_692, sp_693, _, rfl, hs_694, ho_695, rfl, hm'⟩
                                refine ⟨_, hm.app hm', jkD (fun w h => h.pick [0, 1, 2, 3, 4, 5, 6, 7, 8, 9, 10] (by kernel_rfl) (by kernel_rfl)) ?_⟩
                                clear hm hm'
                                refine jd_f [⟨6, 0, 0⟩, ⟨7, 0, 0⟩, ⟨8, 0, 0⟩, ⟨9, 0, 0⟩] 3 (by kernel_rfl) (by kernel_rfl) (fun w h => h.pick [0, 1, 2, 3, 4, 5, 6, 7, 8, 9, 10] (by kernel_rfl) (by kernel_rfl)) (by kernel_rfl) (by kernel_rfl) ?_
                                refine toD 12 (by kernel_rfl) (p_s 0 [13] (by kernel_rfl) (by kernel_rfl) (jkD (fun w h => h.pick [0, 1, 2, 3, 4, 5, 6, 7, 8, 9, 10] (by kernel_rfl) (by kernel_rfl)) ?_))
                                refine toD 13 (by kernel_rfl) (p_sA 0 12 b_680 96 1 58 encU32 (Arr.rep 96 0) t_34.2.1 (by kernel_rfl) (by kernel_rfl) (by kernel_rfl) encU32_len encU32_cell (by kernel_rfl) (jkD (fun w h => h.pick [0, 1, 2, 3, 4, 5, 6, 7, 8, 9, 10] (by kernel_rfl) (by kernel_rfl)) ?_))
                                refine jd_f [⟨14, 0, 0⟩] 0 (by kernel_rfl) (by kernel_rfl) (fun w h => h.pick [0, 1, 2, 3, 4, 5, 6, 7, 8, 9, 10] (by kernel_rfl) (by kernel_rfl)) (by kernel_rfl) (by kernel_rfl) ?_
                                refine jd_end (by kernel_rfl) ?_
                                exact jx_meet ⟨t_34.1.fSteps, t_34.1.fHammers, t_34.2.1, t_34.2.2, b_689, o_691, cap_692, sp_693, t_34.1.fHammers.length, b_680⟩ ⟨h, rfl, hs_694, ho_695⟩ (by kernel_rfl) [0, 1, 2, 3, 4, 5, 6, 7, 8, 9, 10, 13, 14, 12] (by kernel_rfl) (by kernel_rfl)
                            · refine p_a 0 [0] (by kernel_rfl) (fun b => by kernel_rfl) (fun b_696 => jkD (fun w h => h.pick [0, 1, 2, 3, 4, 5, 6, 7, 8, 9, 10] (by kernel_rfl) (by kernel_rfl)) ?_)
                              obtain ⟨t_33, ht_697, h⟩ := bd h
                              refine toD 3 (by kernel_rfl) (p_call 0 31 #[(.agg (row encU32 aD1.1 []).toArray)] (by kernel_rfl) (by kernel_rfl) (fun w hm => laws_toDrum.calls aD1 w _ ht_697) ?_)
                              rintro w v w' hm ⟨rfl, hm'⟩
                              refine ⟨_, hm.app hm', jkD (fun w h => h.pick [0, 1, 2, 3, 4, 5, 6, 7, 8, 9, 10] (by kernel_rfl) (by kernel_rfl)) ?_⟩
                              clear hm hm'
                              obtain ⟨t_34, ht_698, h⟩ := bd h
                              refine toD 5 (by kernel_rfl) (p_call 0 32 #[(.agg #[(.int .i16 t_32.fSteps), (.slice (o_610.map fun b => ⟨b, 0, none⟩) t_32.fHammers.length cap_611)]), (.agg (row encU32 t_33.1 []).toArray), (.int .i64 aTrack2)] (by kernel_rfl) (by kernel_rfl) (fun w hm => impl_WithoutTrack.calls t_32 t_33 aTrack2 w _ (o_610.map fun b => ⟨b, 0, none⟩) t_32.fHammers.length cap_611 (hm.ownRow (hh := 11) (o := o_610) (T := 176) (enc := encGHammer) (xs := t_32.fHammers) (sp := sp_612) (by kernel_rfl) (fun e => (ho_614 e).1) encGHammer_len) rfl ht_698) ?_)
                              rintro w v w' hm ⟨o_699, cap_700, sp_701, _, rfl, hs_702, ho_703, rfl, hm'⟩
                              refine ⟨_, hm.app hm', jkD (fun w h => h.pick [0, 1, 2, 3, 4, 5, 6, 7, 8, 9, 10] (by kernel_rfl) (by kernel_rfl)) ?_⟩
                              clear hm hm'
                              refine jd_f [⟨6, 0, 0⟩, ⟨7, 0, 0⟩, ⟨8, 0, 0⟩, ⟨9, 0, 0⟩] 3 (by kernel_rfl) (by kernel_rfl) (fun w h => h.pick [0, 1, 2, 3, 4, 5, 6, 7, 8, 9, 10] (by kernel_rfl) (by kernel_rfl)) (by kernel_rfl) (by kernel_rfl) ?_
                              refine toD 12 (by kernel_rfl) (p_s 0 [13] (by kernel_rfl) (by kernel_rfl) (jkD (fun w h => h.pick [0, 1, 2, 3, 4, 5, 6, 7, 8, 9, 10] (by kernel_rfl) (by kernel_rfl)) ?_))
                              refine toD 13 (by kernel_rfl) (p_sA 0 12 b_680 96 1 58 encU32 (Arr.rep 96 0) t_34.2.1 (by kernel_rfl) (by kernel_rfl) (by kernel_rfl) encU32_len encU32_cell (by kernel_rfl) (jkD (fun w h => h.pick [0, 1, 2, 3, 4, 5, 6, 7, 8, 9, 10] (by kernel_rfl) (by kernel_rfl)) ?_))
                              refine jd_f [⟨14, 0, 0⟩] 0 (by kernel_rfl) (by kernel_rfl) (fun w h => h.pick [0, 1, 2, 3, 4, 5, 6, 7, 8, 9, 10] (by kernel_rfl) (by kernel_rfl)) (by kernel_rfl) (by kernel_rfl) ?_
                              refine jd_end (by kernel_rfl) ?_
                              exact jx_meet ⟨t_34.1.fSteps, t_34.1.fHammers, t_34.2.1, t_34.2.2, b_696, o_699, cap_700, sp_701, t_34.1.fHammers.length, b_680⟩ ⟨h, rfl, hs_702, ho_703⟩ (by kernel_rfl) [0, 1, 2, 3, 4, 5, 6, 7, 8, 9, 10, 13, 14, 12] (by kernel_rfl) (by kernel_rfl)
                        · refine p_a 0 [0] (by kernel_rfl) (fun b => by kernel_rfl) (fun b_704 => jkD (fun w h => h.pick [0, 1, 2, 3, 4, 5, 6, 7, 8, 9, 10] (by kernel_rfl) (by kernel_rfl)) ?_)
                          refine toD2 1 11 (by kernel_rfl) ?_ ?_
                          · obtain ⟨t_32, ht_705, h⟩ := bd h
                            refine p_call 0 17 #[(.agg #[(.int .i16 aF0.fSteps), (.slice aF0_fHammers_a aF0.fHammers.length aF0_fHammers_c)])] (by kernel_rfl) (by kernel_rfl) (fun w hm => laws_toFrame.calls aF0 w _ aF0_fHammers_a aF0.fHammers.length aF0_fHammers_c (hm.exRow aF0_fHammers_h List.not_mem_nil) rfl ht_705) ?_
                            rintro w v w' hm ⟨o_706, cap_707, sp_708, _, rfl, hs_709, ho_710, rfl, hm'⟩
                            refine ⟨_, hm.app hm', jkD (fun w h => h.pick [0, 1, 2, 3, 4, 5, 6, 7, 8, 9, 10] (by kernel_rfl) (by kernel_rfl)) ?_⟩
                            clear hm hm'
                            refine toD2 3 11 (by kernel_rfl) ?_ ?_
                            · obtain ⟨t_33, ht_711, h⟩ := bd h
                              refine p_call 0 31 #[(.agg (row encU32 aD1.1 []).toArray)] (by kernel_rfl) (by kernel_rfl) (fun w hm => laws_toDrum.calls aD1 w _ ht_711) ?_
                              rintro w v w' hm ⟨rfl, hm'⟩
                              refine ⟨_, hm.app hm', jkD (fun w h => h.pick [0, 1, 2, 3, 4, 5, 6, 7, 8, 9, 10] (by kernel_rfl) (by kernel_rfl)) ?_⟩
                              clear hm hm'
                              refine toD2 5 11 (by kernel_rfl) ?_ ?_
                              · obtain ⟨t_34, ht_712, h⟩ := bd h
                                refine p_call 0 32 #[(.agg #[(.int .i16 t_32.fSteps), (.slice (o_706.map fun b => ⟨b, 0, none⟩) t_32.fHammers.length cap_707)]), (.agg (row encU32 t_33.1 []).toArray), (.int .i64 aTrack2)] (by kernel_rfl) (by kernel_rfl) (fun w hm => impl_WithoutTrack.calls t_32 t_33 aTrack2 w _ (o_706.map fun b => ⟨b, 0, none⟩) t_32.fHammers.length cap_707 (hm.ownRow (hh := 12) (o := o_706) (T := 176) (enc := encGHammer) (xs := t_32.fHammers) (sp := sp_708) (by kernel_rfl) (fun e => (ho_710 e).1) encGHammer_len) rfl ht_712) ?_
                                rintro w v w' hm ⟨o_713, cap_714, sp_715, _, rfl, hs_716, ho_717, rfl, hm'⟩
                                refine ⟨_, hm.app hm', jkD (fun w h => h.pick [0, 1, 2, 3, 4, 5, 6, 7, 8, 9, 10] (by kernel_rfl) (by kernel_rfl)) ?_⟩
                                clear hm hm'
                                refine jd_f [⟨6, 0, 0⟩, ⟨7, 0, 0⟩, ⟨8, 0, 0⟩, ⟨9, 0, 0⟩] 4 (by kernel_rfl) (by kernel_rfl) (fun w h => h.pick [0, 1, 2, 3, 4, 5, 6, 7, 8, 9, 10] (by kernel_rfl) (by kernel_rfl)) (by kernel_rfl) (by kernel_rfl) ?_
                                refine toD 11 (by kernel_rfl) (p_a 0 [0] (by kernel_rfl) (fun b => by kernel_rfl) (fun b_718 => jkD (fun w h => h.pick [0, 1, 2, 3, 4, 5, 6, 7, 8, 9, 10] (by kernel_rfl) (by kernel_rfl)) ?_))
                                refine toD 12 (by kernel_rfl) (p_s 0 [11] (by kernel_rfl) (by kernel_rfl) (jkD (fun w h => h.pick [0, 1, 2, 3, 4, 5, 6, 7, 8, 9, 10] (by kernel_rfl) (by kernel_rfl)) ?_))
                                refine toD 13 (by kernel_rfl) (p_sA 0 14 b_718 96 1 58 encU32 (Arr.rep 96 0) t_34.2.1 (by kernel_rfl) (by kernel_rfl) (by kernel_rfl) encU32_len encU32_cell (by kernel_rfl) (jkD (fun w h => h.pick [0, 1, 2, 3, 4, 5, 6, 7, 8, 9, 10] (by kernel_rfl) (by kernel_rfl)) ?_))
                                refine jd_f [⟨14, 0, 0⟩] 0 (by kernel_rfl) (by kernel_rfl) (fun w h => h.pick [0, 1, 2, 3, 4, 5, 6, 7, 8, 9, 10] (by kernel_rfl) (by kernel_rfl)) (by kernel_rfl) (by kernel_rfl) ?_
                                refine jd_end (by kernel_rfl) ?_
                                exact jx_meet ⟨t_34.1.fSteps, t_34.1.fHammers, t_34.2.1, t_34.2.2, b_704, o_713, cap_714, sp_715, t_34.1.fHammers.length, b_718⟩ ⟨h, rfl, hs_716, ho_717⟩ (by kernel_rfl) [0, 1, 2, 3, 4, 5, 6, 7, 8, 9, 10, 11, 13, 14] (by kernel_rfl) (by kernel_rfl)
                              · refine p_a 0 [0] (by kernel_rfl) (fun b => by kernel_rfl) (fun b_719 => jkD (fun w h => h.pick [0, 1, 2, 3, 4, 5, 6, 7, 8, 9, 10] (by kernel_rfl) (by kernel_rfl)) ?_)
                                obtain ⟨t_34, ht_720, h⟩ := bd h
                                refine toD 5 (by kernel_rfl) (p_call 0 32 #[(.agg #[(.int .i16 t_32.fSteps), (.slice (o_706.map fun b => ⟨b, 0, none⟩) t_32.fHammers.length cap_707)]), (.agg (row encU32 t_33.1 []).toArray), (.int .i64 aTrack2)] (by kernel_rfl) (by kernel_rfl) (fun w hm => impl_WithoutTrack.calls t_32 t_33 aTrack2 w _ (o_706.map fun b => ⟨b, 0, none⟩) t_32.fHammers.length cap_707 (hm.ownRow (hh := 12) (o := o_706) (T := 176) (enc := encGHammer) (xs := t_32.fHammers) (sp := sp_708) (by kernel_rfl) (fun e => (ho_710 e).1) encGHammer_len) rfl ht_720) ?_)
                                rintro w v w' hm ⟨o_721, cap_722, sp_723, _, rfl, hs_724, ho_725, rfl, hm'⟩
                                refine ⟨_, hm.app hm', jkD (fun w h => h.pick [0, 1, 2, 3, 4, 5, 6, 7, 8, 9, 10] (by kernel_rfl) (by kernel_rfl)) ?_⟩
                                clear hm hm'
                                refine jd_f [⟨6, 0, 0⟩, ⟨7, 0, 0⟩, ⟨8, 0, 0⟩, ⟨9, 0, 0⟩] 3 (by kernel_rfl) (by kernel_rfl) (fun w h => h.pick [0, 1, 2, 3, 4, 5, 6, 7, 8, 9, 10] (by kernel_rfl) (by kernel_rfl)) (by kernel_rfl) (by kernel_rfl) ?_
                                refine toD 12 (by kernel_rfl) (p_s 0 [11] (by kernel_rfl) (by kernel_rfl) (jkD (fun w h => h.pick [0, 1, 2, 3, 4, 5, 6, 7, 8, 9, 10] (by kernel_rfl) (by kernel_rfl)) ?_))
                                refine toD 13 (by kernel_rfl) (p_sA 0 13 b_719 96 1 58 encU32 (Arr.rep 96 0) t_34.2.1 (by kernel_rfl) (by kernel_rfl) (by kernel_rfl) encU32_len encU32_cell (by kernel_rfl) (jkD (fun w h => h.pick [0, 1, 2, 3, 4, 5, 6, 7, 8, 9, 10] (by kernel_rfl) (by kernel_rfl)) ?_))
                                refine jd_f [⟨14, 0, 0⟩] 0 (by kernel_rfl) (by kernel_rfl) (fun w h => h.pick [0, 1, 2, 3, 4, 5, 6, 7, 8, 9, 10] (by kernel_rfl) (by kernel_rfl)) (by kernel_rfl) (by kernel_rfl) ?_
                                refine jd_end (by kernel_rfl) ?_
                                exact jx_meet ⟨t_34.1.fSteps, t_34.1.fHammers, t_34.2.1, t_34.2.2, b_704, o_721, cap_722, sp_723, t_34.1.fHammers.length, b_719⟩ ⟨h, rfl, hs_724, ho_725⟩ (by kernel_rfl) [0, 1, 2, 3, 4, 5, 6, 7, 8, 9, 10, 11, 14, 13] (by kernel_rfl) (by kernel_rfl)
                            · refine p_a 0 [0] (by kernel_rfl) (fun b => by kernel_rfl) (fun b_726 => jkD (fun w h => h.pick [0, 1, 2, 3, 4, 5, 6, 7, 8, 9, 10] (by kernel_rfl) (by kernel_rfl)) ?_)
                              obtain ⟨t_33, ht_727, h⟩ := bd h
                              refine toD 3 (by kernel_rfl) (p_call 0 31 #[(.agg (row encU32 aD1.1 []).toArray)] (by kernel_rfl) (by kernel_rfl) (fun w hm => laws_toDrum.calls aD1 w _ ht_727) ?_)
                              rintro w v w' hm ⟨rfl, hm'⟩
                              refine ⟨_, hm.app hm', jkD (fun w h => h.pick [0, 1, 2, 3, 4, 5, 6, 7, 8, 9, 10] (by kernel_rfl) (by kernel_rfl)) ?_⟩
                              clear hm hm'
                              obtain ⟨t_34, ht_728, h⟩ := bd h
                              refine toD 5 (by kernel_rfl) (p_call 0 32 #[(.agg #[(.int .i16 t_32.fSteps), (.slice (o_706.map fun b => ⟨b, 0, none⟩) t_32.fHammers.length cap_707)]), (.agg (row encU32 t_33.1 []).toArray), (.int .i64 aTrack2)] (by kernel_rfl) (by kernel_rfl) (fun w hm => impl_WithoutTrack.calls t_32 t_33 aTrack2 w _ (o_706.map fun b => ⟨b, 0, none⟩) t_32.fHammers.length cap_707 (hm.ownRow (hh := 12) (o := o_706) (T := 176) (enc := encGHammer) (xs := t_32.fHammers) (sp := sp_708) (by kernel_rfl) (fun e => (ho_710 e).1) encGHammer_len) rfl ht_728) ?_)
                              rintro w v w' hm ⟨o_729, cap_730, sp_731, _, rfl, hs_732, ho_733, rfl, hm'⟩
                              refine ⟨_, hm.app hm', jkD (fun w h => h.pick [0, 1, 2, 3, 4, 5, 6, 7, 8, 9, 10] (by kernel_rfl) (by kernel_rfl)) ?_⟩
                              clear hm hm'
                              refine jd_f [⟨6, 0, 0⟩, ⟨7, 0, 0⟩, ⟨8, 0, 0⟩, ⟨9, 0, 0⟩] 3 (by kernel_rfl) (by kernel_rfl) (fun w h => h.pick [0, 1, 2, 3, 4, 5, 6, 7, 8, 9, 10] (by kernel_rfl) (by kernel_rfl)) (by kernel_rfl) (by kernel_rfl) ?_
                              refine toD 12 (by kernel_rfl) (p_s 0 [11] (by kernel_rfl) (by kernel_rfl) (jkD (fun w h => h.pick [0, 1, 2, 3, 4, 5, 6, 7, 8, 9, 10] (by kernel_rfl) (by kernel_rfl)) ?_))
                              refine toD 13 (by kernel_rfl) (p_sA 0 13 b_726 96 1 58 encU32 (Arr.rep 96 0) t_34.2.1 (by kernel_rfl) (by kernel_rfl) (by kernel_rfl) encU32_len encU32_cell (by kernel_rfl) (jkD (fun w h => h.pick [0, 1, 2, 3, 4, 5, 6, 7, 8, 9, 10] (by kernel_rfl) (by kernel_rfl)) ?_))
                              refine jd_f [⟨14, 0, 0⟩] 0 (by kernel_rfl) (by kernel_rfl) (fun w h => h.pick [0, 1, 2, 3, 4, 5, 6, 7, 8, 9, 10] (by kernel_rfl) (by kernel_rfl)) (by kernel_rfl) (by kernel_rfl) ?_
                              refine jd_end (by kernel_rfl) ?_
                              exact jx_meet ⟨t_34.1.fSteps, t_34.1.fHammers, t_34.2.1, t_34.2.2, b_704, o_729, cap_730, sp_731, t_34.1.fHammers.length, b_726⟩ ⟨h, rfl, hs_732, ho_733⟩ (by kernel_rfl) [0, 1, 2, 3, 4, 5, 6, 7, 8, 9, 10, 11, 14, 13] (by kernel_rfl) (by kernel_rfl)
                          · refine p_a 0 [0] (by kernel_rfl) (fun b => by kernel_rfl) (fun b_734 => jkD (fun w h => h.pick [0, 1, 2, 3, 4, 5, 6, 7, 8, 9, 10] (by kernel_rfl) (by kernel_rfl)) ?_)
                            obtain ⟨t_32, ht_735, h⟩ := bd h
                            refine toD 1 (by kernel_rfl) (p_call 0 17 #[(.agg #[(.int .i16 aF0.fSteps), (.slice aF0_fHammers_a aF0.fHammers.length aF0_fHammers_c)])] (by kernel_rfl) (by kernel_rfl) (fun w hm => laws_toFrame.calls aF0 w _ aF0_fHammers_a aF0.fHammers.length aF0_fHammers_c (hm.exRow aF0_fHammers_h List.not_mem_nil) rfl ht_735) ?_)
                            rintro w v w' hm ⟨o_736, cap_737, sp_738, _, rfl, hs_739, ho_740, rfl, hm'⟩
                            refine ⟨_, hm.app hm', jkD (fun w h => h.pick [0, 1, 2, 3, 4, 5, 6, 7, 8, 9, 10] (by kernel_rfl) (by kernel_rfl)) ?_⟩
                            clear hm hm'
                            obtain ⟨t_33, ht_741, h⟩ := bd h
                            refine toD 3 (by kernel_rfl) (p_call 0 31 #[(.agg (row encU32 aD1.1 []).toArray)] (by kernel_rfl) (by kernel_rfl) (fun w hm => laws_toDrum.calls aD1 w _ ht_741) ?_)
                            rintro w v w' hm ⟨rfl, hm'⟩
                            refine ⟨_, hm.app hm', jkD (fun w h => h.pick [0, 1, 2, 3, 4, 5, 6, 7, 8, 9, 10] (by kernel_rfl) (by kernel_rfl)) ?_⟩
                            clear hm hm'
                            obtain ⟨t_34, ht_742, h⟩ := bd h
                            refine toD 5 (by kernel_rfl) (p_call 0 32 #[(.agg #[(.int .i16 t_32.fSteps), (.slice (o_736.map fun b => ⟨b, 0, none⟩) t_32.fHammers.length cap_737)]), (.agg (row encU32 t_33.1 []).toArray), (.int .i64 aTrack2)] (by kernel_rfl) (by kernel_rfl) (fun w hm => impl_WithoutTrack.calls t_32 t_33 aTrack2 w _ (o_736.map fun b => ⟨b, 0, none⟩) t_32.fHammers.length cap_737 (hm.ownRow (hh := 13) (o := o_736) (T := 176) (enc := encGHammer) (xs := t_32.fHammers) (sp := sp_738) (by kernel_rfl) (fun e => (ho_740 e).1) encGHammer_len) rfl ht_742) ?_)
                            rintro w v w' hm ⟨o_743, cap_744, sp_745, _, rfl, hs_746, ho_747, rfl, hm'⟩
                            refine ⟨_, hm.app hm', jkD (fun w h => h.pick [0, 1, 2, 3, 4, 5, 6, 7, 8, 9, 10] (by kernel_rfl) (by kernel_rfl)) ?_⟩
                            clear hm hm'
                            refine jd_f [⟨6, 0, 0⟩, ⟨7, 0, 0⟩, ⟨8, 0, 0⟩, ⟨9, 0, 0⟩] 3 (by kernel_rfl) (by kernel_rfl) (fun w h => h.pick [0, 1, 2, 3, 4, 5, 6, 7, 8, 9, 10] (by kernel_rfl) (by kernel_rfl)) (by kernel_rfl) (by kernel_rfl) ?_
                            refine toD 12 (by kernel_rfl) (p_s 0 [11] (by kernel_rfl) (by kernel_rfl) (jkD (fun w h => h.pick [0, 1, 2, 3, 4, 5, 6, 7, 8, 9, 10] (by kernel_rfl) (by kernel_rfl)) ?_))
                            refine toD 13 (by kernel_rfl) (p_sA 0 12 b_734 96 1 58 encU32 (Arr.rep 96 0) t_34.2.1 (by kernel_rfl) (by kernel_rfl) (by kernel_rfl) encU32_len encU32_cell (by kernel_rfl) (jkD (fun w h => h.pick [0, 1, 2, 3, 4, 5, 6, 7, 8, 9, 10] (by kernel_rfl) (by kernel_rfl)) ?_))
                            refine jd_f [⟨14, 0, 0⟩] 0 (by kernel_rfl) (by kernel_rfl) (fun w h => h.pick [0, 1, 2, 3, 4, 5, 6, 7, 8, 9, 10] (by kernel_rfl) (by kernel_rfl)) (by kernel_rfl) (by kernel_rfl) ?_
                            refine jd_end (by kernel_rfl) ?_
                            exact jx_meet ⟨t_34.1.fSteps, t_34.1.fHammers, t_34.2.1, t_34.2.2, b_704, o_743, cap_744, sp_745, t_34.1.fHammers.length, b_734⟩ ⟨h, rfl, hs_746, ho_747⟩ (by kernel_rfl) [0, 1, 2, 3, 4, 5, 6, 7, 8, 9, 10, 11, 14, 12] (by kernel_rfl) (by kernel_rfl)
                        · refine p_a 0 [0] (by kernel_rfl) (fun b => by kernel_rfl) (fun b_748 => jkD (fun w h => h.pick [0, 1, 2, 3, 4, 5, 6, 7, 8, 9, 10] (by kernel_rfl) (by kernel_rfl)) ?_)
                          refine toD2 1 10 (by kernel_rfl) ?_ ?_
                          · obtain ⟨t_32, ht_749, h⟩ := bd h
                            refine p_call 0 17 #[(.agg #[(.int .i16 aF0.fSteps), (.slice aF0_fHammers_a aF0.fHammers.length aF0_fHammers_c)])] (by kernel_rfl) (by kernel_rfl) (fun w hm => laws_toFrame.calls aF0 w _ aF0_fHammers_a aF0.fHammers.length aF0_fHammers_c (hm.exRow aF0_fHammers_h List.not_mem_nil) rfl ht_749) ?_
                            rintro w v w' hm ⟨o_750, cap_751, sp_752, _, rfl, hs_753, ho_754, rfl, hm'⟩
                            refine ⟨_, hm.app hm', jkD (fun w h => h.pick [0, 1, 2, 3, 4, 5, 6, 7, 8, 9, 10] (by kernel_rfl) (by kernel_rfl)) ?_⟩
                            clear hm hm'
                            refine toD2 3 10 (by kernel_rfl) ?_ ?_
                            · obtain ⟨t_33, ht_755, h⟩ := bd h
                              refine p_call 0 31 #[(.agg (row encU32 aD1.1 []).toArray)] (by kernel_rfl) (by kernel_rfl) (fun w hm => laws_toDrum.calls aD1 w _ ht_755) ?_
                              rintro w v w' hm ⟨rfl, hm'⟩
                              refine ⟨_, hm.app hm', jkD (fun w h => h.pick [0, 1, 2, 3, 4, 5, 6, 7, 8, 9, 10] (by kernel_rfl) (by kernel_rfl)) ?_⟩
                              clear hm hm'
                              refine toD2 5 10 (by kernel_rfl) ?_ ?_
                              · obtain ⟨t_34, ht_756, h⟩ := bd h
                                refine p_call 0 32 #[(.agg #[(.int .i16 t_32.fSteps), (.slice (o_750.map fun b => ⟨b, 0, none⟩) t_32.fHammers.length cap_751)]), (.agg (row encU32 t_33.1 []).toArray), (.int .i64 aTrack2)] (by kernel_rfl) (by kernel_rfl) (fun w hm => impl_WithoutTrack.calls t_32 t_33 aTrack2 w _ (o_750.map fun b => ⟨b, 0, none⟩) t_32.fHammers.length cap_751 (hm.ownRow (hh := 12) (o := o_750) (T := 176) (enc := encGHammer) (xs := t_32.fHammers) (sp := sp_752) (by kernel_rfl) (fun e => (ho_754 e).1) encGHammer_len) rfl ht_756) ?_
                                rintro w v w' hm ⟨o_757, cap_758, sp_759, _, rfl, hs_760, ho_761, rfl, hm'⟩
                                refine ⟨_, hm.app hm', jkD (fun w h => h.pick [0, 1, 2, 3, 4, 5, 6, 7, 8, 9, 10] (by kernel_rfl) (by kernel_rfl)) ?_⟩
                                clear hm hm'
                                refine jd_f [⟨6, 0, 0⟩, ⟨7, 0, 0⟩, ⟨8, 0, 0⟩, ⟨9, 0, 0⟩] 4 (by kernel_rfl) (by kernel_rfl) (fun w h => h.pick [0, 1, 2, 3, 4, 5, 6, 7, 8, 9, 10] (by kernel_rfl) (by kernel_rfl)) (by kernel_rfl) (by kernel_rfl) ?_
                                refine toD 10 (by kernel_rfl) (p_a 0 [0] (by kernel_rfl) (fun b => by kernel_rfl) (fun b_762 => jkD (fun w h => h.pick [0, 1, 2, 3, 4, 5, 6, 7, 8, 9, 10] (by kernel_rfl) (by kernel_rfl)) ?_))
                                refine toD 12 (by kernel_rfl) (p_s 0 [14] (by kernel_rfl) (by kernel_rfl) (jkD (fun w h => h.pick [0, 1, 2, 3, 4, 5, 6, 7, 8, 9, 10] (by kernel_rfl) (by kernel_rfl)) ?_))
                                refine toD 13 (by kernel_rfl) (p_sA 0 11 b_748 96 1 58 encU32 (Arr.rep 96 0) t_34.2.1 (by kernel_rfl) (by kernel_rfl) (by kernel_rfl) encU32_len encU32_cell (by kernel_rfl) (jkD (fun w h => h.pick [0, 1, 2, 3, 4, 5, 6, 7, 8, 9, 10] (by kernel_rfl) (by kernel_rfl)) ?_))
                                refine jd_f [⟨14, 0, 0⟩] 0 (by kernel_rfl) (by kernel_rfl) (fun w h => h.pick [0, 1, 2, 3, 4, 5, 6, 7, 8, 9, 10] (by kernel_rfl) (by kernel_rfl)) (by kernel_rfl) (by kernel_rfl) ?_
                                refine jd_end (by kernel_rfl) ?_
                                exact jx_meet ⟨t_34.1.fSteps, t_34.1.fHammers, t_34.2.1, t_34.2.2, b_762, o_757, cap_758, sp_759, t_34.1.fHammers.length, b_748⟩ ⟨h, rfl, hs_760, ho_761⟩ (by kernel_rfl) [0, 1, 2, 3, 4, 5, 6, 7, 8, 9, 10, 14, 13, 11] (by kernel_rfl) (by kernel_rfl)
                              · refine p_a 0 [0] (by kernel_rfl) (fun b => by kernel_rfl) (fun b_763 => jkD (fun w h => h.pick [0, 1, 2, 3, 4, 5, 6, 7, 8, 9, 10] (by kernel_rfl) (by kernel_rfl)) ?_)
                                obtain ⟨t_34, ht_764, h⟩ := bd h
                                refine toD 5 (by kernel_rfl) (p_call 0 32 #[(.agg #[(.int .i16 t_32.fSteps), (.slice (o_750.map fun b => ⟨b, 0, none⟩) t_32.fHammers.length cap_751)]), (.agg (row encU32 t_33.1 []).toArray), (.int .i64 aTrack2)] (by kernel_rfl) (by kernel_rfl) (fun w hm => impl_WithoutTrack.calls t_32 t_33 aTrack2 w _ (o_750.map fun b => ⟨b, 0, none⟩) t_32.fHammers.length cap_751 (hm.ownRow (hh := 12) (o := o_750) (T := 176) (enc := encGHammer) (xs := t_32.fHammers) (sp := sp_752) (by kernel_rfl) (fun e => (ho_754 e).1) encGHammer_len) rfl ht_764) ?_)
                                rintro w v w' hm ⟨o_765, cap_766, sp_767, _, rfl, hs_768, ho_769, rfl, hm'⟩
                                refine ⟨_, hm.app hm', jkD (fun w h => h.pick [0, 1, 2, 3, 4, 5, 6, 7, 8, 9, 10] (by kernel_rfl) (by kernel_rfl)) ?_⟩
                                clear hm hm'
                                refine jd_f [⟨6, 0, 0⟩, ⟨7, 0, 0⟩, ⟨8, 0, 0⟩, ⟨9, 0, 0⟩] 3 (by kernel_rfl) (by kernel_rfl) (fun w h => h.pick [0, 1, 2, 3, 4, 5, 6, 7, 8, 9, 10] (by kernel_rfl) (by kernel_rfl)) (by kernel_rfl) (by kernel_rfl) ?_
                                refine toD 12 (by kernel_rfl) (p_s 0 [13] (by kernel_rfl) (by kernel_rfl) (jkD (fun w h => h.pick [0, 1, 2, 3, 4, 5, 6, 7, 8, 9, 10] (by kernel_rfl) (by kernel_rfl)) ?_))
                                refine toD 13 (by kernel_rfl) (p_sA 0 11 b_748 96 1 58 encU32 (Arr.rep 96 0) t_34.2.1 (by kernel_rfl) (by kernel_rfl) (by kernel_rfl) encU32_len encU32_cell (by kernel_rfl) (jkD (fun w h => h.pick [0, 1, 2, 3, 4, 5, 6, 7, 8, 9, 10] (by kernel_rfl) (by kernel_rfl)) ?_))
                                refine jd_f [⟨14, 0, 0⟩] 0 (by kernel_rfl) (by kernel_rfl) (fun w h => h.pick [0, 1, 2, 3, 4, 5, 6, 7, 8, 9, 10] (by kernel_rfl) (by kernel_rfl)) (by kernel_rfl) (by kernel_rfl) ?_
                                refine jd_end (by kernel_rfl) ?_
                                exact jx_meet ⟨t_34.1.fSteps, t_34.1.fHammers, t_34.2.1, t_34.2.2, b_763, o_765, cap_766, sp_767, t_34.1.fHammers.length, b_748⟩ ⟨h, rfl, hs_768, ho_769⟩ (by kernel_rfl) [0, 1, 2, 3, 4, 5, 6, 7, 8, 9, 10, 13, 14, 11] (by kernel_rfl) (by kernel_rfl)
                            · refine p_a 0 [0] (by kernel_rfl) (fun b => by kernel_rfl) (fun b_770 => jkD (fun w h => h.pick [0, 1, 2, 3, 4, 5, 6, 7, 8, 9, 10] (by kernel_rfl) (by kernel_rfl)) ?_)
                              obtain ⟨t_33, ht_771, h⟩ := bd h
                              refine toD 3 (by kernel_rfl) (p_call 0 31 #[(.agg (row encU32 aD1.1 []).toArray)] (by kernel_rfl) (by kernel_rfl) (fun w hm => laws_toDrum.calls aD1 w _ ht_771) ?_)
                              rintro w v w' hm ⟨rfl, hm'⟩
                              refine ⟨_, hm.app hm', jkD (fun w h => h.pick [0, 1, 2, 3, 4, 5, 6, 7, 8, 9, 10] (by kernel_rfl) (by kernel_rfl)) ?_⟩
                              clear hm hm'
                              obtain ⟨t_34, ht_772, h⟩ := bd h
                              refine toD 5 (by kernel_rfl) (p_call 0 32 #[(.agg #[(.int .i16 t_32.fSteps), (.slice (o_750.map fun b => ⟨b, 0, none⟩) t_32.fHammers.length cap_751)]), (.agg (row encU32 t_33.1 []).toArray), (.int .i64 aTrack2)] (by kernel_rfl) (by kernel_rfl) (fun w hm => impl_WithoutTrack.calls t_32 t_33 aTrack2 w _ (o_750.map fun b => ⟨b, 0, none⟩) t_32.fHammers.length cap_751 (hm.ownRow (hh := 12) (o := o_750) (T := 176) (enc := encGHammer) (xs := t_32.fHammers) (sp := sp_752) (by kernel_rfl) (fun e => (ho_754 e).1) encGHammer_len) rfl ht_772) ?_)
                              rintro w v w' hm ⟨o_773, cap_774, sp_775, _, rfl, hs_776, ho_777, rfl, hm'⟩
                              refine ⟨_, hm.app hm', jkD (fun w h => h.pick [0, 1, 2, 3, 4, 5, 6, 7, 8, 9, 10] (by kernel_rfl) (by kernel_rfl)) ?_⟩
                              clear hm hm'
                              refine jd_f [⟨6, 0, 0⟩, ⟨7, 0, 0⟩, ⟨8, 0, 0⟩, ⟨9, 0, 0⟩] 3 (by kernel_rfl) (by kernel_rfl) (fun w h => h.pick [0, 1, 2, 3, 4, 5, 6, 7, 8, 9, 10] (by kernel_rfl) (by kernel_rfl)) (by kernel_rfl) (by kernel_rfl) ?_
                              refine toD 12 (by kernel_rfl) (p_s 0 [13] (by kernel_rfl) (by kernel_rfl) (jkD (fun w h => h.pick [0, 1, 2, 3, 4, 5, 6, 7, 8, 9, 10] (by kernel_rfl) (by kernel_rfl)) ?_))
                              refine toD 13 (by kernel_rfl) (p_sA 0 11 b_748 96 1 58 encU32 (Arr.rep 96 0) t_34.2.1 (by kernel_rfl) (by kernel_rfl) (by kernel_rfl) encU32_len encU32_cell (by kernel_rfl) (jkD (fun w h => h.pick [0, 1, 2, 3, 4, 5, 6, 7, 8, 9, 10] (by kernel_rfl) (by kernel_rfl)) ?_))
                              refine jd_f [⟨14, 0, 0⟩] 0 (by kernel_rfl) (by kernel_rfl) (fun w h => h.pick [0, 1, 2, 3, 4, 5, 6, 7, 8, 9, 10] (by kernel_rfl) (by kernel_rfl)) (by kernel_rfl) (by kernel_rfl) ?_
                              refine jd_end (by kernel_rfl) ?_
                              exact jx_meet ⟨t_34.1.fSteps, t_34.1.fHammers, t_34.2.1, t_34.2.2, b_770, o_773, cap_774, sp_775, t_34.1.fHammers.length, b_748⟩ ⟨h, rfl, hs_776, ho_777⟩ (by kernel_rfl) [0, 1, 2, 3, 4, 5, 6, 7, 8, 9, 10, 13, 14, 11] (by kernel_rfl) (by kernel_rfl)
                          · refine p_a 0 [0] (by kernel_rfl) (fun b => by kernel_rfl) (fun b_778 => jkD (fun w h => h.pick [0, 1, 2, 3, 4, 5, 6, 7, 8, 9, 10] (by kernel_rfl) (by kernel_rfl)) ?_)
                            obtain ⟨t_32, ht_779, h⟩ := bd h
                            refine toD 1 (by kernel_rfl) (p_call 0 17 #[(.agg #[(.int .i16 aF0.fSteps), (.slice aF0_fHammers_a aF0.fHammers.length aF0_fHammers_c)])] (by kernel_rfl) (by kernel_rfl) (fun w hm => laws_toFrame.calls aF0 w _ aF0_fHammers_a aF0.fHammers.length aF0_fHammers_c (hm.exRow aF0_fHammers_h List.not_mem_nil) rfl ht_779) ?_)
                            rintro w v w' hm ⟨o_780, cap_781, sp_782, _, rfl, hs_783, ho_784, rfl, hm'⟩
                            refine ⟨_, hm.app hm', jkD (fun w h => h.pick [0, 1, 2, 3, 4, 5, 6, 7, 8, 9, 10] (by kernel_rfl) (by kernel_rfl)) ?_⟩
                            clear hm hm'
                            obtain ⟨t_33, ht_785, h⟩ := bd h
                            refine toD 3 (by kernel_rfl) (p_call 0 31 #[(.agg (row encU32 aD1.1 []).toArray)] (by kernel_rfl) (by kernel_rfl) (fun w hm => laws_toDrum.calls aD1 w _ ht_785) ?_)
                            rintro w v w' hm ⟨rfl, hm'⟩
                            refine ⟨_, hm.app hm', jkD (fun w h => h.pick [0, 1, 2, 3, 4, 5, 6, 7, 8, 9, 10] (by kernel_rfl) (by kernel_rfl)) ?_⟩
                            clear hm hm'
                            obtain ⟨t_34, ht_786, h⟩ := bd h
                            refine toD 5 (by kernel_rfl) (p_call 0 32 #[(.agg #[(.int .i16 t_32.fSteps), (.slice (o_780.map fun b => ⟨b, 0, none⟩) t_32.fHammers.length cap_781)]), (.agg (row encU32 t_33.1 []).toArray), (.int .i64 aTrack2)] (by kernel_rfl) (by kernel_rfl) (fun w hm => impl_WithoutTrack.calls t_32 t_33 aTrack2 w _ (o_780.map fun b => ⟨b, 0, none⟩) t_32.fHammers.length cap_781 (hm.ownRow (hh := 13) (o := o_780) (T := 176) (enc := encGHammer) (xs := t_32.fHammers) (sp := sp_782) (by kernel_rfl) (fun e => (ho_784 e).1) encGHammer_len) rfl ht_786) ?_)
                            rintro w v w' hm ⟨o_787, cap_788, sp_789, _, rfl, hs_790, ho_791, rfl, hm'⟩
                            refine ⟨_, hm.app hm', jkD (fun w h => h.pick [0, 1, 2, 3, 4, 5, 6, 7, 8, 9, 10] (by kernel_rfl) (by kernel_rfl)) ?_⟩
                            clear hm hm'
                            refine jd_f [⟨6, 0, 0⟩, ⟨7, 0, 0⟩, ⟨8, 0, 0⟩, ⟨9, 0, 0⟩] 3 (by kernel_rfl) (by kernel_rfl) (fun w h => h.pick [0, 1, 2, 3, 4, 5, 6, 7, 8, 9, 10] (by kernel_rfl) (by kernel_rfl)) (by kernel_rfl) (by kernel_rfl) ?_
                            refine toD 12 (by kernel_rfl) (p_s 0 [12] (by kernel_rfl) (by kernel_rfl) (jkD (fun w h => h.pick [0, 1, 2, 3, 4, 5, 6, 7, 8, 9, 10] (by kernel_rfl) (by kernel_rfl)) ?_))
                            refine toD 13 (by kernel_rfl) (p_sA 0 11 b_748 96 1 58 encU32 (Arr.rep 96 0) t_34.2.1 (by kernel_rfl) (by kernel_rfl) (by kernel_rfl) encU32_len encU32_cell (by kernel_rfl) (jkD (fun w h => h.pick [0, 1, 2, 3, 4, 5, 6, 7, 8, 9, 10] (by kernel_rfl) (by kernel_rfl)) ?_))
                            refine jd_f [⟨14, 0, 0⟩] 0 (by kernel_rfl) (by kernel_rfl) (fun w h => h.pick [0, 1, 2, 3, 4, 5, 6, 7, 8, 9, 10] (by kernel_rfl) (by kernel_rfl)) (by kernel_rfl) (by kernel_rfl) ?_
                            refine jd_end (by kernel_rfl) ?_
                            exact jx_meet ⟨t_34.1.fSteps, t_34.1.fHammers, t_34.2.1, t_34.2.2, b_778, o_787, cap_788, sp_789, t_34.1.fHammers.length, b_748⟩ ⟨h, rfl, hs_790, ho_791⟩ (by kernel_rfl) [0, 1, 2, 3, 4, 5, 6, 7, 8, 9, 10, 12, 14, 11] (by kernel_rfl) (by kernel_rfl)
                      · rintro ⟨i_22, xs_23, a_24, i_25, b_583, o_584, cap_585, sp_586, n_587, b_590⟩ ⟨h, rfl, hs_588, ho_589⟩
                        replace h : laws_FnExactWithoutTrack.k_26 i_2 xs_3 a_4 i_5 i_8 t_20 i_22 xs_23 a_24 i_25 = some r := h
                        rw [laws_FnExactWithoutTrack.k_26] at h
                        refine jx_then ?_
                        refine jc_seq ?_
                        refine jc_seq ?_
                        refine jc_meet (fun (j : Bool) => match j with | q_27 => laws_FnExactWithoutTrack.k_28 i_8 t_20 q_27 = some r) (fun (j : Bool) => match j with | q_27 => [(6, [], (.bool false)), (12, [], (.pointer (some ⟨b_293, 0, none⟩))), (16, [], (.int .i64 t_20.1)), (17, [], (.int .i64 t_21)), (124, [], (.bool q_27))]) (fun (j : Bool) => match j with | q_27 => [⟨some b_1, 25, [(.int .i16 aF0.fSteps), (.slice aF0_fHammers_a aF0.fHammers.length aF0_fHammers_c)]⟩, ⟨(some b_2), 57, row encU32 aD1.1 []⟩, ⟨some b_189, 35, [(.int .i16 i_2), (.slice (o_190.map fun b => ⟨b, 0, none⟩) xs_3.length cap_191)]⟩, ⟨o_190, 176, row encGHammer xs_3 sp_192⟩, ⟨(some b_196), 58, row encU32 a_4.1 []⟩, ⟨o_198, 176, row encGHammer t_17.2 sp_200⟩, ⟨some b_203, 35, [(.int .i16 t_7.fSteps), (.slice (o_198.map fun b => ⟨b, 0, none⟩) t_7.fHammers.length cap_199)]⟩, ⟨some b_293, 35, [(.int .i16 i_8), (.slice (o_294.map fun b => ⟨b, 0, none⟩) xs_9.length cap_295)]⟩, ⟨o_294, 176, row encGHammer t_20.2 sp_296⟩, ⟨(some b_300), 58, row encU32 a_10.1 []⟩, ⟨o_368, 176, row encGHammer t_15.fHammers sp_370⟩, ⟨some b_583, 35, [(.int .i16 i_22), (.slice (o_584.map fun b => ⟨b, 0, none⟩) xs_23.length cap_585)]⟩, ⟨o_584, 176, row encGHammer xs_23 sp_586⟩, ⟨(some b_590), 58, row encU32 a_24.1 []⟩]) ?_ ?_
                        · refine jc_region ?_
                          refine jo_f [(11, 0), (2, 0)] (by kernel_rfl) ?_
                          obtain ⟨t_30, ht_606, h⟩ := bd h
                          refine toO (by kernel_rfl) (p_call 0 21 #[(.agg #[(.int .i16 i_22), (.slice (o_584.map fun b => ⟨b, 0, none⟩) xs_23.length cap_585)]), (.agg #[(.int .i16 i_2), (.slice (o_190.map fun b => ⟨b, 0, none⟩) xs_3.length cap_191)])] (by kernel_rfl) (by kernel_rfl) (fun w hm => laws_eqFrame.calls (⟨i_22, xs_23⟩ : GFrame) (⟨i_2, xs_3⟩ : GFrame) w _ (o_584.map fun b => ⟨b, 0, none⟩) xs_23.length cap_585 (hm.ownRow (hh := 12) (o := o_584) (T := 176) (enc := encGHammer) (xs := xs_23) (sp := sp_586) (by kernel_rfl) (fun e => (ho_589 e).1) encGHammer_len) rfl (o_190.map fun b => ⟨b, 0, none⟩) xs_3.length cap_191 (hm.ownRow (hh := 3) (o := o_190) (T := 176) (enc := encGHammer) (xs := xs_3) (sp := sp_192) (by kernel_rfl) (fun e => (ho_195 e).1) encGHammer_len) rfl ht_606) ?_)
                          rintro w v w' hm ⟨rfl, hm'⟩
                          refine ⟨_, hm.app hm', jkO ?_⟩
                          clear hm hm'
                          refine jo_f [(0, 0), (0, 0)] (by kernel_rfl) ?_
                          refine jo_split 114 (!t_30) (by kernel_rfl) (fun hc_607 => ?_) (fun hc_607 => ?_)
                          · replace h := ifT hc_607 h
                            refine jo_f [(0, 3), (0, 3), (0, 3), (0, 3), (0, 4), (0, 0), (0, 3), (0, 3), (0, 3), (0, 4)] (by kernel_rfl) ?_
                            refine jo_end (by kernel_rfl) ?_
                            exact jx_meet true h (by kernel_rfl) [0, 1, 2, 3, 4, 5, 6, 7, 8, 9, 10, 11, 12, 13] (by kernel_rfl) (by kernel_rfl)
                          · replace h := ifF hc_607 h
                            refine toO (by kernel_rfl) (p_ldA 2 13 b_590 96 1 58 encU32 a_24 (by kernel_rfl) (by kernel_rfl) (by kernel_rfl) encU32_len (by kernel_rfl) (jkO ?_))
                            refine toO (by kernel_rfl) (p_ldA 2 4 b_196 96 1 58 encU32 a_4 (by kernel_rfl) (by kernel_rfl) (by kernel_rfl) encU32_len (by kernel_rfl) (jkO ?_))
                            obtain ⟨t_31, ht_608, h⟩ := bd h
                            refine toO (by kernel_rfl) (p_call 2 33 #[(.agg (row encU32 a_24.1 []).toArray), (.agg (row encU32 a_4.1 []).toArray)] (by kernel_rfl) (by kernel_rfl) (fun w hm => laws_eqDrum.calls a_24 a_4 w _ ht_608) ?_)
                            rintro w v w' hm ⟨rfl, hm'⟩
                            refine ⟨_, hm.app hm', jkO ?_⟩
                            clear hm hm'
                            refine jo_f [(0, 2), (0, 5), (0, 0), (0, 1), (0, 1), (0, 1), (0, 0)] (by kernel_rfl) ?_
                            refine jo_end (by kernel_rfl) ?_
                            exact jx_meet ((!t_31) || (i_25 != i_5)) h (by kernel_rfl) [0, 1, 2, 3, 4, 5, 6, 7, 8, 9, 10, 11, 12, 13] (by kernel_rfl) (by kernel_rfl)
                        · rintro q_27 h
                          replace h : laws_FnExactWithoutTrack.k_28 i_8 t_20 q_27 = some r := h
                          rw [laws_FnExactWithoutTrack.k_28] at h
                          refine jx_then ?_
                          refine jc_cond q_27 (by kernel_rfl) (fun hc_601 => ?_) (fun hc_601 => ?_)
                          · replace h := ifT hc_601 h
                            refine jc_seq ?_
                            refine jc_region ?_
                            refine jo_f [(0, 0)] (by kernel_rfl) ?_
                            refine jo_end (by kernel_rfl) ?_
                            refine jx_then ?_
                            refine jc_ret ?_
                            refine jx_thenr ?_
                            obtain rfl := Option.some.inj h
                            exact jx_ret [] (.bool false) [] rfl (by kernel_rfl) (by kernel_rfl) (fun w hm => ⟨rfl, hm.pick [] (by kernel_rfl) (by kernel_rfl)⟩)
                          · replace h := ifF hc_601 h
                            refine jc_skip ?_
                            refine jx_then ?_
                            refine jc_seq ?_
                            refine jc_region ?_
                            refine jo_f [(0, 0)] (by kernel_rfl) ?_
                            refine jo_end (by kernel_rfl) ?_
                            refine jx_then ?_
                            refine jc_seq ?_
                            refine jc_region ?_
                            refine jo_f [(7, 0), (0, 0)] (by kernel_rfl) ?_
                            obtain ⟨t_29, ht_602, h⟩ := bd h
                            refine toO (by kernel_rfl) (p_call 0 34 #[(.agg #[(.int .i16 i_8), (.slice (o_294.map fun b => ⟨b, 0, none⟩) xs_9.length cap_295)]), (.int .i64 1)] (by kernel_rfl) (by kernel_rfl) (fun w hm => laws_heldFrame.calls (⟨i_8, t_20.2⟩ : GFrame) 1 w _ (o_294.map fun b => ⟨b, 0, none⟩) xs_9.length cap_295 (hm.ownRow (hh := 8) (o := o_294) (T := 176) (enc := encGHammer) (xs := t_20.2) (sp := sp_296) (by kernel_rfl) (fun e => (ho_394 e).1) encGHammer_len) hn_393 ht_602) ?_)
                            rintro w v w' hm ⟨rfl, hm'⟩
                            refine ⟨_, hm.app hm', jkO ?_⟩
                            clear hm hm'
                            refine jo_f [(0, 0)] (by kernel_rfl) ?_
                            refine jo_end (by kernel_rfl) ?_
                            refine jx_then ?_
                            refine jc_seq ?_
                            refine jc_seq ?_
                            refine jc_region ?_
                            refine jo_f [(0, 0), (0, 0)] (by kernel_rfl) ?_
                            refine jo_end (by kernel_rfl) ?_
                            refine jx_then ?_
                            refine jc_cond (decide (t_29 < 0)) (by kernel_rfl) (fun hc_604 => ?_) (fun hc_604 => ?_)
                            · replace h := ifT hc_604 h
                              refine jc_seq ?_
                              refine jc_region ?_
                              refine jo_f [(0, 0)] (by kernel_rfl) ?_
                              refine jo_end (by kernel_rfl) ?_
                              refine jx_then ?_
                              refine jc_ret ?_
                              refine jx_thenr ?_
                              obtain rfl := Option.some.inj h
                              exact jx_ret [] (.bool false) [] rfl (by kernel_rfl) (by kernel_rfl) (fun w hm => ⟨rfl, hm.pick [] (by kernel_rfl) (by kernel_rfl)⟩)
                            · replace h := ifF hc_604 h
                              refine jc_skip ?_
                              refine jx_then ?_
                              refine jc_seq ?_
                              refine jc_seq ?_
                              refine jc_region ?_
                              refine jo_f [(0, 0), (0, 0), (0, 0)] (by kernel_rfl) ?_
                              refine jo_end (by kernel_rfl) ?_
                              refine jx_then ?_
                              refine jc_cond (t_29 != t_20.1) (by kernel_rfl) (fun hc_605 => ?_) (fun hc_605 => ?_)
                              · replace h := ifT hc_605 h
                                refine jc_seq ?_
                                refine jc_region ?_
                                refine jo_f [(0, 0)] (by kernel_rfl) ?_
                                refine jo_end (by kernel_rfl) ?_
                                refine jx_then ?_
                                refine jc_ret ?_
                                refine jx_thenr ?_
                                obtain rfl := Option.some.inj h
                                exact jx_ret [] (.bool false) [] rfl (by kernel_rfl) (by kernel_rfl) (fun w hm => ⟨rfl, hm.pick [] (by kernel_rfl) (by kernel_rfl)⟩)
                              · replace h := ifF hc_605 h
                                refine jc_skip ?_
                                refine jx_then ?_
                                refine jc_seq ?_
                                refine jc_region ?_
                                refine jo_f [(0, 0)] (by kernel_rfl) ?_
                                refine jo_end (by kernel_rfl) ?_
                                refine jx_then ?_
                                refine jc_ret ?_
                                obtain rfl := Option.some.inj h
                                exact jx_ret [] (.bool true) [] rfl (by kernel_rfl) (by kernel_rfl) (fun w hm => ⟨rfl, hm.pick [] (by kernel_rfl) (by kernel_rfl)⟩)
end Go.Proofs.Ytdnkjgmncfhejaa
