/- Functions of the program that the laws reach: a plain function each, and that the call comes to its answer if the plain function has one. Printed by a program. -/
import Derived.Test.YtilackblefjgdaaT
import Derived.Test.YtilackblefjgdaaM0
import Derived.Test.YtilackblefjgdaaM3
import Derived.Test.YtilackblefjgdaaM4
namespace Go.Proofs.Ytilackblefjgdaa
open Eng
set_option linter.unusedVariables false

/-! ### laws.szLivesS -/
noncomputable def laws_szLivesS (a0 : List GLives) (left1 : Int) : Option (Int) := (if (decide ((w64 (left1 - (a0.length : Int))) < 0)) = true then some (-1) else some (w64 (left1 - (a0.length : Int))))
set_option maxRecDepth 100000 in
theorem laws_szLivesS.calls (a0 : List GLives) (left1 : Int) (w : World) (r : Int) (a0_a : Option Addr) (a0_an : Nat) (a0_c : Nat) (a0_h : Rw w a0_a 2 encGLives a0) (a0_hn : a0.length = a0_an) (h : laws_szLivesS a0 left1 = some r) :
    Calls Try.prog 37 #[(.slice a0_a a0_an a0_c), (.int .i64 left1)] w fun e w' => ∃ v, e = .returned v ∧ (v = (.int .i64 r) ∧ Mem w [] [] w') := by
  subst a0_hn
  rw [laws_szLivesS] at h
  refine enter (args := [(.slice a0_a a0.length a0_c), (.int .i64 left1)]) Try.func37 rfl Try.ntmps37 (by kernel_rfl) (L := []) (W := []) (Mem.start w) ?_
  refine jc_seq ?_
  refine jc_region ?_
  refine jo_f [(0, 0)] (by kernel_rfl) ?_
  refine jo_end (by kernel_rfl) ?_
  refine jx_then ?_
  refine jc_seq ?_
  refine jc_region ?_
  refine jo_f [(0, 0), (0, 0), (0, 0), (0, 0), (0, 0)] (by kernel_rfl) ?_
  refine jo_end (by kernel_rfl) ?_
  refine jx_then ?_
  refine jc_seq ?_
  refine jc_seq ?_
  refine jc_region ?_
  refine jo_f [(0, 0), (0, 0)] (by kernel_rfl) ?_
  refine jo_end (by kernel_rfl) ?_
  refine jx_then ?_
  refine jc_cond (decide ((w64 (left1 - (a0.length : Int))) < 0)) (by kernel_rfl) (fun hc_2 => ?_) (fun hc_2 => ?_)
  · replace h := ifT hc_2 h
    refine jc_seq ?_
    refine jc_region ?_
    refine jo_f [(0, 0)] (by kernel_rfl) ?_
    refine jo_end (by kernel_rfl) ?_
    refine jx_then ?_
    refine jc_ret ?_
    refine jx_thenr ?_
    obtain rfl := Option.some.inj h
    exact jx_ret [] (.int .i64 (-1)) [] rfl (by kernel_rfl) (by kernel_rfl) (fun w hm => ⟨rfl, hm.pick [] (by kernel_rfl) (by kernel_rfl)⟩)
  · replace h := ifF hc_2 h
    refine jc_skip ?_
    refine jx_then ?_
    refine jc_seq ?_
    refine jc_region ?_
    refine jo_f [(0, 0), (0, 0)] (by kernel_rfl) ?_
    refine jo_end (by kernel_rfl) ?_
    refine jx_then ?_
    refine jc_ret ?_
    obtain rfl := Option.some.inj h
    exact jx_ret [] (.int .i64 (w64 (left1 - (a0.length : Int)))) [] rfl (by kernel_rfl) (by kernel_rfl) (fun w hm => ⟨rfl, hm.pick [] (by kernel_rfl) (by kernel_rfl)⟩)

/-! ### laws.toLivesS -/
noncomputable def laws_toLivesS.k_2 (xs_1 : List GLives) : Option ((List GLives)) := some xs_1
noncomputable def laws_toLivesS.l_5 (a0 : List GLives) : ((List GLives) × Int) → Option (((List GLives) × Int) ⊕ ((List GLives)))
  | (xs_3, i_4) => (if (decide (i_4 < (a0.length : Int))) = true then (ix a0 i_4).bind fun x_7 => (laws_toLives x_7).bind fun t_8 => (ix xs_3 i_4).bind fun x_9 => some (.inl ((xs_3.set i_4.toNat t_8), (w64 (i_4 + 1)))) else some (.inr xs_3))
noncomputable def laws_toLivesS (a0 : List GLives) : Option ((List GLives)) := (if 0 ≤ (a0.length : Int) ∧ (a0.length : Int) ≤ 8796093022208 then (loop (laws_toLivesS.l_5 a0) ((List.replicate (a0.length : Int).toNat (⟨0, 0⟩ : GLives)), 0)).bind fun t_6 => laws_toLivesS.k_2 t_6 else none)
set_option maxRecDepth 100000 in
theorem laws_toLivesS.calls (a0 : List GLives) (w : World) (r : (List GLives)) (a0_a : Option Addr) (a0_an : Nat) (a0_c : Nat) (a0_h : Rw w a0_a 2 encGLives a0) (a0_hn : a0.length = a0_an) (h : laws_toLivesS a0 = some r) :
    Calls Try.prog 39 #[(.slice a0_a a0_an a0_c)] w fun e w' => ∃ v, e = .returned v ∧ (∃ (o0 : Option Nat) (c0 : Nat) (s0 : List Value) (n0 : Nat), r.length = n0 ∧ (o0 ≠ none → n0 ≤ c0 ∧ s0.length = (c0 - n0) * 2) ∧ (o0 = none → r = [] ∧ c0 = 0) ∧ v = .slice (o0.map fun b => ⟨b, 0, none⟩) n0 c0 ∧ Mem w [] [⟨o0, 44, row encGLives r s0⟩] w') := by
  subst a0_hn
  rw [laws_toLivesS] at h
  refine enter (args := [(.slice a0_a a0.length a0_c)]) Try.func39 rfl Try.ntmps39 (by kernel_rfl) (L := []) (W := []) (Mem.start w) ?_
  refine jc_seq ?_
  refine jc_region ?_
  refine jo_f [(0, 0)] (by kernel_rfl) ?_
  refine jo_end (by kernel_rfl) ?_
  refine jx_then ?_
  refine jc_seq ?_
  refine jc_region ?_
  refine jo_f [(0, 0), (0, 0)] (by kernel_rfl) ?_
  obtain ⟨hg_88, h⟩ := gd h
  refine toO (by kernel_rfl) (p_mk 0 44 (a0.length : Int) 2 16 encGLives (⟨0, 0⟩ : GLives) (by kernel_rfl) (by kernel_rfl) hg_88.1 (by omega) (by kernel_rfl) (fun b_1 => jkO ?_))
  refine jo_f [(0, 0)] (by kernel_rfl) ?_
  refine jo_end (by kernel_rfl) ?_
  refine jx_then ?_
  refine jc_seq ?_
  refine jc_seq ?_
  refine jc_region ?_
  refine jo_f [(0, 0)] (by kernel_rfl) ?_
  refine jo_end (by kernel_rfl) ?_
  refine jx_then ?_
  refine jc_meet (fun (j : (List GLives)) => match j with | xs_1 => laws_toLivesS.k_2 xs_1 = some r ∧ (xs_1.length = (a0.length : Int).toNat)) (fun (j : (List GLives)) => match j with | xs_1 => [(2, [], (.slice none 0 0)), (3, [], (.slice (some ⟨b_1, 0, none⟩) ((a0.length : Int).toNat) ((a0.length : Int).toNat)))]) (fun (j : (List GLives)) => match j with | xs_1 => [⟨(some b_1), 44, row encGLives xs_1 []⟩]) ?_ ?_
  · refine jc_block ?_
    obtain ⟨t_6, ht_87, hr_79⟩ := bd h
    refine jc_loop (fun (s : (List GLives) × Int) (x : Unit) => match s, x with | ⟨xs_3, i_4⟩, _ => (xs_3.length = (a0.length : Int).toNat)) (fun (s : (List GLives) × Int) (x : Unit) => match s, x with | ⟨xs_3, i_4⟩, _ => [(0, [], (.slice a0_a a0.length a0_c)), (2, [], (.slice none 0 0)), (3, [], (.slice (some ⟨b_1, 0, none⟩) ((a0.length : Int).toNat) ((a0.length : Int).toNat))), (4, [], (.int .i64 i_4))]) (fun (s : (List GLives) × Int) (x : Unit) => match s, x with | ⟨xs_3, i_4⟩, _ => [⟨(some b_1), 44, row encGLives xs_3 []⟩]) ht_87 () List.length_replicate (by kernel_rfl) [0] (by kernel_rfl) (by kernel_rfl) ?_
    rintro ⟨xs_3, i_4⟩ _ y_80 hn_78 h
    rw [laws_toLivesS.l_5] at h
    refine jc_seq ?_
    refine jc_seq ?_
    refine jc_region ?_
    refine jo_f [(0, 0), (0, 0), (0, 0), (0, 0)] (by kernel_rfl) ?_
    refine jo_end (by kernel_rfl) ?_
    refine jx_then ?_
    refine jc_cond (decide (i_4 < (a0.length : Int))) (by kernel_rfl) (fun hc_82 => ?_) (fun hc_82 => ?_)
    · replace h := ifT hc_82 h
      refine jc_skip ?_
      refine jx_then ?_
      refine jc_seq ?_
      refine jc_block ?_
      refine jc_region ?_
      refine jo_f [(0, 0), (0, 0), (0, 0), (0, 0)] (by kernel_rfl) ?_
      obtain ⟨x_7, hx_83, h⟩ := bd h
      refine toO (by kernel_rfl) (p_idx 0 a0_a a0.length i_4 2 (by kernel_rfl) (by kernel_rfl) (ix_some hx_83).1 (ltn hx_83 rfl) (a0_h.sp hx_83) (jkO ?_))
      refine toO (by kernel_rfl) (p_ld 0 (aB a0_a) (aO a0_a + i_4.toNat * 2) true (encGLives x_7) (by kernel_rfl) (by kernel_rfl) (by kernel_rfl) (fun w hm => ((hm.exRow a0_h List.not_mem_nil).at hx_83)) (jkO ?_))
      obtain ⟨t_8, ht_84, h⟩ := bd h
      refine toO (by kernel_rfl) (p_call 0 18 #[(.agg #[(.int .i64 x_7.fPin), (.int .i64 x_7.fHammer)])] (by kernel_rfl) (by kernel_rfl) (fun w hm => laws_toLives.calls x_7 w _ ht_84) ?_)
      rintro w v w' hm ⟨rfl, hm'⟩
      refine ⟨_, hm.app hm', jkO ?_⟩
      clear hm hm'
      obtain ⟨x_9, hx_85, h⟩ := bd h
      refine toO (by kernel_rfl) (p_idx 0 (some ⟨b_1, 0, none⟩) ((a0.length : Int).toNat) i_4 2 (by kernel_rfl) (by kernel_rfl) (ix_some hx_85).1 (ltn hx_85 hn_78) rfl (jkO ?_))
      refine toO (by kernel_rfl) (p_str 0 0 b_1 44 encGLives xs_3 [] i_4 t_8 2 0 [(.int .i64 t_8.fPin), (.int .i64 t_8.fHammer)] (by kernel_rfl) (by kernel_rfl) (by kernel_rfl) encGLives_len hx_85 (by kernel_rfl) (by kernel_rfl) (jkO ?_))
      refine jo_end (by kernel_rfl) ?_
      refine jx_inn ?_
      refine jx_then ?_
      refine jc_region ?_
      refine jo_f [(0, 0), (0, 0), (0, 0)] (by kernel_rfl) ?_
      refine jo_end (by kernel_rfl) ?_
      exact jx_back ((xs_3.set i_4.toNat t_8), (w64 (i_4 + 1))) () (Option.some.inj h).symm (List.length_set.trans hn_78) [0] (by kernel_rfl) (by kernel_rfl) (by kernel_rfl)
    · replace h := ifF hc_82 h
      refine jc_exit ?_
      refine jx_thenx ?_
      refine jx_leave xs_3 (Option.some.inj h).symm (fun e_86 => ?_)
      subst e_86
      refine jx_ine ?_
      exact jx_meet xs_3 ⟨hr_79, hn_78⟩ (by kernel_rfl) [0] (by kernel_rfl) (by kernel_rfl)
  · rintro xs_1 ⟨h, hn_66⟩
    replace h : laws_toLivesS.k_2 xs_1 = some r := h
    rw [laws_toLivesS.k_2] at h
    refine jx_then ?_
    refine jc_seq ?_
    refine jc_region ?_
    refine jo_f [(0, 0), (0, 0)] (by kernel_rfl) ?_
    refine jo_end (by kernel_rfl) ?_
    refine jx_then ?_
    refine jc_ret ?_
    obtain rfl := Option.some.inj h
    exact jx_ret [] (.slice (some ⟨b_1, 0, none⟩) ((a0.length : Int).toNat) ((a0.length : Int).toNat)) [] rfl (by kernel_rfl) (by kernel_rfl) (fun w hm => ⟨(some b_1), ((a0.length : Int).toNat), [], ((a0.length : Int).toNat), hn_66, (fun _ => ⟨Nat.le_refl _, by simp⟩), (fun e => nomatch e), rfl, hm.pick [0] (by kernel_rfl) (by kernel_rfl)⟩)

/-! ### spec.CheapestLives -/
noncomputable def spec_CheapestLives.k_8 (i_6 : Int) (i_7 : Int) : Option (Int × Int × Int) := (if (decide (i_6 < 0)) = true then some (0, 0, 6) else some (i_6, i_7, 0))
noncomputable def spec_CheapestLives.k_17 (pinPrice2 : Int) (hammerPrice3 : Int) (i_9 : Int) (i_10 : Int) (i_11 : Int) (t_15 : Int × Int × Int) (q_16 : Bool) : Option ((Int × Int × Int) ⊕ ((Int × Int))) := (if q_16 = true then some (.inl (i_11, (w64 ((w64 ((w64 (t_15.1 * pinPrice2)) + (w64 (t_15.2.1 * hammerPrice3)))) * (w64 (i_11 + 1)))), (w64 (i_11 + 1)))) else some (.inl (i_9, i_10, (w64 (i_11 + 1)))))
noncomputable def spec_CheapestLives.l_12 (w1 : GWear) (pinPrice2 : Int) (hammerPrice3 : Int) (turns4 : Int) (choices5 : List GLives) : (Int × Int × Int) → Option ((Int × Int × Int) ⊕ ((Int × Int)))
  | (i_9, i_10, i_11) => (if (decide (i_11 < (choices5.length : Int))) = true then (ix choices5 i_11).bind fun x_14 => (spec_l06Parts w1 x_14 turns4).bind fun t_15 => (if (t_15.2.2 == 0) = true then spec_CheapestLives.k_17 pinPrice2 hammerPrice3 i_9 i_10 i_11 t_15 ((decide (i_9 < 0)) || (decide ((w64 ((w64 ((w64 (t_15.1 * pinPrice2)) + (w64 (t_15.2.1 * hammerPrice3)))) * (w64 (i_11 + 1)))) < i_10))) else spec_CheapestLives.k_17 pinPrice2 hammerPrice3 i_9 i_10 i_11 t_15 false) else some (.inr (i_9, i_10)))
noncomputable def spec_CheapestLives.k_5 (w1 : GWear) (pinPrice2 : Int) (hammerPrice3 : Int) (turns4 : Int) (choices5 : List GLives) (q_4 : Bool) : Option (Int × Int × Int) := (if q_4 = true then some (0, 0, 2) else (loop (spec_CheapestLives.l_12 w1 pinPrice2 hammerPrice3 turns4 choices5) ((-1), 0, 0)).bind fun t_13 => spec_CheapestLives.k_8 t_13.1 t_13.2)
noncomputable def spec_CheapestLives.k_3 (w1 : GWear) (pinPrice2 : Int) (hammerPrice3 : Int) (turns4 : Int) (choices5 : List GLives) (q_2 : Bool) : Option (Int × Int × Int) := (if (!q_2) = true then some (0, 0, 1) else (spec_l00In pinPrice2 0 1000).bind fun t_18 => (if (!t_18) = true then spec_CheapestLives.k_5 w1 pinPrice2 hammerPrice3 turns4 choices5 true else (spec_l00In hammerPrice3 0 1000).bind fun t_19 => (if (!t_19) = true then spec_CheapestLives.k_5 w1 pinPrice2 hammerPrice3 turns4 choices5 true else (spec_l06Turns turns4).bind fun t_20 => (if (!t_20) = true then spec_CheapestLives.k_5 w1 pinPrice2 hammerPrice3 turns4 choices5 true else (spec_l00In (choices5.length : Int) 1 20).bind fun t_21 => spec_CheapestLives.k_5 w1 pinPrice2 hammerPrice3 turns4 choices5 (!t_21)))))
noncomputable def spec_CheapestLives.l_24 (choices5 : List GLives) : (Bool × Int) → Option ((Bool × Int) ⊕ (Bool))
  | (q_22, i_23) => (if ((decide (i_23 < (choices5.length : Int))) && q_22) = true then (ix choices5 i_23).bind fun x_26 => (spec_l06Lives x_26).bind fun t_27 => some (.inl (t_27, (w64 (i_23 + 1)))) else some (.inr q_22))
noncomputable def spec_CheapestLives (f0 : GFrame) (w1 : GWear) (pinPrice2 : Int) (hammerPrice3 : Int) (turns4 : Int) (choices5 : List GLives) : Option (Int × Int × Int) := (spec_l06Ok f0 w1).bind fun t_1 => (loop (spec_CheapestLives.l_24 choices5) (t_1, 0)).bind fun t_25 => spec_CheapestLives.k_3 w1 pinPrice2 hammerPrice3 turns4 choices5 t_25
set_option maxRecDepth 100000 in
set_option maxHeartbeats 8000000 in
theorem spec_CheapestLives.calls (f0 : GFrame) (w1 : GWear) (pinPrice2 : Int) (hammerPrice3 : Int) (turns4 : Int) (choices5 : List GLives) (w : World) (r : Int × Int × Int) (f0_fHammers_a : Option Addr) (f0_fHammers_an : Nat) (f0_fHammers_c : Nat) (f0_fHammers_h : Rw w f0_fHammers_a 2 encGHammer f0.fHammers) (f0_fHammers_hn : f0.fHammers.length = f0_fHammers_an) (w1_fPins_a : Option Addr) (w1_fPins_an : Nat) (w1_fPins_c : Nat) (w1_fPins_h : Rw w w1_fPins_a 3 encGWornPin w1.fPins) (w1_fPins_hn : w1.fPins.length = w1_fPins_an) (w1_fStrokes_a : Option Addr) (w1_fStrokes_an : Nat) (w1_fStrokes_c : Nat) (w1_fStrokes_h : Rw w w1_fStrokes_a 1 encI64 w1.fStrokes) (w1_fStrokes_hn : w1.fStrokes.length = w1_fStrokes_an) (choices5_a : Option Addr) (choices5_an : Nat) (choices5_c : Nat) (choices5_h : Rw w choices5_a 2 encGLives choices5) (choices5_hn : choices5.length = choices5_an) (h : spec_CheapestLives f0 w1 pinPrice2 hammerPrice3 turns4 choices5 = some r) :
    Calls Try.prog 38 #[(.agg #[(.int .i16 f0.fSteps), (.slice f0_fHammers_a f0_fHammers_an f0_fHammers_c)]), (.agg #[(.slice w1_fPins_a w1_fPins_an w1_fPins_c), (.slice w1_fStrokes_a w1_fStrokes_an w1_fStrokes_c)]), (.int .i64 pinPrice2), (.int .i64 hammerPrice3), (.int .i64 turns4), (.slice choices5_a choices5_an choices5_c)] w fun e w' => ∃ v, e = .returned v ∧ (v = .tuple #[(.int .i64 r.1), (.int .i64 r.2.1), (.int .i64 r.2.2)] ∧ Mem w [] [] w') := by
  subst f0_fHammers_hn w1_fPins_hn w1_fStrokes_hn choices5_hn
  rw [spec_CheapestLives] at h
  refine enter (args := [(.agg #[(.int .i16 f0.fSteps), (.slice f0_fHammers_a f0.fHammers.length f0_fHammers_c)]), (.agg #[(.slice w1_fPins_a w1.fPins.length w1_fPins_c), (.slice w1_fStrokes_a w1.fStrokes.length w1_fStrokes_c)]), (.int .i64 pinPrice2), (.int .i64 hammerPrice3), (.int .i64 turns4), (.slice choices5_a choices5.length choices5_c)]) Try.func38 rfl Try.ntmps38 (by kernel_rfl) (L := []) (W := []) (Mem.start w) ?_
  refine jc_seq ?_
  refine jc_region ?_
  refine toO (by kernel_rfl) (p_a 0 [0] (by kernel_rfl) (fun b => by kernel_rfl) (fun b_1 => jkO ?_))
  refine toO (by kernel_rfl) (p_a 0 [0] (by kernel_rfl) (fun b => by kernel_rfl) (fun b_2 => jkO ?_))
  refine jo_f [(0, 0), (0, 0), (0, 0)] (by kernel_rfl) ?_
  refine jo_end (by kernel_rfl) ?_
  refine jx_then ?_
  refine jc_seq ?_
  refine jc_region ?_
  obtain ⟨t_1, ht_3, h⟩ := bd h
  refine toO (by kernel_rfl) (p_call 0 88 #[(.pointer (some ⟨b_1, 0, none⟩)), (.pointer (some ⟨b_2, 0, none⟩))] (by kernel_rfl) (by kernel_rfl) (fun w hm => spec_l06Ok.calls f0 w1 w _ f0_fHammers_a f0.fHammers.length f0_fHammers_c (hm.exRow f0_fHammers_h List.not_mem_nil) rfl w1_fPins_a w1.fPins.length w1_fPins_c (hm.exRow w1_fPins_h List.not_mem_nil) rfl w1_fStrokes_a w1.fStrokes.length w1_fStrokes_c (hm.exRow w1_fStrokes_h List.not_mem_nil) rfl b_1 b_2 (hm.pass (N := [⟨some b_1, 38, [(.int .i16 f0.fSteps), (.slice f0_fHammers_a f0.fHammers.length f0_fHammers_c)]⟩, ⟨some b_2, 42, [(.slice w1_fPins_a w1.fPins.length w1_fPins_c), (.slice w1_fStrokes_a w1.fStrokes.length w1_fStrokes_c)]⟩]) [0, 1] (by kernel_rfl) (by kernel_rfl)) (hm.exApart (N := [⟨some b_1, 38, [(.int .i16 f0.fSteps), (.slice f0_fHammers_a f0.fHammers.length f0_fHammers_c)]⟩, ⟨some b_2, 42, [(.slice w1_fPins_a w1.fPins.length w1_fPins_c), (.slice w1_fStrokes_a w1.fStrokes.length w1_fStrokes_c)]⟩]) f0_fHammers_h (fun _ => List.not_mem_nil) [0, 1] (by kernel_rfl)) (hm.exApart (N := [⟨some b_1, 38, [(.int .i16 f0.fSteps), (.slice f0_fHammers_a f0.fHammers.length f0_fHammers_c)]⟩, ⟨some b_2, 42, [(.slice w1_fPins_a w1.fPins.length w1_fPins_c), (.slice w1_fStrokes_a w1.fStrokes.length w1_fStrokes_c)]⟩]) w1_fPins_h (fun _ => List.not_mem_nil) [0, 1] (by kernel_rfl)) (hm.exApart (N := [⟨some b_1, 38, [(.int .i16 f0.fSteps), (.slice f0_fHammers_a f0.fHammers.length f0_fHammers_c)]⟩, ⟨some b_2, 42, [(.slice w1_fPins_a w1.fPins.length w1_fPins_c), (.slice w1_fStrokes_a w1.fStrokes.length w1_fStrokes_c)]⟩]) w1_fStrokes_h (fun _ => List.not_mem_nil) [0, 1] (by kernel_rfl)) ht_3) ?_)
  rintro w v w' hm ⟨rfl, hm'⟩
  refine ⟨_, hm.appW (ps := [(0, ⟨some b_1, 38, [(.int .i16 f0.fSteps), (.slice f0_fHammers_a f0.fHammers.length f0_fHammers_c)]⟩), (1, ⟨some b_2, 42, [(.slice w1_fPins_a w1.fPins.length w1_fPins_c), (.slice w1_fStrokes_a w1.fStrokes.length w1_fStrokes_c)]⟩)]) (N := []) hm' (by kernel_rfl) (by kernel_rfl), jkO ?_⟩
  clear hm hm'
  refine jo_f [(0, 0)] (by kernel_rfl) ?_
  refine jo_end (by kernel_rfl) ?_
  refine jx_then ?_
  refine jc_seq ?_
  refine jc_seq ?_
  refine jc_region ?_
  refine jo_f [(0, 0)] (by kernel_rfl) ?_
  refine jo_end (by kernel_rfl) ?_
  refine jx_then ?_
  refine jc_meet (fun (j : Bool) => match j with | q_2 => spec_CheapestLives.k_3 w1 pinPrice2 hammerPrice3 turns4 choices5 q_2 = some r) (fun (j : Bool) => match j with | q_2 => [(2, [], (.int .i64 pinPrice2)), (3, [], (.int .i64 hammerPrice3)), (4, [], (.int .i64 turns4)), (5, [], (.slice choices5_a choices5.length choices5_c)), (7, [], (.pointer (some ⟨b_2, 0, none⟩))), (12, [], (.int .i64 0)), (13, [], (.int .i64 0)), (14, [], (.int .i64 0)), (15, [], (.bool q_2))]) (fun (j : Bool) => match j with | q_2 => [⟨some b_1, 38, [(.int .i16 f0.fSteps), (.slice f0_fHammers_a f0.fHammers.length f0_fHammers_c)]⟩, ⟨some b_2, 42, [(.slice w1_fPins_a w1.fPins.length w1_fPins_c), (.slice w1_fStrokes_a w1.fStrokes.length w1_fStrokes_c)]⟩]) ?_ ?_
  · refine jc_block ?_
    obtain ⟨t_25, ht_201, hr_194⟩ := bd h
    refine jc_loop (fun (s : Bool × Int) (x : Unit) => match s, x with | ⟨q_22, i_23⟩, _ => True) (fun (s : Bool × Int) (x : Unit) => match s, x with | ⟨q_22, i_23⟩, _ => [(2, [], (.int .i64 pinPrice2)), (3, [], (.int .i64 hammerPrice3)), (4, [], (.int .i64 turns4)), (5, [], (.slice choices5_a choices5.length choices5_c)), (7, [], (.pointer (some ⟨b_2, 0, none⟩))), (12, [], (.int .i64 0)), (13, [], (.int .i64 0)), (14, [], (.int .i64 0)), (15, [], (.bool q_22)), (16, [], (.int .i64 i_23))]) (fun (s : Bool × Int) (x : Unit) => match s, x with | ⟨q_22, i_23⟩, _ => [⟨some b_1, 38, [(.int .i16 f0.fSteps), (.slice f0_fHammers_a f0.fHammers.length f0_fHammers_c)]⟩, ⟨some b_2, 42, [(.slice w1_fPins_a w1.fPins.length w1_fPins_c), (.slice w1_fStrokes_a w1.fStrokes.length w1_fStrokes_c)]⟩]) ht_201 () trivial (by kernel_rfl) [0, 1] (by kernel_rfl) (by kernel_rfl) ?_
    rintro ⟨q_22, i_23⟩ _ y_195 _ h
    rw [spec_CheapestLives.l_24] at h
    refine jc_seq ?_
    refine jc_seq ?_
    refine jc_region ?_
    refine jo_f [(0, 0), (0, 0), (0, 0), (0, 0), (0, 0), (0, 1), (0, 0)] (by kernel_rfl) ?_
    refine jo_end (by kernel_rfl) ?_
    refine jx_then ?_
    refine jc_cond ((decide (i_23 < (choices5.length : Int))) && q_22) (by kernel_rfl) (fun hc_197 => ?_) (fun hc_197 => ?_)
    · replace h := ifT hc_197 h
      refine jc_skip ?_
      refine jx_then ?_
      refine jc_seq ?_
      refine jc_block ?_
      refine jc_region ?_
      refine jo_f [(0, 0), (0, 0)] (by kernel_rfl) ?_
      obtain ⟨x_26, hx_198, h⟩ := bd h
      refine toO (by kernel_rfl) (p_idx 0 choices5_a choices5.length i_23 2 (by kernel_rfl) (by kernel_rfl) (ix_some hx_198).1 (ltn hx_198 rfl) (choices5_h.sp hx_198) (jkO ?_))
      refine toO (by kernel_rfl) (p_ld 0 (aB choices5_a) (aO choices5_a + i_23.toNat * 2) true (encGLives x_26) (by kernel_rfl) (by kernel_rfl) (by kernel_rfl) (fun w hm => ((hm.exRow choices5_h List.not_mem_nil).at hx_198)) (jkO ?_))
      obtain ⟨t_27, ht_199, h⟩ := bd h
      refine toO (by kernel_rfl) (p_call 0 89 #[(.agg #[(.int .i64 x_26.fPin), (.int .i64 x_26.fHammer)])] (by kernel_rfl) (by kernel_rfl) (fun w hm => spec_l06Lives.calls x_26 w _ ht_199) ?_)
      rintro w v w' hm ⟨rfl, hm'⟩
      refine ⟨_, hm.app hm', jkO ?_⟩
      clear hm hm'
      refine jo_f [(0, 0)] (by kernel_rfl) ?_
      refine jo_end (by kernel_rfl) ?_
      refine jx_inn ?_
      refine jx_then ?_
      refine jc_region ?_
      refine jo_f [(0, 0), (0, 0), (0, 0)] (by kernel_rfl) ?_
      refine jo_end (by kernel_rfl) ?_
      exact jx_back (t_27, (w64 (i_23 + 1))) () (Option.some.inj h).symm trivial [0, 1] (by kernel_rfl) (by kernel_rfl) (by kernel_rfl)
    · replace h := ifF hc_197 h
      refine jc_exit ?_
      refine jx_thenx ?_
      refine jx_leave q_22 (Option.some.inj h).symm (fun e_200 => ?_)
      subst e_200
      refine jx_ine ?_
      exact jx_meet q_22 hr_194 (by kernel_rfl) [0, 1] (by kernel_rfl) (by kernel_rfl)
  · rintro q_2 h
    replace h : spec_CheapestLives.k_3 w1 pinPrice2 hammerPrice3 turns4 choices5 q_2 = some r := h
    rw [spec_CheapestLives.k_3] at h
    refine jx_then ?_
    refine jc_seq ?_
    refine jc_seq ?_
    refine jc_region ?_
    refine jo_f [(0, 0), (0, 0)] (by kernel_rfl) ?_
    refine jo_end (by kernel_rfl) ?_
    refine jx_then ?_
    refine jc_cond (!q_2) (by kernel_rfl) (fun hc_53 => ?_) (fun hc_53 => ?_)
    · replace h := ifT hc_53 h
      refine jc_seq ?_
      refine jc_region ?_
      refine jo_f [(0, 0), (0, 0), (0, 0)] (by kernel_rfl) ?_
      refine jo_end (by kernel_rfl) ?_
      refine jx_then ?_
      refine jc_ret ?_
      refine jx_thenr ?_
      obtain rfl := Option.some.inj h
      exact jx_ret [] (.tuple #[(.int .i64 0), (.int .i64 0), (.int .i64 1)]) [] rfl (by kernel_rfl) (by kernel_rfl) (fun w hm => ⟨rfl, hm.pick [] (by kernel_rfl) (by kernel_rfl)⟩)
    · replace h := ifF hc_53 h
      refine jc_skip ?_
      refine jx_then ?_
      refine jc_seq ?_
      refine jc_seq ?_
      refine jc_meet (fun (j : Bool) => match j with | q_4 => spec_CheapestLives.k_5 w1 pinPrice2 hammerPrice3 turns4 choices5 q_4 = some r) (fun (j : Bool) => match j with | q_4 => [(2, [], (.int .i64 pinPrice2)), (3, [], (.int .i64 hammerPrice3)), (4, [], (.int .i64 turns4)), (5, [], (.slice choices5_a choices5.length choices5_c)), (7, [], (.pointer (some ⟨b_2, 0, none⟩))), (12, [], (.int .i64 0)), (13, [], (.int .i64 0)), (14, [], (.int .i64 0)), (59, [], (.bool q_4))]) (fun (j : Bool) => match j with | q_4 => [⟨some b_1, 38, [(.int .i16 f0.fSteps), (.slice f0_fHammers_a f0.fHammers.length f0_fHammers_c)]⟩, ⟨some b_2, 42, [(.slice w1_fPins_a w1.fPins.length w1_fPins_c), (.slice w1_fStrokes_a w1.fStrokes.length w1_fStrokes_c)]⟩]) ?_ ?_
      · refine jc_region ?_
        refine jo_f [(0, 0)] (by kernel_rfl) ?_
        obtain ⟨t_18, ht_179, h⟩ := bd h
        refine toO (by kernel_rfl) (p_call 0 90 #[(.int .i64 pinPrice2), (.int .i64 0), (.int .i64 1000)] (by kernel_rfl) (by kernel_rfl) (fun w hm => spec_l00In.calls pinPrice2 0 1000 w _ ht_179) ?_)
        rintro w v w' hm ⟨rfl, hm'⟩
        refine ⟨_, hm.app hm', jkO ?_⟩
        clear hm hm'
        refine jo_f [(0, 0), (0, 0), (0, 1)] (by kernel_rfl) ?_
        refine jo_split 44 (!t_18) (by kernel_rfl) (fun hc_180 => ?_) (fun hc_180 => ?_)
        · replace h := ifT hc_180 h
          refine jo_f [(0, 3), (0, 3), (0, 4), (0, 0), (0, 3), (0, 3), (0, 3), (0, 4), (0, 0), (0, 3), (0, 3), (0, 3), (0, 3), (0, 4)] (by kernel_rfl) ?_
          refine jo_end (by kernel_rfl) ?_
          exact jx_meet true h (by kernel_rfl) [0, 1] (by kernel_rfl) (by kernel_rfl)
        · replace h := ifF hc_180 h
          obtain ⟨t_19, ht_181, h⟩ := bd h
          refine toO (by kernel_rfl) (p_call 2 90 #[(.int .i64 hammerPrice3), (.int .i64 0), (.int .i64 1000)] (by kernel_rfl) (by kernel_rfl) (fun w hm => spec_l00In.calls hammerPrice3 0 1000 w _ ht_181) ?_)
          rintro w v w' hm ⟨rfl, hm'⟩
          refine ⟨_, hm.app hm', jkO ?_⟩
          clear hm hm'
          refine jo_f [(0, 2), (0, 5), (0, 0), (0, 1)] (by kernel_rfl) ?_
          refine jo_split 49 (!t_19) (by kernel_rfl) (fun hc_182 => ?_) (fun hc_182 => ?_)
          · replace h := ifT hc_182 h
            refine jo_f [(0, 3), (0, 3), (0, 4), (0, 0), (0, 3), (0, 3), (0, 3), (0, 3), (0, 4)] (by kernel_rfl) ?_
            refine jo_end (by kernel_rfl) ?_
            exact jx_meet true h (by kernel_rfl) [0, 1] (by kernel_rfl) (by kernel_rfl)
          · replace h := ifF hc_182 h
            obtain ⟨t_20, ht_183, h⟩ := bd h
            refine toO (by kernel_rfl) (p_call 2 64 #[(.int .i64 turns4)] (by kernel_rfl) (by kernel_rfl) (fun w hm => spec_l06Turns.calls turns4 w _ ht_183) ?_)
            rintro w v w' hm ⟨rfl, hm'⟩
            refine ⟨_, hm.app hm', jkO ?_⟩
            clear hm hm'
            refine jo_f [(0, 2), (0, 5), (0, 0), (0, 1), (0, 1)] (by kernel_rfl) ?_
            refine jo_split 54 (!t_20) (by kernel_rfl) (fun hc_184 => ?_) (fun hc_184 => ?_)
            · replace h := ifT hc_184 h
              refine jo_f [(0, 3), (0, 3), (0, 4)] (by kernel_rfl) ?_
              refine jo_end (by kernel_rfl) ?_
              exact jx_meet true h (by kernel_rfl) [0, 1] (by kernel_rfl) (by kernel_rfl)
            · replace h := ifF hc_184 h
              obtain ⟨t_21, ht_185, h⟩ := bd h
              refine toO (by kernel_rfl) (p_call 2 90 #[(.int .i64 (choices5.length : Int)), (.int .i64 1), (.int .i64 20)] (by kernel_rfl) (by kernel_rfl) (fun w hm => spec_l00In.calls (choices5.length : Int) 1 20 w _ ht_185) ?_)
              rintro w v w' hm ⟨rfl, hm'⟩
              refine ⟨_, hm.app hm', jkO ?_⟩
              clear hm hm'
              refine jo_f [(0, 2), (0, 5)] (by kernel_rfl) ?_
              refine jo_end (by kernel_rfl) ?_
              exact jx_meet (!t_21) h (by kernel_rfl) [0, 1] (by kernel_rfl) (by kernel_rfl)
      · rintro q_4 h
        replace h : spec_CheapestLives.k_5 w1 pinPrice2 hammerPrice3 turns4 choices5 q_4 = some r := h
        rw [spec_CheapestLives.k_5] at h
        refine jx_then ?_
        refine jc_cond q_4 (by kernel_rfl) (fun hc_76 => ?_) (fun hc_76 => ?_)
        · replace h := ifT hc_76 h
          refine jc_seq ?_
          refine jc_region ?_
          refine jo_f [(0, 0), (0, 0), (0, 0)] (by kernel_rfl) ?_
          refine jo_end (by kernel_rfl) ?_
          refine jx_then ?_
          refine jc_ret ?_
          refine jx_thenr ?_
          obtain rfl := Option.some.inj h
          exact jx_ret [] (.tuple #[(.int .i64 0), (.int .i64 0), (.int .i64 2)]) [] rfl (by kernel_rfl) (by kernel_rfl) (fun w hm => ⟨rfl, hm.pick [] (by kernel_rfl) (by kernel_rfl)⟩)
        · replace h := ifF hc_76 h
          refine jc_skip ?_
          refine jx_then ?_
          refine jc_seq ?_
          refine jc_region ?_
          refine jo_f [(0, 0)] (by kernel_rfl) ?_
          refine jo_end (by kernel_rfl) ?_
          refine jx_then ?_
          refine jc_seq ?_
          refine jc_region ?_
          refine jo_f [(0, 0)] (by kernel_rfl) ?_
          refine jo_end (by kernel_rfl) ?_
          refine jx_then ?_
          refine jc_seq ?_
          refine jc_seq ?_
          refine jc_region ?_
          refine jo_f [(0, 0)] (by kernel_rfl) ?_
          refine jo_end (by kernel_rfl) ?_
          refine jx_then ?_
          refine jc_meet (fun (j : Int × Int) => match j with | ⟨i_6, i_7⟩ => spec_CheapestLives.k_8 i_6 i_7 = some r) (fun (j : Int × Int) => match j with | ⟨i_6, i_7⟩ => [(12, [], (.int .i64 0)), (13, [], (.int .i64 0)), (14, [], (.int .i64 0)), (17, [], (.int .i64 i_6)), (18, [], (.int .i64 i_7))]) (fun (j : Int × Int) => match j with | ⟨i_6, i_7⟩ => [⟨some b_1, 38, [(.int .i16 f0.fSteps), (.slice f0_fHammers_a f0.fHammers.length f0_fHammers_c)]⟩, ⟨some b_2, 42, [(.slice w1_fPins_a w1.fPins.length w1_fPins_c), (.slice w1_fStrokes_a w1.fStrokes.length w1_fStrokes_c)]⟩]) ?_ ?_
          · refine jc_block ?_
            obtain ⟨t_13, ht_178, hr_168⟩ := bd h
            refine jc_loop (fun (s : Int × Int × Int) (x : Unit) => match s, x with | ⟨i_9, i_10, i_11⟩, _ => True) (fun (s : Int × Int × Int) (x : Unit) => match s, x with | ⟨i_9, i_10, i_11⟩, _ => [(2, [], (.int .i64 pinPrice2)), (3, [], (.int .i64 hammerPrice3)), (4, [], (.int .i64 turns4)), (5, [], (.slice choices5_a choices5.length choices5_c)), (7, [], (.pointer (some ⟨b_2, 0, none⟩))), (12, [], (.int .i64 0)), (13, [], (.int .i64 0)), (14, [], (.int .i64 0)), (17, [], (.int .i64 i_9)), (18, [], (.int .i64 i_10)), (19, [], (.int .i64 i_11))]) (fun (s : Int × Int × Int) (x : Unit) => match s, x with | ⟨i_9, i_10, i_11⟩, _ => [⟨some b_1, 38, [(.int .i16 f0.fSteps), (.slice f0_fHammers_a f0.fHammers.length f0_fHammers_c)]⟩, ⟨some b_2, 42, [(.slice w1_fPins_a w1.fPins.length w1_fPins_c), (.slice w1_fStrokes_a w1.fStrokes.length w1_fStrokes_c)]⟩]) ht_178 () trivial (by kernel_rfl) [0, 1] (by kernel_rfl) (by kernel_rfl) ?_
            rintro ⟨i_9, i_10, i_11⟩ _ y_169 _ h
            rw [spec_CheapestLives.l_12] at h
            refine jc_seq ?_
            refine jc_seq ?_
            refine jc_region ?_
            refine jo_f [(0, 0), (0, 0), (0, 0), (0, 0)] (by kernel_rfl) ?_
            refine jo_end (by kernel_rfl) ?_
            refine jx_then ?_
            refine jc_cond (decide (i_11 < (choices5.length : Int))) (by kernel_rfl) (fun hc_171 => ?_) (fun hc_171 => ?_)
            · replace h := ifT hc_171 h
              refine jc_skip ?_
              refine jx_then ?_
              refine jc_seq ?_
              refine jc_block ?_
              refine jc_seq ?_
              refine jc_region ?_
              refine jo_f [(0, 0), (0, 0)] (by kernel_rfl) ?_
              obtain ⟨x_14, hx_172, h⟩ := bd h
              refine toO (by kernel_rfl) (p_idx 0 choices5_a choices5.length i_11 2 (by kernel_rfl) (by kernel_rfl) (ix_some hx_172).1 (ltn hx_172 rfl) (choices5_h.sp hx_172) (jkO ?_))
              refine toO (by kernel_rfl) (p_ld 0 (aB choices5_a) (aO choices5_a + i_11.toNat * 2) true (encGLives x_14) (by kernel_rfl) (by kernel_rfl) (by kernel_rfl) (fun w hm => ((hm.exRow choices5_h List.not_mem_nil).at hx_172)) (jkO ?_))
              refine jo_f [(0, 0)] (by kernel_rfl) ?_
              obtain ⟨t_15, ht_173, h⟩ := bd h
              refine toO (by kernel_rfl) (p_call 0 65 #[(.pointer (some ⟨b_2, 0, none⟩)), (.agg #[(.int .i64 x_14.fPin), (.int .i64 x_14.fHammer)]), (.int .i64 turns4)] (by kernel_rfl) (by kernel_rfl) (fun w hm => spec_l06Parts.calls w1 x_14 turns4 w _ w1_fPins_a w1.fPins.length w1_fPins_c (hm.exRow w1_fPins_h List.not_mem_nil) rfl w1_fStrokes_a w1.fStrokes.length w1_fStrokes_c (hm.exRow w1_fStrokes_h List.not_mem_nil) rfl b_2 (hm.pass (N := [⟨some b_2, 42, [(.slice w1_fPins_a w1.fPins.length w1_fPins_c), (.slice w1_fStrokes_a w1.fStrokes.length w1_fStrokes_c)]⟩]) [1] (by kernel_rfl) (by kernel_rfl)) (hm.exApart (N := [⟨some b_2, 42, [(.slice w1_fPins_a w1.fPins.length w1_fPins_c), (.slice w1_fStrokes_a w1.fStrokes.length w1_fStrokes_c)]⟩]) w1_fPins_h (fun _ => List.not_mem_nil) [1] (by kernel_rfl)) (hm.exApart (N := [⟨some b_2, 42, [(.slice w1_fPins_a w1.fPins.length w1_fPins_c), (.slice w1_fStrokes_a w1.fStrokes.length w1_fStrokes_c)]⟩]) w1_fStrokes_h (fun _ => List.not_mem_nil) [1] (by kernel_rfl)) ht_173) ?_)
              rintro w v w' hm ⟨rfl, hm'⟩
              refine ⟨_, hm.appW (ps := [(1, ⟨some b_2, 42, [(.slice w1_fPins_a w1.fPins.length w1_fPins_c), (.slice w1_fStrokes_a w1.fStrokes.length w1_fStrokes_c)]⟩)]) (N := []) hm' (by kernel_rfl) (by kernel_rfl), jkO ?_⟩
              clear hm hm'
              refine jo_f [(0, 0), (0, 0), (0, 0), (0, 0), (0, 0), (0, 0), (0, 0)] (by kernel_rfl) ?_
              refine jo_end (by kernel_rfl) ?_
              refine jx_then ?_
              refine jc_seq ?_
              refine jc_region ?_
              refine jo_f [(0, 0), (0, 0), (0, 0), (0, 0), (0, 0), (0, 0), (0, 0), (0, 0), (0, 0), (0, 0), (0, 0)] (by kernel_rfl) ?_
              refine jo_end (by kernel_rfl) ?_
              refine jx_then ?_
              refine jc_seq ?_
              refine jc_meet (fun (j : Bool) => match j with | q_16 => spec_CheapestLives.k_17 pinPrice2 hammerPrice3 i_9 i_10 i_11 t_15 q_16 = some y_169) (fun (j : Bool) => match j with | q_16 => [(2, [], (.int .i64 pinPrice2)), (3, [], (.int .i64 hammerPrice3)), (4, [], (.int .i64 turns4)), (5, [], (.slice choices5_a choices5.length choices5_c)), (7, [], (.pointer (some ⟨b_2, 0, none⟩))), (12, [], (.int .i64 0)), (13, [], (.int .i64 0)), (14, [], (.int .i64 0)), (17, [], (.int .i64 i_9)), (18, [], (.int .i64 i_10)), (19, [], (.int .i64 i_11)), (23, [], (.int .i64 (w64 ((w64 ((w64 (t_15.1 * pinPrice2)) + (w64 (t_15.2.1 * hammerPrice3)))) * (w64 (i_11 + 1)))))), (96, [], (.bool q_16))]) (fun (j : Bool) => match j with | q_16 => [⟨some b_1, 38, [(.int .i16 f0.fSteps), (.slice f0_fHammers_a f0.fHammers.length f0_fHammers_c)]⟩, ⟨some b_2, 42, [(.slice w1_fPins_a w1.fPins.length w1_fPins_c), (.slice w1_fStrokes_a w1.fStrokes.length w1_fStrokes_c)]⟩]) ?_ ?_
              · refine jc_region ?_
                refine jo_f [(0, 0), (0, 0), (0, 0), (0, 1), (0, 1)] (by kernel_rfl) ?_
                refine jo_split 88 (t_15.2.2 == 0) (by kernel_rfl) (fun hc_176 => ?_) (fun hc_176 => ?_)
                · replace h := ifT hc_176 h
                  refine jo_f [(0, 2), (0, 1), (0, 1), (0, 1), (0, 2), (0, 4)] (by kernel_rfl) ?_
                  refine jo_end (by kernel_rfl) ?_
                  exact jx_meet ((decide (i_9 < 0)) || (decide ((w64 ((w64 ((w64 (t_15.1 * pinPrice2)) + (w64 (t_15.2.1 * hammerPrice3)))) * (w64 (i_11 + 1)))) < i_10))) h (by kernel_rfl) [0, 1] (by kernel_rfl) (by kernel_rfl)
                · replace h := ifF hc_176 h
                  refine jo_f [(0, 3), (0, 3), (0, 3), (0, 3), (0, 3), (0, 5)] (by kernel_rfl) ?_
                  refine jo_end (by kernel_rfl) ?_
                  exact jx_meet false h (by kernel_rfl) [0, 1] (by kernel_rfl) (by kernel_rfl)
              · rintro q_16 h
                replace h : spec_CheapestLives.k_17 pinPrice2 hammerPrice3 i_9 i_10 i_11 t_15 q_16 = some y_169 := h
                rw [spec_CheapestLives.k_17] at h
                refine jx_then ?_
                refine jc_cond q_16 (by kernel_rfl) (fun hc_175 => ?_) (fun hc_175 => ?_)
                · replace h := ifT hc_175 h
                  refine jc_seq ?_
                  refine jc_region ?_
                  refine jo_f [(0, 0), (0, 0)] (by kernel_rfl) ?_
                  refine jo_end (by kernel_rfl) ?_
                  refine jx_then ?_
                  refine jc_region ?_
                  refine jo_f [(0, 0), (0, 0)] (by kernel_rfl) ?_
                  refine jo_end (by kernel_rfl) ?_
                  refine jx_inn ?_
                  refine jx_then ?_
                  refine jc_region ?_
                  refine jo_f [(0, 0), (0, 0), (0, 0)] (by kernel_rfl) ?_
                  refine jo_end (by kernel_rfl) ?_
                  exact jx_back (i_11, (w64 ((w64 ((w64 (t_15.1 * pinPrice2)) + (w64 (t_15.2.1 * hammerPrice3)))) * (w64 (i_11 + 1)))), (w64 (i_11 + 1))) () (Option.some.inj h).symm trivial [0, 1] (by kernel_rfl) (by kernel_rfl) (by kernel_rfl)
                · replace h := ifF hc_175 h
                  refine jc_skip ?_
                  refine jx_inn ?_
                  refine jx_then ?_
                  refine jc_region ?_
                  refine jo_f [(0, 0), (0, 0), (0, 0)] (by kernel_rfl) ?_
                  refine jo_end (by kernel_rfl) ?_
                  exact jx_back (i_9, i_10, (w64 (i_11 + 1))) () (Option.some.inj h).symm trivial [0, 1] (by kernel_rfl) (by kernel_rfl) (by kernel_rfl)
            · replace h := ifF hc_171 h
              refine jc_exit ?_
              refine jx_thenx ?_
              refine jx_leave (i_9, i_10) (Option.some.inj h).symm (fun e_177 => ?_)
              subst e_177
              refine jx_ine ?_
              exact jx_meet ⟨i_9, i_10⟩ hr_168 (by kernel_rfl) [0, 1] (by kernel_rfl) (by kernel_rfl)
          · rintro ⟨i_6, i_7⟩ h
            replace h : spec_CheapestLives.k_8 i_6 i_7 = some r := h
            rw [spec_CheapestLives.k_8] at h
            refine jx_then ?_
            refine jc_seq ?_
            refine jc_seq ?_
            refine jc_region ?_
            refine jo_f [(0, 0), (0, 0)] (by kernel_rfl) ?_
            refine jo_end (by kernel_rfl) ?_
            refine jx_then ?_
            refine jc_cond (decide (i_6 < 0)) (by kernel_rfl) (fun hc_153 => ?_) (fun hc_153 => ?_)
            · replace h := ifT hc_153 h
              refine jc_seq ?_
              refine jc_region ?_
              refine jo_f [(0, 0), (0, 0), (0, 0)] (by kernel_rfl) ?_
              refine jo_end (by kernel_rfl) ?_
              refine jx_then ?_
              refine jc_ret ?_
              refine jx_thenr ?_
              obtain rfl := Option.some.inj h
              exact jx_ret [] (.tuple #[(.int .i64 0), (.int .i64 0), (.int .i64 6)]) [] rfl (by kernel_rfl) (by kernel_rfl) (fun w hm => ⟨rfl, hm.pick [] (by kernel_rfl) (by kernel_rfl)⟩)
            · replace h := ifF hc_153 h
              refine jc_skip ?_
              refine jx_then ?_
              refine jc_seq ?_
              refine jc_region ?_
              refine jo_f [(0, 0), (0, 0), (0, 0), (0, 0), (0, 0)] (by kernel_rfl) ?_
              refine jo_end (by kernel_rfl) ?_
              refine jx_then ?_
              refine jc_ret ?_
              obtain rfl := Option.some.inj h
              exact jx_ret [] (.tuple #[(.int .i64 i_6), (.int .i64 i_7), (.int .i64 0)]) [] rfl (by kernel_rfl) (by kernel_rfl) (fun w hm => ⟨rfl, hm.pick [] (by kernel_rfl) (by kernel_rfl)⟩)

/-! ### impl.size[impl.Lives] -/
noncomputable def impl_size_Lives (list0 : List GLives) : Option (Int) := some (list0.length : Int)
set_option maxRecDepth 100000 in
theorem impl_size_Lives.calls (list0 : List GLives) (w : World) (r : Int) (list0_a : Option Addr) (list0_an : Nat) (list0_c : Nat) (list0_h : Rw w list0_a 2 encGLives list0) (list0_hn : list0.length = list0_an) (h : impl_size_Lives list0 = some r) :
    Calls Try.prog 92 #[(.slice list0_a list0_an list0_c)] w fun e w' => ∃ v, e = .returned v ∧ (v = (.int .i64 r) ∧ Mem w [] [] w') := by
  subst list0_hn
  rw [impl_size_Lives] at h
  refine enter (args := [(.slice list0_a list0.length list0_c)]) Try.func92 rfl Try.ntmps92 (by kernel_rfl) (L := []) (W := []) (Mem.start w) ?_
  refine jc_seq ?_
  refine jc_region ?_
  refine jo_f [(0, 0)] (by kernel_rfl) ?_
  refine jo_end (by kernel_rfl) ?_
  refine jx_then ?_
  refine jc_seq ?_
  refine jc_region ?_
  refine jo_f [(0, 0), (0, 0), (0, 0)] (by kernel_rfl) ?_
  refine jo_end (by kernel_rfl) ?_
  refine jx_then ?_
  refine jc_ret ?_
  obtain rfl := Option.some.inj h
  exact jx_ret [] (.int .i64 (list0.length : Int)) [] rfl (by kernel_rfl) (by kernel_rfl) (fun w hm => ⟨rfl, hm.pick [] (by kernel_rfl) (by kernel_rfl)⟩)

/-! ### impl.CheapestLives -/
noncomputable def impl_CheapestLives.k_8 (i_6 : Int) (i_7 : Int) : Option (Int × Int × Int) := (if (decide (i_6 < 0)) = true then some (0, 0, 6) else some (i_6, i_7, 0))
noncomputable def impl_CheapestLives.k_17 (pinPrice2 : Int) (hammerPrice3 : Int) (i_9 : Int) (i_10 : Int) (i_11 : Int) (t_15 : Int × Int × Int) (q_16 : Bool) : Option ((Int × Int × Int) ⊕ ((Int × Int))) := (if q_16 = true then some (.inl (i_11, (w64 ((w64 ((w64 (t_15.1 * pinPrice2)) + (w64 (t_15.2.1 * hammerPrice3)))) * (w64 (i_11 + 1)))), (w64 (i_11 + 1)))) else some (.inl (i_9, i_10, (w64 (i_11 + 1)))))
noncomputable def impl_CheapestLives.l_12 (f0 : GFrame) (w1 : GWear) (pinPrice2 : Int) (hammerPrice3 : Int) (turns4 : Int) (choices5 : List GLives) : (Int × Int × Int) → Option ((Int × Int × Int) ⊕ ((Int × Int)))
  | (i_9, i_10, i_11) => (if (decide (i_11 < (choices5.length : Int))) = true then (ix choices5 i_11).bind fun x_14 => (impl_PartsFor f0 w1 x_14 turns4).bind fun t_15 => (if (t_15.2.2 == 0) = true then impl_CheapestLives.k_17 pinPrice2 hammerPrice3 i_9 i_10 i_11 t_15 ((decide (i_9 < 0)) || (decide ((w64 ((w64 ((w64 (t_15.1 * pinPrice2)) + (w64 (t_15.2.1 * hammerPrice3)))) * (w64 (i_11 + 1)))) < i_10))) else impl_CheapestLives.k_17 pinPrice2 hammerPrice3 i_9 i_10 i_11 t_15 false) else some (.inr (i_9, i_10)))
noncomputable def impl_CheapestLives.k_2 (f0 : GFrame) (w1 : GWear) (pinPrice2 : Int) (hammerPrice3 : Int) (turns4 : Int) (choices5 : List GLives) (q_1 : Bool) : Option (Int × Int × Int) := (impl_wearCode f0 w1 choices5).bind fun t_3 => (impl_unless q_1 2).bind fun t_4 => (impl_firstOf [t_3, t_4]).bind fun t_5 => (if (t_5 != 0) = true then some (0, 0, t_5) else (loop (impl_CheapestLives.l_12 f0 w1 pinPrice2 hammerPrice3 turns4 choices5) ((-1), 0, 0)).bind fun t_13 => impl_CheapestLives.k_8 t_13.1 t_13.2)
noncomputable def impl_CheapestLives (f0 : GFrame) (w1 : GWear) (pinPrice2 : Int) (hammerPrice3 : Int) (turns4 : Int) (choices5 : List GLives) : Option (Int × Int × Int) := (impl_within pinPrice2 0 1000).bind fun t_18 => (if t_18 = true then (impl_within hammerPrice3 0 1000).bind fun t_19 => (if t_19 = true then (impl_isMade turns4).bind fun t_20 => (if t_20 = true then (impl_size_Lives choices5).bind fun t_21 => (impl_within t_21 1 20).bind fun t_22 => impl_CheapestLives.k_2 f0 w1 pinPrice2 hammerPrice3 turns4 choices5 t_22 else impl_CheapestLives.k_2 f0 w1 pinPrice2 hammerPrice3 turns4 choices5 false) else impl_CheapestLives.k_2 f0 w1 pinPrice2 hammerPrice3 turns4 choices5 false) else impl_CheapestLives.k_2 f0 w1 pinPrice2 hammerPrice3 turns4 choices5 false)
set_option maxRecDepth 100000 in
theorem impl_CheapestLives.calls (f0 : GFrame) (w1 : GWear) (pinPrice2 : Int) (hammerPrice3 : Int) (turns4 : Int) (choices5 : List GLives) (w : World) (r : Int × Int × Int) (f0_fHammers_a : Option Addr) (f0_fHammers_an : Nat) (f0_fHammers_c : Nat) (f0_fHammers_h : Rw w f0_fHammers_a 2 encGHammer f0.fHammers) (f0_fHammers_hn : f0.fHammers.length = f0_fHammers_an) (w1_fPins_a : Option Addr) (w1_fPins_an : Nat) (w1_fPins_c : Nat) (w1_fPins_h : Rw w w1_fPins_a 3 encGWornPin w1.fPins) (w1_fPins_hn : w1.fPins.length = w1_fPins_an) (w1_fStrokes_a : Option Addr) (w1_fStrokes_an : Nat) (w1_fStrokes_c : Nat) (w1_fStrokes_h : Rw w w1_fStrokes_a 1 encI64 w1.fStrokes) (w1_fStrokes_hn : w1.fStrokes.length = w1_fStrokes_an) (choices5_a : Option Addr) (choices5_an : Nat) (choices5_c : Nat) (choices5_h : Rw w choices5_a 2 encGLives choices5) (choices5_hn : choices5.length = choices5_an) (h : impl_CheapestLives f0 w1 pinPrice2 hammerPrice3 turns4 choices5 = some r) :
    Calls Try.prog 40 #[(.agg #[(.int .i16 f0.fSteps), (.slice f0_fHammers_a f0_fHammers_an f0_fHammers_c)]), (.agg #[(.slice w1_fPins_a w1_fPins_an w1_fPins_c), (.slice w1_fStrokes_a w1_fStrokes_an w1_fStrokes_c)]), (.int .i64 pinPrice2), (.int .i64 hammerPrice3), (.int .i64 turns4), (.slice choices5_a choices5_an choices5_c)] w fun e w' => ∃ v, e = .returned v ∧ (v = .tuple #[(.int .i64 r.1), (.int .i64 r.2.1), (.int .i64 r.2.2)] ∧ Mem w [] [] w') := by
  subst f0_fHammers_hn w1_fPins_hn w1_fStrokes_hn choices5_hn
  rw [impl_CheapestLives] at h
  refine enter (args := [(.agg #[(.int .i16 f0.fSteps), (.slice f0_fHammers_a f0.fHammers.length f0_fHammers_c)]), (.agg #[(.slice w1_fPins_a w1.fPins.length w1_fPins_c), (.slice w1_fStrokes_a w1.fStrokes.length w1_fStrokes_c)]), (.int .i64 pinPrice2), (.int .i64 hammerPrice3), (.int .i64 turns4), (.slice choices5_a choices5.length choices5_c)]) Try.func40 rfl Try.ntmps40 (by kernel_rfl) (L := []) (W := []) (Mem.start w) ?_
  refine jc_seq ?_
  refine jc_region ?_
  refine toO (by kernel_rfl) (p_a 0 [0] (by kernel_rfl) (fun b => by kernel_rfl) (fun b_1 => jkO ?_))
  refine toO (by kernel_rfl) (p_a 0 [0] (by kernel_rfl) (fun b => by kernel_rfl) (fun b_2 => jkO ?_))
  refine jo_f [(0, 0), (0, 0), (0, 0)] (by kernel_rfl) ?_
  refine jo_end (by kernel_rfl) ?_
  refine jx_then ?_
  refine jc_seq ?_
  refine jc_meet (fun (j : Bool) => match j with | q_1 => impl_CheapestLives.k_2 f0 w1 pinPrice2 hammerPrice3 turns4 choices5 q_1 = some r) (fun (j : Bool) => match j with | q_1 => [(2, [], (.int .i64 pinPrice2)), (3, [], (.int .i64 hammerPrice3)), (4, [], (.int .i64 turns4)), (5, [], (.slice choices5_a choices5.length choices5_c)), (6, [], (.pointer (some ⟨b_1, 0, none⟩))), (7, [], (.pointer (some ⟨b_2, 0, none⟩))), (12, [], (.int .i64 0)), (13, [], (.int .i64 0)), (14, [], (.int .i64 0)), (15, [], (.bool q_1))]) (fun (j : Bool) => match j with | q_1 => [⟨some b_1, 38, [(.int .i16 f0.fSteps), (.slice f0_fHammers_a f0.fHammers.length f0_fHammers_c)]⟩, ⟨some b_2, 42, [(.slice w1_fPins_a w1.fPins.length w1_fPins_c), (.slice w1_fStrokes_a w1.fStrokes.length w1_fStrokes_c)]⟩]) ?_ ?_
  · refine jc_region ?_
    refine jo_f [(0, 0)] (by kernel_rfl) ?_
    obtain ⟨t_18, ht_135, h⟩ := bd h
    refine toO (by kernel_rfl) (p_call 0 91 #[(.int .i64 pinPrice2), (.int .i64 0), (.int .i64 1000)] (by kernel_rfl) (by kernel_rfl) (fun w hm => impl_within.calls pinPrice2 0 1000 w _ ht_135) ?_)
    rintro w v w' hm ⟨rfl, hm'⟩
    refine ⟨_, hm.app hm', jkO ?_⟩
    clear hm hm'
    refine jo_f [(0, 0), (0, 1)] (by kernel_rfl) ?_
    refine jo_split 27 t_18 (by kernel_rfl) (fun hc_136 => ?_) (fun hc_136 => ?_)
    · replace h := ifT hc_136 h
      obtain ⟨t_19, ht_137, h⟩ := bd h
      refine toO (by kernel_rfl) (p_call 2 91 #[(.int .i64 hammerPrice3), (.int .i64 0), (.int .i64 1000)] (by kernel_rfl) (by kernel_rfl) (fun w hm => impl_within.calls hammerPrice3 0 1000 w _ ht_137) ?_)
      rintro w v w' hm ⟨rfl, hm'⟩
      refine ⟨_, hm.app hm', jkO ?_⟩
      clear hm hm'
      refine jo_f [(0, 4), (0, 0), (0, 1)] (by kernel_rfl) ?_
      refine jo_split 31 t_19 (by kernel_rfl) (fun hc_138 => ?_) (fun hc_138 => ?_)
      · replace h := ifT hc_138 h
        obtain ⟨t_20, ht_139, h⟩ := bd h
        refine toO (by kernel_rfl) (p_call 2 72 #[(.int .i64 turns4)] (by kernel_rfl) (by kernel_rfl) (fun w hm => impl_isMade.calls turns4 w _ ht_139) ?_)
        rintro w v w' hm ⟨rfl, hm'⟩
        refine ⟨_, hm.app hm', jkO ?_⟩
        clear hm hm'
        refine jo_f [(0, 4), (0, 0), (0, 1)] (by kernel_rfl) ?_
        refine jo_split 35 t_20 (by kernel_rfl) (fun hc_140 => ?_) (fun hc_140 => ?_)
        · replace h := ifT hc_140 h
          obtain ⟨t_21, ht_141, h⟩ := bd h
          refine toO (by kernel_rfl) (p_call 2 92 #[(.slice choices5_a choices5.length choices5_c)] (by kernel_rfl) (by kernel_rfl) (fun w hm => impl_size_Lives.calls choices5 w _ choices5_a choices5.length choices5_c (hm.exRow choices5_h List.not_mem_nil) rfl ht_141) ?_)
          rintro w v w' hm ⟨rfl, hm'⟩
          refine ⟨_, hm.app hm', jkO ?_⟩
          clear hm hm'
          obtain ⟨t_22, ht_142, h⟩ := bd h
          refine toO (by kernel_rfl) (p_call 2 91 #[(.int .i64 t_21), (.int .i64 1), (.int .i64 20)] (by kernel_rfl) (by kernel_rfl) (fun w hm => impl_within.calls t_21 1 20 w _ ht_142) ?_)
          rintro w v w' hm ⟨rfl, hm'⟩
          refine ⟨_, hm.app hm', jkO ?_⟩
          clear hm hm'
          refine jo_f [(0, 4), (0, 0)] (by kernel_rfl) ?_
          refine jo_end (by kernel_rfl) ?_
          exact jx_meet t_22 h (by kernel_rfl) [0, 1] (by kernel_rfl) (by kernel_rfl)
        · replace h := ifF hc_140 h
          refine jo_f [(0, 3), (0, 3), (0, 5), (0, 0)] (by kernel_rfl) ?_
          refine jo_end (by kernel_rfl) ?_
          exact jx_meet false h (by kernel_rfl) [0, 1] (by kernel_rfl) (by kernel_rfl)
      · replace h := ifF hc_138 h
        refine jo_f [(0, 3), (0, 5), (0, 0), (0, 3), (0, 3), (0, 3), (0, 5), (0, 0)] (by kernel_rfl) ?_
        refine jo_end (by kernel_rfl) ?_
        exact jx_meet false h (by kernel_rfl) [0, 1] (by kernel_rfl) (by kernel_rfl)
    · replace h := ifF hc_136 h
      refine jo_f [(0, 3), (0, 5), (0, 0), (0, 3), (0, 3), (0, 5), (0, 0), (0, 3), (0, 3), (0, 3), (0, 5), (0, 0)] (by kernel_rfl) ?_
      refine jo_end (by kernel_rfl) ?_
      exact jx_meet false h (by kernel_rfl) [0, 1] (by kernel_rfl) (by kernel_rfl)
  · rintro q_1 h
    replace h : impl_CheapestLives.k_2 f0 w1 pinPrice2 hammerPrice3 turns4 choices5 q_1 = some r := h
    rw [impl_CheapestLives.k_2] at h
    refine jx_then ?_
    refine jc_seq ?_
    refine jc_seq ?_
    refine jc_region ?_
    refine jo_f [(0, 0), (1, 0), (0, 0)] (by kernel_rfl) ?_
    obtain ⟨t_3, ht_16, h⟩ := bd h
    refine toO (by kernel_rfl) (p_call 0 70 #[(.agg #[(.int .i16 f0.fSteps), (.slice f0_fHammers_a f0.fHammers.length f0_fHammers_c)]), (.agg #[(.slice w1_fPins_a w1.fPins.length w1_fPins_c), (.slice w1_fStrokes_a w1.fStrokes.length w1_fStrokes_c)]), (.slice choices5_a choices5.length choices5_c)] (by kernel_rfl) (by kernel_rfl) (fun w hm => impl_wearCode.calls f0 w1 choices5 w _ f0_fHammers_a f0.fHammers.length f0_fHammers_c (hm.exRow f0_fHammers_h List.not_mem_nil) rfl w1_fPins_a w1.fPins.length w1_fPins_c (hm.exRow w1_fPins_h List.not_mem_nil) rfl w1_fStrokes_a w1.fStrokes.length w1_fStrokes_c (hm.exRow w1_fStrokes_h List.not_mem_nil) rfl choices5_a choices5.length choices5_c (hm.exRow choices5_h List.not_mem_nil) rfl ht_16) ?_)
    rintro w v w' hm ⟨rfl, hm'⟩
    refine ⟨_, hm.app hm', jkO ?_⟩
    clear hm hm'
    refine jo_f [(0, 0)] (by kernel_rfl) ?_
    obtain ⟨t_4, ht_17, h⟩ := bd h
    refine toO (by kernel_rfl) (p_call 0 71 #[(.bool q_1), (.int .i64 2)] (by kernel_rfl) (by kernel_rfl) (fun w hm => impl_unless.calls q_1 2 w _ ht_17) ?_)
    rintro w v w' hm ⟨rfl, hm'⟩
    refine ⟨_, hm.app hm', jkO ?_⟩
    clear hm hm'
    refine toO (by kernel_rfl) (p_a 0 [0] (by kernel_rfl) (fun b => by kernel_rfl) (fun b_18 => jkO ?_))
    obtain ⟨t_5, ht_19, h⟩ := bd h
    refine toO (by kernel_rfl) (p_call 0 69 #[(.slice (some ⟨b_18, 0, none⟩) 2 2)] (by kernel_rfl) (by kernel_rfl) (fun w hm => impl_firstOf.calls [t_3, t_4] w _ (some ⟨b_18, 0, none⟩) 2 2 (hm.ownRow (hh := 2) (o := (some b_18)) (T := 2) (enc := encI64) (xs := [t_3, t_4]) (sp := []) (by kernel_rfl) (fun e => nomatch e) encI64_len) rfl ht_19) ?_)
    rintro w v w' hm ⟨rfl, hm'⟩
    refine ⟨_, hm.app hm', jkO ?_⟩
    clear hm hm'
    refine jo_f [(0, 0)] (by kernel_rfl) ?_
    refine jo_end (by kernel_rfl) ?_
    refine jx_then ?_
    refine jc_seq ?_
    refine jc_region ?_
    refine jo_f [(0, 0), (0, 0)] (by kernel_rfl) ?_
    refine jo_end (by kernel_rfl) ?_
    refine jx_then ?_
    refine jc_cond (t_5 != 0) (by kernel_rfl) (fun hc_20 => ?_) (fun hc_20 => ?_)
    · replace h := ifT hc_20 h
      refine jc_seq ?_
      refine jc_region ?_
      refine jo_f [(0, 0), (0, 0), (0, 0), (0, 0)] (by kernel_rfl) ?_
      refine jo_end (by kernel_rfl) ?_
      refine jx_then ?_
      refine jc_ret ?_
      refine jx_thenr ?_
      obtain rfl := Option.some.inj h
      exact jx_ret [] (.tuple #[(.int .i64 0), (.int .i64 0), (.int .i64 t_5)]) [] rfl (by kernel_rfl) (by kernel_rfl) (fun w hm => ⟨rfl, hm.pick [] (by kernel_rfl) (by kernel_rfl)⟩)
    · replace h := ifF hc_20 h
      refine jc_skip ?_
      refine jx_then ?_
      refine jc_seq ?_
      refine jc_region ?_
      refine jo_f [(0, 0), (0, 0)] (by kernel_rfl) ?_
      refine jo_end (by kernel_rfl) ?_
      refine jx_then ?_
      refine jc_seq ?_
      refine jc_seq ?_
      refine jc_region ?_
      refine jo_f [(0, 0), (0, 0), (0, 0)] (by kernel_rfl) ?_
      refine jo_end (by kernel_rfl) ?_
      refine jx_then ?_
      refine jc_meet (fun (j : Int × Int) => match j with | ⟨i_6, i_7⟩ => impl_CheapestLives.k_8 i_6 i_7 = some r) (fun (j : Int × Int) => match j with | ⟨i_6, i_7⟩ => [(12, [], (.int .i64 0)), (13, [], (.int .i64 0)), (14, [], (.int .i64 0)), (17, [], (.int .i64 i_6)), (18, [], (.int .i64 i_7))]) (fun (j : Int × Int) => match j with | ⟨i_6, i_7⟩ => [⟨some b_1, 38, [(.int .i16 f0.fSteps), (.slice f0_fHammers_a f0.fHammers.length f0_fHammers_c)]⟩, ⟨some b_2, 42, [(.slice w1_fPins_a w1.fPins.length w1_fPins_c), (.slice w1_fStrokes_a w1.fStrokes.length w1_fStrokes_c)]⟩, ⟨(some b_18), 2, row encI64 [t_3, t_4] []⟩]) ?_ ?_
      · refine jc_block ?_
        obtain ⟨t_13, ht_134, hr_123⟩ := bd h
        refine jc_loop (fun (s : Int × Int × Int) (x : Unit) => match s, x with | ⟨i_9, i_10, i_11⟩, _ => True) (fun (s : Int × Int × Int) (x : Unit) => match s, x with | ⟨i_9, i_10, i_11⟩, _ => [(2, [], (.int .i64 pinPrice2)), (3, [], (.int .i64 hammerPrice3)), (4, [], (.int .i64 turns4)), (6, [], (.pointer (some ⟨b_1, 0, none⟩))), (7, [], (.pointer (some ⟨b_2, 0, none⟩))), (12, [], (.int .i64 0)), (13, [], (.int .i64 0)), (14, [], (.int .i64 0)), (17, [], (.int .i64 i_9)), (18, [], (.int .i64 i_10)), (51, [], (.slice choices5_a choices5.length choices5_c)), (52, [], (.int .i64 (choices5.length : Int))), (53, [], (.int .i64 i_11))]) (fun (s : Int × Int × Int) (x : Unit) => match s, x with | ⟨i_9, i_10, i_11⟩, _ => [⟨some b_1, 38, [(.int .i16 f0.fSteps), (.slice f0_fHammers_a f0.fHammers.length f0_fHammers_c)]⟩, ⟨some b_2, 42, [(.slice w1_fPins_a w1.fPins.length w1_fPins_c), (.slice w1_fStrokes_a w1.fStrokes.length w1_fStrokes_c)]⟩, ⟨(some b_18), 2, row encI64 [t_3, t_4] []⟩]) ht_134 () trivial (by kernel_rfl) [0, 1, 2] (by kernel_rfl) (by kernel_rfl) ?_
        rintro ⟨i_9, i_10, i_11⟩ _ y_124 _ h
        rw [impl_CheapestLives.l_12] at h
        refine jc_seq ?_
        refine jc_region ?_
        refine jo_f [(0, 0)] (by kernel_rfl) ?_
        refine jo_end (by kernel_rfl) ?_
        refine jx_then ?_
        refine jc_seq ?_
        refine jc_cond (decide (i_11 < (choices5.length : Int))) (by kernel_rfl) (fun hc_126 => ?_) (fun hc_126 => ?_)
        · replace h := ifT hc_126 h
          refine jc_skip ?_
          refine jx_then ?_
          refine jc_seq ?_
          refine jc_block ?_
          refine jc_seq ?_
          refine jc_region ?_
          refine jo_f [(0, 0)] (by kernel_rfl) ?_
          obtain ⟨x_14, hx_127, h⟩ := bd h
          refine toO (by kernel_rfl) (p_idx 0 choices5_a choices5.length i_11 2 (by kernel_rfl) (by kernel_rfl) (ix_some hx_127).1 (ltn hx_127 rfl) (choices5_h.sp hx_127) (jkO ?_))
          refine toO (by kernel_rfl) (p_ld 0 (aB choices5_a) (aO choices5_a + i_11.toNat * 2) true (encGLives x_14) (by kernel_rfl) (by kernel_rfl) (by kernel_rfl) (fun w hm => ((hm.exRow choices5_h List.not_mem_nil).at hx_127)) (jkO ?_))
          refine toO (by kernel_rfl) (p_a 0 [0] (by kernel_rfl) (fun b => by kernel_rfl) (fun b_128 => jkO ?_))
          refine jo_f [(0, 0)] (by kernel_rfl) ?_
          refine toO (by kernel_rfl) (p_s 0 [3] (by kernel_rfl) (by kernel_rfl) (jkO ?_))
          refine jo_end (by kernel_rfl) ?_
          refine jx_then ?_
          refine jc_seq ?_
          refine jc_region ?_
          refine jo_f [(0, 0), (1, 0), (3, 0), (0, 0)] (by kernel_rfl) ?_
          obtain ⟨t_15, ht_129, h⟩ := bd h
          refine toO (by kernel_rfl) (p_call 0 19 #[(.agg #[(.int .i16 f0.fSteps), (.slice f0_fHammers_a f0.fHammers.length f0_fHammers_c)]), (.agg #[(.slice w1_fPins_a w1.fPins.length w1_fPins_c), (.slice w1_fStrokes_a w1.fStrokes.length w1_fStrokes_c)]), (.agg #[(.int .i64 x_14.fPin), (.int .i64 x_14.fHammer)]), (.int .i64 turns4)] (by kernel_rfl) (by kernel_rfl) (fun w hm => impl_PartsFor.calls f0 w1 x_14 turns4 w _ f0_fHammers_a f0.fHammers.length f0_fHammers_c (hm.exRow f0_fHammers_h List.not_mem_nil) rfl w1_fPins_a w1.fPins.length w1_fPins_c (hm.exRow w1_fPins_h List.not_mem_nil) rfl w1_fStrokes_a w1.fStrokes.length w1_fStrokes_c (hm.exRow w1_fStrokes_h List.not_mem_nil) rfl ht_129) ?_)
          rintro w v w' hm ⟨rfl, hm'⟩
          refine ⟨_, hm.app hm', jkO ?_⟩
          clear hm hm'
          refine jo_f [(0, 0), (0, 0), (0, 0), (0, 0), (0, 0), (0, 0), (0, 0)] (by kernel_rfl) ?_
          refine jo_end (by kernel_rfl) ?_
          refine jx_then ?_
          refine jc_seq ?_
          refine jc_region ?_
          refine jo_f [(0, 0), (0, 0), (0, 0), (0, 0), (0, 0), (0, 0), (0, 0), (0, 0), (0, 0), (0, 0), (0, 0)] (by kernel_rfl) ?_
          refine jo_end (by kernel_rfl) ?_
          refine jx_then ?_
          refine jc_seq ?_
          refine jc_meet (fun (j : Bool) => match j with | q_16 => impl_CheapestLives.k_17 pinPrice2 hammerPrice3 i_9 i_10 i_11 t_15 q_16 = some y_124) (fun (j : Bool) => match j with | q_16 => [(2, [], (.int .i64 pinPrice2)), (3, [], (.int .i64 hammerPrice3)), (4, [], (.int .i64 turns4)), (6, [], (.pointer (some ⟨b_1, 0, none⟩))), (7, [], (.pointer (some ⟨b_2, 0, none⟩))), (12, [], (.int .i64 0)), (13, [], (.int .i64 0)), (14, [], (.int .i64 0)), (17, [], (.int .i64 i_9)), (18, [], (.int .i64 i_10)), (19, [], (.int .i64 i_11)), (24, [], (.int .i64 (w64 ((w64 ((w64 (t_15.1 * pinPrice2)) + (w64 (t_15.2.1 * hammerPrice3)))) * (w64 (i_11 + 1)))))), (51, [], (.slice choices5_a choices5.length choices5_c)), (52, [], (.int .i64 (choices5.length : Int))), (53, [], (.int .i64 i_11)), (87, [], (.bool q_16))]) (fun (j : Bool) => match j with | q_16 => [⟨some b_1, 38, [(.int .i16 f0.fSteps), (.slice f0_fHammers_a f0.fHammers.length f0_fHammers_c)]⟩, ⟨some b_2, 42, [(.slice w1_fPins_a w1.fPins.length w1_fPins_c), (.slice w1_fStrokes_a w1.fStrokes.length w1_fStrokes_c)]⟩, ⟨(some b_18), 2, row encI64 [t_3, t_4] []⟩, ⟨some b_128, 44, [(.int .i64 x_14.fPin), (.int .i64 x_14.fHammer)]⟩]) ?_ ?_
          · refine jc_region ?_
            refine jo_f [(0, 0), (0, 0), (0, 0), (0, 1), (0, 1)] (by kernel_rfl) ?_
            refine jo_split 79 (t_15.2.2 == 0) (by kernel_rfl) (fun hc_132 => ?_) (fun hc_132 => ?_)
            · replace h := ifT hc_132 h
              refine jo_f [(0, 2), (0, 1), (0, 1), (0, 1), (0, 2), (0, 4)] (by kernel_rfl) ?_
              refine jo_end (by kernel_rfl) ?_
              exact jx_meet ((decide (i_9 < 0)) || (decide ((w64 ((w64 ((w64 (t_15.1 * pinPrice2)) + (w64 (t_15.2.1 * hammerPrice3)))) * (w64 (i_11 + 1)))) < i_10))) h (by kernel_rfl) [0, 1, 2, 3] (by kernel_rfl) (by kernel_rfl)
            · replace h := ifF hc_132 h
              refine jo_f [(0, 3), (0, 3), (0, 3), (0, 3), (0, 3), (0, 5)] (by kernel_rfl) ?_
              refine jo_end (by kernel_rfl) ?_
              exact jx_meet false h (by kernel_rfl) [0, 1, 2, 3] (by kernel_rfl) (by kernel_rfl)
          · rintro q_16 h
            replace h : impl_CheapestLives.k_17 pinPrice2 hammerPrice3 i_9 i_10 i_11 t_15 q_16 = some y_124 := h
            rw [impl_CheapestLives.k_17] at h
            refine jx_then ?_
            refine jc_cond q_16 (by kernel_rfl) (fun hc_131 => ?_) (fun hc_131 => ?_)
            · replace h := ifT hc_131 h
              refine jc_region ?_
              refine jo_f [(0, 0), (0, 0), (0, 0), (0, 0)] (by kernel_rfl) ?_
              refine jo_end (by kernel_rfl) ?_
              refine jx_inn ?_
              refine jx_then ?_
              refine jc_region ?_
              refine jo_f [(0, 0), (0, 0)] (by kernel_rfl) ?_
              refine jo_end (by kernel_rfl) ?_
              exact jx_back (i_11, (w64 ((w64 ((w64 (t_15.1 * pinPrice2)) + (w64 (t_15.2.1 * hammerPrice3)))) * (w64 (i_11 + 1)))), (w64 (i_11 + 1))) () (Option.some.inj h).symm trivial [0, 1, 2] (by kernel_rfl) (by kernel_rfl) (by kernel_rfl)
            · replace h := ifF hc_131 h
              refine jc_skip ?_
              refine jx_inn ?_
              refine jx_then ?_
              refine jc_region ?_
              refine jo_f [(0, 0), (0, 0)] (by kernel_rfl) ?_
              refine jo_end (by kernel_rfl) ?_
              exact jx_back (i_9, i_10, (w64 (i_11 + 1))) () (Option.some.inj h).symm trivial [0, 1, 2] (by kernel_rfl) (by kernel_rfl) (by kernel_rfl)
        · replace h := ifF hc_126 h
          refine jc_exit ?_
          refine jx_thenx ?_
          refine jx_leave (i_9, i_10) (Option.some.inj h).symm (fun e_133 => ?_)
          subst e_133
          refine jx_ine ?_
          exact jx_meet ⟨i_9, i_10⟩ hr_123 (by kernel_rfl) [0, 1, 2] (by kernel_rfl) (by kernel_rfl)
      · rintro ⟨i_6, i_7⟩ h
        replace h : impl_CheapestLives.k_8 i_6 i_7 = some r := h
        rw [impl_CheapestLives.k_8] at h
        refine jx_then ?_
        refine jc_seq ?_
        refine jc_seq ?_
        refine jc_region ?_
        refine jo_f [(0, 0), (0, 0)] (by kernel_rfl) ?_
        refine jo_end (by kernel_rfl) ?_
        refine jx_then ?_
        refine jc_cond (decide (i_6 < 0)) (by kernel_rfl) (fun hc_106 => ?_) (fun hc_106 => ?_)
        · replace h := ifT hc_106 h
          refine jc_seq ?_
          refine jc_region ?_
          refine jo_f [(0, 0), (0, 0), (0, 0)] (by kernel_rfl) ?_
          refine jo_end (by kernel_rfl) ?_
          refine jx_then ?_
          refine jc_ret ?_
          refine jx_thenr ?_
          obtain rfl := Option.some.inj h
          exact jx_ret [] (.tuple #[(.int .i64 0), (.int .i64 0), (.int .i64 6)]) [] rfl (by kernel_rfl) (by kernel_rfl) (fun w hm => ⟨rfl, hm.pick [] (by kernel_rfl) (by kernel_rfl)⟩)
        · replace h := ifF hc_106 h
          refine jc_skip ?_
          refine jx_then ?_
          refine jc_seq ?_
          refine jc_region ?_
          refine jo_f [(0, 0), (0, 0), (0, 0), (0, 0), (0, 0)] (by kernel_rfl) ?_
          refine jo_end (by kernel_rfl) ?_
          refine jx_then ?_
          refine jc_ret ?_
          obtain rfl := Option.some.inj h
          exact jx_ret [] (.tuple #[(.int .i64 i_6), (.int .i64 i_7), (.int .i64 0)]) [] rfl (by kernel_rfl) (by kernel_rfl) (fun w hm => ⟨rfl, hm.pick [] (by kernel_rfl) (by kernel_rfl)⟩)

/-! ### laws.eqLives -/
noncomputable def laws_eqLives (a0 : GLives) (b1 : GLives) : Option (Bool) := (if (a0.fPin != b1.fPin) = true then some false else (if (a0.fHammer != b1.fHammer) = true then some false else some true))
set_option maxRecDepth 100000 in
theorem laws_eqLives.calls (a0 : GLives) (b1 : GLives) (w : World) (r : Bool) (h : laws_eqLives a0 b1 = some r) :
    Calls Try.prog 93 #[(.agg #[(.int .i64 a0.fPin), (.int .i64 a0.fHammer)]), (.agg #[(.int .i64 b1.fPin), (.int .i64 b1.fHammer)])] w fun e w' => ∃ v, e = .returned v ∧ (v = (.bool r) ∧ Mem w [] [] w') := by
  rw [laws_eqLives] at h
  refine enter (args := [(.agg #[(.int .i64 a0.fPin), (.int .i64 a0.fHammer)]), (.agg #[(.int .i64 b1.fPin), (.int .i64 b1.fHammer)])]) Try.func93 rfl Try.ntmps93 (by kernel_rfl) (L := []) (W := []) (Mem.start w) ?_
  refine jc_seq ?_
  refine jc_region ?_
  refine toO (by kernel_rfl) (p_a 0 [0] (by kernel_rfl) (fun b => by kernel_rfl) (fun b_1 => jkO ?_))
  refine toO (by kernel_rfl) (p_a 0 [0] (by kernel_rfl) (fun b => by kernel_rfl) (fun b_2 => jkO ?_))
  refine jo_f [(0, 0)] (by kernel_rfl) ?_
  refine jo_end (by kernel_rfl) ?_
  refine jx_then ?_
  refine jc_seq ?_
  refine jc_seq ?_
  refine jc_region ?_
  refine jo_f [(0, 0), (0, 0), (0, 0), (1, 0), (0, 0)] (by kernel_rfl) ?_
  refine jo_end (by kernel_rfl) ?_
  refine jx_then ?_
  refine jc_cond (a0.fPin != b1.fPin) (by kernel_rfl) (fun hc_4 => ?_) (fun hc_4 => ?_)
  · replace h := ifT hc_4 h
    refine jc_seq ?_
    refine jc_region ?_
    refine jo_f [(0, 0)] (by kernel_rfl) ?_
    refine jo_end (by kernel_rfl) ?_
    refine jx_then ?_
    refine jc_ret ?_
    refine jx_thenr ?_
    obtain rfl := Option.some.inj h
    exact jx_ret [] (.bool false) [] rfl (by kernel_rfl) (by kernel_rfl) (fun w hm => ⟨rfl, hm.pick [] (by kernel_rfl) (by kernel_rfl)⟩)
  · replace h := ifF hc_4 h
    refine jc_skip ?_
    refine jx_then ?_
    refine jc_seq ?_
    refine jc_seq ?_
    refine jc_region ?_
    refine jo_f [(0, 0), (0, 0), (0, 0), (1, 0), (0, 0)] (by kernel_rfl) ?_
    refine jo_end (by kernel_rfl) ?_
    refine jx_then ?_
    refine jc_cond (a0.fHammer != b1.fHammer) (by kernel_rfl) (fun hc_5 => ?_) (fun hc_5 => ?_)
    · replace h := ifT hc_5 h
      refine jc_seq ?_
      refine jc_region ?_
      refine jo_f [(0, 0)] (by kernel_rfl) ?_
      refine jo_end (by kernel_rfl) ?_
      refine jx_then ?_
      refine jc_ret ?_
      refine jx_thenr ?_
      obtain rfl := Option.some.inj h
      exact jx_ret [] (.bool false) [] rfl (by kernel_rfl) (by kernel_rfl) (fun w hm => ⟨rfl, hm.pick [] (by kernel_rfl) (by kernel_rfl)⟩)
    · replace h := ifF hc_5 h
      refine jc_skip ?_
      refine jx_then ?_
      refine jc_seq ?_
      refine jc_region ?_
      refine jo_f [(0, 0)] (by kernel_rfl) ?_
      refine jo_end (by kernel_rfl) ?_
      refine jx_then ?_
      refine jc_ret ?_
      obtain rfl := Option.some.inj h
      exact jx_ret [] (.bool true) [] rfl (by kernel_rfl) (by kernel_rfl) (fun w hm => ⟨rfl, hm.pick [] (by kernel_rfl) (by kernel_rfl)⟩)

/-! ### laws.eqLivesS -/
noncomputable def laws_eqLivesS.k_1 : Option (Bool) := some true
noncomputable def laws_eqLivesS.l_3 (a0 : List GLives) (b1 : List GLives) : Int → Option ((Int) ⊕ (Bool ⊕ Unit))
  | i_2 => (if (decide (i_2 < (a0.length : Int))) = true then (ix a0 i_2).bind fun x_5 => (ix b1 i_2).bind fun x_6 => (laws_eqLives x_5 x_6).bind fun t_7 => (if (!t_7) = true then some (.inr (.inl false)) else some (.inl (w64 (i_2 + 1)))) else some (.inr (.inr ())))
noncomputable def laws_eqLivesS (a0 : List GLives) (b1 : List GLives) : Option (Bool) := (if ((a0.length : Int) != (b1.length : Int)) = true then some false else (loop (laws_eqLivesS.l_3 a0 b1) 0).bind fun t_4 => match t_4 with | .inl p => some p | .inr p => laws_eqLivesS.k_1)
set_option maxRecDepth 100000 in
theorem laws_eqLivesS.calls (a0 : List GLives) (b1 : List GLives) (w : World) (r : Bool) (a0_a : Option Addr) (a0_an : Nat) (a0_c : Nat) (a0_h : Rw w a0_a 2 encGLives a0) (a0_hn : a0.length = a0_an) (b1_a : Option Addr) (b1_an : Nat) (b1_c : Nat) (b1_h : Rw w b1_a 2 encGLives b1) (b1_hn : b1.length = b1_an) (h : laws_eqLivesS a0 b1 = some r) :
    Calls Try.prog 41 #[(.slice a0_a a0_an a0_c), (.slice b1_a b1_an b1_c)] w fun e w' => ∃ v, e = .returned v ∧ (v = (.bool r) ∧ Mem w [] [] w') := by
  subst a0_hn b1_hn
  rw [laws_eqLivesS] at h
  refine enter (args := [(.slice a0_a a0.length a0_c), (.slice b1_a b1.length b1_c)]) Try.func41 rfl Try.ntmps41 (by kernel_rfl) (L := []) (W := []) (Mem.start w) ?_
  refine jc_seq ?_
  refine jc_region ?_
  refine jo_f [(0, 0)] (by kernel_rfl) ?_
  refine jo_end (by kernel_rfl) ?_
  refine jx_then ?_
  refine jc_seq ?_
  refine jc_seq ?_
  refine jc_region ?_
  refine jo_f [(0, 0), (0, 0), (0, 0), (0, 0), (0, 0)] (by kernel_rfl) ?_
  refine jo_end (by kernel_rfl) ?_
  refine jx_then ?_
  refine jc_cond ((a0.length : Int) != (b1.length : Int)) (by kernel_rfl) (fun hc_2 => ?_) (fun hc_2 => ?_)
  · replace h := ifT hc_2 h
    refine jc_seq ?_
    refine jc_region ?_
    refine jo_f [(0, 0)] (by kernel_rfl) ?_
    refine jo_end (by kernel_rfl) ?_
    refine jx_then ?_
    refine jc_ret ?_
    refine jx_thenr ?_
    obtain rfl := Option.some.inj h
    exact jx_ret [] (.bool false) [] rfl (by kernel_rfl) (by kernel_rfl) (fun w hm => ⟨rfl, hm.pick [] (by kernel_rfl) (by kernel_rfl)⟩)
  · replace h := ifF hc_2 h
    refine jc_skip ?_
    refine jx_then ?_
    refine jc_seq ?_
    refine jc_seq ?_
    refine jc_region ?_
    refine jo_f [(0, 0)] (by kernel_rfl) ?_
    refine jo_end (by kernel_rfl) ?_
    refine jx_then ?_
    refine jc_meet (fun (_ : Unit) => laws_eqLivesS.k_1 = some r) (fun (_ : Unit) => [(4, [], (.bool false))]) (fun (_ : Unit) => []) ?_ ?_
    · refine jc_block ?_
      obtain ⟨t_4, ht_48, hr_38⟩ := bd h
      refine jc_loop (fun (s : Int) (x : Unit) => match s, x with | i_2, _ => True) (fun (s : Int) (x : Unit) => match s, x with | i_2, _ => [(0, [], (.slice a0_a a0.length a0_c)), (1, [], (.slice b1_a b1.length b1_c)), (4, [], (.bool false)), (5, [], (.int .i64 i_2))]) (fun (s : Int) (x : Unit) => match s, x with | i_2, _ => []) ht_48 () trivial (by kernel_rfl) [] (by kernel_rfl) (by kernel_rfl) ?_
      rintro i_2 _ y_39 _ h
      rw [laws_eqLivesS.l_3] at h
      refine jc_seq ?_
      refine jc_seq ?_
      refine jc_region ?_
      refine jo_f [(0, 0), (0, 0), (0, 0), (0, 0)] (by kernel_rfl) ?_
      refine jo_end (by kernel_rfl) ?_
      refine jx_then ?_
      refine jc_cond (decide (i_2 < (a0.length : Int))) (by kernel_rfl) (fun hc_41 => ?_) (fun hc_41 => ?_)
      · replace h := ifT hc_41 h
        refine jc_skip ?_
        refine jx_then ?_
        refine jc_seq ?_
        refine jc_block ?_
        refine jc_seq ?_
        refine jc_draw [] 10 (by kernel_rfl) (by kernel_rfl) ?_
        refine jd_f [⟨0, 0, 0⟩, ⟨1, 0, 0⟩, ⟨4, 0, 0⟩, ⟨5, 0, 0⟩] 6 (by kernel_rfl) (by kernel_rfl) (fun w h => h.pick [] (by kernel_rfl) (by kernel_rfl)) (by kernel_rfl) (by kernel_rfl) ?_
        obtain ⟨x_5, hx_42, h⟩ := bd h
        refine jd_v 2 0 (by kernel_rfl) (fun w h => h.pick [] (by kernel_rfl) (by kernel_rfl)) (by kernel_rfl) (by kernel_rfl) _ (fun w hm => idx_run (a := a0_a) (len := a0.length) (s := 2) (j := i_2) (by kernel_rfl) (ix_some hx_42).1 (ltn hx_42 rfl) (a0_h.sp hx_42)) ?_
        refine jd_v 3 0 (by kernel_rfl) (fun w h => h.pick [] (by kernel_rfl) (by kernel_rfl)) (by kernel_rfl) (by kernel_rfl) _ (fun w hm => ld_run (b := aB a0_a) (off := (aO a0_a + i_2.toNat * 2)) (s := 2) (agg := true) (vs := (encGLives x_5)) (by kernel_rfl) (by kernel_rfl) (.inl rfl) ((hm.exRow a0_h List.not_mem_nil).at hx_42)) ?_
        obtain ⟨x_6, hx_43, h⟩ := bd h
        refine jd_v 6 0 (by kernel_rfl) (fun w h => h.pick [] (by kernel_rfl) (by kernel_rfl)) (by kernel_rfl) (by kernel_rfl) _ (fun w hm => idx_run (a := b1_a) (len := b1.length) (s := 2) (j := i_2) (by kernel_rfl) (ix_some hx_43).1 (ltn hx_43 rfl) (b1_h.sp hx_43)) ?_
        refine jd_v 7 0 (by kernel_rfl) (fun w h => h.pick [] (by kernel_rfl) (by kernel_rfl)) (by kernel_rfl) (by kernel_rfl) _ (fun w hm => ld_run (b := aB b1_a) (off := (aO b1_a + i_2.toNat * 2)) (s := 2) (agg := true) (vs := (encGLives x_6)) (by kernel_rfl) (by kernel_rfl) (.inl rfl) ((hm.exRow b1_h List.not_mem_nil).at hx_43)) ?_
        obtain ⟨t_7, ht_44, h⟩ := bd h
        refine toD 8 (by kernel_rfl) (p_call 0 93 #[(.agg #[(.int .i64 x_5.fPin), (.int .i64 x_5.fHammer)]), (.agg #[(.int .i64 x_6.fPin), (.int .i64 x_6.fHammer)])] (by kernel_rfl) (by kernel_rfl) (fun w hm => laws_eqLives.calls x_5 x_6 w _ ht_44) ?_)
        rintro w v w' hm ⟨rfl, hm'⟩
        refine ⟨_, hm.app hm', jkD (fun w h => h.pick [] (by kernel_rfl) (by kernel_rfl)) ?_⟩
        clear hm hm'
        refine jd_f [⟨9, 0, 0⟩] 0 (by kernel_rfl) (by kernel_rfl) (fun w h => h.pick [] (by kernel_rfl) (by kernel_rfl)) (by kernel_rfl) (by kernel_rfl) ?_
        refine jd_end (by kernel_rfl) ?_
        refine jx_then ?_
        refine jc_cond (!t_7) (by kernel_rfl) (fun hc_45 => ?_) (fun hc_45 => ?_)
        · replace h := ifT hc_45 h
          refine jc_seq ?_
          refine jc_region ?_
          refine jo_f [(0, 0)] (by kernel_rfl) ?_
          refine jo_end (by kernel_rfl) ?_
          refine jx_then ?_
          refine jc_ret ?_
          refine jx_inr ?_
          refine jx_thenr ?_
          refine jx_leaver (.inl false) (Option.some.inj h).symm (fun e_46 => ?_)
          subst e_46
          refine jx_inr ?_
          refine jx_thenr ?_
          refine jx_thenr ?_
          obtain rfl := Option.some.inj hr_38
          exact jx_ret [] (.bool false) [] rfl (by kernel_rfl) (by kernel_rfl) (fun w hm => ⟨rfl, hm.pick [] (by kernel_rfl) (by kernel_rfl)⟩)
        · replace h := ifF hc_45 h
          refine jc_skip ?_
          refine jx_inn ?_
          refine jx_then ?_
          refine jc_region ?_
          refine jo_f [(0, 0), (0, 0), (0, 0)] (by kernel_rfl) ?_
          refine jo_end (by kernel_rfl) ?_
          exact jx_back (w64 (i_2 + 1)) () (Option.some.inj h).symm trivial [] (by kernel_rfl) (by kernel_rfl) (by kernel_rfl)
      · replace h := ifF hc_41 h
        refine jc_exit ?_
        refine jx_thenx ?_
        refine jx_leave (.inr ()) (Option.some.inj h).symm (fun e_47 => ?_)
        subst e_47
        refine jx_ine ?_
        exact jx_meet () hr_38 (by kernel_rfl) [] (by kernel_rfl) (by kernel_rfl)
    · rintro _ h
      replace h : laws_eqLivesS.k_1 = some r := h
      rw [laws_eqLivesS.k_1] at h
      refine jx_then ?_
      refine jc_seq ?_
      refine jc_region ?_
      refine jo_f [(0, 0)] (by kernel_rfl) ?_
      refine jo_end (by kernel_rfl) ?_
      refine jx_then ?_
      refine jc_ret ?_
      obtain rfl := Option.some.inj h
      exact jx_ret [] (.bool true) [] rfl (by kernel_rfl) (by kernel_rfl) (fun w hm => ⟨rfl, hm.pick [] (by kernel_rfl) (by kernel_rfl)⟩)

/-! ### laws.FnExactCheapestLives -/
noncomputable def laws_FnExactCheapestLives (aF0 : GFrame) (aW1 : GWear) (aPinPrice2 : Int) (aHammerPrice3 : Int) (aTurns4 : Int) (aChoices5 : List GLives) : Option (Bool) := (laws_szFrame aF0 1048576).bind fun t_1 => (if (decide (t_1 < 0)) = true then some true else (laws_szWear aW1 t_1).bind fun t_2 => (if (decide (t_2 < 0)) = true then some true else (laws_szLivesS aChoices5 t_2).bind fun t_3 => (if (decide (t_3 < 0)) = true then some true else (laws_toFrame aF0).bind fun t_4 => (laws_toWear aW1).bind fun t_5 => (laws_toLivesS aChoices5).bind fun t_6 => (spec_CheapestLives t_4 t_5 aPinPrice2 aHammerPrice3 aTurns4 t_6).bind fun t_7 => (laws_toFrame aF0).bind fun t_8 => (laws_toWear aW1).bind fun t_9 => (laws_toLivesS aChoices5).bind fun t_10 => (impl_CheapestLives t_8 t_9 aPinPrice2 aHammerPrice3 aTurns4 t_10).bind fun t_11 => (if (((t_11.1 != t_7.1) || (t_11.2.1 != t_7.2.1)) || (t_11.2.2 != t_7.2.2)) = true then some false else (laws_toFrame aF0).bind fun t_12 => (laws_eqFrame t_8 t_12).bind fun t_13 => (if (!t_13) = true then some false else (laws_toWear aW1).bind fun t_14 => (laws_eqWear t_9 t_14).bind fun t_15 => (if (!t_15) = true then some false else (laws_toLivesS aChoices5).bind fun t_16 => (laws_eqLivesS t_10 t_16).bind fun t_17 => (if (!t_17) = true then some false else some true)))))))
set_option maxRecDepth 100000 in
set_option maxHeartbeats 8000000 in
theorem laws_FnExactCheapestLives.calls (aF0 : GFrame) (aW1 : GWear) (aPinPrice2 : Int) (aHammerPrice3 : Int) (aTurns4 : Int) (aChoices5 : List GLives) (w : World) (r : Bool) (aF0_fHammers_a : Option Addr) (aF0_fHammers_an : Nat) (aF0_fHammers_c : Nat) (aF0_fHammers_h : Rw w aF0_fHammers_a 2 encGHammer aF0.fHammers) (aF0_fHammers_hn : aF0.fHammers.length = aF0_fHammers_an) (aW1_fPins_a : Option Addr) (aW1_fPins_an : Nat) (aW1_fPins_c : Nat) (aW1_fPins_h : Rw w aW1_fPins_a 3 encGWornPin aW1.fPins) (aW1_fPins_hn : aW1.fPins.length = aW1_fPins_an) (aW1_fStrokes_a : Option Addr) (aW1_fStrokes_an : Nat) (aW1_fStrokes_c : Nat) (aW1_fStrokes_h : Rw w aW1_fStrokes_a 1 encI64 aW1.fStrokes) (aW1_fStrokes_hn : aW1.fStrokes.length = aW1_fStrokes_an) (aChoices5_a : Option Addr) (aChoices5_an : Nat) (aChoices5_c : Nat) (aChoices5_h : Rw w aChoices5_a 2 encGLives aChoices5) (aChoices5_hn : aChoices5.length = aChoices5_an) (h : laws_FnExactCheapestLives aF0 aW1 aPinPrice2 aHammerPrice3 aTurns4 aChoices5 = some r) :
    Calls Try.prog 8 #[(.agg #[(.int .i16 aF0.fSteps), (.slice aF0_fHammers_a aF0_fHammers_an aF0_fHammers_c)]), (.agg #[(.slice aW1_fPins_a aW1_fPins_an aW1_fPins_c), (.slice aW1_fStrokes_a aW1_fStrokes_an aW1_fStrokes_c)]), (.int .i64 aPinPrice2), (.int .i64 aHammerPrice3), (.int .i64 aTurns4), (.slice aChoices5_a aChoices5_an aChoices5_c)] w fun e w' => ∃ v, e = .returned v ∧ (v = (.bool r) ∧ Mem w [] [] w') := by
  subst aF0_fHammers_hn aW1_fPins_hn aW1_fStrokes_hn aChoices5_hn
  rw [laws_FnExactCheapestLives] at h
  refine enter (args := [(.agg #[(.int .i16 aF0.fSteps), (.slice aF0_fHammers_a aF0.fHammers.length aF0_fHammers_c)]), (.agg #[(.slice aW1_fPins_a aW1.fPins.length aW1_fPins_c), (.slice aW1_fStrokes_a aW1.fStrokes.length aW1_fStrokes_c)]), (.int .i64 aPinPrice2), (.int .i64 aHammerPrice3), (.int .i64 aTurns4), (.slice aChoices5_a aChoices5.length aChoices5_c)]) Try.func8 rfl Try.ntmps8 (by kernel_rfl) (L := []) (W := []) (Mem.start w) ?_
  refine jc_seq ?_
  refine jc_region ?_
  refine toO (by kernel_rfl) (p_a 0 [0] (by kernel_rfl) (fun b => by kernel_rfl) (fun b_1 => jkO ?_))
  refine toO (by kernel_rfl) (p_a 0 [0] (by kernel_rfl) (fun b => by kernel_rfl) (fun b_2 => jkO ?_))
  refine jo_f [(0, 0)] (by kernel_rfl) ?_
  refine jo_end (by kernel_rfl) ?_
  refine jx_then ?_
  refine jc_seq ?_
  refine jc_region ?_
  refine jo_f [(0, 0)] (by kernel_rfl) ?_
  refine jo_end (by kernel_rfl) ?_
  refine jx_then ?_
  refine jc_seq ?_
  refine jc_region ?_
  refine jo_f [(0, 0), (0, 0)] (by kernel_rfl) ?_
  obtain ⟨t_1, ht_3, h⟩ := bd h
  refine toO (by kernel_rfl) (p_call 0 13 #[(.agg #[(.int .i16 aF0.fSteps), (.slice aF0_fHammers_a aF0.fHammers.length aF0_fHammers_c)]), (.int .i64 1048576)] (by kernel_rfl) (by kernel_rfl) (fun w hm => laws_szFrame.calls aF0 1048576 w _ aF0_fHammers_a aF0.fHammers.length aF0_fHammers_c (hm.exRow aF0_fHammers_h List.not_mem_nil) rfl ht_3) ?_)
  rintro w v w' hm ⟨rfl, hm'⟩
  refine ⟨_, hm.app hm', jkO ?_⟩
  clear hm hm'
  refine jo_f [(0, 0)] (by kernel_rfl) ?_
  refine jo_end (by kernel_rfl) ?_
  refine jx_then ?_
  refine jc_seq ?_
  refine jc_seq ?_
  refine jc_region ?_
  refine jo_f [(0, 0), (0, 0)] (by kernel_rfl) ?_
  refine jo_end (by kernel_rfl) ?_
  refine jx_then ?_
  refine jc_cond (decide (t_1 < 0)) (by kernel_rfl) (fun hc_5 => ?_) (fun hc_5 => ?_)
  · replace h := ifT hc_5 h
    refine jc_seq ?_
    refine jc_region ?_
    refine jo_f [(0, 0)] (by kernel_rfl) ?_
    refine jo_end (by kernel_rfl) ?_
    refine jx_then ?_
    refine jc_ret ?_
    refine jx_thenr ?_
    obtain rfl := Option.some.inj h
    exact jx_ret [] (.bool true) [] rfl (by kernel_rfl) (by kernel_rfl) (fun w hm => ⟨rfl, hm.pick [] (by kernel_rfl) (by kernel_rfl)⟩)
  · replace h := ifF hc_5 h
    refine jc_skip ?_
    refine jx_then ?_
    refine jc_seq ?_
    refine jc_region ?_
    refine jo_f [(1, 0), (0, 0)] (by kernel_rfl) ?_
    obtain ⟨t_2, ht_6, h⟩ := bd h
    refine toO (by kernel_rfl) (p_call 0 14 #[(.agg #[(.slice aW1_fPins_a aW1.fPins.length aW1_fPins_c), (.slice aW1_fStrokes_a aW1.fStrokes.length aW1_fStrokes_c)]), (.int .i64 t_1)] (by kernel_rfl) (by kernel_rfl) (fun w hm => laws_szWear.calls aW1 t_1 w _ aW1_fPins_a aW1.fPins.length aW1_fPins_c (hm.exRow aW1_fPins_h List.not_mem_nil) rfl aW1_fStrokes_a aW1.fStrokes.length aW1_fStrokes_c (hm.exRow aW1_fStrokes_h List.not_mem_nil) rfl ht_6) ?_)
    rintro w v w' hm ⟨rfl, hm'⟩
    refine ⟨_, hm.app hm', jkO ?_⟩
    clear hm hm'
    refine jo_f [(0, 0)] (by kernel_rfl) ?_
    refine jo_end (by kernel_rfl) ?_
    refine jx_then ?_
    refine jc_seq ?_
    refine jc_seq ?_
    refine jc_region ?_
    refine jo_f [(0, 0), (0, 0)] (by kernel_rfl) ?_
    refine jo_end (by kernel_rfl) ?_
    refine jx_then ?_
    refine jc_cond (decide (t_2 < 0)) (by kernel_rfl) (fun hc_8 => ?_) (fun hc_8 => ?_)
    · replace h := ifT hc_8 h
      refine jc_seq ?_
      refine jc_region ?_
      refine jo_f [(0, 0)] (by kernel_rfl) ?_
      refine jo_end (by kernel_rfl) ?_
      refine jx_then ?_
      refine jc_ret ?_
      refine jx_thenr ?_
      obtain rfl := Option.some.inj h
      exact jx_ret [] (.bool true) [] rfl (by kernel_rfl) (by kernel_rfl) (fun w hm => ⟨rfl, hm.pick [] (by kernel_rfl) (by kernel_rfl)⟩)
    · replace h := ifF hc_8 h
      refine jc_skip ?_
      refine jx_then ?_
      refine jc_seq ?_
      refine jc_region ?_
      refine jo_f [(0, 0), (0, 0)] (by kernel_rfl) ?_
      obtain ⟨t_3, ht_9, h⟩ := bd h
      refine toO (by kernel_rfl) (p_call 0 37 #[(.slice aChoices5_a aChoices5.length aChoices5_c), (.int .i64 t_2)] (by kernel_rfl) (by kernel_rfl) (fun w hm => laws_szLivesS.calls aChoices5 t_2 w _ aChoices5_a aChoices5.length aChoices5_c (hm.exRow aChoices5_h List.not_mem_nil) rfl ht_9) ?_)
      rintro w v w' hm ⟨rfl, hm'⟩
      refine ⟨_, hm.app hm', jkO ?_⟩
      clear hm hm'
      refine jo_f [(0, 0)] (by kernel_rfl) ?_
      refine jo_end (by kernel_rfl) ?_
      refine jx_then ?_
      refine jc_seq ?_
      refine jc_seq ?_
      refine jc_region ?_
      refine jo_f [(0, 0), (0, 0)] (by kernel_rfl) ?_
      refine jo_end (by kernel_rfl) ?_
      refine jx_then ?_
      refine jc_cond (decide (t_3 < 0)) (by kernel_rfl) (fun hc_11 => ?_) (fun hc_11 => ?_)
      · replace h := ifT hc_11 h
        refine jc_seq ?_
        refine jc_region ?_
        refine jo_f [(0, 0)] (by kernel_rfl) ?_
        refine jo_end (by kernel_rfl) ?_
        refine jx_then ?_
        refine jc_ret ?_
        refine jx_thenr ?_
        obtain rfl := Option.some.inj h
        exact jx_ret [] (.bool true) [] rfl (by kernel_rfl) (by kernel_rfl) (fun w hm => ⟨rfl, hm.pick [] (by kernel_rfl) (by kernel_rfl)⟩)
      · replace h := ifF hc_11 h
        refine jc_skip ?_
        refine jx_then ?_
        refine jc_seq ?_
        refine jc_draw [⟨some b_1, 25, [(.int .i16 aF0.fSteps), (.slice aF0_fHammers_a aF0.fHammers.length aF0_fHammers_c)]⟩, ⟨some b_2, 29, [(.slice aW1_fPins_a aW1.fPins.length aW1_fPins_c), (.slice aW1_fStrokes_a aW1.fStrokes.length aW1_fStrokes_c)]⟩] 17 (by kernel_rfl) (by kernel_rfl) ?_
        refine jd_f [⟨0, 0, 0⟩, ⟨2, 1, 0⟩, ⟨4, 0, 0⟩, ⟨5, 0, 0⟩, ⟨6, 0, 0⟩, ⟨7, 0, 0⟩] 11 (by kernel_rfl) (by kernel_rfl) (fun w h => h.pick [0, 1] (by kernel_rfl) (by kernel_rfl)) (by kernel_rfl) (by kernel_rfl) ?_
        obtain ⟨t_4, ht_36, h⟩ := bd h
        refine toD 1 (by kernel_rfl) (p_call 0 16 #[(.agg #[(.int .i16 aF0.fSteps), (.slice aF0_fHammers_a aF0.fHammers.length aF0_fHammers_c)])] (by kernel_rfl) (by kernel_rfl) (fun w hm => laws_toFrame.calls aF0 w _ aF0_fHammers_a aF0.fHammers.length aF0_fHammers_c (hm.exRow aF0_fHammers_h List.not_mem_nil) rfl ht_36) ?_)
        rintro w v w' hm ⟨o_37, cap_38, sp_39, _, rfl, hs_40, ho_41, rfl, hm'⟩
        refine ⟨_, hm.app hm', jkD (fun w h => h.pick [0, 1] (by kernel_rfl) (by kernel_rfl)) ?_⟩
        clear hm hm'
        obtain ⟨t_5, ht_42, h⟩ := bd h
        refine toD 3 (by kernel_rfl) (p_call 0 17 #[(.agg #[(.slice aW1_fPins_a aW1.fPins.length aW1_fPins_c), (.slice aW1_fStrokes_a aW1.fStrokes.length aW1_fStrokes_c)])] (by kernel_rfl) (by kernel_rfl) (fun w hm => laws_toWear.calls aW1 w _ aW1_fPins_a aW1.fPins.length aW1_fPins_c (hm.exRow aW1_fPins_h List.not_mem_nil) rfl aW1_fStrokes_a aW1.fStrokes.length aW1_fStrokes_c (hm.exRow aW1_fStrokes_h List.not_mem_nil) rfl ht_42) ?_)
        rintro w v w' hm ⟨o_43, cap_44, sp_45, _, rfl, hs_46, ho_47, o_48, cap_49, sp_50, _, rfl, hs_51, ho_52, rfl, hm'⟩
        refine ⟨_, hm.app hm', jkD (fun w h => h.pick [0, 1] (by kernel_rfl) (by kernel_rfl)) ?_⟩
        clear hm hm'
        obtain ⟨t_6, ht_53, h⟩ := bd h
        refine toD 8 (by kernel_rfl) (p_call 0 39 #[(.slice aChoices5_a aChoices5.length aChoices5_c)] (by kernel_rfl) (by kernel_rfl) (fun w hm => laws_toLivesS.calls aChoices5 w _ aChoices5_a aChoices5.length aChoices5_c (hm.exRow aChoices5_h List.not_mem_nil) rfl ht_53) ?_)
        rintro w v w' hm ⟨o_54, cap_55, sp_56, _, rfl, hs_57, ho_58, rfl, hm'⟩
        refine ⟨_, hm.app hm', jkD (fun w h => h.pick [0, 1] (by kernel_rfl) (by kernel_rfl)) ?_⟩
        clear hm hm'
        obtain ⟨t_7, ht_59, h⟩ := bd h
        refine toD 9 (by kernel_rfl) (p_call 0 38 #[(.agg #[(.int .i16 t_4.fSteps), (.slice (o_37.map fun b => ⟨b, 0, none⟩) t_4.fHammers.length cap_38)]), (.agg #[(.slice (o_43.map fun b => ⟨b, 0, none⟩) t_5.fPins.length cap_44), (.slice (o_48.map fun b => ⟨b, 0, none⟩) t_5.fStrokes.length cap_49)]), (.int .i64 aPinPrice2), (.int .i64 aHammerPrice3), (.int .i64 aTurns4), (.slice (o_54.map fun b => ⟨b, 0, none⟩) t_6.length cap_55)] (by kernel_rfl) (by kernel_rfl) (fun w hm => spec_CheapestLives.calls t_4 t_5 aPinPrice2 aHammerPrice3 aTurns4 t_6 w _ (o_37.map fun b => ⟨b, 0, none⟩) t_4.fHammers.length cap_38 (hm.ownRow (hh := 2) (o := o_37) (T := 178) (enc := encGHammer) (xs := t_4.fHammers) (sp := sp_39) (by kernel_rfl) (fun e => (ho_41 e).1) encGHammer_len) rfl (o_43.map fun b => ⟨b, 0, none⟩) t_5.fPins.length cap_44 (hm.ownRow (hh := 3) (o := o_43) (T := 164) (enc := encGWornPin) (xs := t_5.fPins) (sp := sp_45) (by kernel_rfl) (fun e => (ho_47 e).1) encGWornPin_len) rfl (o_48.map fun b => ⟨b, 0, none⟩) t_5.fStrokes.length cap_49 (hm.ownRow (hh := 4) (o := o_48) (T := 2) (enc := encI64) (xs := t_5.fStrokes) (sp := sp_50) (by kernel_rfl) (fun e => (ho_52 e).1) encI64_len) rfl (o_54.map fun b => ⟨b, 0, none⟩) t_6.length cap_55 (hm.ownRow (hh := 5) (o := o_54) (T := 44) (enc := encGLives) (xs := t_6) (sp := sp_56) (by kernel_rfl) (fun e => (ho_58 e).1) encGLives_len) rfl ht_59) ?_)
        rintro w v w' hm ⟨rfl, hm'⟩
        refine ⟨_, hm.app hm', jkD (fun w h => h.pick [0, 1] (by kernel_rfl) (by kernel_rfl)) ?_⟩
        clear hm hm'
        refine jd_f [⟨10, 0, 0⟩, ⟨11, 0, 0⟩, ⟨12, 0, 0⟩, ⟨13, 0, 0⟩, ⟨14, 0, 0⟩, ⟨15, 0, 0⟩, ⟨16, 0, 0⟩] 0 (by kernel_rfl) (by kernel_rfl) (fun w h => h.pick [0, 1] (by kernel_rfl) (by kernel_rfl)) (by kernel_rfl) (by kernel_rfl) ?_
        refine jd_end (by kernel_rfl) ?_
        refine jx_then ?_
        refine jc_seq ?_
        refine jc_region ?_
        refine jo_f [(0, 0)] (by kernel_rfl) ?_
        obtain ⟨t_8, ht_60, h⟩ := bd h
        refine toO (by kernel_rfl) (p_call 0 16 #[(.agg #[(.int .i16 aF0.fSteps), (.slice aF0_fHammers_a aF0.fHammers.length aF0_fHammers_c)])] (by kernel_rfl) (by kernel_rfl) (fun w hm => laws_toFrame.calls aF0 w _ aF0_fHammers_a aF0.fHammers.length aF0_fHammers_c (hm.exRow aF0_fHammers_h List.not_mem_nil) rfl ht_60) ?_)
        rintro w v w' hm ⟨o_61, cap_62, sp_63, _, rfl, hs_64, ho_65, rfl, hm'⟩
        refine ⟨_, hm.app hm', jkO ?_⟩
        clear hm hm'
        refine toO (by kernel_rfl) (p_a 0 [0] (by kernel_rfl) (fun b => by kernel_rfl) (fun b_66 => jkO ?_))
        refine toO (by kernel_rfl) (p_s 0 [7] (by kernel_rfl) (by kernel_rfl) (jkO ?_))
        refine jo_end (by kernel_rfl) ?_
        refine jx_then ?_
        refine jc_seq ?_
        refine jc_region ?_
        refine jo_f [(1, 0)] (by kernel_rfl) ?_
        obtain ⟨t_9, ht_67, h⟩ := bd h
        refine toO (by kernel_rfl) (p_call 0 17 #[(.agg #[(.slice aW1_fPins_a aW1.fPins.length aW1_fPins_c), (.slice aW1_fStrokes_a aW1.fStrokes.length aW1_fStrokes_c)])] (by kernel_rfl) (by kernel_rfl) (fun w hm => laws_toWear.calls aW1 w _ aW1_fPins_a aW1.fPins.length aW1_fPins_c (hm.exRow aW1_fPins_h List.not_mem_nil) rfl aW1_fStrokes_a aW1.fStrokes.length aW1_fStrokes_c (hm.exRow aW1_fStrokes_h List.not_mem_nil) rfl ht_67) ?_)
        rintro w v w' hm ⟨o_68, cap_69, sp_70, _, rfl, hs_71, ho_72, o_73, cap_74, sp_75, _, rfl, hs_76, ho_77, rfl, hm'⟩
        refine ⟨_, hm.app hm', jkO ?_⟩
        clear hm hm'
        refine toO (by kernel_rfl) (p_a 0 [0] (by kernel_rfl) (fun b => by kernel_rfl) (fun b_78 => jkO ?_))
        refine toO (by kernel_rfl) (p_s 0 [10] (by kernel_rfl) (by kernel_rfl) (jkO ?_))
        refine jo_end (by kernel_rfl) ?_
        refine jx_then ?_
        refine jc_seq ?_
        refine jc_region ?_
        refine jo_f [(0, 0)] (by kernel_rfl) ?_
        obtain ⟨t_10, ht_79, h⟩ := bd h
        refine toO (by kernel_rfl) (p_call 0 39 #[(.slice aChoices5_a aChoices5.length aChoices5_c)] (by kernel_rfl) (by kernel_rfl) (fun w hm => laws_toLivesS.calls aChoices5 w _ aChoices5_a aChoices5.length aChoices5_c (hm.exRow aChoices5_h List.not_mem_nil) rfl ht_79) ?_)
        rintro w v w' hm ⟨o_80, cap_81, sp_82, _, rfl, hs_83, ho_84, rfl, hm'⟩
        refine ⟨_, hm.app hm', jkO ?_⟩
        clear hm hm'
        refine jo_f [(0, 0)] (by kernel_rfl) ?_
        refine jo_end (by kernel_rfl) ?_
        refine jx_then ?_
        refine jc_seq ?_
        refine jc_region ?_
        refine jo_f [(7, 0), (10, 0), (0, 0), (0, 0), (0, 0), (0, 0)] (by kernel_rfl) ?_
        obtain ⟨t_11, ht_85, h⟩ := bd h
        refine toO (by kernel_rfl) (p_call 0 40 #[(.agg #[(.int .i16 t_8.fSteps), (.slice (o_61.map fun b => ⟨b, 0, none⟩) t_8.fHammers.length cap_62)]), (.agg #[(.slice (o_68.map fun b => ⟨b, 0, none⟩) t_9.fPins.length cap_69), (.slice (o_73.map fun b => ⟨b, 0, none⟩) t_9.fStrokes.length cap_74)]), (.int .i64 aPinPrice2), (.int .i64 aHammerPrice3), (.int .i64 aTurns4), (.slice (o_80.map fun b => ⟨b, 0, none⟩) t_10.length cap_81)] (by kernel_rfl) (by kernel_rfl) (fun w hm => impl_CheapestLives.calls t_8 t_9 aPinPrice2 aHammerPrice3 aTurns4 t_10 w _ (o_61.map fun b => ⟨b, 0, none⟩) t_8.fHammers.length cap_62 (hm.ownRow (hh := 6) (o := o_61) (T := 178) (enc := encGHammer) (xs := t_8.fHammers) (sp := sp_63) (by kernel_rfl) (fun e => (ho_65 e).1) encGHammer_len) rfl (o_68.map fun b => ⟨b, 0, none⟩) t_9.fPins.length cap_69 (hm.ownRow (hh := 8) (o := o_68) (T := 164) (enc := encGWornPin) (xs := t_9.fPins) (sp := sp_70) (by kernel_rfl) (fun e => (ho_72 e).1) encGWornPin_len) rfl (o_73.map fun b => ⟨b, 0, none⟩) t_9.fStrokes.length cap_74 (hm.ownRow (hh := 9) (o := o_73) (T := 2) (enc := encI64) (xs := t_9.fStrokes) (sp := sp_75) (by kernel_rfl) (fun e => (ho_77 e).1) encI64_len) rfl (o_80.map fun b => ⟨b, 0, none⟩) t_10.length cap_81 (hm.ownRow (hh := 11) (o := o_80) (T := 44) (enc := encGLives) (xs := t_10) (sp := sp_82) (by kernel_rfl) (fun e => (ho_84 e).1) encGLives_len) rfl ht_85) ?_)
        rintro w v w' hm ⟨rfl, hm'⟩
        refine ⟨_, hm.app hm', jkO ?_⟩
        clear hm hm'
        refine jo_f [(0, 0), (0, 0), (0, 0), (0, 0), (0, 0), (0, 0), (0, 0)] (by kernel_rfl) ?_
        refine jo_end (by kernel_rfl) ?_
        refine jx_then ?_
        refine jc_seq ?_
        refine jc_seq ?_
        refine jc_region ?_
        refine jo_f [(0, 0), (0, 0), (0, 0), (0, 0), (0, 1), (0, 1), (0, 1), (0, 0), (0, 0), (0, 1), (0, 1), (0, 1), (0, 0)] (by kernel_rfl) ?_
        refine jo_end (by kernel_rfl) ?_
        refine jx_then ?_
        refine jc_cond (((t_11.1 != t_7.1) || (t_11.2.1 != t_7.2.1)) || (t_11.2.2 != t_7.2.2)) (by kernel_rfl) (fun hc_87 => ?_) (fun hc_87 => ?_)
        · replace h := ifT hc_87 h
          refine jc_seq ?_
          refine jc_region ?_
          refine jo_f [(0, 0)] (by kernel_rfl) ?_
          refine jo_end (by kernel_rfl) ?_
          refine jx_then ?_
          refine jc_ret ?_
          refine jx_thenr ?_
          obtain rfl := Option.some.inj h
          exact jx_ret [] (.bool false) [] rfl (by kernel_rfl) (by kernel_rfl) (fun w hm => ⟨rfl, hm.pick [] (by kernel_rfl) (by kernel_rfl)⟩)
        · replace h := ifF hc_87 h
          refine jc_skip ?_
          refine jx_then ?_
          refine jc_seq ?_
          refine jc_seq ?_
          refine jc_draw [⟨some b_1, 25, [(.int .i16 aF0.fSteps), (.slice aF0_fHammers_a aF0.fHammers.length aF0_fHammers_c)]⟩, ⟨some b_2, 29, [(.slice aW1_fPins_a aW1.fPins.length aW1_fPins_c), (.slice aW1_fStrokes_a aW1.fStrokes.length aW1_fStrokes_c)]⟩, ⟨o_37, 178, row encGHammer t_4.fHammers sp_39⟩, ⟨o_43, 164, row encGWornPin t_5.fPins sp_45⟩, ⟨o_48, 2, row encI64 t_5.fStrokes sp_50⟩, ⟨o_54, 44, row encGLives t_6 sp_56⟩, ⟨o_61, 178, row encGHammer t_8.fHammers sp_63⟩, ⟨some b_66, 38, [(.int .i16 t_8.fSteps), (.slice (o_61.map fun b => ⟨b, 0, none⟩) t_8.fHammers.length cap_62)]⟩, ⟨o_68, 164, row encGWornPin t_9.fPins sp_70⟩, ⟨o_73, 2, row encI64 t_9.fStrokes sp_75⟩, ⟨some b_78, 42, [(.slice (o_68.map fun b => ⟨b, 0, none⟩) t_9.fPins.length cap_69), (.slice (o_73.map fun b => ⟨b, 0, none⟩) t_9.fStrokes.length cap_74)]⟩, ⟨o_80, 44, row encGLives t_10 sp_82⟩] 5 (by kernel_rfl) (by kernel_rfl) ?_
          refine jd_f [⟨0, 7, 0⟩, ⟨1, 0, 0⟩] 3 (by kernel_rfl) (by kernel_rfl) (fun w h => h.pick [0, 1, 2, 3, 4, 5, 6, 7, 8, 9, 10, 11] (by kernel_rfl) (by kernel_rfl)) (by kernel_rfl) (by kernel_rfl) ?_
          obtain ⟨t_12, ht_110, h⟩ := bd h
          refine toD 2 (by kernel_rfl) (p_call 0 16 #[(.agg #[(.int .i16 aF0.fSteps), (.slice aF0_fHammers_a aF0.fHammers.length aF0_fHammers_c)])] (by kernel_rfl) (by kernel_rfl) (fun w hm => laws_toFrame.calls aF0 w _ aF0_fHammers_a aF0.fHammers.length aF0_fHammers_c (hm.exRow aF0_fHammers_h List.not_mem_nil) rfl ht_110) ?_)
          rintro w v w' hm ⟨o_111, cap_112, sp_113, _, rfl, hs_114, ho_115, rfl, hm'⟩
          refine ⟨_, hm.app hm', jkD (fun w h => h.pick [0, 1, 2, 3, 4, 5, 6, 7, 8, 9, 10, 11] (by kernel_rfl) (by kernel_rfl)) ?_⟩
          clear hm hm'
          obtain ⟨t_13, ht_116, h⟩ := bd h
          refine toD 3 (by kernel_rfl) (p_call 0 20 #[(.agg #[(.int .i16 t_8.fSteps), (.slice (o_61.map fun b => ⟨b, 0, none⟩) t_8.fHammers.length cap_62)]), (.agg #[(.int .i16 t_12.fSteps), (.slice (o_111.map fun b => ⟨b, 0, none⟩) t_12.fHammers.length cap_112)])] (by kernel_rfl) (by kernel_rfl) (fun w hm => laws_eqFrame.calls t_8 t_12 w _ (o_61.map fun b => ⟨b, 0, none⟩) t_8.fHammers.length cap_62 (hm.ownRow (hh := 6) (o := o_61) (T := 178) (enc := encGHammer) (xs := t_8.fHammers) (sp := sp_63) (by kernel_rfl) (fun e => (ho_65 e).1) encGHammer_len) rfl (o_111.map fun b => ⟨b, 0, none⟩) t_12.fHammers.length cap_112 (hm.ownRow (hh := 12) (o := o_111) (T := 178) (enc := encGHammer) (xs := t_12.fHammers) (sp := sp_113) (by kernel_rfl) (fun e => (ho_115 e).1) encGHammer_len) rfl ht_116) ?_)
          rintro w v w' hm ⟨rfl, hm'⟩
          refine ⟨_, hm.app hm', jkD (fun w h => h.pick [0, 1, 2, 3, 4, 5, 6, 7, 8, 9, 10, 11] (by kernel_rfl) (by kernel_rfl)) ?_⟩
          clear hm hm'
          refine jd_f [⟨4, 0, 0⟩] 0 (by kernel_rfl) (by kernel_rfl) (fun w h => h.pick [0, 1, 2, 3, 4, 5, 6, 7, 8, 9, 10, 11] (by kernel_rfl) (by kernel_rfl)) (by kernel_rfl) (by kernel_rfl) ?_
          refine jd_end (by kernel_rfl) ?_
          refine jx_then ?_
          refine jc_cond (!t_13) (by kernel_rfl) (fun hc_117 => ?_) (fun hc_117 => ?_)
          · replace h := ifT hc_117 h
            refine jc_seq ?_
            refine jc_region ?_
            refine jo_f [(0, 0)] (by kernel_rfl) ?_
            refine jo_end (by kernel_rfl) ?_
            refine jx_then ?_
            refine jc_ret ?_
            refine jx_thenr ?_
            obtain rfl := Option.some.inj h
            exact jx_ret [] (.bool false) [] rfl (by kernel_rfl) (by kernel_rfl) (fun w hm => ⟨rfl, hm.pick [] (by kernel_rfl) (by kernel_rfl)⟩)
          · replace h := ifF hc_117 h
            refine jc_skip ?_
            refine jx_then ?_
            refine jc_seq ?_
            refine jc_seq ?_
            refine jc_draw [⟨some b_1, 25, [(.int .i16 aF0.fSteps), (.slice aF0_fHammers_a aF0.fHammers.length aF0_fHammers_c)]⟩, ⟨some b_2, 29, [(.slice aW1_fPins_a aW1.fPins.length aW1_fPins_c), (.slice aW1_fStrokes_a aW1.fStrokes.length aW1_fStrokes_c)]⟩, ⟨o_37, 178, row encGHammer t_4.fHammers sp_39⟩, ⟨o_43, 164, row encGWornPin t_5.fPins sp_45⟩, ⟨o_48, 2, row encI64 t_5.fStrokes sp_50⟩, ⟨o_54, 44, row encGLives t_6 sp_56⟩, ⟨o_61, 178, row encGHammer t_8.fHammers sp_63⟩, ⟨some b_66, 38, [(.int .i16 t_8.fSteps), (.slice (o_61.map fun b => ⟨b, 0, none⟩) t_8.fHammers.length cap_62)]⟩, ⟨o_68, 164, row encGWornPin t_9.fPins sp_70⟩, ⟨o_73, 2, row encI64 t_9.fStrokes sp_75⟩, ⟨some b_78, 42, [(.slice (o_68.map fun b => ⟨b, 0, none⟩) t_9.fPins.length cap_69), (.slice (o_73.map fun b => ⟨b, 0, none⟩) t_9.fStrokes.length cap_74)]⟩, ⟨o_80, 44, row encGLives t_10 sp_82⟩, ⟨o_111, 178, row encGHammer t_12.fHammers sp_113⟩] 5 (by kernel_rfl) (by kernel_rfl) ?_
            refine jd_f [⟨0, 10, 0⟩, ⟨1, 1, 0⟩] 3 (by kernel_rfl) (by kernel_rfl) (fun w h => h.pick [0, 1, 2, 3, 4, 5, 6, 7, 8, 9, 10, 11, 12] (by kernel_rfl) (by kernel_rfl)) (by kernel_rfl) (by kernel_rfl) ?_
            obtain ⟨t_14, ht_155, h⟩ := bd h
            refine toD 2 (by kernel_rfl) (p_call 0 17 #[(.agg #[(.slice aW1_fPins_a aW1.fPins.length aW1_fPins_c), (.slice aW1_fStrokes_a aW1.fStrokes.length aW1_fStrokes_c)])] (by kernel_rfl) (by kernel_rfl) (fun w hm => laws_toWear.calls aW1 w _ aW1_fPins_a aW1.fPins.length aW1_fPins_c (hm.exRow aW1_fPins_h List.not_mem_nil) rfl aW1_fStrokes_a aW1.fStrokes.length aW1_fStrokes_c (hm.exRow aW1_fStrokes_h List.not_mem_nil) rfl ht_155) ?_)
            rintro w v w' hm ⟨o_156, cap_157, sp_158, _, rfl, hs_159, ho_160, o_161, cap_162, sp_163, _, rfl, hs_164, ho_165, rfl, hm'⟩
            refine ⟨_, hm.app hm', jkD (fun w h => h.pick [0, 1, 2, 3, 4, 5, 6, 7, 8, 9, 10, 11, 12] (by kernel_rfl) (by kernel_rfl)) ?_⟩
            clear hm hm'
            obtain ⟨t_15, ht_166, h⟩ := bd h
            refine toD 3 (by kernel_rfl) (p_call 0 21 #[(.agg #[(.slice (o_68.map fun b => ⟨b, 0, none⟩) t_9.fPins.length cap_69), (.slice (o_73.map fun b => ⟨b, 0, none⟩) t_9.fStrokes.length cap_74)]), (.agg #[(.slice (o_156.map fun b => ⟨b, 0, none⟩) t_14.fPins.length cap_157), (.slice (o_161.map fun b => ⟨b, 0, none⟩) t_14.fStrokes.length cap_162)])] (by kernel_rfl) (by kernel_rfl) (fun w hm => laws_eqWear.calls t_9 t_14 w _ (o_68.map fun b => ⟨b, 0, none⟩) t_9.fPins.length cap_69 (hm.ownRow (hh := 8) (o := o_68) (T := 164) (enc := encGWornPin) (xs := t_9.fPins) (sp := sp_70) (by kernel_rfl) (fun e => (ho_72 e).1) encGWornPin_len) rfl (o_73.map fun b => ⟨b, 0, none⟩) t_9.fStrokes.length cap_74 (hm.ownRow (hh := 9) (o := o_73) (T := 2) (enc := encI64) (xs := t_9.fStrokes) (sp := sp_75) (by kernel_rfl) (fun e => (ho_77 e).1) encI64_len) rfl (o_156.map fun b => ⟨b, 0, none⟩) t_14.fPins.length cap_157 (hm.ownRow (hh := 13) (o := o_156) (T := 164) (enc := encGWornPin) (xs := t_14.fPins) (sp := sp_158) (by kernel_rfl) (fun e => (ho_160 e).1) encGWornPin_len) rfl (o_161.map fun b => ⟨b, 0, none⟩) t_14.fStrokes.length cap_162 (hm.ownRow (hh := 14) (o := o_161) (T := 2) (enc := encI64) (xs := t_14.fStrokes) (sp := sp_163) (by kernel_rfl) (fun e => (ho_165 e).1) encI64_len) rfl ht_166) ?_)
            rintro w v w' hm ⟨rfl, hm'⟩
            refine ⟨_, hm.app hm', jkD (fun w h => h.pick [0, 1, 2, 3, 4, 5, 6, 7, 8, 9, 10, 11, 12] (by kernel_rfl) (by kernel_rfl)) ?_⟩
            clear hm hm'
            refine jd_f [⟨4, 0, 0⟩] 0 (by kernel_rfl) (by kernel_rfl) (fun w h => h.pick [0, 1, 2, 3, 4, 5, 6, 7, 8, 9, 10, 11, 12] (by kernel_rfl) (by kernel_rfl)) (by kernel_rfl) (by kernel_rfl) ?_
            refine jd_end (by kernel_rfl) ?_
            refine jx_then ?_
            refine jc_cond (!t_15) (by kernel_rfl) (fun hc_167 => ?_) (fun hc_167 => ?_)
            · replace h := ifT hc_167 h
              refine jc_seq ?_
              refine jc_region ?_
              refine jo_f [(0, 0)] (by kernel_rfl) ?_
              refine jo_end (by kernel_rfl) ?_
              refine jx_then ?_
              refine jc_ret ?_
              refine jx_thenr ?_
              obtain rfl := Option.some.inj h
              exact jx_ret [] (.bool false) [] rfl (by kernel_rfl) (by kernel_rfl) (fun w hm => ⟨rfl, hm.pick [] (by kernel_rfl) (by kernel_rfl)⟩)
            · replace h := ifF hc_167 h
              refine jc_skip ?_
              refine jx_then ?_
              refine jc_seq ?_
              refine jc_seq ?_
              refine jc_region ?_
              refine jo_f [(0, 0), (0, 0)] (by kernel_rfl) ?_
              obtain ⟨t_16, ht_168, h⟩ := bd h
              refine toO (by kernel_rfl) (p_call 0 39 #[(.slice aChoices5_a aChoices5.length aChoices5_c)] (by kernel_rfl) (by kernel_rfl) (fun w hm => laws_toLivesS.calls aChoices5 w _ aChoices5_a aChoices5.length aChoices5_c (hm.exRow aChoices5_h List.not_mem_nil) rfl ht_168) ?_)
              rintro w v w' hm ⟨o_169, cap_170, sp_171, _, rfl, hs_172, ho_173, rfl, hm'⟩
              refine ⟨_, hm.app hm', jkO ?_⟩
              clear hm hm'
              obtain ⟨t_17, ht_174, h⟩ := bd h
              refine toO (by kernel_rfl) (p_call 0 41 #[(.slice (o_80.map fun b => ⟨b, 0, none⟩) t_10.length cap_81), (.slice (o_169.map fun b => ⟨b, 0, none⟩) t_16.length cap_170)] (by kernel_rfl) (by kernel_rfl) (fun w hm => laws_eqLivesS.calls t_10 t_16 w _ (o_80.map fun b => ⟨b, 0, none⟩) t_10.length cap_81 (hm.ownRow (hh := 11) (o := o_80) (T := 44) (enc := encGLives) (xs := t_10) (sp := sp_82) (by kernel_rfl) (fun e => (ho_84 e).1) encGLives_len) rfl (o_169.map fun b => ⟨b, 0, none⟩) t_16.length cap_170 (hm.ownRow (hh := 15) (o := o_169) (T := 44) (enc := encGLives) (xs := t_16) (sp := sp_171) (by kernel_rfl) (fun e => (ho_173 e).1) encGLives_len) rfl ht_174) ?_)
              rintro w v w' hm ⟨rfl, hm'⟩
              refine ⟨_, hm.app hm', jkO ?_⟩
              clear hm hm'
              refine jo_f [(0, 0)] (by kernel_rfl) ?_
              refine jo_end (by kernel_rfl) ?_
              refine jx_then ?_
              refine jc_cond (!t_17) (by kernel_rfl) (fun hc_175 => ?_) (fun hc_175 => ?_)
              · replace h := ifT hc_175 h
                refine jc_seq ?_
                refine jc_region ?_
                refine jo_f [(0, 0)] (by kernel_rfl) ?_
                refine jo_end (by kernel_rfl) ?_
                refine jx_then ?_
                refine jc_ret ?_
                refine jx_thenr ?_
                obtain rfl := Option.some.inj h
                exact jx_ret [] (.bool false) [] rfl (by kernel_rfl) (by kernel_rfl) (fun w hm => ⟨rfl, hm.pick [] (by kernel_rfl) (by kernel_rfl)⟩)
              · replace h := ifF hc_175 h
                refine jc_skip ?_
                refine jx_then ?_
                refine jc_seq ?_
                refine jc_region ?_
                refine jo_f [(0, 0)] (by kernel_rfl) ?_
                refine jo_end (by kernel_rfl) ?_
                refine jx_then ?_
                refine jc_ret ?_
                obtain rfl := Option.some.inj h
                exact jx_ret [] (.bool true) [] rfl (by kernel_rfl) (by kernel_rfl) (fun w hm => ⟨rfl, hm.pick [] (by kernel_rfl) (by kernel_rfl)⟩)
end Go.Proofs.Ytilackblefjgdaa
