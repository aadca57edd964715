/- Functions of the program that the laws reach: a plain function each, and that the call comes to its answer if the plain function has one. Printed by a program. -/
import Derived.Test.YtfkjghkjimcmdaaGreatT
import Derived.Test.YtfkjghkjimcmdaaGreatSort
import Derived.Test.YtfkjghkjimcmdaaGreatM0
import Derived.Test.YtfkjghkjimcmdaaGreatM1
namespace Go.Proofs.YtfkjghkjimcmdaaGreat
open Eng
set_option linter.unusedVariables false

/-! ### spec.CheapestLives -/
noncomputable def spec_CheapestLives.k_8 (i_6 : Int) (i_7 : Int) : Option (Int × Int × Int) := (if (decide (i_6 < 0)) = true then some (0, 0, 6) else some (i_6, i_7, 0))
noncomputable def spec_CheapestLives.k_17 (pinPrice2 : Int) (hammerPrice3 : Int) (i_9 : Int) (i_10 : Int) (i_11 : Int) (t_15 : Int × Int × Int) (q_16 : Bool) : Option ((Int × Int × Int) ⊕ ((Int × Int))) := (if q_16 = true then some (.inl (i_11, (w64 ((w64 ((w64 (t_15.1 * pinPrice2)) + (w64 (t_15.2.1 * hammerPrice3)))) * (w64 (i_11 + 1)))), (w64 (i_11 + 1)))) else some (.inl (i_9, i_10, (w64 (i_11 + 1)))))
noncomputable def spec_CheapestLives.l_12 (w1 : GWear) (pinPrice2 : Int) (hammerPrice3 : Int) (turns4 : Int) (choices5 : List GLives) : (Int × Int × Int) → Option ((Int × Int × Int) ⊕ ((Int × Int)))
  | (i_9, i_10, i_11) => (if (decide (i_11 < (choices5.length : Int))) = true then (ix choices5 i_11).bind fun x_14 => (spec_l06Parts w1 x_14 turns4).bind fun t_15 => (if (t_15.2.2 == 0) = true then spec_CheapestLives.k_17 pinPrice2 hammerPrice3 i_9 i_10 i_11 t_15 ((decide (i_9 < 0)) || (decide ((w64 ((w64 ((w64 (t_15.1 * pinPrice2)) + (w64 (t_15.2.1 * hammerPrice3)))) * (w64 (i_11 + 1)))) < i_10))) else spec_CheapestLives.k_17 pinPrice2 hammerPrice3 i_9 i_10 i_11 t_15 false) else some (.inr (i_9, i_10)))
noncomputable def spec_CheapestLives.k_5 (w1 : GWear) (pinPrice2 : Int) (hammerPrice3 : Int) (turns4 : Int) (choices5 : List GLives) (q_4 : Bool) : Option (Int × Int × Int) := (if q_4 = true then some (0, 0, 2) else (loop (spec_CheapestLives.l_12 w1 pinPrice2 hammerPrice3 turns4 choices5) ((-1), 0, 0)).bind fun t_13 => spec_CheapestLives.k_8 t_13.1 t_13.2)
noncomputable def spec_CheapestLives.k_3 (w1 : GWear) (pinPrice2 : Int) (hammerPrice3 : Int) (turns4 : Int) (choices5 : List GLives) (q_2 : Bool) : Option (Int × Int × Int) := (if (!q_2) = true then some (0, 0, 1) else (spec_l00In pinPrice2 0 1000).bind fun t_18 => (if (!t_18) = true then spec_CheapestLives.k_5 w1 pinPrice2 hammerPrice3 turns4 choices5 true else (spec_l00In hammerPrice3 0 1000).bind fun t_19 => (if (!t_19) = true then spec_CheapestLives.k_5 w1 pinPrice2 hammerPrice3 turns4 choices5 true else (spec_l06Turns turns4).bind fun t_20 => (if (!t_20) = true then spec_CheapestLives.k_5 w1 pinPrice2 hammerPrice3 turns4 choices5 true else (spec_l00In (choices5.length : Int) 1 20).bind fun t_21 => spec_CheapestLives.k_5 w1 pinPrice2 hammerPrice3 turns4 choices5 (!t_21)))))
noncomputable def spec_CheapestLives.l_24 (choices5 : List GLives) : (Bool × Int) → Option ((Bool × Int) ⊕ (Bool))
  | (q_22, i_23) => (if ((decide (i_23 < (choices5.length : Int))) && q_22) = true then (ix choices5 i_23).bind fun x_26 => (spec_l06Lives x_26).bind fun t_27 => some (.inl (t_27, (w64 (i_23 + 1)))) else some (.inr q_22))
noncomputable def spec_CheapestLives (f0 : GFrame) (w1 : GWear) (pinPrice2 : Int) (hammerPrice3 : Int) (turns4 : Int) (choices5 : List GLives) : Option (Int × Int × Int) := (spec_l06Ok f0 w1).bind fun t_1 => (loop (spec_CheapestLives.l_24 choices5) (t_1, 0)).bind fun t_25 => spec_CheapestLives.k_3 w1 pinPrice2 hammerPrice3 turns4 choices5 t_25
set_option maxRecDepth 100000 in
set_option maxHeartbeats 8000000 in
theorem spec_CheapestLives.calls (f0 : GFrame) (w1 : GWear) (pinPrice2 : Int) (hammerPrice3 : Int) (turns4 : Int) (choices5 : List GLives) (w : World) (r : Int × Int × Int) (f0_fHammers_a : Option Addr) (f0_fHammers_an : Nat) (f0_fHammers_c : Nat) (f0_fHammers_h : Rw w f0_fHammers_a 2 encGHammer f0.fHammers) (f0_fHammers_hn : f0.fHammers.length = f0_fHammers_an) (w1_fPins_a : Option Addr) (w1_fPins_an : Nat) (w1_fPins_c : Nat) (w1_fPins_h : Rw w w1_fPins_a 3 encGWornPin w1.fPins) (w1_fPins_hn : w1.fPins.length = w1_fPins_an) (w1_fStrokes_a : Option Addr) (w1_fStrokes_an : Nat) (w1_fStrokes_c : Nat) (w1_fStrokes_h : Rw w w1_fStrokes_a 1 encI64 w1.fStrokes) (w1_fStrokes_hn : w1.fStrokes.length = w1_fStrokes_an) (choices5_a : Option Addr) (choices5_an : Nat) (choices5_c : Nat) (choices5_h : Rw w choices5_a 2 encGLives choices5) (choices5_hn : choices5.length = choices5_an) (h : spec_CheapestLives f0 w1 pinPrice2 hammerPrice3 turns4 choices5 = some r) :
    Calls Tryz.prog 32 #[(.agg #[(.int .i16 f0.fSteps), (.slice f0_fHammers_a f0_fHammers_an f0_fHammers_c)]), (.agg #[(.slice w1_fPins_a w1_fPins_an w1_fPins_c), (.slice w1_fStrokes_a w1_fStrokes_an w1_fStrokes_c)]), (.int .i64 pinPrice2), (.int .i64 hammerPrice3), (.int .i64 turns4), (.slice choices5_a choices5_an choices5_c)] w fun e w' => ∃ v, e = .returned v ∧ (v = .tuple #[(.int .i64 r.1), (.int .i64 r.2.1), (.int .i64 r.2.2)] ∧ Mem w [] [] w') := by
  subst f0_fHammers_hn w1_fPins_hn w1_fStrokes_hn choices5_hn
  rw [spec_CheapestLives] at h
  refine enter (args := [(.agg #[(.int .i16 f0.fSteps), (.slice f0_fHammers_a f0.fHammers.length f0_fHammers_c)]), (.agg #[(.slice w1_fPins_a w1.fPins.length w1_fPins_c), (.slice w1_fStrokes_a w1.fStrokes.length w1_fStrokes_c)]), (.int .i64 pinPrice2), (.int .i64 hammerPrice3), (.int .i64 turns4), (.slice choices5_a choices5.length choices5_c)]) Tryz.func32 rfl Tryz.ntmps32 (by kernel_rfl) (L := []) (W := []) (Mem.start w) ?_
  refine jc_seq ?_
  refine jc_region ?_
  refine toO (by kernel_rfl) (p_a 0 [0] (by kernel_rfl) (fun b => by kernel_rfl) (fun b_1 => jkO ?_))
  refine toO (by kernel_rfl) (p_a 0 [0] (by kernel_rfl) (fun b => by kernel_rfl) (fun b_2 => jkO ?_))
  refine jo_f [(0, 0), (0, 0), (0, 0)] (by kernel_rfl) ?_
  refine jo_end (by kernel_rfl) ?_
  refine jx_then ?_
  refine jc_seq ?_
  refine jc_region ?_
  obtain ⟨t_1, ht_3, h⟩ := bd h
  refine toO (by kernel_rfl) (p_call 0 75 #[(.pointer (some ⟨b_1, 0, none⟩)), (.pointer (some ⟨b_2, 0, none⟩))] (by kernel_rfl) (by kernel_rfl) (fun w hm => spec_l06Ok.calls f0 w1 w _ f0_fHammers_a f0.fHammers.length f0_fHammers_c (hm.exRow f0_fHammers_h List.not_mem_nil) rfl w1_fPins_a w1.fPins.length w1_fPins_c (hm.exRow w1_fPins_h List.not_mem_nil) rfl w1_fStrokes_a w1.fStrokes.length w1_fStrokes_c (hm.exRow w1_fStrokes_h List.not_mem_nil) rfl b_1 b_2 (hm.pass (N := [⟨some b_1, 43, [(.int .i16 f0.fSteps), (.slice f0_fHammers_a f0.fHammers.length f0_fHammers_c)]⟩, ⟨some b_2, 38, [(.slice w1_fPins_a w1.fPins.length w1_fPins_c), (.slice w1_fStrokes_a w1.fStrokes.length w1_fStrokes_c)]⟩]) [0, 1] (by kernel_rfl) (by kernel_rfl)) (hm.exApart (N := [⟨some b_1, 43, [(.int .i16 f0.fSteps), (.slice f0_fHammers_a f0.fHammers.length f0_fHammers_c)]⟩, ⟨some b_2, 38, [(.slice w1_fPins_a w1.fPins.length w1_fPins_c), (.slice w1_fStrokes_a w1.fStrokes.length w1_fStrokes_c)]⟩]) f0_fHammers_h (fun _ => List.not_mem_nil) [0, 1] (by kernel_rfl)) (hm.exApart (N := [⟨some b_1, 43, [(.int .i16 f0.fSteps), (.slice f0_fHammers_a f0.fHammers.length f0_fHammers_c)]⟩, ⟨some b_2, 38, [(.slice w1_fPins_a w1.fPins.length w1_fPins_c), (.slice w1_fStrokes_a w1.fStrokes.length w1_fStrokes_c)]⟩]) w1_fPins_h (fun _ => List.not_mem_nil) [0, 1] (by kernel_rfl)) (hm.exApart (N := [⟨some b_1, 43, [(.int .i16 f0.fSteps), (.slice f0_fHammers_a f0.fHammers.length f0_fHammers_c)]⟩, ⟨some b_2, 38, [(.slice w1_fPins_a w1.fPins.length w1_fPins_c), (.slice w1_fStrokes_a w1.fStrokes.length w1_fStrokes_c)]⟩]) w1_fStrokes_h (fun _ => List.not_mem_nil) [0, 1] (by kernel_rfl)) ht_3) ?_)
  rintro w v w' hm ⟨rfl, hm'⟩
  refine ⟨_, hm.appW (ps := [(0, ⟨some b_1, 43, [(.int .i16 f0.fSteps), (.slice f0_fHammers_a f0.fHammers.length f0_fHammers_c)]⟩), (1, ⟨some b_2, 38, [(.slice w1_fPins_a w1.fPins.length w1_fPins_c), (.slice w1_fStrokes_a w1.fStrokes.length w1_fStrokes_c)]⟩)]) (N := []) hm' (by kernel_rfl) (by kernel_rfl), jkO ?_⟩
  clear hm hm'
  refine jo_f [(0, 0)] (by kernel_rfl) ?_
  refine jo_end (by kernel_rfl) ?_
  refine jx_then ?_
  refine jc_seq ?_
  refine jc_seq ?_
  refine jc_region ?_
  refine jo_f [(0, 0)] (by kernel_rfl) ?_
  refine jo_end (by kernel_rfl) ?_
  refine jx_then ?_
  refine jc_meet (fun (j : Bool) => match j with | q_2 => spec_CheapestLives.k_3 w1 pinPrice2 hammerPrice3 turns4 choices5 q_2 = some r) (fun (j : Bool) => match j with | q_2 => [(2, [], (.int .i64 pinPrice2)), (3, [], (.int .i64 hammerPrice3)), (4, [], (.int .i64 turns4)), (5, [], (.slice choices5_a choices5.length choices5_c)), (7, [], (.pointer (some ⟨b_2, 0, none⟩))), (12, [], (.int .i64 0)), (13, [], (.int .i64 0)), (14, [], (.int .i64 0)), (15, [], (.bool q_2))]) (fun (j : Bool) => match j with | q_2 => [⟨some b_1, 43, [(.int .i16 f0.fSteps), (.slice f0_fHammers_a f0.fHammers.length f0_fHammers_c)]⟩, ⟨some b_2, 38, [(.slice w1_fPins_a w1.fPins.length w1_fPins_c), (.slice w1_fStrokes_a w1.fStrokes.length w1_fStrokes_c)]⟩]) ?_ ?_
  · refine jc_block ?_
    obtain ⟨t_25, ht_201, hr_194⟩ := bd h
    refine jc_loop (fun (s : Bool × Int) (x : Unit) => match s, x with | ⟨q_22, i_23⟩, _ => True) (fun (s : Bool × Int) (x : Unit) => match s, x with | ⟨q_22, i_23⟩, _ => [(2, [], (.int .i64 pinPrice2)), (3, [], (.int .i64 hammerPrice3)), (4, [], (.int .i64 turns4)), (5, [], (.slice choices5_a choices5.length choices5_c)), (7, [], (.pointer (some ⟨b_2, 0, none⟩))), (12, [], (.int .i64 0)), (13, [], (.int .i64 0)), (14, [], (.int .i64 0)), (15, [], (.bool q_22)), (16, [], (.int .i64 i_23))]) (fun (s : Bool × Int) (x : Unit) => match s, x with | ⟨q_22, i_23⟩, _ => [⟨some b_1, 43, [(.int .i16 f0.fSteps), (.slice f0_fHammers_a f0.fHammers.length f0_fHammers_c)]⟩, ⟨some b_2, 38, [(.slice w1_fPins_a w1.fPins.length w1_fPins_c), (.slice w1_fStrokes_a w1.fStrokes.length w1_fStrokes_c)]⟩]) ht_201 () trivial (by kernel_rfl) [0, 1] (by kernel_rfl) (by kernel_rfl) ?_
    rintro ⟨q_22, i_23⟩ _ y_195 _ h
    rw [spec_CheapestLives.l_24] at h
    refine jc_seq ?_
    refine jc_seq ?_
    refine jc_region ?_
    refine jo_f [(0, 0), (0, 0), (0, 0), (0, 0), (0, 0), (0, 1), (0, 0)] (by kernel_rfl) ?_
    refine jo_end (by kernel_rfl) ?_
    refine jx_then ?_
    refine jc_cond ((decide (i_23 < (choices5.length : Int))) && q_22) (by kernel_rfl) (fun hc_197 => ?_) (fun hc_197 => ?_)
    · replace h := ifT hc_197 h
      refine jc_skip ?_
      refine jx_then ?_
      refine jc_seq ?_
      refine jc_block ?_
      refine jc_region ?_
      refine jo_f [(0, 0), (0, 0)] (by kernel_rfl) ?_
      obtain ⟨x_26, hx_198, h⟩ := bd h
      refine toO (by kernel_rfl) (p_idx 0 choices5_a choices5.length i_23 2 (by kernel_rfl) (by kernel_rfl) (ix_some hx_198).1 (ltn hx_198 rfl) (choices5_h.sp hx_198) (jkO ?_))
      refine toO (by kernel_rfl) (p_ld 0 (aB choices5_a) (aO choices5_a + i_23.toNat * 2) true (encGLives x_26) (by kernel_rfl) (by kernel_rfl) (by kernel_rfl) (fun w hm => ((hm.exRow choices5_h List.not_mem_nil).at hx_198)) (jkO ?_))
      obtain ⟨t_27, ht_199, h⟩ := bd h
      refine toO (by kernel_rfl) (p_call 0 76 #[(.agg #[(.int .i64 x_26.fPin), (.int .i64 x_26.fHammer)])] (by kernel_rfl) (by kernel_rfl) (fun w hm => spec_l06Lives.calls x_26 w _ ht_199) ?_)
      rintro w v w' hm ⟨rfl, hm'⟩
      refine ⟨_, hm.app hm', jkO ?_⟩
      clear hm hm'
      refine jo_f [(0, 0)] (by kernel_rfl) ?_
      refine jo_end (by kernel_rfl) ?_
      refine jx_inn ?_
      refine jx_then ?_
      refine jc_region ?_
      refine jo_f [(0, 0), (0, 0), (0, 0)] (by kernel_rfl) ?_
      refine jo_end (by kernel_rfl) ?_
      exact jx_back (t_27, (w64 (i_23 + 1))) () (Option.some.inj h).symm trivial [0, 1] (by kernel_rfl) (by kernel_rfl) (by kernel_rfl)
    · replace h := ifF hc_197 h
      refine jc_exit ?_
      refine jx_thenx ?_
      refine jx_leave q_22 (Option.some.inj h).symm (fun e_200 => ?_)
      subst e_200
      refine jx_ine ?_
      exact jx_meet q_22 hr_194 (by kernel_rfl) [0, 1] (by kernel_rfl) (by kernel_rfl)
  · rintro q_2 h
    replace h : spec_CheapestLives.k_3 w1 pinPrice2 hammerPrice3 turns4 choices5 q_2 = some r := h
    rw [spec_CheapestLives.k_3] at h
    refine jx_then ?_
    refine jc_seq ?_
    refine jc_seq ?_
    refine jc_region ?_
    refine jo_f [(0, 0), (0, 0)] (by kernel_rfl) ?_
    refine jo_end (by kernel_rfl) ?_
    refine jx_then ?_
    refine jc_cond (!q_2) (by kernel_rfl) (fun hc_53 => ?_) (fun hc_53 => ?_)
    · replace h := ifT hc_53 h
      refine jc_seq ?_
      refine jc_region ?_
      refine jo_f [(0, 0), (0, 0), (0, 0)] (by kernel_rfl) ?_
      refine jo_end (by kernel_rfl) ?_
      refine jx_then ?_
      refine jc_ret ?_
      refine jx_thenr ?_
      obtain rfl := Option.some.inj h
      exact jx_ret [] (.tuple #[(.int .i64 0), (.int .i64 0), (.int .i64 1)]) [] rfl (by kernel_rfl) (by kernel_rfl) (fun w hm => ⟨rfl, hm.pick [] (by kernel_rfl) (by kernel_rfl)⟩)
    · replace h := ifF hc_53 h
      refine jc_skip ?_
      refine jx_then ?_
      refine jc_seq ?_
      refine jc_seq ?_
      refine jc_meet (fun (j : Bool) => match j with | q_4 => spec_CheapestLives.k_5 w1 pinPrice2 hammerPrice3 turns4 choices5 q_4 = some r) (fun (j : Bool) => match j with | q_4 => [(2, [], (.int .i64 pinPrice2)), (3, [], (.int .i64 hammerPrice3)), (4, [], (.int .i64 turns4)), (5, [], (.slice choices5_a choices5.length choices5_c)), (7, [], (.pointer (some ⟨b_2, 0, none⟩))), (12, [], (.int .i64 0)), (13, [], (.int .i64 0)), (14, [], (.int .i64 0)), (59, [], (.bool q_4))]) (fun (j : Bool) => match j with | q_4 => [⟨some b_1, 43, [(.int .i16 f0.fSteps), (.slice f0_fHammers_a f0.fHammers.length f0_fHammers_c)]⟩, ⟨some b_2, 38, [(.slice w1_fPins_a w1.fPins.length w1_fPins_c), (.slice w1_fStrokes_a w1.fStrokes.length w1_fStrokes_c)]⟩]) ?_ ?_
      · refine jc_region ?_
        refine jo_f [(0, 0)] (by kernel_rfl) ?_
        obtain ⟨t_18, ht_179, h⟩ := bd h
        refine toO (by kernel_rfl) (p_call 0 77 #[(.int .i64 pinPrice2), (.int .i64 0), (.int .i64 1000)] (by kernel_rfl) (by kernel_rfl) (fun w hm => spec_l00In.calls pinPrice2 0 1000 w _ ht_179) ?_)
        rintro w v w' hm ⟨rfl, hm'⟩
        refine ⟨_, hm.app hm', jkO ?_⟩
        clear hm hm'
        refine jo_f [(0, 0), (0, 0), (0, 1)] (by kernel_rfl) ?_
        refine jo_split 44 (!t_18) (by kernel_rfl) (fun hc_180 => ?_) (fun hc_180 => ?_)
        · replace h := ifT hc_180 h
          refine jo_f [(0, 3), (0, 3), (0, 4), (0, 0), (0, 3), (0, 3), (0, 3), (0, 4), (0, 0), (0, 3), (0, 3), (0, 3), (0, 3), (0, 4)] (by kernel_rfl) ?_
          refine jo_end (by kernel_rfl) ?_
          exact jx_meet true h (by kernel_rfl) [0, 1] (by kernel_rfl) (by kernel_rfl)
        · replace h := ifF hc_180 h
          obtain ⟨t_19, ht_181, h⟩ := bd h
          refine toO (by kernel_rfl) (p_call 2 77 #[(.int .i64 hammerPrice3), (.int .i64 0), (.int .i64 1000)] (by kernel_rfl) (by kernel_rfl) (fun w hm => spec_l00In.calls hammerPrice3 0 1000 w _ ht_181) ?_)
          rintro w v w' hm ⟨rfl, hm'⟩
          refine ⟨_, hm.app hm', jkO ?_⟩
          clear hm hm'
          refine jo_f [(0, 2), (0, 5), (0, 0), (0, 1)] (by kernel_rfl) ?_
          refine jo_split 49 (!t_19) (by kernel_rfl) (fun hc_182 => ?_) (fun hc_182 => ?_)
          · replace h := ifT hc_182 h
            refine jo_f [(0, 3), (0, 3), (0, 4), (0, 0), (0, 3), (0, 3), (0, 3), (0, 3), (0, 4)] (by kernel_rfl) ?_
            refine jo_end (by kernel_rfl) ?_
            exact jx_meet true h (by kernel_rfl) [0, 1] (by kernel_rfl) (by kernel_rfl)
          · replace h := ifF hc_182 h
            obtain ⟨t_20, ht_183, h⟩ := bd h
            refine toO (by kernel_rfl) (p_call 2 71 #[(.int .i64 turns4)] (by kernel_rfl) (by kernel_rfl) (fun w hm => spec_l06Turns.calls turns4 w _ ht_183) ?_)
            rintro w v w' hm ⟨rfl, hm'⟩
            refine ⟨_, hm.app hm', jkO ?_⟩
            clear hm hm'
            refine jo_f [(0, 2), (0, 5), (0, 0), (0, 1), (0, 1)] (by kernel_rfl) ?_
            refine jo_split 54 (!t_20) (by kernel_rfl) (fun hc_184 => ?_) (fun hc_184 => ?_)
            · replace h := ifT hc_184 h
              refine jo_f [(0, 3), (0, 3), (0, 4)] (by kernel_rfl) ?_
              refine jo_end (by kernel_rfl) ?_
              exact jx_meet true h (by kernel_rfl) [0, 1] (by kernel_rfl) (by kernel_rfl)
            · replace h := ifF hc_184 h
              obtain ⟨t_21, ht_185, h⟩ := bd h
              refine toO (by kernel_rfl) (p_call 2 77 #[(.int .i64 (choices5.length : Int)), (.int .i64 1), (.int .i64 20)] (by kernel_rfl) (by kernel_rfl) (fun w hm => spec_l00In.calls (choices5.length : Int) 1 20 w _ ht_185) ?_)
              rintro w v w' hm ⟨rfl, hm'⟩
              refine ⟨_, hm.app hm', jkO ?_⟩
              clear hm hm'
              refine jo_f [(0, 2), (0, 5)] (by kernel_rfl) ?_
              refine jo_end (by kernel_rfl) ?_
              exact jx_meet (!t_21) h (by kernel_rfl) [0, 1] (by kernel_rfl) (by kernel_rfl)
      · rintro q_4 h
        replace h : spec_CheapestLives.k_5 w1 pinPrice2 hammerPrice3 turns4 choices5 q_4 = some r := h
        rw [spec_CheapestLives.k_5] at h
        refine jx_then ?_
        refine jc_cond q_4 (by kernel_rfl) (fun hc_76 => ?_) (fun hc_76 => ?_)
        · replace h := ifT hc_76 h
          refine jc_seq ?_
          refine jc_region ?_
          refine jo_f [(0, 0), (0, 0), (0, 0)] (by kernel_rfl) ?_
          refine jo_end (by kernel_rfl) ?_
          refine jx_then ?_
          refine jc_ret ?_
          refine jx_thenr ?_
          obtain rfl := Option.some.inj h
          exact jx_ret [] (.tuple #[(.int .i64 0), (.int .i64 0), (.int .i64 2)]) [] rfl (by kernel_rfl) (by kernel_rfl) (fun w hm => ⟨rfl, hm.pick [] (by kernel_rfl) (by kernel_rfl)⟩)
        · replace h := ifF hc_76 h
          refine jc_skip ?_
          refine jx_then ?_
          refine jc_seq ?_
          refine jc_region ?_
          refine jo_f [(0, 0)] (by kernel_rfl) ?_
          refine jo_end (by kernel_rfl) ?_
          refine jx_then ?_
          refine jc_seq ?_
          refine jc_region ?_
          refine jo_f [(0, 0)] (by kernel_rfl) ?_
          refine jo_end (by kernel_rfl) ?_
          refine jx_then ?_
          refine jc_seq ?_
          refine jc_seq ?_
          refine jc_region ?_
          refine jo_f [(0, 0)] (by kernel_rfl) ?_
          refine jo_end (by kernel_rfl) ?_
          refine jx_then ?_
          refine jc_meet (fun (j : Int × Int) => match j with | ⟨i_6, i_7⟩ => spec_CheapestLives.k_8 i_6 i_7 = some r) (fun (j : Int × Int) => match j with | ⟨i_6, i_7⟩ => [(12, [], (.int .i64 0)), (13, [], (.int .i64 0)), (14, [], (.int .i64 0)), (17, [], (.int .i64 i_6)), (18, [], (.int .i64 i_7))]) (fun (j : Int × Int) => match j with | ⟨i_6, i_7⟩ => [⟨some b_1, 43, [(.int .i16 f0.fSteps), (.slice f0_fHammers_a f0.fHammers.length f0_fHammers_c)]⟩, ⟨some b_2, 38, [(.slice w1_fPins_a w1.fPins.length w1_fPins_c), (.slice w1_fStrokes_a w1.fStrokes.length w1_fStrokes_c)]⟩]) ?_ ?_
          · refine jc_block ?_
            obtain ⟨t_13, ht_178, hr_168⟩ := bd h
            refine jc_loop (fun (s : Int × Int × Int) (x : Unit) => match s, x with | ⟨i_9, i_10, i_11⟩, _ => True) (fun (s : Int × Int × Int) (x : Unit) => match s, x with | ⟨i_9, i_10, i_11⟩, _ => [(2, [], (.int .i64 pinPrice2)), (3, [], (.int .i64 hammerPrice3)), (4, [], (.int .i64 turns4)), (5, [], (.slice choices5_a choices5.length choices5_c)), (7, [], (.pointer (some ⟨b_2, 0, none⟩))), (12, [], (.int .i64 0)), (13, [], (.int .i64 0)), (14, [], (.int .i64 0)), (17, [], (.int .i64 i_9)), (18, [], (.int .i64 i_10)), (19, [], (.int .i64 i_11))]) (fun (s : Int × Int × Int) (x : Unit) => match s, x with | ⟨i_9, i_10, i_11⟩, _ => [⟨some b_1, 43, [(.int .i16 f0.fSteps), (.slice f0_fHammers_a f0.fHammers.length f0_fHammers_c)]⟩, ⟨some b_2, 38, [(.slice w1_fPins_a w1.fPins.length w1_fPins_c), (.slice w1_fStrokes_a w1.fStrokes.length w1_fStrokes_c)]⟩]) ht_178 () trivial (by kernel_rfl) [0, 1] (by kernel_rfl) (by kernel_rfl) ?_
            rintro ⟨i_9, i_10, i_11⟩ _ y_169 _ h
            rw [spec_CheapestLives.l_12] at h
            refine jc_seq ?_
            refine jc_seq ?_
            refine jc_region ?_
            refine jo_f [(0, 0), (0, 0), (0, 0), (0, 0)] (by kernel_rfl) ?_
            refine jo_end (by kernel_rfl) ?_
            refine jx_then ?_
            refine jc_cond (decide (i_11 < (choices5.length : Int))) (by kernel_rfl) (fun hc_171 => ?_) (fun hc_171 => ?_)
            · replace h := ifT hc_171 h
              refine jc_skip ?_
              refine jx_then ?_
              refine jc_seq ?_
              refine jc_block ?_
              refine jc_seq ?_
              refine jc_region ?_
              refine jo_f [(0, 0), (0, 0)] (by kernel_rfl) ?_
              obtain ⟨x_14, hx_172, h⟩ := bd h
              refine toO (by kernel_rfl) (p_idx 0 choices5_a choices5.length i_11 2 (by kernel_rfl) (by kernel_rfl) (ix_some hx_172).1 (ltn hx_172 rfl) (choices5_h.sp hx_172) (jkO ?_))
              refine toO (by kernel_rfl) (p_ld 0 (aB choices5_a) (aO choices5_a + i_11.toNat * 2) true (encGLives x_14) (by kernel_rfl) (by kernel_rfl) (by kernel_rfl) (fun w hm => ((hm.exRow choices5_h List.not_mem_nil).at hx_172)) (jkO ?_))
              refine jo_f [(0, 0)] (by kernel_rfl) ?_
              obtain ⟨t_15, ht_173, h⟩ := bd h
              refine toO (by kernel_rfl) (p_call 0 72 #[(.pointer (some ⟨b_2, 0, none⟩)), (.agg #[(.int .i64 x_14.fPin), (.int .i64 x_14.fHammer)]), (.int .i64 turns4)] (by kernel_rfl) (by kernel_rfl) (fun w hm => spec_l06Parts.calls w1 x_14 turns4 w _ w1_fPins_a w1.fPins.length w1_fPins_c (hm.exRow w1_fPins_h List.not_mem_nil) rfl w1_fStrokes_a w1.fStrokes.length w1_fStrokes_c (hm.exRow w1_fStrokes_h List.not_mem_nil) rfl b_2 (hm.pass (N := [⟨some b_2, 38, [(.slice w1_fPins_a w1.fPins.length w1_fPins_c), (.slice w1_fStrokes_a w1.fStrokes.length w1_fStrokes_c)]⟩]) [1] (by kernel_rfl) (by kernel_rfl)) (hm.exApart (N := [⟨some b_2, 38, [(.slice w1_fPins_a w1.fPins.length w1_fPins_c), (.slice w1_fStrokes_a w1.fStrokes.length w1_fStrokes_c)]⟩]) w1_fPins_h (fun _ => List.not_mem_nil) [1] (by kernel_rfl)) (hm.exApart (N := [⟨some b_2, 38, [(.slice w1_fPins_a w1.fPins.length w1_fPins_c), (.slice w1_fStrokes_a w1.fStrokes.length w1_fStrokes_c)]⟩]) w1_fStrokes_h (fun _ => List.not_mem_nil) [1] (by kernel_rfl)) ht_173) ?_)
              rintro w v w' hm ⟨rfl, hm'⟩
              refine ⟨_, hm.appW (ps := [(1, ⟨some b_2, 38, [(.slice w1_fPins_a w1.fPins.length w1_fPins_c), (.slice w1_fStrokes_a w1.fStrokes.length w1_fStrokes_c)]⟩)]) (N := []) hm' (by kernel_rfl) (by kernel_rfl), jkO ?_⟩
              clear hm hm'
              refine jo_f [(0, 0), (0, 0), (0, 0), (0, 0), (0, 0), (0, 0), (0, 0)] (by kernel_rfl) ?_
              refine jo_end (by kernel_rfl) ?_
              refine jx_then ?_
              refine jc_seq ?_
              refine jc_region ?_
              refine jo_f [(0, 0), (0, 0), (0, 0), (0, 0), (0, 0), (0, 0), (0, 0), (0, 0), (0, 0), (0, 0), (0, 0)] (by kernel_rfl) ?_
              refine jo_end (by kernel_rfl) ?_
              refine jx_then ?_
              refine jc_seq ?_
              refine jc_meet (fun (j : Bool) => match j with | q_16 => spec_CheapestLives.k_17 pinPrice2 hammerPrice3 i_9 i_10 i_11 t_15 q_16 = some y_169) (fun (j : Bool) => match j with | q_16 => [(2, [], (.int .i64 pinPrice2)), (3, [], (.int .i64 hammerPrice3)), (4, [], (.int .i64 turns4)), (5, [], (.slice choices5_a choices5.length choices5_c)), (7, [], (.pointer (some ⟨b_2, 0, none⟩))), (12, [], (.int .i64 0)), (13, [], (.int .i64 0)), (14, [], (.int .i64 0)), (17, [], (.int .i64 i_9)), (18, [], (.int .i64 i_10)), (19, [], (.int .i64 i_11)), (23, [], (.int .i64 (w64 ((w64 ((w64 (t_15.1 * pinPrice2)) + (w64 (t_15.2.1 * hammerPrice3)))) * (w64 (i_11 + 1)))))), (96, [], (.bool q_16))]) (fun (j : Bool) => match j with | q_16 => [⟨some b_1, 43, [(.int .i16 f0.fSteps), (.slice f0_fHammers_a f0.fHammers.length f0_fHammers_c)]⟩, ⟨some b_2, 38, [(.slice w1_fPins_a w1.fPins.length w1_fPins_c), (.slice w1_fStrokes_a w1.fStrokes.length w1_fStrokes_c)]⟩]) ?_ ?_
              · refine jc_region ?_
                refine jo_f [(0, 0), (0, 0), (0, 0), (0, 1), (0, 1)] (by kernel_rfl) ?_
                refine jo_split 88 (t_15.2.2 == 0) (by kernel_rfl) (fun hc_176 => ?_) (fun hc_176 => ?_)
                · replace h := ifT hc_176 h
                  refine jo_f [(0, 2), (0, 1), (0, 1), (0, 1), (0, 2), (0, 4)] (by kernel_rfl) ?_
                  refine jo_end (by kernel_rfl) ?_
                  exact jx_meet ((decide (i_9 < 0)) || (decide ((w64 ((w64 ((w64 (t_15.1 * pinPrice2)) + (w64 (t_15.2.1 * hammerPrice3)))) * (w64 (i_11 + 1)))) < i_10))) h (by kernel_rfl) [0, 1] (by kernel_rfl) (by kernel_rfl)
                · replace h := ifF hc_176 h
                  refine jo_f [(0, 3), (0, 3), (0, 3), (0, 3), (0, 3), (0, 5)] (by kernel_rfl) ?_
                  refine jo_end (by kernel_rfl) ?_
                  exact jx_meet false h (by kernel_rfl) [0, 1] (by kernel_rfl) (by kernel_rfl)
              · rintro q_16 h
                replace h : spec_CheapestLives.k_17 pinPrice2 hammerPrice3 i_9 i_10 i_11 t_15 q_16 = some y_169 := h
                rw [spec_CheapestLives.k_17] at h
                refine jx_then ?_
                refine jc_cond q_16 (by kernel_rfl) (fun hc_175 => ?_) (fun hc_175 => ?_)
                · replace h := ifT hc_175 h
                  refine jc_seq ?_
                  refine jc_region ?_
                  refine jo_f [(0, 0), (0, 0)] (by kernel_rfl) ?_
                  refine jo_end (by kernel_rfl) ?_
                  refine jx_then ?_
                  refine jc_region ?_
                  refine jo_f [(0, 0), (0, 0)] (by kernel_rfl) ?_
                  refine jo_end (by kernel_rfl) ?_
                  refine jx_inn ?_
                  refine jx_then ?_
                  refine jc_region ?_
                  refine jo_f [(0, 0), (0, 0), (0, 0)] (by kernel_rfl) ?_
                  refine jo_end (by kernel_rfl) ?_
                  exact jx_back (i_11, (w64 ((w64 ((w64 (t_15.1 * pinPrice2)) + (w64 (t_15.2.1 * hammerPrice3)))) * (w64 (i_11 + 1)))), (w64 (i_11 + 1))) () (Option.some.inj h).symm trivial [0, 1] (by kernel_rfl) (by kernel_rfl) (by kernel_rfl)
                · replace h := ifF hc_175 h
                  refine jc_skip ?_
                  refine jx_inn ?_
                  refine jx_then ?_
                  refine jc_region ?_
                  refine jo_f [(0, 0), (0, 0), (0, 0)] (by kernel_rfl) ?_
                  refine jo_end (by kernel_rfl) ?_
                  exact jx_back (i_9, i_10, (w64 (i_11 + 1))) () (Option.some.inj h).symm trivial [0, 1] (by kernel_rfl) (by kernel_rfl) (by kernel_rfl)
            · replace h := ifF hc_171 h
              refine jc_exit ?_
              refine jx_thenx ?_
              refine jx_leave (i_9, i_10) (Option.some.inj h).symm (fun e_177 => ?_)
              subst e_177
              refine jx_ine ?_
              exact jx_meet ⟨i_9, i_10⟩ hr_168 (by kernel_rfl) [0, 1] (by kernel_rfl) (by kernel_rfl)
          · rintro ⟨i_6, i_7⟩ h
            replace h : spec_CheapestLives.k_8 i_6 i_7 = some r := h
            rw [spec_CheapestLives.k_8] at h
            refine jx_then ?_
            refine jc_seq ?_
            refine jc_seq ?_
            refine jc_region ?_
            refine jo_f [(0, 0), (0, 0)] (by kernel_rfl) ?_
            refine jo_end (by kernel_rfl) ?_
            refine jx_then ?_
            refine jc_cond (decide (i_6 < 0)) (by kernel_rfl) (fun hc_153 => ?_) (fun hc_153 => ?_)
            · replace h := ifT hc_153 h
              refine jc_seq ?_
              refine jc_region ?_
              refine jo_f [(0, 0), (0, 0), (0, 0)] (by kernel_rfl) ?_
              refine jo_end (by kernel_rfl) ?_
              refine jx_then ?_
              refine jc_ret ?_
              refine jx_thenr ?_
              obtain rfl := Option.some.inj h
              exact jx_ret [] (.tuple #[(.int .i64 0), (.int .i64 0), (.int .i64 6)]) [] rfl (by kernel_rfl) (by kernel_rfl) (fun w hm => ⟨rfl, hm.pick [] (by kernel_rfl) (by kernel_rfl)⟩)
            · replace h := ifF hc_153 h
              refine jc_skip ?_
              refine jx_then ?_
              refine jc_seq ?_
              refine jc_region ?_
              refine jo_f [(0, 0), (0, 0), (0, 0), (0, 0), (0, 0)] (by kernel_rfl) ?_
              refine jo_end (by kernel_rfl) ?_
              refine jx_then ?_
              refine jc_ret ?_
              obtain rfl := Option.some.inj h
              exact jx_ret [] (.tuple #[(.int .i64 i_6), (.int .i64 i_7), (.int .i64 0)]) [] rfl (by kernel_rfl) (by kernel_rfl) (fun w hm => ⟨rfl, hm.pick [] (by kernel_rfl) (by kernel_rfl)⟩)

/-! ### spec.l06Copy -/
noncomputable def spec_l06Copy (w0 : GWear) : Option (GWear) := (if ([] : List GWornPin).length + w0.fPins.length ≤ 4294967296 then (if ([] : List Int).length + w0.fStrokes.length ≤ 4294967296 then some (⟨(([] : List GWornPin) ++ w0.fPins), (([] : List Int) ++ w0.fStrokes)⟩ : GWear) else none) else none)
set_option maxRecDepth 100000 in
theorem spec_l06Copy.calls (w0 : GWear) (w : World) (r : GWear) (w0_fPins_a : Option Addr) (w0_fPins_an : Nat) (w0_fPins_c : Nat) (w0_fPins_h : Rw w w0_fPins_a 3 encGWornPin w0.fPins) (w0_fPins_hn : w0.fPins.length = w0_fPins_an) (w0_fStrokes_a : Option Addr) (w0_fStrokes_an : Nat) (w0_fStrokes_c : Nat) (w0_fStrokes_h : Rw w w0_fStrokes_a 1 encI64 w0.fStrokes) (w0_fStrokes_hn : w0.fStrokes.length = w0_fStrokes_an) (w0_b : Nat) (hm0 : Mem w (bs [some w0_b]) [⟨some w0_b, 38, [(.slice w0_fPins_a w0_fPins_an w0_fPins_c), (.slice w0_fStrokes_a w0_fStrokes_an w0_fStrokes_c)]⟩] w) (w0_fPins_ha : w0.fPins ≠ [] → aB w0_fPins_a ∉ bs [some w0_b]) (w0_fStrokes_ha : w0.fStrokes ≠ [] → aB w0_fStrokes_a ∉ bs [some w0_b]) (h : spec_l06Copy w0 = some r) :
    Calls Tryz.prog 85 #[(.pointer (some ⟨w0_b, 0, none⟩))] w fun e w' => ∃ v, e = .returned v ∧ (∃ (o0 : Option Nat) (c0 : Nat) (s0 : List Value) (n0 : Nat), r.fPins.length = n0 ∧ (o0 ≠ none → n0 ≤ c0 ∧ s0.length = (c0 - n0) * 3) ∧ (o0 = none → r.fPins = [] ∧ c0 = 0) ∧ ∃ (o1 : Option Nat) (c1 : Nat) (s1 : List Value) (n1 : Nat), r.fStrokes.length = n1 ∧ (o1 ≠ none → n1 ≤ c1 ∧ s1.length = (c1 - n1) * 1) ∧ (o1 = none → r.fStrokes = [] ∧ c1 = 0) ∧ v = .agg #[.slice (o0.map fun b => ⟨b, 0, none⟩) n0 c0, .slice (o1.map fun b => ⟨b, 0, none⟩) n1 c1] ∧ Mem w (bs [some w0_b]) [⟨some w0_b, 38, [(.slice w0_fPins_a w0_fPins_an w0_fPins_c), (.slice w0_fStrokes_a w0_fStrokes_an w0_fStrokes_c)]⟩, ⟨o0, 75, row encGWornPin r.fPins s0⟩, ⟨o1, 2, row encI64 r.fStrokes s1⟩] w') := by
  subst w0_fPins_hn w0_fStrokes_hn
  rw [spec_l06Copy] at h
  refine enter (args := [(.pointer (some ⟨w0_b, 0, none⟩))]) Tryz.func85 rfl Tryz.ntmps85 (by kernel_rfl) (L := [⟨some w0_b, 38, [(.slice w0_fPins_a w0.fPins.length w0_fPins_c), (.slice w0_fStrokes_a w0.fStrokes.length w0_fStrokes_c)]⟩]) (W := bs [some w0_b]) hm0 ?_
  refine jc_seq ?_
  refine jc_region ?_
  refine toO (by kernel_rfl) (p_a 0 [0] (by kernel_rfl) (fun b => by kernel_rfl) (fun b_1 => jkO ?_))
  refine jo_end (by kernel_rfl) ?_
  refine jx_then ?_
  refine jc_seq ?_
  refine jc_draw [⟨some w0_b, 38, [(.slice w0_fPins_a w0.fPins.length w0_fPins_c), (.slice w0_fStrokes_a w0.fStrokes.length w0_fStrokes_c)]⟩] 14 (by kernel_rfl) (by kernel_rfl) ?_
  refine jd_f [⟨1, 0, 0⟩, ⟨2, 0, 0⟩, ⟨3, 0, 0⟩, ⟨4, 0, 0⟩, ⟨7, 0, 0⟩, ⟨8, 0, 0⟩, ⟨9, 0, 0⟩, ⟨10, 0, 0⟩] 6 (by kernel_rfl) (by kernel_rfl) (fun w h => h.pick [0] (by kernel_rfl) (by kernel_rfl)) (by kernel_rfl) (by kernel_rfl) ?_
  refine toD2 0 6 (by kernel_rfl) ?_ ?_
  · refine p_a 0 [0] (by kernel_rfl) (fun b => by kernel_rfl) (fun b_16 => jkD (fun w h => h.pick [0] (by kernel_rfl) (by kernel_rfl)) ?_)
    refine toD2 5 6 (by kernel_rfl) ?_ ?_
    · obtain ⟨hg_17, h⟩ := gd h
      refine p_apn 0 2 (some b_16) 75 0 w0.fPins.length 0 3 16 w0_fPins_a encGWornPin ([] : List GWornPin) w0.fPins [] (.agg #[(.int .i8 0), (.int .i8 0), (.int .i64 0)]) rfl rfl (by kernel_rfl) (by kernel_rfl) (by kernel_rfl) encGWornPin_len encGWornPin_cell (fun _ => ⟨Nat.le_refl _, by simp⟩) (fun e => nomatch e) (fun w hm => (hm.exRowW w0_fPins_h w0_fPins_ha)) hg_17 (by kernel_rfl) (by kernel_rfl) (fun o_18 cap_19 sp_20 hs_21 ho_22 => jkD (fun w h => h.pick [0] (by kernel_rfl) (by kernel_rfl)) ?_)
      refine toD 6 (by kernel_rfl) (p_a 0 [0] (by kernel_rfl) (fun b => by kernel_rfl) (fun b_23 => jkD (fun w h => h.pick [0] (by kernel_rfl) (by kernel_rfl)) ?_))
      obtain ⟨hg_24, h⟩ := gd h
      refine toD 11 (by kernel_rfl) (p_apn 0 3 (some b_23) 2 0 w0.fStrokes.length 0 1 8 w0_fStrokes_a encI64 ([] : List Int) w0.fStrokes [] (.int .i64 0) rfl rfl (by kernel_rfl) (by kernel_rfl) (by kernel_rfl) encI64_len encI64_cell (fun _ => ⟨Nat.le_refl _, by simp⟩) (fun e => nomatch e) (fun w hm => (hm.exRowW w0_fStrokes_h w0_fStrokes_ha)) hg_24 (by kernel_rfl) (by kernel_rfl) (fun o_25 cap_26 sp_27 hs_28 ho_29 => jkD (fun w h => h.pick [0] (by kernel_rfl) (by kernel_rfl)) ?_))
      refine jd_f [⟨12, 0, 0⟩] 1 (by kernel_rfl) (by kernel_rfl) (fun w h => h.pick [0] (by kernel_rfl) (by kernel_rfl)) (by kernel_rfl) (by kernel_rfl) ?_
      refine toD 13 (by kernel_rfl) (p_s 0 [1] (by kernel_rfl) (by kernel_rfl) (jkD (fun w h => h.pick [0] (by kernel_rfl) (by kernel_rfl)) ?_))
      refine jd_end (by kernel_rfl) ?_
      refine jx_then ?_
      refine jc_ret ?_
      obtain rfl := Option.some.inj h
      exact jx_ret [1] (.agg #[(.slice (o_18.map fun b => ⟨b, 0, none⟩) ((([] : List GWornPin) ++ w0.fPins).length) cap_19), (.slice (o_25.map fun b => ⟨b, 0, none⟩) ((([] : List Int) ++ w0.fStrokes).length) cap_26)]) [(b_1, b_1), (b_1, b_1)] rfl (by kernel_rfl) (by kernel_rfl) (fun w hm => ⟨o_18, cap_19, sp_20, ((([] : List GWornPin) ++ w0.fPins).length), rfl, hs_21, ho_22, o_25, cap_26, sp_27, ((([] : List Int) ++ w0.fStrokes).length), rfl, hs_28, ho_29, rfl, hm.pick [0, 2, 3] (by kernel_rfl) (by kernel_rfl)⟩)
    · refine p_a 0 [0] (by kernel_rfl) (fun b => by kernel_rfl) (fun b_30 => jkD (fun w h => h.pick [0] (by kernel_rfl) (by kernel_rfl)) ?_)
      obtain ⟨hg_31, h⟩ := gd h
      refine toD 5 (by kernel_rfl) (p_apn 0 2 (some b_16) 75 0 w0.fPins.length 0 3 16 w0_fPins_a encGWornPin ([] : List GWornPin) w0.fPins [] (.agg #[(.int .i8 0), (.int .i8 0), (.int .i64 0)]) rfl rfl (by kernel_rfl) (by kernel_rfl) (by kernel_rfl) encGWornPin_len encGWornPin_cell (fun _ => ⟨Nat.le_refl _, by simp⟩) (fun e => nomatch e) (fun w hm => (hm.exRowW w0_fPins_h w0_fPins_ha)) hg_31 (by kernel_rfl) (by kernel_rfl) (fun o_32 cap_33 sp_34 hs_35 ho_36 => jkD (fun w h => h.pick [0] (by kernel_rfl) (by kernel_rfl)) ?_))
      obtain ⟨hg_37, h⟩ := gd h
      refine toD 11 (by kernel_rfl) (p_apn 0 3 (some b_30) 2 0 w0.fStrokes.length 0 1 8 w0_fStrokes_a encI64 ([] : List Int) w0.fStrokes [] (.int .i64 0) rfl rfl (by kernel_rfl) (by kernel_rfl) (by kernel_rfl) encI64_len encI64_cell (fun _ => ⟨Nat.le_refl _, by simp⟩) (fun e => nomatch e) (fun w hm => (hm.exRowW w0_fStrokes_h w0_fStrokes_ha)) hg_37 (by kernel_rfl) (by kernel_rfl) (fun o_38 cap_39 sp_40 hs_41 ho_42 => jkD (fun w h => h.pick [0] (by kernel_rfl) (by kernel_rfl)) ?_))
      refine jd_f [⟨12, 0, 0⟩] 1 (by kernel_rfl) (by kernel_rfl) (fun w h => h.pick [0] (by kernel_rfl) (by kernel_rfl)) (by kernel_rfl) (by kernel_rfl) ?_
      refine toD 13 (by kernel_rfl) (p_s 0 [1] (by kernel_rfl) (by kernel_rfl) (jkD (fun w h => h.pick [0] (by kernel_rfl) (by kernel_rfl)) ?_))
      refine jd_end (by kernel_rfl) ?_
      refine jx_then ?_
      refine jc_ret ?_
      obtain rfl := Option.some.inj h
      exact jx_ret [1] (.agg #[(.slice (o_32.map fun b => ⟨b, 0, none⟩) ((([] : List GWornPin) ++ w0.fPins).length) cap_33), (.slice (o_38.map fun b => ⟨b, 0, none⟩) ((([] : List Int) ++ w0.fStrokes).length) cap_39)]) [(b_1, b_1), (b_1, b_1)] rfl (by kernel_rfl) (by kernel_rfl) (fun w hm => ⟨o_32, cap_33, sp_34, ((([] : List GWornPin) ++ w0.fPins).length), rfl, hs_35, ho_36, o_38, cap_39, sp_40, ((([] : List Int) ++ w0.fStrokes).length), rfl, hs_41, ho_42, rfl, hm.pick [0, 2, 3] (by kernel_rfl) (by kernel_rfl)⟩)
  · refine p_a 0 [0] (by kernel_rfl) (fun b => by kernel_rfl) (fun b_43 => jkD (fun w h => h.pick [0] (by kernel_rfl) (by kernel_rfl)) ?_)
    refine toD 0 (by kernel_rfl) (p_a 0 [0] (by kernel_rfl) (fun b => by kernel_rfl) (fun b_44 => jkD (fun w h => h.pick [0] (by kernel_rfl) (by kernel_rfl)) ?_))
    obtain ⟨hg_45, h⟩ := gd h
    refine toD 5 (by kernel_rfl) (p_apn 0 3 (some b_44) 75 0 w0.fPins.length 0 3 16 w0_fPins_a encGWornPin ([] : List GWornPin) w0.fPins [] (.agg #[(.int .i8 0), (.int .i8 0), (.int .i64 0)]) rfl rfl (by kernel_rfl) (by kernel_rfl) (by kernel_rfl) encGWornPin_len encGWornPin_cell (fun _ => ⟨Nat.le_refl _, by simp⟩) (fun e => nomatch e) (fun w hm => (hm.exRowW w0_fPins_h w0_fPins_ha)) hg_45 (by kernel_rfl) (by kernel_rfl) (fun o_46 cap_47 sp_48 hs_49 ho_50 => jkD (fun w h => h.pick [0] (by kernel_rfl) (by kernel_rfl)) ?_))
    obtain ⟨hg_51, h⟩ := gd h
    refine toD 11 (by kernel_rfl) (p_apn 0 2 (some b_43) 2 0 w0.fStrokes.length 0 1 8 w0_fStrokes_a encI64 ([] : List Int) w0.fStrokes [] (.int .i64 0) rfl rfl (by kernel_rfl) (by kernel_rfl) (by kernel_rfl) encI64_len encI64_cell (fun _ => ⟨Nat.le_refl _, by simp⟩) (fun e => nomatch e) (fun w hm => (hm.exRowW w0_fStrokes_h w0_fStrokes_ha)) hg_51 (by kernel_rfl) (by kernel_rfl) (fun o_52 cap_53 sp_54 hs_55 ho_56 => jkD (fun w h => h.pick [0] (by kernel_rfl) (by kernel_rfl)) ?_))
    refine jd_f [⟨12, 0, 0⟩] 1 (by kernel_rfl) (by kernel_rfl) (fun w h => h.pick [0] (by kernel_rfl) (by kernel_rfl)) (by kernel_rfl) (by kernel_rfl) ?_
    refine toD 13 (by kernel_rfl) (p_s 0 [1] (by kernel_rfl) (by kernel_rfl) (jkD (fun w h => h.pick [0] (by kernel_rfl) (by kernel_rfl)) ?_))
    refine jd_end (by kernel_rfl) ?_
    refine jx_then ?_
    refine jc_ret ?_
    obtain rfl := Option.some.inj h
    exact jx_ret [1] (.agg #[(.slice (o_46.map fun b => ⟨b, 0, none⟩) ((([] : List GWornPin) ++ w0.fPins).length) cap_47), (.slice (o_52.map fun b => ⟨b, 0, none⟩) ((([] : List Int) ++ w0.fStrokes).length) cap_53)]) [(b_1, b_1), (b_1, b_1)] rfl (by kernel_rfl) (by kernel_rfl) (fun w hm => ⟨o_46, cap_47, sp_48, ((([] : List GWornPin) ++ w0.fPins).length), rfl, hs_49, ho_50, o_52, cap_53, sp_54, ((([] : List Int) ++ w0.fStrokes).length), rfl, hs_55, ho_56, rfl, hm.pick [0, 3, 2] (by kernel_rfl) (by kernel_rfl)⟩)

/-! ### spec.l06Turned -/
noncomputable def spec_l06Turned.k_8 (xs_3 : List GWornPin) (xs_6 : List Int) (q_7 : Bool) : Option (GWear × Bool) := some ((⟨xs_3, xs_6⟩ : GWear), q_7)
noncomputable def spec_l06Turned.l_12 (turns1 : Int) (t_2 : (List Int)) : ((List Int) × Bool × Int) → Option (((List Int) × Bool × Int) ⊕ (((List Int) × Bool)))
  | (xs_9, q_10, i_11) => (if (decide (i_11 < (t_2.length : Int))) = true then (ix xs_9 i_11).bind fun x_14 => (ix t_2 i_11).bind fun x_15 => (ix xs_9 i_11).bind fun x_16 => (if q_10 = true then (ix (xs_9.set i_11.toNat (w64 (x_14 + (w64 (turns1 * x_15))))) i_11).bind fun x_17 => (spec_l06Turns x_17).bind fun t_18 => some (.inl ((xs_9.set i_11.toNat (w64 (x_14 + (w64 (turns1 * x_15))))), t_18, (w64 (i_11 + 1)))) else some (.inl ((xs_9.set i_11.toNat (w64 (x_14 + (w64 (turns1 * x_15))))), false, (w64 (i_11 + 1))))) else some (.inr (xs_9, q_10)))
noncomputable def spec_l06Turned.k_5 (turns1 : Int) (t_1 : GWear) (t_2 : (List Int)) (xs_3 : List GWornPin) (q_4 : Bool) : Option (GWear × Bool) := (loop (spec_l06Turned.l_12 turns1 t_2) (t_1.fStrokes, q_4, 0)).bind fun t_13 => spec_l06Turned.k_8 xs_3 t_13.1 t_13.2
noncomputable def spec_l06Turned.l_22 (turns1 : Int) (t_1 : GWear) : ((List GWornPin) × Bool × Int) → Option (((List GWornPin) × Bool × Int) ⊕ (((List GWornPin) × Bool)))
  | (xs_19, q_20, i_21) => (if (decide (i_21 < (t_1.fPins.length : Int))) = true then (ix xs_19 i_21).bind fun x_24 => (ix xs_19 i_21).bind fun x_25 => (if q_20 = true then (ix (xs_19.set i_21.toNat (⟨x_25.fStep, x_25.fTrack, (w64 (x_24.fTurns + turns1))⟩ : GWornPin)) i_21).bind fun x_26 => (spec_l06Turns x_26.fTurns).bind fun t_27 => some (.inl ((xs_19.set i_21.toNat (⟨x_25.fStep, x_25.fTrack, (w64 (x_24.fTurns + turns1))⟩ : GWornPin)), t_27, (w64 (i_21 + 1)))) else some (.inl ((xs_19.set i_21.toNat (⟨x_25.fStep, x_25.fTrack, (w64 (x_24.fTurns + turns1))⟩ : GWornPin)), false, (w64 (i_21 + 1))))) else some (.inr (xs_19, q_20)))
noncomputable def spec_l06Turned (w0 : GWear) (turns1 : Int) : Option (GWear × Bool) := (spec_l06Copy w0).bind fun t_1 => (spec_l06Each w0).bind fun t_2 => (loop (spec_l06Turned.l_22 turns1 t_1) (t_1.fPins, true, 0)).bind fun t_23 => spec_l06Turned.k_5 turns1 t_1 t_2 t_23.1 t_23.2
set_option maxRecDepth 100000 in
theorem spec_l06Turned.calls (w0 : GWear) (turns1 : Int) (w : World) (r : GWear × Bool) (w0_fPins_a : Option Addr) (w0_fPins_an : Nat) (w0_fPins_c : Nat) (w0_fPins_h : Rw w w0_fPins_a 3 encGWornPin w0.fPins) (w0_fPins_hn : w0.fPins.length = w0_fPins_an) (w0_fStrokes_a : Option Addr) (w0_fStrokes_an : Nat) (w0_fStrokes_c : Nat) (w0_fStrokes_h : Rw w w0_fStrokes_a 1 encI64 w0.fStrokes) (w0_fStrokes_hn : w0.fStrokes.length = w0_fStrokes_an) (w0_b : Nat) (hm0 : Mem w (bs [some w0_b]) [⟨some w0_b, 38, [(.slice w0_fPins_a w0_fPins_an w0_fPins_c), (.slice w0_fStrokes_a w0_fStrokes_an w0_fStrokes_c)]⟩] w) (w0_fPins_ha : w0.fPins ≠ [] → aB w0_fPins_a ∉ bs [some w0_b]) (w0_fStrokes_ha : w0.fStrokes ≠ [] → aB w0_fStrokes_a ∉ bs [some w0_b]) (h : spec_l06Turned w0 turns1 = some r) :
    Calls Tryz.prog 78 #[(.pointer (some ⟨w0_b, 0, none⟩)), (.int .i64 turns1)] w fun e w' => ∃ v, e = .returned v ∧ (∃ (o0 : Option Nat) (c0 : Nat) (s0 : List Value) (n0 : Nat), r.1.fPins.length = n0 ∧ (o0 ≠ none → n0 ≤ c0 ∧ s0.length = (c0 - n0) * 3) ∧ (o0 = none → r.1.fPins = [] ∧ c0 = 0) ∧ ∃ (o1 : Option Nat) (c1 : Nat) (s1 : List Value) (n1 : Nat), r.1.fStrokes.length = n1 ∧ (o1 ≠ none → n1 ≤ c1 ∧ s1.length = (c1 - n1) * 1) ∧ (o1 = none → r.1.fStrokes = [] ∧ c1 = 0) ∧ v = .tuple #[.agg #[.slice (o0.map fun b => ⟨b, 0, none⟩) n0 c0, .slice (o1.map fun b => ⟨b, 0, none⟩) n1 c1], (.bool r.2)] ∧ Mem w (bs [some w0_b]) [⟨some w0_b, 38, [(.slice w0_fPins_a w0_fPins_an w0_fPins_c), (.slice w0_fStrokes_a w0_fStrokes_an w0_fStrokes_c)]⟩, ⟨o0, 75, row encGWornPin r.1.fPins s0⟩, ⟨o1, 2, row encI64 r.1.fStrokes s1⟩] w') := by
  subst w0_fPins_hn w0_fStrokes_hn
  rw [spec_l06Turned] at h
  refine enter (args := [(.pointer (some ⟨w0_b, 0, none⟩)), (.int .i64 turns1)]) Tryz.func78 rfl Tryz.ntmps78 (by kernel_rfl) (L := [⟨some w0_b, 38, [(.slice w0_fPins_a w0.fPins.length w0_fPins_c), (.slice w0_fStrokes_a w0.fStrokes.length w0_fStrokes_c)]⟩]) (W := bs [some w0_b]) hm0 ?_
  refine jc_seq ?_
  refine jc_region ?_
  refine toO (by kernel_rfl) (p_a 0 [0] (by kernel_rfl) (fun b => by kernel_rfl) (fun b_1 => jkO ?_))
  refine jo_f [(0, 0)] (by kernel_rfl) ?_
  refine jo_end (by kernel_rfl) ?_
  refine jx_then ?_
  refine jc_seq ?_
  refine jc_region ?_
  refine jo_f [(0, 0)] (by kernel_rfl) ?_
  obtain ⟨t_1, ht_2, h⟩ := bd h
  refine toO (by kernel_rfl) (p_call 0 85 #[(.pointer (some ⟨w0_b, 0, none⟩))] (by kernel_rfl) (by kernel_rfl) (fun w hm => spec_l06Copy.calls w0 w _ w0_fPins_a w0.fPins.length w0_fPins_c (hm.exRowW w0_fPins_h w0_fPins_ha) rfl w0_fStrokes_a w0.fStrokes.length w0_fStrokes_c (hm.exRowW w0_fStrokes_h w0_fStrokes_ha) rfl w0_b (hm.pass (N := [⟨some w0_b, 38, [(.slice w0_fPins_a w0.fPins.length w0_fPins_c), (.slice w0_fStrokes_a w0.fStrokes.length w0_fStrokes_c)]⟩]) [0] (by kernel_rfl) (by kernel_rfl)) (hm.exApart (N := [⟨some w0_b, 38, [(.slice w0_fPins_a w0.fPins.length w0_fPins_c), (.slice w0_fStrokes_a w0.fStrokes.length w0_fStrokes_c)]⟩]) w0_fPins_h w0_fPins_ha [0] (by kernel_rfl)) (hm.exApart (N := [⟨some w0_b, 38, [(.slice w0_fPins_a w0.fPins.length w0_fPins_c), (.slice w0_fStrokes_a w0.fStrokes.length w0_fStrokes_c)]⟩]) w0_fStrokes_h w0_fStrokes_ha [0] (by kernel_rfl)) ht_2) ?_)
  rintro w v w' hm ⟨o_3, cap_4, sp_5, _, rfl, hs_6, ho_7, o_8, cap_9, sp_10, _, rfl, hs_11, ho_12, rfl, hm'⟩
  refine ⟨_, hm.appW (ps := [(0, ⟨some w0_b, 38, [(.slice w0_fPins_a w0.fPins.length w0_fPins_c), (.slice w0_fStrokes_a w0.fStrokes.length w0_fStrokes_c)]⟩)]) (N := [⟨o_3, 75, row encGWornPin t_1.fPins sp_5⟩, ⟨o_8, 2, row encI64 t_1.fStrokes sp_10⟩]) hm' (by kernel_rfl) (by kernel_rfl), jkO ?_⟩
  clear hm hm'
  refine toO (by kernel_rfl) (p_a 0 [0] (by kernel_rfl) (fun b => by kernel_rfl) (fun b_13 => jkO ?_))
  refine toO (by kernel_rfl) (p_s 0 [4] (by kernel_rfl) (by kernel_rfl) (jkO ?_))
  refine jo_end (by kernel_rfl) ?_
  refine jx_then ?_
  refine jc_seq ?_
  refine jc_region ?_
  refine jo_f [(0, 0)] (by kernel_rfl) ?_
  obtain ⟨t_2, ht_14, h⟩ := bd h
  refine toO (by kernel_rfl) (p_call 0 105 #[(.pointer (some ⟨w0_b, 0, none⟩))] (by kernel_rfl) (by kernel_rfl) (fun w hm => spec_l06Each.calls w0 w _ w0_fPins_a w0.fPins.length w0_fPins_c (hm.exRowW w0_fPins_h w0_fPins_ha) rfl w0_fStrokes_a w0.fStrokes.length w0_fStrokes_c (hm.exRowW w0_fStrokes_h w0_fStrokes_ha) rfl w0_b (hm.pass (N := [⟨some w0_b, 38, [(.slice w0_fPins_a w0.fPins.length w0_fPins_c), (.slice w0_fStrokes_a w0.fStrokes.length w0_fStrokes_c)]⟩]) [0] (by kernel_rfl) (by kernel_rfl)) (hm.exApart (N := [⟨some w0_b, 38, [(.slice w0_fPins_a w0.fPins.length w0_fPins_c), (.slice w0_fStrokes_a w0.fStrokes.length w0_fStrokes_c)]⟩]) w0_fPins_h w0_fPins_ha [0] (by kernel_rfl)) (hm.exApart (N := [⟨some w0_b, 38, [(.slice w0_fPins_a w0.fPins.length w0_fPins_c), (.slice w0_fStrokes_a w0.fStrokes.length w0_fStrokes_c)]⟩]) w0_fStrokes_h w0_fStrokes_ha [0] (by kernel_rfl)) ht_14) ?_)
  rintro w v w' hm ⟨o_15, cap_16, sp_17, _, rfl, hs_18, ho_19, rfl, hm'⟩
  refine ⟨_, hm.appW (ps := [(0, ⟨some w0_b, 38, [(.slice w0_fPins_a w0.fPins.length w0_fPins_c), (.slice w0_fStrokes_a w0.fStrokes.length w0_fStrokes_c)]⟩)]) (N := [⟨o_15, 2, row encI64 t_2 sp_17⟩]) hm' (by kernel_rfl) (by kernel_rfl), jkO ?_⟩
  clear hm hm'
  refine jo_f [(0, 0)] (by kernel_rfl) ?_
  refine jo_end (by kernel_rfl) ?_
  refine jx_then ?_
  refine jc_seq ?_
  refine jc_region ?_
  refine jo_f [(0, 0)] (by kernel_rfl) ?_
  refine jo_end (by kernel_rfl) ?_
  refine jx_then ?_
  refine jc_seq ?_
  refine jc_seq ?_
  refine jc_region ?_
  refine jo_f [(0, 0)] (by kernel_rfl) ?_
  refine jo_end (by kernel_rfl) ?_
  refine jx_then ?_
  refine jc_meet (fun (j : (List GWornPin) × Bool) => match j with | ⟨xs_3, q_4⟩ => spec_l06Turned.k_5 turns1 t_1 t_2 xs_3 q_4 = some r ∧ (xs_3.length = t_1.fPins.length) ∧ ((o_3 = none → xs_3 = [] ∧ cap_4 = 0))) (fun (j : (List GWornPin) × Bool) => match j with | ⟨xs_3, q_4⟩ => [(1, [], (.int .i64 turns1)), (4, [], (.pointer (some ⟨b_1, 0, none⟩))), (5, [], (.bool false)), (6, [], (.pointer (some ⟨b_13, 0, none⟩))), (7, [], (.slice (o_15.map fun b => ⟨b, 0, none⟩) t_2.length cap_16)), (8, [], (.bool q_4))]) (fun (j : (List GWornPin) × Bool) => match j with | ⟨xs_3, q_4⟩ => [⟨some w0_b, 38, [(.slice w0_fPins_a w0.fPins.length w0_fPins_c), (.slice w0_fStrokes_a w0.fStrokes.length w0_fStrokes_c)]⟩, ⟨some b_1, 38, [(.slice none 0 0), (.slice none 0 0)]⟩, ⟨o_3, 75, row encGWornPin xs_3 sp_5⟩, ⟨o_8, 2, row encI64 t_1.fStrokes sp_10⟩, ⟨some b_13, 38, [(.slice (o_3.map fun b => ⟨b, 0, none⟩) t_1.fPins.length cap_4), (.slice (o_8.map fun b => ⟨b, 0, none⟩) t_1.fStrokes.length cap_9)]⟩, ⟨o_15, 2, row encI64 t_2 sp_17⟩]) ?_ ?_
  · refine jc_block ?_
    obtain ⟨t_23, ht_303, hr_293⟩ := bd h
    refine jc_loop (fun (s : (List GWornPin) × Bool × Int) (x : Unit) => match s, x with | ⟨xs_19, q_20, i_21⟩, _ => (xs_19.length = t_1.fPins.length) ∧ ((o_3 = none → xs_19 = [] ∧ cap_4 = 0))) (fun (s : (List GWornPin) × Bool × Int) (x : Unit) => match s, x with | ⟨xs_19, q_20, i_21⟩, _ => [(1, [], (.int .i64 turns1)), (4, [], (.pointer (some ⟨b_1, 0, none⟩))), (5, [], (.bool false)), (6, [], (.pointer (some ⟨b_13, 0, none⟩))), (7, [], (.slice (o_15.map fun b => ⟨b, 0, none⟩) t_2.length cap_16)), (8, [], (.bool q_20)), (9, [], (.int .i64 i_21))]) (fun (s : (List GWornPin) × Bool × Int) (x : Unit) => match s, x with | ⟨xs_19, q_20, i_21⟩, _ => [⟨some w0_b, 38, [(.slice w0_fPins_a w0.fPins.length w0_fPins_c), (.slice w0_fStrokes_a w0.fStrokes.length w0_fStrokes_c)]⟩, ⟨some b_1, 38, [(.slice none 0 0), (.slice none 0 0)]⟩, ⟨o_3, 75, row encGWornPin xs_19 sp_5⟩, ⟨o_8, 2, row encI64 t_1.fStrokes sp_10⟩, ⟨some b_13, 38, [(.slice (o_3.map fun b => ⟨b, 0, none⟩) t_1.fPins.length cap_4), (.slice (o_8.map fun b => ⟨b, 0, none⟩) t_1.fStrokes.length cap_9)]⟩, ⟨o_15, 2, row encI64 t_2 sp_17⟩]) ht_303 () ⟨rfl, ho_7⟩ (by kernel_rfl) [0, 1, 2, 3, 4, 5] (by kernel_rfl) (by kernel_rfl) ?_
    rintro ⟨xs_19, q_20, i_21⟩ _ y_294 ⟨hn_292, ho_291⟩ h
    rw [spec_l06Turned.l_22] at h
    refine jc_seq ?_
    refine jc_seq ?_
    refine jc_region ?_
    refine jo_f [(0, 0), (0, 0), (4, 0), (0, 0), (0, 0)] (by kernel_rfl) ?_
    refine jo_end (by kernel_rfl) ?_
    refine jx_then ?_
    refine jc_cond (decide (i_21 < (t_1.fPins.length : Int))) (by kernel_rfl) (fun hc_296 => ?_) (fun hc_296 => ?_)
    · replace h := ifT hc_296 h
      refine jc_skip ?_
      refine jx_then ?_
      refine jc_seq ?_
      refine jc_block ?_
      refine jc_seq ?_
      refine jc_region ?_
      refine jo_f [(0, 0), (4, 0), (0, 0)] (by kernel_rfl) ?_
      obtain ⟨x_24, hx_297, h⟩ := bd h
      refine toO (by kernel_rfl) (p_idx 0 (o_3.map fun b => ⟨b, 0, none⟩) t_1.fPins.length i_21 3 (by kernel_rfl) (by kernel_rfl) (ix_some hx_297).1 (ltn hx_297 hn_292) (spo ho_291 hx_297) (jkO ?_))
      refine jo_f [(0, 0)] (by kernel_rfl) ?_
      refine toO (by kernel_rfl) (p_ld 0 (aB (o_3.map fun b => ⟨b, 0, none⟩)) (aO (o_3.map fun b => ⟨b, 0, none⟩) + i_21.toNat * 3 + 2) false (((encGWornPin x_24).drop 2).take 1) (by kernel_rfl) (by kernel_rfl) (by kernel_rfl) (fun w hm => (((hm.ownRow (hh := 2) (o := o_3) (T := 75) (enc := encGWornPin) (xs := xs_19) (sp := sp_5) (by kernel_rfl) (fun e => (ho_291 e).1) encGWornPin_len).at hx_297).sub 2 1)) (jkO ?_))
      refine jo_f [(0, 0), (0, 0)] (by kernel_rfl) ?_
      obtain ⟨x_25, hx_298, h⟩ := bd h
      refine toO (by kernel_rfl) (p_idx 0 (o_3.map fun b => ⟨b, 0, none⟩) t_1.fPins.length i_21 3 (by kernel_rfl) (by kernel_rfl) (ix_some hx_298).1 (ltn hx_298 hn_292) (spo ho_291 hx_298) (jkO ?_))
      refine jo_f [(0, 0)] (by kernel_rfl) ?_
      refine toO (by kernel_rfl) (p_strO 0 2 o_3 75 encGWornPin xs_19 sp_5 i_21 (⟨x_25.fStep, x_25.fTrack, (w64 (x_24.fTurns + turns1))⟩ : GWornPin) 3 2 [(.int .i64 (w64 (x_24.fTurns + turns1)))] (by kernel_rfl) (by kernel_rfl) (by kernel_rfl) (fun e => (ho_291 e).1) encGWornPin_len hx_298 (by kernel_rfl) (by kernel_rfl) (jkO ?_))
      refine jo_end (by kernel_rfl) ?_
      refine jx_then ?_
      refine jc_region ?_
      refine jo_f [(0, 0), (0, 0), (0, 1), (4, 1), (0, 1)] (by kernel_rfl) ?_
      refine jo_split 33 q_20 (by kernel_rfl) (fun hc_299 => ?_) (fun hc_299 => ?_)
      · replace h := ifT hc_299 h
        obtain ⟨x_26, hx_300, h⟩ := bd h
        refine toO (by kernel_rfl) (p_idx 2 (o_3.map fun b => ⟨b, 0, none⟩) t_1.fPins.length i_21 3 (by kernel_rfl) (by kernel_rfl) (ix_some hx_300).1 (ltn hx_300 (List.length_set.trans hn_292)) (spo (set_ho ho_291) hx_300) (jkO ?_))
        refine jo_f [(0, 2)] (by kernel_rfl) ?_
        refine toO (by kernel_rfl) (p_ld 2 (aB (o_3.map fun b => ⟨b, 0, none⟩)) (aO (o_3.map fun b => ⟨b, 0, none⟩) + i_21.toNat * 3 + 2) false (((encGWornPin x_26).drop 2).take 1) (by kernel_rfl) (by kernel_rfl) (by kernel_rfl) (fun w hm => (((hm.ownRow (hh := 2) (o := o_3) (T := 75) (enc := encGWornPin) (xs := (xs_19.set i_21.toNat (⟨x_25.fStep, x_25.fTrack, (w64 (x_24.fTurns + turns1))⟩ : GWornPin))) (sp := sp_5) (by kernel_rfl) (fun e => ((set_ho ho_291) e).1) encGWornPin_len).at hx_300).sub 2 1)) (jkO ?_))
        obtain ⟨t_27, ht_301, h⟩ := bd h
        refine toO (by kernel_rfl) (p_call 2 71 #[(.int .i64 x_26.fTurns)] (by kernel_rfl) (by kernel_rfl) (fun w hm => spec_l06Turns.calls x_26.fTurns w _ ht_301) ?_)
        rintro w v w' hm ⟨rfl, hm'⟩
        refine ⟨_, hm.app hm', jkO ?_⟩
        clear hm hm'
        refine jo_f [(0, 4), (0, 0)] (by kernel_rfl) ?_
        refine jo_end (by kernel_rfl) ?_
        refine jx_inn ?_
        refine jx_then ?_
        refine jc_region ?_
        refine jo_f [(0, 0), (0, 0), (0, 0)] (by kernel_rfl) ?_
        refine jo_end (by kernel_rfl) ?_
        exact jx_back ((xs_19.set i_21.toNat (⟨x_25.fStep, x_25.fTrack, (w64 (x_24.fTurns + turns1))⟩ : GWornPin)), t_27, (w64 (i_21 + 1))) () (Option.some.inj h).symm ⟨(List.length_set.trans hn_292), (set_ho ho_291)⟩ [0, 1, 2, 3, 4, 5] (by kernel_rfl) (by kernel_rfl) (by kernel_rfl)
      · replace h := ifF hc_299 h
        refine jo_f [(0, 3), (0, 3), (0, 3), (0, 3), (0, 5), (0, 0)] (by kernel_rfl) ?_
        refine jo_end (by kernel_rfl) ?_
        refine jx_inn ?_
        refine jx_then ?_
        refine jc_region ?_
        refine jo_f [(0, 0), (0, 0), (0, 0)] (by kernel_rfl) ?_
        refine jo_end (by kernel_rfl) ?_
        exact jx_back ((xs_19.set i_21.toNat (⟨x_25.fStep, x_25.fTrack, (w64 (x_24.fTurns + turns1))⟩ : GWornPin)), false, (w64 (i_21 + 1))) () (Option.some.inj h).symm ⟨(List.length_set.trans hn_292), (set_ho ho_291)⟩ [0, 1, 2, 3, 4, 5] (by kernel_rfl) (by kernel_rfl) (by kernel_rfl)
    · replace h := ifF hc_296 h
      refine jc_exit ?_
      refine jx_thenx ?_
      refine jx_leave (xs_19, q_20) (Option.some.inj h).symm (fun e_302 => ?_)
      subst e_302
      refine jx_ine ?_
      exact jx_meet ⟨xs_19, q_20⟩ ⟨hr_293, hn_292, ho_291⟩ (by kernel_rfl) [0, 1, 2, 3, 4, 5] (by kernel_rfl) (by kernel_rfl)
  · rintro ⟨xs_3, q_4⟩ ⟨h, hn_107, ho_106⟩
    replace h : spec_l06Turned.k_5 turns1 t_1 t_2 xs_3 q_4 = some r := h
    rw [spec_l06Turned.k_5] at h
    refine jx_then ?_
    refine jc_seq ?_
    refine jc_seq ?_
    refine jc_region ?_
    refine jo_f [(0, 0)] (by kernel_rfl) ?_
    refine jo_end (by kernel_rfl) ?_
    refine jx_then ?_
    refine jc_meet (fun (j : (List Int) × Bool) => match j with | ⟨xs_6, q_7⟩ => spec_l06Turned.k_8 xs_3 xs_6 q_7 = some r ∧ (xs_6.length = t_1.fStrokes.length) ∧ ((o_8 = none → xs_6 = [] ∧ cap_9 = 0))) (fun (j : (List Int) × Bool) => match j with | ⟨xs_6, q_7⟩ => [(4, [], (.pointer (some ⟨b_1, 0, none⟩))), (5, [], (.bool false)), (6, [], (.pointer (some ⟨b_13, 0, none⟩))), (8, [], (.bool q_7))]) (fun (j : (List Int) × Bool) => match j with | ⟨xs_6, q_7⟩ => [⟨some w0_b, 38, [(.slice w0_fPins_a w0.fPins.length w0_fPins_c), (.slice w0_fStrokes_a w0.fStrokes.length w0_fStrokes_c)]⟩, ⟨some b_1, 38, [(.slice none 0 0), (.slice none 0 0)]⟩, ⟨o_3, 75, row encGWornPin xs_3 sp_5⟩, ⟨o_8, 2, row encI64 xs_6 sp_10⟩, ⟨some b_13, 38, [(.slice (o_3.map fun b => ⟨b, 0, none⟩) t_1.fPins.length cap_4), (.slice (o_8.map fun b => ⟨b, 0, none⟩) t_1.fStrokes.length cap_9)]⟩, ⟨o_15, 2, row encI64 t_2 sp_17⟩]) ?_ ?_
    · refine jc_block ?_
      obtain ⟨t_13, ht_275, hr_261⟩ := bd h
      refine jc_loop (fun (s : (List Int) × Bool × Int) (x : Unit) => match s, x with | ⟨xs_9, q_10, i_11⟩, _ => (xs_9.length = t_1.fStrokes.length) ∧ ((o_8 = none → xs_9 = [] ∧ cap_9 = 0))) (fun (s : (List Int) × Bool × Int) (x : Unit) => match s, x with | ⟨xs_9, q_10, i_11⟩, _ => [(1, [], (.int .i64 turns1)), (4, [], (.pointer (some ⟨b_1, 0, none⟩))), (5, [], (.bool false)), (6, [], (.pointer (some ⟨b_13, 0, none⟩))), (7, [], (.slice (o_15.map fun b => ⟨b, 0, none⟩) t_2.length cap_16)), (8, [], (.bool q_10)), (10, [], (.int .i64 i_11))]) (fun (s : (List Int) × Bool × Int) (x : Unit) => match s, x with | ⟨xs_9, q_10, i_11⟩, _ => [⟨some w0_b, 38, [(.slice w0_fPins_a w0.fPins.length w0_fPins_c), (.slice w0_fStrokes_a w0.fStrokes.length w0_fStrokes_c)]⟩, ⟨some b_1, 38, [(.slice none 0 0), (.slice none 0 0)]⟩, ⟨o_3, 75, row encGWornPin xs_3 sp_5⟩, ⟨o_8, 2, row encI64 xs_9 sp_10⟩, ⟨some b_13, 38, [(.slice (o_3.map fun b => ⟨b, 0, none⟩) t_1.fPins.length cap_4), (.slice (o_8.map fun b => ⟨b, 0, none⟩) t_1.fStrokes.length cap_9)]⟩, ⟨o_15, 2, row encI64 t_2 sp_17⟩]) ht_275 () ⟨rfl, ho_12⟩ (by kernel_rfl) [0, 1, 2, 3, 4, 5] (by kernel_rfl) (by kernel_rfl) ?_
      rintro ⟨xs_9, q_10, i_11⟩ _ y_262 ⟨hn_260, ho_259⟩ h
      rw [spec_l06Turned.l_12] at h
      refine jc_seq ?_
      refine jc_seq ?_
      refine jc_region ?_
      refine jo_f [(0, 0), (0, 0), (0, 0), (0, 0)] (by kernel_rfl) ?_
      refine jo_end (by kernel_rfl) ?_
      refine jx_then ?_
      refine jc_cond (decide (i_11 < (t_2.length : Int))) (by kernel_rfl) (fun hc_264 => ?_) (fun hc_264 => ?_)
      · replace h := ifT hc_264 h
        refine jc_skip ?_
        refine jx_then ?_
        refine jc_seq ?_
        refine jc_block ?_
        refine jc_seq ?_
        refine jc_draw [⟨some w0_b, 38, [(.slice w0_fPins_a w0.fPins.length w0_fPins_c), (.slice w0_fStrokes_a w0.fStrokes.length w0_fStrokes_c)]⟩, ⟨some b_1, 38, [(.slice none 0 0), (.slice none 0 0)]⟩, ⟨o_3, 75, row encGWornPin xs_3 sp_5⟩, ⟨some b_13, 38, [(.slice (o_3.map fun b => ⟨b, 0, none⟩) t_1.fPins.length cap_4), (.slice (o_8.map fun b => ⟨b, 0, none⟩) t_1.fStrokes.length cap_9)]⟩, ⟨o_15, 2, row encI64 t_2 sp_17⟩] 14 (by kernel_rfl) (by kernel_rfl) ?_
        refine jd_f [⟨0, 0, 0⟩, ⟨1, 3, 0⟩, ⟨2, 0, 0⟩, ⟨5, 0, 0⟩, ⟨6, 0, 0⟩, ⟨7, 0, 0⟩] 8 (by kernel_rfl) (by kernel_rfl) (fun w h => h.pick [0, 1, 2, 4, 5] (by kernel_rfl) (by kernel_rfl)) (by kernel_rfl) (by kernel_rfl) ?_
        obtain ⟨x_14, hx_268, h⟩ := bd h
        refine jd_v 3 0 (by kernel_rfl) (fun w h => h.pick [0, 1, 2, 4, 5] (by kernel_rfl) (by kernel_rfl)) (by kernel_rfl) (by kernel_rfl) _ (fun w hm => idx_run (a := (o_8.map fun b => ⟨b, 0, none⟩)) (len := t_1.fStrokes.length) (s := 1) (j := i_11) (by kernel_rfl) (ix_some hx_268).1 (ltn hx_268 hn_260) (spo ho_259 hx_268)) ?_
        obtain ⟨x_15, hx_269, h⟩ := bd h
        refine jd_v 8 0 (by kernel_rfl) (fun w h => h.pick [0, 1, 2, 4, 5] (by kernel_rfl) (by kernel_rfl)) (by kernel_rfl) (by kernel_rfl) _ (fun w hm => idx_run (a := (o_15.map fun b => ⟨b, 0, none⟩)) (len := t_2.length) (s := 1) (j := i_11) (by kernel_rfl) (ix_some hx_269).1 (ltn hx_269 rfl) (spo ho_19 hx_269)) ?_
        refine jd_v 9 0 (by kernel_rfl) (fun w h => h.pick [0, 1, 2, 4, 5] (by kernel_rfl) (by kernel_rfl)) (by kernel_rfl) (by kernel_rfl) _ (fun w hm => ld_run (b := aB (o_15.map fun b => ⟨b, 0, none⟩)) (off := (aO (o_15.map fun b => ⟨b, 0, none⟩) + i_11.toNat * 1)) (s := 1) (agg := false) (vs := (encI64 x_15)) (by kernel_rfl) (by kernel_rfl) (.inr rfl) ((hm.ownRow (hh := 4) (o := o_15) (T := 2) (enc := encI64) (xs := t_2) (sp := sp_17) (by kernel_rfl) (fun e => (ho_19 e).1) encI64_len).at hx_269)) ?_
        refine jd_f [⟨10, 0, 0⟩] 4 (by kernel_rfl) (by kernel_rfl) (fun w h => h.pick [0, 1, 2, 4, 5] (by kernel_rfl) (by kernel_rfl)) (by kernel_rfl) (by kernel_rfl) ?_
        refine toD 4 (by kernel_rfl) (p_ld 0 (aB (o_8.map fun b => ⟨b, 0, none⟩)) (aO (o_8.map fun b => ⟨b, 0, none⟩) + i_11.toNat * 1) false (encI64 x_14) (by kernel_rfl) (by kernel_rfl) (by kernel_rfl) (fun w hm => ((hm.ownRow (hh := 3) (o := o_8) (T := 2) (enc := encI64) (xs := xs_9) (sp := sp_10) (by kernel_rfl) (fun e => (ho_259 e).1) encI64_len).at hx_268)) (jkD (fun w h => h.pick [0, 1, 2, 4, 5] (by kernel_rfl) (by kernel_rfl)) ?_))
        refine jd_f [⟨11, 0, 0⟩] 2 (by kernel_rfl) (by kernel_rfl) (fun w h => h.pick [0, 1, 2, 4, 5] (by kernel_rfl) (by kernel_rfl)) (by kernel_rfl) (by kernel_rfl) ?_
        obtain ⟨x_16, hx_270, h⟩ := bd h
        refine jd_v 12 0 (by kernel_rfl) (fun w h => h.pick [0, 1, 2, 4, 5] (by kernel_rfl) (by kernel_rfl)) (by kernel_rfl) (by kernel_rfl) _ (fun w hm => idx_run (a := (o_8.map fun b => ⟨b, 0, none⟩)) (len := t_1.fStrokes.length) (s := 1) (j := i_11) (by kernel_rfl) (ix_some hx_270).1 (ltn hx_270 hn_260) (spo ho_259 hx_270)) ?_
        refine toD 13 (by kernel_rfl) (p_strO 0 3 o_8 2 encI64 xs_9 sp_10 i_11 (w64 (x_14 + (w64 (turns1 * x_15)))) 1 0 [(.int .i64 (w64 (x_14 + (w64 (turns1 * x_15)))))] (by kernel_rfl) (by kernel_rfl) (by kernel_rfl) (fun e => (ho_259 e).1) encI64_len hx_270 (by kernel_rfl) (by kernel_rfl) (jkD (fun w h => h.pick [0, 1, 2, 4, 5] (by kernel_rfl) (by kernel_rfl)) ?_))
        refine jd_end (by kernel_rfl) ?_
        refine jx_then ?_
        refine jc_region ?_
        refine jo_f [(0, 0), (0, 0), (0, 1), (4, 1), (0, 1)] (by kernel_rfl) ?_
        refine jo_split 62 q_10 (by kernel_rfl) (fun hc_271 => ?_) (fun hc_271 => ?_)
        · replace h := ifT hc_271 h
          obtain ⟨x_17, hx_272, h⟩ := bd h
          refine toO (by kernel_rfl) (p_idx 2 (o_8.map fun b => ⟨b, 0, none⟩) t_1.fStrokes.length i_11 1 (by kernel_rfl) (by kernel_rfl) (ix_some hx_272).1 (ltn hx_272 (List.length_set.trans hn_260)) (spo (set_ho ho_259) hx_272) (jkO ?_))
          refine toO (by kernel_rfl) (p_ld 2 (aB (o_8.map fun b => ⟨b, 0, none⟩)) (aO (o_8.map fun b => ⟨b, 0, none⟩) + i_11.toNat * 1) false (encI64 x_17) (by kernel_rfl) (by kernel_rfl) (by kernel_rfl) (fun w hm => ((hm.ownRow (hh := 3) (o := o_8) (T := 2) (enc := encI64) (xs := (xs_9.set i_11.toNat (w64 (x_14 + (w64 (turns1 * x_15)))))) (sp := sp_10) (by kernel_rfl) (fun e => ((set_ho ho_259) e).1) encI64_len).at hx_272)) (jkO ?_))
          obtain ⟨t_18, ht_273, h⟩ := bd h
          refine toO (by kernel_rfl) (p_call 2 71 #[(.int .i64 x_17)] (by kernel_rfl) (by kernel_rfl) (fun w hm => spec_l06Turns.calls x_17 w _ ht_273) ?_)
          rintro w v w' hm ⟨rfl, hm'⟩
          refine ⟨_, hm.app hm', jkO ?_⟩
          clear hm hm'
          refine jo_f [(0, 4), (0, 0)] (by kernel_rfl) ?_
          refine jo_end (by kernel_rfl) ?_
          refine jx_inn ?_
          refine jx_then ?_
          refine jc_region ?_
          refine jo_f [(0, 0), (0, 0), (0, 0)] (by kernel_rfl) ?_
          refine jo_end (by kernel_rfl) ?_
          exact jx_back ((xs_9.set i_11.toNat (w64 (x_14 + (w64 (turns1 * x_15))))), t_18, (w64 (i_11 + 1))) () (Option.some.inj h).symm ⟨(List.length_set.trans hn_260), (set_ho ho_259)⟩ [0, 1, 2, 3, 4, 5] (by kernel_rfl) (by kernel_rfl) (by kernel_rfl)
        · replace h := ifF hc_271 h
          refine jo_f [(0, 3), (0, 3), (0, 3), (0, 5), (0, 0)] (by kernel_rfl) ?_
          refine jo_end (by kernel_rfl) ?_
          refine jx_inn ?_
          refine jx_then ?_
          refine jc_region ?_
          refine jo_f [(0, 0), (0, 0), (0, 0)] (by kernel_rfl) ?_
          refine jo_end (by kernel_rfl) ?_
          exact jx_back ((xs_9.set i_11.toNat (w64 (x_14 + (w64 (turns1 * x_15))))), false, (w64 (i_11 + 1))) () (Option.some.inj h).symm ⟨(List.length_set.trans hn_260), (set_ho ho_259)⟩ [0, 1, 2, 3, 4, 5] (by kernel_rfl) (by kernel_rfl) (by kernel_rfl)
      · replace h := ifF hc_264 h
        refine jc_exit ?_
        refine jx_thenx ?_
        refine jx_leave (xs_9, q_10) (Option.some.inj h).symm (fun e_274 => ?_)
        subst e_274
        refine jx_ine ?_
        exact jx_meet ⟨xs_9, q_10⟩ ⟨hr_261, hn_260, ho_259⟩ (by kernel_rfl) [0, 1, 2, 3, 4, 5] (by kernel_rfl) (by kernel_rfl)
    · rintro ⟨xs_6, q_7⟩ ⟨h, hn_234, ho_233⟩
      replace h : spec_l06Turned.k_8 xs_3 xs_6 q_7 = some r := h
      rw [spec_l06Turned.k_8] at h
      refine jx_then ?_
      refine jc_seq ?_
      refine jc_region ?_
      refine jo_f [(4, 0), (0, 0)] (by kernel_rfl) ?_
      refine toO (by kernel_rfl) (p_s 0 [1] (by kernel_rfl) (by kernel_rfl) (jkO ?_))
      refine jo_f [(0, 0)] (by kernel_rfl) ?_
      refine jo_end (by kernel_rfl) ?_
      refine jx_then ?_
      refine jc_ret ?_
      obtain rfl := Option.some.inj h
      exact jx_ret [1] (.tuple #[(.agg #[(.slice (o_3.map fun b => ⟨b, 0, none⟩) t_1.fPins.length cap_4), (.slice (o_8.map fun b => ⟨b, 0, none⟩) t_1.fStrokes.length cap_9)]), (.bool q_7)]) [(b_1, b_1), (b_1, b_1)] rfl (by kernel_rfl) (by kernel_rfl) (fun w hm => ⟨o_3, cap_4, sp_5, t_1.fPins.length, hn_107, hs_6, ho_106, o_8, cap_9, sp_10, t_1.fStrokes.length, hn_234, hs_11, ho_233, rfl, hm.pick [0, 2, 3] (by kernel_rfl) (by kernel_rfl)⟩)

/-! ### spec.TurnWear -/
noncomputable def spec_TurnWear (f0 : GFrame) (w1 : GWear) (turns2 : Int) : Option (GWear × Int) := (spec_l06Ok f0 w1).bind fun t_1 => (if (!t_1) = true then some ((⟨[], []⟩ : GWear), 1) else (spec_l06Turns turns2).bind fun t_2 => (if (!t_2) = true then some ((⟨[], []⟩ : GWear), 2) else (spec_l06Turned w1 turns2).bind fun t_3 => (if (!t_3.2) = true then some ((⟨[], []⟩ : GWear), 3) else some (t_3.1, 0))))
set_option maxRecDepth 100000 in
theorem spec_TurnWear.calls (f0 : GFrame) (w1 : GWear) (turns2 : Int) (w : World) (r : GWear × Int) (f0_fHammers_a : Option Addr) (f0_fHammers_an : Nat) (f0_fHammers_c : Nat) (f0_fHammers_h : Rw w f0_fHammers_a 2 encGHammer f0.fHammers) (f0_fHammers_hn : f0.fHammers.length = f0_fHammers_an) (w1_fPins_a : Option Addr) (w1_fPins_an : Nat) (w1_fPins_c : Nat) (w1_fPins_h : Rw w w1_fPins_a 3 encGWornPin w1.fPins) (w1_fPins_hn : w1.fPins.length = w1_fPins_an) (w1_fStrokes_a : Option Addr) (w1_fStrokes_an : Nat) (w1_fStrokes_c : Nat) (w1_fStrokes_h : Rw w w1_fStrokes_a 1 encI64 w1.fStrokes) (w1_fStrokes_hn : w1.fStrokes.length = w1_fStrokes_an) (h : spec_TurnWear f0 w1 turns2 = some r) :
    Calls Tryz.prog 33 #[(.agg #[(.int .i16 f0.fSteps), (.slice f0_fHammers_a f0_fHammers_an f0_fHammers_c)]), (.agg #[(.slice w1_fPins_a w1_fPins_an w1_fPins_c), (.slice w1_fStrokes_a w1_fStrokes_an w1_fStrokes_c)]), (.int .i64 turns2)] w fun e w' => ∃ v, e = .returned v ∧ (∃ (o0 : Option Nat) (c0 : Nat) (s0 : List Value) (n0 : Nat), r.1.fPins.length = n0 ∧ (o0 ≠ none → n0 ≤ c0 ∧ s0.length = (c0 - n0) * 3) ∧ (o0 = none → r.1.fPins = [] ∧ c0 = 0) ∧ ∃ (o1 : Option Nat) (c1 : Nat) (s1 : List Value) (n1 : Nat), r.1.fStrokes.length = n1 ∧ (o1 ≠ none → n1 ≤ c1 ∧ s1.length = (c1 - n1) * 1) ∧ (o1 = none → r.1.fStrokes = [] ∧ c1 = 0) ∧ v = .tuple #[.agg #[.slice (o0.map fun b => ⟨b, 0, none⟩) n0 c0, .slice (o1.map fun b => ⟨b, 0, none⟩) n1 c1], (.int .i64 r.2)] ∧ Mem w [] [⟨o0, 75, row encGWornPin r.1.fPins s0⟩, ⟨o1, 2, row encI64 r.1.fStrokes s1⟩] w') := by
  subst f0_fHammers_hn w1_fPins_hn w1_fStrokes_hn
  rw [spec_TurnWear] at h
  refine enter (args := [(.agg #[(.int .i16 f0.fSteps), (.slice f0_fHammers_a f0.fHammers.length f0_fHammers_c)]), (.agg #[(.slice w1_fPins_a w1.fPins.length w1_fPins_c), (.slice w1_fStrokes_a w1.fStrokes.length w1_fStrokes_c)]), (.int .i64 turns2)]) Tryz.func33 rfl Tryz.ntmps33 (by kernel_rfl) (L := []) (W := []) (Mem.start w) ?_
  refine jc_seq ?_
  refine jc_region ?_
  refine toO (by kernel_rfl) (p_a 0 [0] (by kernel_rfl) (fun b => by kernel_rfl) (fun b_1 => jkO ?_))
  refine toO (by kernel_rfl) (p_a 0 [0] (by kernel_rfl) (fun b => by kernel_rfl) (fun b_2 => jkO ?_))
  refine toO (by kernel_rfl) (p_a 0 [0] (by kernel_rfl) (fun b => by kernel_rfl) (fun b_3 => jkO ?_))
  refine jo_f [(0, 0)] (by kernel_rfl) ?_
  refine jo_end (by kernel_rfl) ?_
  refine jx_then ?_
  refine jc_seq ?_
  refine jc_seq ?_
  refine jc_region ?_
  obtain ⟨t_1, ht_6, h⟩ := bd h
  refine toO (by kernel_rfl) (p_call 0 75 #[(.pointer (some ⟨b_1, 0, none⟩)), (.pointer (some ⟨b_2, 0, none⟩))] (by kernel_rfl) (by kernel_rfl) (fun w hm => spec_l06Ok.calls f0 w1 w _ f0_fHammers_a f0.fHammers.length f0_fHammers_c (hm.exRow f0_fHammers_h List.not_mem_nil) rfl w1_fPins_a w1.fPins.length w1_fPins_c (hm.exRow w1_fPins_h List.not_mem_nil) rfl w1_fStrokes_a w1.fStrokes.length w1_fStrokes_c (hm.exRow w1_fStrokes_h List.not_mem_nil) rfl b_1 b_2 (hm.pass (N := [⟨some b_1, 43, [(.int .i16 f0.fSteps), (.slice f0_fHammers_a f0.fHammers.length f0_fHammers_c)]⟩, ⟨some b_2, 38, [(.slice w1_fPins_a w1.fPins.length w1_fPins_c), (.slice w1_fStrokes_a w1.fStrokes.length w1_fStrokes_c)]⟩]) [0, 1] (by kernel_rfl) (by kernel_rfl)) (hm.exApart (N := [⟨some b_1, 43, [(.int .i16 f0.fSteps), (.slice f0_fHammers_a f0.fHammers.length f0_fHammers_c)]⟩, ⟨some b_2, 38, [(.slice w1_fPins_a w1.fPins.length w1_fPins_c), (.slice w1_fStrokes_a w1.fStrokes.length w1_fStrokes_c)]⟩]) f0_fHammers_h (fun _ => List.not_mem_nil) [0, 1] (by kernel_rfl)) (hm.exApart (N := [⟨some b_1, 43, [(.int .i16 f0.fSteps), (.slice f0_fHammers_a f0.fHammers.length f0_fHammers_c)]⟩, ⟨some b_2, 38, [(.slice w1_fPins_a w1.fPins.length w1_fPins_c), (.slice w1_fStrokes_a w1.fStrokes.length w1_fStrokes_c)]⟩]) w1_fPins_h (fun _ => List.not_mem_nil) [0, 1] (by kernel_rfl)) (hm.exApart (N := [⟨some b_1, 43, [(.int .i16 f0.fSteps), (.slice f0_fHammers_a f0.fHammers.length f0_fHammers_c)]⟩, ⟨some b_2, 38, [(.slice w1_fPins_a w1.fPins.length w1_fPins_c), (.slice w1_fStrokes_a w1.fStrokes.length w1_fStrokes_c)]⟩]) w1_fStrokes_h (fun _ => List.not_mem_nil) [0, 1] (by kernel_rfl)) ht_6) ?_)
  rintro w v w' hm ⟨rfl, hm'⟩
  refine ⟨_, hm.appW (ps := [(0, ⟨some b_1, 43, [(.int .i16 f0.fSteps), (.slice f0_fHammers_a f0.fHammers.length f0_fHammers_c)]⟩), (1, ⟨some b_2, 38, [(.slice w1_fPins_a w1.fPins.length w1_fPins_c), (.slice w1_fStrokes_a w1.fStrokes.length w1_fStrokes_c)]⟩)]) (N := []) hm' (by kernel_rfl) (by kernel_rfl), jkO ?_⟩
  clear hm hm'
  refine jo_f [(0, 0)] (by kernel_rfl) ?_
  refine jo_end (by kernel_rfl) ?_
  refine jx_then ?_
  refine jc_cond (!t_1) (by kernel_rfl) (fun hc_7 => ?_) (fun hc_7 => ?_)
  · replace h := ifT hc_7 h
    refine jc_seq ?_
    refine jc_region ?_
    refine jo_f [(0, 0)] (by kernel_rfl) ?_
    refine toO (by kernel_rfl) (p_s 0 [2] (by kernel_rfl) (by kernel_rfl) (jkO ?_))
    refine jo_f [(0, 0)] (by kernel_rfl) ?_
    refine jo_end (by kernel_rfl) ?_
    refine jx_then ?_
    refine jc_ret ?_
    refine jx_thenr ?_
    obtain rfl := Option.some.inj h
    refine jx_ghost 75 encGWornPin ?_
    refine jx_ghost 2 encI64 ?_
    exact jx_ret [2] (.tuple #[(.agg #[(.slice none 0 0), (.slice none 0 0)]), (.int .i64 1)]) [(b_3, b_3), (b_3, b_3)] rfl (by kernel_rfl) (by kernel_rfl) (fun w hm => ⟨none, 0, [], 0, rfl, (fun e => absurd rfl e), (fun _ => ⟨rfl, rfl⟩), none, 0, [], 0, rfl, (fun e => absurd rfl e), (fun _ => ⟨rfl, rfl⟩), rfl, hm.pick [3, 4] (by kernel_rfl) (by kernel_rfl)⟩)
  · replace h := ifF hc_7 h
    refine jc_skip ?_
    refine jx_then ?_
    refine jc_seq ?_
    refine jc_seq ?_
    refine jc_region ?_
    refine jo_f [(0, 0)] (by kernel_rfl) ?_
    obtain ⟨t_2, ht_10, h⟩ := bd h
    refine toO (by kernel_rfl) (p_call 0 71 #[(.int .i64 turns2)] (by kernel_rfl) (by kernel_rfl) (fun w hm => spec_l06Turns.calls turns2 w _ ht_10) ?_)
    rintro w v w' hm ⟨rfl, hm'⟩
    refine ⟨_, hm.app hm', jkO ?_⟩
    clear hm hm'
    refine jo_f [(0, 0)] (by kernel_rfl) ?_
    refine jo_end (by kernel_rfl) ?_
    refine jx_then ?_
    refine jc_cond (!t_2) (by kernel_rfl) (fun hc_11 => ?_) (fun hc_11 => ?_)
    · replace h := ifT hc_11 h
      refine jc_seq ?_
      refine jc_region ?_
      refine jo_f [(0, 0)] (by kernel_rfl) ?_
      refine toO (by kernel_rfl) (p_s 0 [2] (by kernel_rfl) (by kernel_rfl) (jkO ?_))
      refine jo_f [(0, 0)] (by kernel_rfl) ?_
      refine jo_end (by kernel_rfl) ?_
      refine jx_then ?_
      refine jc_ret ?_
      refine jx_thenr ?_
      obtain rfl := Option.some.inj h
      refine jx_ghost 75 encGWornPin ?_
      refine jx_ghost 2 encI64 ?_
      exact jx_ret [2] (.tuple #[(.agg #[(.slice none 0 0), (.slice none 0 0)]), (.int .i64 2)]) [(b_3, b_3), (b_3, b_3)] rfl (by kernel_rfl) (by kernel_rfl) (fun w hm => ⟨none, 0, [], 0, rfl, (fun e => absurd rfl e), (fun _ => ⟨rfl, rfl⟩), none, 0, [], 0, rfl, (fun e => absurd rfl e), (fun _ => ⟨rfl, rfl⟩), rfl, hm.pick [3, 4] (by kernel_rfl) (by kernel_rfl)⟩)
    · replace h := ifF hc_11 h
      refine jc_skip ?_
      refine jx_then ?_
      refine jc_seq ?_
      refine jc_region ?_
      refine jo_f [(0, 0)] (by kernel_rfl) ?_
      obtain ⟨t_3, ht_12, h⟩ := bd h
      refine toO (by kernel_rfl) (p_call 0 78 #[(.pointer (some ⟨b_2, 0, none⟩)), (.int .i64 turns2)] (by kernel_rfl) (by kernel_rfl) (fun w hm => spec_l06Turned.calls w1 turns2 w _ w1_fPins_a w1.fPins.length w1_fPins_c (hm.exRow w1_fPins_h List.not_mem_nil) rfl w1_fStrokes_a w1.fStrokes.length w1_fStrokes_c (hm.exRow w1_fStrokes_h List.not_mem_nil) rfl b_2 (hm.pass (N := [⟨some b_2, 38, [(.slice w1_fPins_a w1.fPins.length w1_fPins_c), (.slice w1_fStrokes_a w1.fStrokes.length w1_fStrokes_c)]⟩]) [1] (by kernel_rfl) (by kernel_rfl)) (hm.exApart (N := [⟨some b_2, 38, [(.slice w1_fPins_a w1.fPins.length w1_fPins_c), (.slice w1_fStrokes_a w1.fStrokes.length w1_fStrokes_c)]⟩]) w1_fPins_h (fun _ => List.not_mem_nil) [1] (by kernel_rfl)) (hm.exApart (N := [⟨some b_2, 38, [(.slice w1_fPins_a w1.fPins.length w1_fPins_c), (.slice w1_fStrokes_a w1.fStrokes.length w1_fStrokes_c)]⟩]) w1_fStrokes_h (fun _ => List.not_mem_nil) [1] (by kernel_rfl)) ht_12) ?_)
      rintro w v w' hm ⟨o_13, cap_14, sp_15, _, rfl, hs_16, ho_17, o_18, cap_19, sp_20, _, rfl, hs_21, ho_22, rfl, hm'⟩
      refine ⟨_, hm.appW (ps := [(1, ⟨some b_2, 38, [(.slice w1_fPins_a w1.fPins.length w1_fPins_c), (.slice w1_fStrokes_a w1.fStrokes.length w1_fStrokes_c)]⟩)]) (N := [⟨o_13, 75, row encGWornPin t_3.1.fPins sp_15⟩, ⟨o_18, 2, row encI64 t_3.1.fStrokes sp_20⟩]) hm' (by kernel_rfl) (by kernel_rfl), jkO ?_⟩
      clear hm hm'
      refine jo_f [(0, 0), (0, 0), (0, 0)] (by kernel_rfl) ?_
      refine toO (by kernel_rfl) (p_a 0 [0] (by kernel_rfl) (fun b => by kernel_rfl) (fun b_23 => jkO ?_))
      refine toO (by kernel_rfl) (p_s 0 [5] (by kernel_rfl) (by kernel_rfl) (jkO ?_))
      refine jo_f [(0, 0)] (by kernel_rfl) ?_
      refine jo_end (by kernel_rfl) ?_
      refine jx_then ?_
      refine jc_seq ?_
      refine jc_seq ?_
      refine jc_region ?_
      refine jo_f [(0, 0), (0, 0)] (by kernel_rfl) ?_
      refine jo_end (by kernel_rfl) ?_
      refine jx_then ?_
      refine jc_cond (!t_3.2) (by kernel_rfl) (fun hc_25 => ?_) (fun hc_25 => ?_)
      · replace h := ifT hc_25 h
        refine jc_seq ?_
        refine jc_region ?_
        refine jo_f [(0, 0)] (by kernel_rfl) ?_
        refine toO (by kernel_rfl) (p_s 0 [2] (by kernel_rfl) (by kernel_rfl) (jkO ?_))
        refine jo_f [(0, 0)] (by kernel_rfl) ?_
        refine jo_end (by kernel_rfl) ?_
        refine jx_then ?_
        refine jc_ret ?_
        refine jx_thenr ?_
        obtain rfl := Option.some.inj h
        refine jx_ghost 75 encGWornPin ?_
        refine jx_ghost 2 encI64 ?_
        exact jx_ret [2] (.tuple #[(.agg #[(.slice none 0 0), (.slice none 0 0)]), (.int .i64 3)]) [(b_3, b_3), (b_3, b_3)] rfl (by kernel_rfl) (by kernel_rfl) (fun w hm => ⟨none, 0, [], 0, rfl, (fun e => absurd rfl e), (fun _ => ⟨rfl, rfl⟩), none, 0, [], 0, rfl, (fun e => absurd rfl e), (fun _ => ⟨rfl, rfl⟩), rfl, hm.pick [6, 7] (by kernel_rfl) (by kernel_rfl)⟩)
      · replace h := ifF hc_25 h
        refine jc_skip ?_
        refine jx_then ?_
        refine jc_seq ?_
        refine jc_region ?_
        refine jo_f [(5, 0)] (by kernel_rfl) ?_
        refine toO (by kernel_rfl) (p_s 0 [2] (by kernel_rfl) (by kernel_rfl) (jkO ?_))
        refine jo_f [(0, 0)] (by kernel_rfl) ?_
        refine jo_end (by kernel_rfl) ?_
        refine jx_then ?_
        refine jc_ret ?_
        obtain rfl := Option.some.inj h
        exact jx_ret [2] (.tuple #[(.agg #[(.slice (o_13.map fun b => ⟨b, 0, none⟩) t_3.1.fPins.length cap_14), (.slice (o_18.map fun b => ⟨b, 0, none⟩) t_3.1.fStrokes.length cap_19)]), (.int .i64 0)]) [(b_3, b_3), (b_3, b_3)] rfl (by kernel_rfl) (by kernel_rfl) (fun w hm => ⟨o_13, cap_14, sp_15, t_3.1.fPins.length, rfl, hs_16, ho_17, o_18, cap_19, sp_20, t_3.1.fStrokes.length, rfl, hs_21, ho_22, rfl, hm.pick [3, 4] (by kernel_rfl) (by kernel_rfl)⟩)

/-! ### spec.WornOut -/
noncomputable def spec_WornOut (f0 : GFrame) (w1 : GWear) (v2 : GLives) : Option ((List GWornPin) × (List Int) × Int) := (spec_l06Lived f0 w1 v2).bind fun t_1 => (if (t_1 != 0) = true then some (([] : List GWornPin), ([] : List Int), t_1) else (spec_l06Worn w1 v2).bind fun t_2 => some (t_2.1, t_2.2, 0))
set_option maxRecDepth 100000 in
theorem spec_WornOut.calls (f0 : GFrame) (w1 : GWear) (v2 : GLives) (w : World) (r : (List GWornPin) × (List Int) × Int) (f0_fHammers_a : Option Addr) (f0_fHammers_an : Nat) (f0_fHammers_c : Nat) (f0_fHammers_h : Rw w f0_fHammers_a 2 encGHammer f0.fHammers) (f0_fHammers_hn : f0.fHammers.length = f0_fHammers_an) (w1_fPins_a : Option Addr) (w1_fPins_an : Nat) (w1_fPins_c : Nat) (w1_fPins_h : Rw w w1_fPins_a 3 encGWornPin w1.fPins) (w1_fPins_hn : w1.fPins.length = w1_fPins_an) (w1_fStrokes_a : Option Addr) (w1_fStrokes_an : Nat) (w1_fStrokes_c : Nat) (w1_fStrokes_h : Rw w w1_fStrokes_a 1 encI64 w1.fStrokes) (w1_fStrokes_hn : w1.fStrokes.length = w1_fStrokes_an) (h : spec_WornOut f0 w1 v2 = some r) :
    Calls Tryz.prog 34 #[(.agg #[(.int .i16 f0.fSteps), (.slice f0_fHammers_a f0_fHammers_an f0_fHammers_c)]), (.agg #[(.slice w1_fPins_a w1_fPins_an w1_fPins_c), (.slice w1_fStrokes_a w1_fStrokes_an w1_fStrokes_c)]), (.agg #[(.int .i64 v2.fPin), (.int .i64 v2.fHammer)])] w fun e w' => ∃ v, e = .returned v ∧ (∃ (o0 : Option Nat) (c0 : Nat) (s0 : List Value) (n0 : Nat), r.1.length = n0 ∧ (o0 ≠ none → n0 ≤ c0 ∧ s0.length = (c0 - n0) * 3) ∧ (o0 = none → r.1 = [] ∧ c0 = 0) ∧ ∃ (o1 : Option Nat) (c1 : Nat) (s1 : List Value) (n1 : Nat), r.2.1.length = n1 ∧ (o1 ≠ none → n1 ≤ c1 ∧ s1.length = (c1 - n1) * 1) ∧ (o1 = none → r.2.1 = [] ∧ c1 = 0) ∧ v = .tuple #[.slice (o0.map fun b => ⟨b, 0, none⟩) n0 c0, .slice (o1.map fun b => ⟨b, 0, none⟩) n1 c1, (.int .i64 r.2.2)] ∧ Mem w [] [⟨o0, 75, row encGWornPin r.1 s0⟩, ⟨o1, 2, row encI64 r.2.1 s1⟩] w') := by
  subst f0_fHammers_hn w1_fPins_hn w1_fStrokes_hn
  rw [spec_WornOut] at h
  refine enter (args := [(.agg #[(.int .i16 f0.fSteps), (.slice f0_fHammers_a f0.fHammers.length f0_fHammers_c)]), (.agg #[(.slice w1_fPins_a w1.fPins.length w1_fPins_c), (.slice w1_fStrokes_a w1.fStrokes.length w1_fStrokes_c)]), (.agg #[(.int .i64 v2.fPin), (.int .i64 v2.fHammer)])]) Tryz.func34 rfl Tryz.ntmps34 (by kernel_rfl) (L := []) (W := []) (Mem.start w) ?_
  refine jc_seq ?_
  refine jc_region ?_
  refine toO (by kernel_rfl) (p_a 0 [0] (by kernel_rfl) (fun b => by kernel_rfl) (fun b_1 => jkO ?_))
  refine toO (by kernel_rfl) (p_a 0 [0] (by kernel_rfl) (fun b => by kernel_rfl) (fun b_2 => jkO ?_))
  refine toO (by kernel_rfl) (p_a 0 [0] (by kernel_rfl) (fun b => by kernel_rfl) (fun b_3 => jkO ?_))
  refine jo_f [(0, 0), (0, 0), (0, 0)] (by kernel_rfl) ?_
  refine jo_end (by kernel_rfl) ?_
  refine jx_then ?_
  refine jc_seq ?_
  refine jc_seq ?_
  refine jc_region ?_
  refine jo_f [(2, 0)] (by kernel_rfl) ?_
  obtain ⟨t_1, ht_8, h⟩ := bd h
  refine toO (by kernel_rfl) (p_call 0 70 #[(.pointer (some ⟨b_1, 0, none⟩)), (.pointer (some ⟨b_2, 0, none⟩)), (.agg #[(.int .i64 v2.fPin), (.int .i64 v2.fHammer)])] (by kernel_rfl) (by kernel_rfl) (fun w hm => spec_l06Lived.calls f0 w1 v2 w _ f0_fHammers_a f0.fHammers.length f0_fHammers_c (hm.exRow f0_fHammers_h List.not_mem_nil) rfl w1_fPins_a w1.fPins.length w1_fPins_c (hm.exRow w1_fPins_h List.not_mem_nil) rfl w1_fStrokes_a w1.fStrokes.length w1_fStrokes_c (hm.exRow w1_fStrokes_h List.not_mem_nil) rfl b_1 b_2 (hm.pass (N := [⟨some b_1, 43, [(.int .i16 f0.fSteps), (.slice f0_fHammers_a f0.fHammers.length f0_fHammers_c)]⟩, ⟨some b_2, 38, [(.slice w1_fPins_a w1.fPins.length w1_fPins_c), (.slice w1_fStrokes_a w1.fStrokes.length w1_fStrokes_c)]⟩]) [0, 1] (by kernel_rfl) (by kernel_rfl)) (hm.exApart (N := [⟨some b_1, 43, [(.int .i16 f0.fSteps), (.slice f0_fHammers_a f0.fHammers.length f0_fHammers_c)]⟩, ⟨some b_2, 38, [(.slice w1_fPins_a w1.fPins.length w1_fPins_c), (.slice w1_fStrokes_a w1.fStrokes.length w1_fStrokes_c)]⟩]) f0_fHammers_h (fun _ => List.not_mem_nil) [0, 1] (by kernel_rfl)) (hm.exApart (N := [⟨some b_1, 43, [(.int .i16 f0.fSteps), (.slice f0_fHammers_a f0.fHammers.length f0_fHammers_c)]⟩, ⟨some b_2, 38, [(.slice w1_fPins_a w1.fPins.length w1_fPins_c), (.slice w1_fStrokes_a w1.fStrokes.length w1_fStrokes_c)]⟩]) w1_fPins_h (fun _ => List.not_mem_nil) [0, 1] (by kernel_rfl)) (hm.exApart (N := [⟨some b_1, 43, [(.int .i16 f0.fSteps), (.slice f0_fHammers_a f0.fHammers.length f0_fHammers_c)]⟩, ⟨some b_2, 38, [(.slice w1_fPins_a w1.fPins.length w1_fPins_c), (.slice w1_fStrokes_a w1.fStrokes.length w1_fStrokes_c)]⟩]) w1_fStrokes_h (fun _ => List.not_mem_nil) [0, 1] (by kernel_rfl)) ht_8) ?_)
  rintro w v w' hm ⟨rfl, hm'⟩
  refine ⟨_, hm.appW (ps := [(0, ⟨some b_1, 43, [(.int .i16 f0.fSteps), (.slice f0_fHammers_a f0.fHammers.length f0_fHammers_c)]⟩), (1, ⟨some b_2, 38, [(.slice w1_fPins_a w1.fPins.length w1_fPins_c), (.slice w1_fStrokes_a w1.fStrokes.length w1_fStrokes_c)]⟩)]) (N := []) hm' (by kernel_rfl) (by kernel_rfl), jkO ?_⟩
  clear hm hm'
  refine jo_f [(0, 0)] (by kernel_rfl) ?_
  refine jo_end (by kernel_rfl) ?_
  refine jx_then ?_
  refine jc_seq ?_
  refine jc_region ?_
  refine jo_f [(0, 0), (0, 0)] (by kernel_rfl) ?_
  refine jo_end (by kernel_rfl) ?_
  refine jx_then ?_
  refine jc_cond (t_1 != 0) (by kernel_rfl) (fun hc_9 => ?_) (fun hc_9 => ?_)
  · replace h := ifT hc_9 h
    refine jc_seq ?_
    refine jc_region ?_
    refine toO (by kernel_rfl) (p_a 0 [0] (by kernel_rfl) (fun b => by kernel_rfl) (fun b_10 => jkO ?_))
    refine toO (by kernel_rfl) (p_a 0 [0] (by kernel_rfl) (fun b => by kernel_rfl) (fun b_11 => jkO ?_))
    refine jo_f [(0, 0), (0, 0), (0, 0), (0, 0)] (by kernel_rfl) ?_
    refine jo_end (by kernel_rfl) ?_
    refine jx_then ?_
    refine jc_ret ?_
    refine jx_thenr ?_
    obtain rfl := Option.some.inj h
    exact jx_ret [] (.tuple #[(.slice (some ⟨b_10, 0, none⟩) 0 0), (.slice (some ⟨b_11, 0, none⟩) 0 0), (.int .i64 t_1)]) [] rfl (by kernel_rfl) (by kernel_rfl) (fun w hm => ⟨(some b_10), 0, [], 0, rfl, (fun _ => ⟨Nat.le_refl _, by simp⟩), (fun e => nomatch e), (some b_11), 0, [], 0, rfl, (fun _ => ⟨Nat.le_refl _, by simp⟩), (fun e => nomatch e), rfl, hm.pick [3, 4] (by kernel_rfl) (by kernel_rfl)⟩)
  · replace h := ifF hc_9 h
    refine jc_skip ?_
    refine jx_then ?_
    refine jc_seq ?_
    refine jc_region ?_
    refine jo_f [(2, 0)] (by kernel_rfl) ?_
    obtain ⟨t_2, ht_12, h⟩ := bd h
    refine toO (by kernel_rfl) (p_call 0 79 #[(.pointer (some ⟨b_2, 0, none⟩)), (.agg #[(.int .i64 v2.fPin), (.int .i64 v2.fHammer)])] (by kernel_rfl) (by kernel_rfl) (fun w hm => spec_l06Worn.calls w1 v2 w _ w1_fPins_a w1.fPins.length w1_fPins_c (hm.exRow w1_fPins_h List.not_mem_nil) rfl w1_fStrokes_a w1.fStrokes.length w1_fStrokes_c (hm.exRow w1_fStrokes_h List.not_mem_nil) rfl b_2 (hm.pass (N := [⟨some b_2, 38, [(.slice w1_fPins_a w1.fPins.length w1_fPins_c), (.slice w1_fStrokes_a w1.fStrokes.length w1_fStrokes_c)]⟩]) [1] (by kernel_rfl) (by kernel_rfl)) (hm.exApart (N := [⟨some b_2, 38, [(.slice w1_fPins_a w1.fPins.length w1_fPins_c), (.slice w1_fStrokes_a w1.fStrokes.length w1_fStrokes_c)]⟩]) w1_fPins_h (fun _ => List.not_mem_nil) [1] (by kernel_rfl)) (hm.exApart (N := [⟨some b_2, 38, [(.slice w1_fPins_a w1.fPins.length w1_fPins_c), (.slice w1_fStrokes_a w1.fStrokes.length w1_fStrokes_c)]⟩]) w1_fStrokes_h (fun _ => List.not_mem_nil) [1] (by kernel_rfl)) ht_12) ?_)
    rintro w v w' hm ⟨o_13, cap_14, sp_15, _, rfl, hs_16, ho_17, o_18, cap_19, sp_20, _, rfl, hs_21, ho_22, rfl, hm'⟩
    refine ⟨_, hm.appW (ps := [(1, ⟨some b_2, 38, [(.slice w1_fPins_a w1.fPins.length w1_fPins_c), (.slice w1_fStrokes_a w1.fStrokes.length w1_fStrokes_c)]⟩)]) (N := [⟨o_13, 75, row encGWornPin t_2.1 sp_15⟩, ⟨o_18, 2, row encI64 t_2.2 sp_20⟩]) hm' (by kernel_rfl) (by kernel_rfl), jkO ?_⟩
    clear hm hm'
    refine jo_f [(0, 0), (0, 0), (0, 0), (0, 0), (0, 0)] (by kernel_rfl) ?_
    refine jo_end (by kernel_rfl) ?_
    refine jx_then ?_
    refine jc_seq ?_
    refine jc_region ?_
    refine jo_f [(0, 0), (0, 0), (0, 0), (0, 0), (0, 0)] (by kernel_rfl) ?_
    refine jo_end (by kernel_rfl) ?_
    refine jx_then ?_
    refine jc_ret ?_
    obtain rfl := Option.some.inj h
    exact jx_ret [] (.tuple #[(.slice (o_13.map fun b => ⟨b, 0, none⟩) t_2.1.length cap_14), (.slice (o_18.map fun b => ⟨b, 0, none⟩) t_2.2.length cap_19), (.int .i64 0)]) [] rfl (by kernel_rfl) (by kernel_rfl) (fun w hm => ⟨o_13, cap_14, sp_15, t_2.1.length, rfl, hs_16, ho_17, o_18, cap_19, sp_20, t_2.2.length, rfl, hs_21, ho_22, rfl, hm.pick [3, 4] (by kernel_rfl) (by kernel_rfl)⟩)

/-! ### impl.wornPlaceCode$1 -/
noncomputable def impl_wornPlaceCode_1 (p0 : Arr 2 Int) (p1 : GFrame) : Option (Bool) := (ix p0.1 0).bind fun x_1 => (ix p0.1 1).bind fun x_2 => (impl_Frame_isPlace p1 x_1 x_2).bind fun t_3 => some (!t_3)
set_option maxRecDepth 100000 in
theorem impl_wornPlaceCode_1.calls (p0 : Arr 2 Int) (p1 : GFrame) (w : World) (r : Bool) (p1_fHammers_a : Option Addr) (p1_fHammers_an : Nat) (p1_fHammers_c : Nat) (p1_fHammers_h : Rw w p1_fHammers_a 2 encGHammer p1.fHammers) (p1_fHammers_hn : p1.fHammers.length = p1_fHammers_an) (p1_b : Nat) (hm0 : Mem w (bs [some p1_b]) [⟨some p1_b, 43, [(.int .i16 p1.fSteps), (.slice p1_fHammers_a p1_fHammers_an p1_fHammers_c)]⟩] w) (p1_fHammers_ha : p1.fHammers ≠ [] → aB p1_fHammers_a ∉ bs [some p1_b]) (h : impl_wornPlaceCode_1 p0 p1 = some r) :
    Calls Tryz.prog 110 #[(.agg (row encI64 p0.1 []).toArray), (.pointer (some ⟨p1_b, 0, none⟩))] w fun e w' => ∃ v, e = .returned v ∧ (v = (.bool r) ∧ Mem w (bs [some p1_b]) [⟨some p1_b, 43, [(.int .i16 p1.fSteps), (.slice p1_fHammers_a p1_fHammers_an p1_fHammers_c)]⟩] w') := by
  subst p1_fHammers_hn
  rw [impl_wornPlaceCode_1] at h
  refine enter (args := [(.agg (row encI64 p0.1 []).toArray), (.pointer (some ⟨p1_b, 0, none⟩))]) Tryz.func110 rfl Tryz.ntmps110 (by kernel_rfl) (L := [⟨some p1_b, 43, [(.int .i16 p1.fSteps), (.slice p1_fHammers_a p1.fHammers.length p1_fHammers_c)]⟩]) (W := bs [some p1_b]) hm0 ?_
  refine jc_seq ?_
  refine jc_region ?_
  refine toO (by kernel_rfl) (p_a 0 [0] (by kernel_rfl) (fun b => by kernel_rfl) (fun b_1 => jkO ?_))
  refine jo_f [(0, 0)] (by kernel_rfl) ?_
  refine jo_end (by kernel_rfl) ?_
  refine jx_then ?_
  refine jc_seq ?_
  refine jc_region ?_
  refine jo_f [(0, 0)] (by kernel_rfl) ?_
  obtain ⟨x_1, hx_2, h⟩ := bd h
  refine toO (by kernel_rfl) (p_idx 0 (some ⟨b_1, 0, none⟩) 2 0 1 (by kernel_rfl) (by kernel_rfl) (ix_some hx_2).1 (ltn hx_2 p0.2) rfl (jkO ?_))
  refine toO (by kernel_rfl) (p_ld 0 (aB (some ⟨b_1, 0, none⟩)) (aO (some ⟨b_1, 0, none⟩) + (0 : Int).toNat * 1) false (encI64 x_1) (by kernel_rfl) (by kernel_rfl) (by kernel_rfl) (fun w hm => ((hm.ownRow (hh := 1) (o := (some b_1)) (T := 128) (enc := encI64) (xs := p0.1) (sp := []) (by kernel_rfl) (fun e => nomatch e) encI64_len).at hx_2)) (jkO ?_))
  obtain ⟨x_2, hx_3, h⟩ := bd h
  refine toO (by kernel_rfl) (p_idx 0 (some ⟨b_1, 0, none⟩) 2 1 1 (by kernel_rfl) (by kernel_rfl) (ix_some hx_3).1 (ltn hx_3 p0.2) rfl (jkO ?_))
  refine toO (by kernel_rfl) (p_ld 0 (aB (some ⟨b_1, 0, none⟩)) (aO (some ⟨b_1, 0, none⟩) + (1 : Int).toNat * 1) false (encI64 x_2) (by kernel_rfl) (by kernel_rfl) (by kernel_rfl) (fun w hm => ((hm.ownRow (hh := 1) (o := (some b_1)) (T := 128) (enc := encI64) (xs := p0.1) (sp := []) (by kernel_rfl) (fun e => nomatch e) encI64_len).at hx_3)) (jkO ?_))
  obtain ⟨t_3, ht_4, h⟩ := bd h
  refine toO (by kernel_rfl) (p_call 0 111 #[(.agg #[(.int .i16 p1.fSteps), (.slice p1_fHammers_a p1.fHammers.length p1_fHammers_c)]), (.int .i64 x_1), (.int .i64 x_2)] (by kernel_rfl) (by kernel_rfl) (fun w hm => impl_Frame_isPlace.calls p1 x_1 x_2 w _ p1_fHammers_a p1.fHammers.length p1_fHammers_c (hm.exRowW p1_fHammers_h p1_fHammers_ha) rfl ht_4) ?_)
  rintro w v w' hm ⟨rfl, hm'⟩
  refine ⟨_, hm.app hm', jkO ?_⟩
  clear hm hm'
  refine jo_f [(0, 0), (0, 0)] (by kernel_rfl) ?_
  refine jo_end (by kernel_rfl) ?_
  refine jx_then ?_
  refine jc_ret ?_
  obtain rfl := Option.some.inj h
  exact jx_ret [] (.bool (!t_3)) [] rfl (by kernel_rfl) (by kernel_rfl) (fun w hm => ⟨rfl, hm.pick [0] (by kernel_rfl) (by kernel_rfl)⟩)

/-! ### slices.IndexFunc[[][2]int64,[2]int64] -/
noncomputable def slices_IndexFunc_2int64_at_impl_wornPlaceCode_1.k_1 : Option (Int) := some (-1)
noncomputable def slices_IndexFunc_2int64_at_impl_wornPlaceCode_1.l_3 (s0 : List (Arr 2 Int)) (g1c0 : GFrame) : Int → Option ((Int) ⊕ (Int ⊕ Unit))
  | i_2 => (if (decide (i_2 < (s0.length : Int))) = true then (ix s0 i_2).bind fun x_5 => (impl_wornPlaceCode_1 x_5 g1c0).bind fun t_6 => (if t_6 = true then some (.inr (.inl i_2)) else some (.inl (w64 (i_2 + 1)))) else some (.inr (.inr ())))
noncomputable def slices_IndexFunc_2int64_at_impl_wornPlaceCode_1 (s0 : List (Arr 2 Int)) (g1c0 : GFrame) : Option (Int) := (loop (slices_IndexFunc_2int64_at_impl_wornPlaceCode_1.l_3 s0 g1c0) 0).bind fun t_4 => match t_4 with | .inl p => some p | .inr p => slices_IndexFunc_2int64_at_impl_wornPlaceCode_1.k_1
set_option maxRecDepth 100000 in
theorem slices_IndexFunc_2int64_at_impl_wornPlaceCode_1.calls (s0 : List (Arr 2 Int)) (g1c0 : GFrame) (w : World) (r : Int) (s0_a : Option Addr) (s0_an : Nat) (s0_c : Nat) (s0_h : Rw w s0_a 2 encA2I64 s0) (s0_hn : s0.length = s0_an) (g1c0_fHammers_a : Option Addr) (g1c0_fHammers_an : Nat) (g1c0_fHammers_c : Nat) (g1c0_fHammers_h : Rw w g1c0_fHammers_a 2 encGHammer g1c0.fHammers) (g1c0_fHammers_hn : g1c0.fHammers.length = g1c0_fHammers_an) (g1c0_b : Nat) (hm0 : Mem w (bs [some g1c0_b]) [⟨some g1c0_b, 43, [(.int .i16 g1c0.fSteps), (.slice g1c0_fHammers_a g1c0_fHammers_an g1c0_fHammers_c)]⟩] w) (s0_ha : s0 ≠ [] → aB s0_a ∉ bs [some g1c0_b]) (g1c0_fHammers_ha : g1c0.fHammers ≠ [] → aB g1c0_fHammers_a ∉ bs [some g1c0_b]) (h : slices_IndexFunc_2int64_at_impl_wornPlaceCode_1 s0 g1c0 = some r) :
    Calls Tryz.prog 136 #[(.slice s0_a s0_an s0_c), (.func (.func 110) #[] #[(.pointer (some ⟨g1c0_b, 0, none⟩))])] w fun e w' => ∃ v, e = .returned v ∧ (v = (.int .i64 r) ∧ Mem w (bs [some g1c0_b]) [⟨some g1c0_b, 43, [(.int .i16 g1c0.fSteps), (.slice g1c0_fHammers_a g1c0_fHammers_an g1c0_fHammers_c)]⟩] w') := by
  subst s0_hn g1c0_fHammers_hn
  rw [slices_IndexFunc_2int64_at_impl_wornPlaceCode_1] at h
  refine enter (args := [(.slice s0_a s0.length s0_c), (.func (.func 110) #[] #[(.pointer (some ⟨g1c0_b, 0, none⟩))])]) Tryz.func136 rfl Tryz.ntmps136 (by kernel_rfl) (L := [⟨some g1c0_b, 43, [(.int .i16 g1c0.fSteps), (.slice g1c0_fHammers_a g1c0.fHammers.length g1c0_fHammers_c)]⟩]) (W := bs [some g1c0_b]) hm0 ?_
  refine jc_seq ?_
  refine jc_region ?_
  refine jo_f [(0, 0)] (by kernel_rfl) ?_
  refine jo_end (by kernel_rfl) ?_
  refine jx_then ?_
  refine jc_seq ?_
  refine jc_seq ?_
  refine jc_region ?_
  refine jo_f [(0, 0), (0, 0), (0, 0)] (by kernel_rfl) ?_
  refine jo_end (by kernel_rfl) ?_
  refine jx_then ?_
  refine jc_meet (fun (_ : Unit) => slices_IndexFunc_2int64_at_impl_wornPlaceCode_1.k_1 = some r) (fun (_ : Unit) => [(4, [], (.int .i64 0))]) (fun (_ : Unit) => [⟨some g1c0_b, 43, [(.int .i16 g1c0.fSteps), (.slice g1c0_fHammers_a g1c0.fHammers.length g1c0_fHammers_c)]⟩]) ?_ ?_
  · refine jc_block ?_
    obtain ⟨t_4, ht_40, hr_31⟩ := bd h
    refine jc_loop (fun (s : Int) (x : Unit) => match s, x with | i_2, _ => True) (fun (s : Int) (x : Unit) => match s, x with | i_2, _ => [(0, [], (.slice s0_a s0.length s0_c)), (1, [], (.func (.func 110) #[] #[(.pointer (some ⟨g1c0_b, 0, none⟩))])), (4, [], (.int .i64 0)), (7, [], (.int .i64 (s0.length : Int))), (8, [], (.int .i64 i_2))]) (fun (s : Int) (x : Unit) => match s, x with | i_2, _ => [⟨some g1c0_b, 43, [(.int .i16 g1c0.fSteps), (.slice g1c0_fHammers_a g1c0.fHammers.length g1c0_fHammers_c)]⟩]) ht_40 () trivial (by kernel_rfl) [0] (by kernel_rfl) (by kernel_rfl) ?_
    rintro i_2 _ y_32 _ h
    rw [slices_IndexFunc_2int64_at_impl_wornPlaceCode_1.l_3] at h
    refine jc_seq ?_
    refine jc_region ?_
    refine jo_f [(0, 0)] (by kernel_rfl) ?_
    refine jo_end (by kernel_rfl) ?_
    refine jx_then ?_
    refine jc_seq ?_
    refine jc_cond (decide (i_2 < (s0.length : Int))) (by kernel_rfl) (fun hc_34 => ?_) (fun hc_34 => ?_)
    · replace h := ifT hc_34 h
      refine jc_skip ?_
      refine jx_then ?_
      refine jc_seq ?_
      refine jc_block ?_
      refine jc_seq ?_
      refine jc_region ?_
      refine jo_f [(0, 0), (0, 0)] (by kernel_rfl) ?_
      refine jo_end (by kernel_rfl) ?_
      refine jx_then ?_
      refine jc_seq ?_
      refine jc_region ?_
      refine jo_f [(0, 0), (0, 0), (0, 0)] (by kernel_rfl) ?_
      obtain ⟨x_5, hx_35, h⟩ := bd h
      refine toO (by kernel_rfl) (p_idx 0 s0_a s0.length i_2 2 (by kernel_rfl) (by kernel_rfl) (ix_some hx_35).1 (ltn hx_35 rfl) (s0_h.sp hx_35) (jkO ?_))
      refine toO (by kernel_rfl) (p_ldx 0 (aB s0_a) (aO s0_a + i_2.toNat * 2) (encA2I64 x_5) 2 (by kernel_rfl) (by kernel_rfl) (encA2I64_len x_5) (fun w hm => ((hm.exRowW s0_h s0_ha).at hx_35)) (jkO ?_))
      obtain ⟨t_6, ht_36, h⟩ := bd h
      refine toO (by kernel_rfl) (p_call 0 110 #[(.agg (row encI64 x_5.1 []).toArray), (.pointer (some ⟨g1c0_b, 0, none⟩))] (by kernel_rfl) (by kernel_rfl) (fun w hm => impl_wornPlaceCode_1.calls x_5 g1c0 w _ g1c0_fHammers_a g1c0.fHammers.length g1c0_fHammers_c (hm.exRowW g1c0_fHammers_h g1c0_fHammers_ha) rfl g1c0_b (hm.pass (N := [⟨some g1c0_b, 43, [(.int .i16 g1c0.fSteps), (.slice g1c0_fHammers_a g1c0.fHammers.length g1c0_fHammers_c)]⟩]) [0] (by kernel_rfl) (by kernel_rfl)) (hm.exApart (N := [⟨some g1c0_b, 43, [(.int .i16 g1c0.fSteps), (.slice g1c0_fHammers_a g1c0.fHammers.length g1c0_fHammers_c)]⟩]) g1c0_fHammers_h g1c0_fHammers_ha [0] (by kernel_rfl)) ht_36) ?_)
      rintro w v w' hm ⟨rfl, hm'⟩
      refine ⟨_, hm.appW (ps := [(0, ⟨some g1c0_b, 43, [(.int .i16 g1c0.fSteps), (.slice g1c0_fHammers_a g1c0.fHammers.length g1c0_fHammers_c)]⟩)]) (N := []) hm' (by kernel_rfl) (by kernel_rfl), jkO ?_⟩
      clear hm hm'
      refine jo_end (by kernel_rfl) ?_
      refine jx_then ?_
      refine jc_cond t_6 (by kernel_rfl) (fun hc_37 => ?_) (fun hc_37 => ?_)
      · replace h := ifT hc_37 h
        refine jc_seq ?_
        refine jc_region ?_
        refine jo_f [(0, 0), (0, 0)] (by kernel_rfl) ?_
        refine jo_end (by kernel_rfl) ?_
        refine jx_then ?_
        refine jc_ret ?_
        refine jx_inr ?_
        refine jx_thenr ?_
        refine jx_leaver (.inl i_2) (Option.some.inj h).symm (fun e_38 => ?_)
        subst e_38
        refine jx_inr ?_
        refine jx_thenr ?_
        refine jx_thenr ?_
        obtain rfl := Option.some.inj hr_31
        exact jx_ret [] (.int .i64 i_2) [] rfl (by kernel_rfl) (by kernel_rfl) (fun w hm => ⟨rfl, hm.pick [0] (by kernel_rfl) (by kernel_rfl)⟩)
      · replace h := ifF hc_37 h
        refine jc_skip ?_
        refine jx_inn ?_
        refine jx_then ?_
        refine jc_region ?_
        refine jo_f [(0, 0), (0, 0)] (by kernel_rfl) ?_
        refine jo_end (by kernel_rfl) ?_
        exact jx_back (w64 (i_2 + 1)) () (Option.some.inj h).symm trivial [0] (by kernel_rfl) (by kernel_rfl) (by kernel_rfl)
    · replace h := ifF hc_34 h
      refine jc_exit ?_
      refine jx_thenx ?_
      refine jx_leave (.inr ()) (Option.some.inj h).symm (fun e_39 => ?_)
      subst e_39
      refine jx_ine ?_
      exact jx_meet () hr_31 (by kernel_rfl) [0] (by kernel_rfl) (by kernel_rfl)
  · rintro _ h
    replace h : slices_IndexFunc_2int64_at_impl_wornPlaceCode_1.k_1 = some r := h
    rw [slices_IndexFunc_2int64_at_impl_wornPlaceCode_1.k_1] at h
    refine jx_then ?_
    refine jc_seq ?_
    refine jc_region ?_
    refine jo_f [(0, 0)] (by kernel_rfl) ?_
    refine jo_end (by kernel_rfl) ?_
    refine jx_then ?_
    refine jc_ret ?_
    obtain rfl := Option.some.inj h
    exact jx_ret [] (.int .i64 (-1)) [] rfl (by kernel_rfl) (by kernel_rfl) (fun w hm => ⟨rfl, hm.pick [0] (by kernel_rfl) (by kernel_rfl)⟩)

/-! ### slices.ContainsFunc[[][2]int64,[2]int64] -/
noncomputable def slices_ContainsFunc_2int64_at_impl_wornPlaceCode_1 (s0 : List (Arr 2 Int)) (g1c0 : GFrame) : Option (Bool) := (slices_IndexFunc_2int64_at_impl_wornPlaceCode_1 s0 g1c0).bind fun t_1 => some (decide (t_1 ≥ 0))
set_option maxRecDepth 100000 in
theorem slices_ContainsFunc_2int64_at_impl_wornPlaceCode_1.calls (s0 : List (Arr 2 Int)) (g1c0 : GFrame) (w : World) (r : Bool) (s0_a : Option Addr) (s0_an : Nat) (s0_c : Nat) (s0_h : Rw w s0_a 2 encA2I64 s0) (s0_hn : s0.length = s0_an) (g1c0_fHammers_a : Option Addr) (g1c0_fHammers_an : Nat) (g1c0_fHammers_c : Nat) (g1c0_fHammers_h : Rw w g1c0_fHammers_a 2 encGHammer g1c0.fHammers) (g1c0_fHammers_hn : g1c0.fHammers.length = g1c0_fHammers_an) (g1c0_b : Nat) (hm0 : Mem w (bs [some g1c0_b]) [⟨some g1c0_b, 43, [(.int .i16 g1c0.fSteps), (.slice g1c0_fHammers_a g1c0_fHammers_an g1c0_fHammers_c)]⟩] w) (s0_ha : s0 ≠ [] → aB s0_a ∉ bs [some g1c0_b]) (g1c0_fHammers_ha : g1c0.fHammers ≠ [] → aB g1c0_fHammers_a ∉ bs [some g1c0_b]) (h : slices_ContainsFunc_2int64_at_impl_wornPlaceCode_1 s0 g1c0 = some r) :
    Calls Tryz.prog 109 #[(.slice s0_a s0_an s0_c), (.func (.func 110) #[] #[(.pointer (some ⟨g1c0_b, 0, none⟩))])] w fun e w' => ∃ v, e = .returned v ∧ (v = (.bool r) ∧ Mem w (bs [some g1c0_b]) [⟨some g1c0_b, 43, [(.int .i16 g1c0.fSteps), (.slice g1c0_fHammers_a g1c0_fHammers_an g1c0_fHammers_c)]⟩] w') := by
  subst s0_hn g1c0_fHammers_hn
  rw [slices_ContainsFunc_2int64_at_impl_wornPlaceCode_1] at h
  refine enter (args := [(.slice s0_a s0.length s0_c), (.func (.func 110) #[] #[(.pointer (some ⟨g1c0_b, 0, none⟩))])]) Tryz.func109 rfl Tryz.ntmps109 (by kernel_rfl) (L := [⟨some g1c0_b, 43, [(.int .i16 g1c0.fSteps), (.slice g1c0_fHammers_a g1c0.fHammers.length g1c0_fHammers_c)]⟩]) (W := bs [some g1c0_b]) hm0 ?_
  refine jc_seq ?_
  refine jc_region ?_
  refine jo_f [(0, 0)] (by kernel_rfl) ?_
  refine jo_end (by kernel_rfl) ?_
  refine jx_then ?_
  refine jc_seq ?_
  refine jc_region ?_
  refine jo_f [(0, 0), (0, 0)] (by kernel_rfl) ?_
  obtain ⟨t_1, ht_1, h⟩ := bd h
  refine toO (by kernel_rfl) (p_call 0 136 #[(.slice s0_a s0.length s0_c), (.func (.func 110) #[] #[(.pointer (some ⟨g1c0_b, 0, none⟩))])] (by kernel_rfl) (by kernel_rfl) (fun w hm => slices_IndexFunc_2int64_at_impl_wornPlaceCode_1.calls s0 g1c0 w _ s0_a s0.length s0_c (hm.exRowW s0_h s0_ha) rfl g1c0_fHammers_a g1c0.fHammers.length g1c0_fHammers_c (hm.exRowW g1c0_fHammers_h g1c0_fHammers_ha) rfl g1c0_b (hm.pass (N := [⟨some g1c0_b, 43, [(.int .i16 g1c0.fSteps), (.slice g1c0_fHammers_a g1c0.fHammers.length g1c0_fHammers_c)]⟩]) [0] (by kernel_rfl) (by kernel_rfl)) (hm.exApart (N := [⟨some g1c0_b, 43, [(.int .i16 g1c0.fSteps), (.slice g1c0_fHammers_a g1c0.fHammers.length g1c0_fHammers_c)]⟩]) s0_h s0_ha [0] (by kernel_rfl)) (hm.exApart (N := [⟨some g1c0_b, 43, [(.int .i16 g1c0.fSteps), (.slice g1c0_fHammers_a g1c0.fHammers.length g1c0_fHammers_c)]⟩]) g1c0_fHammers_h g1c0_fHammers_ha [0] (by kernel_rfl)) ht_1) ?_)
  rintro w v w' hm ⟨rfl, hm'⟩
  refine ⟨_, hm.appW (ps := [(0, ⟨some g1c0_b, 43, [(.int .i16 g1c0.fSteps), (.slice g1c0_fHammers_a g1c0.fHammers.length g1c0_fHammers_c)]⟩)]) (N := []) hm' (by kernel_rfl) (by kernel_rfl), jkO ?_⟩
  clear hm hm'
  refine jo_f [(0, 0), (0, 0)] (by kernel_rfl) ?_
  refine jo_end (by kernel_rfl) ?_
  refine jx_then ?_
  refine jc_ret ?_
  obtain rfl := Option.some.inj h
  exact jx_ret [] (.bool (decide (t_1 ≥ 0))) [] rfl (by kernel_rfl) (by kernel_rfl) (fun w hm => ⟨rfl, hm.pick [0] (by kernel_rfl) (by kernel_rfl)⟩)

/-! ### impl.wornPlaceCode -/
noncomputable def impl_wornPlaceCode (f0 : GFrame) (w1 : GWear) (places2 : List (Arr 2 Int)) : Option (Int) := (impl_wearCode f0 w1 []).bind fun t_1 => (if (t_1 != 0) = true then some t_1 else (slices_ContainsFunc_2int64_at_impl_wornPlaceCode_1 places2 f0).bind fun t_2 => (impl_unless (!t_2) 2).bind fun t_3 => some t_3)
set_option maxRecDepth 100000 in
theorem impl_wornPlaceCode.calls (f0 : GFrame) (w1 : GWear) (places2 : List (Arr 2 Int)) (w : World) (r : Int) (f0_fHammers_a : Option Addr) (f0_fHammers_an : Nat) (f0_fHammers_c : Nat) (f0_fHammers_h : Rw w f0_fHammers_a 2 encGHammer f0.fHammers) (f0_fHammers_hn : f0.fHammers.length = f0_fHammers_an) (w1_fPins_a : Option Addr) (w1_fPins_an : Nat) (w1_fPins_c : Nat) (w1_fPins_h : Rw w w1_fPins_a 3 encGWornPin w1.fPins) (w1_fPins_hn : w1.fPins.length = w1_fPins_an) (w1_fStrokes_a : Option Addr) (w1_fStrokes_an : Nat) (w1_fStrokes_c : Nat) (w1_fStrokes_h : Rw w w1_fStrokes_a 1 encI64 w1.fStrokes) (w1_fStrokes_hn : w1.fStrokes.length = w1_fStrokes_an) (places2_a : Option Addr) (places2_an : Nat) (places2_c : Nat) (places2_h : Rw w places2_a 2 encA2I64 places2) (places2_hn : places2.length = places2_an) (h : impl_wornPlaceCode f0 w1 places2 = some r) :
    Calls Tryz.prog 80 #[(.agg #[(.int .i16 f0.fSteps), (.slice f0_fHammers_a f0_fHammers_an f0_fHammers_c)]), (.agg #[(.slice w1_fPins_a w1_fPins_an w1_fPins_c), (.slice w1_fStrokes_a w1_fStrokes_an w1_fStrokes_c)]), (.slice places2_a places2_an places2_c)] w fun e w' => ∃ v, e = .returned v ∧ (v = (.int .i64 r) ∧ Mem w [] [] w') := by
  subst f0_fHammers_hn w1_fPins_hn w1_fStrokes_hn places2_hn
  rw [impl_wornPlaceCode] at h
  refine enter (args := [(.agg #[(.int .i16 f0.fSteps), (.slice f0_fHammers_a f0.fHammers.length f0_fHammers_c)]), (.agg #[(.slice w1_fPins_a w1.fPins.length w1_fPins_c), (.slice w1_fStrokes_a w1.fStrokes.length w1_fStrokes_c)]), (.slice places2_a places2.length places2_c)]) Tryz.func80 rfl Tryz.ntmps80 (by kernel_rfl) (L := []) (W := []) (Mem.start w) ?_
  refine jc_seq ?_
  refine jc_region ?_
  refine toO (by kernel_rfl) (p_a 0 [0] (by kernel_rfl) (fun b => by kernel_rfl) (fun b_1 => jkO ?_))
  refine toO (by kernel_rfl) (p_a 0 [0] (by kernel_rfl) (fun b => by kernel_rfl) (fun b_2 => jkO ?_))
  refine jo_f [(0, 0)] (by kernel_rfl) ?_
  refine jo_end (by kernel_rfl) ?_
  refine jx_then ?_
  refine jc_seq ?_
  refine jc_seq ?_
  refine jc_region ?_
  refine jo_f [(0, 0), (1, 0)] (by kernel_rfl) ?_
  obtain ⟨t_1, ht_5, h⟩ := bd h
  refine toO (by kernel_rfl) (p_call 0 63 #[(.agg #[(.int .i16 f0.fSteps), (.slice f0_fHammers_a f0.fHammers.length f0_fHammers_c)]), (.agg #[(.slice w1_fPins_a w1.fPins.length w1_fPins_c), (.slice w1_fStrokes_a w1.fStrokes.length w1_fStrokes_c)]), (.slice none 0 0)] (by kernel_rfl) (by kernel_rfl) (fun w hm => impl_wearCode.calls f0 w1 [] w _ f0_fHammers_a f0.fHammers.length f0_fHammers_c (hm.exRow f0_fHammers_h List.not_mem_nil) rfl w1_fPins_a w1.fPins.length w1_fPins_c (hm.exRow w1_fPins_h List.not_mem_nil) rfl w1_fStrokes_a w1.fStrokes.length w1_fStrokes_c (hm.exRow w1_fStrokes_h List.not_mem_nil) rfl none 0 0 Rw.nil rfl ht_5) ?_)
  rintro w v w' hm ⟨rfl, hm'⟩
  refine ⟨_, hm.app hm', jkO ?_⟩
  clear hm hm'
  refine jo_f [(0, 0)] (by kernel_rfl) ?_
  refine jo_end (by kernel_rfl) ?_
  refine jx_then ?_
  refine jc_seq ?_
  refine jc_region ?_
  refine jo_f [(0, 0), (0, 0)] (by kernel_rfl) ?_
  refine jo_end (by kernel_rfl) ?_
  refine jx_then ?_
  refine jc_cond (t_1 != 0) (by kernel_rfl) (fun hc_6 => ?_) (fun hc_6 => ?_)
  · replace h := ifT hc_6 h
    refine jc_seq ?_
    refine jc_region ?_
    refine jo_f [(0, 0), (0, 0)] (by kernel_rfl) ?_
    refine jo_end (by kernel_rfl) ?_
    refine jx_then ?_
    refine jc_ret ?_
    refine jx_thenr ?_
    obtain rfl := Option.some.inj h
    exact jx_ret [] (.int .i64 t_1) [] rfl (by kernel_rfl) (by kernel_rfl) (fun w hm => ⟨rfl, hm.pick [] (by kernel_rfl) (by kernel_rfl)⟩)
  · replace h := ifF hc_6 h
    refine jc_skip ?_
    refine jx_then ?_
    refine jc_seq ?_
    refine jc_region ?_
    refine jo_f [(0, 0), (0, 0)] (by kernel_rfl) ?_
    obtain ⟨t_2, ht_7, h⟩ := bd h
    refine toO (by kernel_rfl) (p_call 0 109 #[(.slice places2_a places2.length places2_c), (.func (.func 110) #[] #[(.pointer (some ⟨b_1, 0, none⟩))])] (by kernel_rfl) (by kernel_rfl) (fun w hm => slices_ContainsFunc_2int64_at_impl_wornPlaceCode_1.calls places2 f0 w _ places2_a places2.length places2_c (hm.exRow places2_h List.not_mem_nil) rfl f0_fHammers_a f0.fHammers.length f0_fHammers_c (hm.exRow f0_fHammers_h List.not_mem_nil) rfl b_1 (hm.pass (N := [⟨some b_1, 43, [(.int .i16 f0.fSteps), (.slice f0_fHammers_a f0.fHammers.length f0_fHammers_c)]⟩]) [0] (by kernel_rfl) (by kernel_rfl)) (hm.exApart (N := [⟨some b_1, 43, [(.int .i16 f0.fSteps), (.slice f0_fHammers_a f0.fHammers.length f0_fHammers_c)]⟩]) places2_h (fun _ => List.not_mem_nil) [0] (by kernel_rfl)) (hm.exApart (N := [⟨some b_1, 43, [(.int .i16 f0.fSteps), (.slice f0_fHammers_a f0.fHammers.length f0_fHammers_c)]⟩]) f0_fHammers_h (fun _ => List.not_mem_nil) [0] (by kernel_rfl)) ht_7) ?_)
    rintro w v w' hm ⟨rfl, hm'⟩
    refine ⟨_, hm.appW (ps := [(0, ⟨some b_1, 43, [(.int .i16 f0.fSteps), (.slice f0_fHammers_a f0.fHammers.length f0_fHammers_c)]⟩)]) (N := []) hm' (by kernel_rfl) (by kernel_rfl), jkO ?_⟩
    clear hm hm'
    refine jo_f [(0, 0)] (by kernel_rfl) ?_
    obtain ⟨t_3, ht_8, h⟩ := bd h
    refine toO (by kernel_rfl) (p_call 0 64 #[(.bool (!t_2)), (.int .i64 2)] (by kernel_rfl) (by kernel_rfl) (fun w hm => impl_unless.calls (!t_2) 2 w _ ht_8) ?_)
    rintro w v w' hm ⟨rfl, hm'⟩
    refine ⟨_, hm.app hm', jkO ?_⟩
    clear hm hm'
    refine jo_f [(0, 0)] (by kernel_rfl) ?_
    refine jo_end (by kernel_rfl) ?_
    refine jx_then ?_
    refine jc_ret ?_
    obtain rfl := Option.some.inj h
    exact jx_ret [] (.int .i64 t_3) [] rfl (by kernel_rfl) (by kernel_rfl) (fun w hm => ⟨rfl, hm.pick [] (by kernel_rfl) (by kernel_rfl)⟩)

/-! ### (impl.Wear).at$1 -/
noncomputable def impl_Wear_at_1 (p0 : GWornPin) (p1 : Int) (p2 : Int) : Option (Bool) := some (((w64 p0.fStep) == p1) && ((w64 p0.fTrack) == p2))
set_option maxRecDepth 100000 in
theorem impl_Wear_at_1.calls (p0 : GWornPin) (p1 : Int) (p2 : Int) (w : World) (r : Bool) (p1_b : Nat) (p2_b : Nat) (hm0 : Mem w (bs [some p1_b, some p2_b]) [⟨some p1_b, 2, [(.int .i64 p1)]⟩, ⟨some p2_b, 2, [(.int .i64 p2)]⟩] w) (h : impl_Wear_at_1 p0 p1 p2 = some r) :
    Calls Tryz.prog 113 #[(.agg #[(.int .i8 p0.fStep), (.int .i8 p0.fTrack), (.int .i64 p0.fTurns)]), (.pointer (some ⟨p1_b, 0, none⟩)), (.pointer (some ⟨p2_b, 0, none⟩))] w fun e w' => ∃ v, e = .returned v ∧ (v = (.bool r) ∧ Mem w (bs [some p1_b, some p2_b]) [⟨some p1_b, 2, [(.int .i64 p1)]⟩, ⟨some p2_b, 2, [(.int .i64 p2)]⟩] w') := by
  rw [impl_Wear_at_1] at h
  refine enter (args := [(.agg #[(.int .i8 p0.fStep), (.int .i8 p0.fTrack), (.int .i64 p0.fTurns)]), (.pointer (some ⟨p1_b, 0, none⟩)), (.pointer (some ⟨p2_b, 0, none⟩))]) Tryz.func113 rfl Tryz.ntmps113 (by kernel_rfl) (L := [⟨some p1_b, 2, [(.int .i64 p1)]⟩, ⟨some p2_b, 2, [(.int .i64 p2)]⟩]) (W := bs [some p1_b, some p2_b]) hm0 ?_
  refine jc_seq ?_
  refine jc_region ?_
  refine toO (by kernel_rfl) (p_a 0 [0] (by kernel_rfl) (fun b => by kernel_rfl) (fun b_1 => jkO ?_))
  refine jo_f [(0, 0)] (by kernel_rfl) ?_
  refine jo_end (by kernel_rfl) ?_
  refine jx_then ?_
  refine jc_seq ?_
  refine jc_region ?_
  refine jo_f [(0, 0), (2, 0), (0, 0), (0, 0), (0, 0), (0, 0), (0, 1), (2, 1), (0, 1), (1, 1), (0, 1), (0, 0), (0, 0)] (by kernel_rfl) ?_
  refine jo_end (by kernel_rfl) ?_
  refine jx_then ?_
  refine jc_ret ?_
  obtain rfl := Option.some.inj h
  exact jx_ret [] (.bool (((w64 p0.fStep) == p1) && ((w64 p0.fTrack) == p2))) [] rfl (by kernel_rfl) (by kernel_rfl) (fun w hm => ⟨rfl, hm.pick [0, 1] (by kernel_rfl) (by kernel_rfl)⟩)

/-! ### slices.IndexFunc[[]impl.WornPin,impl.WornPin] -/
noncomputable def slices_IndexFunc_WornPin_at_impl_Wear_at_1.k_1 : Option (Int) := some (-1)
noncomputable def slices_IndexFunc_WornPin_at_impl_Wear_at_1.l_3 (s0 : List GWornPin) (g1c0 : Int) (g1c1 : Int) : Int → Option ((Int) ⊕ (Int ⊕ Unit))
  | i_2 => (if (decide (i_2 < (s0.length : Int))) = true then (ix s0 i_2).bind fun x_5 => (impl_Wear_at_1 x_5 g1c0 g1c1).bind fun t_6 => (if t_6 = true then some (.inr (.inl i_2)) else some (.inl (w64 (i_2 + 1)))) else some (.inr (.inr ())))
noncomputable def slices_IndexFunc_WornPin_at_impl_Wear_at_1 (s0 : List GWornPin) (g1c0 : Int) (g1c1 : Int) : Option (Int) := (loop (slices_IndexFunc_WornPin_at_impl_Wear_at_1.l_3 s0 g1c0 g1c1) 0).bind fun t_4 => match t_4 with | .inl p => some p | .inr p => slices_IndexFunc_WornPin_at_impl_Wear_at_1.k_1
set_option maxRecDepth 100000 in
theorem slices_IndexFunc_WornPin_at_impl_Wear_at_1.calls (s0 : List GWornPin) (g1c0 : Int) (g1c1 : Int) (w : World) (r : Int) (s0_a : Option Addr) (s0_an : Nat) (s0_c : Nat) (s0_h : Rw w s0_a 3 encGWornPin s0) (s0_hn : s0.length = s0_an) (g1c0_b : Nat) (g1c1_b : Nat) (hm0 : Mem w (bs [some g1c0_b, some g1c1_b]) [⟨some g1c0_b, 2, [(.int .i64 g1c0)]⟩, ⟨some g1c1_b, 2, [(.int .i64 g1c1)]⟩] w) (s0_ha : s0 ≠ [] → aB s0_a ∉ bs [some g1c0_b, some g1c1_b]) (h : slices_IndexFunc_WornPin_at_impl_Wear_at_1 s0 g1c0 g1c1 = some r) :
    Calls Tryz.prog 112 #[(.slice s0_a s0_an s0_c), (.func (.func 113) #[] #[(.pointer (some ⟨g1c0_b, 0, none⟩)), (.pointer (some ⟨g1c1_b, 0, none⟩))])] w fun e w' => ∃ v, e = .returned v ∧ (v = (.int .i64 r) ∧ Mem w (bs [some g1c0_b, some g1c1_b]) [⟨some g1c0_b, 2, [(.int .i64 g1c0)]⟩, ⟨some g1c1_b, 2, [(.int .i64 g1c1)]⟩] w') := by
  subst s0_hn
  rw [slices_IndexFunc_WornPin_at_impl_Wear_at_1] at h
  refine enter (args := [(.slice s0_a s0.length s0_c), (.func (.func 113) #[] #[(.pointer (some ⟨g1c0_b, 0, none⟩)), (.pointer (some ⟨g1c1_b, 0, none⟩))])]) Tryz.func112 rfl Tryz.ntmps112 (by kernel_rfl) (L := [⟨some g1c0_b, 2, [(.int .i64 g1c0)]⟩, ⟨some g1c1_b, 2, [(.int .i64 g1c1)]⟩]) (W := bs [some g1c0_b, some g1c1_b]) hm0 ?_
  refine jc_seq ?_
  refine jc_region ?_
  refine jo_f [(0, 0)] (by kernel_rfl) ?_
  refine jo_end (by kernel_rfl) ?_
  refine jx_then ?_
  refine jc_seq ?_
  refine jc_seq ?_
  refine jc_region ?_
  refine jo_f [(0, 0), (0, 0), (0, 0)] (by kernel_rfl) ?_
  refine jo_end (by kernel_rfl) ?_
  refine jx_then ?_
  refine jc_meet (fun (_ : Unit) => slices_IndexFunc_WornPin_at_impl_Wear_at_1.k_1 = some r) (fun (_ : Unit) => [(4, [], (.int .i64 0))]) (fun (_ : Unit) => [⟨some g1c0_b, 2, [(.int .i64 g1c0)]⟩, ⟨some g1c1_b, 2, [(.int .i64 g1c1)]⟩]) ?_ ?_
  · refine jc_block ?_
    obtain ⟨t_4, ht_40, hr_31⟩ := bd h
    refine jc_loop (fun (s : Int) (x : Unit) => match s, x with | i_2, _ => True) (fun (s : Int) (x : Unit) => match s, x with | i_2, _ => [(0, [], (.slice s0_a s0.length s0_c)), (1, [], (.func (.func 113) #[] #[(.pointer (some ⟨g1c0_b, 0, none⟩)), (.pointer (some ⟨g1c1_b, 0, none⟩))])), (4, [], (.int .i64 0)), (7, [], (.int .i64 (s0.length : Int))), (8, [], (.int .i64 i_2))]) (fun (s : Int) (x : Unit) => match s, x with | i_2, _ => [⟨some g1c0_b, 2, [(.int .i64 g1c0)]⟩, ⟨some g1c1_b, 2, [(.int .i64 g1c1)]⟩]) ht_40 () trivial (by kernel_rfl) [0, 1] (by kernel_rfl) (by kernel_rfl) ?_
    rintro i_2 _ y_32 _ h
    rw [slices_IndexFunc_WornPin_at_impl_Wear_at_1.l_3] at h
    refine jc_seq ?_
    refine jc_region ?_
    refine jo_f [(0, 0)] (by kernel_rfl) ?_
    refine jo_end (by kernel_rfl) ?_
    refine jx_then ?_
    refine jc_seq ?_
    refine jc_cond (decide (i_2 < (s0.length : Int))) (by kernel_rfl) (fun hc_34 => ?_) (fun hc_34 => ?_)
    · replace h := ifT hc_34 h
      refine jc_skip ?_
      refine jx_then ?_
      refine jc_seq ?_
      refine jc_block ?_
      refine jc_seq ?_
      refine jc_region ?_
      refine jo_f [(0, 0), (0, 0)] (by kernel_rfl) ?_
      refine jo_end (by kernel_rfl) ?_
      refine jx_then ?_
      refine jc_seq ?_
      refine jc_region ?_
      refine jo_f [(0, 0), (0, 0), (0, 0)] (by kernel_rfl) ?_
      obtain ⟨x_5, hx_35, h⟩ := bd h
      refine toO (by kernel_rfl) (p_idx 0 s0_a s0.length i_2 3 (by kernel_rfl) (by kernel_rfl) (ix_some hx_35).1 (ltn hx_35 rfl) (s0_h.sp hx_35) (jkO ?_))
      refine toO (by kernel_rfl) (p_ld 0 (aB s0_a) (aO s0_a + i_2.toNat * 3) true (encGWornPin x_5) (by kernel_rfl) (by kernel_rfl) (by kernel_rfl) (fun w hm => ((hm.exRowW s0_h s0_ha).at hx_35)) (jkO ?_))
      obtain ⟨t_6, ht_36, h⟩ := bd h
      refine toO (by kernel_rfl) (p_call 0 113 #[(.agg #[(.int .i8 x_5.fStep), (.int .i8 x_5.fTrack), (.int .i64 x_5.fTurns)]), (.pointer (some ⟨g1c0_b, 0, none⟩)), (.pointer (some ⟨g1c1_b, 0, none⟩))] (by kernel_rfl) (by kernel_rfl) (fun w hm => impl_Wear_at_1.calls x_5 g1c0 g1c1 w _ g1c0_b g1c1_b (hm.pass (N := [⟨some g1c0_b, 2, [(.int .i64 g1c0)]⟩, ⟨some g1c1_b, 2, [(.int .i64 g1c1)]⟩]) [0, 1] (by kernel_rfl) (by kernel_rfl)) ht_36) ?_)
      rintro w v w' hm ⟨rfl, hm'⟩
      refine ⟨_, hm.appW (ps := [(0, ⟨some g1c0_b, 2, [(.int .i64 g1c0)]⟩), (1, ⟨some g1c1_b, 2, [(.int .i64 g1c1)]⟩)]) (N := []) hm' (by kernel_rfl) (by kernel_rfl), jkO ?_⟩
      clear hm hm'
      refine jo_end (by kernel_rfl) ?_
      refine jx_then ?_
      refine jc_cond t_6 (by kernel_rfl) (fun hc_37 => ?_) (fun hc_37 => ?_)
      · replace h := ifT hc_37 h
        refine jc_seq ?_
        refine jc_region ?_
        refine jo_f [(0, 0), (0, 0)] (by kernel_rfl) ?_
        refine jo_end (by kernel_rfl) ?_
        refine jx_then ?_
        refine jc_ret ?_
        refine jx_inr ?_
        refine jx_thenr ?_
        refine jx_leaver (.inl i_2) (Option.some.inj h).symm (fun e_38 => ?_)
        subst e_38
        refine jx_inr ?_
        refine jx_thenr ?_
        refine jx_thenr ?_
        obtain rfl := Option.some.inj hr_31
        exact jx_ret [] (.int .i64 i_2) [] rfl (by kernel_rfl) (by kernel_rfl) (fun w hm => ⟨rfl, hm.pick [0, 1] (by kernel_rfl) (by kernel_rfl)⟩)
      · replace h := ifF hc_37 h
        refine jc_skip ?_
        refine jx_inn ?_
        refine jx_then ?_
        refine jc_region ?_
        refine jo_f [(0, 0), (0, 0)] (by kernel_rfl) ?_
        refine jo_end (by kernel_rfl) ?_
        exact jx_back (w64 (i_2 + 1)) () (Option.some.inj h).symm trivial [0, 1] (by kernel_rfl) (by kernel_rfl) (by kernel_rfl)
    · replace h := ifF hc_34 h
      refine jc_exit ?_
      refine jx_thenx ?_
      refine jx_leave (.inr ()) (Option.some.inj h).symm (fun e_39 => ?_)
      subst e_39
      refine jx_ine ?_
      exact jx_meet () hr_31 (by kernel_rfl) [0, 1] (by kernel_rfl) (by kernel_rfl)
  · rintro _ h
    replace h : slices_IndexFunc_WornPin_at_impl_Wear_at_1.k_1 = some r := h
    rw [slices_IndexFunc_WornPin_at_impl_Wear_at_1.k_1] at h
    refine jx_then ?_
    refine jc_seq ?_
    refine jc_region ?_
    refine jo_f [(0, 0)] (by kernel_rfl) ?_
    refine jo_end (by kernel_rfl) ?_
    refine jx_then ?_
    refine jc_ret ?_
    obtain rfl := Option.some.inj h
    exact jx_ret [] (.int .i64 (-1)) [] rfl (by kernel_rfl) (by kernel_rfl) (fun w hm => ⟨rfl, hm.pick [0, 1] (by kernel_rfl) (by kernel_rfl)⟩)

/-! ### (impl.Wear).at -/
noncomputable def impl_Wear_at (w0 : GWear) (step1 : Int) (track2 : Int) : Option (Int) := (slices_IndexFunc_WornPin_at_impl_Wear_at_1 w0.fPins step1 track2).bind fun t_1 => some t_1
set_option maxRecDepth 100000 in
theorem impl_Wear_at.calls (w0 : GWear) (step1 : Int) (track2 : Int) (w : World) (r : Int) (w0_fPins_a : Option Addr) (w0_fPins_an : Nat) (w0_fPins_c : Nat) (w0_fPins_h : Rw w w0_fPins_a 3 encGWornPin w0.fPins) (w0_fPins_hn : w0.fPins.length = w0_fPins_an) (w0_fStrokes_a : Option Addr) (w0_fStrokes_an : Nat) (w0_fStrokes_c : Nat) (w0_fStrokes_h : Rw w w0_fStrokes_a 1 encI64 w0.fStrokes) (w0_fStrokes_hn : w0.fStrokes.length = w0_fStrokes_an) (h : impl_Wear_at w0 step1 track2 = some r) :
    Calls Tryz.prog 81 #[(.agg #[(.slice w0_fPins_a w0_fPins_an w0_fPins_c), (.slice w0_fStrokes_a w0_fStrokes_an w0_fStrokes_c)]), (.int .i64 step1), (.int .i64 track2)] w fun e w' => ∃ v, e = .returned v ∧ (v = (.int .i64 r) ∧ Mem w [] [] w') := by
  subst w0_fPins_hn w0_fStrokes_hn
  rw [impl_Wear_at] at h
  refine enter (args := [(.agg #[(.slice w0_fPins_a w0.fPins.length w0_fPins_c), (.slice w0_fStrokes_a w0.fStrokes.length w0_fStrokes_c)]), (.int .i64 step1), (.int .i64 track2)]) Tryz.func81 rfl Tryz.ntmps81 (by kernel_rfl) (L := []) (W := []) (Mem.start w) ?_
  refine jc_seq ?_
  refine jc_region ?_
  refine toO (by kernel_rfl) (p_a 0 [0] (by kernel_rfl) (fun b => by kernel_rfl) (fun b_1 => jkO ?_))
  refine toO (by kernel_rfl) (p_a 0 [0] (by kernel_rfl) (fun b => by kernel_rfl) (fun b_2 => jkO ?_))
  refine toO (by kernel_rfl) (p_a 0 [0] (by kernel_rfl) (fun b => by kernel_rfl) (fun b_3 => jkO ?_))
  refine jo_f [(0, 0)] (by kernel_rfl) ?_
  refine jo_end (by kernel_rfl) ?_
  refine jx_then ?_
  refine jc_seq ?_
  refine jc_region ?_
  refine jo_f [(0, 0), (0, 0), (0, 0)] (by kernel_rfl) ?_
  obtain ⟨t_1, ht_4, h⟩ := bd h
  refine toO (by kernel_rfl) (p_call 0 112 #[(.slice w0_fPins_a w0.fPins.length w0_fPins_c), (.func (.func 113) #[] #[(.pointer (some ⟨b_2, 0, none⟩)), (.pointer (some ⟨b_3, 0, none⟩))])] (by kernel_rfl) (by kernel_rfl) (fun w hm => slices_IndexFunc_WornPin_at_impl_Wear_at_1.calls w0.fPins step1 track2 w _ w0_fPins_a w0.fPins.length w0_fPins_c (hm.exRow w0_fPins_h List.not_mem_nil) rfl b_2 b_3 (hm.pass (N := [⟨some b_2, 2, [(.int .i64 step1)]⟩, ⟨some b_3, 2, [(.int .i64 track2)]⟩]) [1, 2] (by kernel_rfl) (by kernel_rfl)) (hm.exApart (N := [⟨some b_2, 2, [(.int .i64 step1)]⟩, ⟨some b_3, 2, [(.int .i64 track2)]⟩]) w0_fPins_h (fun _ => List.not_mem_nil) [1, 2] (by kernel_rfl)) ht_4) ?_)
  rintro w v w' hm ⟨rfl, hm'⟩
  refine ⟨_, hm.appW (ps := [(1, ⟨some b_2, 2, [(.int .i64 step1)]⟩), (2, ⟨some b_3, 2, [(.int .i64 track2)]⟩)]) (N := []) hm' (by kernel_rfl) (by kernel_rfl), jkO ?_⟩
  clear hm hm'
  refine jo_f [(0, 0)] (by kernel_rfl) ?_
  refine jo_end (by kernel_rfl) ?_
  refine jx_then ?_
  refine jc_ret ?_
  obtain rfl := Option.some.inj h
  exact jx_ret [] (.int .i64 t_1) [] rfl (by kernel_rfl) (by kernel_rfl) (fun w hm => ⟨rfl, hm.pick [] (by kernel_rfl) (by kernel_rfl)⟩)

/-! ### slices.Clone[[]impl.WornPin,impl.WornPin] -/
noncomputable def slices_Clone_WornPin (s0 : List GWornPin) : Option ((List GWornPin)) := (if ([] : List GWornPin).length + s0.length ≤ 4294967296 then some (([] : List GWornPin) ++ s0) else none)
set_option maxRecDepth 100000 in
theorem slices_Clone_WornPin.calls (s0 : List GWornPin) (w : World) (r : (List GWornPin)) (s0_a : Option Addr) (s0_an : Nat) (s0_c : Nat) (s0_h : Rw w s0_a 3 encGWornPin s0) (s0_hn : s0.length = s0_an) (h : slices_Clone_WornPin s0 = some r) :
    Calls Tryz.prog 117 #[(.slice s0_a s0_an s0_c)] w fun e w' => ∃ v, e = .returned v ∧ (∃ (o0 : Option Nat) (c0 : Nat) (s0 : List Value) (n0 : Nat), r.length = n0 ∧ (o0 ≠ none → n0 ≤ c0 ∧ s0.length = (c0 - n0) * 3) ∧ (o0 = none → r = [] ∧ c0 = 0) ∧ v = .slice (o0.map fun b => ⟨b, 0, none⟩) n0 c0 ∧ Mem w [] [⟨o0, 75, row encGWornPin r s0⟩] w') := by
  subst s0_hn
  rw [slices_Clone_WornPin] at h
  refine enter (args := [(.slice s0_a s0.length s0_c)]) Tryz.func117 rfl Tryz.ntmps117 (by kernel_rfl) (L := []) (W := []) (Mem.start w) ?_
  refine jc_seq ?_
  refine jc_region ?_
  refine jo_f [(0, 0)] (by kernel_rfl) ?_
  refine jo_end (by kernel_rfl) ?_
  refine jx_then ?_
  refine jc_seq ?_
  refine jc_seq ?_
  refine jc_region ?_
  refine jo_f [(0, 0)] (by kernel_rfl) ?_
  by_cases hn_4 : s0_a = none
  · have hx0 : s0 = [] := (nil_of s0_h hn_4)
    replace h : some [] = some r := by simpa [hx0] using h
    refine toO (by kernel_rfl) (p_nil 0 s0_a true true (by kernel_rfl) (by kernel_rfl) (by rw [hn_4]; rfl) (jkO ?_))
    refine jo_end (by kernel_rfl) ?_
    refine jx_then ?_
    refine jc_cond true (by kernel_rfl) (fun hc_5 => ?_) (fun hc_5 => nomatch hc_5)
    refine jc_seq ?_
    refine jc_region ?_
    refine jo_f [(0, 0)] (by kernel_rfl) ?_
    refine jo_end (by kernel_rfl) ?_
    refine jx_then ?_
    refine jc_ret ?_
    refine jx_thenr ?_
    obtain rfl := Option.some.inj h
    refine jx_ghost 75 encGWornPin ?_
    exact jx_ret [] (.slice none 0 0) [] rfl (by kernel_rfl) (by kernel_rfl) (fun w hm => ⟨none, 0, [], 0, rfl, (fun e => absurd rfl e), (fun _ => ⟨rfl, rfl⟩), rfl, hm.pick [0] (by kernel_rfl) (by kernel_rfl)⟩)
  · refine toO (by kernel_rfl) (p_nil 0 s0_a true false (by kernel_rfl) (by kernel_rfl) (by rw [Option.isNone_eq_false_iff.2 (Option.ne_none_iff_isSome.1 hn_4)]; rfl) (jkO ?_))
    refine jo_end (by kernel_rfl) ?_
    refine jx_then ?_
    refine jc_cond false (by kernel_rfl) (fun hc_6 => nomatch hc_6) (fun hc_6 => ?_)
    refine jc_skip ?_
    refine jx_then ?_
    refine jc_seq ?_
    refine jc_region ?_
    refine toO (by kernel_rfl) (p_a 0 [0] (by kernel_rfl) (fun b => by kernel_rfl) (fun b_7 => jkO ?_))
    refine jo_f [(0, 0)] (by kernel_rfl) ?_
    obtain ⟨hg_8, h⟩ := gd h
    refine toO (by kernel_rfl) (p_apn 0 0 (some b_7) 75 0 s0.length 0 3 16 s0_a encGWornPin ([] : List GWornPin) s0 [] (.agg #[(.int .i8 0), (.int .i8 0), (.int .i64 0)]) rfl rfl (by kernel_rfl) (by kernel_rfl) (by kernel_rfl) encGWornPin_len encGWornPin_cell (fun _ => ⟨Nat.le_refl _, by simp⟩) (fun e => nomatch e) (fun w hm => (hm.exRow s0_h List.not_mem_nil)) hg_8 (by kernel_rfl) (by kernel_rfl) (fun o_9 cap_10 sp_11 hs_12 ho_13 => jkO ?_))
    refine jo_f [(0, 0)] (by kernel_rfl) ?_
    refine jo_end (by kernel_rfl) ?_
    refine jx_then ?_
    refine jc_ret ?_
    obtain rfl := Option.some.inj h
    exact jx_ret [] (.slice (o_9.map fun b => ⟨b, 0, none⟩) ((([] : List GWornPin) ++ s0).length) cap_10) [] rfl (by kernel_rfl) (by kernel_rfl) (fun w hm => ⟨o_9, cap_10, sp_11, ((([] : List GWornPin) ++ s0).length), rfl, hs_12, ho_13, rfl, hm.pick [0] (by kernel_rfl) (by kernel_rfl)⟩)

/-! ### slices.Clone[[]int64,int64] -/
noncomputable def slices_Clone_int64 (s0 : List Int) : Option ((List Int)) := (if ([] : List Int).length + s0.length ≤ 4294967296 then some (([] : List Int) ++ s0) else none)
set_option maxRecDepth 100000 in
theorem slices_Clone_int64.calls (s0 : List Int) (w : World) (r : (List Int)) (s0_a : Option Addr) (s0_an : Nat) (s0_c : Nat) (s0_h : Rw w s0_a 1 encI64 s0) (s0_hn : s0.length = s0_an) (h : slices_Clone_int64 s0 = some r) :
    Calls Tryz.prog 118 #[(.slice s0_a s0_an s0_c)] w fun e w' => ∃ v, e = .returned v ∧ (∃ (o0 : Option Nat) (c0 : Nat) (s0 : List Value) (n0 : Nat), r.length = n0 ∧ (o0 ≠ none → n0 ≤ c0 ∧ s0.length = (c0 - n0) * 1) ∧ (o0 = none → r = [] ∧ c0 = 0) ∧ v = .slice (o0.map fun b => ⟨b, 0, none⟩) n0 c0 ∧ Mem w [] [⟨o0, 2, row encI64 r s0⟩] w') := by
  subst s0_hn
  rw [slices_Clone_int64] at h
  refine enter (args := [(.slice s0_a s0.length s0_c)]) Tryz.func118 rfl Tryz.ntmps118 (by kernel_rfl) (L := []) (W := []) (Mem.start w) ?_
  refine jc_seq ?_
  refine jc_region ?_
  refine jo_f [(0, 0)] (by kernel_rfl) ?_
  refine jo_end (by kernel_rfl) ?_
  refine jx_then ?_
  refine jc_seq ?_
  refine jc_seq ?_
  refine jc_region ?_
  refine jo_f [(0, 0)] (by kernel_rfl) ?_
  by_cases hn_4 : s0_a = none
  · have hx0 : s0 = [] := (nil_of s0_h hn_4)
    replace h : some [] = some r := by simpa [hx0] using h
    refine toO (by kernel_rfl) (p_nil 0 s0_a true true (by kernel_rfl) (by kernel_rfl) (by rw [hn_4]; rfl) (jkO ?_))
    refine jo_end (by kernel_rfl) ?_
    refine jx_then ?_
    refine jc_cond true (by kernel_rfl) (fun hc_5 => ?_) (fun hc_5 => nomatch hc_5)
    refine jc_seq ?_
    refine jc_region ?_
    refine jo_f [(0, 0)] (by kernel_rfl) ?_
    refine jo_end (by kernel_rfl) ?_
    refine jx_then ?_
    refine jc_ret ?_
    refine jx_thenr ?_
    obtain rfl := Option.some.inj h
    refine jx_ghost 2 encI64 ?_
    exact jx_ret [] (.slice none 0 0) [] rfl (by kernel_rfl) (by kernel_rfl) (fun w hm => ⟨none, 0, [], 0, rfl, (fun e => absurd rfl e), (fun _ => ⟨rfl, rfl⟩), rfl, hm.pick [0] (by kernel_rfl) (by kernel_rfl)⟩)
  · refine toO (by kernel_rfl) (p_nil 0 s0_a true false (by kernel_rfl) (by kernel_rfl) (by rw [Option.isNone_eq_false_iff.2 (Option.ne_none_iff_isSome.1 hn_4)]; rfl) (jkO ?_))
    refine jo_end (by kernel_rfl) ?_
    refine jx_then ?_
    refine jc_cond false (by kernel_rfl) (fun hc_6 => nomatch hc_6) (fun hc_6 => ?_)
    refine jc_skip ?_
    refine jx_then ?_
    refine jc_seq ?_
    refine jc_region ?_
    refine toO (by kernel_rfl) (p_a 0 [0] (by kernel_rfl) (fun b => by kernel_rfl) (fun b_7 => jkO ?_))
    refine jo_f [(0, 0)] (by kernel_rfl) ?_
    obtain ⟨hg_8, h⟩ := gd h
    refine toO (by kernel_rfl) (p_apn 0 0 (some b_7) 2 0 s0.length 0 1 8 s0_a encI64 ([] : List Int) s0 [] (.int .i64 0) rfl rfl (by kernel_rfl) (by kernel_rfl) (by kernel_rfl) encI64_len encI64_cell (fun _ => ⟨Nat.le_refl _, by simp⟩) (fun e => nomatch e) (fun w hm => (hm.exRow s0_h List.not_mem_nil)) hg_8 (by kernel_rfl) (by kernel_rfl) (fun o_9 cap_10 sp_11 hs_12 ho_13 => jkO ?_))
    refine jo_f [(0, 0)] (by kernel_rfl) ?_
    refine jo_end (by kernel_rfl) ?_
    refine jx_then ?_
    refine jc_ret ?_
    obtain rfl := Option.some.inj h
    exact jx_ret [] (.slice (o_9.map fun b => ⟨b, 0, none⟩) ((([] : List Int) ++ s0).length) cap_10) [] rfl (by kernel_rfl) (by kernel_rfl) (fun w hm => ⟨o_9, cap_10, sp_11, ((([] : List Int) ++ s0).length), rfl, hs_12, ho_13, rfl, hm.pick [0] (by kernel_rfl) (by kernel_rfl)⟩)

/-! ### (impl.Wear).own -/
noncomputable def impl_Wear_own (w0 : GWear) : Option (GWear) := (slices_Clone_WornPin w0.fPins).bind fun t_1 => (slices_Clone_int64 w0.fStrokes).bind fun t_2 => some (⟨t_1, t_2⟩ : GWear)
set_option maxRecDepth 100000 in
theorem impl_Wear_own.calls (w0 : GWear) (w : World) (r : GWear) (w0_fPins_a : Option Addr) (w0_fPins_an : Nat) (w0_fPins_c : Nat) (w0_fPins_h : Rw w w0_fPins_a 3 encGWornPin w0.fPins) (w0_fPins_hn : w0.fPins.length = w0_fPins_an) (w0_fStrokes_a : Option Addr) (w0_fStrokes_an : Nat) (w0_fStrokes_c : Nat) (w0_fStrokes_h : Rw w w0_fStrokes_a 1 encI64 w0.fStrokes) (w0_fStrokes_hn : w0.fStrokes.length = w0_fStrokes_an) (h : impl_Wear_own w0 = some r) :
    Calls Tryz.prog 84 #[(.agg #[(.slice w0_fPins_a w0_fPins_an w0_fPins_c), (.slice w0_fStrokes_a w0_fStrokes_an w0_fStrokes_c)])] w fun e w' => ∃ v, e = .returned v ∧ (∃ (o0 : Option Nat) (c0 : Nat) (s0 : List Value) (n0 : Nat), r.fPins.length = n0 ∧ (o0 ≠ none → n0 ≤ c0 ∧ s0.length = (c0 - n0) * 3) ∧ (o0 = none → r.fPins = [] ∧ c0 = 0) ∧ ∃ (o1 : Option Nat) (c1 : Nat) (s1 : List Value) (n1 : Nat), r.fStrokes.length = n1 ∧ (o1 ≠ none → n1 ≤ c1 ∧ s1.length = (c1 - n1) * 1) ∧ (o1 = none → r.fStrokes = [] ∧ c1 = 0) ∧ v = .agg #[.slice (o0.map fun b => ⟨b, 0, none⟩) n0 c0, .slice (o1.map fun b => ⟨b, 0, none⟩) n1 c1] ∧ Mem w [] [⟨o0, 75, row encGWornPin r.fPins s0⟩, ⟨o1, 2, row encI64 r.fStrokes s1⟩] w') := by
  subst w0_fPins_hn w0_fStrokes_hn
  rw [impl_Wear_own] at h
  refine enter (args := [(.agg #[(.slice w0_fPins_a w0.fPins.length w0_fPins_c), (.slice w0_fStrokes_a w0.fStrokes.length w0_fStrokes_c)])]) Tryz.func84 rfl Tryz.ntmps84 (by kernel_rfl) (L := []) (W := []) (Mem.start w) ?_
  refine jc_seq ?_
  refine jc_region ?_
  refine toO (by kernel_rfl) (p_a 0 [0] (by kernel_rfl) (fun b => by kernel_rfl) (fun b_1 => jkO ?_))
  refine toO (by kernel_rfl) (p_a 0 [0] (by kernel_rfl) (fun b => by kernel_rfl) (fun b_2 => jkO ?_))
  refine jo_end (by kernel_rfl) ?_
  refine jx_then ?_
  refine jc_seq ?_
  refine jc_draw [⟨some b_1, 38, [(.slice w0_fPins_a w0.fPins.length w0_fPins_c), (.slice w0_fStrokes_a w0.fStrokes.length w0_fStrokes_c)]⟩] 8 (by kernel_rfl) (by kernel_rfl) ?_
  refine jd_f [⟨0, 0, 0⟩, ⟨1, 0, 0⟩, ⟨3, 0, 0⟩, ⟨4, 0, 0⟩] 4 (by kernel_rfl) (by kernel_rfl) (fun w h => h.pick [0] (by kernel_rfl) (by kernel_rfl)) (by kernel_rfl) (by kernel_rfl) ?_
  obtain ⟨t_1, ht_15, h⟩ := bd h
  refine toD 2 (by kernel_rfl) (p_call 0 117 #[(.slice w0_fPins_a w0.fPins.length w0_fPins_c)] (by kernel_rfl) (by kernel_rfl) (fun w hm => slices_Clone_WornPin.calls w0.fPins w _ w0_fPins_a w0.fPins.length w0_fPins_c (hm.exRow w0_fPins_h List.not_mem_nil) rfl ht_15) ?_)
  rintro w v w' hm ⟨o_16, cap_17, sp_18, _, rfl, hs_19, ho_20, rfl, hm'⟩
  refine ⟨_, hm.app hm', jkD (fun w h => h.pick [0] (by kernel_rfl) (by kernel_rfl)) ?_⟩
  clear hm hm'
  obtain ⟨t_2, ht_21, h⟩ := bd h
  refine toD 5 (by kernel_rfl) (p_call 0 118 #[(.slice w0_fStrokes_a w0.fStrokes.length w0_fStrokes_c)] (by kernel_rfl) (by kernel_rfl) (fun w hm => slices_Clone_int64.calls w0.fStrokes w _ w0_fStrokes_a w0.fStrokes.length w0_fStrokes_c (hm.exRow w0_fStrokes_h List.not_mem_nil) rfl ht_21) ?_)
  rintro w v w' hm ⟨o_22, cap_23, sp_24, _, rfl, hs_25, ho_26, rfl, hm'⟩
  refine ⟨_, hm.app hm', jkD (fun w h => h.pick [0] (by kernel_rfl) (by kernel_rfl)) ?_⟩
  clear hm hm'
  refine jd_f [⟨6, 0, 0⟩] 1 (by kernel_rfl) (by kernel_rfl) (fun w h => h.pick [0] (by kernel_rfl) (by kernel_rfl)) (by kernel_rfl) (by kernel_rfl) ?_
  refine toD 7 (by kernel_rfl) (p_s 0 [1] (by kernel_rfl) (by kernel_rfl) (jkD (fun w h => h.pick [0] (by kernel_rfl) (by kernel_rfl)) ?_))
  refine jd_end (by kernel_rfl) ?_
  refine jx_then ?_
  refine jc_ret ?_
  obtain rfl := Option.some.inj h
  exact jx_ret [1] (.agg #[(.slice (o_16.map fun b => ⟨b, 0, none⟩) t_1.length cap_17), (.slice (o_22.map fun b => ⟨b, 0, none⟩) t_2.length cap_23)]) [(b_2, b_2), (b_2, b_2)] rfl (by kernel_rfl) (by kernel_rfl) (fun w hm => ⟨o_16, cap_17, sp_18, t_1.length, rfl, hs_19, ho_20, o_22, cap_23, sp_24, t_2.length, rfl, hs_25, ho_26, rfl, hm.pick [2, 3] (by kernel_rfl) (by kernel_rfl)⟩)

/-! ### slices.Delete[[]impl.WornPin,impl.WornPin] -/
noncomputable def slices_Delete_WornPin (s0 : List GWornPin) (i1 : Int) (j2 : Int) : Option ((List GWornPin)) := (if 0 ≤ i1 ∧ i1 ≤ j2 ∧ j2 ≤ (s0.length : Int) ∧ (s0.length : Int) ≤ (s0.length : Int) then (if (i1 == j2) = true then some s0 else (if 0 ≤ i1 ∧ i1 ≤ (s0.length : Int) then (if 0 ≤ j2 ∧ j2 ≤ (s0.length : Int) then (if i1.toNat + (s0.drop j2.toNat).length ≤ s0.length then some (s0.take i1.toNat ++ (s0.drop j2.toNat)) else none) else none) else none)) else none)
set_option maxRecDepth 100000 in
theorem slices_Delete_WornPin.calls (s0 : List GWornPin) (i1 : Int) (j2 : Int) (w : World) (r : (List GWornPin)) (s0_o : Option Nat) (s0_on : Nat) (s0_c : Nat) (s0_sp : List Value) (s0_hn : s0.length = s0_on) (s0_hs : s0_o ≠ none → s0_on ≤ s0_c ∧ s0_sp.length = (s0_c - s0_on) * 3) (s0_ho : s0_o = none → s0 = [] ∧ s0_c = 0) (hm0 : Mem w (bs [s0_o]) [⟨s0_o, 75, row encGWornPin s0 s0_sp⟩] w) (h : slices_Delete_WornPin s0 i1 j2 = some r) :
    Calls Tryz.prog 114 #[(.slice (s0_o.map fun b => ⟨b, 0, none⟩) s0_on s0_c), (.int .i64 i1), (.int .i64 j2)] w fun e w' => ∃ v, e = .returned v ∧ (∃ (o0 : Option Nat) (c0 : Nat) (s0 : List Value) (n0 : Nat), r.length = n0 ∧ (o0 ≠ none → n0 ≤ c0 ∧ s0.length = (c0 - n0) * 3) ∧ (o0 = none → r = [] ∧ c0 = 0) ∧ v = .slice (o0.map fun b => ⟨b, 0, none⟩) n0 c0 ∧ Mem w (bs [s0_o]) [⟨o0, 75, row encGWornPin r s0⟩] w') := by
  subst s0_hn
  rw [slices_Delete_WornPin] at h
  refine enter (args := [(.slice (s0_o.map fun b => ⟨b, 0, none⟩) s0.length s0_c), (.int .i64 i1), (.int .i64 j2)]) Tryz.func114 rfl Tryz.ntmps114 (by kernel_rfl) (L := [⟨s0_o, 75, row encGWornPin s0 s0_sp⟩]) (W := bs [s0_o]) hm0 ?_
  refine jc_seq ?_
  refine jc_region ?_
  refine jo_f [(0, 0)] (by kernel_rfl) ?_
  refine jo_end (by kernel_rfl) ?_
  refine jx_then ?_
  refine jc_seq ?_
  refine jc_region ?_
  refine jo_f [(0, 0), (0, 0), (0, 0), (0, 0), (0, 0)] (by kernel_rfl) ?_
  obtain ⟨hg_1, h⟩ := gd h
  refine toO (by kernel_rfl) (p_slM 0 (s0_o.map fun b => ⟨b, 0, none⟩) s0.length s0_c 3 i1 j2 (s0.length : Int) (by kernel_rfl) (by kernel_rfl) hg_1.1 hg_1.2.1 hg_1.2.2.1 (Int.le_trans hg_1.2.2.2 (Int.ofNat_le.2 (cap_le rfl s0_hs s0_ho))) (jkO ?_))
  refine jo_end (by kernel_rfl) ?_
  refine jx_then ?_
  refine jc_seq ?_
  refine jc_seq ?_
  refine jc_region ?_
  refine jo_f [(0, 0), (0, 0), (0, 0)] (by kernel_rfl) ?_
  refine jo_end (by kernel_rfl) ?_
  refine jx_then ?_
  refine jc_cond (i1 == j2) (by kernel_rfl) (fun hc_3 => ?_) (fun hc_3 => ?_)
  · replace h := ifT hc_3 h
    refine jc_seq ?_
    refine jc_region ?_
    refine jo_f [(0, 0), (0, 0)] (by kernel_rfl) ?_
    refine jo_end (by kernel_rfl) ?_
    refine jx_then ?_
    refine jc_ret ?_
    refine jx_thenr ?_
    obtain rfl := Option.some.inj h
    exact jx_ret [] (.slice (s0_o.map fun b => ⟨b, 0, none⟩) s0.length s0_c) [] rfl (by kernel_rfl) (by kernel_rfl) (fun w hm => ⟨s0_o, s0_c, s0_sp, s0.length, rfl, s0_hs, s0_ho, rfl, hm.pick [0] (by kernel_rfl) (by kernel_rfl)⟩)
  · replace h := ifF hc_3 h
    refine jc_skip ?_
    refine jx_then ?_
    refine jc_seq ?_
    refine jc_region ?_
    refine jo_f [(0, 0), (0, 0), (0, 0)] (by kernel_rfl) ?_
    refine jo_end (by kernel_rfl) ?_
    refine jx_then ?_
    refine jc_seq ?_
    refine jc_draw [] 8 (by kernel_rfl) (by kernel_rfl) ?_
    refine jd_f [⟨0, 0, 0⟩, ⟨1, 0, 0⟩, ⟨3, 0, 0⟩, ⟨4, 0, 0⟩] 4 (by kernel_rfl) (by kernel_rfl) (fun w h => h.pick [] (by kernel_rfl) (by kernel_rfl)) (by kernel_rfl) (by kernel_rfl) ?_
    obtain ⟨hg_6, h⟩ := gd h
    refine jd_v 2 0 (by kernel_rfl) (fun w h => h.pick [] (by kernel_rfl) (by kernel_rfl)) (by kernel_rfl) (by kernel_rfl) _ (fun w hm => slH_run (a := (s0_o.map fun b => ⟨b, 0, none⟩)) (len := s0.length) (cap := s0_c) (size := 3) (h := i1) (by kernel_rfl) hg_6.1 (Int.le_trans hg_6.2 (Int.ofNat_le.2 (cap_le rfl s0_hs s0_ho)))) ?_
    obtain ⟨hg_7, h⟩ := gd h
    refine jd_v 5 0 (by kernel_rfl) (fun w h => h.pick [] (by kernel_rfl) (by kernel_rfl)) (by kernel_rfl) (by kernel_rfl) _ (fun w hm => slL_run (a := (s0_o.map fun b => ⟨b, 0, none⟩)) (len := s0.length) (cap := s0_c) (size := 3) (l := j2) (by kernel_rfl) hg_7.1 (Int.le_trans hg_7.2 (Int.ofNat_le.2 (Nat.le_of_eq rfl)))) ?_
    obtain ⟨hg_8, h⟩ := gd h
    refine toD 6 (by kernel_rfl) (p_apN 0 0 s0_o 75 i1.toNat s0.length (s0.length - j2.toNat) s0_c 3 16 (pa (s0_o.map fun b => ⟨b, 0, none⟩) j2.toNat s0_c 3) encGWornPin s0 (s0.drop j2.toNat) s0_sp hg_8 rfl (tl_len rfl j2) (by kernel_rfl) (by kernel_rfl) (by kernel_rfl) encGWornPin_len encGWornPin_cell s0_hs s0_ho (fun w hm => ((hm.ownRow (hh := 0) (o := s0_o) (T := 75) (enc := encGWornPin) (xs := s0) (sp := s0_sp) (by kernel_rfl) (fun e => (s0_ho e).1) encGWornPin_len).tl j2.toNat s0_c (cap_le rfl s0_hs s0_ho))) (fun sp_11 hs_12 ho_13 => jkD (fun w h => h.pick [] (by kernel_rfl) (by kernel_rfl)) ?_))
    refine jd_f [⟨7, 0, 0⟩] 0 (by kernel_rfl) (by kernel_rfl) (fun w h => h.pick [] (by kernel_rfl) (by kernel_rfl)) (by kernel_rfl) (by kernel_rfl) ?_
    refine jd_end (by kernel_rfl) ?_
    refine jx_then ?_
    refine jc_seq ?_
    refine jc_region ?_
    refine jo_f [(0, 0), (0, 0), (0, 0), (0, 0)] (by kernel_rfl) ?_
    refine toO (by kernel_rfl) (p_slLH 0 (s0_o.map fun b => ⟨b, 0, none⟩) ((s0.take i1.toNat ++ (s0.drop j2.toNat)).length) s0_c 3 (((s0.take i1.toNat ++ (s0.drop j2.toNat)).length) : Int) (s0.length : Int) (by kernel_rfl) (by kernel_rfl) (by omega) (Int.ofNat_le.2 (Nat.le_trans (apn_le hg_8) (Nat.le_of_eq rfl))) (Int.ofNat_le.2 (show s0.length ≤ s0_c by have := (cap_le rfl s0_hs s0_ho); have : s0.length = s0.length := rfl; omega)) (jkO ?_))
    refine toO (by kernel_rfl) (p_clr 0 0 s0_o 75 ((((s0.take i1.toNat ++ (s0.drop j2.toNat)).length) : Int).toNat) ((s0.take i1.toNat ++ (s0.drop j2.toNat)).length) ((s0.length : Int).toNat - (((s0.take i1.toNat ++ (s0.drop j2.toNat)).length) : Int).toNat) s0_c 3 [(.int .i8 0), (.int .i8 0), (.int .i64 0)] encGWornPin (s0.take i1.toNat ++ (s0.drop j2.toNat)) sp_11 rfl (by omega) (by kernel_rfl) (by kernel_rfl) (by kernel_rfl) encGWornPin_len (by kernel_rfl) hs_12 ho_13 (by have := (show s0.length ≤ s0_c by have := (cap_le rfl s0_hs s0_ho); have : s0.length = s0.length := rfl; omega); have := (Nat.le_trans (apn_le hg_8) (Nat.le_of_eq rfl)); omega) (fun sp_15 hl_16 => jkO ?_))
    refine jo_end (by kernel_rfl) ?_
    refine jx_then ?_
    refine jc_seq ?_
    refine jc_region ?_
    refine jo_f [(0, 0), (0, 0)] (by kernel_rfl) ?_
    refine jo_end (by kernel_rfl) ?_
    refine jx_then ?_
    refine jc_ret ?_
    obtain rfl := Option.some.inj h
    exact jx_ret [] (.slice (s0_o.map fun b => ⟨b, 0, none⟩) ((s0.take i1.toNat ++ (s0.drop j2.toNat)).length) s0_c) [] rfl (by kernel_rfl) (by kernel_rfl) (fun w hm => ⟨s0_o, s0_c, sp_15, ((s0.take i1.toNat ++ (s0.drop j2.toNat)).length), rfl, (fun e => ⟨(hs_12 e).1, hl_16.trans (hs_12 e).2⟩), ho_13, rfl, hm.pick [0] (by kernel_rfl) (by kernel_rfl)⟩)

/-! ### (impl.Wear).without -/
noncomputable def impl_Wear_without (w0 : GWear) (i1 : Int) : Option (GWear) := (impl_Wear_own w0).bind fun t_1 => (slices_Delete_WornPin t_1.fPins i1 (w64 (i1 + 1))).bind fun t_2 => some (⟨t_2, t_1.fStrokes⟩ : GWear)
set_option maxRecDepth 100000 in
theorem impl_Wear_without.calls (w0 : GWear) (i1 : Int) (w : World) (r : GWear) (w0_fPins_a : Option Addr) (w0_fPins_an : Nat) (w0_fPins_c : Nat) (w0_fPins_h : Rw w w0_fPins_a 3 encGWornPin w0.fPins) (w0_fPins_hn : w0.fPins.length = w0_fPins_an) (w0_fStrokes_a : Option Addr) (w0_fStrokes_an : Nat) (w0_fStrokes_c : Nat) (w0_fStrokes_h : Rw w w0_fStrokes_a 1 encI64 w0.fStrokes) (w0_fStrokes_hn : w0.fStrokes.length = w0_fStrokes_an) (h : impl_Wear_without w0 i1 = some r) :
    Calls Tryz.prog 82 #[(.agg #[(.slice w0_fPins_a w0_fPins_an w0_fPins_c), (.slice w0_fStrokes_a w0_fStrokes_an w0_fStrokes_c)]), (.int .i64 i1)] w fun e w' => ∃ v, e = .returned v ∧ (∃ (o0 : Option Nat) (c0 : Nat) (s0 : List Value) (n0 : Nat), r.fPins.length = n0 ∧ (o0 ≠ none → n0 ≤ c0 ∧ s0.length = (c0 - n0) * 3) ∧ (o0 = none → r.fPins = [] ∧ c0 = 0) ∧ ∃ (o1 : Option Nat) (c1 : Nat) (s1 : List Value) (n1 : Nat), r.fStrokes.length = n1 ∧ (o1 ≠ none → n1 ≤ c1 ∧ s1.length = (c1 - n1) * 1) ∧ (o1 = none → r.fStrokes = [] ∧ c1 = 0) ∧ v = .agg #[.slice (o0.map fun b => ⟨b, 0, none⟩) n0 c0, .slice (o1.map fun b => ⟨b, 0, none⟩) n1 c1] ∧ Mem w [] [⟨o0, 75, row encGWornPin r.fPins s0⟩, ⟨o1, 2, row encI64 r.fStrokes s1⟩] w') := by
  subst w0_fPins_hn w0_fStrokes_hn
  rw [impl_Wear_without] at h
  refine enter (args := [(.agg #[(.slice w0_fPins_a w0.fPins.length w0_fPins_c), (.slice w0_fStrokes_a w0.fStrokes.length w0_fStrokes_c)]), (.int .i64 i1)]) Tryz.func82 rfl Tryz.ntmps82 (by kernel_rfl) (L := []) (W := []) (Mem.start w) ?_
  refine jc_seq ?_
  refine jc_region ?_
  refine toO (by kernel_rfl) (p_a 0 [0] (by kernel_rfl) (fun b => by kernel_rfl) (fun b_1 => jkO ?_))
  refine toO (by kernel_rfl) (p_a 0 [0] (by kernel_rfl) (fun b => by kernel_rfl) (fun b_2 => jkO ?_))
  refine jo_end (by kernel_rfl) ?_
  refine jx_then ?_
  refine jc_seq ?_
  refine jc_region ?_
  refine jo_f [(0, 0)] (by kernel_rfl) ?_
  obtain ⟨t_1, ht_3, h⟩ := bd h
  refine toO (by kernel_rfl) (p_call 0 84 #[(.agg #[(.slice w0_fPins_a w0.fPins.length w0_fPins_c), (.slice w0_fStrokes_a w0.fStrokes.length w0_fStrokes_c)])] (by kernel_rfl) (by kernel_rfl) (fun w hm => impl_Wear_own.calls w0 w _ w0_fPins_a w0.fPins.length w0_fPins_c (hm.exRow w0_fPins_h List.not_mem_nil) rfl w0_fStrokes_a w0.fStrokes.length w0_fStrokes_c (hm.exRow w0_fStrokes_h List.not_mem_nil) rfl ht_3) ?_)
  rintro w v w' hm ⟨o_4, cap_5, sp_6, _, rfl, hs_7, ho_8, o_9, cap_10, sp_11, _, rfl, hs_12, ho_13, rfl, hm'⟩
  refine ⟨_, hm.app hm', jkO ?_⟩
  clear hm hm'
  refine toO (by kernel_rfl) (p_a 0 [0] (by kernel_rfl) (fun b => by kernel_rfl) (fun b_14 => jkO ?_))
  refine toO (by kernel_rfl) (p_s 0 [4] (by kernel_rfl) (by kernel_rfl) (jkO ?_))
  refine jo_end (by kernel_rfl) ?_
  refine jx_then ?_
  refine jc_seq ?_
  refine jc_region ?_
  refine jo_f [(0, 0), (4, 0), (0, 0), (0, 0), (0, 0)] (by kernel_rfl) ?_
  obtain ⟨t_2, ht_15, h⟩ := bd h
  refine toO (by kernel_rfl) (p_call 0 114 #[(.slice (o_4.map fun b => ⟨b, 0, none⟩) t_1.fPins.length cap_5), (.int .i64 i1), (.int .i64 (w64 (i1 + 1)))] (by kernel_rfl) (by kernel_rfl) (fun w hm => slices_Delete_WornPin.calls t_1.fPins i1 (w64 (i1 + 1)) w _ o_4 t_1.fPins.length cap_5 sp_6 rfl hs_7 ho_8 (hm.pass (N := [⟨o_4, 75, row encGWornPin t_1.fPins sp_6⟩]) [2] (by kernel_rfl) (by kernel_rfl)) ht_15) ?_)
  rintro w v w' hm ⟨o_16, cap_17, sp_18, _, rfl, hs_19, ho_20, rfl, hm'⟩
  refine ⟨_, hm.appP (ps := []) (ds := [2]) (N := [⟨o_16, 75, row encGWornPin t_2 sp_18⟩]) hm' [0] (by kernel_rfl) (by kernel_rfl) (by kernel_rfl), jkO ?_⟩
  clear hm hm'
  refine jo_f [(0, 0)] (by kernel_rfl) ?_
  refine toO (by kernel_rfl) (p_s 0 [4] (by kernel_rfl) (by kernel_rfl) (jkO ?_))
  refine jo_end (by kernel_rfl) ?_
  refine jx_then ?_
  refine jc_seq ?_
  refine jc_region ?_
  refine jo_f [(4, 0)] (by kernel_rfl) ?_
  refine toO (by kernel_rfl) (p_s 0 [1] (by kernel_rfl) (by kernel_rfl) (jkO ?_))
  refine jo_end (by kernel_rfl) ?_
  refine jx_then ?_
  refine jc_ret ?_
  obtain rfl := Option.some.inj h
  exact jx_ret [1] (.agg #[(.slice (o_16.map fun b => ⟨b, 0, none⟩) t_2.length cap_17), (.slice (o_9.map fun b => ⟨b, 0, none⟩) t_1.fStrokes.length cap_10)]) [(b_2, b_2), (b_2, b_2)] rfl (by kernel_rfl) (by kernel_rfl) (fun w hm => ⟨o_16, cap_17, sp_18, t_2.length, rfl, hs_19, ho_20, o_9, cap_10, sp_11, t_1.fStrokes.length, rfl, hs_12, ho_13, rfl, hm.pick [5, 3] (by kernel_rfl) (by kernel_rfl)⟩)

def lay_slices_SortFunc_WornPin_at_impl_comparePins_ren : Go.Shelf.Ren := ⟨fun | 6 => 115 | 15 => 139 | 14 => 138 | 28 => 158 | 29 => 159 | 20 => 150 | 21 => 151 | 22 => 152 | 23 => 153 | 24 => 154 | 25 => 155 | 26 => 156 | 27 => 157 | 46 => 162 | 47 => 163 | 48 => 164 | 49 => 165 | 50 => 166 | 57 => 167 | n => n, fun | 22 => 36 | 24 => 75 | 25 => 172 | 3 => 3 | 39 => 177 | 0 => 0 | 53 => 148 | 55 => 145 | 4 => 4 | 46 => 201 | 45 => 200 | 50 => 205 | 5 => 5 | 9 => 9 | 66 => 212 | 70 => 216 | 76 => 218 | 77 => 219 | n => n, fun | n => n⟩
theorem lay_slices_SortFunc_WornPin_at_impl_comparePins : Go.Proofs.SlLaysF0.n6 Tryz.prog lay_slices_SortFunc_WornPin_at_impl_comparePins_ren where
  mixed := by kernel_rfl
  f6 := ⟨ "slices.SortFunc[[]loop.example/g01311/impl.WornPin,loop.example/g01311/impl.WornPin]", by decide, Tryz.func115.trans (congrArg some (by kernel_rfl))⟩
  f14 := ⟨ "slices.pdqsortCmpFunc[loop.example/g01311/impl.WornPin]", by decide, Tryz.func138.trans (congrArg some (by kernel_rfl))⟩
  f15 := Tryz.func139.trans (congrArg some (by kernel_rfl))
  f20 := ⟨ "slices.insertionSortCmpFunc[loop.example/g01311/impl.WornPin]", by decide, Tryz.func150.trans (congrArg some (by kernel_rfl))⟩
  f21 := ⟨ "slices.heapSortCmpFunc[loop.example/g01311/impl.WornPin]", by decide, Tryz.func151.trans (congrArg some (by kernel_rfl))⟩
  f22 := ⟨ "slices.breakPatternsCmpFunc[loop.example/g01311/impl.WornPin]", by decide, Tryz.func152.trans (congrArg some (by kernel_rfl))⟩
  f23 := ⟨ "slices.choosePivotCmpFunc[loop.example/g01311/impl.WornPin]", by decide, Tryz.func153.trans (congrArg some (by kernel_rfl))⟩
  f24 := ⟨ "slices.reverseRangeCmpFunc[loop.example/g01311/impl.WornPin]", by decide, Tryz.func154.trans (congrArg some (by kernel_rfl))⟩
  f25 := ⟨ "slices.partialInsertionSortCmpFunc[loop.example/g01311/impl.WornPin]", by decide, Tryz.func155.trans (congrArg some (by kernel_rfl))⟩
  f26 := ⟨ "slices.partitionEqualCmpFunc[loop.example/g01311/impl.WornPin]", by decide, Tryz.func156.trans (congrArg some (by kernel_rfl))⟩
  f27 := ⟨ "slices.partitionCmpFunc[loop.example/g01311/impl.WornPin]", by decide, Tryz.func157.trans (congrArg some (by kernel_rfl))⟩
  f28 := Tryz.func158.trans (congrArg some (by kernel_rfl))
  f29 := Tryz.func159.trans (congrArg some (by kernel_rfl))
  f46 := ⟨ "slices.siftDownCmpFunc[loop.example/g01311/impl.WornPin]", by decide, Tryz.func162.trans (congrArg some (by kernel_rfl))⟩
  f47 := Tryz.func163.trans (congrArg some (by kernel_rfl))
  f48 := Tryz.func164.trans (congrArg some (by kernel_rfl))
  f49 := ⟨ "slices.medianAdjacentCmpFunc[loop.example/g01311/impl.WornPin]", by decide, Tryz.func165.trans (congrArg some (by kernel_rfl))⟩
  f50 := ⟨ "slices.medianCmpFunc[loop.example/g01311/impl.WornPin]", by decide, Tryz.func166.trans (congrArg some (by kernel_rfl))⟩
  f57 := ⟨ "slices.order2CmpFunc[loop.example/g01311/impl.WornPin]", by decide, Tryz.func167.trans (congrArg some (by kernel_rfl))⟩
  t0 := Tryz.underlying0
  a0 := Tryz.isAgg0
  z0 := Tryz.sizeOf0
  v0 := Tryz.zeroValue0
  t3 := Tryz.underlying3
  a3 := Tryz.isAgg3
  z3 := Tryz.sizeOf3
  v3 := Tryz.zeroValue3
  t4 := Tryz.underlying4
  a4 := Tryz.isAgg4
  z4 := Tryz.sizeOf4
  v4 := Tryz.zeroValue4
  t5 := Tryz.underlying5
  a5 := Tryz.isAgg5
  z5 := Tryz.sizeOf5
  v5 := Tryz.zeroValue5
  t9 := Tryz.underlying9
  a9 := Tryz.isAgg9
  z9 := Tryz.sizeOf9
  v9 := Tryz.zeroValue9
  t22 := Tryz.underlying36
  a22 := Tryz.isAgg36
  z22 := Tryz.sizeOf36
  v22 := Tryz.zeroValue36
  t25 := Tryz.underlying172
  a25 := Tryz.isAgg172
  z25 := Tryz.sizeOf172
  v25 := Tryz.zeroValue172
  t39 := Tryz.underlying177
  a39 := Tryz.isAgg177
  z39 := Tryz.sizeOf177
  v39 := Tryz.zeroValue177
  t45 := Tryz.underlying200
  a45 := Tryz.isAgg200
  z45 := Tryz.sizeOf200
  v45 := Tryz.zeroValue200
  t46 := Tryz.underlying201
  a46 := Tryz.isAgg201
  z46 := Tryz.sizeOf201
  v46 := Tryz.zeroValue201
  t50 := Tryz.underlying205
  a50 := Tryz.isAgg205
  z50 := Tryz.sizeOf205
  v50 := Tryz.zeroValue205
  t53 := Tryz.underlying148
  a53 := Tryz.isAgg148
  z53 := Tryz.sizeOf148
  v53 := Tryz.zeroValue148
  t55 := Tryz.underlying145
  a55 := Tryz.isAgg145
  z55 := Tryz.sizeOf145
  v55 := Tryz.zeroValue145
  t66 := Tryz.underlying212
  a66 := Tryz.isAgg212
  z66 := Tryz.sizeOf212
  v66 := Tryz.zeroValue212
  t70 := Tryz.underlying216
  a70 := Tryz.isAgg216
  z70 := Tryz.sizeOf216
  v70 := Tryz.zeroValue216
  t76 := Tryz.underlying218
  a76 := Tryz.isAgg218
  z76 := Tryz.sizeOf218
  v76 := Tryz.zeroValue218
  t77 := Tryz.underlying219
  a77 := Tryz.isAgg219
  z77 := Tryz.sizeOf219
  v77 := Tryz.zeroValue219
/-! ### slices.SortFunc[[]impl.WornPin,impl.WornPin] -/
noncomputable def slices_SortFunc_WornPin_at_impl_comparePins (x0 : List GWornPin) : Option ((List GWornPin)) := sortF (fun a b => impl_comparePins a b) x0
set_option maxRecDepth 100000 in
theorem slices_SortFunc_WornPin_at_impl_comparePins.calls (x0 : List GWornPin) (w : World) (r : (List GWornPin)) (x0_o : Option Nat) (x0_on : Nat) (x0_c : Nat) (x0_sp : List Value) (x0_hn : x0.length = x0_on) (x0_hs : x0_o ≠ none → x0_on ≤ x0_c ∧ x0_sp.length = (x0_c - x0_on) * 3) (x0_ho : x0_o = none → x0 = [] ∧ x0_c = 0) (hm0 : Mem w (bs [x0_o]) [⟨x0_o, 75, row encGWornPin x0 x0_sp⟩] w) (h : slices_SortFunc_WornPin_at_impl_comparePins x0 = some r) :
    Calls Tryz.prog 115 #[(.slice (x0_o.map fun b => ⟨b, 0, none⟩) x0_on x0_c), (.func (.func 116) #[] #[])] w fun e w' => ∃ v, e = .returned v ∧ (r.length = x0_on ∧ (x0_o = none → r = [] ∧ x0_c = 0) ∧ v = .tuple #[] ∧ Mem w (bs [x0_o]) [⟨x0_o, 75, row encGWornPin r x0_sp⟩] w') := by
  exact sort_calls lay_slices_SortFunc_WornPin_at_impl_comparePins 3 Tryz.isAgg75 Tryz.sizeOf75 encGWornPin encGWornPin_len (fun x v hv => by simp [encGWornPin] at hv; rcases hv with rfl | rfl | rfl <;> rfl) (fun a b => impl_comparePins a b) 116 (enters_of Tryz.func116 (by kernel_rfl) rfl) (fun x y r w hxy => impl_comparePins.calls x y w r hxy) 75 x0 w r x0_o x0_on x0_c x0_sp x0_hn x0_hs x0_ho hm0 (by rw [slices_SortFunc_WornPin_at_impl_comparePins] at h; exact h)

/-! ### (impl.Wear).with -/
noncomputable def impl_Wear_with (w0 : GWear) (p1 : GWornPin) : Option (GWear) := (impl_Wear_own w0).bind fun t_1 => (if t_1.fPins.length + [p1].length ≤ 4294967296 then (slices_SortFunc_WornPin_at_impl_comparePins (t_1.fPins ++ [p1])).bind fun t_2 => some (⟨t_2, t_1.fStrokes⟩ : GWear) else none)
set_option maxRecDepth 100000 in
theorem impl_Wear_with.calls (w0 : GWear) (p1 : GWornPin) (w : World) (r : GWear) (w0_fPins_a : Option Addr) (w0_fPins_an : Nat) (w0_fPins_c : Nat) (w0_fPins_h : Rw w w0_fPins_a 3 encGWornPin w0.fPins) (w0_fPins_hn : w0.fPins.length = w0_fPins_an) (w0_fStrokes_a : Option Addr) (w0_fStrokes_an : Nat) (w0_fStrokes_c : Nat) (w0_fStrokes_h : Rw w w0_fStrokes_a 1 encI64 w0.fStrokes) (w0_fStrokes_hn : w0.fStrokes.length = w0_fStrokes_an) (h : impl_Wear_with w0 p1 = some r) :
    Calls Tryz.prog 83 #[(.agg #[(.slice w0_fPins_a w0_fPins_an w0_fPins_c), (.slice w0_fStrokes_a w0_fStrokes_an w0_fStrokes_c)]), (.agg #[(.int .i8 p1.fStep), (.int .i8 p1.fTrack), (.int .i64 p1.fTurns)])] w fun e w' => ∃ v, e = .returned v ∧ (∃ (o0 : Option Nat) (c0 : Nat) (s0 : List Value) (n0 : Nat), r.fPins.length = n0 ∧ (o0 ≠ none → n0 ≤ c0 ∧ s0.length = (c0 - n0) * 3) ∧ (o0 = none → r.fPins = [] ∧ c0 = 0) ∧ ∃ (o1 : Option Nat) (c1 : Nat) (s1 : List Value) (n1 : Nat), r.fStrokes.length = n1 ∧ (o1 ≠ none → n1 ≤ c1 ∧ s1.length = (c1 - n1) * 1) ∧ (o1 = none → r.fStrokes = [] ∧ c1 = 0) ∧ v = .agg #[.slice (o0.map fun b => ⟨b, 0, none⟩) n0 c0, .slice (o1.map fun b => ⟨b, 0, none⟩) n1 c1] ∧ Mem w [] [⟨o0, 75, row encGWornPin r.fPins s0⟩, ⟨o1, 2, row encI64 r.fStrokes s1⟩] w') := by
  subst w0_fPins_hn w0_fStrokes_hn
  rw [impl_Wear_with] at h
  refine enter (args := [(.agg #[(.slice w0_fPins_a w0.fPins.length w0_fPins_c), (.slice w0_fStrokes_a w0.fStrokes.length w0_fStrokes_c)]), (.agg #[(.int .i8 p1.fStep), (.int .i8 p1.fTrack), (.int .i64 p1.fTurns)])]) Tryz.func83 rfl Tryz.ntmps83 (by kernel_rfl) (L := []) (W := []) (Mem.start w) ?_
  refine jc_seq ?_
  refine jc_region ?_
  refine toO (by kernel_rfl) (p_a 0 [0] (by kernel_rfl) (fun b => by kernel_rfl) (fun b_1 => jkO ?_))
  refine toO (by kernel_rfl) (p_a 0 [0] (by kernel_rfl) (fun b => by kernel_rfl) (fun b_2 => jkO ?_))
  refine toO (by kernel_rfl) (p_a 0 [0] (by kernel_rfl) (fun b => by kernel_rfl) (fun b_3 => jkO ?_))
  refine jo_end (by kernel_rfl) ?_
  refine jx_then ?_
  refine jc_seq ?_
  refine jc_region ?_
  refine jo_f [(0, 0)] (by kernel_rfl) ?_
  obtain ⟨t_1, ht_4, h⟩ := bd h
  refine toO (by kernel_rfl) (p_call 0 84 #[(.agg #[(.slice w0_fPins_a w0.fPins.length w0_fPins_c), (.slice w0_fStrokes_a w0.fStrokes.length w0_fStrokes_c)])] (by kernel_rfl) (by kernel_rfl) (fun w hm => impl_Wear_own.calls w0 w _ w0_fPins_a w0.fPins.length w0_fPins_c (hm.exRow w0_fPins_h List.not_mem_nil) rfl w0_fStrokes_a w0.fStrokes.length w0_fStrokes_c (hm.exRow w0_fStrokes_h List.not_mem_nil) rfl ht_4) ?_)
  rintro w v w' hm ⟨o_5, cap_6, sp_7, _, rfl, hs_8, ho_9, o_10, cap_11, sp_12, _, rfl, hs_13, ho_14, rfl, hm'⟩
  refine ⟨_, hm.app hm', jkO ?_⟩
  clear hm hm'
  refine toO (by kernel_rfl) (p_a 0 [0] (by kernel_rfl) (fun b => by kernel_rfl) (fun b_15 => jkO ?_))
  refine toO (by kernel_rfl) (p_s 0 [5] (by kernel_rfl) (by kernel_rfl) (jkO ?_))
  refine jo_end (by kernel_rfl) ?_
  refine jx_then ?_
  refine jc_seq ?_
  refine jc_region ?_
  refine jo_f [(0, 0), (5, 0), (1, 0)] (by kernel_rfl) ?_
  refine toO (by kernel_rfl) (p_a 0 [0] (by kernel_rfl) (fun b => by kernel_rfl) (fun b_16 => jkO ?_))
  obtain ⟨hg_17, h⟩ := gd h
  refine toO (by kernel_rfl) (p_apn 0 3 o_5 75 t_1.fPins.length 1 cap_6 3 16 (some ⟨b_16, 0, none⟩) encGWornPin t_1.fPins [p1] sp_7 (.agg #[(.int .i8 0), (.int .i8 0), (.int .i64 0)]) rfl rfl (by kernel_rfl) (by kernel_rfl) (by kernel_rfl) encGWornPin_len encGWornPin_cell hs_8 ho_9 (fun w hm => (hm.ownRow (hh := 6) (o := (some b_16)) (T := 75) (enc := encGWornPin) (xs := [p1]) (sp := []) (by kernel_rfl) (fun e => nomatch e) encGWornPin_len)) hg_17 (by kernel_rfl) (by kernel_rfl) (fun o_18 cap_19 sp_20 hs_21 ho_22 => jkO ?_))
  refine jo_f [(0, 0)] (by kernel_rfl) ?_
  refine toO (by kernel_rfl) (p_s 0 [5] (by kernel_rfl) (by kernel_rfl) (jkO ?_))
  refine jo_end (by kernel_rfl) ?_
  refine jx_then ?_
  refine jc_seq ?_
  refine jc_region ?_
  refine jo_f [(0, 0), (5, 0)] (by kernel_rfl) ?_
  obtain ⟨t_2, ht_23, h⟩ := bd h
  refine toO (by kernel_rfl) (p_call 0 115 #[(.slice (o_18.map fun b => ⟨b, 0, none⟩) ((t_1.fPins ++ [p1]).length) cap_19), (.func (.func 116) #[] #[])] (by kernel_rfl) (by kernel_rfl) (fun w hm => slices_SortFunc_WornPin_at_impl_comparePins.calls (t_1.fPins ++ [p1]) w _ o_18 ((t_1.fPins ++ [p1]).length) cap_19 sp_20 rfl hs_21 ho_22 (hm.pass (N := [⟨o_18, 75, row encGWornPin (t_1.fPins ++ [p1]) sp_20⟩]) [3] (by kernel_rfl) (by kernel_rfl)) ht_23) ?_)
  rintro w v w' hm ⟨hn_24, ho_25, rfl, hm'⟩
  refine ⟨_, hm.appW (ps := [(3, ⟨o_18, 75, row encGWornPin t_2 sp_20⟩)]) (N := []) hm' (by kernel_rfl) (by kernel_rfl), jkO ?_⟩
  clear hm hm'
  refine jo_end (by kernel_rfl) ?_
  refine jx_then ?_
  refine jc_seq ?_
  refine jc_region ?_
  refine jo_f [(5, 0)] (by kernel_rfl) ?_
  refine toO (by kernel_rfl) (p_s 0 [2] (by kernel_rfl) (by kernel_rfl) (jkO ?_))
  refine jo_end (by kernel_rfl) ?_
  refine jx_then ?_
  refine jc_ret ?_
  obtain rfl := Option.some.inj h
  exact jx_ret [2] (.agg #[(.slice (o_18.map fun b => ⟨b, 0, none⟩) ((t_1.fPins ++ [p1]).length) cap_19), (.slice (o_10.map fun b => ⟨b, 0, none⟩) t_1.fStrokes.length cap_11)]) [(b_3, b_3), (b_3, b_3)] rfl (by kernel_rfl) (by kernel_rfl) (fun w hm => ⟨o_18, cap_19, sp_20, ((t_1.fPins ++ [p1]).length), hn_24, hs_21, ho_25, o_10, cap_11, sp_12, t_1.fStrokes.length, rfl, hs_13, ho_14, rfl, hm.pick [3, 4] (by kernel_rfl) (by kernel_rfl)⟩)

/-! ### impl.NewPin -/
noncomputable def impl_NewPin (f0 : GFrame) (w1 : GWear) (step2 : Int) (track3 : Int) : Option (GWear × Int) := (impl_wornPlaceCode f0 w1 [(Arr.set (Arr.set (Arr.rep 2 0) 0 step2) 1 track3)]).bind fun t_1 => (if (t_1 != 0) = true then some ((⟨[], []⟩ : GWear), t_1) else (impl_Wear_at w1 step2 track3).bind fun t_2 => (if (decide (t_2 ≥ 0)) = true then (impl_Wear_without w1 t_2).bind fun t_3 => (impl_Wear_with t_3 (⟨(w8 step2), (w8 track3), 0⟩ : GWornPin)).bind fun t_4 => some (t_4, 0) else (impl_Wear_with w1 (⟨(w8 step2), (w8 track3), 0⟩ : GWornPin)).bind fun t_5 => some (t_5, 0)))
set_option maxRecDepth 100000 in
theorem impl_NewPin.calls (f0 : GFrame) (w1 : GWear) (step2 : Int) (track3 : Int) (w : World) (r : GWear × Int) (f0_fHammers_a : Option Addr) (f0_fHammers_an : Nat) (f0_fHammers_c : Nat) (f0_fHammers_h : Rw w f0_fHammers_a 2 encGHammer f0.fHammers) (f0_fHammers_hn : f0.fHammers.length = f0_fHammers_an) (w1_fPins_a : Option Addr) (w1_fPins_an : Nat) (w1_fPins_c : Nat) (w1_fPins_h : Rw w w1_fPins_a 3 encGWornPin w1.fPins) (w1_fPins_hn : w1.fPins.length = w1_fPins_an) (w1_fStrokes_a : Option Addr) (w1_fStrokes_an : Nat) (w1_fStrokes_c : Nat) (w1_fStrokes_h : Rw w w1_fStrokes_a 1 encI64 w1.fStrokes) (w1_fStrokes_hn : w1.fStrokes.length = w1_fStrokes_an) (h : impl_NewPin f0 w1 step2 track3 = some r) :
    Calls Tryz.prog 35 #[(.agg #[(.int .i16 f0.fSteps), (.slice f0_fHammers_a f0_fHammers_an f0_fHammers_c)]), (.agg #[(.slice w1_fPins_a w1_fPins_an w1_fPins_c), (.slice w1_fStrokes_a w1_fStrokes_an w1_fStrokes_c)]), (.int .i64 step2), (.int .i64 track3)] w fun e w' => ∃ v, e = .returned v ∧ (∃ (o0 : Option Nat) (c0 : Nat) (s0 : List Value) (n0 : Nat), r.1.fPins.length = n0 ∧ (o0 ≠ none → n0 ≤ c0 ∧ s0.length = (c0 - n0) * 3) ∧ (o0 = none → r.1.fPins = [] ∧ c0 = 0) ∧ ∃ (o1 : Option Nat) (c1 : Nat) (s1 : List Value) (n1 : Nat), r.1.fStrokes.length = n1 ∧ (o1 ≠ none → n1 ≤ c1 ∧ s1.length = (c1 - n1) * 1) ∧ (o1 = none → r.1.fStrokes = [] ∧ c1 = 0) ∧ v = .tuple #[.agg #[.slice (o0.map fun b => ⟨b, 0, none⟩) n0 c0, .slice (o1.map fun b => ⟨b, 0, none⟩) n1 c1], (.int .i64 r.2)] ∧ Mem w [] [⟨o0, 75, row encGWornPin r.1.fPins s0⟩, ⟨o1, 2, row encI64 r.1.fStrokes s1⟩] w') := by
  subst f0_fHammers_hn w1_fPins_hn w1_fStrokes_hn
  rw [impl_NewPin] at h
  refine enter (args := [(.agg #[(.int .i16 f0.fSteps), (.slice f0_fHammers_a f0.fHammers.length f0_fHammers_c)]), (.agg #[(.slice w1_fPins_a w1.fPins.length w1_fPins_c), (.slice w1_fStrokes_a w1.fStrokes.length w1_fStrokes_c)]), (.int .i64 step2), (.int .i64 track3)]) Tryz.func35 rfl Tryz.ntmps35 (by kernel_rfl) (L := []) (W := []) (Mem.start w) ?_
  refine jc_seq ?_
  refine jc_region ?_
  refine toO (by kernel_rfl) (p_a 0 [0] (by kernel_rfl) (fun b => by kernel_rfl) (fun b_1 => jkO ?_))
  refine toO (by kernel_rfl) (p_a 0 [0] (by kernel_rfl) (fun b => by kernel_rfl) (fun b_2 => jkO ?_))
  refine toO (by kernel_rfl) (p_a 0 [0] (by kernel_rfl) (fun b => by kernel_rfl) (fun b_3 => jkO ?_))
  refine jo_f [(0, 0)] (by kernel_rfl) ?_
  refine jo_end (by kernel_rfl) ?_
  refine jx_then ?_
  refine jc_seq ?_
  refine jc_seq ?_
  refine jc_region ?_
  refine jo_f [(0, 0), (1, 0), (0, 0), (0, 0), (0, 0)] (by kernel_rfl) ?_
  refine toO (by kernel_rfl) (p_bs 0 128 2 1 encA2I64 [(.agg (row encI64 (Arr.set (Arr.set (Arr.rep 2 0) 0 step2) 1 track3).1 []).toArray)] [(Arr.set (Arr.set (Arr.rep 2 0) 0 step2) 1 track3)] (by kernel_rfl) (by kernel_rfl) rfl (by kernel_rfl) (by kernel_rfl) encA2I64_len (fun b_7 => jkO ?_))
  obtain ⟨t_1, ht_8, h⟩ := bd h
  refine toO (by kernel_rfl) (p_call 0 80 #[(.agg #[(.int .i16 f0.fSteps), (.slice f0_fHammers_a f0.fHammers.length f0_fHammers_c)]), (.agg #[(.slice w1_fPins_a w1.fPins.length w1_fPins_c), (.slice w1_fStrokes_a w1.fStrokes.length w1_fStrokes_c)]), (.slice (some ⟨b_7, 0, none⟩) 1 1)] (by kernel_rfl) (by kernel_rfl) (fun w hm => impl_wornPlaceCode.calls f0 w1 [(Arr.set (Arr.set (Arr.rep 2 0) 0 step2) 1 track3)] w _ f0_fHammers_a f0.fHammers.length f0_fHammers_c (hm.exRow f0_fHammers_h List.not_mem_nil) rfl w1_fPins_a w1.fPins.length w1_fPins_c (hm.exRow w1_fPins_h List.not_mem_nil) rfl w1_fStrokes_a w1.fStrokes.length w1_fStrokes_c (hm.exRow w1_fStrokes_h List.not_mem_nil) rfl (some ⟨b_7, 0, none⟩) 1 1 (hm.ownRow (hh := 3) (o := (some b_7)) (T := 128) (enc := encA2I64) (xs := [(Arr.set (Arr.set (Arr.rep 2 0) 0 step2) 1 track3)]) (sp := []) (by kernel_rfl) (fun e => nomatch e) encA2I64_len) rfl ht_8) ?_)
  rintro w v w' hm ⟨rfl, hm'⟩
  refine ⟨_, hm.app hm', jkO ?_⟩
  clear hm hm'
  refine jo_f [(0, 0)] (by kernel_rfl) ?_
  refine jo_end (by kernel_rfl) ?_
  refine jx_then ?_
  refine jc_seq ?_
  refine jc_region ?_
  refine jo_f [(0, 0), (0, 0)] (by kernel_rfl) ?_
  refine jo_end (by kernel_rfl) ?_
  refine jx_then ?_
  refine jc_cond (t_1 != 0) (by kernel_rfl) (fun hc_9 => ?_) (fun hc_9 => ?_)
  · replace h := ifT hc_9 h
    refine jc_seq ?_
    refine jc_region ?_
    refine jo_f [(0, 0), (0, 0)] (by kernel_rfl) ?_
    refine toO (by kernel_rfl) (p_s 0 [2] (by kernel_rfl) (by kernel_rfl) (jkO ?_))
    refine jo_f [(0, 0)] (by kernel_rfl) ?_
    refine jo_end (by kernel_rfl) ?_
    refine jx_then ?_
    refine jc_ret ?_
    refine jx_thenr ?_
    obtain rfl := Option.some.inj h
    refine jx_ghost 75 encGWornPin ?_
    refine jx_ghost 2 encI64 ?_
    exact jx_ret [2] (.tuple #[(.agg #[(.slice none 0 0), (.slice none 0 0)]), (.int .i64 t_1)]) [(b_3, b_3), (b_3, b_3)] rfl (by kernel_rfl) (by kernel_rfl) (fun w hm => ⟨none, 0, [], 0, rfl, (fun e => absurd rfl e), (fun _ => ⟨rfl, rfl⟩), none, 0, [], 0, rfl, (fun e => absurd rfl e), (fun _ => ⟨rfl, rfl⟩), rfl, hm.pick [4, 5] (by kernel_rfl) (by kernel_rfl)⟩)
  · replace h := ifF hc_9 h
    refine jc_skip ?_
    refine jx_then ?_
    refine jc_seq ?_
    refine jc_seq ?_
    refine jc_region ?_
    refine jo_f [(1, 0), (0, 0), (0, 0)] (by kernel_rfl) ?_
    obtain ⟨t_2, ht_23, h⟩ := bd h
    refine toO (by kernel_rfl) (p_call 0 81 #[(.agg #[(.slice w1_fPins_a w1.fPins.length w1_fPins_c), (.slice w1_fStrokes_a w1.fStrokes.length w1_fStrokes_c)]), (.int .i64 step2), (.int .i64 track3)] (by kernel_rfl) (by kernel_rfl) (fun w hm => impl_Wear_at.calls w1 step2 track3 w _ w1_fPins_a w1.fPins.length w1_fPins_c (hm.exRow w1_fPins_h List.not_mem_nil) rfl w1_fStrokes_a w1.fStrokes.length w1_fStrokes_c (hm.exRow w1_fStrokes_h List.not_mem_nil) rfl ht_23) ?_)
    rintro w v w' hm ⟨rfl, hm'⟩
    refine ⟨_, hm.app hm', jkO ?_⟩
    clear hm hm'
    refine jo_f [(0, 0)] (by kernel_rfl) ?_
    refine jo_end (by kernel_rfl) ?_
    refine jx_then ?_
    refine jc_seq ?_
    refine jc_region ?_
    refine jo_f [(0, 0), (0, 0)] (by kernel_rfl) ?_
    refine jo_end (by kernel_rfl) ?_
    refine jx_then ?_
    refine jc_cond (decide (t_2 ≥ 0)) (by kernel_rfl) (fun hc_24 => ?_) (fun hc_24 => ?_)
    · replace h := ifT hc_24 h
      refine jc_region ?_
      refine jo_f [(1, 0), (0, 0)] (by kernel_rfl) ?_
      obtain ⟨t_3, ht_25, h⟩ := bd h
      refine toO (by kernel_rfl) (p_call 0 82 #[(.agg #[(.slice w1_fPins_a w1.fPins.length w1_fPins_c), (.slice w1_fStrokes_a w1.fStrokes.length w1_fStrokes_c)]), (.int .i64 t_2)] (by kernel_rfl) (by kernel_rfl) (fun w hm => impl_Wear_without.calls w1 t_2 w _ w1_fPins_a w1.fPins.length w1_fPins_c (hm.exRow w1_fPins_h List.not_mem_nil) rfl w1_fStrokes_a w1.fStrokes.length w1_fStrokes_c (hm.exRow w1_fStrokes_h List.not_mem_nil) rfl ht_25) ?_)
      rintro w v w' hm ⟨o_26, cap_27, sp_28, _, rfl, hs_29, ho_30, o_31, cap_32, sp_33, _, rfl, hs_34, ho_35, rfl, hm'⟩
      refine ⟨_, hm.app hm', jkO ?_⟩
      clear hm hm'
      refine toO (by kernel_rfl) (p_s 0 [1] (by kernel_rfl) (by kernel_rfl) (jkO ?_))
      refine jo_end (by kernel_rfl) ?_
      refine jx_then ?_
      refine jc_seq ?_
      refine jc_region ?_
      refine jo_f [(1, 0), (0, 0), (0, 0), (0, 0), (0, 0), (0, 0)] (by kernel_rfl) ?_
      obtain ⟨t_4, ht_36, h⟩ := bd h
      refine toO (by kernel_rfl) (p_call 0 83 #[(.agg #[(.slice (o_26.map fun b => ⟨b, 0, none⟩) t_3.fPins.length cap_27), (.slice (o_31.map fun b => ⟨b, 0, none⟩) t_3.fStrokes.length cap_32)]), (.agg #[(.int .i8 (w8 step2)), (.int .i8 (w8 track3)), (.int .i64 0)])] (by kernel_rfl) (by kernel_rfl) (fun w hm => impl_Wear_with.calls t_3 (⟨(w8 step2), (w8 track3), 0⟩ : GWornPin) w _ (o_26.map fun b => ⟨b, 0, none⟩) t_3.fPins.length cap_27 (hm.ownRow (hh := 4) (o := o_26) (T := 75) (enc := encGWornPin) (xs := t_3.fPins) (sp := sp_28) (by kernel_rfl) (fun e => (ho_30 e).1) encGWornPin_len) rfl (o_31.map fun b => ⟨b, 0, none⟩) t_3.fStrokes.length cap_32 (hm.ownRow (hh := 5) (o := o_31) (T := 2) (enc := encI64) (xs := t_3.fStrokes) (sp := sp_33) (by kernel_rfl) (fun e => (ho_35 e).1) encI64_len) rfl ht_36) ?_)
      rintro w v w' hm ⟨o_37, cap_38, sp_39, _, rfl, hs_40, ho_41, o_42, cap_43, sp_44, _, rfl, hs_45, ho_46, rfl, hm'⟩
      refine ⟨_, hm.app hm', jkO ?_⟩
      clear hm hm'
      refine toO (by kernel_rfl) (p_s 0 [2] (by kernel_rfl) (by kernel_rfl) (jkO ?_))
      refine jo_f [(0, 0)] (by kernel_rfl) ?_
      refine jo_end (by kernel_rfl) ?_
      refine jx_then ?_
      refine jc_ret ?_
      obtain rfl := Option.some.inj h
      exact jx_ret [2] (.tuple #[(.agg #[(.slice (o_37.map fun b => ⟨b, 0, none⟩) t_4.fPins.length cap_38), (.slice (o_42.map fun b => ⟨b, 0, none⟩) t_4.fStrokes.length cap_43)]), (.int .i64 0)]) [(b_3, b_3), (b_3, b_3)] rfl (by kernel_rfl) (by kernel_rfl) (fun w hm => ⟨o_37, cap_38, sp_39, t_4.fPins.length, rfl, hs_40, ho_41, o_42, cap_43, sp_44, t_4.fStrokes.length, rfl, hs_45, ho_46, rfl, hm.pick [6, 7] (by kernel_rfl) (by kernel_rfl)⟩)
    · replace h := ifF hc_24 h
      refine jc_skip ?_
      refine jx_then ?_
      refine jc_seq ?_
      refine jc_region ?_
      refine jo_f [(1, 0), (0, 0), (0, 0), (0, 0), (0, 0), (0, 0)] (by kernel_rfl) ?_
      obtain ⟨t_5, ht_47, h⟩ := bd h
      refine toO (by kernel_rfl) (p_call 0 83 #[(.agg #[(.slice w1_fPins_a w1.fPins.length w1_fPins_c), (.slice w1_fStrokes_a w1.fStrokes.length w1_fStrokes_c)]), (.agg #[(.int .i8 (w8 step2)), (.int .i8 (w8 track3)), (.int .i64 0)])] (by kernel_rfl) (by kernel_rfl) (fun w hm => impl_Wear_with.calls w1 (⟨(w8 step2), (w8 track3), 0⟩ : GWornPin) w _ w1_fPins_a w1.fPins.length w1_fPins_c (hm.exRow w1_fPins_h List.not_mem_nil) rfl w1_fStrokes_a w1.fStrokes.length w1_fStrokes_c (hm.exRow w1_fStrokes_h List.not_mem_nil) rfl ht_47) ?_)
      rintro w v w' hm ⟨o_48, cap_49, sp_50, _, rfl, hs_51, ho_52, o_53, cap_54, sp_55, _, rfl, hs_56, ho_57, rfl, hm'⟩
      refine ⟨_, hm.app hm', jkO ?_⟩
      clear hm hm'
      refine toO (by kernel_rfl) (p_s 0 [2] (by kernel_rfl) (by kernel_rfl) (jkO ?_))
      refine jo_f [(0, 0)] (by kernel_rfl) ?_
      refine jo_end (by kernel_rfl) ?_
      refine jx_then ?_
      refine jc_ret ?_
      obtain rfl := Option.some.inj h
      exact jx_ret [2] (.tuple #[(.agg #[(.slice (o_48.map fun b => ⟨b, 0, none⟩) t_5.fPins.length cap_49), (.slice (o_53.map fun b => ⟨b, 0, none⟩) t_5.fStrokes.length cap_54)]), (.int .i64 0)]) [(b_3, b_3), (b_3, b_3)] rfl (by kernel_rfl) (by kernel_rfl) (fun w hm => ⟨o_48, cap_49, sp_50, t_5.fPins.length, rfl, hs_51, ho_52, o_53, cap_54, sp_55, t_5.fStrokes.length, rfl, hs_56, ho_57, rfl, hm.pick [4, 5] (by kernel_rfl) (by kernel_rfl)⟩)

/-! ### impl.NewHammer -/
noncomputable def impl_NewHammer (f0 : GFrame) (w1 : GWear) (track2 : Int) : Option (GWear × Int) := (impl_wornPlaceCode f0 w1 [(Arr.set (Arr.set (Arr.rep 2 0) 0 0) 1 track2)]).bind fun t_1 => (if (t_1 != 0) = true then some ((⟨[], []⟩ : GWear), t_1) else (impl_Wear_own w1).bind fun t_2 => (ix t_2.fStrokes track2).bind fun x_3 => some ((⟨t_2.fPins, (t_2.fStrokes.set track2.toNat 0)⟩ : GWear), 0))
set_option maxRecDepth 100000 in
theorem impl_NewHammer.calls (f0 : GFrame) (w1 : GWear) (track2 : Int) (w : World) (r : GWear × Int) (f0_fHammers_a : Option Addr) (f0_fHammers_an : Nat) (f0_fHammers_c : Nat) (f0_fHammers_h : Rw w f0_fHammers_a 2 encGHammer f0.fHammers) (f0_fHammers_hn : f0.fHammers.length = f0_fHammers_an) (w1_fPins_a : Option Addr) (w1_fPins_an : Nat) (w1_fPins_c : Nat) (w1_fPins_h : Rw w w1_fPins_a 3 encGWornPin w1.fPins) (w1_fPins_hn : w1.fPins.length = w1_fPins_an) (w1_fStrokes_a : Option Addr) (w1_fStrokes_an : Nat) (w1_fStrokes_c : Nat) (w1_fStrokes_h : Rw w w1_fStrokes_a 1 encI64 w1.fStrokes) (w1_fStrokes_hn : w1.fStrokes.length = w1_fStrokes_an) (h : impl_NewHammer f0 w1 track2 = some r) :
    Calls Tryz.prog 36 #[(.agg #[(.int .i16 f0.fSteps), (.slice f0_fHammers_a f0_fHammers_an f0_fHammers_c)]), (.agg #[(.slice w1_fPins_a w1_fPins_an w1_fPins_c), (.slice w1_fStrokes_a w1_fStrokes_an w1_fStrokes_c)]), (.int .i64 track2)] w fun e w' => ∃ v, e = .returned v ∧ (∃ (o0 : Option Nat) (c0 : Nat) (s0 : List Value) (n0 : Nat), r.1.fPins.length = n0 ∧ (o0 ≠ none → n0 ≤ c0 ∧ s0.length = (c0 - n0) * 3) ∧ (o0 = none → r.1.fPins = [] ∧ c0 = 0) ∧ ∃ (o1 : Option Nat) (c1 : Nat) (s1 : List Value) (n1 : Nat), r.1.fStrokes.length = n1 ∧ (o1 ≠ none → n1 ≤ c1 ∧ s1.length = (c1 - n1) * 1) ∧ (o1 = none → r.1.fStrokes = [] ∧ c1 = 0) ∧ v = .tuple #[.agg #[.slice (o0.map fun b => ⟨b, 0, none⟩) n0 c0, .slice (o1.map fun b => ⟨b, 0, none⟩) n1 c1], (.int .i64 r.2)] ∧ Mem w [] [⟨o0, 75, row encGWornPin r.1.fPins s0⟩, ⟨o1, 2, row encI64 r.1.fStrokes s1⟩] w') := by
  subst f0_fHammers_hn w1_fPins_hn w1_fStrokes_hn
  rw [impl_NewHammer] at h
  refine enter (args := [(.agg #[(.int .i16 f0.fSteps), (.slice f0_fHammers_a f0.fHammers.length f0_fHammers_c)]), (.agg #[(.slice w1_fPins_a w1.fPins.length w1_fPins_c), (.slice w1_fStrokes_a w1.fStrokes.length w1_fStrokes_c)]), (.int .i64 track2)]) Tryz.func36 rfl Tryz.ntmps36 (by kernel_rfl) (L := []) (W := []) (Mem.start w) ?_
  refine jc_seq ?_
  refine jc_region ?_
  refine toO (by kernel_rfl) (p_a 0 [0] (by kernel_rfl) (fun b => by kernel_rfl) (fun b_1 => jkO ?_))
  refine toO (by kernel_rfl) (p_a 0 [0] (by kernel_rfl) (fun b => by kernel_rfl) (fun b_2 => jkO ?_))
  refine toO (by kernel_rfl) (p_a 0 [0] (by kernel_rfl) (fun b => by kernel_rfl) (fun b_3 => jkO ?_))
  refine jo_f [(0, 0)] (by kernel_rfl) ?_
  refine jo_end (by kernel_rfl) ?_
  refine jx_then ?_
  refine jc_seq ?_
  refine jc_seq ?_
  refine jc_region ?_
  refine jo_f [(0, 0), (1, 0), (0, 0), (0, 0)] (by kernel_rfl) ?_
  refine toO (by kernel_rfl) (p_bs 0 128 2 1 encA2I64 [(.agg (row encI64 (Arr.set (Arr.set (Arr.rep 2 0) 0 0) 1 track2).1 []).toArray)] [(Arr.set (Arr.set (Arr.rep 2 0) 0 0) 1 track2)] (by kernel_rfl) (by kernel_rfl) rfl (by kernel_rfl) (by kernel_rfl) encA2I64_len (fun b_7 => jkO ?_))
  obtain ⟨t_1, ht_8, h⟩ := bd h
  refine toO (by kernel_rfl) (p_call 0 80 #[(.agg #[(.int .i16 f0.fSteps), (.slice f0_fHammers_a f0.fHammers.length f0_fHammers_c)]), (.agg #[(.slice w1_fPins_a w1.fPins.length w1_fPins_c), (.slice w1_fStrokes_a w1.fStrokes.length w1_fStrokes_c)]), (.slice (some ⟨b_7, 0, none⟩) 1 1)] (by kernel_rfl) (by kernel_rfl) (fun w hm => impl_wornPlaceCode.calls f0 w1 [(Arr.set (Arr.set (Arr.rep 2 0) 0 0) 1 track2)] w _ f0_fHammers_a f0.fHammers.length f0_fHammers_c (hm.exRow f0_fHammers_h List.not_mem_nil) rfl w1_fPins_a w1.fPins.length w1_fPins_c (hm.exRow w1_fPins_h List.not_mem_nil) rfl w1_fStrokes_a w1.fStrokes.length w1_fStrokes_c (hm.exRow w1_fStrokes_h List.not_mem_nil) rfl (some ⟨b_7, 0, none⟩) 1 1 (hm.ownRow (hh := 3) (o := (some b_7)) (T := 128) (enc := encA2I64) (xs := [(Arr.set (Arr.set (Arr.rep 2 0) 0 0) 1 track2)]) (sp := []) (by kernel_rfl) (fun e => nomatch e) encA2I64_len) rfl ht_8) ?_)
  rintro w v w' hm ⟨rfl, hm'⟩
  refine ⟨_, hm.app hm', jkO ?_⟩
  clear hm hm'
  refine jo_f [(0, 0)] (by kernel_rfl) ?_
  refine jo_end (by kernel_rfl) ?_
  refine jx_then ?_
  refine jc_seq ?_
  refine jc_region ?_
  refine jo_f [(0, 0), (0, 0)] (by kernel_rfl) ?_
  refine jo_end (by kernel_rfl) ?_
  refine jx_then ?_
  refine jc_cond (t_1 != 0) (by kernel_rfl) (fun hc_9 => ?_) (fun hc_9 => ?_)
  · replace h := ifT hc_9 h
    refine jc_seq ?_
    refine jc_region ?_
    refine jo_f [(0, 0), (0, 0)] (by kernel_rfl) ?_
    refine toO (by kernel_rfl) (p_s 0 [2] (by kernel_rfl) (by kernel_rfl) (jkO ?_))
    refine jo_f [(0, 0)] (by kernel_rfl) ?_
    refine jo_end (by kernel_rfl) ?_
    refine jx_then ?_
    refine jc_ret ?_
    refine jx_thenr ?_
    obtain rfl := Option.some.inj h
    refine jx_ghost 75 encGWornPin ?_
    refine jx_ghost 2 encI64 ?_
    exact jx_ret [2] (.tuple #[(.agg #[(.slice none 0 0), (.slice none 0 0)]), (.int .i64 t_1)]) [(b_3, b_3), (b_3, b_3)] rfl (by kernel_rfl) (by kernel_rfl) (fun w hm => ⟨none, 0, [], 0, rfl, (fun e => absurd rfl e), (fun _ => ⟨rfl, rfl⟩), none, 0, [], 0, rfl, (fun e => absurd rfl e), (fun _ => ⟨rfl, rfl⟩), rfl, hm.pick [4, 5] (by kernel_rfl) (by kernel_rfl)⟩)
  · replace h := ifF hc_9 h
    refine jc_skip ?_
    refine jx_then ?_
    refine jc_seq ?_
    refine jc_region ?_
    refine jo_f [(1, 0)] (by kernel_rfl) ?_
    obtain ⟨t_2, ht_10, h⟩ := bd h
    refine toO (by kernel_rfl) (p_call 0 84 #[(.agg #[(.slice w1_fPins_a w1.fPins.length w1_fPins_c), (.slice w1_fStrokes_a w1.fStrokes.length w1_fStrokes_c)])] (by kernel_rfl) (by kernel_rfl) (fun w hm => impl_Wear_own.calls w1 w _ w1_fPins_a w1.fPins.length w1_fPins_c (hm.exRow w1_fPins_h List.not_mem_nil) rfl w1_fStrokes_a w1.fStrokes.length w1_fStrokes_c (hm.exRow w1_fStrokes_h List.not_mem_nil) rfl ht_10) ?_)
    rintro w v w' hm ⟨o_11, cap_12, sp_13, _, rfl, hs_14, ho_15, o_16, cap_17, sp_18, _, rfl, hs_19, ho_20, rfl, hm'⟩
    refine ⟨_, hm.app hm', jkO ?_⟩
    clear hm hm'
    refine toO (by kernel_rfl) (p_a 0 [0] (by kernel_rfl) (fun b => by kernel_rfl) (fun b_21 => jkO ?_))
    refine toO (by kernel_rfl) (p_s 0 [6] (by kernel_rfl) (by kernel_rfl) (jkO ?_))
    refine jo_end (by kernel_rfl) ?_
    refine jx_then ?_
    refine jc_seq ?_
    refine jc_region ?_
    refine jo_f [(0, 0), (6, 0), (0, 0)] (by kernel_rfl) ?_
    obtain ⟨x_3, hx_22, h⟩ := bd h
    refine toO (by kernel_rfl) (p_idx 0 (o_16.map fun b => ⟨b, 0, none⟩) t_2.fStrokes.length track2 1 (by kernel_rfl) (by kernel_rfl) (ix_some hx_22).1 (ltn hx_22 rfl) (spo ho_20 hx_22) (jkO ?_))
    refine toO (by kernel_rfl) (p_strO 0 5 o_16 2 encI64 t_2.fStrokes sp_18 track2 0 1 0 [(.int .i64 0)] (by kernel_rfl) (by kernel_rfl) (by kernel_rfl) (fun e => (ho_20 e).1) encI64_len hx_22 (by kernel_rfl) (by kernel_rfl) (jkO ?_))
    refine jo_end (by kernel_rfl) ?_
    refine jx_then ?_
    refine jc_seq ?_
    refine jc_region ?_
    refine jo_f [(6, 0)] (by kernel_rfl) ?_
    refine toO (by kernel_rfl) (p_s 0 [2] (by kernel_rfl) (by kernel_rfl) (jkO ?_))
    refine jo_f [(0, 0)] (by kernel_rfl) ?_
    refine jo_end (by kernel_rfl) ?_
    refine jx_then ?_
    refine jc_ret ?_
    obtain rfl := Option.some.inj h
    exact jx_ret [2] (.tuple #[(.agg #[(.slice (o_11.map fun b => ⟨b, 0, none⟩) t_2.fPins.length cap_12), (.slice (o_16.map fun b => ⟨b, 0, none⟩) t_2.fStrokes.length cap_17)]), (.int .i64 0)]) [(b_3, b_3), (b_3, b_3)] rfl (by kernel_rfl) (by kernel_rfl) (fun w hm => ⟨o_11, cap_12, sp_13, t_2.fPins.length, rfl, hs_14, ho_15, o_16, cap_17, sp_18, t_2.fStrokes.length, (List.length_set.trans rfl), hs_19, (set_ho ho_20), rfl, hm.pick [4, 5] (by kernel_rfl) (by kernel_rfl)⟩)

/-! ### impl.WornOut -/
noncomputable def impl_WornOut.k_5 (xs_3 : List GWornPin) (xs_4 : List Int) : Option ((List GWornPin) × (List Int) × Int) := some (xs_3, xs_4, 0)
noncomputable def impl_WornOut.k_14 (i_8 : Int) (xs_12 : List GWornPin) (xs_13 : List Int) : Option (((List GWornPin) × (List Int) × Int) ⊕ (((List GWornPin) × (List Int)))) := some (.inl (xs_12, xs_13, (w64 (i_8 + 1))))
noncomputable def impl_WornOut.l_9 (t_2 : (List Gpart)) : ((List GWornPin) × (List Int) × Int) → Option (((List GWornPin) × (List Int) × Int) ⊕ (((List GWornPin) × (List Int))))
  | (xs_6, xs_7, i_8) => (if (decide (i_8 < (t_2.length : Int))) = true then (ix t_2 i_8).bind fun x_11 => (impl_part_isWorn x_11).bind fun t_15 => (if (!t_15) = true then impl_WornOut.k_14 i_8 xs_6 xs_7 else (if (decide (x_11.fstep < 0)) = true then (if xs_7.length + [x_11.ftrack].length ≤ 4294967296 then impl_WornOut.k_14 i_8 xs_6 (xs_7 ++ [x_11.ftrack]) else none) else (if xs_6.length + [(⟨(w8 x_11.fstep), (w8 x_11.ftrack), x_11.fmade⟩ : GWornPin)].length ≤ 4294967296 then impl_WornOut.k_14 i_8 (xs_6 ++ [(⟨(w8 x_11.fstep), (w8 x_11.ftrack), x_11.fmade⟩ : GWornPin)]) xs_7 else none))) else some (.inr (xs_6, xs_7)))
noncomputable def impl_WornOut (f0 : GFrame) (w1 : GWear) (v2 : GLives) : Option ((List GWornPin) × (List Int) × Int) := (impl_wearCode f0 w1 [v2]).bind fun t_1 => (if (t_1 != 0) = true then some ([], [], t_1) else (impl_Wear_parts w1 f0 v2).bind fun t_2 => (loop (impl_WornOut.l_9 t_2) (([] : List GWornPin), ([] : List Int), 0)).bind fun t_10 => impl_WornOut.k_5 t_10.1 t_10.2)
set_option maxRecDepth 100000 in
theorem impl_WornOut.calls (f0 : GFrame) (w1 : GWear) (v2 : GLives) (w : World) (r : (List GWornPin) × (List Int) × Int) (f0_fHammers_a : Option Addr) (f0_fHammers_an : Nat) (f0_fHammers_c : Nat) (f0_fHammers_h : Rw w f0_fHammers_a 2 encGHammer f0.fHammers) (f0_fHammers_hn : f0.fHammers.length = f0_fHammers_an) (w1_fPins_a : Option Addr) (w1_fPins_an : Nat) (w1_fPins_c : Nat) (w1_fPins_h : Rw w w1_fPins_a 3 encGWornPin w1.fPins) (w1_fPins_hn : w1.fPins.length = w1_fPins_an) (w1_fStrokes_a : Option Addr) (w1_fStrokes_an : Nat) (w1_fStrokes_c : Nat) (w1_fStrokes_h : Rw w w1_fStrokes_a 1 encI64 w1.fStrokes) (w1_fStrokes_hn : w1.fStrokes.length = w1_fStrokes_an) (h : impl_WornOut f0 w1 v2 = some r) :
    Calls Tryz.prog 37 #[(.agg #[(.int .i16 f0.fSteps), (.slice f0_fHammers_a f0_fHammers_an f0_fHammers_c)]), (.agg #[(.slice w1_fPins_a w1_fPins_an w1_fPins_c), (.slice w1_fStrokes_a w1_fStrokes_an w1_fStrokes_c)]), (.agg #[(.int .i64 v2.fPin), (.int .i64 v2.fHammer)])] w fun e w' => ∃ v, e = .returned v ∧ (∃ (o0 : Option Nat) (c0 : Nat) (s0 : List Value) (n0 : Nat), r.1.length = n0 ∧ (o0 ≠ none → n0 ≤ c0 ∧ s0.length = (c0 - n0) * 3) ∧ (o0 = none → r.1 = [] ∧ c0 = 0) ∧ ∃ (o1 : Option Nat) (c1 : Nat) (s1 : List Value) (n1 : Nat), r.2.1.length = n1 ∧ (o1 ≠ none → n1 ≤ c1 ∧ s1.length = (c1 - n1) * 1) ∧ (o1 = none → r.2.1 = [] ∧ c1 = 0) ∧ v = .tuple #[.slice (o0.map fun b => ⟨b, 0, none⟩) n0 c0, .slice (o1.map fun b => ⟨b, 0, none⟩) n1 c1, (.int .i64 r.2.2)] ∧ Mem w [] [⟨o0, 75, row encGWornPin r.1 s0⟩, ⟨o1, 2, row encI64 r.2.1 s1⟩] w') := by
  subst f0_fHammers_hn w1_fPins_hn w1_fStrokes_hn
  rw [impl_WornOut] at h
  refine enter (args := [(.agg #[(.int .i16 f0.fSteps), (.slice f0_fHammers_a f0.fHammers.length f0_fHammers_c)]), (.agg #[(.slice w1_fPins_a w1.fPins.length w1_fPins_c), (.slice w1_fStrokes_a w1.fStrokes.length w1_fStrokes_c)]), (.agg #[(.int .i64 v2.fPin), (.int .i64 v2.fHammer)])]) Tryz.func37 rfl Tryz.ntmps37 (by kernel_rfl) (L := []) (W := []) (Mem.start w) ?_
  refine jc_seq ?_
  refine jc_region ?_
  refine toO (by kernel_rfl) (p_a 0 [0] (by kernel_rfl) (fun b => by kernel_rfl) (fun b_1 => jkO ?_))
  refine toO (by kernel_rfl) (p_a 0 [0] (by kernel_rfl) (fun b => by kernel_rfl) (fun b_2 => jkO ?_))
  refine toO (by kernel_rfl) (p_a 0 [0] (by kernel_rfl) (fun b => by kernel_rfl) (fun b_3 => jkO ?_))
  refine jo_f [(0, 0), (0, 0), (0, 0)] (by kernel_rfl) ?_
  refine jo_end (by kernel_rfl) ?_
  refine jx_then ?_
  refine jc_seq ?_
  refine jc_seq ?_
  refine jc_region ?_
  refine jo_f [(0, 0), (1, 0), (2, 0)] (by kernel_rfl) ?_
  refine toO (by kernel_rfl) (p_a 0 [0] (by kernel_rfl) (fun b => by kernel_rfl) (fun b_7 => jkO ?_))
  obtain ⟨t_1, ht_8, h⟩ := bd h
  refine toO (by kernel_rfl) (p_call 0 63 #[(.agg #[(.int .i16 f0.fSteps), (.slice f0_fHammers_a f0.fHammers.length f0_fHammers_c)]), (.agg #[(.slice w1_fPins_a w1.fPins.length w1_fPins_c), (.slice w1_fStrokes_a w1.fStrokes.length w1_fStrokes_c)]), (.slice (some ⟨b_7, 0, none⟩) 1 1)] (by kernel_rfl) (by kernel_rfl) (fun w hm => impl_wearCode.calls f0 w1 [v2] w _ f0_fHammers_a f0.fHammers.length f0_fHammers_c (hm.exRow f0_fHammers_h List.not_mem_nil) rfl w1_fPins_a w1.fPins.length w1_fPins_c (hm.exRow w1_fPins_h List.not_mem_nil) rfl w1_fStrokes_a w1.fStrokes.length w1_fStrokes_c (hm.exRow w1_fStrokes_h List.not_mem_nil) rfl (some ⟨b_7, 0, none⟩) 1 1 (hm.ownRow (hh := 3) (o := (some b_7)) (T := 46) (enc := encGLives) (xs := [v2]) (sp := []) (by kernel_rfl) (fun e => nomatch e) encGLives_len) rfl ht_8) ?_)
  rintro w v w' hm ⟨rfl, hm'⟩
  refine ⟨_, hm.app hm', jkO ?_⟩
  clear hm hm'
  refine jo_f [(0, 0)] (by kernel_rfl) ?_
  refine jo_end (by kernel_rfl) ?_
  refine jx_then ?_
  refine jc_seq ?_
  refine jc_region ?_
  refine jo_f [(0, 0), (0, 0)] (by kernel_rfl) ?_
  refine jo_end (by kernel_rfl) ?_
  refine jx_then ?_
  refine jc_cond (t_1 != 0) (by kernel_rfl) (fun hc_9 => ?_) (fun hc_9 => ?_)
  · replace h := ifT hc_9 h
    refine jc_seq ?_
    refine jc_region ?_
    refine jo_f [(0, 0), (0, 0), (0, 0), (0, 0)] (by kernel_rfl) ?_
    refine jo_end (by kernel_rfl) ?_
    refine jx_then ?_
    refine jc_ret ?_
    refine jx_thenr ?_
    obtain rfl := Option.some.inj h
    refine jx_ghost 75 encGWornPin ?_
    refine jx_ghost 2 encI64 ?_
    exact jx_ret [] (.tuple #[(.slice none 0 0), (.slice none 0 0), (.int .i64 t_1)]) [] rfl (by kernel_rfl) (by kernel_rfl) (fun w hm => ⟨none, 0, [], 0, rfl, (fun e => absurd rfl e), (fun _ => ⟨rfl, rfl⟩), none, 0, [], 0, rfl, (fun e => absurd rfl e), (fun _ => ⟨rfl, rfl⟩), rfl, hm.pick [4, 5] (by kernel_rfl) (by kernel_rfl)⟩)
  · replace h := ifF hc_9 h
    refine jc_skip ?_
    refine jx_then ?_
    refine jc_seq ?_
    refine jc_region ?_
    refine toO (by kernel_rfl) (p_a 0 [0] (by kernel_rfl) (fun b => by kernel_rfl) (fun b_10 => jkO ?_))
    refine toO (by kernel_rfl) (p_a 0 [0] (by kernel_rfl) (fun b => by kernel_rfl) (fun b_11 => jkO ?_))
    refine jo_f [(0, 0), (0, 0)] (by kernel_rfl) ?_
    refine jo_end (by kernel_rfl) ?_
    refine jx_then ?_
    refine jc_seq ?_
    refine jc_seq ?_
    refine jc_region ?_
    refine jo_f [(1, 0), (0, 0), (2, 0)] (by kernel_rfl) ?_
    obtain ⟨t_2, ht_386, h⟩ := bd h
    refine toO (by kernel_rfl) (p_call 0 66 #[(.agg #[(.slice w1_fPins_a w1.fPins.length w1_fPins_c), (.slice w1_fStrokes_a w1.fStrokes.length w1_fStrokes_c)]), (.agg #[(.int .i16 f0.fSteps), (.slice f0_fHammers_a f0.fHammers.length f0_fHammers_c)]), (.agg #[(.int .i64 v2.fPin), (.int .i64 v2.fHammer)])] (by kernel_rfl) (by kernel_rfl) (fun w hm => impl_Wear_parts.calls w1 f0 v2 w _ w1_fPins_a w1.fPins.length w1_fPins_c (hm.exRow w1_fPins_h List.not_mem_nil) rfl w1_fStrokes_a w1.fStrokes.length w1_fStrokes_c (hm.exRow w1_fStrokes_h List.not_mem_nil) rfl f0_fHammers_a f0.fHammers.length f0_fHammers_c (hm.exRow f0_fHammers_h List.not_mem_nil) rfl ht_386) ?_)
    rintro w v w' hm ⟨o_387, cap_388, sp_389, _, rfl, hs_390, ho_391, rfl, hm'⟩
    refine ⟨_, hm.app hm', jkO ?_⟩
    clear hm hm'
    refine jo_f [(0, 0), (0, 0)] (by kernel_rfl) ?_
    refine jo_end (by kernel_rfl) ?_
    refine jx_then ?_
    refine jc_meet (fun (j : (List GWornPin) × (List Int) × (Option Nat) × Nat × (List Value) × Nat × (Option Nat) × Nat × (List Value) × Nat) => match j with | ⟨xs_3, xs_4, o_570, cap_571, sp_572, n_573, o_576, cap_577, sp_578, n_579⟩ => impl_WornOut.k_5 xs_3 xs_4 = some r ∧ (xs_3.length = n_573) ∧ ((o_570 ≠ none → n_573 ≤ cap_571 ∧ sp_572.length = (cap_571 - n_573) * 3)) ∧ ((o_570 = none → xs_3 = [] ∧ cap_571 = 0)) ∧ (xs_4.length = n_579) ∧ ((o_576 ≠ none → n_579 ≤ cap_577 ∧ sp_578.length = (cap_577 - n_579) * 1)) ∧ ((o_576 = none → xs_4 = [] ∧ cap_577 = 0))) (fun (j : (List GWornPin) × (List Int) × (Option Nat) × Nat × (List Value) × Nat × (Option Nat) × Nat × (List Value) × Nat) => match j with | ⟨xs_3, xs_4, o_570, cap_571, sp_572, n_573, o_576, cap_577, sp_578, n_579⟩ => [(6, [], (.slice none 0 0)), (7, [], (.slice none 0 0)), (8, [], (.int .i64 0)), (10, [], (.slice (o_570.map fun b => ⟨b, 0, none⟩) n_573 cap_571)), (11, [], (.slice (o_576.map fun b => ⟨b, 0, none⟩) n_579 cap_577))]) (fun (j : (List GWornPin) × (List Int) × (Option Nat) × Nat × (List Value) × Nat × (Option Nat) × Nat × (List Value) × Nat) => match j with | ⟨xs_3, xs_4, o_570, cap_571, sp_572, n_573, o_576, cap_577, sp_578, n_579⟩ => [⟨some b_1, 43, [(.int .i16 f0.fSteps), (.slice f0_fHammers_a f0.fHammers.length f0_fHammers_c)]⟩, ⟨some b_2, 38, [(.slice w1_fPins_a w1.fPins.length w1_fPins_c), (.slice w1_fStrokes_a w1.fStrokes.length w1_fStrokes_c)]⟩, ⟨some b_3, 46, [(.int .i64 v2.fPin), (.int .i64 v2.fHammer)]⟩, ⟨(some b_7), 46, row encGLives [v2] []⟩, ⟨o_570, 75, row encGWornPin xs_3 sp_572⟩, ⟨o_576, 2, row encI64 xs_4 sp_578⟩, ⟨o_387, 114, row encGpart t_2 sp_389⟩]) ?_ ?_
    · refine jc_block ?_
      obtain ⟨t_10, ht_759, hr_706⟩ := bd h
      refine jc_loop (fun (s : (List GWornPin) × (List Int) × Int) (x : (Option Nat) × Nat × (List Value) × Nat × (Option Nat) × Nat × (List Value) × Nat) => match s, x with | ⟨xs_6, xs_7, i_8⟩, ⟨o_694, cap_695, sp_696, n_697, o_700, cap_701, sp_702, n_703⟩ => (xs_6.length = n_697) ∧ ((o_694 ≠ none → n_697 ≤ cap_695 ∧ sp_696.length = (cap_695 - n_697) * 3)) ∧ ((o_694 = none → xs_6 = [] ∧ cap_695 = 0)) ∧ (xs_7.length = n_703) ∧ ((o_700 ≠ none → n_703 ≤ cap_701 ∧ sp_702.length = (cap_701 - n_703) * 1)) ∧ ((o_700 = none → xs_7 = [] ∧ cap_701 = 0))) (fun (s : (List GWornPin) × (List Int) × Int) (x : (Option Nat) × Nat × (List Value) × Nat × (Option Nat) × Nat × (List Value) × Nat) => match s, x with | ⟨xs_6, xs_7, i_8⟩, ⟨o_694, cap_695, sp_696, n_697, o_700, cap_701, sp_702, n_703⟩ => [(6, [], (.slice none 0 0)), (7, [], (.slice none 0 0)), (8, [], (.int .i64 0)), (10, [], (.slice (o_694.map fun b => ⟨b, 0, none⟩) n_697 cap_695)), (11, [], (.slice (o_700.map fun b => ⟨b, 0, none⟩) n_703 cap_701)), (27, [], (.slice (o_387.map fun b => ⟨b, 0, none⟩) t_2.length cap_388)), (28, [], (.int .i64 (t_2.length : Int))), (29, [], (.int .i64 i_8))]) (fun (s : (List GWornPin) × (List Int) × Int) (x : (Option Nat) × Nat × (List Value) × Nat × (Option Nat) × Nat × (List Value) × Nat) => match s, x with | ⟨xs_6, xs_7, i_8⟩, ⟨o_694, cap_695, sp_696, n_697, o_700, cap_701, sp_702, n_703⟩ => [⟨some b_1, 43, [(.int .i16 f0.fSteps), (.slice f0_fHammers_a f0.fHammers.length f0_fHammers_c)]⟩, ⟨some b_2, 38, [(.slice w1_fPins_a w1.fPins.length w1_fPins_c), (.slice w1_fStrokes_a w1.fStrokes.length w1_fStrokes_c)]⟩, ⟨some b_3, 46, [(.int .i64 v2.fPin), (.int .i64 v2.fHammer)]⟩, ⟨(some b_7), 46, row encGLives [v2] []⟩, ⟨o_694, 75, row encGWornPin xs_6 sp_696⟩, ⟨o_700, 2, row encI64 xs_7 sp_702⟩, ⟨o_387, 114, row encGpart t_2 sp_389⟩]) ht_759 ⟨(some b_10), 0, [], 0, (some b_11), 0, [], 0⟩ ⟨rfl, (fun _ => ⟨Nat.le_refl _, by simp⟩), (fun e => nomatch e), rfl, (fun _ => ⟨Nat.le_refl _, by simp⟩), (fun e => nomatch e)⟩ (by kernel_rfl) [0, 1, 2, 3, 4, 5, 6] (by kernel_rfl) (by kernel_rfl) ?_
      rintro ⟨xs_6, xs_7, i_8⟩ ⟨o_694, cap_695, sp_696, n_697, o_700, cap_701, sp_702, n_703⟩ y_707 ⟨rfl, hs_698, ho_699, rfl, hs_704, ho_705⟩ h
      rw [impl_WornOut.l_9] at h
      refine jc_seq ?_
      refine jc_region ?_
      refine jo_f [(0, 0)] (by kernel_rfl) ?_
      refine jo_end (by kernel_rfl) ?_
      refine jx_then ?_
      refine jc_seq ?_
      refine jc_cond (decide (i_8 < (t_2.length : Int))) (by kernel_rfl) (fun hc_709 => ?_) (fun hc_709 => ?_)
      · replace h := ifT hc_709 h
        refine jc_skip ?_
        refine jx_then ?_
        refine jc_seq ?_
        refine jc_block ?_
        refine jc_seq ?_
        refine jc_region ?_
        obtain ⟨x_11, hx_710, h⟩ := bd h
        refine toO (by kernel_rfl) (p_idx 0 (o_387.map fun b => ⟨b, 0, none⟩) t_2.length i_8 5 (by kernel_rfl) (by kernel_rfl) (ix_some hx_710).1 (ltn hx_710 rfl) (spo ho_391 hx_710) (jkO ?_))
        refine toO (by kernel_rfl) (p_ld 0 (aB (o_387.map fun b => ⟨b, 0, none⟩)) (aO (o_387.map fun b => ⟨b, 0, none⟩) + i_8.toNat * 5) true (encGpart x_11) (by kernel_rfl) (by kernel_rfl) (by kernel_rfl) (fun w hm => ((hm.ownRow (hh := 6) (o := o_387) (T := 114) (enc := encGpart) (xs := t_2) (sp := sp_389) (by kernel_rfl) (fun e => (ho_391 e).1) encGpart_len).at hx_710)) (jkO ?_))
        refine toO (by kernel_rfl) (p_a 0 [0] (by kernel_rfl) (fun b => by kernel_rfl) (fun b_711 => jkO ?_))
        refine toO (by kernel_rfl) (p_s 0 [7] (by kernel_rfl) (by kernel_rfl) (jkO ?_))
        refine jo_end (by kernel_rfl) ?_
        refine jx_then ?_
        refine jc_meet (fun (j : (List GWornPin) × (List Int) × (Option Nat) × Nat × (List Value) × Nat × (Option Nat) × Nat × (List Value) × Nat) => match j with | ⟨xs_12, xs_13, o_729, cap_730, sp_731, n_732, o_735, cap_736, sp_737, n_738⟩ => impl_WornOut.k_14 i_8 xs_12 xs_13 = some y_707 ∧ (xs_12.length = n_732) ∧ ((o_729 ≠ none → n_732 ≤ cap_730 ∧ sp_731.length = (cap_730 - n_732) * 3)) ∧ ((o_729 = none → xs_12 = [] ∧ cap_730 = 0)) ∧ (xs_13.length = n_738) ∧ ((o_735 ≠ none → n_738 ≤ cap_736 ∧ sp_737.length = (cap_736 - n_738) * 1)) ∧ ((o_735 = none → xs_13 = [] ∧ cap_736 = 0))) (fun (j : (List GWornPin) × (List Int) × (Option Nat) × Nat × (List Value) × Nat × (Option Nat) × Nat × (List Value) × Nat) => match j with | ⟨xs_12, xs_13, o_729, cap_730, sp_731, n_732, o_735, cap_736, sp_737, n_738⟩ => [(6, [], (.slice none 0 0)), (7, [], (.slice none 0 0)), (8, [], (.int .i64 0)), (10, [], (.slice (o_729.map fun b => ⟨b, 0, none⟩) n_732 cap_730)), (11, [], (.slice (o_735.map fun b => ⟨b, 0, none⟩) n_738 cap_736)), (27, [], (.slice (o_387.map fun b => ⟨b, 0, none⟩) t_2.length cap_388)), (28, [], (.int .i64 (t_2.length : Int))), (29, [], (.int .i64 i_8))]) (fun (j : (List GWornPin) × (List Int) × (Option Nat) × Nat × (List Value) × Nat × (Option Nat) × Nat × (List Value) × Nat) => match j with | ⟨xs_12, xs_13, o_729, cap_730, sp_731, n_732, o_735, cap_736, sp_737, n_738⟩ => [⟨some b_1, 43, [(.int .i16 f0.fSteps), (.slice f0_fHammers_a f0.fHammers.length f0_fHammers_c)]⟩, ⟨some b_2, 38, [(.slice w1_fPins_a w1.fPins.length w1_fPins_c), (.slice w1_fStrokes_a w1.fStrokes.length w1_fStrokes_c)]⟩, ⟨some b_3, 46, [(.int .i64 v2.fPin), (.int .i64 v2.fHammer)]⟩, ⟨(some b_7), 46, row encGLives [v2] []⟩, ⟨o_729, 75, row encGWornPin xs_12 sp_731⟩, ⟨o_735, 2, row encI64 xs_13 sp_737⟩, ⟨o_387, 114, row encGpart t_2 sp_389⟩, ⟨some b_711, 114, [(.int .i64 x_11.fmade), (.int .i64 x_11.feach), (.int .i64 x_11.flife), (.int .i64 x_11.fstep), (.int .i64 x_11.ftrack)]⟩]) ?_ ?_
        · refine jc_block ?_
          refine jc_seq ?_
          refine jc_region ?_
          refine jo_f [(7, 0)] (by kernel_rfl) ?_
          obtain ⟨t_15, ht_741, h⟩ := bd h
          refine toO (by kernel_rfl) (p_call 0 69 #[(.agg #[(.int .i64 x_11.fmade), (.int .i64 x_11.feach), (.int .i64 x_11.flife), (.int .i64 x_11.fstep), (.int .i64 x_11.ftrack)])] (by kernel_rfl) (by kernel_rfl) (fun w hm => impl_part_isWorn.calls x_11 w _ ht_741) ?_)
          rintro w v w' hm ⟨rfl, hm'⟩
          refine ⟨_, hm.app hm', jkO ?_⟩
          clear hm hm'
          refine jo_f [(0, 0), (0, 0)] (by kernel_rfl) ?_
          refine jo_end (by kernel_rfl) ?_
          refine jx_then ?_
          refine jc_cond (!t_15) (by kernel_rfl) (fun hc_742 => ?_) (fun hc_742 => ?_)
          · replace h := ifT hc_742 h
            refine jc_skip ?_
            refine jx_inn ?_
            exact jx_meet ⟨xs_6, xs_7, o_694, cap_695, sp_696, xs_6.length, o_700, cap_701, sp_702, xs_7.length⟩ ⟨h, rfl, hs_698, ho_699, rfl, hs_704, ho_705⟩ (by kernel_rfl) [0, 1, 2, 3, 4, 5, 6, 7] (by kernel_rfl) (by kernel_rfl)
          · replace h := ifF hc_742 h
            refine jc_seq ?_
            refine jc_region ?_
            refine jo_f [(0, 0), (7, 0), (0, 0), (0, 0)] (by kernel_rfl) ?_
            refine jo_end (by kernel_rfl) ?_
            refine jx_then ?_
            refine jc_cond (decide (x_11.fstep < 0)) (by kernel_rfl) (fun hc_743 => ?_) (fun hc_743 => ?_)
            · replace h := ifT hc_743 h
              refine jc_region ?_
              refine jo_f [(0, 0), (0, 0), (7, 0)] (by kernel_rfl) ?_
              refine toO (by kernel_rfl) (p_a 0 [0] (by kernel_rfl) (fun b => by kernel_rfl) (fun b_744 => jkO ?_))
              obtain ⟨hg_745, h⟩ := gd h
              refine toO (by kernel_rfl) (p_apn 0 5 o_700 2 xs_7.length 1 cap_701 1 8 (some ⟨b_744, 0, none⟩) encI64 xs_7 [x_11.ftrack] sp_702 (.int .i64 0) rfl rfl (by kernel_rfl) (by kernel_rfl) (by kernel_rfl) encI64_len encI64_cell hs_704 ho_705 (fun w hm => (hm.ownRow (hh := 8) (o := (some b_744)) (T := 2) (enc := encI64) (xs := [x_11.ftrack]) (sp := []) (by kernel_rfl) (fun e => nomatch e) encI64_len)) hg_745 (by kernel_rfl) (by kernel_rfl) (fun o_746 cap_747 sp_748 hs_749 ho_750 => jkO ?_))
              refine jo_f [(0, 0)] (by kernel_rfl) ?_
              refine jo_end (by kernel_rfl) ?_
              refine jx_inn ?_
              exact jx_meet ⟨xs_6, (xs_7 ++ [x_11.ftrack]), o_694, cap_695, sp_696, xs_6.length, o_746, cap_747, sp_748, (xs_7 ++ [x_11.ftrack]).length⟩ ⟨h, rfl, hs_698, ho_699, rfl, hs_749, ho_750⟩ (by kernel_rfl) [0, 1, 2, 3, 4, 5, 6, 7] (by kernel_rfl) (by kernel_rfl)
            · replace h := ifF hc_743 h
              refine jc_region ?_
              refine jo_f [(0, 0), (0, 0), (7, 0), (0, 0), (0, 0), (7, 0), (0, 0), (0, 0), (7, 0), (0, 0)] (by kernel_rfl) ?_
              refine toO (by kernel_rfl) (p_a 0 [0] (by kernel_rfl) (fun b => by kernel_rfl) (fun b_751 => jkO ?_))
              obtain ⟨hg_752, h⟩ := gd h
              refine toO (by kernel_rfl) (p_apn 0 4 o_694 75 xs_6.length 1 cap_695 3 16 (some ⟨b_751, 0, none⟩) encGWornPin xs_6 [(⟨(w8 x_11.fstep), (w8 x_11.ftrack), x_11.fmade⟩ : GWornPin)] sp_696 (.agg #[(.int .i8 0), (.int .i8 0), (.int .i64 0)]) rfl rfl (by kernel_rfl) (by kernel_rfl) (by kernel_rfl) encGWornPin_len encGWornPin_cell hs_698 ho_699 (fun w hm => (hm.ownRow (hh := 8) (o := (some b_751)) (T := 75) (enc := encGWornPin) (xs := [(⟨(w8 x_11.fstep), (w8 x_11.ftrack), x_11.fmade⟩ : GWornPin)]) (sp := []) (by kernel_rfl) (fun e => nomatch e) encGWornPin_len)) hg_752 (by kernel_rfl) (by kernel_rfl) (fun o_753 cap_754 sp_755 hs_756 ho_757 => jkO ?_))
              refine jo_f [(0, 0)] (by kernel_rfl) ?_
              refine jo_end (by kernel_rfl) ?_
              refine jx_inn ?_
              exact jx_meet ⟨(xs_6 ++ [(⟨(w8 x_11.fstep), (w8 x_11.ftrack), x_11.fmade⟩ : GWornPin)]), xs_7, o_753, cap_754, sp_755, (xs_6 ++ [(⟨(w8 x_11.fstep), (w8 x_11.ftrack), x_11.fmade⟩ : GWornPin)]).length, o_700, cap_701, sp_702, xs_7.length⟩ ⟨h, rfl, hs_756, ho_757, rfl, hs_704, ho_705⟩ (by kernel_rfl) [0, 1, 2, 3, 4, 5, 6, 7] (by kernel_rfl) (by kernel_rfl)
        · rintro ⟨xs_12, xs_13, o_729, cap_730, sp_731, n_732, o_735, cap_736, sp_737, n_738⟩ ⟨h, rfl, hs_733, ho_734, rfl, hs_739, ho_740⟩
          replace h : impl_WornOut.k_14 i_8 xs_12 xs_13 = some y_707 := h
          rw [impl_WornOut.k_14] at h
          refine jx_inn ?_
          refine jx_then ?_
          refine jc_region ?_
          refine jo_f [(0, 0), (0, 0)] (by kernel_rfl) ?_
          refine jo_end (by kernel_rfl) ?_
          exact jx_back (xs_12, xs_13, (w64 (i_8 + 1))) ⟨o_729, cap_730, sp_731, xs_12.length, o_735, cap_736, sp_737, xs_13.length⟩ (Option.some.inj h).symm ⟨rfl, hs_733, ho_734, rfl, hs_739, ho_740⟩ [0, 1, 2, 3, 4, 5, 6] (by kernel_rfl) (by kernel_rfl) (by kernel_rfl)
      · replace h := ifF hc_709 h
        refine jc_exit ?_
        refine jx_thenx ?_
        refine jx_leave (xs_6, xs_7) (Option.some.inj h).symm (fun e_758 => ?_)
        subst e_758
        refine jx_ine ?_
        exact jx_meet ⟨xs_6, xs_7, o_694, cap_695, sp_696, xs_6.length, o_700, cap_701, sp_702, xs_7.length⟩ ⟨hr_706, rfl, hs_698, ho_699, rfl, hs_704, ho_705⟩ (by kernel_rfl) [0, 1, 2, 3, 4, 5, 6] (by kernel_rfl) (by kernel_rfl)
    · rintro ⟨xs_3, xs_4, o_570, cap_571, sp_572, n_573, o_576, cap_577, sp_578, n_579⟩ ⟨h, rfl, hs_574, ho_575, rfl, hs_580, ho_581⟩
      replace h : impl_WornOut.k_5 xs_3 xs_4 = some r := h
      rw [impl_WornOut.k_5] at h
      refine jx_then ?_
      refine jc_seq ?_
      refine jc_region ?_
      refine jo_f [(0, 0), (0, 0), (0, 0), (0, 0), (0, 0)] (by kernel_rfl) ?_
      refine jo_end (by kernel_rfl) ?_
      refine jx_then ?_
      refine jc_ret ?_
      obtain rfl := Option.some.inj h
      exact jx_ret [] (.tuple #[(.slice (o_570.map fun b => ⟨b, 0, none⟩) xs_3.length cap_571), (.slice (o_576.map fun b => ⟨b, 0, none⟩) xs_4.length cap_577), (.int .i64 0)]) [] rfl (by kernel_rfl) (by kernel_rfl) (fun w hm => ⟨o_570, cap_571, sp_572, xs_3.length, rfl, hs_574, ho_575, o_576, cap_577, sp_578, xs_4.length, rfl, hs_580, ho_581, rfl, hm.pick [4, 5] (by kernel_rfl) (by kernel_rfl)⟩)
end Go.Proofs.YtfkjghkjimcmdaaGreat
