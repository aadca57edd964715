/- Functions of the program that the laws reach: a plain function each, and that the call comes to its answer if the plain function has one. Printed by a program. -/
import Derived.Test.YtplklknkkaeniaaGreatDoorT
import Derived.Test.YtplklknkkaeniaaGreatDoorM0
import Derived.Test.YtplklknkkaeniaaGreatDoorM1
import Derived.Test.YtplklknkkaeniaaGreatDoorM2
namespace Go.Proofs.YtplklknkkaeniaaGreatDoor
open Eng
set_option linter.unusedVariables false

set_option linter.unusedSectionVars false
variable [dsW : DrwS]

/-! ### (impl.Drum).count -/
noncomputable def impl_Drum_count.k_2 (i_1 : Int) : Option (Int) := some i_1
noncomputable def impl_Drum_count.l_5 (d0 : Arr 96 Int) : (Int × Int) → Option ((Int × Int) ⊕ (Int))
  | (i_3, i_4) => (if (decide (i_4 < 96)) = true then (ix d0.1 i_4).bind fun x_7 => (impl_countBits x_7).bind fun t_8 => some (.inl ((w64 (i_3 + t_8)), (w64 (i_4 + 1)))) else some (.inr i_3))
noncomputable def impl_Drum_count (d0 : Arr 96 Int) : Option (Int) := (loop (impl_Drum_count.l_5 d0) (0, 0)).bind fun t_6 => impl_Drum_count.k_2 t_6
set_option maxRecDepth 100000 in
theorem impl_Drum_count.calls (d0 : Arr 96 Int) (w : World) (r : Int) (h : impl_Drum_count d0 = some r) :
    Calls Tryz.prog 43 #[(.agg (row encU32 d0.1 []).toArray)] w fun e w' => ∃ v, e = .returned v ∧ (v = (.int .i64 r) ∧ Mem w [] [] w') := by
  rw [impl_Drum_count] at h
  refine enter (args := [(.agg (row encU32 d0.1 []).toArray)]) Tryz.func43 rfl Tryz.ntmps43 (by kernel_rfl) (L := []) (W := []) (Mem.start w) ?_
  refine jc_seq ?_
  refine jc_region ?_
  refine toO (by kernel_rfl) (p_a 0 [0] (by kernel_rfl) (fun b => by kernel_rfl) (fun b_1 => jkO ?_))
  refine jo_f [(0, 0)] (by kernel_rfl) ?_
  refine jo_end (by kernel_rfl) ?_
  refine jx_then ?_
  refine jc_seq ?_
  refine jc_region ?_
  refine jo_f [(0, 0)] (by kernel_rfl) ?_
  refine jo_end (by kernel_rfl) ?_
  refine jx_then ?_
  refine jc_seq ?_
  refine jc_seq ?_
  refine jc_region ?_
  refine toO (by kernel_rfl) (p_ldA 0 0 b_1 96 1 39 encU32 d0 (by kernel_rfl) (by kernel_rfl) (by kernel_rfl) encU32_len (by kernel_rfl) (jkO ?_))
  refine jo_f [(0, 0)] (by kernel_rfl) ?_
  refine jo_end (by kernel_rfl) ?_
  refine jx_then ?_
  refine jc_meet (fun (j : Int) => match j with | i_1 => impl_Drum_count.k_2 i_1 = some r) (fun (j : Int) => match j with | i_1 => [(2, [], (.int .i64 0)), (3, [], (.int .i64 i_1))]) (fun (j : Int) => match j with | i_1 => [⟨(some b_1), 39, row encU32 d0.1 []⟩]) ?_ ?_
  · refine jc_block ?_
    obtain ⟨t_6, ht_65, hr_58⟩ := bd h
    refine jc_loop (fun (s : Int × Int) (x : Unit) => match s, x with | ⟨i_3, i_4⟩, _ => True) (fun (s : Int × Int) (x : Unit) => match s, x with | ⟨i_3, i_4⟩, _ => [(2, [], (.int .i64 0)), (3, [], (.int .i64 i_3)), (6, [], (.agg (row encU32 d0.1 []).toArray)), (7, [], (.int .i64 i_4))]) (fun (s : Int × Int) (x : Unit) => match s, x with | ⟨i_3, i_4⟩, _ => [⟨(some b_1), 39, row encU32 d0.1 []⟩]) ht_65 () trivial (by kernel_rfl) [0] (by kernel_rfl) (by kernel_rfl) ?_
    rintro ⟨i_3, i_4⟩ _ y_59 _ h
    rw [impl_Drum_count.l_5] at h
    refine jc_seq ?_
    refine jc_region ?_
    refine jo_f [(0, 0)] (by kernel_rfl) ?_
    refine jo_end (by kernel_rfl) ?_
    refine jx_then ?_
    refine jc_seq ?_
    refine jc_cond (decide (i_4 < 96)) (by kernel_rfl) (fun hc_61 => ?_) (fun hc_61 => ?_)
    · replace h := ifT hc_61 h
      refine jc_skip ?_
      refine jx_then ?_
      refine jc_seq ?_
      refine jc_block ?_
      refine jc_seq ?_
      refine jc_region ?_
      obtain ⟨x_7, hx_62, h⟩ := bd h
      refine toO (by kernel_rfl) (p_ixA 0 encU32 (fun x => (.int .u32 x)) d0 i_4 (by kernel_rfl) (by kernel_rfl) (fun _ => rfl) hx_62 (jkO ?_))
      refine jo_f [(0, 0)] (by kernel_rfl) ?_
      refine jo_end (by kernel_rfl) ?_
      refine jx_then ?_
      refine jc_region ?_
      refine jo_f [(0, 0), (0, 0)] (by kernel_rfl) ?_
      obtain ⟨t_8, ht_63, h⟩ := bd h
      refine toO (by kernel_rfl) (p_call 0 81 #[(.int .u32 x_7)] (by kernel_rfl) (by kernel_rfl) (fun w hm => impl_countBits.calls x_7 w _ ht_63) ?_)
      rintro w v w' hm ⟨rfl, hm'⟩
      refine ⟨_, hm.app hm', jkO ?_⟩
      clear hm hm'
      refine jo_f [(0, 0), (0, 0)] (by kernel_rfl) ?_
      refine jo_end (by kernel_rfl) ?_
      refine jx_inn ?_
      refine jx_then ?_
      refine jc_region ?_
      refine jo_f [(0, 0), (0, 0)] (by kernel_rfl) ?_
      refine jo_end (by kernel_rfl) ?_
      exact jx_back ((w64 (i_3 + t_8)), (w64 (i_4 + 1))) () (Option.some.inj h).symm trivial [0] (by kernel_rfl) (by kernel_rfl) (by kernel_rfl)
    · replace h := ifF hc_61 h
      refine jc_exit ?_
      refine jx_thenx ?_
      refine jx_leave i_3 (Option.some.inj h).symm (fun e_64 => ?_)
      subst e_64
      refine jx_ine ?_
      exact jx_meet i_3 hr_58 (by kernel_rfl) [0] (by kernel_rfl) (by kernel_rfl)
  · rintro i_1 h
    replace h : impl_Drum_count.k_2 i_1 = some r := h
    rw [impl_Drum_count.k_2] at h
    refine jx_then ?_
    refine jc_seq ?_
    refine jc_region ?_
    refine jo_f [(0, 0), (0, 0)] (by kernel_rfl) ?_
    refine jo_end (by kernel_rfl) ?_
    refine jx_then ?_
    refine jc_ret ?_
    obtain rfl := Option.some.inj h
    exact jx_ret [] (.int .i64 i_1) [] rfl (by kernel_rfl) (by kernel_rfl) (fun w hm => ⟨rfl, hm.pick [] (by kernel_rfl) (by kernel_rfl)⟩)

/-! ### impl.CountPins -/
noncomputable def impl_CountPins (f0 : GFrame) (d1 : Arr 96 Int) : Option (Int × Int) := (impl_drumCode f0 [d1]).bind fun t_1 => (if (t_1 != 0) = true then some (0, t_1) else (impl_Drum_count d1).bind fun t_2 => some (t_2, 0))
set_option maxRecDepth 100000 in
theorem impl_CountPins.calls (f0 : GFrame) (d1 : Arr 96 Int) (w : World) (r : Int × Int) (f0_fHammers_a : Option Addr) (f0_fHammers_an : Nat) (f0_fHammers_c : Nat) (f0_fHammers_h : Rw w f0_fHammers_a 2 encGHammer f0.fHammers) (f0_fHammers_hn : f0.fHammers.length = f0_fHammers_an) (h : impl_CountPins f0 d1 = some r) :
    Calls Tryz.prog 17 #[(.agg #[(.int .i16 f0.fSteps), (.slice f0_fHammers_a f0_fHammers_an f0_fHammers_c)]), (.agg (row encU32 d1.1 []).toArray)] w fun e w' => ∃ v, e = .returned v ∧ (v = .tuple #[(.int .i64 r.1), (.int .i64 r.2)] ∧ Mem w [] [] w') := by
  subst f0_fHammers_hn
  rw [impl_CountPins] at h
  refine enter (args := [(.agg #[(.int .i16 f0.fSteps), (.slice f0_fHammers_a f0.fHammers.length f0_fHammers_c)]), (.agg (row encU32 d1.1 []).toArray)]) Tryz.func17 rfl Tryz.ntmps17 (by kernel_rfl) (L := []) (W := []) (Mem.start w) ?_
  refine jc_seq ?_
  refine jc_region ?_
  refine toO (by kernel_rfl) (p_a 0 [0] (by kernel_rfl) (fun b => by kernel_rfl) (fun b_1 => jkO ?_))
  refine toO (by kernel_rfl) (p_a 0 [0] (by kernel_rfl) (fun b => by kernel_rfl) (fun b_2 => jkO ?_))
  refine jo_f [(0, 0), (0, 0)] (by kernel_rfl) ?_
  refine jo_end (by kernel_rfl) ?_
  refine jx_then ?_
  refine jc_seq ?_
  refine jc_seq ?_
  refine jc_region ?_
  refine jo_f [(0, 0)] (by kernel_rfl) ?_
  refine toO (by kernel_rfl) (p_ldA 0 1 b_2 96 1 39 encU32 d1 (by kernel_rfl) (by kernel_rfl) (by kernel_rfl) encU32_len (by kernel_rfl) (jkO ?_))
  refine toO (by kernel_rfl) (p_bs 0 39 96 1 encA96U32 [(.agg (row encU32 d1.1 []).toArray)] [d1] (by kernel_rfl) (by kernel_rfl) rfl (by kernel_rfl) (by kernel_rfl) encA96U32_len (fun b_6 => jkO ?_))
  obtain ⟨t_1, ht_7, h⟩ := bd h
  refine toO (by kernel_rfl) (p_call 0 42 #[(.agg #[(.int .i16 f0.fSteps), (.slice f0_fHammers_a f0.fHammers.length f0_fHammers_c)]), (.slice (some ⟨b_6, 0, none⟩) 1 1)] (by kernel_rfl) (by kernel_rfl) (fun w hm => impl_drumCode.calls f0 [d1] w _ f0_fHammers_a f0.fHammers.length f0_fHammers_c (hm.exRow f0_fHammers_h List.not_mem_nil) rfl (some ⟨b_6, 0, none⟩) 1 1 (hm.ownRow (hh := 2) (o := (some b_6)) (T := 39) (enc := encA96U32) (xs := [d1]) (sp := []) (by kernel_rfl) (fun e => nomatch e) encA96U32_len) rfl ht_7) ?_)
  rintro w v w' hm ⟨rfl, hm'⟩
  refine ⟨_, hm.app hm', jkO ?_⟩
  clear hm hm'
  refine jo_f [(0, 0)] (by kernel_rfl) ?_
  refine jo_end (by kernel_rfl) ?_
  refine jx_then ?_
  refine jc_seq ?_
  refine jc_region ?_
  refine jo_f [(0, 0), (0, 0)] (by kernel_rfl) ?_
  refine jo_end (by kernel_rfl) ?_
  refine jx_then ?_
  refine jc_cond (t_1 != 0) (by kernel_rfl) (fun hc_8 => ?_) (fun hc_8 => ?_)
  · replace h := ifT hc_8 h
    refine jc_seq ?_
    refine jc_region ?_
    refine jo_f [(0, 0), (0, 0), (0, 0)] (by kernel_rfl) ?_
    refine jo_end (by kernel_rfl) ?_
    refine jx_then ?_
    refine jc_ret ?_
    refine jx_thenr ?_
    obtain rfl := Option.some.inj h
    exact jx_ret [] (.tuple #[(.int .i64 0), (.int .i64 t_1)]) [] rfl (by kernel_rfl) (by kernel_rfl) (fun w hm => ⟨rfl, hm.pick [] (by kernel_rfl) (by kernel_rfl)⟩)
  · replace h := ifF hc_8 h
    refine jc_skip ?_
    refine jx_then ?_
    refine jc_seq ?_
    refine jc_region ?_
    refine toO (by kernel_rfl) (p_ldA 0 1 b_2 96 1 39 encU32 d1 (by kernel_rfl) (by kernel_rfl) (by kernel_rfl) encU32_len (by kernel_rfl) (jkO ?_))
    obtain ⟨t_2, ht_9, h⟩ := bd h
    refine toO (by kernel_rfl) (p_call 0 43 #[(.agg (row encU32 d1.1 []).toArray)] (by kernel_rfl) (by kernel_rfl) (fun w hm => impl_Drum_count.calls d1 w _ ht_9) ?_)
    rintro w v w' hm ⟨rfl, hm'⟩
    refine ⟨_, hm.app hm', jkO ?_⟩
    clear hm hm'
    refine jo_f [(0, 0), (0, 0)] (by kernel_rfl) ?_
    refine jo_end (by kernel_rfl) ?_
    refine jx_then ?_
    refine jc_ret ?_
    obtain rfl := Option.some.inj h
    exact jx_ret [] (.tuple #[(.int .i64 t_2), (.int .i64 0)]) [] rfl (by kernel_rfl) (by kernel_rfl) (fun w hm => ⟨rfl, hm.pick [] (by kernel_rfl) (by kernel_rfl)⟩)

/-! ### spec.A2SameChoices -/
noncomputable def spec_A2SameChoices.k_1 : Option (Bool) := some true
noncomputable def spec_A2SameChoices.l_3 (a0 : List GChoice) (b1 : List GChoice) : Int → Option ((Int) ⊕ (Bool ⊕ Unit))
  | i_2 => (if (decide (i_2 < (a0.length : Int))) = true then (ix a0 i_2).bind fun x_5 => (ix b1 i_2).bind fun x_6 => (if (!((x_5.fAway == x_6.fAway) && ((x_5.fLate == x_6.fLate) && ((x_5.fOctave == x_6.fOctave) && (x_5.fTrack == x_6.fTrack))))) = true then some (.inr (.inl false)) else some (.inl (w64 (i_2 + 1)))) else some (.inr (.inr ())))
noncomputable def spec_A2SameChoices (a0 : List GChoice) (b1 : List GChoice) : Option (Bool) := (if ((a0.length : Int) != (b1.length : Int)) = true then some false else (loop (spec_A2SameChoices.l_3 a0 b1) 0).bind fun t_4 => match t_4 with | .inl p => some p | .inr p => spec_A2SameChoices.k_1)
set_option maxRecDepth 100000 in
theorem spec_A2SameChoices.calls (a0 : List GChoice) (b1 : List GChoice) (w : World) (r : Bool) (a0_a : Option Addr) (a0_an : Nat) (a0_c : Nat) (a0_h : Rw w a0_a 4 encGChoice a0) (a0_hn : a0.length = a0_an) (b1_a : Option Addr) (b1_an : Nat) (b1_c : Nat) (b1_h : Rw w b1_a 4 encGChoice b1) (b1_hn : b1.length = b1_an) (h : spec_A2SameChoices a0 b1 = some r) :
    Calls Tryz.prog 18 #[(.slice a0_a a0_an a0_c), (.slice b1_a b1_an b1_c)] w fun e w' => ∃ v, e = .returned v ∧ (v = (.bool r) ∧ Mem w [] [] w') := by
  subst a0_hn b1_hn
  rw [spec_A2SameChoices] at h
  refine enter (args := [(.slice a0_a a0.length a0_c), (.slice b1_a b1.length b1_c)]) Tryz.func18 rfl Tryz.ntmps18 (by kernel_rfl) (L := []) (W := []) (Mem.start w) ?_
  refine jc_seq ?_
  refine jc_region ?_
  refine jo_f [(0, 0)] (by kernel_rfl) ?_
  refine jo_end (by kernel_rfl) ?_
  refine jx_then ?_
  refine jc_seq ?_
  refine jc_seq ?_
  refine jc_region ?_
  refine jo_f [(0, 0), (0, 0), (0, 0), (0, 0), (0, 0)] (by kernel_rfl) ?_
  refine jo_end (by kernel_rfl) ?_
  refine jx_then ?_
  refine jc_cond ((a0.length : Int) != (b1.length : Int)) (by kernel_rfl) (fun hc_2 => ?_) (fun hc_2 => ?_)
  · replace h := ifT hc_2 h
    refine jc_seq ?_
    refine jc_region ?_
    refine jo_f [(0, 0)] (by kernel_rfl) ?_
    refine jo_end (by kernel_rfl) ?_
    refine jx_then ?_
    refine jc_ret ?_
    refine jx_thenr ?_
    obtain rfl := Option.some.inj h
    exact jx_ret [] (.bool false) [] rfl (by kernel_rfl) (by kernel_rfl) (fun w hm => ⟨rfl, hm.pick [] (by kernel_rfl) (by kernel_rfl)⟩)
  · replace h := ifF hc_2 h
    refine jc_skip ?_
    refine jx_then ?_
    refine jc_seq ?_
    refine jc_seq ?_
    refine jc_region ?_
    refine jo_f [(0, 0)] (by kernel_rfl) ?_
    refine jo_end (by kernel_rfl) ?_
    refine jx_then ?_
    refine jc_meet (fun (_ : Unit) => spec_A2SameChoices.k_1 = some r) (fun (_ : Unit) => [(4, [], (.bool false))]) (fun (_ : Unit) => []) ?_ ?_
    · refine jc_block ?_
      obtain ⟨t_4, ht_42, hr_33⟩ := bd h
      refine jc_loop (fun (s : Int) (x : Unit) => match s, x with | i_2, _ => True) (fun (s : Int) (x : Unit) => match s, x with | i_2, _ => [(0, [], (.slice a0_a a0.length a0_c)), (1, [], (.slice b1_a b1.length b1_c)), (4, [], (.bool false)), (5, [], (.int .i64 i_2))]) (fun (s : Int) (x : Unit) => match s, x with | i_2, _ => []) ht_42 () trivial (by kernel_rfl) [] (by kernel_rfl) (by kernel_rfl) ?_
      rintro i_2 _ y_34 _ h
      rw [spec_A2SameChoices.l_3] at h
      refine jc_seq ?_
      refine jc_seq ?_
      refine jc_region ?_
      refine jo_f [(0, 0), (0, 0), (0, 0), (0, 0)] (by kernel_rfl) ?_
      refine jo_end (by kernel_rfl) ?_
      refine jx_then ?_
      refine jc_cond (decide (i_2 < (a0.length : Int))) (by kernel_rfl) (fun hc_36 => ?_) (fun hc_36 => ?_)
      · replace h := ifT hc_36 h
        refine jc_skip ?_
        refine jx_then ?_
        refine jc_seq ?_
        refine jc_block ?_
        refine jc_seq ?_
        refine jc_draw [] 9 (by kernel_rfl) (by kernel_rfl) ?_
        refine jd_f [⟨0, 0, 0⟩, ⟨1, 0, 0⟩, ⟨4, 0, 0⟩, ⟨5, 0, 0⟩] 5 (by kernel_rfl) (by kernel_rfl) (fun w h => h.pick [] (by kernel_rfl) (by kernel_rfl)) (by kernel_rfl) (by kernel_rfl) ?_
        obtain ⟨x_5, hx_37, h⟩ := bd h
        refine jd_v 2 0 (by kernel_rfl) (fun w h => h.pick [] (by kernel_rfl) (by kernel_rfl)) (by kernel_rfl) (by kernel_rfl) _ (fun w hm => idx_run (a := a0_a) (len := a0.length) (s := 4) (j := i_2) (by kernel_rfl) (ix_some hx_37).1 (ltn hx_37 rfl) (a0_h.sp hx_37)) ?_
        refine jd_v 3 0 (by kernel_rfl) (fun w h => h.pick [] (by kernel_rfl) (by kernel_rfl)) (by kernel_rfl) (by kernel_rfl) _ (fun w hm => ld_run (b := aB a0_a) (off := (aO a0_a + i_2.toNat * 4)) (s := 4) (agg := true) (vs := (encGChoice x_5)) (by kernel_rfl) (by kernel_rfl) (.inl rfl) ((hm.exRow a0_h List.not_mem_nil).at hx_37)) ?_
        obtain ⟨x_6, hx_38, h⟩ := bd h
        refine jd_v 6 0 (by kernel_rfl) (fun w h => h.pick [] (by kernel_rfl) (by kernel_rfl)) (by kernel_rfl) (by kernel_rfl) _ (fun w hm => idx_run (a := b1_a) (len := b1.length) (s := 4) (j := i_2) (by kernel_rfl) (ix_some hx_38).1 (ltn hx_38 rfl) (b1_h.sp hx_38)) ?_
        refine jd_v 7 0 (by kernel_rfl) (fun w h => h.pick [] (by kernel_rfl) (by kernel_rfl)) (by kernel_rfl) (by kernel_rfl) _ (fun w hm => ld_run (b := aB b1_a) (off := (aO b1_a + i_2.toNat * 4)) (s := 4) (agg := true) (vs := (encGChoice x_6)) (by kernel_rfl) (by kernel_rfl) (.inl rfl) ((hm.exRow b1_h List.not_mem_nil).at hx_38)) ?_
        refine jd_f [⟨8, 0, 0⟩] 0 (by kernel_rfl) (by kernel_rfl) (fun w h => h.pick [] (by kernel_rfl) (by kernel_rfl)) (by kernel_rfl) (by kernel_rfl) ?_
        refine jd_end (by kernel_rfl) ?_
        refine jx_then ?_
        refine jc_cond (!((x_5.fAway == x_6.fAway) && ((x_5.fLate == x_6.fLate) && ((x_5.fOctave == x_6.fOctave) && (x_5.fTrack == x_6.fTrack))))) (by kernel_rfl) (fun hc_39 => ?_) (fun hc_39 => ?_)
        · replace h := ifT hc_39 h
          refine jc_seq ?_
          refine jc_region ?_
          refine jo_f [(0, 0)] (by kernel_rfl) ?_
          refine jo_end (by kernel_rfl) ?_
          refine jx_then ?_
          refine jc_ret ?_
          refine jx_inr ?_
          refine jx_thenr ?_
          refine jx_leaver (.inl false) (Option.some.inj h).symm (fun e_40 => ?_)
          subst e_40
          refine jx_inr ?_
          refine jx_thenr ?_
          refine jx_thenr ?_
          obtain rfl := Option.some.inj hr_33
          exact jx_ret [] (.bool false) [] rfl (by kernel_rfl) (by kernel_rfl) (fun w hm => ⟨rfl, hm.pick [] (by kernel_rfl) (by kernel_rfl)⟩)
        · replace h := ifF hc_39 h
          refine jc_skip ?_
          refine jx_inn ?_
          refine jx_then ?_
          refine jc_region ?_
          refine jo_f [(0, 0), (0, 0), (0, 0)] (by kernel_rfl) ?_
          refine jo_end (by kernel_rfl) ?_
          exact jx_back (w64 (i_2 + 1)) () (Option.some.inj h).symm trivial [] (by kernel_rfl) (by kernel_rfl) (by kernel_rfl)
      · replace h := ifF hc_36 h
        refine jc_exit ?_
        refine jx_thenx ?_
        refine jx_leave (.inr ()) (Option.some.inj h).symm (fun e_41 => ?_)
        subst e_41
        refine jx_ine ?_
        exact jx_meet () hr_33 (by kernel_rfl) [] (by kernel_rfl) (by kernel_rfl)
    · rintro _ h
      replace h : spec_A2SameChoices.k_1 = some r := h
      rw [spec_A2SameChoices.k_1] at h
      refine jx_then ?_
      refine jc_seq ?_
      refine jc_region ?_
      refine jo_f [(0, 0)] (by kernel_rfl) ?_
      refine jo_end (by kernel_rfl) ?_
      refine jx_then ?_
      refine jc_ret ?_
      obtain rfl := Option.some.inj h
      exact jx_ret [] (.bool true) [] rfl (by kernel_rfl) (by kernel_rfl) (fun w hm => ⟨rfl, hm.pick [] (by kernel_rfl) (by kernel_rfl)⟩)

/-! ### spec.l01Same -/
noncomputable def spec_l01Same.k_1 : Option (Bool) := some true
noncomputable def spec_l01Same.l_3 (a0 : List GNote) (b1 : List GNote) : Int → Option ((Int) ⊕ (Bool ⊕ Unit))
  | i_2 => (if (decide (i_2 < (a0.length : Int))) = true then (ix a0 i_2).bind fun x_5 => (ix b1 i_2).bind fun x_6 => (if (!((x_5.fAt == x_6.fAt) && (x_5.fPitch == x_6.fPitch))) = true then some (.inr (.inl false)) else some (.inl (w64 (i_2 + 1)))) else some (.inr (.inr ())))
noncomputable def spec_l01Same (a0 : List GNote) (b1 : List GNote) : Option (Bool) := (if ((a0.length : Int) != (b1.length : Int)) = true then some false else (loop (spec_l01Same.l_3 a0 b1) 0).bind fun t_4 => match t_4 with | .inl p => some p | .inr p => spec_l01Same.k_1)
set_option maxRecDepth 100000 in
theorem spec_l01Same.calls (a0 : List GNote) (b1 : List GNote) (w : World) (r : Bool) (a0_a : Option Addr) (a0_an : Nat) (a0_c : Nat) (a0_h : Rw w a0_a 2 encGNote a0) (a0_hn : a0.length = a0_an) (b1_a : Option Addr) (b1_an : Nat) (b1_c : Nat) (b1_h : Rw w b1_a 2 encGNote b1) (b1_hn : b1.length = b1_an) (h : spec_l01Same a0 b1 = some r) :
    Calls Tryz.prog 44 #[(.slice a0_a a0_an a0_c), (.slice b1_a b1_an b1_c)] w fun e w' => ∃ v, e = .returned v ∧ (v = (.bool r) ∧ Mem w [] [] w') := by
  subst a0_hn b1_hn
  rw [spec_l01Same] at h
  refine enter (args := [(.slice a0_a a0.length a0_c), (.slice b1_a b1.length b1_c)]) Tryz.func44 rfl Tryz.ntmps44 (by kernel_rfl) (L := []) (W := []) (Mem.start w) ?_
  refine jc_seq ?_
  refine jc_region ?_
  refine jo_f [(0, 0)] (by kernel_rfl) ?_
  refine jo_end (by kernel_rfl) ?_
  refine jx_then ?_
  refine jc_seq ?_
  refine jc_seq ?_
  refine jc_region ?_
  refine jo_f [(0, 0), (0, 0), (0, 0), (0, 0), (0, 0)] (by kernel_rfl) ?_
  refine jo_end (by kernel_rfl) ?_
  refine jx_then ?_
  refine jc_cond ((a0.length : Int) != (b1.length : Int)) (by kernel_rfl) (fun hc_2 => ?_) (fun hc_2 => ?_)
  · replace h := ifT hc_2 h
    refine jc_seq ?_
    refine jc_region ?_
    refine jo_f [(0, 0)] (by kernel_rfl) ?_
    refine jo_end (by kernel_rfl) ?_
    refine jx_then ?_
    refine jc_ret ?_
    refine jx_thenr ?_
    obtain rfl := Option.some.inj h
    exact jx_ret [] (.bool false) [] rfl (by kernel_rfl) (by kernel_rfl) (fun w hm => ⟨rfl, hm.pick [] (by kernel_rfl) (by kernel_rfl)⟩)
  · replace h := ifF hc_2 h
    refine jc_skip ?_
    refine jx_then ?_
    refine jc_seq ?_
    refine jc_seq ?_
    refine jc_region ?_
    refine jo_f [(0, 0)] (by kernel_rfl) ?_
    refine jo_end (by kernel_rfl) ?_
    refine jx_then ?_
    refine jc_meet (fun (_ : Unit) => spec_l01Same.k_1 = some r) (fun (_ : Unit) => [(4, [], (.bool false))]) (fun (_ : Unit) => []) ?_ ?_
    · refine jc_block ?_
      obtain ⟨t_4, ht_42, hr_33⟩ := bd h
      refine jc_loop (fun (s : Int) (x : Unit) => match s, x with | i_2, _ => True) (fun (s : Int) (x : Unit) => match s, x with | i_2, _ => [(0, [], (.slice a0_a a0.length a0_c)), (1, [], (.slice b1_a b1.length b1_c)), (4, [], (.bool false)), (5, [], (.int .i64 i_2))]) (fun (s : Int) (x : Unit) => match s, x with | i_2, _ => []) ht_42 () trivial (by kernel_rfl) [] (by kernel_rfl) (by kernel_rfl) ?_
      rintro i_2 _ y_34 _ h
      rw [spec_l01Same.l_3] at h
      refine jc_seq ?_
      refine jc_seq ?_
      refine jc_region ?_
      refine jo_f [(0, 0), (0, 0), (0, 0), (0, 0)] (by kernel_rfl) ?_
      refine jo_end (by kernel_rfl) ?_
      refine jx_then ?_
      refine jc_cond (decide (i_2 < (a0.length : Int))) (by kernel_rfl) (fun hc_36 => ?_) (fun hc_36 => ?_)
      · replace h := ifT hc_36 h
        refine jc_skip ?_
        refine jx_then ?_
        refine jc_seq ?_
        refine jc_block ?_
        refine jc_seq ?_
        refine jc_draw [] 9 (by kernel_rfl) (by kernel_rfl) ?_
        refine jd_f [⟨0, 0, 0⟩, ⟨1, 0, 0⟩, ⟨4, 0, 0⟩, ⟨5, 0, 0⟩] 5 (by kernel_rfl) (by kernel_rfl) (fun w h => h.pick [] (by kernel_rfl) (by kernel_rfl)) (by kernel_rfl) (by kernel_rfl) ?_
        obtain ⟨x_5, hx_37, h⟩ := bd h
        refine jd_v 2 0 (by kernel_rfl) (fun w h => h.pick [] (by kernel_rfl) (by kernel_rfl)) (by kernel_rfl) (by kernel_rfl) _ (fun w hm => idx_run (a := a0_a) (len := a0.length) (s := 2) (j := i_2) (by kernel_rfl) (ix_some hx_37).1 (ltn hx_37 rfl) (a0_h.sp hx_37)) ?_
        refine jd_v 3 0 (by kernel_rfl) (fun w h => h.pick [] (by kernel_rfl) (by kernel_rfl)) (by kernel_rfl) (by kernel_rfl) _ (fun w hm => ld_run (b := aB a0_a) (off := (aO a0_a + i_2.toNat * 2)) (s := 2) (agg := true) (vs := (encGNote x_5)) (by kernel_rfl) (by kernel_rfl) (.inl rfl) ((hm.exRow a0_h List.not_mem_nil).at hx_37)) ?_
        obtain ⟨x_6, hx_38, h⟩ := bd h
        refine jd_v 6 0 (by kernel_rfl) (fun w h => h.pick [] (by kernel_rfl) (by kernel_rfl)) (by kernel_rfl) (by kernel_rfl) _ (fun w hm => idx_run (a := b1_a) (len := b1.length) (s := 2) (j := i_2) (by kernel_rfl) (ix_some hx_38).1 (ltn hx_38 rfl) (b1_h.sp hx_38)) ?_
        refine jd_v 7 0 (by kernel_rfl) (fun w h => h.pick [] (by kernel_rfl) (by kernel_rfl)) (by kernel_rfl) (by kernel_rfl) _ (fun w hm => ld_run (b := aB b1_a) (off := (aO b1_a + i_2.toNat * 2)) (s := 2) (agg := true) (vs := (encGNote x_6)) (by kernel_rfl) (by kernel_rfl) (.inl rfl) ((hm.exRow b1_h List.not_mem_nil).at hx_38)) ?_
        refine jd_f [⟨8, 0, 0⟩] 0 (by kernel_rfl) (by kernel_rfl) (fun w h => h.pick [] (by kernel_rfl) (by kernel_rfl)) (by kernel_rfl) (by kernel_rfl) ?_
        refine jd_end (by kernel_rfl) ?_
        refine jx_then ?_
        refine jc_cond (!((x_5.fAt == x_6.fAt) && (x_5.fPitch == x_6.fPitch))) (by kernel_rfl) (fun hc_39 => ?_) (fun hc_39 => ?_)
        · replace h := ifT hc_39 h
          refine jc_seq ?_
          refine jc_region ?_
          refine jo_f [(0, 0)] (by kernel_rfl) ?_
          refine jo_end (by kernel_rfl) ?_
          refine jx_then ?_
          refine jc_ret ?_
          refine jx_inr ?_
          refine jx_thenr ?_
          refine jx_leaver (.inl false) (Option.some.inj h).symm (fun e_40 => ?_)
          subst e_40
          refine jx_inr ?_
          refine jx_thenr ?_
          refine jx_thenr ?_
          obtain rfl := Option.some.inj hr_33
          exact jx_ret [] (.bool false) [] rfl (by kernel_rfl) (by kernel_rfl) (fun w hm => ⟨rfl, hm.pick [] (by kernel_rfl) (by kernel_rfl)⟩)
        · replace h := ifF hc_39 h
          refine jc_skip ?_
          refine jx_inn ?_
          refine jx_then ?_
          refine jc_region ?_
          refine jo_f [(0, 0), (0, 0), (0, 0)] (by kernel_rfl) ?_
          refine jo_end (by kernel_rfl) ?_
          exact jx_back (w64 (i_2 + 1)) () (Option.some.inj h).symm trivial [] (by kernel_rfl) (by kernel_rfl) (by kernel_rfl)
      · replace h := ifF hc_36 h
        refine jc_exit ?_
        refine jx_thenx ?_
        refine jx_leave (.inr ()) (Option.some.inj h).symm (fun e_41 => ?_)
        subst e_41
        refine jx_ine ?_
        exact jx_meet () hr_33 (by kernel_rfl) [] (by kernel_rfl) (by kernel_rfl)
    · rintro _ h
      replace h : spec_l01Same.k_1 = some r := h
      rw [spec_l01Same.k_1] at h
      refine jx_then ?_
      refine jc_seq ?_
      refine jc_region ?_
      refine jo_f [(0, 0)] (by kernel_rfl) ?_
      refine jo_end (by kernel_rfl) ?_
      refine jx_then ?_
      refine jc_ret ?_
      obtain rfl := Option.some.inj h
      exact jx_ret [] (.bool true) [] rfl (by kernel_rfl) (by kernel_rfl) (fun w hm => ⟨rfl, hm.pick [] (by kernel_rfl) (by kernel_rfl)⟩)

/-! ### spec.SameTune -/
noncomputable def spec_SameTune (a0 : List GNote) (b1 : List GNote) : Option (Bool) := (spec_l01Same a0 b1).bind fun t_1 => some t_1
set_option maxRecDepth 100000 in
theorem spec_SameTune.calls (a0 : List GNote) (b1 : List GNote) (w : World) (r : Bool) (a0_a : Option Addr) (a0_an : Nat) (a0_c : Nat) (a0_h : Rw w a0_a 2 encGNote a0) (a0_hn : a0.length = a0_an) (b1_a : Option Addr) (b1_an : Nat) (b1_c : Nat) (b1_h : Rw w b1_a 2 encGNote b1) (b1_hn : b1.length = b1_an) (h : spec_SameTune a0 b1 = some r) :
    Calls Tryz.prog 19 #[(.slice a0_a a0_an a0_c), (.slice b1_a b1_an b1_c)] w fun e w' => ∃ v, e = .returned v ∧ (v = (.bool r) ∧ Mem w [] [] w') := by
  subst a0_hn b1_hn
  rw [spec_SameTune] at h
  refine enter (args := [(.slice a0_a a0.length a0_c), (.slice b1_a b1.length b1_c)]) Tryz.func19 rfl Tryz.ntmps19 (by kernel_rfl) (L := []) (W := []) (Mem.start w) ?_
  refine jc_seq ?_
  refine jc_region ?_
  refine jo_f [(0, 0)] (by kernel_rfl) ?_
  refine jo_end (by kernel_rfl) ?_
  refine jx_then ?_
  refine jc_seq ?_
  refine jc_region ?_
  refine jo_f [(0, 0), (0, 0)] (by kernel_rfl) ?_
  obtain ⟨t_1, ht_1, h⟩ := bd h
  refine toO (by kernel_rfl) (p_call 0 44 #[(.slice a0_a a0.length a0_c), (.slice b1_a b1.length b1_c)] (by kernel_rfl) (by kernel_rfl) (fun w hm => spec_l01Same.calls a0 b1 w _ a0_a a0.length a0_c (hm.exRow a0_h List.not_mem_nil) rfl b1_a b1.length b1_c (hm.exRow b1_h List.not_mem_nil) rfl ht_1) ?_)
  rintro w v w' hm ⟨rfl, hm'⟩
  refine ⟨_, hm.app hm', jkO ?_⟩
  clear hm hm'
  refine jo_f [(0, 0)] (by kernel_rfl) ?_
  refine jo_end (by kernel_rfl) ?_
  refine jx_then ?_
  refine jc_ret ?_
  obtain rfl := Option.some.inj h
  exact jx_ret [] (.bool t_1) [] rfl (by kernel_rfl) (by kernel_rfl) (fun w hm => ⟨rfl, hm.pick [] (by kernel_rfl) (by kernel_rfl)⟩)

/-! ### impl.ChoicesFor -/
noncomputable def impl_ChoicesFor.k_2 (f0 : GFrame) (n1 : GNote) (q_1 : Bool) : Option ((List GChoice) × Int) := (if q_1 = true then some ([], 1) else (impl_Frame_choices f0 n1).bind fun t_3 => some (t_3, 0))
noncomputable def impl_ChoicesFor (f0 : GFrame) (n1 : GNote) : Option ((List GChoice) × Int) := (impl_ValidFrame f0).bind fun t_4 => (if (!t_4) = true then impl_ChoicesFor.k_2 f0 n1 true else (impl_isNote n1).bind fun t_5 => impl_ChoicesFor.k_2 f0 n1 (!t_5))
set_option maxRecDepth 100000 in
theorem impl_ChoicesFor.calls (f0 : GFrame) (n1 : GNote) (w : World) (r : (List GChoice) × Int) (f0_fHammers_a : Option Addr) (f0_fHammers_an : Nat) (f0_fHammers_c : Nat) (f0_fHammers_h : Rw w f0_fHammers_a 2 encGHammer f0.fHammers) (f0_fHammers_hn : f0.fHammers.length = f0_fHammers_an) (h : impl_ChoicesFor f0 n1 = some r) :
    Calls Tryz.prog 20 #[(.agg #[(.int .i16 f0.fSteps), (.slice f0_fHammers_a f0_fHammers_an f0_fHammers_c)]), (.agg #[(.int .i16 n1.fAt), (.int .i8 n1.fPitch)])] w fun e w' => ∃ v, e = .returned v ∧ (∃ (o0 : Option Nat) (c0 : Nat) (s0 : List Value) (n0 : Nat), r.1.length = n0 ∧ (o0 ≠ none → n0 ≤ c0 ∧ s0.length = (c0 - n0) * 4) ∧ (o0 = none → r.1 = [] ∧ c0 = 0) ∧ v = .tuple #[.slice (o0.map fun b => ⟨b, 0, none⟩) n0 c0, (.int .i64 r.2)] ∧ Mem w [] [⟨o0, 58, row encGChoice r.1 s0⟩] w') := by
  subst f0_fHammers_hn
  rw [impl_ChoicesFor] at h
  refine enter (args := [(.agg #[(.int .i16 f0.fSteps), (.slice f0_fHammers_a f0.fHammers.length f0_fHammers_c)]), (.agg #[(.int .i16 n1.fAt), (.int .i8 n1.fPitch)])]) Tryz.func20 rfl Tryz.ntmps20 (by kernel_rfl) (L := []) (W := []) (Mem.start w) ?_
  refine jc_seq ?_
  refine jc_region ?_
  refine toO (by kernel_rfl) (p_a 0 [0] (by kernel_rfl) (fun b => by kernel_rfl) (fun b_1 => jkO ?_))
  refine toO (by kernel_rfl) (p_a 0 [0] (by kernel_rfl) (fun b => by kernel_rfl) (fun b_2 => jkO ?_))
  refine jo_f [(0, 0), (0, 0)] (by kernel_rfl) ?_
  refine jo_end (by kernel_rfl) ?_
  refine jx_then ?_
  refine jc_seq ?_
  refine jc_seq ?_
  refine jc_meet (fun (j : Bool) => match j with | q_1 => impl_ChoicesFor.k_2 f0 n1 q_1 = some r) (fun (j : Bool) => match j with | q_1 => [(2, [], (.pointer (some ⟨b_1, 0, none⟩))), (3, [], (.pointer (some ⟨b_2, 0, none⟩))), (4, [], (.slice none 0 0)), (5, [], (.int .i64 0)), (13, [], (.bool q_1))]) (fun (j : Bool) => match j with | q_1 => [⟨some b_1, 27, [(.int .i16 f0.fSteps), (.slice f0_fHammers_a f0.fHammers.length f0_fHammers_c)]⟩, ⟨some b_2, 56, [(.int .i16 n1.fAt), (.int .i8 n1.fPitch)]⟩]) ?_ ?_
  · refine jc_region ?_
    refine jo_f [(0, 0)] (by kernel_rfl) ?_
    obtain ⟨t_4, ht_20, h⟩ := bd h
    refine toO (by kernel_rfl) (p_call 0 45 #[(.agg #[(.int .i16 f0.fSteps), (.slice f0_fHammers_a f0.fHammers.length f0_fHammers_c)])] (by kernel_rfl) (by kernel_rfl) (fun w hm => impl_ValidFrame.calls f0 w _ f0_fHammers_a f0.fHammers.length f0_fHammers_c (hm.exRow f0_fHammers_h List.not_mem_nil) rfl ht_20) ?_)
    rintro w v w' hm ⟨rfl, hm'⟩
    refine ⟨_, hm.app hm', jkO ?_⟩
    clear hm hm'
    refine jo_f [(0, 0), (0, 0), (1, 1)] (by kernel_rfl) ?_
    refine jo_split 9 (!t_4) (by kernel_rfl) (fun hc_21 => ?_) (fun hc_21 => ?_)
    · replace h := ifT hc_21 h
      refine jo_f [(0, 3), (0, 3), (0, 4)] (by kernel_rfl) ?_
      refine jo_end (by kernel_rfl) ?_
      exact jx_meet true h (by kernel_rfl) [0, 1] (by kernel_rfl) (by kernel_rfl)
    · replace h := ifF hc_21 h
      obtain ⟨t_5, ht_22, h⟩ := bd h
      refine toO (by kernel_rfl) (p_call 2 46 #[(.agg #[(.int .i16 n1.fAt), (.int .i8 n1.fPitch)])] (by kernel_rfl) (by kernel_rfl) (fun w hm => impl_isNote.calls n1 w _ ht_22) ?_)
      rintro w v w' hm ⟨rfl, hm'⟩
      refine ⟨_, hm.app hm', jkO ?_⟩
      clear hm hm'
      refine jo_f [(0, 2), (0, 5)] (by kernel_rfl) ?_
      refine jo_end (by kernel_rfl) ?_
      exact jx_meet (!t_5) h (by kernel_rfl) [0, 1] (by kernel_rfl) (by kernel_rfl)
  · rintro q_1 h
    replace h : impl_ChoicesFor.k_2 f0 n1 q_1 = some r := h
    rw [impl_ChoicesFor.k_2] at h
    refine jx_then ?_
    refine jc_cond q_1 (by kernel_rfl) (fun hc_13 => ?_) (fun hc_13 => ?_)
    · replace h := ifT hc_13 h
      refine jc_seq ?_
      refine jc_region ?_
      refine jo_f [(0, 0), (0, 0)] (by kernel_rfl) ?_
      refine jo_end (by kernel_rfl) ?_
      refine jx_then ?_
      refine jc_ret ?_
      refine jx_thenr ?_
      obtain rfl := Option.some.inj h
      refine jx_ghost 58 encGChoice ?_
      exact jx_ret [] (.tuple #[(.slice none 0 0), (.int .i64 1)]) [] rfl (by kernel_rfl) (by kernel_rfl) (fun w hm => ⟨none, 0, [], 0, rfl, (fun e => absurd rfl e), (fun _ => ⟨rfl, rfl⟩), rfl, hm.pick [2] (by kernel_rfl) (by kernel_rfl)⟩)
    · replace h := ifF hc_13 h
      refine jc_skip ?_
      refine jx_then ?_
      refine jc_seq ?_
      refine jc_region ?_
      refine jo_f [(0, 0), (1, 0)] (by kernel_rfl) ?_
      obtain ⟨t_3, ht_14, h⟩ := bd h
      refine toO (by kernel_rfl) (p_call 0 47 #[(.agg #[(.int .i16 f0.fSteps), (.slice f0_fHammers_a f0.fHammers.length f0_fHammers_c)]), (.agg #[(.int .i16 n1.fAt), (.int .i8 n1.fPitch)])] (by kernel_rfl) (by kernel_rfl) (fun w hm => impl_Frame_choices.calls f0 n1 w _ f0_fHammers_a f0.fHammers.length f0_fHammers_c (hm.exRow f0_fHammers_h List.not_mem_nil) rfl ht_14) ?_)
      rintro w v w' hm ⟨o_15, cap_16, sp_17, _, rfl, hs_18, ho_19, rfl, hm'⟩
      refine ⟨_, hm.app hm', jkO ?_⟩
      clear hm hm'
      refine jo_f [(0, 0), (0, 0)] (by kernel_rfl) ?_
      refine jo_end (by kernel_rfl) ?_
      refine jx_then ?_
      refine jc_ret ?_
      obtain rfl := Option.some.inj h
      exact jx_ret [] (.tuple #[(.slice (o_15.map fun b => ⟨b, 0, none⟩) t_3.length cap_16), (.int .i64 0)]) [] rfl (by kernel_rfl) (by kernel_rfl) (fun w hm => ⟨o_15, cap_16, sp_17, t_3.length, rfl, hs_18, ho_19, rfl, hm.pick [2] (by kernel_rfl) (by kernel_rfl)⟩)

/-! ### spec.ChoicesFor -/
noncomputable def spec_ChoicesFor.k_2 (f0 : GFrame) (n1 : GNote) (q_1 : Bool) : Option ((List GChoice) × Int) := (if q_1 = true then some (([] : List GChoice), 1) else (spec_l07For f0 n1).bind fun t_3 => some (t_3, 0))
noncomputable def spec_ChoicesFor (f0 : GFrame) (n1 : GNote) : Option ((List GChoice) × Int) := (spec_l02Frame f0).bind fun t_4 => (if (!t_4) = true then spec_ChoicesFor.k_2 f0 n1 true else (spec_l01Note n1).bind fun t_5 => spec_ChoicesFor.k_2 f0 n1 (!t_5))
set_option maxRecDepth 100000 in
theorem spec_ChoicesFor.calls (f0 : GFrame) (n1 : GNote) (w : World) (r : (List GChoice) × Int) (f0_fHammers_a : Option Addr) (f0_fHammers_an : Nat) (f0_fHammers_c : Nat) (f0_fHammers_h : Rw w f0_fHammers_a 2 encGHammer f0.fHammers) (f0_fHammers_hn : f0.fHammers.length = f0_fHammers_an) (h : spec_ChoicesFor f0 n1 = some r) :
    Calls Tryz.prog 21 #[(.agg #[(.int .i16 f0.fSteps), (.slice f0_fHammers_a f0_fHammers_an f0_fHammers_c)]), (.agg #[(.int .i16 n1.fAt), (.int .i8 n1.fPitch)])] w fun e w' => ∃ v, e = .returned v ∧ (∃ (o0 : Option Nat) (c0 : Nat) (s0 : List Value) (n0 : Nat), r.1.length = n0 ∧ (o0 ≠ none → n0 ≤ c0 ∧ s0.length = (c0 - n0) * 4) ∧ (o0 = none → r.1 = [] ∧ c0 = 0) ∧ v = .tuple #[.slice (o0.map fun b => ⟨b, 0, none⟩) n0 c0, (.int .i64 r.2)] ∧ Mem w [] [⟨o0, 58, row encGChoice r.1 s0⟩] w') := by
  subst f0_fHammers_hn
  rw [spec_ChoicesFor] at h
  refine enter (args := [(.agg #[(.int .i16 f0.fSteps), (.slice f0_fHammers_a f0.fHammers.length f0_fHammers_c)]), (.agg #[(.int .i16 n1.fAt), (.int .i8 n1.fPitch)])]) Tryz.func21 rfl Tryz.ntmps21 (by kernel_rfl) (L := []) (W := []) (Mem.start w) ?_
  refine jc_seq ?_
  refine jc_region ?_
  refine toO (by kernel_rfl) (p_a 0 [0] (by kernel_rfl) (fun b => by kernel_rfl) (fun b_1 => jkO ?_))
  refine toO (by kernel_rfl) (p_a 0 [0] (by kernel_rfl) (fun b => by kernel_rfl) (fun b_2 => jkO ?_))
  refine jo_f [(0, 0), (0, 0)] (by kernel_rfl) ?_
  refine jo_end (by kernel_rfl) ?_
  refine jx_then ?_
  refine jc_seq ?_
  refine jc_seq ?_
  refine jc_meet (fun (j : Bool) => match j with | q_1 => spec_ChoicesFor.k_2 f0 n1 q_1 = some r) (fun (j : Bool) => match j with | q_1 => [(2, [], (.pointer (some ⟨b_1, 0, none⟩))), (3, [], (.pointer (some ⟨b_2, 0, none⟩))), (4, [], (.slice none 0 0)), (5, [], (.int .i64 0)), (12, [], (.bool q_1))]) (fun (j : Bool) => match j with | q_1 => [⟨some b_1, 27, [(.int .i16 f0.fSteps), (.slice f0_fHammers_a f0.fHammers.length f0_fHammers_c)]⟩, ⟨some b_2, 56, [(.int .i16 n1.fAt), (.int .i8 n1.fPitch)]⟩]) ?_ ?_
  · refine jc_region ?_
    obtain ⟨t_4, ht_22, h⟩ := bd h
    refine toO (by kernel_rfl) (p_call 0 48 #[(.pointer (some ⟨b_1, 0, none⟩))] (by kernel_rfl) (by kernel_rfl) (fun w hm => spec_l02Frame.calls f0 w _ f0_fHammers_a f0.fHammers.length f0_fHammers_c (hm.exRow f0_fHammers_h List.not_mem_nil) rfl b_1 (hm.pass (N := [⟨some b_1, 27, [(.int .i16 f0.fSteps), (.slice f0_fHammers_a f0.fHammers.length f0_fHammers_c)]⟩]) [0] (by kernel_rfl) (by kernel_rfl)) (hm.exApart (N := [⟨some b_1, 27, [(.int .i16 f0.fSteps), (.slice f0_fHammers_a f0.fHammers.length f0_fHammers_c)]⟩]) f0_fHammers_h (fun _ => List.not_mem_nil) [0] (by kernel_rfl)) ht_22) ?_)
    rintro w v w' hm ⟨rfl, hm'⟩
    refine ⟨_, hm.appW (ps := [(0, ⟨some b_1, 27, [(.int .i16 f0.fSteps), (.slice f0_fHammers_a f0.fHammers.length f0_fHammers_c)]⟩)]) (N := []) hm' (by kernel_rfl) (by kernel_rfl), jkO ?_⟩
    clear hm hm'
    refine jo_f [(0, 0), (0, 0), (1, 1)] (by kernel_rfl) ?_
    refine jo_split 8 (!t_4) (by kernel_rfl) (fun hc_23 => ?_) (fun hc_23 => ?_)
    · replace h := ifT hc_23 h
      refine jo_f [(0, 3), (0, 3), (0, 4)] (by kernel_rfl) ?_
      refine jo_end (by kernel_rfl) ?_
      exact jx_meet true h (by kernel_rfl) [0, 1] (by kernel_rfl) (by kernel_rfl)
    · replace h := ifF hc_23 h
      obtain ⟨t_5, ht_24, h⟩ := bd h
      refine toO (by kernel_rfl) (p_call 2 49 #[(.agg #[(.int .i16 n1.fAt), (.int .i8 n1.fPitch)])] (by kernel_rfl) (by kernel_rfl) (fun w hm => spec_l01Note.calls n1 w _ ht_24) ?_)
      rintro w v w' hm ⟨rfl, hm'⟩
      refine ⟨_, hm.app hm', jkO ?_⟩
      clear hm hm'
      refine jo_f [(0, 2), (0, 5)] (by kernel_rfl) ?_
      refine jo_end (by kernel_rfl) ?_
      exact jx_meet (!t_5) h (by kernel_rfl) [0, 1] (by kernel_rfl) (by kernel_rfl)
  · rintro q_1 h
    replace h : spec_ChoicesFor.k_2 f0 n1 q_1 = some r := h
    rw [spec_ChoicesFor.k_2] at h
    refine jx_then ?_
    refine jc_cond q_1 (by kernel_rfl) (fun hc_14 => ?_) (fun hc_14 => ?_)
    · replace h := ifT hc_14 h
      refine jc_seq ?_
      refine jc_region ?_
      refine toO (by kernel_rfl) (p_a 0 [0] (by kernel_rfl) (fun b => by kernel_rfl) (fun b_15 => jkO ?_))
      refine jo_f [(0, 0), (0, 0)] (by kernel_rfl) ?_
      refine jo_end (by kernel_rfl) ?_
      refine jx_then ?_
      refine jc_ret ?_
      refine jx_thenr ?_
      obtain rfl := Option.some.inj h
      exact jx_ret [] (.tuple #[(.slice (some ⟨b_15, 0, none⟩) 0 0), (.int .i64 1)]) [] rfl (by kernel_rfl) (by kernel_rfl) (fun w hm => ⟨(some b_15), 0, [], 0, rfl, (fun _ => ⟨Nat.le_refl _, by simp⟩), (fun e => nomatch e), rfl, hm.pick [2] (by kernel_rfl) (by kernel_rfl)⟩)
    · replace h := ifF hc_14 h
      refine jc_skip ?_
      refine jx_then ?_
      refine jc_seq ?_
      refine jc_region ?_
      refine jo_f [(1, 0)] (by kernel_rfl) ?_
      obtain ⟨t_3, ht_16, h⟩ := bd h
      refine toO (by kernel_rfl) (p_call 0 26 #[(.pointer (some ⟨b_1, 0, none⟩)), (.agg #[(.int .i16 n1.fAt), (.int .i8 n1.fPitch)])] (by kernel_rfl) (by kernel_rfl) (fun w hm => spec_l07For.calls f0 n1 w _ f0_fHammers_a f0.fHammers.length f0_fHammers_c (hm.exRow f0_fHammers_h List.not_mem_nil) rfl b_1 (hm.pass (N := [⟨some b_1, 27, [(.int .i16 f0.fSteps), (.slice f0_fHammers_a f0.fHammers.length f0_fHammers_c)]⟩]) [0] (by kernel_rfl) (by kernel_rfl)) (hm.exApart (N := [⟨some b_1, 27, [(.int .i16 f0.fSteps), (.slice f0_fHammers_a f0.fHammers.length f0_fHammers_c)]⟩]) f0_fHammers_h (fun _ => List.not_mem_nil) [0] (by kernel_rfl)) ht_16) ?_)
      rintro w v w' hm ⟨o_17, cap_18, sp_19, _, rfl, hs_20, ho_21, rfl, hm'⟩
      refine ⟨_, hm.appW (ps := [(0, ⟨some b_1, 27, [(.int .i16 f0.fSteps), (.slice f0_fHammers_a f0.fHammers.length f0_fHammers_c)]⟩)]) (N := [⟨o_17, 58, row encGChoice t_3 sp_19⟩]) hm' (by kernel_rfl) (by kernel_rfl), jkO ?_⟩
      clear hm hm'
      refine jo_f [(0, 0), (0, 0)] (by kernel_rfl) ?_
      refine jo_end (by kernel_rfl) ?_
      refine jx_then ?_
      refine jc_ret ?_
      obtain rfl := Option.some.inj h
      exact jx_ret [] (.tuple #[(.slice (o_17.map fun b => ⟨b, 0, none⟩) t_3.length cap_18), (.int .i64 0)]) [] rfl (by kernel_rfl) (by kernel_rfl) (fun w hm => ⟨o_17, cap_18, sp_19, t_3.length, rfl, hs_20, ho_21, rfl, hm.pick [2] (by kernel_rfl) (by kernel_rfl)⟩)

/-! ### impl.NoteOf -/
noncomputable def impl_NoteOf.k_2 (n0 : GNote) (x1 : GChoice) (q_1 : Bool) : Option (GNote × Int) := (if q_1 = true then some ((⟨0, 0⟩ : GNote), 1) else (if x1.fAway = true then some ((⟨0, 0⟩ : GNote), 4) else some ((⟨(w16 (n0.fAt + (w16 x1.fLate))), (w8 (n0.fPitch + (w8 (12 * x1.fOctave))))⟩ : GNote), 0)))
noncomputable def impl_NoteOf (n0 : GNote) (x1 : GChoice) : Option (GNote × Int) := (impl_isNote n0).bind fun t_3 => (if (!t_3) = true then impl_NoteOf.k_2 n0 x1 true else (impl_ValidChoice x1).bind fun t_4 => impl_NoteOf.k_2 n0 x1 (!t_4))
set_option maxRecDepth 100000 in
theorem impl_NoteOf.calls (n0 : GNote) (x1 : GChoice) (w : World) (r : GNote × Int) (h : impl_NoteOf n0 x1 = some r) :
    Calls Tryz.prog 22 #[(.agg #[(.int .i16 n0.fAt), (.int .i8 n0.fPitch)]), (.agg #[(.bool x1.fAway), (.int .i8 x1.fLate), (.int .i8 x1.fOctave), (.int .i8 x1.fTrack)])] w fun e w' => ∃ v, e = .returned v ∧ (v = .tuple #[.agg #[(.int .i16 r.1.fAt), (.int .i8 r.1.fPitch)], (.int .i64 r.2)] ∧ Mem w [] [] w') := by
  rw [impl_NoteOf] at h
  refine enter (args := [(.agg #[(.int .i16 n0.fAt), (.int .i8 n0.fPitch)]), (.agg #[(.bool x1.fAway), (.int .i8 x1.fLate), (.int .i8 x1.fOctave), (.int .i8 x1.fTrack)])]) Tryz.func22 rfl Tryz.ntmps22 (by kernel_rfl) (L := []) (W := []) (Mem.start w) ?_
  refine jc_seq ?_
  refine jc_region ?_
  refine toO (by kernel_rfl) (p_a 0 [0] (by kernel_rfl) (fun b => by kernel_rfl) (fun b_1 => jkO ?_))
  refine toO (by kernel_rfl) (p_a 0 [0] (by kernel_rfl) (fun b => by kernel_rfl) (fun b_2 => jkO ?_))
  refine toO (by kernel_rfl) (p_a 0 [0] (by kernel_rfl) (fun b => by kernel_rfl) (fun b_3 => jkO ?_))
  refine jo_f [(0, 0)] (by kernel_rfl) ?_
  refine jo_end (by kernel_rfl) ?_
  refine jx_then ?_
  refine jc_seq ?_
  refine jc_block ?_
  refine jc_seq ?_
  refine jc_meet (fun (j : Bool) => match j with | q_1 => impl_NoteOf.k_2 n0 x1 q_1 = some r) (fun (j : Bool) => match j with | q_1 => [(2, [], (.pointer (some ⟨b_1, 0, none⟩))), (3, [], (.pointer (some ⟨b_2, 0, none⟩))), (4, [], (.pointer (some ⟨b_3, 0, none⟩))), (5, [], (.int .i64 0)), (6, [], (.bool q_1))]) (fun (j : Bool) => match j with | q_1 => [⟨some b_1, 56, [(.int .i16 n0.fAt), (.int .i8 n0.fPitch)]⟩, ⟨some b_2, 58, [(.bool x1.fAway), (.int .i8 x1.fLate), (.int .i8 x1.fOctave), (.int .i8 x1.fTrack)]⟩, ⟨some b_3, 56, [(.int .i16 0), (.int .i8 0)]⟩]) ?_ ?_
  · refine jc_region ?_
    refine jo_f [(0, 0)] (by kernel_rfl) ?_
    obtain ⟨t_3, ht_17, h⟩ := bd h
    refine toO (by kernel_rfl) (p_call 0 46 #[(.agg #[(.int .i16 n0.fAt), (.int .i8 n0.fPitch)])] (by kernel_rfl) (by kernel_rfl) (fun w hm => impl_isNote.calls n0 w _ ht_17) ?_)
    rintro w v w' hm ⟨rfl, hm'⟩
    refine ⟨_, hm.app hm', jkO ?_⟩
    clear hm hm'
    refine jo_f [(0, 0), (0, 0), (1, 1)] (by kernel_rfl) ?_
    refine jo_split 10 (!t_3) (by kernel_rfl) (fun hc_18 => ?_) (fun hc_18 => ?_)
    · replace h := ifT hc_18 h
      refine jo_f [(0, 3), (0, 3), (0, 4), (0, 0)] (by kernel_rfl) ?_
      refine jo_end (by kernel_rfl) ?_
      exact jx_meet true h (by kernel_rfl) [0, 1, 2] (by kernel_rfl) (by kernel_rfl)
    · replace h := ifF hc_18 h
      obtain ⟨t_4, ht_19, h⟩ := bd h
      refine toO (by kernel_rfl) (p_call 2 23 #[(.agg #[(.bool x1.fAway), (.int .i8 x1.fLate), (.int .i8 x1.fOctave), (.int .i8 x1.fTrack)])] (by kernel_rfl) (by kernel_rfl) (fun w hm => impl_ValidChoice.calls x1 w _ ht_19) ?_)
      rintro w v w' hm ⟨rfl, hm'⟩
      refine ⟨_, hm.app hm', jkO ?_⟩
      clear hm hm'
      refine jo_f [(0, 2), (0, 5), (0, 0)] (by kernel_rfl) ?_
      refine jo_end (by kernel_rfl) ?_
      exact jx_meet (!t_4) h (by kernel_rfl) [0, 1, 2] (by kernel_rfl) (by kernel_rfl)
  · rintro q_1 h
    replace h : impl_NoteOf.k_2 n0 x1 q_1 = some r := h
    rw [impl_NoteOf.k_2] at h
    refine jx_then ?_
    refine jc_cond q_1 (by kernel_rfl) (fun hc_15 => ?_) (fun hc_15 => ?_)
    · replace h := ifT hc_15 h
      refine jc_seq ?_
      refine jc_region ?_
      refine jo_f [(0, 0)] (by kernel_rfl) ?_
      refine toO (by kernel_rfl) (p_s 0 [2] (by kernel_rfl) (by kernel_rfl) (jkO ?_))
      refine jo_f [(0, 0)] (by kernel_rfl) ?_
      refine jo_end (by kernel_rfl) ?_
      refine jx_then ?_
      refine jc_ret ?_
      refine jx_inr ?_
      refine jx_thenr ?_
      obtain rfl := Option.some.inj h
      exact jx_ret [2] (.tuple #[(.agg #[(.int .i16 0), (.int .i8 0)]), (.int .i64 1)]) [(b_3, b_3), (b_3, b_3)] rfl (by kernel_rfl) (by kernel_rfl) (fun w hm => ⟨rfl, hm.pick [] (by kernel_rfl) (by kernel_rfl)⟩)
    · replace h := ifF hc_15 h
      refine jc_seq ?_
      refine jc_region ?_
      refine jo_f [(0, 0), (1, 0), (0, 0)] (by kernel_rfl) ?_
      refine jo_end (by kernel_rfl) ?_
      refine jx_then ?_
      refine jc_cond x1.fAway (by kernel_rfl) (fun hc_16 => ?_) (fun hc_16 => ?_)
      · replace h := ifT hc_16 h
        refine jc_seq ?_
        refine jc_region ?_
        refine jo_f [(0, 0)] (by kernel_rfl) ?_
        refine toO (by kernel_rfl) (p_s 0 [2] (by kernel_rfl) (by kernel_rfl) (jkO ?_))
        refine jo_f [(0, 0)] (by kernel_rfl) ?_
        refine jo_end (by kernel_rfl) ?_
        refine jx_then ?_
        refine jc_ret ?_
        refine jx_inr ?_
        refine jx_thenr ?_
        obtain rfl := Option.some.inj h
        exact jx_ret [2] (.tuple #[(.agg #[(.int .i16 0), (.int .i8 0)]), (.int .i64 4)]) [(b_3, b_3), (b_3, b_3)] rfl (by kernel_rfl) (by kernel_rfl) (fun w hm => ⟨rfl, hm.pick [] (by kernel_rfl) (by kernel_rfl)⟩)
      · replace h := ifF hc_16 h
        refine jc_skip ?_
        refine jx_inn ?_
        refine jx_then ?_
        refine jc_seq ?_
        refine jc_region ?_
        refine jo_f [(0, 0), (0, 0), (0, 0), (1, 0), (0, 0), (0, 0), (0, 0), (0, 0), (0, 0), (1, 0), (0, 0), (0, 0), (0, 0)] (by kernel_rfl) ?_
        refine toO (by kernel_rfl) (p_s 0 [2] (by kernel_rfl) (by kernel_rfl) (jkO ?_))
        refine jo_f [(0, 0)] (by kernel_rfl) ?_
        refine jo_end (by kernel_rfl) ?_
        refine jx_then ?_
        refine jc_ret ?_
        obtain rfl := Option.some.inj h
        exact jx_ret [2] (.tuple #[(.agg #[(.int .i16 (w16 (n0.fAt + (w16 x1.fLate)))), (.int .i8 (w8 (n0.fPitch + (w8 (12 * x1.fOctave)))))]), (.int .i64 0)]) [(b_3, b_3), (b_3, b_3)] rfl (by kernel_rfl) (by kernel_rfl) (fun w hm => ⟨rfl, hm.pick [] (by kernel_rfl) (by kernel_rfl)⟩)

/-! ### laws.FnFits -/
noncomputable def laws_FnFits.k_17 (t_2 : GFrame × (List GNote)) (t_3 : (List GChoice)) : Option (Bool) := (if ([] : List GChoice).length + t_3.length ≤ 4294967296 then (if (([] : List GChoice) ++ t_3).length + [(⟨true, 0, 0, 0⟩ : GChoice)].length ≤ 4294967296 then (impl_CheckChoices t_2.1 t_2.2 ((([] : List GChoice) ++ t_3) ++ [(⟨true, 0, 0, 0⟩ : GChoice)])).bind fun t_18 => (impl_DrumFor t_2.1 t_2.2 ((([] : List GChoice) ++ t_3) ++ [(⟨true, 0, 0, 0⟩ : GChoice)])).bind fun t_19 => some (((t_18.2 == 0) && (!t_18.1)) && (t_19.2 == 2)) else none) else none)
noncomputable def laws_FnFits.k_30 (i_20 : Int) (q_29 : Bool) : Option ((Int) ⊕ (Bool ⊕ Unit)) := (if (!q_29) = true then some (.inr (.inl false)) else some (.inl (w64 (i_20 + 1))))
noncomputable def laws_FnFits.k_44 (i_32 : Int) (q_35 : Bool) (q_43 : Bool) : Option ((Bool × Int) ⊕ (Bool ⊕ Bool)) := (if q_43 = true then some (.inr (.inl false)) else some (.inl (q_35, (w64 (i_32 + 1)))))
noncomputable def laws_FnFits.k_42 (t_2 : GFrame × (List GNote)) (t_26 : (List GChoice) × Int) (i_32 : Int) (q_35 : Bool) (i_37 : Int) (i_38 : Int) (i_39 : Int) (q_41 : Bool) : Option ((Bool × Int) ⊕ (Bool ⊕ Bool)) := (if q_41 = true then some (.inr (.inl false)) else (if (i_39 == 0) = true then (ix t_26.1 i_32).bind fun x_45 => (ix t_2.1.fHammers x_45.fTrack).bind fun x_46 => laws_FnFits.k_44 i_32 q_35 (((i_38 != x_46.fPitch) || (decide (i_37 < 0))) || (decide (i_37 ≥ t_2.1.fSteps))) else laws_FnFits.k_44 i_32 q_35 false))
noncomputable def laws_FnFits.k_40 (t_2 : GFrame × (List GNote)) (t_26 : (List GChoice) × Int) (i_32 : Int) (q_35 : Bool) (i_37 : Int) (i_38 : Int) (i_39 : Int) : Option ((Bool × Int) ⊕ (Bool ⊕ Bool)) := (ix t_26.1 i_32).bind fun x_47 => (impl_ValidChoice x_47).bind fun t_48 => (if (!t_48) = true then laws_FnFits.k_42 t_2 t_26 i_32 q_35 i_37 i_38 i_39 true else (ix t_26.1 i_32).bind fun x_49 => laws_FnFits.k_42 t_2 t_26 i_32 q_35 i_37 i_38 i_39 (x_49.fAway != (i_39 == 4)))
noncomputable def laws_FnFits.k_36 (t_2 : GFrame × (List GNote)) (i_20 : Int) (t_26 : (List GChoice) × Int) (i_32 : Int) (q_35 : Bool) : Option ((Bool × Int) ⊕ (Bool ⊕ Bool)) := (ix t_2.2 i_20).bind fun x_50 => (ix t_26.1 i_32).bind fun x_51 => (impl_NoteOf x_50 x_51).bind fun t_52 => laws_FnFits.k_40 t_2 t_26 i_32 q_35 t_52.1.fAt t_52.1.fPitch t_52.2
noncomputable def laws_FnFits.l_33 (t_2 : GFrame × (List GNote)) (t_3 : (List GChoice)) (i_20 : Int) (t_26 : (List GChoice) × Int) : (Bool × Int) → Option ((Bool × Int) ⊕ (Bool ⊕ Bool))
  | (q_31, i_32) => (if (decide (i_32 < (t_26.1.length : Int))) = true then (if q_31 = true then laws_FnFits.k_36 t_2 i_20 t_26 i_32 true else (ix t_26.1 i_32).bind fun x_53 => (ix t_3 i_20).bind fun x_54 => laws_FnFits.k_36 t_2 i_20 t_26 i_32 ((x_53.fAway == x_54.fAway) && ((x_53.fLate == x_54.fLate) && ((x_53.fOctave == x_54.fOctave) && (x_53.fTrack == x_54.fTrack))))) else some (.inr (.inr q_31)))
noncomputable def laws_FnFits.k_28 (t_2 : GFrame × (List GNote)) (t_3 : (List GChoice)) (i_20 : Int) (t_26 : (List GChoice) × Int) (q_27 : Bool) : Option ((Int) ⊕ (Bool ⊕ Unit)) := (if q_27 = true then some (.inr (.inl false)) else (loop (laws_FnFits.l_33 t_2 t_3 i_20 t_26) (false, 0)).bind fun t_34 => match t_34 with | .inl p => some (.inr (.inl p)) | .inr p => laws_FnFits.k_30 i_20 p)
noncomputable def laws_FnFits.l_21 (t_2 : GFrame × (List GNote)) (t_3 : (List GChoice)) : Int → Option ((Int) ⊕ (Bool ⊕ Unit))
  | i_20 => (if (decide (i_20 < (t_2.2.length : Int))) = true then (ix t_2.2 i_20).bind fun x_23 => (impl_ChoicesFor t_2.1 x_23).bind fun t_24 => (ix t_2.2 i_20).bind fun x_25 => (spec_ChoicesFor t_2.1 x_25).bind fun t_26 => (if ((t_24.2 != t_26.2) || (t_24.2 != 0)) = true then laws_FnFits.k_28 t_2 t_3 i_20 t_26 true else (spec_A2SameChoices t_24.1 t_26.1).bind fun t_55 => (if ((!t_55) || ((t_26.1.length : Int) == 0)) = true then laws_FnFits.k_28 t_2 t_3 i_20 t_26 true else (ix t_26.1 (w64 ((t_26.1.length : Int) - 1))).bind fun x_56 => laws_FnFits.k_28 t_2 t_3 i_20 t_26 (!x_56.fAway))) else some (.inr (.inr ())))
noncomputable def laws_FnFits.k_16 (t_2 : GFrame × (List GNote)) (t_3 : (List GChoice)) (q_15 : Bool) : Option (Bool) := (if q_15 = true then some false else (loop (laws_FnFits.l_21 t_2 t_3) 0).bind fun t_22 => match t_22 with | .inl p => some p | .inr p => laws_FnFits.k_17 t_2 t_3)
noncomputable def laws_FnFits (code0 : List Int) (more1 : List Int) : Option (Bool) := (laws_a2Long code0 more1).bind fun t_1 => (if t_1 = true then some true else (spec_A2Short code0).bind fun t_2 => (spec_A2Choices more1 t_2.1 t_2.2).bind fun t_3 => (impl_ChoicesText t_3).bind fun t_4 => (impl_ReadChoices t_4).bind fun t_5 => (impl_DrumFor t_2.1 t_2.2 t_3).bind fun t_6 => (spec_DrumFor t_2.1 t_2.2 t_3).bind fun t_7 => (impl_CheckChoices t_2.1 t_2.2 t_3).bind fun t_8 => (impl_FirstUnfit t_2.1 t_2.2 t_3).bind fun t_9 => (impl_IsPlayable t_2.1 t_7.1).bind fun t_10 => (impl_HeardTune t_2.1 t_2.2 t_3).bind fun t_11 => (spec_TuneOf t_2.1 t_7.1).bind fun t_12 => (impl_KeptNotes t_2.1 t_2.2 t_3).bind fun t_13 => (impl_CountPins t_2.1 t_7.1).bind fun t_14 => (if (t_5.2 != 0) = true then laws_FnFits.k_16 t_2 t_3 true else (spec_A2SameChoices t_5.1 t_3).bind fun t_57 => (if (((!t_57) || (t_6.2 != t_7.2)) || (t_6.2 != 0)) = true then laws_FnFits.k_16 t_2 t_3 true else (if ((((((((!(t_6.1.1 == t_7.1.1)) || (t_8.2 != 0)) || (!t_8.1)) || (t_9.2 != 6)) || (t_10.2 != 0)) || (!t_10.1)) || (t_11.2 != 0)) || (t_12.2 != 0)) = true then laws_FnFits.k_16 t_2 t_3 true else (spec_SameTune t_11.1 t_12.1).bind fun t_58 => laws_FnFits.k_16 t_2 t_3 ((((!t_58) || (t_13.2 != 0)) || (t_14.2 != 0)) || (t_14.1 != t_13.1))))))
set_option maxRecDepth 100000 in
set_option maxHeartbeats 8000000 in
theorem laws_FnFits.calls (code0 : List Int) (more1 : List Int) (w : World) (r : Bool) (g_er : Gler w) (g_lo : Gllo w) (g_ml : Glml w) (g_pw : Glpw w) (code0_a : Option Addr) (code0_an : Nat) (code0_c : Nat) (code0_h : Rw w code0_a 1 encU8 code0) (code0_hn : code0.length = code0_an) (more1_a : Option Addr) (more1_an : Nat) (more1_c : Nat) (more1_h : Rw w more1_a 1 encU8 more1) (more1_hn : more1.length = more1_an) (h : laws_FnFits code0 more1 = some r) :
    Calls Tryz.prog 3 #[(.slice code0_a code0_an code0_c), (.slice more1_a more1_an more1_c)] w fun e w' => ∃ v, e = .returned v ∧ (v = (.bool r) ∧ Mem w [] [] w') := by
  subst code0_hn more1_hn
  rw [laws_FnFits] at h
  refine enter (args := [(.slice code0_a code0.length code0_c), (.slice more1_a more1.length more1_c)]) Tryz.func3 rfl Tryz.ntmps3 (by kernel_rfl) (L := []) (W := []) (Mem.start w) ?_
  refine jc_seq ?_
  refine jc_region ?_
  refine jo_f [(0, 0)] (by kernel_rfl) ?_
  refine jo_end (by kernel_rfl) ?_
  refine jx_then ?_
  refine jc_seq ?_
  refine jc_seq ?_
  refine jc_region ?_
  refine jo_f [(0, 0), (0, 0)] (by kernel_rfl) ?_
  obtain ⟨t_1, ht_3, h⟩ := bd h
  refine toO (by kernel_rfl) (p_call 0 4 #[(.slice code0_a code0.length code0_c), (.slice more1_a more1.length more1_c)] (by kernel_rfl) (by kernel_rfl) (fun w hm => laws_a2Long.calls code0 more1 w _ code0_a code0.length code0_c (hm.exRow code0_h List.not_mem_nil) rfl more1_a more1.length more1_c (hm.exRow more1_h List.not_mem_nil) rfl ht_3) ?_)
  rintro w v w' hm ⟨rfl, hm'⟩
  refine ⟨_, hm.app hm', jkO ?_⟩
  clear hm hm'
  refine jo_end (by kernel_rfl) ?_
  refine jx_then ?_
  refine jc_cond t_1 (by kernel_rfl) (fun hc_4 => ?_) (fun hc_4 => ?_)
  · replace h := ifT hc_4 h
    refine jc_seq ?_
    refine jc_region ?_
    refine jo_f [(0, 0)] (by kernel_rfl) ?_
    refine jo_end (by kernel_rfl) ?_
    refine jx_then ?_
    refine jc_ret ?_
    refine jx_thenr ?_
    obtain rfl := Option.some.inj h
    exact jx_ret [] (.bool true) [] rfl (by kernel_rfl) (by kernel_rfl) (fun w hm => ⟨rfl, hm.pick [] (by kernel_rfl) (by kernel_rfl)⟩)
  · replace h := ifF hc_4 h
    refine jc_skip ?_
    refine jx_then ?_
    refine jc_seq ?_
    refine jc_region ?_
    refine jo_f [(0, 0)] (by kernel_rfl) ?_
    obtain ⟨t_2, ht_5, h⟩ := bd h
    refine toO (by kernel_rfl) (p_call 0 5 #[(.slice code0_a code0.length code0_c)] (by kernel_rfl) (by kernel_rfl) (fun w hm => spec_A2Short.calls code0 w _ code0_a code0.length code0_c (hm.exRow code0_h List.not_mem_nil) rfl ht_5) ?_)
    rintro w v w' hm ⟨o_6, cap_7, sp_8, _, rfl, hs_9, ho_10, o_11, cap_12, sp_13, _, rfl, hs_14, ho_15, rfl, hm'⟩
    refine ⟨_, hm.app hm', jkO ?_⟩
    clear hm hm'
    refine jo_f [(0, 0), (0, 0), (0, 0)] (by kernel_rfl) ?_
    refine toO (by kernel_rfl) (p_a 0 [0] (by kernel_rfl) (fun b => by kernel_rfl) (fun b_16 => jkO ?_))
    refine toO (by kernel_rfl) (p_s 0 [2] (by kernel_rfl) (by kernel_rfl) (jkO ?_))
    refine jo_f [(0, 0)] (by kernel_rfl) ?_
    refine jo_end (by kernel_rfl) ?_
    refine jx_then ?_
    refine jc_seq ?_
    refine jc_region ?_
    refine jo_f [(0, 0), (2, 0), (0, 0)] (by kernel_rfl) ?_
    obtain ⟨t_3, ht_17, h⟩ := bd h
    refine toO (by kernel_rfl) (p_call 0 6 #[(.slice more1_a more1.length more1_c), (.agg #[(.int .i16 t_2.1.fSteps), (.slice (o_6.map fun b => ⟨b, 0, none⟩) t_2.1.fHammers.length cap_7)]), (.slice (o_11.map fun b => ⟨b, 0, none⟩) t_2.2.length cap_12)] (by kernel_rfl) (by kernel_rfl) (fun w hm => spec_A2Choices.calls more1 t_2.1 t_2.2 w _ more1_a more1.length more1_c (hm.exRow more1_h List.not_mem_nil) rfl (o_6.map fun b => ⟨b, 0, none⟩) t_2.1.fHammers.length cap_7 (hm.ownRow (hh := 0) (o := o_6) (T := 63) (enc := encGHammer) (xs := t_2.1.fHammers) (sp := sp_8) (by kernel_rfl) (fun e => (ho_10 e).1) encGHammer_len) rfl (o_11.map fun b => ⟨b, 0, none⟩) t_2.2.length cap_12 (hm.ownRow (hh := 1) (o := o_11) (T := 56) (enc := encGNote) (xs := t_2.2) (sp := sp_13) (by kernel_rfl) (fun e => (ho_15 e).1) encGNote_len) rfl ht_17) ?_)
    rintro w v w' hm ⟨o_18, cap_19, sp_20, _, rfl, hs_21, ho_22, rfl, hm'⟩
    refine ⟨_, hm.app hm', jkO ?_⟩
    clear hm hm'
    refine jo_f [(0, 0)] (by kernel_rfl) ?_
    refine jo_end (by kernel_rfl) ?_
    refine jx_then ?_
    refine jc_seq ?_
    refine jc_region ?_
    refine jo_f [(0, 0)] (by kernel_rfl) ?_
    obtain ⟨t_4, ht_23, h⟩ := bd h
    refine toO (by kernel_rfl) (p_call 0 8 #[(.slice (o_18.map fun b => ⟨b, 0, none⟩) t_3.length cap_19)] (by kernel_rfl) (by kernel_rfl) (fun w hm => impl_ChoicesText.calls t_3 w _ (g_lo.keep hm) (g_pw.keep hm) (o_18.map fun b => ⟨b, 0, none⟩) t_3.length cap_19 (hm.ownRow (hh := 3) (o := o_18) (T := 58) (enc := encGChoice) (xs := t_3) (sp := sp_20) (by kernel_rfl) (fun e => (ho_22 e).1) encGChoice_len) rfl ht_23) ?_)
    rintro w v w' hm ⟨rfl, hm'⟩
    refine ⟨_, hm.app hm', jkO ?_⟩
    clear hm hm'
    obtain ⟨t_5, ht_24, h⟩ := bd h
    refine toO (by kernel_rfl) (p_call 0 7 #[(.string t_4)] (by kernel_rfl) (by kernel_rfl) (fun w hm => impl_ReadChoices.calls t_4 w _ (g_er.keep hm) (g_lo.keep hm) (g_ml.keep hm) (g_pw.keep hm) ht_24) ?_)
    rintro w v w' hm ⟨o_25, cap_26, sp_27, _, rfl, hs_28, ho_29, rfl, hm'⟩
    refine ⟨_, hm.app hm', jkO ?_⟩
    clear hm hm'
    refine jo_f [(0, 0), (0, 0), (0, 0), (0, 0), (0, 0)] (by kernel_rfl) ?_
    refine jo_end (by kernel_rfl) ?_
    refine jx_then ?_
    refine jc_seq ?_
    refine jc_region ?_
    refine jo_f [(2, 0), (0, 0), (0, 0)] (by kernel_rfl) ?_
    obtain ⟨t_6, ht_30, h⟩ := bd h
    refine toO (by kernel_rfl) (p_call 0 9 #[(.agg #[(.int .i16 t_2.1.fSteps), (.slice (o_6.map fun b => ⟨b, 0, none⟩) t_2.1.fHammers.length cap_7)]), (.slice (o_11.map fun b => ⟨b, 0, none⟩) t_2.2.length cap_12), (.slice (o_18.map fun b => ⟨b, 0, none⟩) t_3.length cap_19)] (by kernel_rfl) (by kernel_rfl) (fun w hm => impl_DrumFor.calls t_2.1 t_2.2 t_3 w _ (o_6.map fun b => ⟨b, 0, none⟩) t_2.1.fHammers.length cap_7 (hm.ownRow (hh := 0) (o := o_6) (T := 63) (enc := encGHammer) (xs := t_2.1.fHammers) (sp := sp_8) (by kernel_rfl) (fun e => (ho_10 e).1) encGHammer_len) rfl (o_11.map fun b => ⟨b, 0, none⟩) t_2.2.length cap_12 (hm.ownRow (hh := 1) (o := o_11) (T := 56) (enc := encGNote) (xs := t_2.2) (sp := sp_13) (by kernel_rfl) (fun e => (ho_15 e).1) encGNote_len) rfl (o_18.map fun b => ⟨b, 0, none⟩) t_3.length cap_19 (hm.ownRow (hh := 3) (o := o_18) (T := 58) (enc := encGChoice) (xs := t_3) (sp := sp_20) (by kernel_rfl) (fun e => (ho_22 e).1) encGChoice_len) rfl ht_30) ?_)
    rintro w v w' hm ⟨rfl, hm'⟩
    refine ⟨_, hm.app hm', jkO ?_⟩
    clear hm hm'
    refine jo_f [(0, 0), (0, 0), (0, 0)] (by kernel_rfl) ?_
    refine toO (by kernel_rfl) (p_a 0 [0] (by kernel_rfl) (fun b => by kernel_rfl) (fun b_31 => jkO ?_))
    refine toO (by kernel_rfl) (p_sA 0 5 b_31 96 1 39 encU32 (Arr.rep 96 0) t_6.1 (by kernel_rfl) (by kernel_rfl) (by kernel_rfl) encU32_len encU32_cell (by kernel_rfl) (jkO ?_))
    refine jo_f [(0, 0)] (by kernel_rfl) ?_
    refine jo_end (by kernel_rfl) ?_
    refine jx_then ?_
    refine jc_seq ?_
    refine jc_region ?_
    refine jo_f [(2, 0), (0, 0), (0, 0)] (by kernel_rfl) ?_
    obtain ⟨t_7, ht_32, h⟩ := bd h
    refine toO (by kernel_rfl) (p_call 0 10 #[(.agg #[(.int .i16 t_2.1.fSteps), (.slice (o_6.map fun b => ⟨b, 0, none⟩) t_2.1.fHammers.length cap_7)]), (.slice (o_11.map fun b => ⟨b, 0, none⟩) t_2.2.length cap_12), (.slice (o_18.map fun b => ⟨b, 0, none⟩) t_3.length cap_19)] (by kernel_rfl) (by kernel_rfl) (fun w hm => spec_DrumFor.calls t_2.1 t_2.2 t_3 w _ (o_6.map fun b => ⟨b, 0, none⟩) t_2.1.fHammers.length cap_7 (hm.ownRow (hh := 0) (o := o_6) (T := 63) (enc := encGHammer) (xs := t_2.1.fHammers) (sp := sp_8) (by kernel_rfl) (fun e => (ho_10 e).1) encGHammer_len) rfl (o_11.map fun b => ⟨b, 0, none⟩) t_2.2.length cap_12 (hm.ownRow (hh := 1) (o := o_11) (T := 56) (enc := encGNote) (xs := t_2.2) (sp := sp_13) (by kernel_rfl) (fun e => (ho_15 e).1) encGNote_len) rfl (o_18.map fun b => ⟨b, 0, none⟩) t_3.length cap_19 (hm.ownRow (hh := 3) (o := o_18) (T := 58) (enc := encGChoice) (xs := t_3) (sp := sp_20) (by kernel_rfl) (fun e => (ho_22 e).1) encGChoice_len) rfl ht_32) ?_)
    rintro w v w' hm ⟨rfl, hm'⟩
    refine ⟨_, hm.app hm', jkO ?_⟩
    clear hm hm'
    refine jo_f [(0, 0), (0, 0), (0, 0)] (by kernel_rfl) ?_
    refine toO (by kernel_rfl) (p_a 0 [0] (by kernel_rfl) (fun b => by kernel_rfl) (fun b_33 => jkO ?_))
    refine toO (by kernel_rfl) (p_sA 0 6 b_33 96 1 39 encU32 (Arr.rep 96 0) t_7.1 (by kernel_rfl) (by kernel_rfl) (by kernel_rfl) encU32_len encU32_cell (by kernel_rfl) (jkO ?_))
    refine jo_f [(0, 0)] (by kernel_rfl) ?_
    refine jo_end (by kernel_rfl) ?_
    refine jx_then ?_
    refine jc_seq ?_
    refine jc_region ?_
    refine jo_f [(2, 0), (0, 0), (0, 0)] (by kernel_rfl) ?_
    obtain ⟨t_8, ht_34, h⟩ := bd h
    refine toO (by kernel_rfl) (p_call 0 11 #[(.agg #[(.int .i16 t_2.1.fSteps), (.slice (o_6.map fun b => ⟨b, 0, none⟩) t_2.1.fHammers.length cap_7)]), (.slice (o_11.map fun b => ⟨b, 0, none⟩) t_2.2.length cap_12), (.slice (o_18.map fun b => ⟨b, 0, none⟩) t_3.length cap_19)] (by kernel_rfl) (by kernel_rfl) (fun w hm => impl_CheckChoices.calls t_2.1 t_2.2 t_3 w _ (o_6.map fun b => ⟨b, 0, none⟩) t_2.1.fHammers.length cap_7 (hm.ownRow (hh := 0) (o := o_6) (T := 63) (enc := encGHammer) (xs := t_2.1.fHammers) (sp := sp_8) (by kernel_rfl) (fun e => (ho_10 e).1) encGHammer_len) rfl (o_11.map fun b => ⟨b, 0, none⟩) t_2.2.length cap_12 (hm.ownRow (hh := 1) (o := o_11) (T := 56) (enc := encGNote) (xs := t_2.2) (sp := sp_13) (by kernel_rfl) (fun e => (ho_15 e).1) encGNote_len) rfl (o_18.map fun b => ⟨b, 0, none⟩) t_3.length cap_19 (hm.ownRow (hh := 3) (o := o_18) (T := 58) (enc := encGChoice) (xs := t_3) (sp := sp_20) (by kernel_rfl) (fun e => (ho_22 e).1) encGChoice_len) rfl ht_34) ?_)
    rintro w v w' hm ⟨rfl, hm'⟩
    refine ⟨_, hm.app hm', jkO ?_⟩
    clear hm hm'
    refine jo_f [(0, 0), (0, 0), (0, 0), (0, 0), (0, 0)] (by kernel_rfl) ?_
    refine jo_end (by kernel_rfl) ?_
    refine jx_then ?_
    refine jc_seq ?_
    refine jc_region ?_
    refine jo_f [(2, 0), (0, 0), (0, 0)] (by kernel_rfl) ?_
    obtain ⟨t_9, ht_35, h⟩ := bd h
    refine toO (by kernel_rfl) (p_call 0 12 #[(.agg #[(.int .i16 t_2.1.fSteps), (.slice (o_6.map fun b => ⟨b, 0, none⟩) t_2.1.fHammers.length cap_7)]), (.slice (o_11.map fun b => ⟨b, 0, none⟩) t_2.2.length cap_12), (.slice (o_18.map fun b => ⟨b, 0, none⟩) t_3.length cap_19)] (by kernel_rfl) (by kernel_rfl) (fun w hm => impl_FirstUnfit.calls t_2.1 t_2.2 t_3 w _ (o_6.map fun b => ⟨b, 0, none⟩) t_2.1.fHammers.length cap_7 (hm.ownRow (hh := 0) (o := o_6) (T := 63) (enc := encGHammer) (xs := t_2.1.fHammers) (sp := sp_8) (by kernel_rfl) (fun e => (ho_10 e).1) encGHammer_len) rfl (o_11.map fun b => ⟨b, 0, none⟩) t_2.2.length cap_12 (hm.ownRow (hh := 1) (o := o_11) (T := 56) (enc := encGNote) (xs := t_2.2) (sp := sp_13) (by kernel_rfl) (fun e => (ho_15 e).1) encGNote_len) rfl (o_18.map fun b => ⟨b, 0, none⟩) t_3.length cap_19 (hm.ownRow (hh := 3) (o := o_18) (T := 58) (enc := encGChoice) (xs := t_3) (sp := sp_20) (by kernel_rfl) (fun e => (ho_22 e).1) encGChoice_len) rfl ht_35) ?_)
    rintro w v w' hm ⟨rfl, hm'⟩
    refine ⟨_, hm.app hm', jkO ?_⟩
    clear hm hm'
    refine jo_f [(0, 0), (0, 0), (0, 0), (0, 0), (0, 0)] (by kernel_rfl) ?_
    refine jo_end (by kernel_rfl) ?_
    refine jx_then ?_
    refine jc_seq ?_
    refine jc_region ?_
    refine jo_f [(2, 0)] (by kernel_rfl) ?_
    refine toO (by kernel_rfl) (p_ldA 0 6 b_33 96 1 39 encU32 t_7.1 (by kernel_rfl) (by kernel_rfl) (by kernel_rfl) encU32_len (by kernel_rfl) (jkO ?_))
    obtain ⟨t_10, ht_36, h⟩ := bd h
    refine toO (by kernel_rfl) (p_call 0 13 #[(.agg #[(.int .i16 t_2.1.fSteps), (.slice (o_6.map fun b => ⟨b, 0, none⟩) t_2.1.fHammers.length cap_7)]), (.agg (row encU32 t_7.1.1 []).toArray)] (by kernel_rfl) (by kernel_rfl) (fun w hm => impl_IsPlayable.calls t_2.1 t_7.1 w _ (o_6.map fun b => ⟨b, 0, none⟩) t_2.1.fHammers.length cap_7 (hm.ownRow (hh := 0) (o := o_6) (T := 63) (enc := encGHammer) (xs := t_2.1.fHammers) (sp := sp_8) (by kernel_rfl) (fun e => (ho_10 e).1) encGHammer_len) rfl ht_36) ?_)
    rintro w v w' hm ⟨rfl, hm'⟩
    refine ⟨_, hm.app hm', jkO ?_⟩
    clear hm hm'
    refine jo_f [(0, 0), (0, 0), (0, 0), (0, 0), (0, 0)] (by kernel_rfl) ?_
    refine jo_end (by kernel_rfl) ?_
    refine jx_then ?_
    refine jc_seq ?_
    refine jc_region ?_
    refine jo_f [(2, 0), (0, 0), (0, 0)] (by kernel_rfl) ?_
    obtain ⟨t_11, ht_37, h⟩ := bd h
    refine toO (by kernel_rfl) (p_call 0 14 #[(.agg #[(.int .i16 t_2.1.fSteps), (.slice (o_6.map fun b => ⟨b, 0, none⟩) t_2.1.fHammers.length cap_7)]), (.slice (o_11.map fun b => ⟨b, 0, none⟩) t_2.2.length cap_12), (.slice (o_18.map fun b => ⟨b, 0, none⟩) t_3.length cap_19)] (by kernel_rfl) (by kernel_rfl) (fun w hm => impl_HeardTune.calls t_2.1 t_2.2 t_3 w _ (o_6.map fun b => ⟨b, 0, none⟩) t_2.1.fHammers.length cap_7 (hm.ownRow (hh := 0) (o := o_6) (T := 63) (enc := encGHammer) (xs := t_2.1.fHammers) (sp := sp_8) (by kernel_rfl) (fun e => (ho_10 e).1) encGHammer_len) rfl (o_11.map fun b => ⟨b, 0, none⟩) t_2.2.length cap_12 (hm.ownRow (hh := 1) (o := o_11) (T := 56) (enc := encGNote) (xs := t_2.2) (sp := sp_13) (by kernel_rfl) (fun e => (ho_15 e).1) encGNote_len) rfl (o_18.map fun b => ⟨b, 0, none⟩) t_3.length cap_19 (hm.ownRow (hh := 3) (o := o_18) (T := 58) (enc := encGChoice) (xs := t_3) (sp := sp_20) (by kernel_rfl) (fun e => (ho_22 e).1) encGChoice_len) rfl ht_37) ?_)
    rintro w v w' hm ⟨o_38, cap_39, sp_40, _, rfl, hs_41, ho_42, rfl, hm'⟩
    refine ⟨_, hm.app hm', jkO ?_⟩
    clear hm hm'
    refine jo_f [(0, 0), (0, 0), (0, 0), (0, 0), (0, 0)] (by kernel_rfl) ?_
    refine jo_end (by kernel_rfl) ?_
    refine jx_then ?_
    refine jc_seq ?_
    refine jc_region ?_
    refine jo_f [(2, 0)] (by kernel_rfl) ?_
    refine toO (by kernel_rfl) (p_ldA 0 6 b_33 96 1 39 encU32 t_7.1 (by kernel_rfl) (by kernel_rfl) (by kernel_rfl) encU32_len (by kernel_rfl) (jkO ?_))
    obtain ⟨t_12, ht_43, h⟩ := bd h
    refine toO (by kernel_rfl) (p_call 0 15 #[(.agg #[(.int .i16 t_2.1.fSteps), (.slice (o_6.map fun b => ⟨b, 0, none⟩) t_2.1.fHammers.length cap_7)]), (.agg (row encU32 t_7.1.1 []).toArray)] (by kernel_rfl) (by kernel_rfl) (fun w hm => spec_TuneOf.calls t_2.1 t_7.1 w _ (o_6.map fun b => ⟨b, 0, none⟩) t_2.1.fHammers.length cap_7 (hm.ownRow (hh := 0) (o := o_6) (T := 63) (enc := encGHammer) (xs := t_2.1.fHammers) (sp := sp_8) (by kernel_rfl) (fun e => (ho_10 e).1) encGHammer_len) rfl ht_43) ?_)
    rintro w v w' hm ⟨o_44, cap_45, sp_46, _, rfl, hs_47, ho_48, rfl, hm'⟩
    refine ⟨_, hm.app hm', jkO ?_⟩
    clear hm hm'
    refine jo_f [(0, 0), (0, 0), (0, 0), (0, 0), (0, 0)] (by kernel_rfl) ?_
    refine jo_end (by kernel_rfl) ?_
    refine jx_then ?_
    refine jc_seq ?_
    refine jc_region ?_
    refine jo_f [(2, 0), (0, 0), (0, 0)] (by kernel_rfl) ?_
    obtain ⟨t_13, ht_49, h⟩ := bd h
    refine toO (by kernel_rfl) (p_call 0 16 #[(.agg #[(.int .i16 t_2.1.fSteps), (.slice (o_6.map fun b => ⟨b, 0, none⟩) t_2.1.fHammers.length cap_7)]), (.slice (o_11.map fun b => ⟨b, 0, none⟩) t_2.2.length cap_12), (.slice (o_18.map fun b => ⟨b, 0, none⟩) t_3.length cap_19)] (by kernel_rfl) (by kernel_rfl) (fun w hm => impl_KeptNotes.calls t_2.1 t_2.2 t_3 w _ (o_6.map fun b => ⟨b, 0, none⟩) t_2.1.fHammers.length cap_7 (hm.ownRow (hh := 0) (o := o_6) (T := 63) (enc := encGHammer) (xs := t_2.1.fHammers) (sp := sp_8) (by kernel_rfl) (fun e => (ho_10 e).1) encGHammer_len) rfl (o_11.map fun b => ⟨b, 0, none⟩) t_2.2.length cap_12 (hm.ownRow (hh := 1) (o := o_11) (T := 56) (enc := encGNote) (xs := t_2.2) (sp := sp_13) (by kernel_rfl) (fun e => (ho_15 e).1) encGNote_len) rfl (o_18.map fun b => ⟨b, 0, none⟩) t_3.length cap_19 (hm.ownRow (hh := 3) (o := o_18) (T := 58) (enc := encGChoice) (xs := t_3) (sp := sp_20) (by kernel_rfl) (fun e => (ho_22 e).1) encGChoice_len) rfl ht_49) ?_)
    rintro w v w' hm ⟨rfl, hm'⟩
    refine ⟨_, hm.app hm', jkO ?_⟩
    clear hm hm'
    refine jo_f [(0, 0), (0, 0), (0, 0), (0, 0), (0, 0)] (by kernel_rfl) ?_
    refine jo_end (by kernel_rfl) ?_
    refine jx_then ?_
    refine jc_seq ?_
    refine jc_region ?_
    refine jo_f [(2, 0)] (by kernel_rfl) ?_
    refine toO (by kernel_rfl) (p_ldA 0 6 b_33 96 1 39 encU32 t_7.1 (by kernel_rfl) (by kernel_rfl) (by kernel_rfl) encU32_len (by kernel_rfl) (jkO ?_))
    obtain ⟨t_14, ht_50, h⟩ := bd h
    refine toO (by kernel_rfl) (p_call 0 17 #[(.agg #[(.int .i16 t_2.1.fSteps), (.slice (o_6.map fun b => ⟨b, 0, none⟩) t_2.1.fHammers.length cap_7)]), (.agg (row encU32 t_7.1.1 []).toArray)] (by kernel_rfl) (by kernel_rfl) (fun w hm => impl_CountPins.calls t_2.1 t_7.1 w _ (o_6.map fun b => ⟨b, 0, none⟩) t_2.1.fHammers.length cap_7 (hm.ownRow (hh := 0) (o := o_6) (T := 63) (enc := encGHammer) (xs := t_2.1.fHammers) (sp := sp_8) (by kernel_rfl) (fun e => (ho_10 e).1) encGHammer_len) rfl ht_50) ?_)
    rintro w v w' hm ⟨rfl, hm'⟩
    refine ⟨_, hm.app hm', jkO ?_⟩
    clear hm hm'
    refine jo_f [(0, 0), (0, 0), (0, 0), (0, 0), (0, 0)] (by kernel_rfl) ?_
    refine jo_end (by kernel_rfl) ?_
    refine jx_then ?_
    refine jc_seq ?_
    refine jc_seq ?_
    refine jc_meet (fun (j : Bool) => match j with | q_15 => laws_FnFits.k_16 t_2 t_3 q_15 = some r) (fun (j : Bool) => match j with | q_15 => [(4, [], (.bool false)), (5, [], (.pointer (some ⟨b_16, 0, none⟩))), (6, [], (.slice (o_11.map fun b => ⟨b, 0, none⟩) t_2.2.length cap_12)), (7, [], (.slice (o_18.map fun b => ⟨b, 0, none⟩) t_3.length cap_19)), (188, [], (.bool q_15))]) (fun (j : Bool) => match j with | q_15 => [⟨o_6, 63, row encGHammer t_2.1.fHammers sp_8⟩, ⟨o_11, 56, row encGNote t_2.2 sp_13⟩, ⟨some b_16, 27, [(.int .i16 t_2.1.fSteps), (.slice (o_6.map fun b => ⟨b, 0, none⟩) t_2.1.fHammers.length cap_7)]⟩, ⟨o_18, 58, row encGChoice t_3 sp_20⟩, ⟨o_25, 58, row encGChoice t_5.1 sp_27⟩, ⟨(some b_31), 39, row encU32 t_6.1.1 []⟩, ⟨(some b_33), 39, row encU32 t_7.1.1 []⟩, ⟨o_38, 56, row encGNote t_11.1 sp_40⟩, ⟨o_44, 56, row encGNote t_12.1 sp_46⟩]) ?_ ?_
    · refine jc_region ?_
      refine jo_f [(0, 0), (0, 0), (0, 0), (0, 1), (0, 1)] (by kernel_rfl) ?_
      refine jo_split 122 (t_5.2 != 0) (by kernel_rfl) (fun hc_7353 => ?_) (fun hc_7353 => ?_)
      · replace h := ifT hc_7353 h
        refine jo_f [(0, 3), (0, 3), (0, 4), (0, 0), (0, 3), (0, 3), (0, 3), (0, 4), (0, 0), (0, 3), (0, 3), (0, 4), (0, 0), (0, 3), (0, 3), (0, 3), (0, 4), (0, 0), (0, 3), (0, 3), (0, 4), (0, 0), (0, 3), (0, 3), (0, 4), (0, 0), (0, 3), (0, 3), (0, 4), (0, 0), (0, 3), (0, 3), (0, 4), (0, 0), (0, 3), (0, 3), (0, 4), (0, 0), (0, 3), (0, 3), (0, 4), (0, 0), (0, 3), (0, 3), (0, 4), (0, 0), (0, 3), (0, 3), (0, 3), (0, 3), (0, 4), (0, 0), (0, 3), (0, 3), (0, 4), (0, 0), (0, 3), (0, 3), (0, 4), (0, 0), (0, 3), (0, 3), (0, 3), (0, 4)] (by kernel_rfl) ?_
        refine jo_end (by kernel_rfl) ?_
        exact jx_meet true h (by kernel_rfl) [0, 1, 2, 3, 4, 5, 6, 7, 8] (by kernel_rfl) (by kernel_rfl)
      · replace h := ifF hc_7353 h
        obtain ⟨t_57, ht_7354, h⟩ := bd h
        refine toO (by kernel_rfl) (p_call 2 18 #[(.slice (o_25.map fun b => ⟨b, 0, none⟩) t_5.1.length cap_26), (.slice (o_18.map fun b => ⟨b, 0, none⟩) t_3.length cap_19)] (by kernel_rfl) (by kernel_rfl) (fun w hm => spec_A2SameChoices.calls t_5.1 t_3 w _ (o_25.map fun b => ⟨b, 0, none⟩) t_5.1.length cap_26 (hm.ownRow (hh := 4) (o := o_25) (T := 58) (enc := encGChoice) (xs := t_5.1) (sp := sp_27) (by kernel_rfl) (fun e => (ho_29 e).1) encGChoice_len) rfl (o_18.map fun b => ⟨b, 0, none⟩) t_3.length cap_19 (hm.ownRow (hh := 3) (o := o_18) (T := 58) (enc := encGChoice) (xs := t_3) (sp := sp_20) (by kernel_rfl) (fun e => (ho_22 e).1) encGChoice_len) rfl ht_7354) ?_)
        rintro w v w' hm ⟨rfl, hm'⟩
        refine ⟨_, hm.app hm', jkO ?_⟩
        clear hm hm'
        refine jo_f [(0, 2), (0, 5), (0, 0), (0, 1), (0, 1), (0, 1), (0, 0), (0, 0), (0, 1), (0, 1), (0, 0), (0, 0)] (by kernel_rfl) ?_
        refine jo_split 137 (((!t_57) || (t_6.2 != t_7.2)) || (t_6.2 != 0)) (by kernel_rfl) (fun hc_7355 => ?_) (fun hc_7355 => ?_)
        · replace h := ifT hc_7355 h
          refine jo_f [(0, 3), (0, 3), (0, 3), (0, 4), (0, 0), (0, 3), (0, 3), (0, 4), (0, 0), (0, 3), (0, 3), (0, 4), (0, 0), (0, 3), (0, 3), (0, 4), (0, 0), (0, 3), (0, 3), (0, 4), (0, 0), (0, 3), (0, 3), (0, 4), (0, 0), (0, 3), (0, 3), (0, 4), (0, 0), (0, 3), (0, 3), (0, 4), (0, 0), (0, 3), (0, 3), (0, 3), (0, 3), (0, 4), (0, 0), (0, 3), (0, 3), (0, 4), (0, 0), (0, 3), (0, 3), (0, 4), (0, 0), (0, 3), (0, 3), (0, 3), (0, 4)] (by kernel_rfl) ?_
          refine jo_end (by kernel_rfl) ?_
          exact jx_meet true h (by kernel_rfl) [0, 1, 2, 3, 4, 5, 6, 7, 8] (by kernel_rfl) (by kernel_rfl)
        · replace h := ifF hc_7355 h
          refine toO (by kernel_rfl) (p_ldA 2 5 b_31 96 1 39 encU32 t_6.1 (by kernel_rfl) (by kernel_rfl) (by kernel_rfl) encU32_len (by kernel_rfl) (jkO ?_))
          refine toO (by kernel_rfl) (p_ldA 2 6 b_33 96 1 39 encU32 t_7.1 (by kernel_rfl) (by kernel_rfl) (by kernel_rfl) encU32_len (by kernel_rfl) (jkO ?_))
          refine toO (by kernel_rfl) (p_eqA 2 true 39 37 96 .u32 encU32 t_6.1 t_7.1 (by kernel_rfl) (by kernel_rfl) Tryz.underlying39 Tryz.underlying37 (fun w => Tryz.sizeOf37 w) (fun w => Tryz.isAgg37 w) (fun _ => rfl) (!(t_6.1.1 == t_7.1.1)) rfl (jkO ?_))
          refine jo_f [(0, 5), (0, 0), (0, 1), (0, 1), (0, 0), (0, 0), (0, 1), (0, 1), (0, 0), (0, 0), (0, 1), (0, 1), (0, 0), (0, 0), (0, 1), (0, 1), (0, 0), (0, 0), (0, 1), (0, 1), (0, 0), (0, 0), (0, 1), (0, 1), (0, 0), (0, 0), (0, 1), (0, 1), (0, 0), (0, 0), (0, 1), (0, 1)] (by kernel_rfl) ?_
          refine jo_split 170 ((((((((!(t_6.1.1 == t_7.1.1)) || (t_8.2 != 0)) || (!t_8.1)) || (t_9.2 != 6)) || (t_10.2 != 0)) || (!t_10.1)) || (t_11.2 != 0)) || (t_12.2 != 0)) (by kernel_rfl) (fun hc_7356 => ?_) (fun hc_7356 => ?_)
          · replace h := ifT hc_7356 h
            refine jo_f [(0, 3), (0, 3), (0, 4), (0, 0), (0, 3), (0, 3), (0, 4), (0, 0), (0, 3), (0, 3), (0, 4), (0, 0), (0, 3), (0, 3), (0, 3), (0, 4)] (by kernel_rfl) ?_
            refine jo_end (by kernel_rfl) ?_
            exact jx_meet true h (by kernel_rfl) [0, 1, 2, 3, 4, 5, 6, 7, 8] (by kernel_rfl) (by kernel_rfl)
          · replace h := ifF hc_7356 h
            obtain ⟨t_58, ht_7357, h⟩ := bd h
            refine toO (by kernel_rfl) (p_call 2 19 #[(.slice (o_38.map fun b => ⟨b, 0, none⟩) t_11.1.length cap_39), (.slice (o_44.map fun b => ⟨b, 0, none⟩) t_12.1.length cap_45)] (by kernel_rfl) (by kernel_rfl) (fun w hm => spec_SameTune.calls t_11.1 t_12.1 w _ (o_38.map fun b => ⟨b, 0, none⟩) t_11.1.length cap_39 (hm.ownRow (hh := 7) (o := o_38) (T := 56) (enc := encGNote) (xs := t_11.1) (sp := sp_40) (by kernel_rfl) (fun e => (ho_42 e).1) encGNote_len) rfl (o_44.map fun b => ⟨b, 0, none⟩) t_12.1.length cap_45 (hm.ownRow (hh := 8) (o := o_44) (T := 56) (enc := encGNote) (xs := t_12.1) (sp := sp_46) (by kernel_rfl) (fun e => (ho_48 e).1) encGNote_len) rfl ht_7357) ?_)
            rintro w v w' hm ⟨rfl, hm'⟩
            refine ⟨_, hm.app hm', jkO ?_⟩
            clear hm hm'
            refine jo_f [(0, 2), (0, 5), (0, 0), (0, 1), (0, 1), (0, 0), (0, 0), (0, 1), (0, 1), (0, 0), (0, 0), (0, 1), (0, 1), (0, 1), (0, 0)] (by kernel_rfl) ?_
            refine jo_end (by kernel_rfl) ?_
            exact jx_meet ((((!t_58) || (t_13.2 != 0)) || (t_14.2 != 0)) || (t_14.1 != t_13.1)) h (by kernel_rfl) [0, 1, 2, 3, 4, 5, 6, 7, 8] (by kernel_rfl) (by kernel_rfl)
    · rintro q_15 h
      replace h : laws_FnFits.k_16 t_2 t_3 q_15 = some r := h
      rw [laws_FnFits.k_16] at h
      refine jx_then ?_
      refine jc_cond q_15 (by kernel_rfl) (fun hc_67 => ?_) (fun hc_67 => ?_)
      · replace h := ifT hc_67 h
        refine jc_seq ?_
        refine jc_region ?_
        refine jo_f [(0, 0)] (by kernel_rfl) ?_
        refine jo_end (by kernel_rfl) ?_
        refine jx_then ?_
        refine jc_ret ?_
        refine jx_thenr ?_
        obtain rfl := Option.some.inj h
        exact jx_ret [] (.bool false) [] rfl (by kernel_rfl) (by kernel_rfl) (fun w hm => ⟨rfl, hm.pick [] (by kernel_rfl) (by kernel_rfl)⟩)
      · replace h := ifF hc_67 h
        refine jc_skip ?_
        refine jx_then ?_
        refine jc_seq ?_
        refine jc_seq ?_
        refine jc_region ?_
        refine jo_f [(0, 0)] (by kernel_rfl) ?_
        refine jo_end (by kernel_rfl) ?_
        refine jx_then ?_
        refine jc_meet (fun (_ : Unit) => laws_FnFits.k_17 t_2 t_3 = some r) (fun (_ : Unit) => [(4, [], (.bool false)), (5, [], (.pointer (some ⟨b_16, 0, none⟩))), (6, [], (.slice (o_11.map fun b => ⟨b, 0, none⟩) t_2.2.length cap_12)), (7, [], (.slice (o_18.map fun b => ⟨b, 0, none⟩) t_3.length cap_19))]) (fun (_ : Unit) => [⟨o_6, 63, row encGHammer t_2.1.fHammers sp_8⟩, ⟨o_11, 56, row encGNote t_2.2 sp_13⟩, ⟨some b_16, 27, [(.int .i16 t_2.1.fSteps), (.slice (o_6.map fun b => ⟨b, 0, none⟩) t_2.1.fHammers.length cap_7)]⟩, ⟨o_18, 58, row encGChoice t_3 sp_20⟩, ⟨o_25, 58, row encGChoice t_5.1 sp_27⟩, ⟨(some b_31), 39, row encU32 t_6.1.1 []⟩, ⟨(some b_33), 39, row encU32 t_7.1.1 []⟩, ⟨o_38, 56, row encGNote t_11.1 sp_40⟩, ⟨o_44, 56, row encGNote t_12.1 sp_46⟩]) ?_ ?_
        · refine jc_block ?_
          obtain ⟨t_22, ht_7352, hr_6742⟩ := bd h
          refine jc_loop (fun (s : Int) (x : Unit) => match s, x with | i_20, _ => True) (fun (s : Int) (x : Unit) => match s, x with | i_20, _ => [(4, [], (.bool false)), (5, [], (.pointer (some ⟨b_16, 0, none⟩))), (6, [], (.slice (o_11.map fun b => ⟨b, 0, none⟩) t_2.2.length cap_12)), (7, [], (.slice (o_18.map fun b => ⟨b, 0, none⟩) t_3.length cap_19)), (28, [], (.int .i64 i_20))]) (fun (s : Int) (x : Unit) => match s, x with | i_20, _ => [⟨o_6, 63, row encGHammer t_2.1.fHammers sp_8⟩, ⟨o_11, 56, row encGNote t_2.2 sp_13⟩, ⟨some b_16, 27, [(.int .i16 t_2.1.fSteps), (.slice (o_6.map fun b => ⟨b, 0, none⟩) t_2.1.fHammers.length cap_7)]⟩, ⟨o_18, 58, row encGChoice t_3 sp_20⟩, ⟨o_25, 58, row encGChoice t_5.1 sp_27⟩, ⟨(some b_31), 39, row encU32 t_6.1.1 []⟩, ⟨(some b_33), 39, row encU32 t_7.1.1 []⟩, ⟨o_38, 56, row encGNote t_11.1 sp_40⟩, ⟨o_44, 56, row encGNote t_12.1 sp_46⟩]) ht_7352 () trivial (by kernel_rfl) [0, 1, 2, 3, 4, 5, 6, 7, 8] (by kernel_rfl) (by kernel_rfl) ?_
          rintro i_20 _ y_6743 _ h
          rw [laws_FnFits.l_21] at h
          refine jc_seq ?_
          refine jc_seq ?_
          refine jc_region ?_
          refine jo_f [(0, 0), (0, 0), (0, 0), (0, 0)] (by kernel_rfl) ?_
          refine jo_end (by kernel_rfl) ?_
          refine jx_then ?_
          refine jc_cond (decide (i_20 < (t_2.2.length : Int))) (by kernel_rfl) (fun hc_6745 => ?_) (fun hc_6745 => ?_)
          · replace h := ifT hc_6745 h
            refine jc_skip ?_
            refine jx_then ?_
            refine jc_seq ?_
            refine jc_block ?_
            refine jc_seq ?_
            refine jc_draw [⟨o_6, 63, row encGHammer t_2.1.fHammers sp_8⟩, ⟨o_11, 56, row encGNote t_2.2 sp_13⟩, ⟨some b_16, 27, [(.int .i16 t_2.1.fSteps), (.slice (o_6.map fun b => ⟨b, 0, none⟩) t_2.1.fHammers.length cap_7)]⟩, ⟨o_18, 58, row encGChoice t_3 sp_20⟩, ⟨o_25, 58, row encGChoice t_5.1 sp_27⟩, ⟨(some b_31), 39, row encU32 t_6.1.1 []⟩, ⟨(some b_33), 39, row encU32 t_7.1.1 []⟩, ⟨o_38, 56, row encGNote t_11.1 sp_40⟩, ⟨o_44, 56, row encGNote t_12.1 sp_46⟩] 11 (by kernel_rfl) (by kernel_rfl) ?_
            refine jd_f [⟨0, 2, 0⟩, ⟨1, 0, 0⟩, ⟨2, 0, 0⟩] 8 (by kernel_rfl) (by kernel_rfl) (fun w h => h.pick [0, 1, 2, 3, 4, 5, 6, 7, 8] (by kernel_rfl) (by kernel_rfl)) (by kernel_rfl) (by kernel_rfl) ?_
            obtain ⟨x_23, hx_6746, h⟩ := bd h
            refine jd_v 3 0 (by kernel_rfl) (fun w h => h.pick [0, 1, 2, 3, 4, 5, 6, 7, 8] (by kernel_rfl) (by kernel_rfl)) (by kernel_rfl) (by kernel_rfl) _ (fun w hm => idx_run (a := (o_11.map fun b => ⟨b, 0, none⟩)) (len := t_2.2.length) (s := 2) (j := i_20) (by kernel_rfl) (ix_some hx_6746).1 (ltn hx_6746 rfl) (spo ho_15 hx_6746)) ?_
            refine jd_v 4 0 (by kernel_rfl) (fun w h => h.pick [0, 1, 2, 3, 4, 5, 6, 7, 8] (by kernel_rfl) (by kernel_rfl)) (by kernel_rfl) (by kernel_rfl) _ (fun w hm => ld_run (b := aB (o_11.map fun b => ⟨b, 0, none⟩)) (off := (aO (o_11.map fun b => ⟨b, 0, none⟩) + i_20.toNat * 2)) (s := 2) (agg := true) (vs := (encGNote x_23)) (by kernel_rfl) (by kernel_rfl) (.inl rfl) ((hm.ownRow (hh := 1) (o := o_11) (T := 56) (enc := encGNote) (xs := t_2.2) (sp := sp_13) (by kernel_rfl) (fun e => (ho_15 e).1) encGNote_len).at hx_6746)) ?_
            obtain ⟨t_24, ht_6747, h⟩ := bd h
            refine toD 5 (by kernel_rfl) (p_call 0 20 #[(.agg #[(.int .i16 t_2.1.fSteps), (.slice (o_6.map fun b => ⟨b, 0, none⟩) t_2.1.fHammers.length cap_7)]), (.agg #[(.int .i16 x_23.fAt), (.int .i8 x_23.fPitch)])] (by kernel_rfl) (by kernel_rfl) (fun w hm => impl_ChoicesFor.calls t_2.1 x_23 w _ (o_6.map fun b => ⟨b, 0, none⟩) t_2.1.fHammers.length cap_7 (hm.ownRow (hh := 0) (o := o_6) (T := 63) (enc := encGHammer) (xs := t_2.1.fHammers) (sp := sp_8) (by kernel_rfl) (fun e => (ho_10 e).1) encGHammer_len) rfl ht_6747) ?_)
            rintro w v w' hm ⟨o_6748, cap_6749, sp_6750, _, rfl, hs_6751, ho_6752, rfl, hm'⟩
            refine ⟨_, hm.app hm', jkD (fun w h => h.pick [0, 1, 2, 3, 4, 5, 6, 7, 8] (by kernel_rfl) (by kernel_rfl)) ?_⟩
            clear hm hm'
            refine jd_f [⟨6, 0, 0⟩, ⟨7, 0, 0⟩, ⟨8, 0, 0⟩, ⟨9, 0, 0⟩, ⟨10, 0, 0⟩] 0 (by kernel_rfl) (by kernel_rfl) (fun w h => h.pick [0, 1, 2, 3, 4, 5, 6, 7, 8] (by kernel_rfl) (by kernel_rfl)) (by kernel_rfl) (by kernel_rfl) ?_
            refine jd_end (by kernel_rfl) ?_
            refine jx_then ?_
            refine jc_seq ?_
            refine jc_draw [⟨o_6, 63, row encGHammer t_2.1.fHammers sp_8⟩, ⟨o_11, 56, row encGNote t_2.2 sp_13⟩, ⟨some b_16, 27, [(.int .i16 t_2.1.fSteps), (.slice (o_6.map fun b => ⟨b, 0, none⟩) t_2.1.fHammers.length cap_7)]⟩, ⟨o_18, 58, row encGChoice t_3 sp_20⟩, ⟨o_25, 58, row encGChoice t_5.1 sp_27⟩, ⟨(some b_31), 39, row encU32 t_6.1.1 []⟩, ⟨(some b_33), 39, row encU32 t_7.1.1 []⟩, ⟨o_38, 56, row encGNote t_11.1 sp_40⟩, ⟨o_44, 56, row encGNote t_12.1 sp_46⟩, ⟨o_6748, 58, row encGChoice t_24.1 sp_6750⟩] 11 (by kernel_rfl) (by kernel_rfl) ?_
            refine jd_f [⟨0, 2, 0⟩, ⟨1, 0, 0⟩, ⟨2, 0, 0⟩] 8 (by kernel_rfl) (by kernel_rfl) (fun w h => h.pick [0, 1, 2, 3, 4, 5, 6, 7, 8, 9] (by kernel_rfl) (by kernel_rfl)) (by kernel_rfl) (by kernel_rfl) ?_
            obtain ⟨x_25, hx_6753, h⟩ := bd h
            refine jd_v 3 0 (by kernel_rfl) (fun w h => h.pick [0, 1, 2, 3, 4, 5, 6, 7, 8, 9] (by kernel_rfl) (by kernel_rfl)) (by kernel_rfl) (by kernel_rfl) _ (fun w hm => idx_run (a := (o_11.map fun b => ⟨b, 0, none⟩)) (len := t_2.2.length) (s := 2) (j := i_20) (by kernel_rfl) (ix_some hx_6753).1 (ltn hx_6753 rfl) (spo ho_15 hx_6753)) ?_
            refine jd_v 4 0 (by kernel_rfl) (fun w h => h.pick [0, 1, 2, 3, 4, 5, 6, 7, 8, 9] (by kernel_rfl) (by kernel_rfl)) (by kernel_rfl) (by kernel_rfl) _ (fun w hm => ld_run (b := aB (o_11.map fun b => ⟨b, 0, none⟩)) (off := (aO (o_11.map fun b => ⟨b, 0, none⟩) + i_20.toNat * 2)) (s := 2) (agg := true) (vs := (encGNote x_25)) (by kernel_rfl) (by kernel_rfl) (.inl rfl) ((hm.ownRow (hh := 1) (o := o_11) (T := 56) (enc := encGNote) (xs := t_2.2) (sp := sp_13) (by kernel_rfl) (fun e => (ho_15 e).1) encGNote_len).at hx_6753)) ?_
            obtain ⟨t_26, ht_6754, h⟩ := bd h
            refine toD 5 (by kernel_rfl) (p_call 0 21 #[(.agg #[(.int .i16 t_2.1.fSteps), (.slice (o_6.map fun b => ⟨b, 0, none⟩) t_2.1.fHammers.length cap_7)]), (.agg #[(.int .i16 x_25.fAt), (.int .i8 x_25.fPitch)])] (by kernel_rfl) (by kernel_rfl) (fun w hm => spec_ChoicesFor.calls t_2.1 x_25 w _ (o_6.map fun b => ⟨b, 0, none⟩) t_2.1.fHammers.length cap_7 (hm.ownRow (hh := 0) (o := o_6) (T := 63) (enc := encGHammer) (xs := t_2.1.fHammers) (sp := sp_8) (by kernel_rfl) (fun e => (ho_10 e).1) encGHammer_len) rfl ht_6754) ?_)
            rintro w v w' hm ⟨o_6755, cap_6756, sp_6757, _, rfl, hs_6758, ho_6759, rfl, hm'⟩
            refine ⟨_, hm.app hm', jkD (fun w h => h.pick [0, 1, 2, 3, 4, 5, 6, 7, 8, 9] (by kernel_rfl) (by kernel_rfl)) ?_⟩
            clear hm hm'
            refine jd_f [⟨6, 0, 0⟩, ⟨7, 0, 0⟩, ⟨8, 0, 0⟩, ⟨9, 0, 0⟩, ⟨10, 0, 0⟩] 0 (by kernel_rfl) (by kernel_rfl) (fun w h => h.pick [0, 1, 2, 3, 4, 5, 6, 7, 8, 9] (by kernel_rfl) (by kernel_rfl)) (by kernel_rfl) (by kernel_rfl) ?_
            refine jd_end (by kernel_rfl) ?_
            refine jx_then ?_
            refine jc_seq ?_
            refine jc_seq ?_
            refine jc_meet (fun (j : Bool) => match j with | q_27 => laws_FnFits.k_28 t_2 t_3 i_20 t_26 q_27 = some y_6743) (fun (j : Bool) => match j with | q_27 => [(4, [], (.bool false)), (5, [], (.pointer (some ⟨b_16, 0, none⟩))), (6, [], (.slice (o_11.map fun b => ⟨b, 0, none⟩) t_2.2.length cap_12)), (7, [], (.slice (o_18.map fun b => ⟨b, 0, none⟩) t_3.length cap_19)), (28, [], (.int .i64 i_20)), (31, [], (.slice (o_6755.map fun b => ⟨b, 0, none⟩) t_26.1.length cap_6756)), (240, [], (.bool q_27))]) (fun (j : Bool) => match j with | q_27 => [⟨o_6, 63, row encGHammer t_2.1.fHammers sp_8⟩, ⟨o_11, 56, row encGNote t_2.2 sp_13⟩, ⟨some b_16, 27, [(.int .i16 t_2.1.fSteps), (.slice (o_6.map fun b => ⟨b, 0, none⟩) t_2.1.fHammers.length cap_7)]⟩, ⟨o_18, 58, row encGChoice t_3 sp_20⟩, ⟨o_25, 58, row encGChoice t_5.1 sp_27⟩, ⟨(some b_31), 39, row encU32 t_6.1.1 []⟩, ⟨(some b_33), 39, row encU32 t_7.1.1 []⟩, ⟨o_38, 56, row encGNote t_11.1 sp_40⟩, ⟨o_44, 56, row encGNote t_12.1 sp_46⟩, ⟨o_6748, 58, row encGChoice t_24.1 sp_6750⟩, ⟨o_6755, 58, row encGChoice t_26.1 sp_6757⟩]) ?_ ?_
            · refine jc_region ?_
              refine jo_f [(0, 0), (0, 0), (0, 0), (0, 0), (0, 1), (0, 1), (0, 0), (0, 0), (0, 1), (0, 1)] (by kernel_rfl) ?_
              refine jo_split 220 ((t_24.2 != t_26.2) || (t_24.2 != 0)) (by kernel_rfl) (fun hc_7347 => ?_) (fun hc_7347 => ?_)
              · replace h := ifT hc_7347 h
                refine jo_f [(0, 3), (0, 3), (0, 4), (0, 0), (0, 3), (0, 3), (0, 3), (0, 4), (0, 0), (0, 3), (0, 3), (0, 3), (0, 3), (0, 3), (0, 3), (0, 3), (0, 3), (0, 4)] (by kernel_rfl) ?_
                refine jo_end (by kernel_rfl) ?_
                exact jx_meet true h (by kernel_rfl) [0, 1, 2, 3, 4, 5, 6, 7, 8, 9, 10] (by kernel_rfl) (by kernel_rfl)
              · replace h := ifF hc_7347 h
                obtain ⟨t_55, ht_7348, h⟩ := bd h
                refine toO (by kernel_rfl) (p_call 2 18 #[(.slice (o_6748.map fun b => ⟨b, 0, none⟩) t_24.1.length cap_6749), (.slice (o_6755.map fun b => ⟨b, 0, none⟩) t_26.1.length cap_6756)] (by kernel_rfl) (by kernel_rfl) (fun w hm => spec_A2SameChoices.calls t_24.1 t_26.1 w _ (o_6748.map fun b => ⟨b, 0, none⟩) t_24.1.length cap_6749 (hm.ownRow (hh := 9) (o := o_6748) (T := 58) (enc := encGChoice) (xs := t_24.1) (sp := sp_6750) (by kernel_rfl) (fun e => (ho_6752 e).1) encGChoice_len) rfl (o_6755.map fun b => ⟨b, 0, none⟩) t_26.1.length cap_6756 (hm.ownRow (hh := 10) (o := o_6755) (T := 58) (enc := encGChoice) (xs := t_26.1) (sp := sp_6757) (by kernel_rfl) (fun e => (ho_6759 e).1) encGChoice_len) rfl ht_7348) ?_)
                rintro w v w' hm ⟨rfl, hm'⟩
                refine ⟨_, hm.app hm', jkO ?_⟩
                clear hm hm'
                refine jo_f [(0, 2), (0, 5), (0, 0), (0, 1), (0, 1), (0, 1), (0, 0), (0, 0), (0, 1), (0, 1), (0, 1), (0, 1)] (by kernel_rfl) ?_
                refine jo_split 231 ((!t_55) || ((t_26.1.length : Int) == 0)) (by kernel_rfl) (fun hc_7349 => ?_) (fun hc_7349 => ?_)
                · replace h := ifT hc_7349 h
                  refine jo_f [(0, 3), (0, 3), (0, 3), (0, 3), (0, 4)] (by kernel_rfl) ?_
                  refine jo_end (by kernel_rfl) ?_
                  exact jx_meet true h (by kernel_rfl) [0, 1, 2, 3, 4, 5, 6, 7, 8, 9, 10] (by kernel_rfl) (by kernel_rfl)
                · replace h := ifF hc_7349 h
                  obtain ⟨x_56, hx_7350, h⟩ := bd h
                  refine toO (by kernel_rfl) (p_idx 2 (o_6755.map fun b => ⟨b, 0, none⟩) t_26.1.length (w64 ((t_26.1.length : Int) - 1)) 4 (by kernel_rfl) (by kernel_rfl) (ix_some hx_7350).1 (ltn hx_7350 rfl) (spo ho_6759 hx_7350) (jkO ?_))
                  refine jo_f [(0, 2)] (by kernel_rfl) ?_
                  refine toO (by kernel_rfl) (p_ld 2 (aB (o_6755.map fun b => ⟨b, 0, none⟩)) (aO (o_6755.map fun b => ⟨b, 0, none⟩) + (w64 ((t_26.1.length : Int) - 1)).toNat * 4) false (((encGChoice x_56).drop 0).take 1) (by kernel_rfl) (by kernel_rfl) (by kernel_rfl) (fun w hm => (((hm.ownRow (hh := 10) (o := o_6755) (T := 58) (enc := encGChoice) (xs := t_26.1) (sp := sp_6757) (by kernel_rfl) (fun e => (ho_6759 e).1) encGChoice_len).at hx_7350).sub 0 1)) (jkO ?_))
                  refine jo_f [(0, 2), (0, 5)] (by kernel_rfl) ?_
                  refine jo_end (by kernel_rfl) ?_
                  exact jx_meet (!x_56.fAway) h (by kernel_rfl) [0, 1, 2, 3, 4, 5, 6, 7, 8, 9, 10] (by kernel_rfl) (by kernel_rfl)
            · rintro q_27 h
              replace h : laws_FnFits.k_28 t_2 t_3 i_20 t_26 q_27 = some y_6743 := h
              rw [laws_FnFits.k_28] at h
              refine jx_then ?_
              refine jc_cond q_27 (by kernel_rfl) (fun hc_6773 => ?_) (fun hc_6773 => ?_)
              · replace h := ifT hc_6773 h
                refine jc_seq ?_
                refine jc_region ?_
                refine jo_f [(0, 0)] (by kernel_rfl) ?_
                refine jo_end (by kernel_rfl) ?_
                refine jx_then ?_
                refine jc_ret ?_
                refine jx_thenr ?_
                refine jx_inr ?_
                refine jx_thenr ?_
                refine jx_leaver (.inl false) (Option.some.inj h).symm (fun e_6774 => ?_)
                subst e_6774
                refine jx_inr ?_
                refine jx_thenr ?_
                refine jx_thenr ?_
                obtain rfl := Option.some.inj hr_6742
                exact jx_ret [] (.bool false) [] rfl (by kernel_rfl) (by kernel_rfl) (fun w hm => ⟨rfl, hm.pick [] (by kernel_rfl) (by kernel_rfl)⟩)
              · replace h := ifF hc_6773 h
                refine jc_skip ?_
                refine jx_then ?_
                refine jc_seq ?_
                refine jc_region ?_
                refine jo_f [(0, 0)] (by kernel_rfl) ?_
                refine jo_end (by kernel_rfl) ?_
                refine jx_then ?_
                refine jc_seq ?_
                refine jc_seq ?_
                refine jc_region ?_
                refine jo_f [(0, 0)] (by kernel_rfl) ?_
                refine jo_end (by kernel_rfl) ?_
                refine jx_then ?_
                refine jc_meet (fun (j : Bool) => match j with | q_29 => laws_FnFits.k_30 i_20 q_29 = some y_6743) (fun (j : Bool) => match j with | q_29 => [(4, [], (.bool false)), (5, [], (.pointer (some ⟨b_16, 0, none⟩))), (6, [], (.slice (o_11.map fun b => ⟨b, 0, none⟩) t_2.2.length cap_12)), (7, [], (.slice (o_18.map fun b => ⟨b, 0, none⟩) t_3.length cap_19)), (28, [], (.int .i64 i_20)), (33, [], (.bool q_29))]) (fun (j : Bool) => match j with | q_29 => [⟨o_6, 63, row encGHammer t_2.1.fHammers sp_8⟩, ⟨o_11, 56, row encGNote t_2.2 sp_13⟩, ⟨some b_16, 27, [(.int .i16 t_2.1.fSteps), (.slice (o_6.map fun b => ⟨b, 0, none⟩) t_2.1.fHammers.length cap_7)]⟩, ⟨o_18, 58, row encGChoice t_3 sp_20⟩, ⟨o_25, 58, row encGChoice t_5.1 sp_27⟩, ⟨(some b_31), 39, row encU32 t_6.1.1 []⟩, ⟨(some b_33), 39, row encU32 t_7.1.1 []⟩, ⟨o_38, 56, row encGNote t_11.1 sp_40⟩, ⟨o_44, 56, row encGNote t_12.1 sp_46⟩, ⟨o_6748, 58, row encGChoice t_24.1 sp_6750⟩, ⟨o_6755, 58, row encGChoice t_26.1 sp_6757⟩]) ?_ ?_
                · refine jc_block ?_
                  obtain ⟨t_34, ht_7346, hr_7293⟩ := bd h
                  refine jc_loop (fun (s : Bool × Int) (x : Unit) => match s, x with | ⟨q_31, i_32⟩, _ => True) (fun (s : Bool × Int) (x : Unit) => match s, x with | ⟨q_31, i_32⟩, _ => [(4, [], (.bool false)), (5, [], (.pointer (some ⟨b_16, 0, none⟩))), (6, [], (.slice (o_11.map fun b => ⟨b, 0, none⟩) t_2.2.length cap_12)), (7, [], (.slice (o_18.map fun b => ⟨b, 0, none⟩) t_3.length cap_19)), (28, [], (.int .i64 i_20)), (31, [], (.slice (o_6755.map fun b => ⟨b, 0, none⟩) t_26.1.length cap_6756)), (33, [], (.bool q_31)), (34, [], (.int .i64 i_32))]) (fun (s : Bool × Int) (x : Unit) => match s, x with | ⟨q_31, i_32⟩, _ => [⟨o_6, 63, row encGHammer t_2.1.fHammers sp_8⟩, ⟨o_11, 56, row encGNote t_2.2 sp_13⟩, ⟨some b_16, 27, [(.int .i16 t_2.1.fSteps), (.slice (o_6.map fun b => ⟨b, 0, none⟩) t_2.1.fHammers.length cap_7)]⟩, ⟨o_18, 58, row encGChoice t_3 sp_20⟩, ⟨o_25, 58, row encGChoice t_5.1 sp_27⟩, ⟨(some b_31), 39, row encU32 t_6.1.1 []⟩, ⟨(some b_33), 39, row encU32 t_7.1.1 []⟩, ⟨o_38, 56, row encGNote t_11.1 sp_40⟩, ⟨o_44, 56, row encGNote t_12.1 sp_46⟩, ⟨o_6748, 58, row encGChoice t_24.1 sp_6750⟩, ⟨o_6755, 58, row encGChoice t_26.1 sp_6757⟩]) ht_7346 () trivial (by kernel_rfl) [0, 1, 2, 3, 4, 5, 6, 7, 8, 9, 10] (by kernel_rfl) (by kernel_rfl) ?_
                  rintro ⟨q_31, i_32⟩ _ y_7294 _ h
                  rw [laws_FnFits.l_33] at h
                  refine jc_seq ?_
                  refine jc_seq ?_
                  refine jc_region ?_
                  refine jo_f [(0, 0), (0, 0), (0, 0), (0, 0)] (by kernel_rfl) ?_
                  refine jo_end (by kernel_rfl) ?_
                  refine jx_then ?_
                  refine jc_cond (decide (i_32 < (t_26.1.length : Int))) (by kernel_rfl) (fun hc_7296 => ?_) (fun hc_7296 => ?_)
                  · replace h := ifT hc_7296 h
                    refine jc_skip ?_
                    refine jx_then ?_
                    refine jc_seq ?_
                    refine jc_block ?_
                    refine jc_seq ?_
                    refine jc_meet (fun (j : Bool) => match j with | q_35 => laws_FnFits.k_36 t_2 i_20 t_26 i_32 q_35 = some y_7294) (fun (j : Bool) => match j with | q_35 => [(4, [], (.bool false)), (5, [], (.pointer (some ⟨b_16, 0, none⟩))), (6, [], (.slice (o_11.map fun b => ⟨b, 0, none⟩) t_2.2.length cap_12)), (7, [], (.slice (o_18.map fun b => ⟨b, 0, none⟩) t_3.length cap_19)), (28, [], (.int .i64 i_20)), (31, [], (.slice (o_6755.map fun b => ⟨b, 0, none⟩) t_26.1.length cap_6756)), (33, [], (.bool q_35)), (34, [], (.int .i64 i_32))]) (fun (j : Bool) => match j with | q_35 => [⟨o_6, 63, row encGHammer t_2.1.fHammers sp_8⟩, ⟨o_11, 56, row encGNote t_2.2 sp_13⟩, ⟨some b_16, 27, [(.int .i16 t_2.1.fSteps), (.slice (o_6.map fun b => ⟨b, 0, none⟩) t_2.1.fHammers.length cap_7)]⟩, ⟨o_18, 58, row encGChoice t_3 sp_20⟩, ⟨o_25, 58, row encGChoice t_5.1 sp_27⟩, ⟨(some b_31), 39, row encU32 t_6.1.1 []⟩, ⟨(some b_33), 39, row encU32 t_7.1.1 []⟩, ⟨o_38, 56, row encGNote t_11.1 sp_40⟩, ⟨o_44, 56, row encGNote t_12.1 sp_46⟩, ⟨o_6748, 58, row encGChoice t_24.1 sp_6750⟩, ⟨o_6755, 58, row encGChoice t_26.1 sp_6757⟩]) ?_ ?_
                    · refine jc_draw [⟨o_6, 63, row encGHammer t_2.1.fHammers sp_8⟩, ⟨o_11, 56, row encGNote t_2.2 sp_13⟩, ⟨some b_16, 27, [(.int .i16 t_2.1.fSteps), (.slice (o_6.map fun b => ⟨b, 0, none⟩) t_2.1.fHammers.length cap_7)]⟩, ⟨o_18, 58, row encGChoice t_3 sp_20⟩, ⟨o_25, 58, row encGChoice t_5.1 sp_27⟩, ⟨(some b_31), 39, row encU32 t_6.1.1 []⟩, ⟨(some b_33), 39, row encU32 t_7.1.1 []⟩, ⟨o_38, 56, row encGNote t_11.1 sp_40⟩, ⟨o_44, 56, row encGNote t_12.1 sp_46⟩, ⟨o_6748, 58, row encGChoice t_24.1 sp_6750⟩, ⟨o_6755, 58, row encGChoice t_26.1 sp_6757⟩] 13 (by kernel_rfl) (by kernel_rfl) ?_
                      refine jd_f [⟨0, 0, 0⟩, ⟨1, 0, 0⟩, ⟨2, 0, 1⟩, ⟨3, 0, 1⟩, ⟨6, 0, 1⟩, ⟨7, 0, 1⟩] 7 (by kernel_rfl) (by kernel_rfl) (fun w h => h.pick [0, 1, 2, 3, 4, 5, 6, 7, 8, 9, 10] (by kernel_rfl) (by kernel_rfl)) (by kernel_rfl) (by kernel_rfl) ?_
                      refine jd_split 248 q_31 (by kernel_rfl) (fun hc_7342 => ?_) (fun hc_7342 => ?_)
                      · replace h := ifT hc_7342 h
                        refine jd_f [⟨4, 0, 3⟩, ⟨5, 0, 3⟩, ⟨8, 0, 3⟩, ⟨9, 0, 3⟩, ⟨10, 0, 3⟩, ⟨11, 0, 4⟩, ⟨12, 0, 0⟩] 0 (by kernel_rfl) (by kernel_rfl) (fun w h => h.pick [0, 1, 2, 3, 4, 5, 6, 7, 8, 9, 10] (by kernel_rfl) (by kernel_rfl)) (by kernel_rfl) (by kernel_rfl) ?_
                        refine jd_end (by kernel_rfl) ?_
                        exact jx_meet true h (by kernel_rfl) [0, 1, 2, 3, 4, 5, 6, 7, 8, 9, 10] (by kernel_rfl) (by kernel_rfl)
                      · replace h := ifF hc_7342 h
                        obtain ⟨x_53, hx_7343, h⟩ := bd h
                        refine jd_v 4 2 (by kernel_rfl) (fun w h => h.pick [0, 1, 2, 3, 4, 5, 6, 7, 8, 9, 10] (by kernel_rfl) (by kernel_rfl)) (by kernel_rfl) (by kernel_rfl) _ (fun w hm => idx_run (a := (o_6755.map fun b => ⟨b, 0, none⟩)) (len := t_26.1.length) (s := 4) (j := i_32) (by kernel_rfl) (ix_some hx_7343).1 (ltn hx_7343 rfl) (spo ho_6759 hx_7343)) ?_
                        refine jd_v 5 2 (by kernel_rfl) (fun w h => h.pick [0, 1, 2, 3, 4, 5, 6, 7, 8, 9, 10] (by kernel_rfl) (by kernel_rfl)) (by kernel_rfl) (by kernel_rfl) _ (fun w hm => ld_run (b := aB (o_6755.map fun b => ⟨b, 0, none⟩)) (off := (aO (o_6755.map fun b => ⟨b, 0, none⟩) + i_32.toNat * 4)) (s := 4) (agg := true) (vs := (encGChoice x_53)) (by kernel_rfl) (by kernel_rfl) (.inl rfl) ((hm.ownRow (hh := 10) (o := o_6755) (T := 58) (enc := encGChoice) (xs := t_26.1) (sp := sp_6757) (by kernel_rfl) (fun e => (ho_6759 e).1) encGChoice_len).at hx_7343)) ?_
                        obtain ⟨x_54, hx_7344, h⟩ := bd h
                        refine jd_v 8 2 (by kernel_rfl) (fun w h => h.pick [0, 1, 2, 3, 4, 5, 6, 7, 8, 9, 10] (by kernel_rfl) (by kernel_rfl)) (by kernel_rfl) (by kernel_rfl) _ (fun w hm => idx_run (a := (o_18.map fun b => ⟨b, 0, none⟩)) (len := t_3.length) (s := 4) (j := i_20) (by kernel_rfl) (ix_some hx_7344).1 (ltn hx_7344 rfl) (spo ho_22 hx_7344)) ?_
                        refine jd_v 9 2 (by kernel_rfl) (fun w h => h.pick [0, 1, 2, 3, 4, 5, 6, 7, 8, 9, 10] (by kernel_rfl) (by kernel_rfl)) (by kernel_rfl) (by kernel_rfl) _ (fun w hm => ld_run (b := aB (o_18.map fun b => ⟨b, 0, none⟩)) (off := (aO (o_18.map fun b => ⟨b, 0, none⟩) + i_20.toNat * 4)) (s := 4) (agg := true) (vs := (encGChoice x_54)) (by kernel_rfl) (by kernel_rfl) (.inl rfl) ((hm.ownRow (hh := 3) (o := o_18) (T := 58) (enc := encGChoice) (xs := t_3) (sp := sp_20) (by kernel_rfl) (fun e => (ho_22 e).1) encGChoice_len).at hx_7344)) ?_
                        refine jd_f [⟨10, 0, 2⟩, ⟨11, 0, 5⟩, ⟨12, 0, 0⟩] 0 (by kernel_rfl) (by kernel_rfl) (fun w h => h.pick [0, 1, 2, 3, 4, 5, 6, 7, 8, 9, 10] (by kernel_rfl) (by kernel_rfl)) (by kernel_rfl) (by kernel_rfl) ?_
                        refine jd_end (by kernel_rfl) ?_
                        exact jx_meet ((x_53.fAway == x_54.fAway) && ((x_53.fLate == x_54.fLate) && ((x_53.fOctave == x_54.fOctave) && (x_53.fTrack == x_54.fTrack)))) h (by kernel_rfl) [0, 1, 2, 3, 4, 5, 6, 7, 8, 9, 10] (by kernel_rfl) (by kernel_rfl)
                    · rintro q_35 h
                      replace h : laws_FnFits.k_36 t_2 i_20 t_26 i_32 q_35 = some y_7294 := h
                      rw [laws_FnFits.k_36] at h
                      refine jx_then ?_
                      refine jc_seq ?_
                      refine jc_meet (fun (j : Int × Int × Int × Nat) => match j with | ⟨i_37, i_38, i_39, b_7306⟩ => laws_FnFits.k_40 t_2 t_26 i_32 q_35 i_37 i_38 i_39 = some y_7294) (fun (j : Int × Int × Int × Nat) => match j with | ⟨i_37, i_38, i_39, b_7306⟩ => [(4, [], (.bool false)), (5, [], (.pointer (some ⟨b_16, 0, none⟩))), (6, [], (.slice (o_11.map fun b => ⟨b, 0, none⟩) t_2.2.length cap_12)), (7, [], (.slice (o_18.map fun b => ⟨b, 0, none⟩) t_3.length cap_19)), (28, [], (.int .i64 i_20)), (31, [], (.slice (o_6755.map fun b => ⟨b, 0, none⟩) t_26.1.length cap_6756)), (33, [], (.bool q_35)), (34, [], (.int .i64 i_32)), (35, [], (.pointer (some ⟨b_7306, 0, none⟩))), (36, [], (.int .i64 i_39))]) (fun (j : Int × Int × Int × Nat) => match j with | ⟨i_37, i_38, i_39, b_7306⟩ => [⟨o_6, 63, row encGHammer t_2.1.fHammers sp_8⟩, ⟨o_11, 56, row encGNote t_2.2 sp_13⟩, ⟨some b_16, 27, [(.int .i16 t_2.1.fSteps), (.slice (o_6.map fun b => ⟨b, 0, none⟩) t_2.1.fHammers.length cap_7)]⟩, ⟨o_18, 58, row encGChoice t_3 sp_20⟩, ⟨o_25, 58, row encGChoice t_5.1 sp_27⟩, ⟨(some b_31), 39, row encU32 t_6.1.1 []⟩, ⟨(some b_33), 39, row encU32 t_7.1.1 []⟩, ⟨o_38, 56, row encGNote t_11.1 sp_40⟩, ⟨o_44, 56, row encGNote t_12.1 sp_46⟩, ⟨o_6748, 58, row encGChoice t_24.1 sp_6750⟩, ⟨o_6755, 58, row encGChoice t_26.1 sp_6757⟩, ⟨some b_7306, 56, [(.int .i16 i_37), (.int .i8 i_38)]⟩]) ?_ ?_
                      · refine jc_draw [⟨o_6, 63, row encGHammer t_2.1.fHammers sp_8⟩, ⟨o_11, 56, row encGNote t_2.2 sp_13⟩, ⟨some b_16, 27, [(.int .i16 t_2.1.fSteps), (.slice (o_6.map fun b => ⟨b, 0, none⟩) t_2.1.fHammers.length cap_7)]⟩, ⟨o_18, 58, row encGChoice t_3 sp_20⟩, ⟨o_25, 58, row encGChoice t_5.1 sp_27⟩, ⟨(some b_31), 39, row encU32 t_6.1.1 []⟩, ⟨(some b_33), 39, row encU32 t_7.1.1 []⟩, ⟨o_38, 56, row encGNote t_11.1 sp_40⟩, ⟨o_44, 56, row encGNote t_12.1 sp_46⟩, ⟨o_6748, 58, row encGChoice t_24.1 sp_6750⟩, ⟨o_6755, 58, row encGChoice t_26.1 sp_6757⟩] 15 (by kernel_rfl) (by kernel_rfl) ?_
                        refine jd_f [⟨0, 0, 0⟩, ⟨1, 0, 0⟩, ⟨4, 0, 0⟩, ⟨5, 0, 0⟩] 11 (by kernel_rfl) (by kernel_rfl) (fun w h => h.pick [0, 1, 2, 3, 4, 5, 6, 7, 8, 9, 10] (by kernel_rfl) (by kernel_rfl)) (by kernel_rfl) (by kernel_rfl) ?_
                        obtain ⟨x_50, hx_7336, h⟩ := bd h
                        refine jd_v 2 0 (by kernel_rfl) (fun w h => h.pick [0, 1, 2, 3, 4, 5, 6, 7, 8, 9, 10] (by kernel_rfl) (by kernel_rfl)) (by kernel_rfl) (by kernel_rfl) _ (fun w hm => idx_run (a := (o_11.map fun b => ⟨b, 0, none⟩)) (len := t_2.2.length) (s := 2) (j := i_20) (by kernel_rfl) (ix_some hx_7336).1 (ltn hx_7336 rfl) (spo ho_15 hx_7336)) ?_
                        refine jd_v 3 0 (by kernel_rfl) (fun w h => h.pick [0, 1, 2, 3, 4, 5, 6, 7, 8, 9, 10] (by kernel_rfl) (by kernel_rfl)) (by kernel_rfl) (by kernel_rfl) _ (fun w hm => ld_run (b := aB (o_11.map fun b => ⟨b, 0, none⟩)) (off := (aO (o_11.map fun b => ⟨b, 0, none⟩) + i_20.toNat * 2)) (s := 2) (agg := true) (vs := (encGNote x_50)) (by kernel_rfl) (by kernel_rfl) (.inl rfl) ((hm.ownRow (hh := 1) (o := o_11) (T := 56) (enc := encGNote) (xs := t_2.2) (sp := sp_13) (by kernel_rfl) (fun e => (ho_15 e).1) encGNote_len).at hx_7336)) ?_
                        obtain ⟨x_51, hx_7337, h⟩ := bd h
                        refine jd_v 6 0 (by kernel_rfl) (fun w h => h.pick [0, 1, 2, 3, 4, 5, 6, 7, 8, 9, 10] (by kernel_rfl) (by kernel_rfl)) (by kernel_rfl) (by kernel_rfl) _ (fun w hm => idx_run (a := (o_6755.map fun b => ⟨b, 0, none⟩)) (len := t_26.1.length) (s := 4) (j := i_32) (by kernel_rfl) (ix_some hx_7337).1 (ltn hx_7337 rfl) (spo ho_6759 hx_7337)) ?_
                        refine jd_v 7 0 (by kernel_rfl) (fun w h => h.pick [0, 1, 2, 3, 4, 5, 6, 7, 8, 9, 10] (by kernel_rfl) (by kernel_rfl)) (by kernel_rfl) (by kernel_rfl) _ (fun w hm => ld_run (b := aB (o_6755.map fun b => ⟨b, 0, none⟩)) (off := (aO (o_6755.map fun b => ⟨b, 0, none⟩) + i_32.toNat * 4)) (s := 4) (agg := true) (vs := (encGChoice x_51)) (by kernel_rfl) (by kernel_rfl) (.inl rfl) ((hm.ownRow (hh := 10) (o := o_6755) (T := 58) (enc := encGChoice) (xs := t_26.1) (sp := sp_6757) (by kernel_rfl) (fun e => (ho_6759 e).1) encGChoice_len).at hx_7337)) ?_
                        refine toD2 8 12 (by kernel_rfl) ?_ ?_
                        · obtain ⟨t_52, ht_7338, h⟩ := bd h
                          refine p_call 0 22 #[(.agg #[(.int .i16 x_50.fAt), (.int .i8 x_50.fPitch)]), (.agg #[(.bool x_51.fAway), (.int .i8 x_51.fLate), (.int .i8 x_51.fOctave), (.int .i8 x_51.fTrack)])] (by kernel_rfl) (by kernel_rfl) (fun w hm => impl_NoteOf.calls x_50 x_51 w _ ht_7338) ?_
                          rintro w v w' hm ⟨rfl, hm'⟩
                          refine ⟨_, hm.app hm', jkD (fun w h => h.pick [0, 1, 2, 3, 4, 5, 6, 7, 8, 9, 10] (by kernel_rfl) (by kernel_rfl)) ?_⟩
                          clear hm hm'
                          refine jd_f [⟨9, 0, 0⟩, ⟨10, 0, 0⟩, ⟨11, 0, 0⟩] 3 (by kernel_rfl) (by kernel_rfl) (fun w h => h.pick [0, 1, 2, 3, 4, 5, 6, 7, 8, 9, 10] (by kernel_rfl) (by kernel_rfl)) (by kernel_rfl) (by kernel_rfl) ?_
                          refine toD 12 (by kernel_rfl) (p_a 0 [0] (by kernel_rfl) (fun b => by kernel_rfl) (fun b_7339 => jkD (fun w h => h.pick [0, 1, 2, 3, 4, 5, 6, 7, 8, 9, 10] (by kernel_rfl) (by kernel_rfl)) ?_))
                          refine toD 13 (by kernel_rfl) (p_s 0 [11] (by kernel_rfl) (by kernel_rfl) (jkD (fun w h => h.pick [0, 1, 2, 3, 4, 5, 6, 7, 8, 9, 10] (by kernel_rfl) (by kernel_rfl)) ?_))
                          refine jd_f [⟨14, 0, 0⟩] 0 (by kernel_rfl) (by kernel_rfl) (fun w h => h.pick [0, 1, 2, 3, 4, 5, 6, 7, 8, 9, 10] (by kernel_rfl) (by kernel_rfl)) (by kernel_rfl) (by kernel_rfl) ?_
                          refine jd_end (by kernel_rfl) ?_
                          exact jx_meet ⟨t_52.1.fAt, t_52.1.fPitch, t_52.2, b_7339⟩ h (by kernel_rfl) [0, 1, 2, 3, 4, 5, 6, 7, 8, 9, 10, 11] (by kernel_rfl) (by kernel_rfl)
                        · refine p_a 0 [0] (by kernel_rfl) (fun b => by kernel_rfl) (fun b_7340 => jkD (fun w h => h.pick [0, 1, 2, 3, 4, 5, 6, 7, 8, 9, 10] (by kernel_rfl) (by kernel_rfl)) ?_)
                          obtain ⟨t_52, ht_7341, h⟩ := bd h
                          refine toD 8 (by kernel_rfl) (p_call 0 22 #[(.agg #[(.int .i16 x_50.fAt), (.int .i8 x_50.fPitch)]), (.agg #[(.bool x_51.fAway), (.int .i8 x_51.fLate), (.int .i8 x_51.fOctave), (.int .i8 x_51.fTrack)])] (by kernel_rfl) (by kernel_rfl) (fun w hm => impl_NoteOf.calls x_50 x_51 w _ ht_7341) ?_)
                          rintro w v w' hm ⟨rfl, hm'⟩
                          refine ⟨_, hm.app hm', jkD (fun w h => h.pick [0, 1, 2, 3, 4, 5, 6, 7, 8, 9, 10] (by kernel_rfl) (by kernel_rfl)) ?_⟩
                          clear hm hm'
                          refine jd_f [⟨9, 0, 0⟩, ⟨10, 0, 0⟩, ⟨11, 0, 0⟩] 2 (by kernel_rfl) (by kernel_rfl) (fun w h => h.pick [0, 1, 2, 3, 4, 5, 6, 7, 8, 9, 10] (by kernel_rfl) (by kernel_rfl)) (by kernel_rfl) (by kernel_rfl) ?_
                          refine toD 13 (by kernel_rfl) (p_s 0 [11] (by kernel_rfl) (by kernel_rfl) (jkD (fun w h => h.pick [0, 1, 2, 3, 4, 5, 6, 7, 8, 9, 10] (by kernel_rfl) (by kernel_rfl)) ?_))
                          refine jd_f [⟨14, 0, 0⟩] 0 (by kernel_rfl) (by kernel_rfl) (fun w h => h.pick [0, 1, 2, 3, 4, 5, 6, 7, 8, 9, 10] (by kernel_rfl) (by kernel_rfl)) (by kernel_rfl) (by kernel_rfl) ?_
                          refine jd_end (by kernel_rfl) ?_
                          exact jx_meet ⟨t_52.1.fAt, t_52.1.fPitch, t_52.2, b_7340⟩ h (by kernel_rfl) [0, 1, 2, 3, 4, 5, 6, 7, 8, 9, 10, 11] (by kernel_rfl) (by kernel_rfl)
                      · rintro ⟨i_37, i_38, i_39, b_7306⟩ h
                        replace h : laws_FnFits.k_40 t_2 t_26 i_32 q_35 i_37 i_38 i_39 = some y_7294 := h
                        rw [laws_FnFits.k_40] at h
                        refine jx_then ?_
                        refine jc_seq ?_
                        refine jc_seq ?_
                        refine jc_meet (fun (j : Bool) => match j with | q_41 => laws_FnFits.k_42 t_2 t_26 i_32 q_35 i_37 i_38 i_39 q_41 = some y_7294) (fun (j : Bool) => match j with | q_41 => [(4, [], (.bool false)), (5, [], (.pointer (some ⟨b_16, 0, none⟩))), (6, [], (.slice (o_11.map fun b => ⟨b, 0, none⟩) t_2.2.length cap_12)), (7, [], (.slice (o_18.map fun b => ⟨b, 0, none⟩) t_3.length cap_19)), (28, [], (.int .i64 i_20)), (31, [], (.slice (o_6755.map fun b => ⟨b, 0, none⟩) t_26.1.length cap_6756)), (33, [], (.bool q_35)), (34, [], (.int .i64 i_32)), (35, [], (.pointer (some ⟨b_7306, 0, none⟩))), (36, [], (.int .i64 i_39)), (286, [], (.bool q_41))]) (fun (j : Bool) => match j with | q_41 => [⟨o_6, 63, row encGHammer t_2.1.fHammers sp_8⟩, ⟨o_11, 56, row encGNote t_2.2 sp_13⟩, ⟨some b_16, 27, [(.int .i16 t_2.1.fSteps), (.slice (o_6.map fun b => ⟨b, 0, none⟩) t_2.1.fHammers.length cap_7)]⟩, ⟨o_18, 58, row encGChoice t_3 sp_20⟩, ⟨o_25, 58, row encGChoice t_5.1 sp_27⟩, ⟨(some b_31), 39, row encU32 t_6.1.1 []⟩, ⟨(some b_33), 39, row encU32 t_7.1.1 []⟩, ⟨o_38, 56, row encGNote t_11.1 sp_40⟩, ⟨o_44, 56, row encGNote t_12.1 sp_46⟩, ⟨o_6748, 58, row encGChoice t_24.1 sp_6750⟩, ⟨o_6755, 58, row encGChoice t_26.1 sp_6757⟩, ⟨some b_7306, 56, [(.int .i16 i_37), (.int .i8 i_38)]⟩]) ?_ ?_
                        · refine jc_region ?_
                          refine jo_f [(0, 0), (0, 0)] (by kernel_rfl) ?_
                          obtain ⟨x_47, hx_7332, h⟩ := bd h
                          refine toO (by kernel_rfl) (p_idx 0 (o_6755.map fun b => ⟨b, 0, none⟩) t_26.1.length i_32 4 (by kernel_rfl) (by kernel_rfl) (ix_some hx_7332).1 (ltn hx_7332 rfl) (spo ho_6759 hx_7332) (jkO ?_))
                          refine toO (by kernel_rfl) (p_ld 0 (aB (o_6755.map fun b => ⟨b, 0, none⟩)) (aO (o_6755.map fun b => ⟨b, 0, none⟩) + i_32.toNat * 4) true (encGChoice x_47) (by kernel_rfl) (by kernel_rfl) (by kernel_rfl) (fun w hm => ((hm.ownRow (hh := 10) (o := o_6755) (T := 58) (enc := encGChoice) (xs := t_26.1) (sp := sp_6757) (by kernel_rfl) (fun e => (ho_6759 e).1) encGChoice_len).at hx_7332)) (jkO ?_))
                          obtain ⟨t_48, ht_7333, h⟩ := bd h
                          refine toO (by kernel_rfl) (p_call 0 23 #[(.agg #[(.bool x_47.fAway), (.int .i8 x_47.fLate), (.int .i8 x_47.fOctave), (.int .i8 x_47.fTrack)])] (by kernel_rfl) (by kernel_rfl) (fun w hm => impl_ValidChoice.calls x_47 w _ ht_7333) ?_)
                          rintro w v w' hm ⟨rfl, hm'⟩
                          refine ⟨_, hm.app hm', jkO ?_⟩
                          clear hm hm'
                          refine jo_f [(0, 0), (0, 0), (0, 1), (0, 1)] (by kernel_rfl) ?_
                          refine jo_split 277 (!t_48) (by kernel_rfl) (fun hc_7334 => ?_) (fun hc_7334 => ?_)
                          · replace h := ifT hc_7334 h
                            refine jo_f [(0, 3), (0, 3), (0, 3), (0, 3), (0, 3), (0, 3), (0, 4)] (by kernel_rfl) ?_
                            refine jo_end (by kernel_rfl) ?_
                            exact jx_meet true h (by kernel_rfl) [0, 1, 2, 3, 4, 5, 6, 7, 8, 9, 10, 11] (by kernel_rfl) (by kernel_rfl)
                          · replace h := ifF hc_7334 h
                            obtain ⟨x_49, hx_7335, h⟩ := bd h
                            refine toO (by kernel_rfl) (p_idx 2 (o_6755.map fun b => ⟨b, 0, none⟩) t_26.1.length i_32 4 (by kernel_rfl) (by kernel_rfl) (ix_some hx_7335).1 (ltn hx_7335 rfl) (spo ho_6759 hx_7335) (jkO ?_))
                            refine jo_f [(0, 2)] (by kernel_rfl) ?_
                            refine toO (by kernel_rfl) (p_ld 2 (aB (o_6755.map fun b => ⟨b, 0, none⟩)) (aO (o_6755.map fun b => ⟨b, 0, none⟩) + i_32.toNat * 4) false (((encGChoice x_49).drop 0).take 1) (by kernel_rfl) (by kernel_rfl) (by kernel_rfl) (fun w hm => (((hm.ownRow (hh := 10) (o := o_6755) (T := 58) (enc := encGChoice) (xs := t_26.1) (sp := sp_6757) (by kernel_rfl) (fun e => (ho_6759 e).1) encGChoice_len).at hx_7335).sub 0 1)) (jkO ?_))
                            refine jo_f [(0, 2), (0, 2), (0, 2), (0, 5)] (by kernel_rfl) ?_
                            refine jo_end (by kernel_rfl) ?_
                            exact jx_meet (x_49.fAway != (i_39 == 4)) h (by kernel_rfl) [0, 1, 2, 3, 4, 5, 6, 7, 8, 9, 10, 11] (by kernel_rfl) (by kernel_rfl)
                        · rintro q_41 h
                          replace h : laws_FnFits.k_42 t_2 t_26 i_32 q_35 i_37 i_38 i_39 q_41 = some y_7294 := h
                          rw [laws_FnFits.k_42] at h
                          refine jx_then ?_
                          refine jc_cond q_41 (by kernel_rfl) (fun hc_7320 => ?_) (fun hc_7320 => ?_)
                          · replace h := ifT hc_7320 h
                            refine jc_seq ?_
                            refine jc_region ?_
                            refine jo_f [(0, 0)] (by kernel_rfl) ?_
                            refine jo_end (by kernel_rfl) ?_
                            refine jx_then ?_
                            refine jc_ret ?_
                            refine jx_thenr ?_
                            refine jx_inr ?_
                            refine jx_thenr ?_
                            refine jx_leaver (.inl false) (Option.some.inj h).symm (fun e_7322 => ?_)
                            subst e_7322
                            refine jx_inr ?_
                            refine jx_thenr ?_
                            refine jx_thenr ?_
                            refine jx_inr ?_
                            refine jx_thenr ?_
                            refine jx_leaver (.inl false) (Option.some.inj hr_7293).symm (fun e_7321 => ?_)
                            subst e_7321
                            refine jx_inr ?_
                            refine jx_thenr ?_
                            refine jx_thenr ?_
                            obtain rfl := Option.some.inj hr_6742
                            exact jx_ret [] (.bool false) [] rfl (by kernel_rfl) (by kernel_rfl) (fun w hm => ⟨rfl, hm.pick [] (by kernel_rfl) (by kernel_rfl)⟩)
                          · replace h := ifF hc_7320 h
                            refine jc_skip ?_
                            refine jx_then ?_
                            refine jc_seq ?_
                            refine jc_meet (fun (j : Bool) => match j with | q_43 => laws_FnFits.k_44 i_32 q_35 q_43 = some y_7294) (fun (j : Bool) => match j with | q_43 => [(4, [], (.bool false)), (5, [], (.pointer (some ⟨b_16, 0, none⟩))), (6, [], (.slice (o_11.map fun b => ⟨b, 0, none⟩) t_2.2.length cap_12)), (7, [], (.slice (o_18.map fun b => ⟨b, 0, none⟩) t_3.length cap_19)), (28, [], (.int .i64 i_20)), (31, [], (.slice (o_6755.map fun b => ⟨b, 0, none⟩) t_26.1.length cap_6756)), (33, [], (.bool q_35)), (34, [], (.int .i64 i_32)), (315, [], (.bool q_43))]) (fun (j : Bool) => match j with | q_43 => [⟨o_6, 63, row encGHammer t_2.1.fHammers sp_8⟩, ⟨o_11, 56, row encGNote t_2.2 sp_13⟩, ⟨some b_16, 27, [(.int .i16 t_2.1.fSteps), (.slice (o_6.map fun b => ⟨b, 0, none⟩) t_2.1.fHammers.length cap_7)]⟩, ⟨o_18, 58, row encGChoice t_3 sp_20⟩, ⟨o_25, 58, row encGChoice t_5.1 sp_27⟩, ⟨(some b_31), 39, row encU32 t_6.1.1 []⟩, ⟨(some b_33), 39, row encU32 t_7.1.1 []⟩, ⟨o_38, 56, row encGNote t_11.1 sp_40⟩, ⟨o_44, 56, row encGNote t_12.1 sp_46⟩, ⟨o_6748, 58, row encGChoice t_24.1 sp_6750⟩, ⟨o_6755, 58, row encGChoice t_26.1 sp_6757⟩, ⟨some b_7306, 56, [(.int .i16 i_37), (.int .i8 i_38)]⟩]) ?_ ?_
                            · refine jc_draw [⟨o_6, 63, row encGHammer t_2.1.fHammers sp_8⟩, ⟨o_11, 56, row encGNote t_2.2 sp_13⟩, ⟨some b_16, 27, [(.int .i16 t_2.1.fSteps), (.slice (o_6.map fun b => ⟨b, 0, none⟩) t_2.1.fHammers.length cap_7)]⟩, ⟨o_18, 58, row encGChoice t_3 sp_20⟩, ⟨o_25, 58, row encGChoice t_5.1 sp_27⟩, ⟨(some b_31), 39, row encU32 t_6.1.1 []⟩, ⟨(some b_33), 39, row encU32 t_7.1.1 []⟩, ⟨o_38, 56, row encGNote t_11.1 sp_40⟩, ⟨o_44, 56, row encGNote t_12.1 sp_46⟩, ⟨o_6748, 58, row encGChoice t_24.1 sp_6750⟩, ⟨o_6755, 58, row encGChoice t_26.1 sp_6757⟩, ⟨some b_7306, 56, [(.int .i16 i_37), (.int .i8 i_38)]⟩] 29 (by kernel_rfl) (by kernel_rfl) ?_
                              refine jd_f [⟨0, 0, 0⟩, ⟨1, 0, 0⟩, ⟨2, 0, 0⟩, ⟨3, 0, 1⟩, ⟨4, 11, 1⟩, ⟨5, 0, 1⟩, ⟨6, 2, 1⟩, ⟨7, 0, 1⟩, ⟨8, 0, 1⟩] 20 (by kernel_rfl) (by kernel_rfl) (fun w h => h.pick [0, 1, 2, 3, 4, 5, 6, 7, 8, 9, 10, 11] (by kernel_rfl) (by kernel_rfl)) (by kernel_rfl) (by kernel_rfl) ?_
                              refine jd_split 289 (i_39 == 0) (by kernel_rfl) (fun hc_7329 => ?_) (fun hc_7329 => ?_)
                              · replace h := ifT hc_7329 h
                                obtain ⟨x_45, hx_7330, h⟩ := bd h
                                refine jd_v 9 2 (by kernel_rfl) (fun w h => h.pick [0, 1, 2, 3, 4, 5, 6, 7, 8, 9, 10, 11] (by kernel_rfl) (by kernel_rfl)) (by kernel_rfl) (by kernel_rfl) _ (fun w hm => idx_run (a := (o_6755.map fun b => ⟨b, 0, none⟩)) (len := t_26.1.length) (s := 4) (j := i_32) (by kernel_rfl) (ix_some hx_7330).1 (ltn hx_7330 rfl) (spo ho_6759 hx_7330)) ?_
                                refine jd_f [⟨10, 0, 2⟩] 18 (by kernel_rfl) (by kernel_rfl) (fun w h => h.pick [0, 1, 2, 3, 4, 5, 6, 7, 8, 9, 10, 11] (by kernel_rfl) (by kernel_rfl)) (by kernel_rfl) (by kernel_rfl) ?_
                                refine jd_v 11 2 (by kernel_rfl) (fun w h => h.pick [0, 1, 2, 3, 4, 5, 6, 7, 8, 9, 10, 11] (by kernel_rfl) (by kernel_rfl)) (by kernel_rfl) (by kernel_rfl) _ (fun w hm => ld_run (b := aB (o_6755.map fun b => ⟨b, 0, none⟩)) (off := (aO (o_6755.map fun b => ⟨b, 0, none⟩) + i_32.toNat * 4 + 3)) (s := 1) (agg := false) (vs := (((encGChoice x_45).drop 3).take 1)) (by kernel_rfl) (by kernel_rfl) (.inr rfl) (((hm.ownRow (hh := 10) (o := o_6755) (T := 58) (enc := encGChoice) (xs := t_26.1) (sp := sp_6757) (by kernel_rfl) (fun e => (ho_6759 e).1) encGChoice_len).at hx_7330).sub 3 1)) ?_
                                obtain ⟨x_46, hx_7331, h⟩ := bd h
                                refine jd_v 12 2 (by kernel_rfl) (fun w h => h.pick [0, 1, 2, 3, 4, 5, 6, 7, 8, 9, 10, 11] (by kernel_rfl) (by kernel_rfl)) (by kernel_rfl) (by kernel_rfl) _ (fun w hm => idx_run (a := (o_6.map fun b => ⟨b, 0, none⟩)) (len := t_2.1.fHammers.length) (s := 2) (j := x_45.fTrack) (by kernel_rfl) (ix_some hx_7331).1 (ltn hx_7331 rfl) (spo ho_10 hx_7331)) ?_
                                refine jd_f [⟨13, 0, 2⟩] 15 (by kernel_rfl) (by kernel_rfl) (fun w h => h.pick [0, 1, 2, 3, 4, 5, 6, 7, 8, 9, 10, 11] (by kernel_rfl) (by kernel_rfl)) (by kernel_rfl) (by kernel_rfl) ?_
                                refine jd_v 14 2 (by kernel_rfl) (fun w h => h.pick [0, 1, 2, 3, 4, 5, 6, 7, 8, 9, 10, 11] (by kernel_rfl) (by kernel_rfl)) (by kernel_rfl) (by kernel_rfl) _ (fun w hm => ld_run (b := aB (o_6.map fun b => ⟨b, 0, none⟩)) (off := (aO (o_6.map fun b => ⟨b, 0, none⟩) + x_45.fTrack.toNat * 2)) (s := 1) (agg := false) (vs := (((encGHammer x_46).drop 0).take 1)) (by kernel_rfl) (by kernel_rfl) (.inr rfl) (((hm.ownRow (hh := 0) (o := o_6) (T := 63) (enc := encGHammer) (xs := t_2.1.fHammers) (sp := sp_8) (by kernel_rfl) (fun e => (ho_10 e).1) encGHammer_len).at hx_7331).sub 0 1)) ?_
                                refine jd_f [⟨15, 0, 2⟩, ⟨16, 0, 2⟩, ⟨17, 0, 1⟩, ⟨18, 11, 1⟩, ⟨19, 0, 1⟩, ⟨20, 0, 2⟩, ⟨21, 0, 2⟩, ⟨22, 0, 1⟩, ⟨23, 11, 1⟩, ⟨24, 0, 1⟩, ⟨25, 2, 1⟩, ⟨26, 0, 1⟩, ⟨27, 0, 2⟩, ⟨28, 0, 4⟩] 0 (by kernel_rfl) (by kernel_rfl) (fun w h => h.pick [0, 1, 2, 3, 4, 5, 6, 7, 8, 9, 10, 11] (by kernel_rfl) (by kernel_rfl)) (by kernel_rfl) (by kernel_rfl) ?_
                                refine jd_end (by kernel_rfl) ?_
                                exact jx_meet (((i_38 != x_46.fPitch) || (decide (i_37 < 0))) || (decide (i_37 ≥ t_2.1.fSteps))) h (by kernel_rfl) [0, 1, 2, 3, 4, 5, 6, 7, 8, 9, 10, 11] (by kernel_rfl) (by kernel_rfl)
                              · replace h := ifF hc_7329 h
                                refine jd_f [⟨9, 0, 3⟩, ⟨10, 0, 3⟩, ⟨11, 0, 3⟩, ⟨12, 0, 3⟩, ⟨13, 0, 3⟩, ⟨14, 0, 3⟩, ⟨15, 0, 3⟩, ⟨16, 0, 3⟩, ⟨17, 0, 3⟩, ⟨18, 0, 3⟩, ⟨19, 0, 3⟩, ⟨20, 0, 3⟩, ⟨21, 0, 3⟩, ⟨22, 0, 3⟩, ⟨23, 0, 3⟩, ⟨24, 0, 3⟩, ⟨25, 0, 3⟩, ⟨26, 0, 3⟩, ⟨27, 0, 3⟩, ⟨28, 0, 5⟩] 0 (by kernel_rfl) (by kernel_rfl) (fun w h => h.pick [0, 1, 2, 3, 4, 5, 6, 7, 8, 9, 10, 11] (by kernel_rfl) (by kernel_rfl)) (by kernel_rfl) (by kernel_rfl) ?_
                                refine jd_end (by kernel_rfl) ?_
                                exact jx_meet false h (by kernel_rfl) [0, 1, 2, 3, 4, 5, 6, 7, 8, 9, 10, 11] (by kernel_rfl) (by kernel_rfl)
                            · rintro q_43 h
                              replace h : laws_FnFits.k_44 i_32 q_35 q_43 = some y_7294 := h
                              rw [laws_FnFits.k_44] at h
                              refine jx_then ?_
                              refine jc_cond q_43 (by kernel_rfl) (fun hc_7326 => ?_) (fun hc_7326 => ?_)
                              · replace h := ifT hc_7326 h
                                refine jc_seq ?_
                                refine jc_region ?_
                                refine jo_f [(0, 0)] (by kernel_rfl) ?_
                                refine jo_end (by kernel_rfl) ?_
                                refine jx_then ?_
                                refine jc_ret ?_
                                refine jx_inr ?_
                                refine jx_thenr ?_
                                refine jx_leaver (.inl false) (Option.some.inj h).symm (fun e_7328 => ?_)
                                subst e_7328
                                refine jx_inr ?_
                                refine jx_thenr ?_
                                refine jx_thenr ?_
                                refine jx_inr ?_
                                refine jx_thenr ?_
                                refine jx_leaver (.inl false) (Option.some.inj hr_7293).symm (fun e_7327 => ?_)
                                subst e_7327
                                refine jx_inr ?_
                                refine jx_thenr ?_
                                refine jx_thenr ?_
                                obtain rfl := Option.some.inj hr_6742
                                exact jx_ret [] (.bool false) [] rfl (by kernel_rfl) (by kernel_rfl) (fun w hm => ⟨rfl, hm.pick [] (by kernel_rfl) (by kernel_rfl)⟩)
                              · replace h := ifF hc_7326 h
                                refine jc_skip ?_
                                refine jx_inn ?_
                                refine jx_then ?_
                                refine jc_region ?_
                                refine jo_f [(0, 0), (0, 0), (0, 0)] (by kernel_rfl) ?_
                                refine jo_end (by kernel_rfl) ?_
                                exact jx_back (q_35, (w64 (i_32 + 1))) () (Option.some.inj h).symm trivial [0, 1, 2, 3, 4, 5, 6, 7, 8, 9, 10] (by kernel_rfl) (by kernel_rfl) (by kernel_rfl)
                  · replace h := ifF hc_7296 h
                    refine jc_exit ?_
                    refine jx_thenx ?_
                    refine jx_leave (.inr q_31) (Option.some.inj h).symm (fun e_7345 => ?_)
                    subst e_7345
                    refine jx_ine ?_
                    exact jx_meet q_31 hr_7293 (by kernel_rfl) [0, 1, 2, 3, 4, 5, 6, 7, 8, 9, 10] (by kernel_rfl) (by kernel_rfl)
                · rintro q_29 h
                  replace h : laws_FnFits.k_30 i_20 q_29 = some y_6743 := h
                  rw [laws_FnFits.k_30] at h
                  refine jx_then ?_
                  refine jc_seq ?_
                  refine jc_region ?_
                  refine jo_f [(0, 0), (0, 0)] (by kernel_rfl) ?_
                  refine jo_end (by kernel_rfl) ?_
                  refine jx_then ?_
                  refine jc_cond (!q_29) (by kernel_rfl) (fun hc_7201 => ?_) (fun hc_7201 => ?_)
                  · replace h := ifT hc_7201 h
                    refine jc_seq ?_
                    refine jc_region ?_
                    refine jo_f [(0, 0)] (by kernel_rfl) ?_
                    refine jo_end (by kernel_rfl) ?_
                    refine jx_then ?_
                    refine jc_ret ?_
                    refine jx_inr ?_
                    refine jx_thenr ?_
                    refine jx_leaver (.inl false) (Option.some.inj h).symm (fun e_7202 => ?_)
                    subst e_7202
                    refine jx_inr ?_
                    refine jx_thenr ?_
                    refine jx_thenr ?_
                    obtain rfl := Option.some.inj hr_6742
                    exact jx_ret [] (.bool false) [] rfl (by kernel_rfl) (by kernel_rfl) (fun w hm => ⟨rfl, hm.pick [] (by kernel_rfl) (by kernel_rfl)⟩)
                  · replace h := ifF hc_7201 h
                    refine jc_skip ?_
                    refine jx_inn ?_
                    refine jx_then ?_
                    refine jc_region ?_
                    refine jo_f [(0, 0), (0, 0), (0, 0)] (by kernel_rfl) ?_
                    refine jo_end (by kernel_rfl) ?_
                    exact jx_back (w64 (i_20 + 1)) () (Option.some.inj h).symm trivial [0, 1, 2, 3, 4, 5, 6, 7, 8] (by kernel_rfl) (by kernel_rfl) (by kernel_rfl)
          · replace h := ifF hc_6745 h
            refine jc_exit ?_
            refine jx_thenx ?_
            refine jx_leave (.inr ()) (Option.some.inj h).symm (fun e_7351 => ?_)
            subst e_7351
            refine jx_ine ?_
            exact jx_meet () hr_6742 (by kernel_rfl) [0, 1, 2, 3, 4, 5, 6, 7, 8] (by kernel_rfl) (by kernel_rfl)
        · rintro _ h
          replace h : laws_FnFits.k_17 t_2 t_3 = some r := h
          rw [laws_FnFits.k_17] at h
          refine jx_then ?_
          refine jc_seq ?_
          refine jc_region ?_
          refine toO (by kernel_rfl) (p_a 0 [0] (by kernel_rfl) (fun b => by kernel_rfl) (fun b_5519 => jkO ?_))
          refine jo_f [(0, 0)] (by kernel_rfl) ?_
          obtain ⟨hg_5520, h⟩ := gd h
          refine toO (by kernel_rfl) (p_apn 0 9 (some b_5519) 58 0 t_3.length 0 4 4 (o_18.map fun b => ⟨b, 0, none⟩) encGChoice ([] : List GChoice) t_3 [] (.agg #[(.bool false), (.int .i8 0), (.int .i8 0), (.int .i8 0)]) rfl rfl (by kernel_rfl) (by kernel_rfl) (by kernel_rfl) encGChoice_len encGChoice_cell (fun _ => ⟨Nat.le_refl _, by simp⟩) (fun e => nomatch e) (fun w hm => (hm.ownRow (hh := 3) (o := o_18) (T := 58) (enc := encGChoice) (xs := t_3) (sp := sp_20) (by kernel_rfl) (fun e => (ho_22 e).1) encGChoice_len)) hg_5520 (by kernel_rfl) (by kernel_rfl) (fun o_5521 cap_5522 sp_5523 hs_5524 ho_5525 => jkO ?_))
          refine jo_f [(0, 0)] (by kernel_rfl) ?_
          refine toO (by kernel_rfl) (p_a 0 [0] (by kernel_rfl) (fun b => by kernel_rfl) (fun b_5526 => jkO ?_))
          obtain ⟨hg_5527, h⟩ := gd h
          refine toO (by kernel_rfl) (p_apn 0 9 o_5521 58 ((([] : List GChoice) ++ t_3).length) 1 cap_5522 4 4 (some ⟨b_5526, 0, none⟩) encGChoice (([] : List GChoice) ++ t_3) [(⟨true, 0, 0, 0⟩ : GChoice)] sp_5523 (.agg #[(.bool false), (.int .i8 0), (.int .i8 0), (.int .i8 0)]) rfl rfl (by kernel_rfl) (by kernel_rfl) (by kernel_rfl) encGChoice_len encGChoice_cell hs_5524 ho_5525 (fun w hm => (hm.ownRow (hh := 10) (o := (some b_5526)) (T := 58) (enc := encGChoice) (xs := [(⟨true, 0, 0, 0⟩ : GChoice)]) (sp := []) (by kernel_rfl) (fun e => nomatch e) encGChoice_len)) hg_5527 (by kernel_rfl) (by kernel_rfl) (fun o_5528 cap_5529 sp_5530 hs_5531 ho_5532 => jkO ?_))
          refine jo_f [(0, 0)] (by kernel_rfl) ?_
          refine jo_end (by kernel_rfl) ?_
          refine jx_then ?_
          refine jc_seq ?_
          refine jc_region ?_
          refine jo_f [(2, 0), (0, 0), (0, 0)] (by kernel_rfl) ?_
          obtain ⟨t_18, ht_5533, h⟩ := bd h
          refine toO (by kernel_rfl) (p_call 0 11 #[(.agg #[(.int .i16 t_2.1.fSteps), (.slice (o_6.map fun b => ⟨b, 0, none⟩) t_2.1.fHammers.length cap_7)]), (.slice (o_11.map fun b => ⟨b, 0, none⟩) t_2.2.length cap_12), (.slice (o_5528.map fun b => ⟨b, 0, none⟩) (((([] : List GChoice) ++ t_3) ++ [(⟨true, 0, 0, 0⟩ : GChoice)]).length) cap_5529)] (by kernel_rfl) (by kernel_rfl) (fun w hm => impl_CheckChoices.calls t_2.1 t_2.2 ((([] : List GChoice) ++ t_3) ++ [(⟨true, 0, 0, 0⟩ : GChoice)]) w _ (o_6.map fun b => ⟨b, 0, none⟩) t_2.1.fHammers.length cap_7 (hm.ownRow (hh := 0) (o := o_6) (T := 63) (enc := encGHammer) (xs := t_2.1.fHammers) (sp := sp_8) (by kernel_rfl) (fun e => (ho_10 e).1) encGHammer_len) rfl (o_11.map fun b => ⟨b, 0, none⟩) t_2.2.length cap_12 (hm.ownRow (hh := 1) (o := o_11) (T := 56) (enc := encGNote) (xs := t_2.2) (sp := sp_13) (by kernel_rfl) (fun e => (ho_15 e).1) encGNote_len) rfl (o_5528.map fun b => ⟨b, 0, none⟩) (((([] : List GChoice) ++ t_3) ++ [(⟨true, 0, 0, 0⟩ : GChoice)]).length) cap_5529 (hm.ownRow (hh := 9) (o := o_5528) (T := 58) (enc := encGChoice) (xs := ((([] : List GChoice) ++ t_3) ++ [(⟨true, 0, 0, 0⟩ : GChoice)])) (sp := sp_5530) (by kernel_rfl) (fun e => (ho_5532 e).1) encGChoice_len) rfl ht_5533) ?_)
          rintro w v w' hm ⟨rfl, hm'⟩
          refine ⟨_, hm.app hm', jkO ?_⟩
          clear hm hm'
          refine jo_f [(0, 0), (0, 0), (0, 0), (0, 0), (0, 0)] (by kernel_rfl) ?_
          refine jo_end (by kernel_rfl) ?_
          refine jx_then ?_
          refine jc_seq ?_
          refine jc_region ?_
          refine jo_f [(2, 0), (0, 0), (0, 0)] (by kernel_rfl) ?_
          obtain ⟨t_19, ht_5534, h⟩ := bd h
          refine toO (by kernel_rfl) (p_call 0 9 #[(.agg #[(.int .i16 t_2.1.fSteps), (.slice (o_6.map fun b => ⟨b, 0, none⟩) t_2.1.fHammers.length cap_7)]), (.slice (o_11.map fun b => ⟨b, 0, none⟩) t_2.2.length cap_12), (.slice (o_5528.map fun b => ⟨b, 0, none⟩) (((([] : List GChoice) ++ t_3) ++ [(⟨true, 0, 0, 0⟩ : GChoice)]).length) cap_5529)] (by kernel_rfl) (by kernel_rfl) (fun w hm => impl_DrumFor.calls t_2.1 t_2.2 ((([] : List GChoice) ++ t_3) ++ [(⟨true, 0, 0, 0⟩ : GChoice)]) w _ (o_6.map fun b => ⟨b, 0, none⟩) t_2.1.fHammers.length cap_7 (hm.ownRow (hh := 0) (o := o_6) (T := 63) (enc := encGHammer) (xs := t_2.1.fHammers) (sp := sp_8) (by kernel_rfl) (fun e => (ho_10 e).1) encGHammer_len) rfl (o_11.map fun b => ⟨b, 0, none⟩) t_2.2.length cap_12 (hm.ownRow (hh := 1) (o := o_11) (T := 56) (enc := encGNote) (xs := t_2.2) (sp := sp_13) (by kernel_rfl) (fun e => (ho_15 e).1) encGNote_len) rfl (o_5528.map fun b => ⟨b, 0, none⟩) (((([] : List GChoice) ++ t_3) ++ [(⟨true, 0, 0, 0⟩ : GChoice)]).length) cap_5529 (hm.ownRow (hh := 9) (o := o_5528) (T := 58) (enc := encGChoice) (xs := ((([] : List GChoice) ++ t_3) ++ [(⟨true, 0, 0, 0⟩ : GChoice)])) (sp := sp_5530) (by kernel_rfl) (fun e => (ho_5532 e).1) encGChoice_len) rfl ht_5534) ?_)
          rintro w v w' hm ⟨rfl, hm'⟩
          refine ⟨_, hm.app hm', jkO ?_⟩
          clear hm hm'
          refine jo_f [(0, 0), (0, 0), (0, 0)] (by kernel_rfl) ?_
          refine toO (by kernel_rfl) (p_a 0 [0] (by kernel_rfl) (fun b => by kernel_rfl) (fun b_5535 => jkO ?_))
          refine toO (by kernel_rfl) (p_sA 0 11 b_5535 96 1 39 encU32 (Arr.rep 96 0) t_19.1 (by kernel_rfl) (by kernel_rfl) (by kernel_rfl) encU32_len encU32_cell (by kernel_rfl) (jkO ?_))
          refine jo_f [(0, 0)] (by kernel_rfl) ?_
          refine jo_end (by kernel_rfl) ?_
          refine jx_then ?_
          refine jc_seq ?_
          refine jc_region ?_
          refine jo_f [(0, 0), (0, 0), (0, 0), (0, 1), (0, 1), (0, 0), (0, 0), (0, 1), (0, 1), (0, 0), (0, 0)] (by kernel_rfl) ?_
          refine jo_end (by kernel_rfl) ?_
          refine jx_then ?_
          refine jc_ret ?_
          obtain rfl := Option.some.inj h
          exact jx_ret [] (.bool (((t_18.2 == 0) && (!t_18.1)) && (t_19.2 == 2))) [] rfl (by kernel_rfl) (by kernel_rfl) (fun w hm => ⟨rfl, hm.pick [] (by kernel_rfl) (by kernel_rfl)⟩)
end Go.Proofs.YtplklknkkaeniaaGreatDoor
