/- Functions of the program that the laws reach: a plain function each, and that the call comes to its answer if the plain function has one. Printed by a program. -/
import Derived.Test.YtfkjghkjimcmdaaGreatT
import Derived.Test.YtfkjghkjimcmdaaGreatSort
import Derived.Test.YtfkjghkjimcmdaaGreatM1
namespace Go.Proofs.YtfkjghkjimcmdaaGreat
open Eng
set_option linter.unusedVariables false

/-! ### (impl.Frame).pins -/
noncomputable def impl_Frame_pins_at_impl_Frame_byTrack_1.k_2 (xs_1 : List Int) : Option ((List Int)) := some xs_1
noncomputable def impl_Frame_pins_at_impl_Frame_byTrack_1.k_9 (i_4 : Int) (xs_8 : List Int) : Option (((List Int) × Int) ⊕ ((List Int))) := some (.inl (xs_8, (w64 (i_4 + 1))))
noncomputable def impl_Frame_pins_at_impl_Frame_byTrack_1.l_12 (d1 : Arr 96 Int) (i_4 : Int) (t_7 : Int) : ((List Int) × Int) → Option (((List Int) × Int) ⊕ ((List Int)))
  | (xs_10, i_11) => (if (decide (i_11 < t_7)) = true then (impl_Drum_has d1 i_4 i_11).bind fun t_14 => (if t_14 = true then (impl_Frame_byTrack_1 i_4 i_11 xs_10).bind fun t_15 => some (.inl (t_15, (w64 (i_11 + 1)))) else some (.inl (xs_10, (w64 (i_11 + 1))))) else some (.inr xs_10))
noncomputable def impl_Frame_pins_at_impl_Frame_byTrack_1.l_5 (f0 : GFrame) (d1 : Arr 96 Int) : ((List Int) × Int) → Option (((List Int) × Int) ⊕ ((List Int)))
  | (xs_3, i_4) => (if (decide (i_4 < (w64 f0.fSteps))) = true then (impl_size_Hammer f0.fHammers).bind fun t_7 => (loop (impl_Frame_pins_at_impl_Frame_byTrack_1.l_12 d1 i_4 t_7) (xs_3, 0)).bind fun t_13 => impl_Frame_pins_at_impl_Frame_byTrack_1.k_9 i_4 t_13 else some (.inr xs_3))
noncomputable def impl_Frame_pins_at_impl_Frame_byTrack_1 (f0 : GFrame) (d1 : Arr 96 Int) (g2c0 : List Int) : Option ((List Int)) := (loop (impl_Frame_pins_at_impl_Frame_byTrack_1.l_5 f0 d1) (g2c0, 0)).bind fun t_6 => impl_Frame_pins_at_impl_Frame_byTrack_1.k_2 t_6
set_option maxRecDepth 100000 in
theorem impl_Frame_pins_at_impl_Frame_byTrack_1.calls (f0 : GFrame) (d1 : Arr 96 Int) (g2c0 : List Int) (w : World) (r : (List Int)) (f0_fHammers_a : Option Addr) (f0_fHammers_an : Nat) (f0_fHammers_c : Nat) (f0_fHammers_h : Rw w f0_fHammers_a 2 encGHammer f0.fHammers) (f0_fHammers_hn : f0.fHammers.length = f0_fHammers_an) (g2c0_b : Nat) (g2c0_o : Option Nat) (g2c0_on : Nat) (g2c0_c : Nat) (g2c0_sp : List Value) (g2c0_hn : g2c0.length = g2c0_on) (g2c0_hs : g2c0_o ≠ none → g2c0_on ≤ g2c0_c ∧ g2c0_sp.length = (g2c0_c - g2c0_on) * 1) (g2c0_ho : g2c0_o = none → g2c0 = [] ∧ g2c0_c = 0) (hm0 : Mem w (bs [some g2c0_b, g2c0_o]) [⟨some g2c0_b, 27, [(.slice (g2c0_o.map fun b => ⟨b, 0, none⟩) g2c0_on g2c0_c)]⟩, ⟨g2c0_o, 2, row encI64 g2c0 g2c0_sp⟩] w) (f0_fHammers_ha : f0.fHammers ≠ [] → aB f0_fHammers_a ∉ bs [some g2c0_b, g2c0_o]) (h : impl_Frame_pins_at_impl_Frame_byTrack_1 f0 d1 g2c0 = some r) :
    Calls Tryz.prog 132 #[(.agg #[(.int .i16 f0.fSteps), (.slice f0_fHammers_a f0_fHammers_an f0_fHammers_c)]), (.agg (row encU32 d1.1 []).toArray), (.func (.func 133) #[] #[(.pointer (some ⟨g2c0_b, 0, none⟩))])] w fun e w' => ∃ v, e = .returned v ∧ (r.length = g2c0_on ∧ (g2c0_o = none → r = [] ∧ g2c0_c = 0) ∧ v = .tuple #[] ∧ Mem w (bs [some g2c0_b, g2c0_o]) [⟨some g2c0_b, 27, [(.slice (g2c0_o.map fun b => ⟨b, 0, none⟩) g2c0_on g2c0_c)]⟩, ⟨g2c0_o, 2, row encI64 r g2c0_sp⟩] w') := by
  subst f0_fHammers_hn g2c0_hn
  rw [impl_Frame_pins_at_impl_Frame_byTrack_1] at h
  refine enter (args := [(.agg #[(.int .i16 f0.fSteps), (.slice f0_fHammers_a f0.fHammers.length f0_fHammers_c)]), (.agg (row encU32 d1.1 []).toArray), (.func (.func 133) #[] #[(.pointer (some ⟨g2c0_b, 0, none⟩))])]) Tryz.func132 rfl Tryz.ntmps132 (by kernel_rfl) (L := [⟨some g2c0_b, 27, [(.slice (g2c0_o.map fun b => ⟨b, 0, none⟩) g2c0.length g2c0_c)]⟩, ⟨g2c0_o, 2, row encI64 g2c0 g2c0_sp⟩]) (W := bs [some g2c0_b, g2c0_o]) hm0 ?_
  refine jc_seq ?_
  refine jc_region ?_
  refine toO (by kernel_rfl) (p_a 0 [0] (by kernel_rfl) (fun b => by kernel_rfl) (fun b_1 => jkO ?_))
  refine toO (by kernel_rfl) (p_a 0 [0] (by kernel_rfl) (fun b => by kernel_rfl) (fun b_2 => jkO ?_))
  refine jo_end (by kernel_rfl) ?_
  refine jx_then ?_
  refine jc_seq ?_
  refine jc_region ?_
  refine jo_f [(0, 0), (2, 0), (0, 0), (0, 0)] (by kernel_rfl) ?_
  refine jo_end (by kernel_rfl) ?_
  refine jx_then ?_
  refine jc_meet (fun (j : (List Int)) => match j with | xs_1 => impl_Frame_pins_at_impl_Frame_byTrack_1.k_2 xs_1 = some r ∧ (xs_1.length = g2c0.length) ∧ ((g2c0_o = none → xs_1 = [] ∧ g2c0_c = 0))) (fun (j : (List Int)) => match j with | xs_1 => []) (fun (j : (List Int)) => match j with | xs_1 => [⟨some g2c0_b, 27, [(.slice (g2c0_o.map fun b => ⟨b, 0, none⟩) g2c0.length g2c0_c)]⟩, ⟨g2c0_o, 2, row encI64 xs_1 g2c0_sp⟩, ⟨some b_1, 43, [(.int .i16 f0.fSteps), (.slice f0_fHammers_a f0.fHammers.length f0_fHammers_c)]⟩, ⟨(some b_2), 150, row encU32 d1.1 []⟩]) ?_ ?_
  · refine jc_block ?_
    obtain ⟨t_6, ht_398, hr_332⟩ := bd h
    refine jc_loop (fun (s : (List Int) × Int) (x : Unit) => match s, x with | ⟨xs_3, i_4⟩, _ => (xs_3.length = g2c0.length) ∧ ((g2c0_o = none → xs_3 = [] ∧ g2c0_c = 0))) (fun (s : (List Int) × Int) (x : Unit) => match s, x with | ⟨xs_3, i_4⟩, _ => [(2, [], (.func (.func 133) #[] #[(.pointer (some ⟨g2c0_b, 0, none⟩))])), (3, [], (.pointer (some ⟨b_1, 0, none⟩))), (4, [], (.pointer (some ⟨b_2, 0, none⟩))), (10, [], (.int .i64 (w64 f0.fSteps))), (11, [], (.int .i64 i_4))]) (fun (s : (List Int) × Int) (x : Unit) => match s, x with | ⟨xs_3, i_4⟩, _ => [⟨some g2c0_b, 27, [(.slice (g2c0_o.map fun b => ⟨b, 0, none⟩) g2c0.length g2c0_c)]⟩, ⟨g2c0_o, 2, row encI64 xs_3 g2c0_sp⟩, ⟨some b_1, 43, [(.int .i16 f0.fSteps), (.slice f0_fHammers_a f0.fHammers.length f0_fHammers_c)]⟩, ⟨(some b_2), 150, row encU32 d1.1 []⟩]) ht_398 () ⟨rfl, g2c0_ho⟩ (by kernel_rfl) [0, 1, 2, 3] (by kernel_rfl) (by kernel_rfl) ?_
    rintro ⟨xs_3, i_4⟩ _ y_333 ⟨hn_331, ho_330⟩ h
    rw [impl_Frame_pins_at_impl_Frame_byTrack_1.l_5] at h
    refine jc_seq ?_
    refine jc_region ?_
    refine jo_f [(0, 0)] (by kernel_rfl) ?_
    refine jo_end (by kernel_rfl) ?_
    refine jx_then ?_
    refine jc_seq ?_
    refine jc_cond (decide (i_4 < (w64 f0.fSteps))) (by kernel_rfl) (fun hc_335 => ?_) (fun hc_335 => ?_)
    · replace h := ifT hc_335 h
      refine jc_skip ?_
      refine jx_then ?_
      refine jc_seq ?_
      refine jc_block ?_
      refine jc_seq ?_
      refine jc_region ?_
      refine jo_f [(0, 0), (0, 0)] (by kernel_rfl) ?_
      refine jo_end (by kernel_rfl) ?_
      refine jx_then ?_
      refine jc_seq ?_
      refine jc_region ?_
      refine jo_f [(0, 0), (2, 0)] (by kernel_rfl) ?_
      obtain ⟨t_7, ht_336, h⟩ := bd h
      refine toO (by kernel_rfl) (p_call 0 137 #[(.slice f0_fHammers_a f0.fHammers.length f0_fHammers_c)] (by kernel_rfl) (by kernel_rfl) (fun w hm => impl_size_Hammer.calls f0.fHammers w _ f0_fHammers_a f0.fHammers.length f0_fHammers_c (hm.exRowW f0_fHammers_h f0_fHammers_ha) rfl ht_336) ?_)
      rintro w v w' hm ⟨rfl, hm'⟩
      refine ⟨_, hm.app hm', jkO ?_⟩
      clear hm hm'
      refine jo_f [(0, 0)] (by kernel_rfl) ?_
      refine jo_end (by kernel_rfl) ?_
      refine jx_then ?_
      refine jc_meet (fun (j : (List Int)) => match j with | xs_8 => impl_Frame_pins_at_impl_Frame_byTrack_1.k_9 i_4 xs_8 = some y_333 ∧ (xs_8.length = g2c0.length) ∧ ((g2c0_o = none → xs_8 = [] ∧ g2c0_c = 0))) (fun (j : (List Int)) => match j with | xs_8 => [(2, [], (.func (.func 133) #[] #[(.pointer (some ⟨g2c0_b, 0, none⟩))])), (3, [], (.pointer (some ⟨b_1, 0, none⟩))), (4, [], (.pointer (some ⟨b_2, 0, none⟩))), (10, [], (.int .i64 (w64 f0.fSteps))), (11, [], (.int .i64 i_4))]) (fun (j : (List Int)) => match j with | xs_8 => [⟨some g2c0_b, 27, [(.slice (g2c0_o.map fun b => ⟨b, 0, none⟩) g2c0.length g2c0_c)]⟩, ⟨g2c0_o, 2, row encI64 xs_8 g2c0_sp⟩, ⟨some b_1, 43, [(.int .i16 f0.fSteps), (.slice f0_fHammers_a f0.fHammers.length f0_fHammers_c)]⟩, ⟨(some b_2), 150, row encU32 d1.1 []⟩]) ?_ ?_
      · refine jc_block ?_
        obtain ⟨t_13, ht_396, hr_386⟩ := bd h
        refine jc_loop (fun (s : (List Int) × Int) (x : Unit) => match s, x with | ⟨xs_10, i_11⟩, _ => (xs_10.length = g2c0.length) ∧ ((g2c0_o = none → xs_10 = [] ∧ g2c0_c = 0))) (fun (s : (List Int) × Int) (x : Unit) => match s, x with | ⟨xs_10, i_11⟩, _ => [(2, [], (.func (.func 133) #[] #[(.pointer (some ⟨g2c0_b, 0, none⟩))])), (3, [], (.pointer (some ⟨b_1, 0, none⟩))), (4, [], (.pointer (some ⟨b_2, 0, none⟩))), (6, [], (.int .i64 i_4)), (10, [], (.int .i64 (w64 f0.fSteps))), (11, [], (.int .i64 i_4)), (16, [], (.int .i64 t_7)), (17, [], (.int .i64 i_11))]) (fun (s : (List Int) × Int) (x : Unit) => match s, x with | ⟨xs_10, i_11⟩, _ => [⟨some g2c0_b, 27, [(.slice (g2c0_o.map fun b => ⟨b, 0, none⟩) g2c0.length g2c0_c)]⟩, ⟨g2c0_o, 2, row encI64 xs_10 g2c0_sp⟩, ⟨some b_1, 43, [(.int .i16 f0.fSteps), (.slice f0_fHammers_a f0.fHammers.length f0_fHammers_c)]⟩, ⟨(some b_2), 150, row encU32 d1.1 []⟩]) ht_396 () ⟨hn_331, ho_330⟩ (by kernel_rfl) [0, 1, 2, 3] (by kernel_rfl) (by kernel_rfl) ?_
        rintro ⟨xs_10, i_11⟩ _ y_387 ⟨hn_385, ho_384⟩ h
        rw [impl_Frame_pins_at_impl_Frame_byTrack_1.l_12] at h
        refine jc_seq ?_
        refine jc_region ?_
        refine jo_f [(0, 0)] (by kernel_rfl) ?_
        refine jo_end (by kernel_rfl) ?_
        refine jx_then ?_
        refine jc_seq ?_
        refine jc_cond (decide (i_11 < t_7)) (by kernel_rfl) (fun hc_389 => ?_) (fun hc_389 => ?_)
        · replace h := ifT hc_389 h
          refine jc_skip ?_
          refine jx_then ?_
          refine jc_seq ?_
          refine jc_block ?_
          refine jc_seq ?_
          refine jc_region ?_
          refine jo_f [(0, 0), (0, 0)] (by kernel_rfl) ?_
          refine jo_end (by kernel_rfl) ?_
          refine jx_then ?_
          refine jc_seq ?_
          refine jc_region ?_
          refine jo_f [(0, 0), (0, 0)] (by kernel_rfl) ?_
          obtain ⟨t_14, ht_390, h⟩ := bd h
          refine toO (by kernel_rfl) (p_call 0 149 #[(.pointer (some ⟨b_2, 0, none⟩)), (.int .i64 i_4), (.int .i64 i_11)] (by kernel_rfl) (by kernel_rfl) (fun w hm => impl_Drum_has.calls d1 i_4 i_11 w _ b_2 (hm.pass (N := [⟨(some b_2), 150, row encU32 d1.1 []⟩]) [3] (by kernel_rfl) (by kernel_rfl)) ht_390) ?_)
          rintro w v w' hm ⟨rfl, hm'⟩
          refine ⟨_, hm.appW (ps := [(3, ⟨(some b_2), 150, row encU32 d1.1 []⟩)]) (N := []) hm' (by kernel_rfl) (by kernel_rfl), jkO ?_⟩
          clear hm hm'
          refine jo_end (by kernel_rfl) ?_
          refine jx_then ?_
          refine jc_cond t_14 (by kernel_rfl) (fun hc_391 => ?_) (fun hc_391 => ?_)
          · replace h := ifT hc_391 h
            refine jc_region ?_
            refine jo_f [(0, 0), (0, 0), (0, 0)] (by kernel_rfl) ?_
            obtain ⟨t_15, ht_392, h⟩ := bd h
            refine toO (by kernel_rfl) (p_call 0 133 #[(.int .i64 i_4), (.int .i64 i_11), (.pointer (some ⟨g2c0_b, 0, none⟩))] (by kernel_rfl) (by kernel_rfl) (fun w hm => impl_Frame_byTrack_1.calls i_4 i_11 xs_10 w _ g2c0_b g2c0_o g2c0.length g2c0_c g2c0_sp hn_385 g2c0_hs ho_384 (hm.pass (N := [⟨some g2c0_b, 27, [(.slice (g2c0_o.map fun b => ⟨b, 0, none⟩) g2c0.length g2c0_c)]⟩, ⟨g2c0_o, 2, row encI64 xs_10 g2c0_sp⟩]) [0, 1] (by kernel_rfl) (by kernel_rfl)) ht_392) ?_)
            rintro w v w' hm ⟨hn_393, ho_394, rfl, hm'⟩
            refine ⟨_, hm.appW (ps := [(0, ⟨some g2c0_b, 27, [(.slice (g2c0_o.map fun b => ⟨b, 0, none⟩) g2c0.length g2c0_c)]⟩), (1, ⟨g2c0_o, 2, row encI64 t_15 g2c0_sp⟩)]) (N := []) hm' (by kernel_rfl) (by kernel_rfl), jkO ?_⟩
            clear hm hm'
            refine jo_end (by kernel_rfl) ?_
            refine jx_inn ?_
            refine jx_then ?_
            refine jc_region ?_
            refine jo_f [(0, 0), (0, 0)] (by kernel_rfl) ?_
            refine jo_end (by kernel_rfl) ?_
            exact jx_back (t_15, (w64 (i_11 + 1))) () (Option.some.inj h).symm ⟨hn_393, ho_394⟩ [0, 1, 2, 3] (by kernel_rfl) (by kernel_rfl) (by kernel_rfl)
          · replace h := ifF hc_391 h
            refine jc_skip ?_
            refine jx_inn ?_
            refine jx_then ?_
            refine jc_region ?_
            refine jo_f [(0, 0), (0, 0)] (by kernel_rfl) ?_
            refine jo_end (by kernel_rfl) ?_
            exact jx_back (xs_10, (w64 (i_11 + 1))) () (Option.some.inj h).symm ⟨hn_385, ho_384⟩ [0, 1, 2, 3] (by kernel_rfl) (by kernel_rfl) (by kernel_rfl)
        · replace h := ifF hc_389 h
          refine jc_exit ?_
          refine jx_thenx ?_
          refine jx_leave xs_10 (Option.some.inj h).symm (fun e_395 => ?_)
          subst e_395
          refine jx_ine ?_
          exact jx_meet xs_10 ⟨hr_386, hn_385, ho_384⟩ (by kernel_rfl) [0, 1, 2, 3] (by kernel_rfl) (by kernel_rfl)
      · rintro xs_8 ⟨h, hn_367, ho_366⟩
        replace h : impl_Frame_pins_at_impl_Frame_byTrack_1.k_9 i_4 xs_8 = some y_333 := h
        rw [impl_Frame_pins_at_impl_Frame_byTrack_1.k_9] at h
        refine jx_inn ?_
        refine jx_then ?_
        refine jc_region ?_
        refine jo_f [(0, 0), (0, 0)] (by kernel_rfl) ?_
        refine jo_end (by kernel_rfl) ?_
        exact jx_back (xs_8, (w64 (i_4 + 1))) () (Option.some.inj h).symm ⟨hn_367, ho_366⟩ [0, 1, 2, 3] (by kernel_rfl) (by kernel_rfl) (by kernel_rfl)
    · replace h := ifF hc_335 h
      refine jc_exit ?_
      refine jx_thenx ?_
      refine jx_leave xs_3 (Option.some.inj h).symm (fun e_397 => ?_)
      subst e_397
      refine jx_ine ?_
      exact jx_meet xs_3 ⟨hr_332, hn_331, ho_330⟩ (by kernel_rfl) [0, 1, 2, 3] (by kernel_rfl) (by kernel_rfl)
  · rintro xs_1 ⟨h, hn_201, ho_200⟩
    replace h : impl_Frame_pins_at_impl_Frame_byTrack_1.k_2 xs_1 = some r := h
    rw [impl_Frame_pins_at_impl_Frame_byTrack_1.k_2] at h
    refine jx_fall ?_
    obtain rfl := Option.some.inj h
    exact jx_ret [] (.tuple #[]) [] rfl (by kernel_rfl) (by kernel_rfl) (fun w hm => ⟨hn_201, ho_200, rfl, hm.pick [0, 1] (by kernel_rfl) (by kernel_rfl)⟩)

/-! ### (impl.Frame).byTrack -/
noncomputable def impl_Frame_byTrack (f0 : GFrame) (d1 : Arr 96 Int) : Option ((List Int)) := (if 0 ≤ (f0.fHammers.length : Int) ∧ (f0.fHammers.length : Int) ≤ 17592186044416 then (impl_Frame_pins_at_impl_Frame_byTrack_1 f0 d1 (List.replicate (f0.fHammers.length : Int).toNat 0)).bind fun t_1 => some t_1 else none)
set_option maxRecDepth 100000 in
theorem impl_Frame_byTrack.calls (f0 : GFrame) (d1 : Arr 96 Int) (w : World) (r : (List Int)) (f0_fHammers_a : Option Addr) (f0_fHammers_an : Nat) (f0_fHammers_c : Nat) (f0_fHammers_h : Rw w f0_fHammers_a 2 encGHammer f0.fHammers) (f0_fHammers_hn : f0.fHammers.length = f0_fHammers_an) (h : impl_Frame_byTrack f0 d1 = some r) :
    Calls Tryz.prog 101 #[(.agg #[(.int .i16 f0.fSteps), (.slice f0_fHammers_a f0_fHammers_an f0_fHammers_c)]), (.agg (row encU32 d1.1 []).toArray)] w fun e w' => ∃ v, e = .returned v ∧ (∃ (o0 : Option Nat) (c0 : Nat) (s0 : List Value) (n0 : Nat), r.length = n0 ∧ (o0 ≠ none → n0 ≤ c0 ∧ s0.length = (c0 - n0) * 1) ∧ (o0 = none → r = [] ∧ c0 = 0) ∧ v = .slice (o0.map fun b => ⟨b, 0, none⟩) n0 c0 ∧ Mem w [] [⟨o0, 2, row encI64 r s0⟩] w') := by
  subst f0_fHammers_hn
  rw [impl_Frame_byTrack] at h
  refine enter (args := [(.agg #[(.int .i16 f0.fSteps), (.slice f0_fHammers_a f0.fHammers.length f0_fHammers_c)]), (.agg (row encU32 d1.1 []).toArray)]) Tryz.func101 rfl Tryz.ntmps101 (by kernel_rfl) (L := []) (W := []) (Mem.start w) ?_
  refine jc_seq ?_
  refine jc_region ?_
  refine toO (by kernel_rfl) (p_a 0 [0] (by kernel_rfl) (fun b => by kernel_rfl) (fun b_1 => jkO ?_))
  refine toO (by kernel_rfl) (p_a 0 [0] (by kernel_rfl) (fun b => by kernel_rfl) (fun b_2 => jkO ?_))
  refine jo_f [(0, 0)] (by kernel_rfl) ?_
  refine jo_end (by kernel_rfl) ?_
  refine jx_then ?_
  refine jc_seq ?_
  refine jc_region ?_
  refine jo_f [(0, 0), (0, 0), (0, 0)] (by kernel_rfl) ?_
  obtain ⟨hg_8, h⟩ := gd h
  refine toO (by kernel_rfl) (p_mk 0 2 (f0.fHammers.length : Int) 1 8 encI64 0 (by kernel_rfl) (by kernel_rfl) hg_8.1 (by omega) (by kernel_rfl) (fun b_3 => jkO ?_))
  refine toO (by kernel_rfl) (p_a 0 [0] (by kernel_rfl) (fun b => by kernel_rfl) (fun b_4 => jkO ?_))
  refine toO (by kernel_rfl) (p_s 0 [3] (by kernel_rfl) (by kernel_rfl) (jkO ?_))
  refine jo_end (by kernel_rfl) ?_
  refine jx_then ?_
  refine jc_seq ?_
  refine jc_region ?_
  refine jo_f [(0, 0)] (by kernel_rfl) ?_
  refine toO (by kernel_rfl) (p_ldA 0 1 b_2 96 1 150 encU32 d1 (by kernel_rfl) (by kernel_rfl) (by kernel_rfl) encU32_len (by kernel_rfl) (jkO ?_))
  refine jo_f [(0, 0)] (by kernel_rfl) ?_
  obtain ⟨t_1, ht_5, h⟩ := bd h
  refine toO (by kernel_rfl) (p_call 0 132 #[(.agg #[(.int .i16 f0.fSteps), (.slice f0_fHammers_a f0.fHammers.length f0_fHammers_c)]), (.agg (row encU32 d1.1 []).toArray), (.func (.func 133) #[] #[(.pointer (some ⟨b_4, 0, none⟩))])] (by kernel_rfl) (by kernel_rfl) (fun w hm => impl_Frame_pins_at_impl_Frame_byTrack_1.calls f0 d1 (List.replicate (f0.fHammers.length : Int).toNat 0) w _ f0_fHammers_a f0.fHammers.length f0_fHammers_c (hm.exRow f0_fHammers_h List.not_mem_nil) rfl b_4 (some b_3) ((f0.fHammers.length : Int).toNat) ((f0.fHammers.length : Int).toNat) [] List.length_replicate (fun _ => ⟨Nat.le_refl _, by simp⟩) (fun e => nomatch e) (hm.pass (N := [⟨some b_4, 27, [(.slice (some ⟨b_3, 0, none⟩) ((f0.fHammers.length : Int).toNat) ((f0.fHammers.length : Int).toNat))]⟩, ⟨(some b_3), 2, row encI64 (List.replicate (f0.fHammers.length : Int).toNat 0) []⟩]) [3, 2] (by kernel_rfl) (by kernel_rfl)) (hm.exApart (N := [⟨some b_4, 27, [(.slice (some ⟨b_3, 0, none⟩) ((f0.fHammers.length : Int).toNat) ((f0.fHammers.length : Int).toNat))]⟩, ⟨(some b_3), 2, row encI64 (List.replicate (f0.fHammers.length : Int).toNat 0) []⟩]) f0_fHammers_h (fun _ => List.not_mem_nil) [3, 2] (by kernel_rfl)) ht_5) ?_)
  rintro w v w' hm ⟨hn_6, ho_7, rfl, hm'⟩
  refine ⟨_, hm.appW (ps := [(3, ⟨some b_4, 27, [(.slice (some ⟨b_3, 0, none⟩) ((f0.fHammers.length : Int).toNat) ((f0.fHammers.length : Int).toNat))]⟩), (2, ⟨(some b_3), 2, row encI64 t_1 []⟩)]) (N := []) hm' (by kernel_rfl) (by kernel_rfl), jkO ?_⟩
  clear hm hm'
  refine jo_end (by kernel_rfl) ?_
  refine jx_then ?_
  refine jc_seq ?_
  refine jc_region ?_
  refine jo_f [(3, 0), (0, 0)] (by kernel_rfl) ?_
  refine jo_end (by kernel_rfl) ?_
  refine jx_then ?_
  refine jc_ret ?_
  obtain rfl := Option.some.inj h
  exact jx_ret [] (.slice (some ⟨b_3, 0, none⟩) ((f0.fHammers.length : Int).toNat) ((f0.fHammers.length : Int).toNat)) [] rfl (by kernel_rfl) (by kernel_rfl) (fun w hm => ⟨(some b_3), ((f0.fHammers.length : Int).toNat), [], ((f0.fHammers.length : Int).toNat), hn_6, (fun _ => ⟨Nat.le_refl _, by simp⟩), (fun e => nomatch e), rfl, hm.pick [2] (by kernel_rfl) (by kernel_rfl)⟩)

/-! ### impl.TurnWear -/
noncomputable def impl_TurnWear.k_11 (f0 : GFrame) (xs_6 : List GWornPin) (xs_10 : List Int) : Option (GWear × Int) := (impl_ValidWear f0 (⟨xs_6, xs_10⟩ : GWear)).bind fun t_12 => (if (!t_12) = true then some ((⟨[], []⟩ : GWear), 3) else some ((⟨xs_6, xs_10⟩ : GWear), 0))
noncomputable def impl_TurnWear.l_15 (turns2 : Int) (t_9 : (List Int)) : ((List Int) × Int) → Option (((List Int) × Int) ⊕ ((List Int)))
  | (xs_13, i_14) => (if (decide (i_14 < (t_9.length : Int))) = true then (ix t_9 i_14).bind fun x_17 => (ix xs_13 i_14).bind fun x_18 => (ix xs_13 i_14).bind fun x_19 => some (.inl ((xs_13.set i_14.toNat (w64 (x_18 + (w64 (x_17 * turns2))))), (w64 (i_14 + 1)))) else some (.inr xs_13))
noncomputable def impl_TurnWear.k_7 (f0 : GFrame) (w1 : GWear) (turns2 : Int) (t_5 : GWear) (xs_6 : List GWornPin) : Option (GWear × Int) := (impl_Wear_drum w1).bind fun t_8 => (impl_Frame_byTrack f0 t_8).bind fun t_9 => (loop (impl_TurnWear.l_15 turns2 t_9) (t_5.fStrokes, 0)).bind fun t_16 => impl_TurnWear.k_11 f0 xs_6 t_16
noncomputable def impl_TurnWear.l_22 (turns2 : Int) (t_5 : GWear) : ((List GWornPin) × Int) → Option (((List GWornPin) × Int) ⊕ ((List GWornPin)))
  | (xs_20, i_21) => (if (decide (i_21 < (t_5.fPins.length : Int))) = true then (ix xs_20 i_21).bind fun x_24 => (ix xs_20 i_21).bind fun x_25 => some (.inl ((xs_20.set i_21.toNat (⟨x_25.fStep, x_25.fTrack, (w64 (x_24.fTurns + turns2))⟩ : GWornPin)), (w64 (i_21 + 1)))) else some (.inr xs_20))
noncomputable def impl_TurnWear (f0 : GFrame) (w1 : GWear) (turns2 : Int) : Option (GWear × Int) := (impl_wearCode f0 w1 []).bind fun t_1 => (impl_isMade turns2).bind fun t_2 => (impl_unless t_2 2).bind fun t_3 => (impl_firstOf [t_1, t_3]).bind fun t_4 => (if (t_4 != 0) = true then some ((⟨[], []⟩ : GWear), t_4) else (impl_Wear_own w1).bind fun t_5 => (loop (impl_TurnWear.l_22 turns2 t_5) (t_5.fPins, 0)).bind fun t_23 => impl_TurnWear.k_7 f0 w1 turns2 t_5 t_23)
set_option maxRecDepth 100000 in
theorem impl_TurnWear.calls (f0 : GFrame) (w1 : GWear) (turns2 : Int) (w : World) (r : GWear × Int) (f0_fHammers_a : Option Addr) (f0_fHammers_an : Nat) (f0_fHammers_c : Nat) (f0_fHammers_h : Rw w f0_fHammers_a 2 encGHammer f0.fHammers) (f0_fHammers_hn : f0.fHammers.length = f0_fHammers_an) (w1_fPins_a : Option Addr) (w1_fPins_an : Nat) (w1_fPins_c : Nat) (w1_fPins_h : Rw w w1_fPins_a 3 encGWornPin w1.fPins) (w1_fPins_hn : w1.fPins.length = w1_fPins_an) (w1_fStrokes_a : Option Addr) (w1_fStrokes_an : Nat) (w1_fStrokes_c : Nat) (w1_fStrokes_h : Rw w w1_fStrokes_a 1 encI64 w1.fStrokes) (w1_fStrokes_hn : w1.fStrokes.length = w1_fStrokes_an) (h : impl_TurnWear f0 w1 turns2 = some r) :
    Calls Tryz.prog 122 #[(.agg #[(.int .i16 f0.fSteps), (.slice f0_fHammers_a f0_fHammers_an f0_fHammers_c)]), (.agg #[(.slice w1_fPins_a w1_fPins_an w1_fPins_c), (.slice w1_fStrokes_a w1_fStrokes_an w1_fStrokes_c)]), (.int .i64 turns2)] w fun e w' => ∃ v, e = .returned v ∧ (∃ (o0 : Option Nat) (c0 : Nat) (s0 : List Value) (n0 : Nat), r.1.fPins.length = n0 ∧ (o0 ≠ none → n0 ≤ c0 ∧ s0.length = (c0 - n0) * 3) ∧ (o0 = none → r.1.fPins = [] ∧ c0 = 0) ∧ ∃ (o1 : Option Nat) (c1 : Nat) (s1 : List Value) (n1 : Nat), r.1.fStrokes.length = n1 ∧ (o1 ≠ none → n1 ≤ c1 ∧ s1.length = (c1 - n1) * 1) ∧ (o1 = none → r.1.fStrokes = [] ∧ c1 = 0) ∧ v = .tuple #[.agg #[.slice (o0.map fun b => ⟨b, 0, none⟩) n0 c0, .slice (o1.map fun b => ⟨b, 0, none⟩) n1 c1], (.int .i64 r.2)] ∧ Mem w [] [⟨o0, 75, row encGWornPin r.1.fPins s0⟩, ⟨o1, 2, row encI64 r.1.fStrokes s1⟩] w') := by
  subst f0_fHammers_hn w1_fPins_hn w1_fStrokes_hn
  rw [impl_TurnWear] at h
  refine enter (args := [(.agg #[(.int .i16 f0.fSteps), (.slice f0_fHammers_a f0.fHammers.length f0_fHammers_c)]), (.agg #[(.slice w1_fPins_a w1.fPins.length w1_fPins_c), (.slice w1_fStrokes_a w1.fStrokes.length w1_fStrokes_c)]), (.int .i64 turns2)]) Tryz.func122 rfl Tryz.ntmps122 (by kernel_rfl) (L := []) (W := []) (Mem.start w) ?_
  refine jc_seq ?_
  refine jc_region ?_
  refine toO (by kernel_rfl) (p_a 0 [0] (by kernel_rfl) (fun b => by kernel_rfl) (fun b_1 => jkO ?_))
  refine toO (by kernel_rfl) (p_a 0 [0] (by kernel_rfl) (fun b => by kernel_rfl) (fun b_2 => jkO ?_))
  refine toO (by kernel_rfl) (p_a 0 [0] (by kernel_rfl) (fun b => by kernel_rfl) (fun b_3 => jkO ?_))
  refine jo_f [(0, 0)] (by kernel_rfl) ?_
  refine jo_end (by kernel_rfl) ?_
  refine jx_then ?_
  refine jc_seq ?_
  refine jc_seq ?_
  refine jc_region ?_
  refine jo_f [(0, 0), (1, 0)] (by kernel_rfl) ?_
  obtain ⟨t_1, ht_10, h⟩ := bd h
  refine toO (by kernel_rfl) (p_call 0 63 #[(.agg #[(.int .i16 f0.fSteps), (.slice f0_fHammers_a f0.fHammers.length f0_fHammers_c)]), (.agg #[(.slice w1_fPins_a w1.fPins.length w1_fPins_c), (.slice w1_fStrokes_a w1.fStrokes.length w1_fStrokes_c)]), (.slice none 0 0)] (by kernel_rfl) (by kernel_rfl) (fun w hm => impl_wearCode.calls f0 w1 [] w _ f0_fHammers_a f0.fHammers.length f0_fHammers_c (hm.exRow f0_fHammers_h List.not_mem_nil) rfl w1_fPins_a w1.fPins.length w1_fPins_c (hm.exRow w1_fPins_h List.not_mem_nil) rfl w1_fStrokes_a w1.fStrokes.length w1_fStrokes_c (hm.exRow w1_fStrokes_h List.not_mem_nil) rfl none 0 0 Rw.nil rfl ht_10) ?_)
  rintro w v w' hm ⟨rfl, hm'⟩
  refine ⟨_, hm.app hm', jkO ?_⟩
  clear hm hm'
  refine jo_f [(0, 0)] (by kernel_rfl) ?_
  obtain ⟨t_2, ht_11, h⟩ := bd h
  refine toO (by kernel_rfl) (p_call 0 65 #[(.int .i64 turns2)] (by kernel_rfl) (by kernel_rfl) (fun w hm => impl_isMade.calls turns2 w _ ht_11) ?_)
  rintro w v w' hm ⟨rfl, hm'⟩
  refine ⟨_, hm.app hm', jkO ?_⟩
  clear hm hm'
  obtain ⟨t_3, ht_12, h⟩ := bd h
  refine toO (by kernel_rfl) (p_call 0 64 #[(.bool t_2), (.int .i64 2)] (by kernel_rfl) (by kernel_rfl) (fun w hm => impl_unless.calls t_2 2 w _ ht_12) ?_)
  rintro w v w' hm ⟨rfl, hm'⟩
  refine ⟨_, hm.app hm', jkO ?_⟩
  clear hm hm'
  refine toO (by kernel_rfl) (p_a 0 [0] (by kernel_rfl) (fun b => by kernel_rfl) (fun b_13 => jkO ?_))
  obtain ⟨t_4, ht_14, h⟩ := bd h
  refine toO (by kernel_rfl) (p_call 0 62 #[(.slice (some ⟨b_13, 0, none⟩) 2 2)] (by kernel_rfl) (by kernel_rfl) (fun w hm => impl_firstOf.calls [t_1, t_3] w _ (some ⟨b_13, 0, none⟩) 2 2 (hm.ownRow (hh := 3) (o := (some b_13)) (T := 2) (enc := encI64) (xs := [t_1, t_3]) (sp := []) (by kernel_rfl) (fun e => nomatch e) encI64_len) rfl ht_14) ?_)
  rintro w v w' hm ⟨rfl, hm'⟩
  refine ⟨_, hm.app hm', jkO ?_⟩
  clear hm hm'
  refine jo_f [(0, 0)] (by kernel_rfl) ?_
  refine jo_end (by kernel_rfl) ?_
  refine jx_then ?_
  refine jc_seq ?_
  refine jc_region ?_
  refine jo_f [(0, 0), (0, 0)] (by kernel_rfl) ?_
  refine jo_end (by kernel_rfl) ?_
  refine jx_then ?_
  refine jc_cond (t_4 != 0) (by kernel_rfl) (fun hc_15 => ?_) (fun hc_15 => ?_)
  · replace h := ifT hc_15 h
    refine jc_seq ?_
    refine jc_region ?_
    refine jo_f [(0, 0), (0, 0)] (by kernel_rfl) ?_
    refine toO (by kernel_rfl) (p_s 0 [2] (by kernel_rfl) (by kernel_rfl) (jkO ?_))
    refine jo_f [(0, 0)] (by kernel_rfl) ?_
    refine jo_end (by kernel_rfl) ?_
    refine jx_then ?_
    refine jc_ret ?_
    refine jx_thenr ?_
    obtain rfl := Option.some.inj h
    refine jx_ghost 75 encGWornPin ?_
    refine jx_ghost 2 encI64 ?_
    exact jx_ret [2] (.tuple #[(.agg #[(.slice none 0 0), (.slice none 0 0)]), (.int .i64 t_4)]) [(b_3, b_3), (b_3, b_3)] rfl (by kernel_rfl) (by kernel_rfl) (fun w hm => ⟨none, 0, [], 0, rfl, (fun e => absurd rfl e), (fun _ => ⟨rfl, rfl⟩), none, 0, [], 0, rfl, (fun e => absurd rfl e), (fun _ => ⟨rfl, rfl⟩), rfl, hm.pick [4, 5] (by kernel_rfl) (by kernel_rfl)⟩)
  · replace h := ifF hc_15 h
    refine jc_skip ?_
    refine jx_then ?_
    refine jc_seq ?_
    refine jc_region ?_
    refine jo_f [(1, 0)] (by kernel_rfl) ?_
    obtain ⟨t_5, ht_16, h⟩ := bd h
    refine toO (by kernel_rfl) (p_call 0 84 #[(.agg #[(.slice w1_fPins_a w1.fPins.length w1_fPins_c), (.slice w1_fStrokes_a w1.fStrokes.length w1_fStrokes_c)])] (by kernel_rfl) (by kernel_rfl) (fun w hm => impl_Wear_own.calls w1 w _ w1_fPins_a w1.fPins.length w1_fPins_c (hm.exRow w1_fPins_h List.not_mem_nil) rfl w1_fStrokes_a w1.fStrokes.length w1_fStrokes_c (hm.exRow w1_fStrokes_h List.not_mem_nil) rfl ht_16) ?_)
    rintro w v w' hm ⟨o_17, cap_18, sp_19, _, rfl, hs_20, ho_21, o_22, cap_23, sp_24, _, rfl, hs_25, ho_26, rfl, hm'⟩
    refine ⟨_, hm.app hm', jkO ?_⟩
    clear hm hm'
    refine toO (by kernel_rfl) (p_a 0 [0] (by kernel_rfl) (fun b => by kernel_rfl) (fun b_27 => jkO ?_))
    refine toO (by kernel_rfl) (p_s 0 [6] (by kernel_rfl) (by kernel_rfl) (jkO ?_))
    refine jo_end (by kernel_rfl) ?_
    refine jx_then ?_
    refine jc_seq ?_
    refine jc_seq ?_
    refine jc_region ?_
    refine jo_f [(0, 0), (6, 0), (0, 0), (0, 0)] (by kernel_rfl) ?_
    refine jo_end (by kernel_rfl) ?_
    refine jx_then ?_
    refine jc_meet (fun (j : (List GWornPin)) => match j with | xs_6 => impl_TurnWear.k_7 f0 w1 turns2 t_5 xs_6 = some r ∧ (xs_6.length = t_5.fPins.length) ∧ ((o_17 = none → xs_6 = [] ∧ cap_18 = 0))) (fun (j : (List GWornPin)) => match j with | xs_6 => [(2, [], (.int .i64 turns2)), (3, [], (.pointer (some ⟨b_1, 0, none⟩))), (4, [], (.pointer (some ⟨b_2, 0, none⟩))), (6, [], (.pointer (some ⟨b_3, 0, none⟩))), (7, [], (.int .i64 0)), (9, [], (.pointer (some ⟨b_27, 0, none⟩)))]) (fun (j : (List GWornPin)) => match j with | xs_6 => [⟨some b_1, 43, [(.int .i16 f0.fSteps), (.slice f0_fHammers_a f0.fHammers.length f0_fHammers_c)]⟩, ⟨some b_2, 38, [(.slice w1_fPins_a w1.fPins.length w1_fPins_c), (.slice w1_fStrokes_a w1.fStrokes.length w1_fStrokes_c)]⟩, ⟨some b_3, 38, [(.slice none 0 0), (.slice none 0 0)]⟩, ⟨(some b_13), 2, row encI64 [t_1, t_3] []⟩, ⟨o_17, 75, row encGWornPin xs_6 sp_19⟩, ⟨o_22, 2, row encI64 t_5.fStrokes sp_24⟩, ⟨some b_27, 38, [(.slice (o_17.map fun b => ⟨b, 0, none⟩) t_5.fPins.length cap_18), (.slice (o_22.map fun b => ⟨b, 0, none⟩) t_5.fStrokes.length cap_23)]⟩]) ?_ ?_
    · refine jc_block ?_
      obtain ⟨t_23, ht_239, hr_232⟩ := bd h
      refine jc_loop (fun (s : (List GWornPin) × Int) (x : Unit) => match s, x with | ⟨xs_20, i_21⟩, _ => (xs_20.length = t_5.fPins.length) ∧ ((o_17 = none → xs_20 = [] ∧ cap_18 = 0))) (fun (s : (List GWornPin) × Int) (x : Unit) => match s, x with | ⟨xs_20, i_21⟩, _ => [(2, [], (.int .i64 turns2)), (3, [], (.pointer (some ⟨b_1, 0, none⟩))), (4, [], (.pointer (some ⟨b_2, 0, none⟩))), (6, [], (.pointer (some ⟨b_3, 0, none⟩))), (7, [], (.int .i64 0)), (9, [], (.pointer (some ⟨b_27, 0, none⟩))), (29, [], (.int .i64 (t_5.fPins.length : Int))), (30, [], (.int .i64 i_21))]) (fun (s : (List GWornPin) × Int) (x : Unit) => match s, x with | ⟨xs_20, i_21⟩, _ => [⟨some b_1, 43, [(.int .i16 f0.fSteps), (.slice f0_fHammers_a f0.fHammers.length f0_fHammers_c)]⟩, ⟨some b_2, 38, [(.slice w1_fPins_a w1.fPins.length w1_fPins_c), (.slice w1_fStrokes_a w1.fStrokes.length w1_fStrokes_c)]⟩, ⟨some b_3, 38, [(.slice none 0 0), (.slice none 0 0)]⟩, ⟨(some b_13), 2, row encI64 [t_1, t_3] []⟩, ⟨o_17, 75, row encGWornPin xs_20 sp_19⟩, ⟨o_22, 2, row encI64 t_5.fStrokes sp_24⟩, ⟨some b_27, 38, [(.slice (o_17.map fun b => ⟨b, 0, none⟩) t_5.fPins.length cap_18), (.slice (o_22.map fun b => ⟨b, 0, none⟩) t_5.fStrokes.length cap_23)]⟩]) ht_239 () ⟨rfl, ho_21⟩ (by kernel_rfl) [0, 1, 2, 3, 4, 5, 6] (by kernel_rfl) (by kernel_rfl) ?_
      rintro ⟨xs_20, i_21⟩ _ y_233 ⟨hn_231, ho_230⟩ h
      rw [impl_TurnWear.l_22] at h
      refine jc_seq ?_
      refine jc_region ?_
      refine jo_f [(0, 0)] (by kernel_rfl) ?_
      refine jo_end (by kernel_rfl) ?_
      refine jx_then ?_
      refine jc_seq ?_
      refine jc_cond (decide (i_21 < (t_5.fPins.length : Int))) (by kernel_rfl) (fun hc_235 => ?_) (fun hc_235 => ?_)
      · replace h := ifT hc_235 h
        refine jc_skip ?_
        refine jx_then ?_
        refine jc_seq ?_
        refine jc_block ?_
        refine jc_seq ?_
        refine jc_region ?_
        refine jo_f [(0, 0), (0, 0)] (by kernel_rfl) ?_
        refine jo_end (by kernel_rfl) ?_
        refine jx_then ?_
        refine jc_region ?_
        refine jo_f [(0, 0), (6, 0), (0, 0)] (by kernel_rfl) ?_
        obtain ⟨x_24, hx_236, h⟩ := bd h
        refine toO (by kernel_rfl) (p_idx 0 (o_17.map fun b => ⟨b, 0, none⟩) t_5.fPins.length i_21 3 (by kernel_rfl) (by kernel_rfl) (ix_some hx_236).1 (ltn hx_236 hn_231) (spo ho_230 hx_236) (jkO ?_))
        refine jo_f [(0, 0)] (by kernel_rfl) ?_
        refine toO (by kernel_rfl) (p_ld 0 (aB (o_17.map fun b => ⟨b, 0, none⟩)) (aO (o_17.map fun b => ⟨b, 0, none⟩) + i_21.toNat * 3 + 2) false (((encGWornPin x_24).drop 2).take 1) (by kernel_rfl) (by kernel_rfl) (by kernel_rfl) (fun w hm => (((hm.ownRow (hh := 4) (o := o_17) (T := 75) (enc := encGWornPin) (xs := xs_20) (sp := sp_19) (by kernel_rfl) (fun e => (ho_230 e).1) encGWornPin_len).at hx_236).sub 2 1)) (jkO ?_))
        refine jo_f [(0, 0), (0, 0)] (by kernel_rfl) ?_
        obtain ⟨x_25, hx_237, h⟩ := bd h
        refine toO (by kernel_rfl) (p_idx 0 (o_17.map fun b => ⟨b, 0, none⟩) t_5.fPins.length i_21 3 (by kernel_rfl) (by kernel_rfl) (ix_some hx_237).1 (ltn hx_237 hn_231) (spo ho_230 hx_237) (jkO ?_))
        refine jo_f [(0, 0)] (by kernel_rfl) ?_
        refine toO (by kernel_rfl) (p_strO 0 4 o_17 75 encGWornPin xs_20 sp_19 i_21 (⟨x_25.fStep, x_25.fTrack, (w64 (x_24.fTurns + turns2))⟩ : GWornPin) 3 2 [(.int .i64 (w64 (x_24.fTurns + turns2)))] (by kernel_rfl) (by kernel_rfl) (by kernel_rfl) (fun e => (ho_230 e).1) encGWornPin_len hx_237 (by kernel_rfl) (by kernel_rfl) (jkO ?_))
        refine jo_end (by kernel_rfl) ?_
        refine jx_inn ?_
        refine jx_then ?_
        refine jc_region ?_
        refine jo_f [(0, 0), (0, 0)] (by kernel_rfl) ?_
        refine jo_end (by kernel_rfl) ?_
        exact jx_back ((xs_20.set i_21.toNat (⟨x_25.fStep, x_25.fTrack, (w64 (x_24.fTurns + turns2))⟩ : GWornPin)), (w64 (i_21 + 1))) () (Option.some.inj h).symm ⟨(List.length_set.trans hn_231), (set_ho ho_230)⟩ [0, 1, 2, 3, 4, 5, 6] (by kernel_rfl) (by kernel_rfl) (by kernel_rfl)
      · replace h := ifF hc_235 h
        refine jc_exit ?_
        refine jx_thenx ?_
        refine jx_leave xs_20 (Option.some.inj h).symm (fun e_238 => ?_)
        subst e_238
        refine jx_ine ?_
        exact jx_meet xs_20 ⟨hr_232, hn_231, ho_230⟩ (by kernel_rfl) [0, 1, 2, 3, 4, 5, 6] (by kernel_rfl) (by kernel_rfl)
    · rintro xs_6 ⟨h, hn_91, ho_90⟩
      replace h : impl_TurnWear.k_7 f0 w1 turns2 t_5 xs_6 = some r := h
      rw [impl_TurnWear.k_7] at h
      refine jx_then ?_
      refine jc_seq ?_
      refine jc_seq ?_
      refine jc_draw [⟨some b_1, 43, [(.int .i16 f0.fSteps), (.slice f0_fHammers_a f0.fHammers.length f0_fHammers_c)]⟩, ⟨some b_2, 38, [(.slice w1_fPins_a w1.fPins.length w1_fPins_c), (.slice w1_fStrokes_a w1.fStrokes.length w1_fStrokes_c)]⟩, ⟨some b_3, 38, [(.slice none 0 0), (.slice none 0 0)]⟩, ⟨(some b_13), 2, row encI64 [t_1, t_3] []⟩, ⟨o_17, 75, row encGWornPin xs_6 sp_19⟩, ⟨o_22, 2, row encI64 t_5.fStrokes sp_24⟩, ⟨some b_27, 38, [(.slice (o_17.map fun b => ⟨b, 0, none⟩) t_5.fPins.length cap_18), (.slice (o_22.map fun b => ⟨b, 0, none⟩) t_5.fStrokes.length cap_23)]⟩] 6 (by kernel_rfl) (by kernel_rfl) ?_
      refine jd_f [⟨0, 0, 0⟩, ⟨1, 1, 0⟩, ⟨5, 0, 0⟩] 3 (by kernel_rfl) (by kernel_rfl) (fun w h => h.pick [0, 1, 2, 3, 4, 5, 6] (by kernel_rfl) (by kernel_rfl)) (by kernel_rfl) (by kernel_rfl) ?_
      obtain ⟨t_8, ht_161, h⟩ := bd h
      refine toD 2 (by kernel_rfl) (p_call 0 102 #[(.agg #[(.slice w1_fPins_a w1.fPins.length w1_fPins_c), (.slice w1_fStrokes_a w1.fStrokes.length w1_fStrokes_c)])] (by kernel_rfl) (by kernel_rfl) (fun w hm => impl_Wear_drum.calls w1 w _ w1_fPins_a w1.fPins.length w1_fPins_c (hm.exRow w1_fPins_h List.not_mem_nil) rfl w1_fStrokes_a w1.fStrokes.length w1_fStrokes_c (hm.exRow w1_fStrokes_h List.not_mem_nil) rfl ht_161) ?_)
      rintro w v w' hm ⟨rfl, hm'⟩
      refine ⟨_, hm.app hm', jkD (fun w h => h.pick [0, 1, 2, 3, 4, 5, 6] (by kernel_rfl) (by kernel_rfl)) ?_⟩
      clear hm hm'
      obtain ⟨t_9, ht_162, h⟩ := bd h
      refine toD 3 (by kernel_rfl) (p_call 0 101 #[(.agg #[(.int .i16 f0.fSteps), (.slice f0_fHammers_a f0.fHammers.length f0_fHammers_c)]), (.agg (row encU32 t_8.1 []).toArray)] (by kernel_rfl) (by kernel_rfl) (fun w hm => impl_Frame_byTrack.calls f0 t_8 w _ f0_fHammers_a f0.fHammers.length f0_fHammers_c (hm.exRow f0_fHammers_h List.not_mem_nil) rfl ht_162) ?_)
      rintro w v w' hm ⟨o_163, cap_164, sp_165, _, rfl, hs_166, ho_167, rfl, hm'⟩
      refine ⟨_, hm.app hm', jkD (fun w h => h.pick [0, 1, 2, 3, 4, 5, 6] (by kernel_rfl) (by kernel_rfl)) ?_⟩
      clear hm hm'
      refine jd_f [⟨4, 0, 0⟩] 0 (by kernel_rfl) (by kernel_rfl) (fun w h => h.pick [0, 1, 2, 3, 4, 5, 6] (by kernel_rfl) (by kernel_rfl)) (by kernel_rfl) (by kernel_rfl) ?_
      refine jd_end (by kernel_rfl) ?_
      refine jx_then ?_
      refine jc_meet (fun (j : (List Int)) => match j with | xs_10 => impl_TurnWear.k_11 f0 xs_6 xs_10 = some r ∧ (xs_10.length = t_5.fStrokes.length) ∧ ((o_22 = none → xs_10 = [] ∧ cap_23 = 0))) (fun (j : (List Int)) => match j with | xs_10 => [(3, [], (.pointer (some ⟨b_1, 0, none⟩))), (6, [], (.pointer (some ⟨b_3, 0, none⟩))), (7, [], (.int .i64 0)), (9, [], (.pointer (some ⟨b_27, 0, none⟩)))]) (fun (j : (List Int)) => match j with | xs_10 => [⟨some b_1, 43, [(.int .i16 f0.fSteps), (.slice f0_fHammers_a f0.fHammers.length f0_fHammers_c)]⟩, ⟨some b_2, 38, [(.slice w1_fPins_a w1.fPins.length w1_fPins_c), (.slice w1_fStrokes_a w1.fStrokes.length w1_fStrokes_c)]⟩, ⟨some b_3, 38, [(.slice none 0 0), (.slice none 0 0)]⟩, ⟨(some b_13), 2, row encI64 [t_1, t_3] []⟩, ⟨o_17, 75, row encGWornPin xs_6 sp_19⟩, ⟨o_22, 2, row encI64 xs_10 sp_24⟩, ⟨some b_27, 38, [(.slice (o_17.map fun b => ⟨b, 0, none⟩) t_5.fPins.length cap_18), (.slice (o_22.map fun b => ⟨b, 0, none⟩) t_5.fStrokes.length cap_23)]⟩, ⟨o_163, 2, row encI64 t_9 sp_165⟩]) ?_ ?_
      · refine jc_block ?_
        obtain ⟨t_16, ht_219, hr_211⟩ := bd h
        refine jc_loop (fun (s : (List Int) × Int) (x : Unit) => match s, x with | ⟨xs_13, i_14⟩, _ => (xs_13.length = t_5.fStrokes.length) ∧ ((o_22 = none → xs_13 = [] ∧ cap_23 = 0))) (fun (s : (List Int) × Int) (x : Unit) => match s, x with | ⟨xs_13, i_14⟩, _ => [(2, [], (.int .i64 turns2)), (3, [], (.pointer (some ⟨b_1, 0, none⟩))), (6, [], (.pointer (some ⟨b_3, 0, none⟩))), (7, [], (.int .i64 0)), (9, [], (.pointer (some ⟨b_27, 0, none⟩))), (47, [], (.slice (o_163.map fun b => ⟨b, 0, none⟩) t_9.length cap_164)), (48, [], (.int .i64 (t_9.length : Int))), (49, [], (.int .i64 i_14))]) (fun (s : (List Int) × Int) (x : Unit) => match s, x with | ⟨xs_13, i_14⟩, _ => [⟨some b_1, 43, [(.int .i16 f0.fSteps), (.slice f0_fHammers_a f0.fHammers.length f0_fHammers_c)]⟩, ⟨some b_2, 38, [(.slice w1_fPins_a w1.fPins.length w1_fPins_c), (.slice w1_fStrokes_a w1.fStrokes.length w1_fStrokes_c)]⟩, ⟨some b_3, 38, [(.slice none 0 0), (.slice none 0 0)]⟩, ⟨(some b_13), 2, row encI64 [t_1, t_3] []⟩, ⟨o_17, 75, row encGWornPin xs_6 sp_19⟩, ⟨o_22, 2, row encI64 xs_13 sp_24⟩, ⟨some b_27, 38, [(.slice (o_17.map fun b => ⟨b, 0, none⟩) t_5.fPins.length cap_18), (.slice (o_22.map fun b => ⟨b, 0, none⟩) t_5.fStrokes.length cap_23)]⟩, ⟨o_163, 2, row encI64 t_9 sp_165⟩]) ht_219 () ⟨rfl, ho_26⟩ (by kernel_rfl) [0, 1, 2, 3, 4, 5, 6, 7] (by kernel_rfl) (by kernel_rfl) ?_
        rintro ⟨xs_13, i_14⟩ _ y_212 ⟨hn_210, ho_209⟩ h
        rw [impl_TurnWear.l_15] at h
        refine jc_seq ?_
        refine jc_region ?_
        refine jo_f [(0, 0)] (by kernel_rfl) ?_
        refine jo_end (by kernel_rfl) ?_
        refine jx_then ?_
        refine jc_seq ?_
        refine jc_cond (decide (i_14 < (t_9.length : Int))) (by kernel_rfl) (fun hc_214 => ?_) (fun hc_214 => ?_)
        · replace h := ifT hc_214 h
          refine jc_skip ?_
          refine jx_then ?_
          refine jc_seq ?_
          refine jc_block ?_
          refine jc_seq ?_
          refine jc_region ?_
          refine jo_f [(0, 0)] (by kernel_rfl) ?_
          obtain ⟨x_17, hx_215, h⟩ := bd h
          refine toO (by kernel_rfl) (p_idx 0 (o_163.map fun b => ⟨b, 0, none⟩) t_9.length i_14 1 (by kernel_rfl) (by kernel_rfl) (ix_some hx_215).1 (ltn hx_215 rfl) (spo ho_167 hx_215) (jkO ?_))
          refine toO (by kernel_rfl) (p_ld 0 (aB (o_163.map fun b => ⟨b, 0, none⟩)) (aO (o_163.map fun b => ⟨b, 0, none⟩) + i_14.toNat * 1) false (encI64 x_17) (by kernel_rfl) (by kernel_rfl) (by kernel_rfl) (fun w hm => ((hm.ownRow (hh := 7) (o := o_163) (T := 2) (enc := encI64) (xs := t_9) (sp := sp_165) (by kernel_rfl) (fun e => (ho_167 e).1) encI64_len).at hx_215)) (jkO ?_))
          refine jo_f [(0, 0), (0, 0)] (by kernel_rfl) ?_
          refine jo_end (by kernel_rfl) ?_
          refine jx_then ?_
          refine jc_region ?_
          refine jo_f [(0, 0), (6, 0), (0, 0)] (by kernel_rfl) ?_
          obtain ⟨x_18, hx_216, h⟩ := bd h
          refine toO (by kernel_rfl) (p_idx 0 (o_22.map fun b => ⟨b, 0, none⟩) t_5.fStrokes.length i_14 1 (by kernel_rfl) (by kernel_rfl) (ix_some hx_216).1 (ltn hx_216 hn_210) (spo ho_209 hx_216) (jkO ?_))
          refine toO (by kernel_rfl) (p_ld 0 (aB (o_22.map fun b => ⟨b, 0, none⟩)) (aO (o_22.map fun b => ⟨b, 0, none⟩) + i_14.toNat * 1) false (encI64 x_18) (by kernel_rfl) (by kernel_rfl) (by kernel_rfl) (fun w hm => ((hm.ownRow (hh := 5) (o := o_22) (T := 2) (enc := encI64) (xs := xs_13) (sp := sp_24) (by kernel_rfl) (fun e => (ho_209 e).1) encI64_len).at hx_216)) (jkO ?_))
          refine jo_f [(0, 0), (0, 0), (0, 0), (0, 0)] (by kernel_rfl) ?_
          obtain ⟨x_19, hx_217, h⟩ := bd h
          refine toO (by kernel_rfl) (p_idx 0 (o_22.map fun b => ⟨b, 0, none⟩) t_5.fStrokes.length i_14 1 (by kernel_rfl) (by kernel_rfl) (ix_some hx_217).1 (ltn hx_217 hn_210) (spo ho_209 hx_217) (jkO ?_))
          refine toO (by kernel_rfl) (p_strO 0 5 o_22 2 encI64 xs_13 sp_24 i_14 (w64 (x_18 + (w64 (x_17 * turns2)))) 1 0 [(.int .i64 (w64 (x_18 + (w64 (x_17 * turns2)))))] (by kernel_rfl) (by kernel_rfl) (by kernel_rfl) (fun e => (ho_209 e).1) encI64_len hx_217 (by kernel_rfl) (by kernel_rfl) (jkO ?_))
          refine jo_end (by kernel_rfl) ?_
          refine jx_inn ?_
          refine jx_then ?_
          refine jc_region ?_
          refine jo_f [(0, 0), (0, 0)] (by kernel_rfl) ?_
          refine jo_end (by kernel_rfl) ?_
          exact jx_back ((xs_13.set i_14.toNat (w64 (x_18 + (w64 (x_17 * turns2))))), (w64 (i_14 + 1))) () (Option.some.inj h).symm ⟨(List.length_set.trans hn_210), (set_ho ho_209)⟩ [0, 1, 2, 3, 4, 5, 6, 7] (by kernel_rfl) (by kernel_rfl) (by kernel_rfl)
        · replace h := ifF hc_214 h
          refine jc_exit ?_
          refine jx_thenx ?_
          refine jx_leave xs_13 (Option.some.inj h).symm (fun e_218 => ?_)
          subst e_218
          refine jx_ine ?_
          exact jx_meet xs_13 ⟨hr_211, hn_210, ho_209⟩ (by kernel_rfl) [0, 1, 2, 3, 4, 5, 6, 7] (by kernel_rfl) (by kernel_rfl)
      · rintro xs_10 ⟨h, hn_192, ho_191⟩
        replace h : impl_TurnWear.k_11 f0 xs_6 xs_10 = some r := h
        rw [impl_TurnWear.k_11] at h
        refine jx_then ?_
        refine jc_seq ?_
        refine jc_seq ?_
        refine jc_region ?_
        refine jo_f [(0, 0), (6, 0)] (by kernel_rfl) ?_
        obtain ⟨t_12, ht_195, h⟩ := bd h
        refine toO (by kernel_rfl) (p_call 0 97 #[(.agg #[(.int .i16 f0.fSteps), (.slice f0_fHammers_a f0.fHammers.length f0_fHammers_c)]), (.agg #[(.slice (o_17.map fun b => ⟨b, 0, none⟩) t_5.fPins.length cap_18), (.slice (o_22.map fun b => ⟨b, 0, none⟩) t_5.fStrokes.length cap_23)])] (by kernel_rfl) (by kernel_rfl) (fun w hm => impl_ValidWear.calls f0 (⟨xs_6, xs_10⟩ : GWear) w _ f0_fHammers_a f0.fHammers.length f0_fHammers_c (hm.exRow f0_fHammers_h List.not_mem_nil) rfl (o_17.map fun b => ⟨b, 0, none⟩) t_5.fPins.length cap_18 (hm.ownRow (hh := 4) (o := o_17) (T := 75) (enc := encGWornPin) (xs := xs_6) (sp := sp_19) (by kernel_rfl) (fun e => (ho_90 e).1) encGWornPin_len) hn_91 (o_22.map fun b => ⟨b, 0, none⟩) t_5.fStrokes.length cap_23 (hm.ownRow (hh := 5) (o := o_22) (T := 2) (enc := encI64) (xs := xs_10) (sp := sp_24) (by kernel_rfl) (fun e => (ho_191 e).1) encI64_len) hn_192 ht_195) ?_)
        rintro w v w' hm ⟨rfl, hm'⟩
        refine ⟨_, hm.app hm', jkO ?_⟩
        clear hm hm'
        refine jo_f [(0, 0)] (by kernel_rfl) ?_
        refine jo_end (by kernel_rfl) ?_
        refine jx_then ?_
        refine jc_cond (!t_12) (by kernel_rfl) (fun hc_196 => ?_) (fun hc_196 => ?_)
        · replace h := ifT hc_196 h
          refine jc_seq ?_
          refine jc_region ?_
          refine jo_f [(0, 0)] (by kernel_rfl) ?_
          refine toO (by kernel_rfl) (p_s 0 [2] (by kernel_rfl) (by kernel_rfl) (jkO ?_))
          refine jo_f [(0, 0)] (by kernel_rfl) ?_
          refine jo_end (by kernel_rfl) ?_
          refine jx_then ?_
          refine jc_ret ?_
          refine jx_thenr ?_
          obtain rfl := Option.some.inj h
          refine jx_ghost 75 encGWornPin ?_
          refine jx_ghost 2 encI64 ?_
          exact jx_ret [2] (.tuple #[(.agg #[(.slice none 0 0), (.slice none 0 0)]), (.int .i64 3)]) [(b_3, b_3), (b_3, b_3)] rfl (by kernel_rfl) (by kernel_rfl) (fun w hm => ⟨none, 0, [], 0, rfl, (fun e => absurd rfl e), (fun _ => ⟨rfl, rfl⟩), none, 0, [], 0, rfl, (fun e => absurd rfl e), (fun _ => ⟨rfl, rfl⟩), rfl, hm.pick [8, 9] (by kernel_rfl) (by kernel_rfl)⟩)
        · replace h := ifF hc_196 h
          refine jc_skip ?_
          refine jx_then ?_
          refine jc_seq ?_
          refine jc_region ?_
          refine jo_f [(6, 0)] (by kernel_rfl) ?_
          refine toO (by kernel_rfl) (p_s 0 [2] (by kernel_rfl) (by kernel_rfl) (jkO ?_))
          refine jo_f [(0, 0)] (by kernel_rfl) ?_
          refine jo_end (by kernel_rfl) ?_
          refine jx_then ?_
          refine jc_ret ?_
          obtain rfl := Option.some.inj h
          exact jx_ret [2] (.tuple #[(.agg #[(.slice (o_17.map fun b => ⟨b, 0, none⟩) t_5.fPins.length cap_18), (.slice (o_22.map fun b => ⟨b, 0, none⟩) t_5.fStrokes.length cap_23)]), (.int .i64 0)]) [(b_3, b_3), (b_3, b_3)] rfl (by kernel_rfl) (by kernel_rfl) (fun w hm => ⟨o_17, cap_18, sp_19, t_5.fPins.length, hn_91, hs_20, ho_90, o_22, cap_23, sp_24, t_5.fStrokes.length, hn_192, hs_25, ho_191, rfl, hm.pick [4, 5] (by kernel_rfl) (by kernel_rfl)⟩)

/-! ### impl.wornPlaceCode$1 -/
noncomputable def impl_wornPlaceCode_1 (p0 : Arr 2 Int) (p1 : GFrame) : Option (Bool) := (ix p0.1 0).bind fun x_1 => (ix p0.1 1).bind fun x_2 => (impl_Frame_isPlace p1 x_1 x_2).bind fun t_3 => some (!t_3)
set_option maxRecDepth 100000 in
theorem impl_wornPlaceCode_1.calls (p0 : Arr 2 Int) (p1 : GFrame) (w : World) (r : Bool) (p1_fHammers_a : Option Addr) (p1_fHammers_an : Nat) (p1_fHammers_c : Nat) (p1_fHammers_h : Rw w p1_fHammers_a 2 encGHammer p1.fHammers) (p1_fHammers_hn : p1.fHammers.length = p1_fHammers_an) (p1_b : Nat) (hm0 : Mem w (bs [some p1_b]) [⟨some p1_b, 43, [(.int .i16 p1.fSteps), (.slice p1_fHammers_a p1_fHammers_an p1_fHammers_c)]⟩] w) (p1_fHammers_ha : p1.fHammers ≠ [] → aB p1_fHammers_a ∉ bs [some p1_b]) (h : impl_wornPlaceCode_1 p0 p1 = some r) :
    Calls Tryz.prog 110 #[(.agg (row encI64 p0.1 []).toArray), (.pointer (some ⟨p1_b, 0, none⟩))] w fun e w' => ∃ v, e = .returned v ∧ (v = (.bool r) ∧ Mem w (bs [some p1_b]) [⟨some p1_b, 43, [(.int .i16 p1.fSteps), (.slice p1_fHammers_a p1_fHammers_an p1_fHammers_c)]⟩] w') := by
  subst p1_fHammers_hn
  rw [impl_wornPlaceCode_1] at h
  refine enter (args := [(.agg (row encI64 p0.1 []).toArray), (.pointer (some ⟨p1_b, 0, none⟩))]) Tryz.func110 rfl Tryz.ntmps110 (by kernel_rfl) (L := [⟨some p1_b, 43, [(.int .i16 p1.fSteps), (.slice p1_fHammers_a p1.fHammers.length p1_fHammers_c)]⟩]) (W := bs [some p1_b]) hm0 ?_
  refine jc_seq ?_
  refine jc_region ?_
  refine toO (by kernel_rfl) (p_a 0 [0] (by kernel_rfl) (fun b => by kernel_rfl) (fun b_1 => jkO ?_))
  refine jo_f [(0, 0)] (by kernel_rfl) ?_
  refine jo_end (by kernel_rfl) ?_
  refine jx_then ?_
  refine jc_seq ?_
  refine jc_region ?_
  refine jo_f [(0, 0)] (by kernel_rfl) ?_
  obtain ⟨x_1, hx_2, h⟩ := bd h
  refine toO (by kernel_rfl) (p_idx 0 (some ⟨b_1, 0, none⟩) 2 0 1 (by kernel_rfl) (by kernel_rfl) (ix_some hx_2).1 (ltn hx_2 p0.2) rfl (jkO ?_))
  refine toO (by kernel_rfl) (p_ld 0 (aB (some ⟨b_1, 0, none⟩)) (aO (some ⟨b_1, 0, none⟩) + (0 : Int).toNat * 1) false (encI64 x_1) (by kernel_rfl) (by kernel_rfl) (by kernel_rfl) (fun w hm => ((hm.ownRow (hh := 1) (o := (some b_1)) (T := 128) (enc := encI64) (xs := p0.1) (sp := []) (by kernel_rfl) (fun e => nomatch e) encI64_len).at hx_2)) (jkO ?_))
  obtain ⟨x_2, hx_3, h⟩ := bd h
  refine toO (by kernel_rfl) (p_idx 0 (some ⟨b_1, 0, none⟩) 2 1 1 (by kernel_rfl) (by kernel_rfl) (ix_some hx_3).1 (ltn hx_3 p0.2) rfl (jkO ?_))
  refine toO (by kernel_rfl) (p_ld 0 (aB (some ⟨b_1, 0, none⟩)) (aO (some ⟨b_1, 0, none⟩) + (1 : Int).toNat * 1) false (encI64 x_2) (by kernel_rfl) (by kernel_rfl) (by kernel_rfl) (fun w hm => ((hm.ownRow (hh := 1) (o := (some b_1)) (T := 128) (enc := encI64) (xs := p0.1) (sp := []) (by kernel_rfl) (fun e => nomatch e) encI64_len).at hx_3)) (jkO ?_))
  obtain ⟨t_3, ht_4, h⟩ := bd h
  refine toO (by kernel_rfl) (p_call 0 111 #[(.agg #[(.int .i16 p1.fSteps), (.slice p1_fHammers_a p1.fHammers.length p1_fHammers_c)]), (.int .i64 x_1), (.int .i64 x_2)] (by kernel_rfl) (by kernel_rfl) (fun w hm => impl_Frame_isPlace.calls p1 x_1 x_2 w _ p1_fHammers_a p1.fHammers.length p1_fHammers_c (hm.exRowW p1_fHammers_h p1_fHammers_ha) rfl ht_4) ?_)
  rintro w v w' hm ⟨rfl, hm'⟩
  refine ⟨_, hm.app hm', jkO ?_⟩
  clear hm hm'
  refine jo_f [(0, 0), (0, 0)] (by kernel_rfl) ?_
  refine jo_end (by kernel_rfl) ?_
  refine jx_then ?_
  refine jc_ret ?_
  obtain rfl := Option.some.inj h
  exact jx_ret [] (.bool (!t_3)) [] rfl (by kernel_rfl) (by kernel_rfl) (fun w hm => ⟨rfl, hm.pick [0] (by kernel_rfl) (by kernel_rfl)⟩)

/-! ### slices.IndexFunc[[][2]int64,[2]int64] -/
noncomputable def slices_IndexFunc_2int64_at_impl_wornPlaceCode_1.k_1 : Option (Int) := some (-1)
noncomputable def slices_IndexFunc_2int64_at_impl_wornPlaceCode_1.l_3 (s0 : List (Arr 2 Int)) (g1c0 : GFrame) : Int → Option ((Int) ⊕ (Int ⊕ Unit))
  | i_2 => (if (decide (i_2 < (s0.length : Int))) = true then (ix s0 i_2).bind fun x_5 => (impl_wornPlaceCode_1 x_5 g1c0).bind fun t_6 => (if t_6 = true then some (.inr (.inl i_2)) else some (.inl (w64 (i_2 + 1)))) else some (.inr (.inr ())))
noncomputable def slices_IndexFunc_2int64_at_impl_wornPlaceCode_1 (s0 : List (Arr 2 Int)) (g1c0 : GFrame) : Option (Int) := (loop (slices_IndexFunc_2int64_at_impl_wornPlaceCode_1.l_3 s0 g1c0) 0).bind fun t_4 => match t_4 with | .inl p => some p | .inr p => slices_IndexFunc_2int64_at_impl_wornPlaceCode_1.k_1
set_option maxRecDepth 100000 in
theorem slices_IndexFunc_2int64_at_impl_wornPlaceCode_1.calls (s0 : List (Arr 2 Int)) (g1c0 : GFrame) (w : World) (r : Int) (s0_a : Option Addr) (s0_an : Nat) (s0_c : Nat) (s0_h : Rw w s0_a 2 encA2I64 s0) (s0_hn : s0.length = s0_an) (g1c0_fHammers_a : Option Addr) (g1c0_fHammers_an : Nat) (g1c0_fHammers_c : Nat) (g1c0_fHammers_h : Rw w g1c0_fHammers_a 2 encGHammer g1c0.fHammers) (g1c0_fHammers_hn : g1c0.fHammers.length = g1c0_fHammers_an) (g1c0_b : Nat) (hm0 : Mem w (bs [some g1c0_b]) [⟨some g1c0_b, 43, [(.int .i16 g1c0.fSteps), (.slice g1c0_fHammers_a g1c0_fHammers_an g1c0_fHammers_c)]⟩] w) (s0_ha : s0 ≠ [] → aB s0_a ∉ bs [some g1c0_b]) (g1c0_fHammers_ha : g1c0.fHammers ≠ [] → aB g1c0_fHammers_a ∉ bs [some g1c0_b]) (h : slices_IndexFunc_2int64_at_impl_wornPlaceCode_1 s0 g1c0 = some r) :
    Calls Tryz.prog 136 #[(.slice s0_a s0_an s0_c), (.func (.func 110) #[] #[(.pointer (some ⟨g1c0_b, 0, none⟩))])] w fun e w' => ∃ v, e = .returned v ∧ (v = (.int .i64 r) ∧ Mem w (bs [some g1c0_b]) [⟨some g1c0_b, 43, [(.int .i16 g1c0.fSteps), (.slice g1c0_fHammers_a g1c0_fHammers_an g1c0_fHammers_c)]⟩] w') := by
  subst s0_hn g1c0_fHammers_hn
  rw [slices_IndexFunc_2int64_at_impl_wornPlaceCode_1] at h
  refine enter (args := [(.slice s0_a s0.length s0_c), (.func (.func 110) #[] #[(.pointer (some ⟨g1c0_b, 0, none⟩))])]) Tryz.func136 rfl Tryz.ntmps136 (by kernel_rfl) (L := [⟨some g1c0_b, 43, [(.int .i16 g1c0.fSteps), (.slice g1c0_fHammers_a g1c0.fHammers.length g1c0_fHammers_c)]⟩]) (W := bs [some g1c0_b]) hm0 ?_
  refine jc_seq ?_
  refine jc_region ?_
  refine jo_f [(0, 0)] (by kernel_rfl) ?_
  refine jo_end (by kernel_rfl) ?_
  refine jx_then ?_
  refine jc_seq ?_
  refine jc_seq ?_
  refine jc_region ?_
  refine jo_f [(0, 0), (0, 0), (0, 0)] (by kernel_rfl) ?_
  refine jo_end (by kernel_rfl) ?_
  refine jx_then ?_
  refine jc_meet (fun (_ : Unit) => slices_IndexFunc_2int64_at_impl_wornPlaceCode_1.k_1 = some r) (fun (_ : Unit) => [(4, [], (.int .i64 0))]) (fun (_ : Unit) => [⟨some g1c0_b, 43, [(.int .i16 g1c0.fSteps), (.slice g1c0_fHammers_a g1c0.fHammers.length g1c0_fHammers_c)]⟩]) ?_ ?_
  · refine jc_block ?_
    obtain ⟨t_4, ht_40, hr_31⟩ := bd h
    refine jc_loop (fun (s : Int) (x : Unit) => match s, x with | i_2, _ => True) (fun (s : Int) (x : Unit) => match s, x with | i_2, _ => [(0, [], (.slice s0_a s0.length s0_c)), (1, [], (.func (.func 110) #[] #[(.pointer (some ⟨g1c0_b, 0, none⟩))])), (4, [], (.int .i64 0)), (7, [], (.int .i64 (s0.length : Int))), (8, [], (.int .i64 i_2))]) (fun (s : Int) (x : Unit) => match s, x with | i_2, _ => [⟨some g1c0_b, 43, [(.int .i16 g1c0.fSteps), (.slice g1c0_fHammers_a g1c0.fHammers.length g1c0_fHammers_c)]⟩]) ht_40 () trivial (by kernel_rfl) [0] (by kernel_rfl) (by kernel_rfl) ?_
    rintro i_2 _ y_32 _ h
    rw [slices_IndexFunc_2int64_at_impl_wornPlaceCode_1.l_3] at h
    refine jc_seq ?_
    refine jc_region ?_
    refine jo_f [(0, 0)] (by kernel_rfl) ?_
    refine jo_end (by kernel_rfl) ?_
    refine jx_then ?_
    refine jc_seq ?_
    refine jc_cond (decide (i_2 < (s0.length : Int))) (by kernel_rfl) (fun hc_34 => ?_) (fun hc_34 => ?_)
    · replace h := ifT hc_34 h
      refine jc_skip ?_
      refine jx_then ?_
      refine jc_seq ?_
      refine jc_block ?_
      refine jc_seq ?_
      refine jc_region ?_
      refine jo_f [(0, 0), (0, 0)] (by kernel_rfl) ?_
      refine jo_end (by kernel_rfl) ?_
      refine jx_then ?_
      refine jc_seq ?_
      refine jc_region ?_
      refine jo_f [(0, 0), (0, 0), (0, 0)] (by kernel_rfl) ?_
      obtain ⟨x_5, hx_35, h⟩ := bd h
      refine toO (by kernel_rfl) (p_idx 0 s0_a s0.length i_2 2 (by kernel_rfl) (by kernel_rfl) (ix_some hx_35).1 (ltn hx_35 rfl) (s0_h.sp hx_35) (jkO ?_))
      refine toO (by kernel_rfl) (p_ldx 0 (aB s0_a) (aO s0_a + i_2.toNat * 2) (encA2I64 x_5) 2 (by kernel_rfl) (by kernel_rfl) (encA2I64_len x_5) (fun w hm => ((hm.exRowW s0_h s0_ha).at hx_35)) (jkO ?_))
      obtain ⟨t_6, ht_36, h⟩ := bd h
      refine toO (by kernel_rfl) (p_call 0 110 #[(.agg (row encI64 x_5.1 []).toArray), (.pointer (some ⟨g1c0_b, 0, none⟩))] (by kernel_rfl) (by kernel_rfl) (fun w hm => impl_wornPlaceCode_1.calls x_5 g1c0 w _ g1c0_fHammers_a g1c0.fHammers.length g1c0_fHammers_c (hm.exRowW g1c0_fHammers_h g1c0_fHammers_ha) rfl g1c0_b (hm.pass (N := [⟨some g1c0_b, 43, [(.int .i16 g1c0.fSteps), (.slice g1c0_fHammers_a g1c0.fHammers.length g1c0_fHammers_c)]⟩]) [0] (by kernel_rfl) (by kernel_rfl)) (hm.exApart (N := [⟨some g1c0_b, 43, [(.int .i16 g1c0.fSteps), (.slice g1c0_fHammers_a g1c0.fHammers.length g1c0_fHammers_c)]⟩]) g1c0_fHammers_h g1c0_fHammers_ha [0] (by kernel_rfl)) ht_36) ?_)
      rintro w v w' hm ⟨rfl, hm'⟩
      refine ⟨_, hm.appW (ps := [(0, ⟨some g1c0_b, 43, [(.int .i16 g1c0.fSteps), (.slice g1c0_fHammers_a g1c0.fHammers.length g1c0_fHammers_c)]⟩)]) (N := []) hm' (by kernel_rfl) (by kernel_rfl), jkO ?_⟩
      clear hm hm'
      refine jo_end (by kernel_rfl) ?_
      refine jx_then ?_
      refine jc_cond t_6 (by kernel_rfl) (fun hc_37 => ?_) (fun hc_37 => ?_)
      · replace h := ifT hc_37 h
        refine jc_seq ?_
        refine jc_region ?_
        refine jo_f [(0, 0), (0, 0)] (by kernel_rfl) ?_
        refine jo_end (by kernel_rfl) ?_
        refine jx_then ?_
        refine jc_ret ?_
        refine jx_inr ?_
        refine jx_thenr ?_
        refine jx_leaver (.inl i_2) (Option.some.inj h).symm (fun e_38 => ?_)
        subst e_38
        refine jx_inr ?_
        refine jx_thenr ?_
        refine jx_thenr ?_
        obtain rfl := Option.some.inj hr_31
        exact jx_ret [] (.int .i64 i_2) [] rfl (by kernel_rfl) (by kernel_rfl) (fun w hm => ⟨rfl, hm.pick [0] (by kernel_rfl) (by kernel_rfl)⟩)
      · replace h := ifF hc_37 h
        refine jc_skip ?_
        refine jx_inn ?_
        refine jx_then ?_
        refine jc_region ?_
        refine jo_f [(0, 0), (0, 0)] (by kernel_rfl) ?_
        refine jo_end (by kernel_rfl) ?_
        exact jx_back (w64 (i_2 + 1)) () (Option.some.inj h).symm trivial [0] (by kernel_rfl) (by kernel_rfl) (by kernel_rfl)
    · replace h := ifF hc_34 h
      refine jc_exit ?_
      refine jx_thenx ?_
      refine jx_leave (.inr ()) (Option.some.inj h).symm (fun e_39 => ?_)
      subst e_39
      refine jx_ine ?_
      exact jx_meet () hr_31 (by kernel_rfl) [0] (by kernel_rfl) (by kernel_rfl)
  · rintro _ h
    replace h : slices_IndexFunc_2int64_at_impl_wornPlaceCode_1.k_1 = some r := h
    rw [slices_IndexFunc_2int64_at_impl_wornPlaceCode_1.k_1] at h
    refine jx_then ?_
    refine jc_seq ?_
    refine jc_region ?_
    refine jo_f [(0, 0)] (by kernel_rfl) ?_
    refine jo_end (by kernel_rfl) ?_
    refine jx_then ?_
    refine jc_ret ?_
    obtain rfl := Option.some.inj h
    exact jx_ret [] (.int .i64 (-1)) [] rfl (by kernel_rfl) (by kernel_rfl) (fun w hm => ⟨rfl, hm.pick [0] (by kernel_rfl) (by kernel_rfl)⟩)

/-! ### slices.ContainsFunc[[][2]int64,[2]int64] -/
noncomputable def slices_ContainsFunc_2int64_at_impl_wornPlaceCode_1 (s0 : List (Arr 2 Int)) (g1c0 : GFrame) : Option (Bool) := (slices_IndexFunc_2int64_at_impl_wornPlaceCode_1 s0 g1c0).bind fun t_1 => some (decide (t_1 ≥ 0))
set_option maxRecDepth 100000 in
theorem slices_ContainsFunc_2int64_at_impl_wornPlaceCode_1.calls (s0 : List (Arr 2 Int)) (g1c0 : GFrame) (w : World) (r : Bool) (s0_a : Option Addr) (s0_an : Nat) (s0_c : Nat) (s0_h : Rw w s0_a 2 encA2I64 s0) (s0_hn : s0.length = s0_an) (g1c0_fHammers_a : Option Addr) (g1c0_fHammers_an : Nat) (g1c0_fHammers_c : Nat) (g1c0_fHammers_h : Rw w g1c0_fHammers_a 2 encGHammer g1c0.fHammers) (g1c0_fHammers_hn : g1c0.fHammers.length = g1c0_fHammers_an) (g1c0_b : Nat) (hm0 : Mem w (bs [some g1c0_b]) [⟨some g1c0_b, 43, [(.int .i16 g1c0.fSteps), (.slice g1c0_fHammers_a g1c0_fHammers_an g1c0_fHammers_c)]⟩] w) (s0_ha : s0 ≠ [] → aB s0_a ∉ bs [some g1c0_b]) (g1c0_fHammers_ha : g1c0.fHammers ≠ [] → aB g1c0_fHammers_a ∉ bs [some g1c0_b]) (h : slices_ContainsFunc_2int64_at_impl_wornPlaceCode_1 s0 g1c0 = some r) :
    Calls Tryz.prog 109 #[(.slice s0_a s0_an s0_c), (.func (.func 110) #[] #[(.pointer (some ⟨g1c0_b, 0, none⟩))])] w fun e w' => ∃ v, e = .returned v ∧ (v = (.bool r) ∧ Mem w (bs [some g1c0_b]) [⟨some g1c0_b, 43, [(.int .i16 g1c0.fSteps), (.slice g1c0_fHammers_a g1c0_fHammers_an g1c0_fHammers_c)]⟩] w') := by
  subst s0_hn g1c0_fHammers_hn
  rw [slices_ContainsFunc_2int64_at_impl_wornPlaceCode_1] at h
  refine enter (args := [(.slice s0_a s0.length s0_c), (.func (.func 110) #[] #[(.pointer (some ⟨g1c0_b, 0, none⟩))])]) Tryz.func109 rfl Tryz.ntmps109 (by kernel_rfl) (L := [⟨some g1c0_b, 43, [(.int .i16 g1c0.fSteps), (.slice g1c0_fHammers_a g1c0.fHammers.length g1c0_fHammers_c)]⟩]) (W := bs [some g1c0_b]) hm0 ?_
  refine jc_seq ?_
  refine jc_region ?_
  refine jo_f [(0, 0)] (by kernel_rfl) ?_
  refine jo_end (by kernel_rfl) ?_
  refine jx_then ?_
  refine jc_seq ?_
  refine jc_region ?_
  refine jo_f [(0, 0), (0, 0)] (by kernel_rfl) ?_
  obtain ⟨t_1, ht_1, h⟩ := bd h
  refine toO (by kernel_rfl) (p_call 0 136 #[(.slice s0_a s0.length s0_c), (.func (.func 110) #[] #[(.pointer (some ⟨g1c0_b, 0, none⟩))])] (by kernel_rfl) (by kernel_rfl) (fun w hm => slices_IndexFunc_2int64_at_impl_wornPlaceCode_1.calls s0 g1c0 w _ s0_a s0.length s0_c (hm.exRowW s0_h s0_ha) rfl g1c0_fHammers_a g1c0.fHammers.length g1c0_fHammers_c (hm.exRowW g1c0_fHammers_h g1c0_fHammers_ha) rfl g1c0_b (hm.pass (N := [⟨some g1c0_b, 43, [(.int .i16 g1c0.fSteps), (.slice g1c0_fHammers_a g1c0.fHammers.length g1c0_fHammers_c)]⟩]) [0] (by kernel_rfl) (by kernel_rfl)) (hm.exApart (N := [⟨some g1c0_b, 43, [(.int .i16 g1c0.fSteps), (.slice g1c0_fHammers_a g1c0.fHammers.length g1c0_fHammers_c)]⟩]) s0_h s0_ha [0] (by kernel_rfl)) (hm.exApart (N := [⟨some g1c0_b, 43, [(.int .i16 g1c0.fSteps), (.slice g1c0_fHammers_a g1c0.fHammers.length g1c0_fHammers_c)]⟩]) g1c0_fHammers_h g1c0_fHammers_ha [0] (by kernel_rfl)) ht_1) ?_)
  rintro w v w' hm ⟨rfl, hm'⟩
  refine ⟨_, hm.appW (ps := [(0, ⟨some g1c0_b, 43, [(.int .i16 g1c0.fSteps), (.slice g1c0_fHammers_a g1c0.fHammers.length g1c0_fHammers_c)]⟩)]) (N := []) hm' (by kernel_rfl) (by kernel_rfl), jkO ?_⟩
  clear hm hm'
  refine jo_f [(0, 0), (0, 0)] (by kernel_rfl) ?_
  refine jo_end (by kernel_rfl) ?_
  refine jx_then ?_
  refine jc_ret ?_
  obtain rfl := Option.some.inj h
  exact jx_ret [] (.bool (decide (t_1 ≥ 0))) [] rfl (by kernel_rfl) (by kernel_rfl) (fun w hm => ⟨rfl, hm.pick [0] (by kernel_rfl) (by kernel_rfl)⟩)

/-! ### impl.wornPlaceCode -/
noncomputable def impl_wornPlaceCode (f0 : GFrame) (w1 : GWear) (places2 : List (Arr 2 Int)) : Option (Int) := (impl_wearCode f0 w1 []).bind fun t_1 => (if (t_1 != 0) = true then some t_1 else (slices_ContainsFunc_2int64_at_impl_wornPlaceCode_1 places2 f0).bind fun t_2 => (impl_unless (!t_2) 2).bind fun t_3 => some t_3)
set_option maxRecDepth 100000 in
theorem impl_wornPlaceCode.calls (f0 : GFrame) (w1 : GWear) (places2 : List (Arr 2 Int)) (w : World) (r : Int) (f0_fHammers_a : Option Addr) (f0_fHammers_an : Nat) (f0_fHammers_c : Nat) (f0_fHammers_h : Rw w f0_fHammers_a 2 encGHammer f0.fHammers) (f0_fHammers_hn : f0.fHammers.length = f0_fHammers_an) (w1_fPins_a : Option Addr) (w1_fPins_an : Nat) (w1_fPins_c : Nat) (w1_fPins_h : Rw w w1_fPins_a 3 encGWornPin w1.fPins) (w1_fPins_hn : w1.fPins.length = w1_fPins_an) (w1_fStrokes_a : Option Addr) (w1_fStrokes_an : Nat) (w1_fStrokes_c : Nat) (w1_fStrokes_h : Rw w w1_fStrokes_a 1 encI64 w1.fStrokes) (w1_fStrokes_hn : w1.fStrokes.length = w1_fStrokes_an) (places2_a : Option Addr) (places2_an : Nat) (places2_c : Nat) (places2_h : Rw w places2_a 2 encA2I64 places2) (places2_hn : places2.length = places2_an) (h : impl_wornPlaceCode f0 w1 places2 = some r) :
    Calls Tryz.prog 80 #[(.agg #[(.int .i16 f0.fSteps), (.slice f0_fHammers_a f0_fHammers_an f0_fHammers_c)]), (.agg #[(.slice w1_fPins_a w1_fPins_an w1_fPins_c), (.slice w1_fStrokes_a w1_fStrokes_an w1_fStrokes_c)]), (.slice places2_a places2_an places2_c)] w fun e w' => ∃ v, e = .returned v ∧ (v = (.int .i64 r) ∧ Mem w [] [] w') := by
  subst f0_fHammers_hn w1_fPins_hn w1_fStrokes_hn places2_hn
  rw [impl_wornPlaceCode] at h
  refine enter (args := [(.agg #[(.int .i16 f0.fSteps), (.slice f0_fHammers_a f0.fHammers.length f0_fHammers_c)]), (.agg #[(.slice w1_fPins_a w1.fPins.length w1_fPins_c), (.slice w1_fStrokes_a w1.fStrokes.length w1_fStrokes_c)]), (.slice places2_a places2.length places2_c)]) Tryz.func80 rfl Tryz.ntmps80 (by kernel_rfl) (L := []) (W := []) (Mem.start w) ?_
  refine jc_seq ?_
  refine jc_region ?_
  refine toO (by kernel_rfl) (p_a 0 [0] (by kernel_rfl) (fun b => by kernel_rfl) (fun b_1 => jkO ?_))
  refine toO (by kernel_rfl) (p_a 0 [0] (by kernel_rfl) (fun b => by kernel_rfl) (fun b_2 => jkO ?_))
  refine jo_f [(0, 0)] (by kernel_rfl) ?_
  refine jo_end (by kernel_rfl) ?_
  refine jx_then ?_
  refine jc_seq ?_
  refine jc_seq ?_
  refine jc_region ?_
  refine jo_f [(0, 0), (1, 0)] (by kernel_rfl) ?_
  obtain ⟨t_1, ht_5, h⟩ := bd h
  refine toO (by kernel_rfl) (p_call 0 63 #[(.agg #[(.int .i16 f0.fSteps), (.slice f0_fHammers_a f0.fHammers.length f0_fHammers_c)]), (.agg #[(.slice w1_fPins_a w1.fPins.length w1_fPins_c), (.slice w1_fStrokes_a w1.fStrokes.length w1_fStrokes_c)]), (.slice none 0 0)] (by kernel_rfl) (by kernel_rfl) (fun w hm => impl_wearCode.calls f0 w1 [] w _ f0_fHammers_a f0.fHammers.length f0_fHammers_c (hm.exRow f0_fHammers_h List.not_mem_nil) rfl w1_fPins_a w1.fPins.length w1_fPins_c (hm.exRow w1_fPins_h List.not_mem_nil) rfl w1_fStrokes_a w1.fStrokes.length w1_fStrokes_c (hm.exRow w1_fStrokes_h List.not_mem_nil) rfl none 0 0 Rw.nil rfl ht_5) ?_)
  rintro w v w' hm ⟨rfl, hm'⟩
  refine ⟨_, hm.app hm', jkO ?_⟩
  clear hm hm'
  refine jo_f [(0, 0)] (by kernel_rfl) ?_
  refine jo_end (by kernel_rfl) ?_
  refine jx_then ?_
  refine jc_seq ?_
  refine jc_region ?_
  refine jo_f [(0, 0), (0, 0)] (by kernel_rfl) ?_
  refine jo_end (by kernel_rfl) ?_
  refine jx_then ?_
  refine jc_cond (t_1 != 0) (by kernel_rfl) (fun hc_6 => ?_) (fun hc_6 => ?_)
  · replace h := ifT hc_6 h
    refine jc_seq ?_
    refine jc_region ?_
    refine jo_f [(0, 0), (0, 0)] (by kernel_rfl) ?_
    refine jo_end (by kernel_rfl) ?_
    refine jx_then ?_
    refine jc_ret ?_
    refine jx_thenr ?_
    obtain rfl := Option.some.inj h
    exact jx_ret [] (.int .i64 t_1) [] rfl (by kernel_rfl) (by kernel_rfl) (fun w hm => ⟨rfl, hm.pick [] (by kernel_rfl) (by kernel_rfl)⟩)
  · replace h := ifF hc_6 h
    refine jc_skip ?_
    refine jx_then ?_
    refine jc_seq ?_
    refine jc_region ?_
    refine jo_f [(0, 0), (0, 0)] (by kernel_rfl) ?_
    obtain ⟨t_2, ht_7, h⟩ := bd h
    refine toO (by kernel_rfl) (p_call 0 109 #[(.slice places2_a places2.length places2_c), (.func (.func 110) #[] #[(.pointer (some ⟨b_1, 0, none⟩))])] (by kernel_rfl) (by kernel_rfl) (fun w hm => slices_ContainsFunc_2int64_at_impl_wornPlaceCode_1.calls places2 f0 w _ places2_a places2.length places2_c (hm.exRow places2_h List.not_mem_nil) rfl f0_fHammers_a f0.fHammers.length f0_fHammers_c (hm.exRow f0_fHammers_h List.not_mem_nil) rfl b_1 (hm.pass (N := [⟨some b_1, 43, [(.int .i16 f0.fSteps), (.slice f0_fHammers_a f0.fHammers.length f0_fHammers_c)]⟩]) [0] (by kernel_rfl) (by kernel_rfl)) (hm.exApart (N := [⟨some b_1, 43, [(.int .i16 f0.fSteps), (.slice f0_fHammers_a f0.fHammers.length f0_fHammers_c)]⟩]) places2_h (fun _ => List.not_mem_nil) [0] (by kernel_rfl)) (hm.exApart (N := [⟨some b_1, 43, [(.int .i16 f0.fSteps), (.slice f0_fHammers_a f0.fHammers.length f0_fHammers_c)]⟩]) f0_fHammers_h (fun _ => List.not_mem_nil) [0] (by kernel_rfl)) ht_7) ?_)
    rintro w v w' hm ⟨rfl, hm'⟩
    refine ⟨_, hm.appW (ps := [(0, ⟨some b_1, 43, [(.int .i16 f0.fSteps), (.slice f0_fHammers_a f0.fHammers.length f0_fHammers_c)]⟩)]) (N := []) hm' (by kernel_rfl) (by kernel_rfl), jkO ?_⟩
    clear hm hm'
    refine jo_f [(0, 0)] (by kernel_rfl) ?_
    obtain ⟨t_3, ht_8, h⟩ := bd h
    refine toO (by kernel_rfl) (p_call 0 64 #[(.bool (!t_2)), (.int .i64 2)] (by kernel_rfl) (by kernel_rfl) (fun w hm => impl_unless.calls (!t_2) 2 w _ ht_8) ?_)
    rintro w v w' hm ⟨rfl, hm'⟩
    refine ⟨_, hm.app hm', jkO ?_⟩
    clear hm hm'
    refine jo_f [(0, 0)] (by kernel_rfl) ?_
    refine jo_end (by kernel_rfl) ?_
    refine jx_then ?_
    refine jc_ret ?_
    obtain rfl := Option.some.inj h
    exact jx_ret [] (.int .i64 t_3) [] rfl (by kernel_rfl) (by kernel_rfl) (fun w hm => ⟨rfl, hm.pick [] (by kernel_rfl) (by kernel_rfl)⟩)

/-! ### impl.NewHammer -/
noncomputable def impl_NewHammer (f0 : GFrame) (w1 : GWear) (track2 : Int) : Option (GWear × Int) := (impl_wornPlaceCode f0 w1 [(Arr.set (Arr.set (Arr.rep 2 0) 0 0) 1 track2)]).bind fun t_1 => (if (t_1 != 0) = true then some ((⟨[], []⟩ : GWear), t_1) else (impl_Wear_own w1).bind fun t_2 => (ix t_2.fStrokes track2).bind fun x_3 => some ((⟨t_2.fPins, (t_2.fStrokes.set track2.toNat 0)⟩ : GWear), 0))
set_option maxRecDepth 100000 in
theorem impl_NewHammer.calls (f0 : GFrame) (w1 : GWear) (track2 : Int) (w : World) (r : GWear × Int) (f0_fHammers_a : Option Addr) (f0_fHammers_an : Nat) (f0_fHammers_c : Nat) (f0_fHammers_h : Rw w f0_fHammers_a 2 encGHammer f0.fHammers) (f0_fHammers_hn : f0.fHammers.length = f0_fHammers_an) (w1_fPins_a : Option Addr) (w1_fPins_an : Nat) (w1_fPins_c : Nat) (w1_fPins_h : Rw w w1_fPins_a 3 encGWornPin w1.fPins) (w1_fPins_hn : w1.fPins.length = w1_fPins_an) (w1_fStrokes_a : Option Addr) (w1_fStrokes_an : Nat) (w1_fStrokes_c : Nat) (w1_fStrokes_h : Rw w w1_fStrokes_a 1 encI64 w1.fStrokes) (w1_fStrokes_hn : w1.fStrokes.length = w1_fStrokes_an) (h : impl_NewHammer f0 w1 track2 = some r) :
    Calls Tryz.prog 36 #[(.agg #[(.int .i16 f0.fSteps), (.slice f0_fHammers_a f0_fHammers_an f0_fHammers_c)]), (.agg #[(.slice w1_fPins_a w1_fPins_an w1_fPins_c), (.slice w1_fStrokes_a w1_fStrokes_an w1_fStrokes_c)]), (.int .i64 track2)] w fun e w' => ∃ v, e = .returned v ∧ (∃ (o0 : Option Nat) (c0 : Nat) (s0 : List Value) (n0 : Nat), r.1.fPins.length = n0 ∧ (o0 ≠ none → n0 ≤ c0 ∧ s0.length = (c0 - n0) * 3) ∧ (o0 = none → r.1.fPins = [] ∧ c0 = 0) ∧ ∃ (o1 : Option Nat) (c1 : Nat) (s1 : List Value) (n1 : Nat), r.1.fStrokes.length = n1 ∧ (o1 ≠ none → n1 ≤ c1 ∧ s1.length = (c1 - n1) * 1) ∧ (o1 = none → r.1.fStrokes = [] ∧ c1 = 0) ∧ v = .tuple #[.agg #[.slice (o0.map fun b => ⟨b, 0, none⟩) n0 c0, .slice (o1.map fun b => ⟨b, 0, none⟩) n1 c1], (.int .i64 r.2)] ∧ Mem w [] [⟨o0, 75, row encGWornPin r.1.fPins s0⟩, ⟨o1, 2, row encI64 r.1.fStrokes s1⟩] w') := by
  subst f0_fHammers_hn w1_fPins_hn w1_fStrokes_hn
  rw [impl_NewHammer] at h
  refine enter (args := [(.agg #[(.int .i16 f0.fSteps), (.slice f0_fHammers_a f0.fHammers.length f0_fHammers_c)]), (.agg #[(.slice w1_fPins_a w1.fPins.length w1_fPins_c), (.slice w1_fStrokes_a w1.fStrokes.length w1_fStrokes_c)]), (.int .i64 track2)]) Tryz.func36 rfl Tryz.ntmps36 (by kernel_rfl) (L := []) (W := []) (Mem.start w) ?_
  refine jc_seq ?_
  refine jc_region ?_
  refine toO (by kernel_rfl) (p_a 0 [0] (by kernel_rfl) (fun b => by kernel_rfl) (fun b_1 => jkO ?_))
  refine toO (by kernel_rfl) (p_a 0 [0] (by kernel_rfl) (fun b => by kernel_rfl) (fun b_2 => jkO ?_))
  refine toO (by kernel_rfl) (p_a 0 [0] (by kernel_rfl) (fun b => by kernel_rfl) (fun b_3 => jkO ?_))
  refine jo_f [(0, 0)] (by kernel_rfl) ?_
  refine jo_end (by kernel_rfl) ?_
  refine jx_then ?_
  refine jc_seq ?_
  refine jc_seq ?_
  refine jc_region ?_
  refine jo_f [(0, 0), (1, 0), (0, 0), (0, 0)] (by kernel_rfl) ?_
  refine toO (by kernel_rfl) (p_bs 0 128 2 1 encA2I64 [(.agg (row encI64 (Arr.set (Arr.set (Arr.rep 2 0) 0 0) 1 track2).1 []).toArray)] [(Arr.set (Arr.set (Arr.rep 2 0) 0 0) 1 track2)] (by kernel_rfl) (by kernel_rfl) rfl (by kernel_rfl) (by kernel_rfl) encA2I64_len (fun b_7 => jkO ?_))
  obtain ⟨t_1, ht_8, h⟩ := bd h
  refine toO (by kernel_rfl) (p_call 0 80 #[(.agg #[(.int .i16 f0.fSteps), (.slice f0_fHammers_a f0.fHammers.length f0_fHammers_c)]), (.agg #[(.slice w1_fPins_a w1.fPins.length w1_fPins_c), (.slice w1_fStrokes_a w1.fStrokes.length w1_fStrokes_c)]), (.slice (some ⟨b_7, 0, none⟩) 1 1)] (by kernel_rfl) (by kernel_rfl) (fun w hm => impl_wornPlaceCode.calls f0 w1 [(Arr.set (Arr.set (Arr.rep 2 0) 0 0) 1 track2)] w _ f0_fHammers_a f0.fHammers.length f0_fHammers_c (hm.exRow f0_fHammers_h List.not_mem_nil) rfl w1_fPins_a w1.fPins.length w1_fPins_c (hm.exRow w1_fPins_h List.not_mem_nil) rfl w1_fStrokes_a w1.fStrokes.length w1_fStrokes_c (hm.exRow w1_fStrokes_h List.not_mem_nil) rfl (some ⟨b_7, 0, none⟩) 1 1 (hm.ownRow (hh := 3) (o := (some b_7)) (T := 128) (enc := encA2I64) (xs := [(Arr.set (Arr.set (Arr.rep 2 0) 0 0) 1 track2)]) (sp := []) (by kernel_rfl) (fun e => nomatch e) encA2I64_len) rfl ht_8) ?_)
  rintro w v w' hm ⟨rfl, hm'⟩
  refine ⟨_, hm.app hm', jkO ?_⟩
  clear hm hm'
  refine jo_f [(0, 0)] (by kernel_rfl) ?_
  refine jo_end (by kernel_rfl) ?_
  refine jx_then ?_
  refine jc_seq ?_
  refine jc_region ?_
  refine jo_f [(0, 0), (0, 0)] (by kernel_rfl) ?_
  refine jo_end (by kernel_rfl) ?_
  refine jx_then ?_
  refine jc_cond (t_1 != 0) (by kernel_rfl) (fun hc_9 => ?_) (fun hc_9 => ?_)
  · replace h := ifT hc_9 h
    refine jc_seq ?_
    refine jc_region ?_
    refine jo_f [(0, 0), (0, 0)] (by kernel_rfl) ?_
    refine toO (by kernel_rfl) (p_s 0 [2] (by kernel_rfl) (by kernel_rfl) (jkO ?_))
    refine jo_f [(0, 0)] (by kernel_rfl) ?_
    refine jo_end (by kernel_rfl) ?_
    refine jx_then ?_
    refine jc_ret ?_
    refine jx_thenr ?_
    obtain rfl := Option.some.inj h
    refine jx_ghost 75 encGWornPin ?_
    refine jx_ghost 2 encI64 ?_
    exact jx_ret [2] (.tuple #[(.agg #[(.slice none 0 0), (.slice none 0 0)]), (.int .i64 t_1)]) [(b_3, b_3), (b_3, b_3)] rfl (by kernel_rfl) (by kernel_rfl) (fun w hm => ⟨none, 0, [], 0, rfl, (fun e => absurd rfl e), (fun _ => ⟨rfl, rfl⟩), none, 0, [], 0, rfl, (fun e => absurd rfl e), (fun _ => ⟨rfl, rfl⟩), rfl, hm.pick [4, 5] (by kernel_rfl) (by kernel_rfl)⟩)
  · replace h := ifF hc_9 h
    refine jc_skip ?_
    refine jx_then ?_
    refine jc_seq ?_
    refine jc_region ?_
    refine jo_f [(1, 0)] (by kernel_rfl) ?_
    obtain ⟨t_2, ht_10, h⟩ := bd h
    refine toO (by kernel_rfl) (p_call 0 84 #[(.agg #[(.slice w1_fPins_a w1.fPins.length w1_fPins_c), (.slice w1_fStrokes_a w1.fStrokes.length w1_fStrokes_c)])] (by kernel_rfl) (by kernel_rfl) (fun w hm => impl_Wear_own.calls w1 w _ w1_fPins_a w1.fPins.length w1_fPins_c (hm.exRow w1_fPins_h List.not_mem_nil) rfl w1_fStrokes_a w1.fStrokes.length w1_fStrokes_c (hm.exRow w1_fStrokes_h List.not_mem_nil) rfl ht_10) ?_)
    rintro w v w' hm ⟨o_11, cap_12, sp_13, _, rfl, hs_14, ho_15, o_16, cap_17, sp_18, _, rfl, hs_19, ho_20, rfl, hm'⟩
    refine ⟨_, hm.app hm', jkO ?_⟩
    clear hm hm'
    refine toO (by kernel_rfl) (p_a 0 [0] (by kernel_rfl) (fun b => by kernel_rfl) (fun b_21 => jkO ?_))
    refine toO (by kernel_rfl) (p_s 0 [6] (by kernel_rfl) (by kernel_rfl) (jkO ?_))
    refine jo_end (by kernel_rfl) ?_
    refine jx_then ?_
    refine jc_seq ?_
    refine jc_region ?_
    refine jo_f [(0, 0), (6, 0), (0, 0)] (by kernel_rfl) ?_
    obtain ⟨x_3, hx_22, h⟩ := bd h
    refine toO (by kernel_rfl) (p_idx 0 (o_16.map fun b => ⟨b, 0, none⟩) t_2.fStrokes.length track2 1 (by kernel_rfl) (by kernel_rfl) (ix_some hx_22).1 (ltn hx_22 rfl) (spo ho_20 hx_22) (jkO ?_))
    refine toO (by kernel_rfl) (p_strO 0 5 o_16 2 encI64 t_2.fStrokes sp_18 track2 0 1 0 [(.int .i64 0)] (by kernel_rfl) (by kernel_rfl) (by kernel_rfl) (fun e => (ho_20 e).1) encI64_len hx_22 (by kernel_rfl) (by kernel_rfl) (jkO ?_))
    refine jo_end (by kernel_rfl) ?_
    refine jx_then ?_
    refine jc_seq ?_
    refine jc_region ?_
    refine jo_f [(6, 0)] (by kernel_rfl) ?_
    refine toO (by kernel_rfl) (p_s 0 [2] (by kernel_rfl) (by kernel_rfl) (jkO ?_))
    refine jo_f [(0, 0)] (by kernel_rfl) ?_
    refine jo_end (by kernel_rfl) ?_
    refine jx_then ?_
    refine jc_ret ?_
    obtain rfl := Option.some.inj h
    exact jx_ret [2] (.tuple #[(.agg #[(.slice (o_11.map fun b => ⟨b, 0, none⟩) t_2.fPins.length cap_12), (.slice (o_16.map fun b => ⟨b, 0, none⟩) t_2.fStrokes.length cap_17)]), (.int .i64 0)]) [(b_3, b_3), (b_3, b_3)] rfl (by kernel_rfl) (by kernel_rfl) (fun w hm => ⟨o_11, cap_12, sp_13, t_2.fPins.length, rfl, hs_14, ho_15, o_16, cap_17, sp_18, t_2.fStrokes.length, (List.length_set.trans rfl), hs_19, (set_ho ho_20), rfl, hm.pick [4, 5] (by kernel_rfl) (by kernel_rfl)⟩)

/-! ### (impl.Wear).at$1 -/
noncomputable def impl_Wear_at_1 (p0 : GWornPin) (p1 : Int) (p2 : Int) : Option (Bool) := some (((w64 p0.fStep) == p1) && ((w64 p0.fTrack) == p2))
set_option maxRecDepth 100000 in
theorem impl_Wear_at_1.calls (p0 : GWornPin) (p1 : Int) (p2 : Int) (w : World) (r : Bool) (p1_b : Nat) (p2_b : Nat) (hm0 : Mem w (bs [some p1_b, some p2_b]) [⟨some p1_b, 2, [(.int .i64 p1)]⟩, ⟨some p2_b, 2, [(.int .i64 p2)]⟩] w) (h : impl_Wear_at_1 p0 p1 p2 = some r) :
    Calls Tryz.prog 113 #[(.agg #[(.int .i8 p0.fStep), (.int .i8 p0.fTrack), (.int .i64 p0.fTurns)]), (.pointer (some ⟨p1_b, 0, none⟩)), (.pointer (some ⟨p2_b, 0, none⟩))] w fun e w' => ∃ v, e = .returned v ∧ (v = (.bool r) ∧ Mem w (bs [some p1_b, some p2_b]) [⟨some p1_b, 2, [(.int .i64 p1)]⟩, ⟨some p2_b, 2, [(.int .i64 p2)]⟩] w') := by
  rw [impl_Wear_at_1] at h
  refine enter (args := [(.agg #[(.int .i8 p0.fStep), (.int .i8 p0.fTrack), (.int .i64 p0.fTurns)]), (.pointer (some ⟨p1_b, 0, none⟩)), (.pointer (some ⟨p2_b, 0, none⟩))]) Tryz.func113 rfl Tryz.ntmps113 (by kernel_rfl) (L := [⟨some p1_b, 2, [(.int .i64 p1)]⟩, ⟨some p2_b, 2, [(.int .i64 p2)]⟩]) (W := bs [some p1_b, some p2_b]) hm0 ?_
  refine jc_seq ?_
  refine jc_region ?_
  refine toO (by kernel_rfl) (p_a 0 [0] (by kernel_rfl) (fun b => by kernel_rfl) (fun b_1 => jkO ?_))
  refine jo_f [(0, 0)] (by kernel_rfl) ?_
  refine jo_end (by kernel_rfl) ?_
  refine jx_then ?_
  refine jc_seq ?_
  refine jc_region ?_
  refine jo_f [(0, 0), (2, 0), (0, 0), (0, 0), (0, 0), (0, 0), (0, 1), (2, 1), (0, 1), (1, 1), (0, 1), (0, 0), (0, 0)] (by kernel_rfl) ?_
  refine jo_end (by kernel_rfl) ?_
  refine jx_then ?_
  refine jc_ret ?_
  obtain rfl := Option.some.inj h
  exact jx_ret [] (.bool (((w64 p0.fStep) == p1) && ((w64 p0.fTrack) == p2))) [] rfl (by kernel_rfl) (by kernel_rfl) (fun w hm => ⟨rfl, hm.pick [0, 1] (by kernel_rfl) (by kernel_rfl)⟩)

/-! ### slices.IndexFunc[[]impl.WornPin,impl.WornPin] -/
noncomputable def slices_IndexFunc_WornPin_at_impl_Wear_at_1.k_1 : Option (Int) := some (-1)
noncomputable def slices_IndexFunc_WornPin_at_impl_Wear_at_1.l_3 (s0 : List GWornPin) (g1c0 : Int) (g1c1 : Int) : Int → Option ((Int) ⊕ (Int ⊕ Unit))
  | i_2 => (if (decide (i_2 < (s0.length : Int))) = true then (ix s0 i_2).bind fun x_5 => (impl_Wear_at_1 x_5 g1c0 g1c1).bind fun t_6 => (if t_6 = true then some (.inr (.inl i_2)) else some (.inl (w64 (i_2 + 1)))) else some (.inr (.inr ())))
noncomputable def slices_IndexFunc_WornPin_at_impl_Wear_at_1 (s0 : List GWornPin) (g1c0 : Int) (g1c1 : Int) : Option (Int) := (loop (slices_IndexFunc_WornPin_at_impl_Wear_at_1.l_3 s0 g1c0 g1c1) 0).bind fun t_4 => match t_4 with | .inl p => some p | .inr p => slices_IndexFunc_WornPin_at_impl_Wear_at_1.k_1
set_option maxRecDepth 100000 in
theorem slices_IndexFunc_WornPin_at_impl_Wear_at_1.calls (s0 : List GWornPin) (g1c0 : Int) (g1c1 : Int) (w : World) (r : Int) (s0_a : Option Addr) (s0_an : Nat) (s0_c : Nat) (s0_h : Rw w s0_a 3 encGWornPin s0) (s0_hn : s0.length = s0_an) (g1c0_b : Nat) (g1c1_b : Nat) (hm0 : Mem w (bs [some g1c0_b, some g1c1_b]) [⟨some g1c0_b, 2, [(.int .i64 g1c0)]⟩, ⟨some g1c1_b, 2, [(.int .i64 g1c1)]⟩] w) (s0_ha : s0 ≠ [] → aB s0_a ∉ bs [some g1c0_b, some g1c1_b]) (h : slices_IndexFunc_WornPin_at_impl_Wear_at_1 s0 g1c0 g1c1 = some r) :
    Calls Tryz.prog 112 #[(.slice s0_a s0_an s0_c), (.func (.func 113) #[] #[(.pointer (some ⟨g1c0_b, 0, none⟩)), (.pointer (some ⟨g1c1_b, 0, none⟩))])] w fun e w' => ∃ v, e = .returned v ∧ (v = (.int .i64 r) ∧ Mem w (bs [some g1c0_b, some g1c1_b]) [⟨some g1c0_b, 2, [(.int .i64 g1c0)]⟩, ⟨some g1c1_b, 2, [(.int .i64 g1c1)]⟩] w') := by
  subst s0_hn
  rw [slices_IndexFunc_WornPin_at_impl_Wear_at_1] at h
  refine enter (args := [(.slice s0_a s0.length s0_c), (.func (.func 113) #[] #[(.pointer (some ⟨g1c0_b, 0, none⟩)), (.pointer (some ⟨g1c1_b, 0, none⟩))])]) Tryz.func112 rfl Tryz.ntmps112 (by kernel_rfl) (L := [⟨some g1c0_b, 2, [(.int .i64 g1c0)]⟩, ⟨some g1c1_b, 2, [(.int .i64 g1c1)]⟩]) (W := bs [some g1c0_b, some g1c1_b]) hm0 ?_
  refine jc_seq ?_
  refine jc_region ?_
  refine jo_f [(0, 0)] (by kernel_rfl) ?_
  refine jo_end (by kernel_rfl) ?_
  refine jx_then ?_
  refine jc_seq ?_
  refine jc_seq ?_
  refine jc_region ?_
  refine jo_f [(0, 0), (0, 0), (0, 0)] (by kernel_rfl) ?_
  refine jo_end (by kernel_rfl) ?_
  refine jx_then ?_
  refine jc_meet (fun (_ : Unit) => slices_IndexFunc_WornPin_at_impl_Wear_at_1.k_1 = some r) (fun (_ : Unit) => [(4, [], (.int .i64 0))]) (fun (_ : Unit) => [⟨some g1c0_b, 2, [(.int .i64 g1c0)]⟩, ⟨some g1c1_b, 2, [(.int .i64 g1c1)]⟩]) ?_ ?_
  · refine jc_block ?_
    obtain ⟨t_4, ht_40, hr_31⟩ := bd h
    refine jc_loop (fun (s : Int) (x : Unit) => match s, x with | i_2, _ => True) (fun (s : Int) (x : Unit) => match s, x with | i_2, _ => [(0, [], (.slice s0_a s0.length s0_c)), (1, [], (.func (.func 113) #[] #[(.pointer (some ⟨g1c0_b, 0, none⟩)), (.pointer (some ⟨g1c1_b, 0, none⟩))])), (4, [], (.int .i64 0)), (7, [], (.int .i64 (s0.length : Int))), (8, [], (.int .i64 i_2))]) (fun (s : Int) (x : Unit) => match s, x with | i_2, _ => [⟨some g1c0_b, 2, [(.int .i64 g1c0)]⟩, ⟨some g1c1_b, 2, [(.int .i64 g1c1)]⟩]) ht_40 () trivial (by kernel_rfl) [0, 1] (by kernel_rfl) (by kernel_rfl) ?_
    rintro i_2 _ y_32 _ h
    rw [slices_IndexFunc_WornPin_at_impl_Wear_at_1.l_3] at h
    refine jc_seq ?_
    refine jc_region ?_
    refine jo_f [(0, 0)] (by kernel_rfl) ?_
    refine jo_end (by kernel_rfl) ?_
    refine jx_then ?_
    refine jc_seq ?_
    refine jc_cond (decide (i_2 < (s0.length : Int))) (by kernel_rfl) (fun hc_34 => ?_) (fun hc_34 => ?_)
    · replace h := ifT hc_34 h
      refine jc_skip ?_
      refine jx_then ?_
      refine jc_seq ?_
      refine jc_block ?_
      refine jc_seq ?_
      refine jc_region ?_
      refine jo_f [(0, 0), (0, 0)] (by kernel_rfl) ?_
      refine jo_end (by kernel_rfl) ?_
      refine jx_then ?_
      refine jc_seq ?_
      refine jc_region ?_
      refine jo_f [(0, 0), (0, 0), (0, 0)] (by kernel_rfl) ?_
      obtain ⟨x_5, hx_35, h⟩ := bd h
      refine toO (by kernel_rfl) (p_idx 0 s0_a s0.length i_2 3 (by kernel_rfl) (by kernel_rfl) (ix_some hx_35).1 (ltn hx_35 rfl) (s0_h.sp hx_35) (jkO ?_))
      refine toO (by kernel_rfl) (p_ld 0 (aB s0_a) (aO s0_a + i_2.toNat * 3) true (encGWornPin x_5) (by kernel_rfl) (by kernel_rfl) (by kernel_rfl) (fun w hm => ((hm.exRowW s0_h s0_ha).at hx_35)) (jkO ?_))
      obtain ⟨t_6, ht_36, h⟩ := bd h
      refine toO (by kernel_rfl) (p_call 0 113 #[(.agg #[(.int .i8 x_5.fStep), (.int .i8 x_5.fTrack), (.int .i64 x_5.fTurns)]), (.pointer (some ⟨g1c0_b, 0, none⟩)), (.pointer (some ⟨g1c1_b, 0, none⟩))] (by kernel_rfl) (by kernel_rfl) (fun w hm => impl_Wear_at_1.calls x_5 g1c0 g1c1 w _ g1c0_b g1c1_b (hm.pass (N := [⟨some g1c0_b, 2, [(.int .i64 g1c0)]⟩, ⟨some g1c1_b, 2, [(.int .i64 g1c1)]⟩]) [0, 1] (by kernel_rfl) (by kernel_rfl)) ht_36) ?_)
      rintro w v w' hm ⟨rfl, hm'⟩
      refine ⟨_, hm.appW (ps := [(0, ⟨some g1c0_b, 2, [(.int .i64 g1c0)]⟩), (1, ⟨some g1c1_b, 2, [(.int .i64 g1c1)]⟩)]) (N := []) hm' (by kernel_rfl) (by kernel_rfl), jkO ?_⟩
      clear hm hm'
      refine jo_end (by kernel_rfl) ?_
      refine jx_then ?_
      refine jc_cond t_6 (by kernel_rfl) (fun hc_37 => ?_) (fun hc_37 => ?_)
      · replace h := ifT hc_37 h
        refine jc_seq ?_
        refine jc_region ?_
        refine jo_f [(0, 0), (0, 0)] (by kernel_rfl) ?_
        refine jo_end (by kernel_rfl) ?_
        refine jx_then ?_
        refine jc_ret ?_
        refine jx_inr ?_
        refine jx_thenr ?_
        refine jx_leaver (.inl i_2) (Option.some.inj h).symm (fun e_38 => ?_)
        subst e_38
        refine jx_inr ?_
        refine jx_thenr ?_
        refine jx_thenr ?_
        obtain rfl := Option.some.inj hr_31
        exact jx_ret [] (.int .i64 i_2) [] rfl (by kernel_rfl) (by kernel_rfl) (fun w hm => ⟨rfl, hm.pick [0, 1] (by kernel_rfl) (by kernel_rfl)⟩)
      · replace h := ifF hc_37 h
        refine jc_skip ?_
        refine jx_inn ?_
        refine jx_then ?_
        refine jc_region ?_
        refine jo_f [(0, 0), (0, 0)] (by kernel_rfl) ?_
        refine jo_end (by kernel_rfl) ?_
        exact jx_back (w64 (i_2 + 1)) () (Option.some.inj h).symm trivial [0, 1] (by kernel_rfl) (by kernel_rfl) (by kernel_rfl)
    · replace h := ifF hc_34 h
      refine jc_exit ?_
      refine jx_thenx ?_
      refine jx_leave (.inr ()) (Option.some.inj h).symm (fun e_39 => ?_)
      subst e_39
      refine jx_ine ?_
      exact jx_meet () hr_31 (by kernel_rfl) [0, 1] (by kernel_rfl) (by kernel_rfl)
  · rintro _ h
    replace h : slices_IndexFunc_WornPin_at_impl_Wear_at_1.k_1 = some r := h
    rw [slices_IndexFunc_WornPin_at_impl_Wear_at_1.k_1] at h
    refine jx_then ?_
    refine jc_seq ?_
    refine jc_region ?_
    refine jo_f [(0, 0)] (by kernel_rfl) ?_
    refine jo_end (by kernel_rfl) ?_
    refine jx_then ?_
    refine jc_ret ?_
    obtain rfl := Option.some.inj h
    exact jx_ret [] (.int .i64 (-1)) [] rfl (by kernel_rfl) (by kernel_rfl) (fun w hm => ⟨rfl, hm.pick [0, 1] (by kernel_rfl) (by kernel_rfl)⟩)

/-! ### (impl.Wear).at -/
noncomputable def impl_Wear_at (w0 : GWear) (step1 : Int) (track2 : Int) : Option (Int) := (slices_IndexFunc_WornPin_at_impl_Wear_at_1 w0.fPins step1 track2).bind fun t_1 => some t_1
set_option maxRecDepth 100000 in
theorem impl_Wear_at.calls (w0 : GWear) (step1 : Int) (track2 : Int) (w : World) (r : Int) (w0_fPins_a : Option Addr) (w0_fPins_an : Nat) (w0_fPins_c : Nat) (w0_fPins_h : Rw w w0_fPins_a 3 encGWornPin w0.fPins) (w0_fPins_hn : w0.fPins.length = w0_fPins_an) (w0_fStrokes_a : Option Addr) (w0_fStrokes_an : Nat) (w0_fStrokes_c : Nat) (w0_fStrokes_h : Rw w w0_fStrokes_a 1 encI64 w0.fStrokes) (w0_fStrokes_hn : w0.fStrokes.length = w0_fStrokes_an) (h : impl_Wear_at w0 step1 track2 = some r) :
    Calls Tryz.prog 81 #[(.agg #[(.slice w0_fPins_a w0_fPins_an w0_fPins_c), (.slice w0_fStrokes_a w0_fStrokes_an w0_fStrokes_c)]), (.int .i64 step1), (.int .i64 track2)] w fun e w' => ∃ v, e = .returned v ∧ (v = (.int .i64 r) ∧ Mem w [] [] w') := by
  subst w0_fPins_hn w0_fStrokes_hn
  rw [impl_Wear_at] at h
  refine enter (args := [(.agg #[(.slice w0_fPins_a w0.fPins.length w0_fPins_c), (.slice w0_fStrokes_a w0.fStrokes.length w0_fStrokes_c)]), (.int .i64 step1), (.int .i64 track2)]) Tryz.func81 rfl Tryz.ntmps81 (by kernel_rfl) (L := []) (W := []) (Mem.start w) ?_
  refine jc_seq ?_
  refine jc_region ?_
  refine toO (by kernel_rfl) (p_a 0 [0] (by kernel_rfl) (fun b => by kernel_rfl) (fun b_1 => jkO ?_))
  refine toO (by kernel_rfl) (p_a 0 [0] (by kernel_rfl) (fun b => by kernel_rfl) (fun b_2 => jkO ?_))
  refine toO (by kernel_rfl) (p_a 0 [0] (by kernel_rfl) (fun b => by kernel_rfl) (fun b_3 => jkO ?_))
  refine jo_f [(0, 0)] (by kernel_rfl) ?_
  refine jo_end (by kernel_rfl) ?_
  refine jx_then ?_
  refine jc_seq ?_
  refine jc_region ?_
  refine jo_f [(0, 0), (0, 0), (0, 0)] (by kernel_rfl) ?_
  obtain ⟨t_1, ht_4, h⟩ := bd h
  refine toO (by kernel_rfl) (p_call 0 112 #[(.slice w0_fPins_a w0.fPins.length w0_fPins_c), (.func (.func 113) #[] #[(.pointer (some ⟨b_2, 0, none⟩)), (.pointer (some ⟨b_3, 0, none⟩))])] (by kernel_rfl) (by kernel_rfl) (fun w hm => slices_IndexFunc_WornPin_at_impl_Wear_at_1.calls w0.fPins step1 track2 w _ w0_fPins_a w0.fPins.length w0_fPins_c (hm.exRow w0_fPins_h List.not_mem_nil) rfl b_2 b_3 (hm.pass (N := [⟨some b_2, 2, [(.int .i64 step1)]⟩, ⟨some b_3, 2, [(.int .i64 track2)]⟩]) [1, 2] (by kernel_rfl) (by kernel_rfl)) (hm.exApart (N := [⟨some b_2, 2, [(.int .i64 step1)]⟩, ⟨some b_3, 2, [(.int .i64 track2)]⟩]) w0_fPins_h (fun _ => List.not_mem_nil) [1, 2] (by kernel_rfl)) ht_4) ?_)
  rintro w v w' hm ⟨rfl, hm'⟩
  refine ⟨_, hm.appW (ps := [(1, ⟨some b_2, 2, [(.int .i64 step1)]⟩), (2, ⟨some b_3, 2, [(.int .i64 track2)]⟩)]) (N := []) hm' (by kernel_rfl) (by kernel_rfl), jkO ?_⟩
  clear hm hm'
  refine jo_f [(0, 0)] (by kernel_rfl) ?_
  refine jo_end (by kernel_rfl) ?_
  refine jx_then ?_
  refine jc_ret ?_
  obtain rfl := Option.some.inj h
  exact jx_ret [] (.int .i64 t_1) [] rfl (by kernel_rfl) (by kernel_rfl) (fun w hm => ⟨rfl, hm.pick [] (by kernel_rfl) (by kernel_rfl)⟩)

/-! ### slices.Delete[[]impl.WornPin,impl.WornPin] -/
noncomputable def slices_Delete_WornPin (s0 : List GWornPin) (i1 : Int) (j2 : Int) : Option ((List GWornPin)) := (if 0 ≤ i1 ∧ i1 ≤ j2 ∧ j2 ≤ (s0.length : Int) ∧ (s0.length : Int) ≤ (s0.length : Int) then (if (i1 == j2) = true then some s0 else (if 0 ≤ i1 ∧ i1 ≤ (s0.length : Int) then (if 0 ≤ j2 ∧ j2 ≤ (s0.length : Int) then (if i1.toNat + (s0.drop j2.toNat).length ≤ s0.length then some (s0.take i1.toNat ++ (s0.drop j2.toNat)) else none) else none) else none)) else none)
set_option maxRecDepth 100000 in
theorem slices_Delete_WornPin.calls (s0 : List GWornPin) (i1 : Int) (j2 : Int) (w : World) (r : (List GWornPin)) (s0_o : Option Nat) (s0_on : Nat) (s0_c : Nat) (s0_sp : List Value) (s0_hn : s0.length = s0_on) (s0_hs : s0_o ≠ none → s0_on ≤ s0_c ∧ s0_sp.length = (s0_c - s0_on) * 3) (s0_ho : s0_o = none → s0 = [] ∧ s0_c = 0) (hm0 : Mem w (bs [s0_o]) [⟨s0_o, 75, row encGWornPin s0 s0_sp⟩] w) (h : slices_Delete_WornPin s0 i1 j2 = some r) :
    Calls Tryz.prog 114 #[(.slice (s0_o.map fun b => ⟨b, 0, none⟩) s0_on s0_c), (.int .i64 i1), (.int .i64 j2)] w fun e w' => ∃ v, e = .returned v ∧ (∃ (o0 : Option Nat) (c0 : Nat) (s0 : List Value) (n0 : Nat), r.length = n0 ∧ (o0 ≠ none → n0 ≤ c0 ∧ s0.length = (c0 - n0) * 3) ∧ (o0 = none → r = [] ∧ c0 = 0) ∧ v = .slice (o0.map fun b => ⟨b, 0, none⟩) n0 c0 ∧ Mem w (bs [s0_o]) [⟨o0, 75, row encGWornPin r s0⟩] w') := by
  subst s0_hn
  rw [slices_Delete_WornPin] at h
  refine enter (args := [(.slice (s0_o.map fun b => ⟨b, 0, none⟩) s0.length s0_c), (.int .i64 i1), (.int .i64 j2)]) Tryz.func114 rfl Tryz.ntmps114 (by kernel_rfl) (L := [⟨s0_o, 75, row encGWornPin s0 s0_sp⟩]) (W := bs [s0_o]) hm0 ?_
  refine jc_seq ?_
  refine jc_region ?_
  refine jo_f [(0, 0)] (by kernel_rfl) ?_
  refine jo_end (by kernel_rfl) ?_
  refine jx_then ?_
  refine jc_seq ?_
  refine jc_region ?_
  refine jo_f [(0, 0), (0, 0), (0, 0), (0, 0), (0, 0)] (by kernel_rfl) ?_
  obtain ⟨hg_1, h⟩ := gd h
  refine toO (by kernel_rfl) (p_slM 0 (s0_o.map fun b => ⟨b, 0, none⟩) s0.length s0_c 3 i1 j2 (s0.length : Int) (by kernel_rfl) (by kernel_rfl) hg_1.1 hg_1.2.1 hg_1.2.2.1 (Int.le_trans hg_1.2.2.2 (Int.ofNat_le.2 (cap_le rfl s0_hs s0_ho))) (jkO ?_))
  refine jo_end (by kernel_rfl) ?_
  refine jx_then ?_
  refine jc_seq ?_
  refine jc_seq ?_
  refine jc_region ?_
  refine jo_f [(0, 0), (0, 0), (0, 0)] (by kernel_rfl) ?_
  refine jo_end (by kernel_rfl) ?_
  refine jx_then ?_
  refine jc_cond (i1 == j2) (by kernel_rfl) (fun hc_3 => ?_) (fun hc_3 => ?_)
  · replace h := ifT hc_3 h
    refine jc_seq ?_
    refine jc_region ?_
    refine jo_f [(0, 0), (0, 0)] (by kernel_rfl) ?_
    refine jo_end (by kernel_rfl) ?_
    refine jx_then ?_
    refine jc_ret ?_
    refine jx_thenr ?_
    obtain rfl := Option.some.inj h
    exact jx_ret [] (.slice (s0_o.map fun b => ⟨b, 0, none⟩) s0.length s0_c) [] rfl (by kernel_rfl) (by kernel_rfl) (fun w hm => ⟨s0_o, s0_c, s0_sp, s0.length, rfl, s0_hs, s0_ho, rfl, hm.pick [0] (by kernel_rfl) (by kernel_rfl)⟩)
  · replace h := ifF hc_3 h
    refine jc_skip ?_
    refine jx_then ?_
    refine jc_seq ?_
    refine jc_region ?_
    refine jo_f [(0, 0), (0, 0), (0, 0)] (by kernel_rfl) ?_
    refine jo_end (by kernel_rfl) ?_
    refine jx_then ?_
    refine jc_seq ?_
    refine jc_draw [] 8 (by kernel_rfl) (by kernel_rfl) ?_
    refine jd_f [⟨0, 0, 0⟩, ⟨1, 0, 0⟩, ⟨3, 0, 0⟩, ⟨4, 0, 0⟩] 4 (by kernel_rfl) (by kernel_rfl) (fun w h => h.pick [] (by kernel_rfl) (by kernel_rfl)) (by kernel_rfl) (by kernel_rfl) ?_
    obtain ⟨hg_6, h⟩ := gd h
    refine jd_v 2 0 (by kernel_rfl) (fun w h => h.pick [] (by kernel_rfl) (by kernel_rfl)) (by kernel_rfl) (by kernel_rfl) _ (fun w hm => slH_run (a := (s0_o.map fun b => ⟨b, 0, none⟩)) (len := s0.length) (cap := s0_c) (size := 3) (h := i1) (by kernel_rfl) hg_6.1 (Int.le_trans hg_6.2 (Int.ofNat_le.2 (cap_le rfl s0_hs s0_ho)))) ?_
    obtain ⟨hg_7, h⟩ := gd h
    refine jd_v 5 0 (by kernel_rfl) (fun w h => h.pick [] (by kernel_rfl) (by kernel_rfl)) (by kernel_rfl) (by kernel_rfl) _ (fun w hm => slL_run (a := (s0_o.map fun b => ⟨b, 0, none⟩)) (len := s0.length) (cap := s0_c) (size := 3) (l := j2) (by kernel_rfl) hg_7.1 (Int.le_trans hg_7.2 (Int.ofNat_le.2 (Nat.le_of_eq rfl)))) ?_
    obtain ⟨hg_8, h⟩ := gd h
    refine toD 6 (by kernel_rfl) (p_apN 0 0 s0_o 75 i1.toNat s0.length (s0.length - j2.toNat) s0_c 3 16 (pa (s0_o.map fun b => ⟨b, 0, none⟩) j2.toNat s0_c 3) encGWornPin s0 (s0.drop j2.toNat) s0_sp hg_8 rfl (tl_len rfl j2) (by kernel_rfl) (by kernel_rfl) (by kernel_rfl) encGWornPin_len encGWornPin_cell s0_hs s0_ho (fun w hm => ((hm.ownRow (hh := 0) (o := s0_o) (T := 75) (enc := encGWornPin) (xs := s0) (sp := s0_sp) (by kernel_rfl) (fun e => (s0_ho e).1) encGWornPin_len).tl j2.toNat s0_c (cap_le rfl s0_hs s0_ho))) (fun sp_11 hs_12 ho_13 => jkD (fun w h => h.pick [] (by kernel_rfl) (by kernel_rfl)) ?_))
    refine jd_f [⟨7, 0, 0⟩] 0 (by kernel_rfl) (by kernel_rfl) (fun w h => h.pick [] (by kernel_rfl) (by kernel_rfl)) (by kernel_rfl) (by kernel_rfl) ?_
    refine jd_end (by kernel_rfl) ?_
    refine jx_then ?_
    refine jc_seq ?_
    refine jc_region ?_
    refine jo_f [(0, 0), (0, 0), (0, 0), (0, 0)] (by kernel_rfl) ?_
    refine toO (by kernel_rfl) (p_slLH 0 (s0_o.map fun b => ⟨b, 0, none⟩) ((s0.take i1.toNat ++ (s0.drop j2.toNat)).length) s0_c 3 (((s0.take i1.toNat ++ (s0.drop j2.toNat)).length) : Int) (s0.length : Int) (by kernel_rfl) (by kernel_rfl) (by omega) (Int.ofNat_le.2 (Nat.le_trans (apn_le hg_8) (Nat.le_of_eq rfl))) (Int.ofNat_le.2 (show s0.length ≤ s0_c by have := (cap_le rfl s0_hs s0_ho); have : s0.length = s0.length := rfl; omega)) (jkO ?_))
    refine toO (by kernel_rfl) (p_clr 0 0 s0_o 75 ((((s0.take i1.toNat ++ (s0.drop j2.toNat)).length) : Int).toNat) ((s0.take i1.toNat ++ (s0.drop j2.toNat)).length) ((s0.length : Int).toNat - (((s0.take i1.toNat ++ (s0.drop j2.toNat)).length) : Int).toNat) s0_c 3 [(.int .i8 0), (.int .i8 0), (.int .i64 0)] encGWornPin (s0.take i1.toNat ++ (s0.drop j2.toNat)) sp_11 rfl (by omega) (by kernel_rfl) (by kernel_rfl) (by kernel_rfl) encGWornPin_len (by kernel_rfl) hs_12 ho_13 (by have := (show s0.length ≤ s0_c by have := (cap_le rfl s0_hs s0_ho); have : s0.length = s0.length := rfl; omega); have := (Nat.le_trans (apn_le hg_8) (Nat.le_of_eq rfl)); omega) (fun sp_15 hl_16 => jkO ?_))
    refine jo_end (by kernel_rfl) ?_
    refine jx_then ?_
    refine jc_seq ?_
    refine jc_region ?_
    refine jo_f [(0, 0), (0, 0)] (by kernel_rfl) ?_
    refine jo_end (by kernel_rfl) ?_
    refine jx_then ?_
    refine jc_ret ?_
    obtain rfl := Option.some.inj h
    exact jx_ret [] (.slice (s0_o.map fun b => ⟨b, 0, none⟩) ((s0.take i1.toNat ++ (s0.drop j2.toNat)).length) s0_c) [] rfl (by kernel_rfl) (by kernel_rfl) (fun w hm => ⟨s0_o, s0_c, sp_15, ((s0.take i1.toNat ++ (s0.drop j2.toNat)).length), rfl, (fun e => ⟨(hs_12 e).1, hl_16.trans (hs_12 e).2⟩), ho_13, rfl, hm.pick [0] (by kernel_rfl) (by kernel_rfl)⟩)

/-! ### (impl.Wear).without -/
noncomputable def impl_Wear_without (w0 : GWear) (i1 : Int) : Option (GWear) := (impl_Wear_own w0).bind fun t_1 => (slices_Delete_WornPin t_1.fPins i1 (w64 (i1 + 1))).bind fun t_2 => some (⟨t_2, t_1.fStrokes⟩ : GWear)
set_option maxRecDepth 100000 in
theorem impl_Wear_without.calls (w0 : GWear) (i1 : Int) (w : World) (r : GWear) (w0_fPins_a : Option Addr) (w0_fPins_an : Nat) (w0_fPins_c : Nat) (w0_fPins_h : Rw w w0_fPins_a 3 encGWornPin w0.fPins) (w0_fPins_hn : w0.fPins.length = w0_fPins_an) (w0_fStrokes_a : Option Addr) (w0_fStrokes_an : Nat) (w0_fStrokes_c : Nat) (w0_fStrokes_h : Rw w w0_fStrokes_a 1 encI64 w0.fStrokes) (w0_fStrokes_hn : w0.fStrokes.length = w0_fStrokes_an) (h : impl_Wear_without w0 i1 = some r) :
    Calls Tryz.prog 82 #[(.agg #[(.slice w0_fPins_a w0_fPins_an w0_fPins_c), (.slice w0_fStrokes_a w0_fStrokes_an w0_fStrokes_c)]), (.int .i64 i1)] w fun e w' => ∃ v, e = .returned v ∧ (∃ (o0 : Option Nat) (c0 : Nat) (s0 : List Value) (n0 : Nat), r.fPins.length = n0 ∧ (o0 ≠ none → n0 ≤ c0 ∧ s0.length = (c0 - n0) * 3) ∧ (o0 = none → r.fPins = [] ∧ c0 = 0) ∧ ∃ (o1 : Option Nat) (c1 : Nat) (s1 : List Value) (n1 : Nat), r.fStrokes.length = n1 ∧ (o1 ≠ none → n1 ≤ c1 ∧ s1.length = (c1 - n1) * 1) ∧ (o1 = none → r.fStrokes = [] ∧ c1 = 0) ∧ v = .agg #[.slice (o0.map fun b => ⟨b, 0, none⟩) n0 c0, .slice (o1.map fun b => ⟨b, 0, none⟩) n1 c1] ∧ Mem w [] [⟨o0, 75, row encGWornPin r.fPins s0⟩, ⟨o1, 2, row encI64 r.fStrokes s1⟩] w') := by
  subst w0_fPins_hn w0_fStrokes_hn
  rw [impl_Wear_without] at h
  refine enter (args := [(.agg #[(.slice w0_fPins_a w0.fPins.length w0_fPins_c), (.slice w0_fStrokes_a w0.fStrokes.length w0_fStrokes_c)]), (.int .i64 i1)]) Tryz.func82 rfl Tryz.ntmps82 (by kernel_rfl) (L := []) (W := []) (Mem.start w) ?_
  refine jc_seq ?_
  refine jc_region ?_
  refine toO (by kernel_rfl) (p_a 0 [0] (by kernel_rfl) (fun b => by kernel_rfl) (fun b_1 => jkO ?_))
  refine toO (by kernel_rfl) (p_a 0 [0] (by kernel_rfl) (fun b => by kernel_rfl) (fun b_2 => jkO ?_))
  refine jo_end (by kernel_rfl) ?_
  refine jx_then ?_
  refine jc_seq ?_
  refine jc_region ?_
  refine jo_f [(0, 0)] (by kernel_rfl) ?_
  obtain ⟨t_1, ht_3, h⟩ := bd h
  refine toO (by kernel_rfl) (p_call 0 84 #[(.agg #[(.slice w0_fPins_a w0.fPins.length w0_fPins_c), (.slice w0_fStrokes_a w0.fStrokes.length w0_fStrokes_c)])] (by kernel_rfl) (by kernel_rfl) (fun w hm => impl_Wear_own.calls w0 w _ w0_fPins_a w0.fPins.length w0_fPins_c (hm.exRow w0_fPins_h List.not_mem_nil) rfl w0_fStrokes_a w0.fStrokes.length w0_fStrokes_c (hm.exRow w0_fStrokes_h List.not_mem_nil) rfl ht_3) ?_)
  rintro w v w' hm ⟨o_4, cap_5, sp_6, _, rfl, hs_7, ho_8, o_9, cap_10, sp_11, _, rfl, hs_12, ho_13, rfl, hm'⟩
  refine ⟨_, hm.app hm', jkO ?_⟩
  clear hm hm'
  refine toO (by kernel_rfl) (p_a 0 [0] (by kernel_rfl) (fun b => by kernel_rfl) (fun b_14 => jkO ?_))
  refine toO (by kernel_rfl) (p_s 0 [4] (by kernel_rfl) (by kernel_rfl) (jkO ?_))
  refine jo_end (by kernel_rfl) ?_
  refine jx_then ?_
  refine jc_seq ?_
  refine jc_region ?_
  refine jo_f [(0, 0), (4, 0), (0, 0), (0, 0), (0, 0)] (by kernel_rfl) ?_
  obtain ⟨t_2, ht_15, h⟩ := bd h
  refine toO (by kernel_rfl) (p_call 0 114 #[(.slice (o_4.map fun b => ⟨b, 0, none⟩) t_1.fPins.length cap_5), (.int .i64 i1), (.int .i64 (w64 (i1 + 1)))] (by kernel_rfl) (by kernel_rfl) (fun w hm => slices_Delete_WornPin.calls t_1.fPins i1 (w64 (i1 + 1)) w _ o_4 t_1.fPins.length cap_5 sp_6 rfl hs_7 ho_8 (hm.pass (N := [⟨o_4, 75, row encGWornPin t_1.fPins sp_6⟩]) [2] (by kernel_rfl) (by kernel_rfl)) ht_15) ?_)
  rintro w v w' hm ⟨o_16, cap_17, sp_18, _, rfl, hs_19, ho_20, rfl, hm'⟩
  refine ⟨_, hm.appP (ps := []) (ds := [2]) (N := [⟨o_16, 75, row encGWornPin t_2 sp_18⟩]) hm' [0] (by kernel_rfl) (by kernel_rfl) (by kernel_rfl), jkO ?_⟩
  clear hm hm'
  refine jo_f [(0, 0)] (by kernel_rfl) ?_
  refine toO (by kernel_rfl) (p_s 0 [4] (by kernel_rfl) (by kernel_rfl) (jkO ?_))
  refine jo_end (by kernel_rfl) ?_
  refine jx_then ?_
  refine jc_seq ?_
  refine jc_region ?_
  refine jo_f [(4, 0)] (by kernel_rfl) ?_
  refine toO (by kernel_rfl) (p_s 0 [1] (by kernel_rfl) (by kernel_rfl) (jkO ?_))
  refine jo_end (by kernel_rfl) ?_
  refine jx_then ?_
  refine jc_ret ?_
  obtain rfl := Option.some.inj h
  exact jx_ret [1] (.agg #[(.slice (o_16.map fun b => ⟨b, 0, none⟩) t_2.length cap_17), (.slice (o_9.map fun b => ⟨b, 0, none⟩) t_1.fStrokes.length cap_10)]) [(b_2, b_2), (b_2, b_2)] rfl (by kernel_rfl) (by kernel_rfl) (fun w hm => ⟨o_16, cap_17, sp_18, t_2.length, rfl, hs_19, ho_20, o_9, cap_10, sp_11, t_1.fStrokes.length, rfl, hs_12, ho_13, rfl, hm.pick [5, 3] (by kernel_rfl) (by kernel_rfl)⟩)

def lay_slices_SortFunc_WornPin_at_impl_comparePins_ren : Go.Shelf.Ren := ⟨fun | 6 => 115 | 15 => 139 | 14 => 138 | 28 => 158 | 29 => 159 | 20 => 150 | 21 => 151 | 22 => 152 | 23 => 153 | 24 => 154 | 25 => 155 | 26 => 156 | 27 => 157 | 46 => 162 | 47 => 163 | 48 => 164 | 49 => 165 | 50 => 166 | 57 => 167 | n => n, fun | 22 => 36 | 24 => 75 | 25 => 172 | 3 => 3 | 39 => 177 | 0 => 0 | 53 => 148 | 55 => 145 | 4 => 4 | 46 => 201 | 45 => 200 | 50 => 205 | 5 => 5 | 9 => 9 | 66 => 212 | 70 => 216 | 76 => 218 | 77 => 219 | n => n, fun | n => n⟩
theorem lay_slices_SortFunc_WornPin_at_impl_comparePins : Go.Proofs.SlLaysF0.n6 Tryz.prog lay_slices_SortFunc_WornPin_at_impl_comparePins_ren where
  mixed := by kernel_rfl
  f6 := ⟨ "slices.SortFunc[[]loop.example/g01311/impl.WornPin,loop.example/g01311/impl.WornPin]", by decide, Tryz.func115.trans (congrArg some (by kernel_rfl))⟩
  f14 := ⟨ "slices.pdqsortCmpFunc[loop.example/g01311/impl.WornPin]", by decide, Tryz.func138.trans (congrArg some (by kernel_rfl))⟩
  f15 := Tryz.func139.trans (congrArg some (by kernel_rfl))
  f20 := ⟨ "slices.insertionSortCmpFunc[loop.example/g01311/impl.WornPin]", by decide, Tryz.func150.trans (congrArg some (by kernel_rfl))⟩
  f21 := ⟨ "slices.heapSortCmpFunc[loop.example/g01311/impl.WornPin]", by decide, Tryz.func151.trans (congrArg some (by kernel_rfl))⟩
  f22 := ⟨ "slices.breakPatternsCmpFunc[loop.example/g01311/impl.WornPin]", by decide, Tryz.func152.trans (congrArg some (by kernel_rfl))⟩
  f23 := ⟨ "slices.choosePivotCmpFunc[loop.example/g01311/impl.WornPin]", by decide, Tryz.func153.trans (congrArg some (by kernel_rfl))⟩
  f24 := ⟨ "slices.reverseRangeCmpFunc[loop.example/g01311/impl.WornPin]", by decide, Tryz.func154.trans (congrArg some (by kernel_rfl))⟩
  f25 := ⟨ "slices.partialInsertionSortCmpFunc[loop.example/g01311/impl.WornPin]", by decide, Tryz.func155.trans (congrArg some (by kernel_rfl))⟩
  f26 := ⟨ "slices.partitionEqualCmpFunc[loop.example/g01311/impl.WornPin]", by decide, Tryz.func156.trans (congrArg some (by kernel_rfl))⟩
  f27 := ⟨ "slices.partitionCmpFunc[loop.example/g01311/impl.WornPin]", by decide, Tryz.func157.trans (congrArg some (by kernel_rfl))⟩
  f28 := Tryz.func158.trans (congrArg some (by kernel_rfl))
  f29 := Tryz.func159.trans (congrArg some (by kernel_rfl))
  f46 := ⟨ "slices.siftDownCmpFunc[loop.example/g01311/impl.WornPin]", by decide, Tryz.func162.trans (congrArg some (by kernel_rfl))⟩
  f47 := Tryz.func163.trans (congrArg some (by kernel_rfl))
  f48 := Tryz.func164.trans (congrArg some (by kernel_rfl))
  f49 := ⟨ "slices.medianAdjacentCmpFunc[loop.example/g01311/impl.WornPin]", by decide, Tryz.func165.trans (congrArg some (by kernel_rfl))⟩
  f50 := ⟨ "slices.medianCmpFunc[loop.example/g01311/impl.WornPin]", by decide, Tryz.func166.trans (congrArg some (by kernel_rfl))⟩
  f57 := ⟨ "slices.order2CmpFunc[loop.example/g01311/impl.WornPin]", by decide, Tryz.func167.trans (congrArg some (by kernel_rfl))⟩
  t0 := Tryz.underlying0
  a0 := Tryz.isAgg0
  z0 := Tryz.sizeOf0
  v0 := Tryz.zeroValue0
  t3 := Tryz.underlying3
  a3 := Tryz.isAgg3
  z3 := Tryz.sizeOf3
  v3 := Tryz.zeroValue3
  t4 := Tryz.underlying4
  a4 := Tryz.isAgg4
  z4 := Tryz.sizeOf4
  v4 := Tryz.zeroValue4
  t5 := Tryz.underlying5
  a5 := Tryz.isAgg5
  z5 := Tryz.sizeOf5
  v5 := Tryz.zeroValue5
  t9 := Tryz.underlying9
  a9 := Tryz.isAgg9
  z9 := Tryz.sizeOf9
  v9 := Tryz.zeroValue9
  t22 := Tryz.underlying36
  a22 := Tryz.isAgg36
  z22 := Tryz.sizeOf36
  v22 := Tryz.zeroValue36
  t25 := Tryz.underlying172
  a25 := Tryz.isAgg172
  z25 := Tryz.sizeOf172
  v25 := Tryz.zeroValue172
  t39 := Tryz.underlying177
  a39 := Tryz.isAgg177
  z39 := Tryz.sizeOf177
  v39 := Tryz.zeroValue177
  t45 := Tryz.underlying200
  a45 := Tryz.isAgg200
  z45 := Tryz.sizeOf200
  v45 := Tryz.zeroValue200
  t46 := Tryz.underlying201
  a46 := Tryz.isAgg201
  z46 := Tryz.sizeOf201
  v46 := Tryz.zeroValue201
  t50 := Tryz.underlying205
  a50 := Tryz.isAgg205
  z50 := Tryz.sizeOf205
  v50 := Tryz.zeroValue205
  t53 := Tryz.underlying148
  a53 := Tryz.isAgg148
  z53 := Tryz.sizeOf148
  v53 := Tryz.zeroValue148
  t55 := Tryz.underlying145
  a55 := Tryz.isAgg145
  z55 := Tryz.sizeOf145
  v55 := Tryz.zeroValue145
  t66 := Tryz.underlying212
  a66 := Tryz.isAgg212
  z66 := Tryz.sizeOf212
  v66 := Tryz.zeroValue212
  t70 := Tryz.underlying216
  a70 := Tryz.isAgg216
  z70 := Tryz.sizeOf216
  v70 := Tryz.zeroValue216
  t76 := Tryz.underlying218
  a76 := Tryz.isAgg218
  z76 := Tryz.sizeOf218
  v76 := Tryz.zeroValue218
  t77 := Tryz.underlying219
  a77 := Tryz.isAgg219
  z77 := Tryz.sizeOf219
  v77 := Tryz.zeroValue219
/-! ### slices.SortFunc[[]impl.WornPin,impl.WornPin] -/
noncomputable def slices_SortFunc_WornPin_at_impl_comparePins (x0 : List GWornPin) : Option ((List GWornPin)) := sortF (fun a b => impl_comparePins a b) x0
set_option maxRecDepth 100000 in
theorem slices_SortFunc_WornPin_at_impl_comparePins.calls (x0 : List GWornPin) (w : World) (r : (List GWornPin)) (x0_o : Option Nat) (x0_on : Nat) (x0_c : Nat) (x0_sp : List Value) (x0_hn : x0.length = x0_on) (x0_hs : x0_o ≠ none → x0_on ≤ x0_c ∧ x0_sp.length = (x0_c - x0_on) * 3) (x0_ho : x0_o = none → x0 = [] ∧ x0_c = 0) (hm0 : Mem w (bs [x0_o]) [⟨x0_o, 75, row encGWornPin x0 x0_sp⟩] w) (h : slices_SortFunc_WornPin_at_impl_comparePins x0 = some r) :
    Calls Tryz.prog 115 #[(.slice (x0_o.map fun b => ⟨b, 0, none⟩) x0_on x0_c), (.func (.func 116) #[] #[])] w fun e w' => ∃ v, e = .returned v ∧ (r.length = x0_on ∧ (x0_o = none → r = [] ∧ x0_c = 0) ∧ v = .tuple #[] ∧ Mem w (bs [x0_o]) [⟨x0_o, 75, row encGWornPin r x0_sp⟩] w') := by
  exact sort_calls lay_slices_SortFunc_WornPin_at_impl_comparePins 3 Tryz.isAgg75 Tryz.sizeOf75 encGWornPin encGWornPin_len (fun x v hv => by simp [encGWornPin] at hv; rcases hv with rfl | rfl | rfl <;> rfl) (fun a b => impl_comparePins a b) 116 (enters_of Tryz.func116 (by kernel_rfl) rfl) (fun x y r w hxy => impl_comparePins.calls x y w r hxy) 75 x0 w r x0_o x0_on x0_c x0_sp x0_hn x0_hs x0_ho hm0 (by rw [slices_SortFunc_WornPin_at_impl_comparePins] at h; exact h)

/-! ### (impl.Wear).with -/
noncomputable def impl_Wear_with (w0 : GWear) (p1 : GWornPin) : Option (GWear) := (impl_Wear_own w0).bind fun t_1 => (if t_1.fPins.length + [p1].length ≤ 4294967296 then (slices_SortFunc_WornPin_at_impl_comparePins (t_1.fPins ++ [p1])).bind fun t_2 => some (⟨t_2, t_1.fStrokes⟩ : GWear) else none)
set_option maxRecDepth 100000 in
theorem impl_Wear_with.calls (w0 : GWear) (p1 : GWornPin) (w : World) (r : GWear) (w0_fPins_a : Option Addr) (w0_fPins_an : Nat) (w0_fPins_c : Nat) (w0_fPins_h : Rw w w0_fPins_a 3 encGWornPin w0.fPins) (w0_fPins_hn : w0.fPins.length = w0_fPins_an) (w0_fStrokes_a : Option Addr) (w0_fStrokes_an : Nat) (w0_fStrokes_c : Nat) (w0_fStrokes_h : Rw w w0_fStrokes_a 1 encI64 w0.fStrokes) (w0_fStrokes_hn : w0.fStrokes.length = w0_fStrokes_an) (h : impl_Wear_with w0 p1 = some r) :
    Calls Tryz.prog 83 #[(.agg #[(.slice w0_fPins_a w0_fPins_an w0_fPins_c), (.slice w0_fStrokes_a w0_fStrokes_an w0_fStrokes_c)]), (.agg #[(.int .i8 p1.fStep), (.int .i8 p1.fTrack), (.int .i64 p1.fTurns)])] w fun e w' => ∃ v, e = .returned v ∧ (∃ (o0 : Option Nat) (c0 : Nat) (s0 : List Value) (n0 : Nat), r.fPins.length = n0 ∧ (o0 ≠ none → n0 ≤ c0 ∧ s0.length = (c0 - n0) * 3) ∧ (o0 = none → r.fPins = [] ∧ c0 = 0) ∧ ∃ (o1 : Option Nat) (c1 : Nat) (s1 : List Value) (n1 : Nat), r.fStrokes.length = n1 ∧ (o1 ≠ none → n1 ≤ c1 ∧ s1.length = (c1 - n1) * 1) ∧ (o1 = none → r.fStrokes = [] ∧ c1 = 0) ∧ v = .agg #[.slice (o0.map fun b => ⟨b, 0, none⟩) n0 c0, .slice (o1.map fun b => ⟨b, 0, none⟩) n1 c1] ∧ Mem w [] [⟨o0, 75, row encGWornPin r.fPins s0⟩, ⟨o1, 2, row encI64 r.fStrokes s1⟩] w') := by
  subst w0_fPins_hn w0_fStrokes_hn
  rw [impl_Wear_with] at h
  refine enter (args := [(.agg #[(.slice w0_fPins_a w0.fPins.length w0_fPins_c), (.slice w0_fStrokes_a w0.fStrokes.length w0_fStrokes_c)]), (.agg #[(.int .i8 p1.fStep), (.int .i8 p1.fTrack), (.int .i64 p1.fTurns)])]) Tryz.func83 rfl Tryz.ntmps83 (by kernel_rfl) (L := []) (W := []) (Mem.start w) ?_
  refine jc_seq ?_
  refine jc_region ?_
  refine toO (by kernel_rfl) (p_a 0 [0] (by kernel_rfl) (fun b => by kernel_rfl) (fun b_1 => jkO ?_))
  refine toO (by kernel_rfl) (p_a 0 [0] (by kernel_rfl) (fun b => by kernel_rfl) (fun b_2 => jkO ?_))
  refine toO (by kernel_rfl) (p_a 0 [0] (by kernel_rfl) (fun b => by kernel_rfl) (fun b_3 => jkO ?_))
  refine jo_end (by kernel_rfl) ?_
  refine jx_then ?_
  refine jc_seq ?_
  refine jc_region ?_
  refine jo_f [(0, 0)] (by kernel_rfl) ?_
  obtain ⟨t_1, ht_4, h⟩ := bd h
  refine toO (by kernel_rfl) (p_call 0 84 #[(.agg #[(.slice w0_fPins_a w0.fPins.length w0_fPins_c), (.slice w0_fStrokes_a w0.fStrokes.length w0_fStrokes_c)])] (by kernel_rfl) (by kernel_rfl) (fun w hm => impl_Wear_own.calls w0 w _ w0_fPins_a w0.fPins.length w0_fPins_c (hm.exRow w0_fPins_h List.not_mem_nil) rfl w0_fStrokes_a w0.fStrokes.length w0_fStrokes_c (hm.exRow w0_fStrokes_h List.not_mem_nil) rfl ht_4) ?_)
  rintro w v w' hm ⟨o_5, cap_6, sp_7, _, rfl, hs_8, ho_9, o_10, cap_11, sp_12, _, rfl, hs_13, ho_14, rfl, hm'⟩
  refine ⟨_, hm.app hm', jkO ?_⟩
  clear hm hm'
  refine toO (by kernel_rfl) (p_a 0 [0] (by kernel_rfl) (fun b => by kernel_rfl) (fun b_15 => jkO ?_))
  refine toO (by kernel_rfl) (p_s 0 [5] (by kernel_rfl) (by kernel_rfl) (jkO ?_))
  refine jo_end (by kernel_rfl) ?_
  refine jx_then ?_
  refine jc_seq ?_
  refine jc_region ?_
  refine jo_f [(0, 0), (5, 0), (1, 0)] (by kernel_rfl) ?_
  refine toO (by kernel_rfl) (p_a 0 [0] (by kernel_rfl) (fun b => by kernel_rfl) (fun b_16 => jkO ?_))
  obtain ⟨hg_17, h⟩ := gd h
  refine toO (by kernel_rfl) (p_apn 0 3 o_5 75 t_1.fPins.length 1 cap_6 3 16 (some ⟨b_16, 0, none⟩) encGWornPin t_1.fPins [p1] sp_7 (.agg #[(.int .i8 0), (.int .i8 0), (.int .i64 0)]) rfl rfl (by kernel_rfl) (by kernel_rfl) (by kernel_rfl) encGWornPin_len encGWornPin_cell hs_8 ho_9 (fun w hm => (hm.ownRow (hh := 6) (o := (some b_16)) (T := 75) (enc := encGWornPin) (xs := [p1]) (sp := []) (by kernel_rfl) (fun e => nomatch e) encGWornPin_len)) hg_17 (by kernel_rfl) (by kernel_rfl) (fun o_18 cap_19 sp_20 hs_21 ho_22 => jkO ?_))
  refine jo_f [(0, 0)] (by kernel_rfl) ?_
  refine toO (by kernel_rfl) (p_s 0 [5] (by kernel_rfl) (by kernel_rfl) (jkO ?_))
  refine jo_end (by kernel_rfl) ?_
  refine jx_then ?_
  refine jc_seq ?_
  refine jc_region ?_
  refine jo_f [(0, 0), (5, 0)] (by kernel_rfl) ?_
  obtain ⟨t_2, ht_23, h⟩ := bd h
  refine toO (by kernel_rfl) (p_call 0 115 #[(.slice (o_18.map fun b => ⟨b, 0, none⟩) ((t_1.fPins ++ [p1]).length) cap_19), (.func (.func 116) #[] #[])] (by kernel_rfl) (by kernel_rfl) (fun w hm => slices_SortFunc_WornPin_at_impl_comparePins.calls (t_1.fPins ++ [p1]) w _ o_18 ((t_1.fPins ++ [p1]).length) cap_19 sp_20 rfl hs_21 ho_22 (hm.pass (N := [⟨o_18, 75, row encGWornPin (t_1.fPins ++ [p1]) sp_20⟩]) [3] (by kernel_rfl) (by kernel_rfl)) ht_23) ?_)
  rintro w v w' hm ⟨hn_24, ho_25, rfl, hm'⟩
  refine ⟨_, hm.appW (ps := [(3, ⟨o_18, 75, row encGWornPin t_2 sp_20⟩)]) (N := []) hm' (by kernel_rfl) (by kernel_rfl), jkO ?_⟩
  clear hm hm'
  refine jo_end (by kernel_rfl) ?_
  refine jx_then ?_
  refine jc_seq ?_
  refine jc_region ?_
  refine jo_f [(5, 0)] (by kernel_rfl) ?_
  refine toO (by kernel_rfl) (p_s 0 [2] (by kernel_rfl) (by kernel_rfl) (jkO ?_))
  refine jo_end (by kernel_rfl) ?_
  refine jx_then ?_
  refine jc_ret ?_
  obtain rfl := Option.some.inj h
  exact jx_ret [2] (.agg #[(.slice (o_18.map fun b => ⟨b, 0, none⟩) ((t_1.fPins ++ [p1]).length) cap_19), (.slice (o_10.map fun b => ⟨b, 0, none⟩) t_1.fStrokes.length cap_11)]) [(b_3, b_3), (b_3, b_3)] rfl (by kernel_rfl) (by kernel_rfl) (fun w hm => ⟨o_18, cap_19, sp_20, ((t_1.fPins ++ [p1]).length), hn_24, hs_21, ho_25, o_10, cap_11, sp_12, t_1.fStrokes.length, rfl, hs_13, ho_14, rfl, hm.pick [3, 4] (by kernel_rfl) (by kernel_rfl)⟩)

/-! ### impl.NewPin -/
noncomputable def impl_NewPin (f0 : GFrame) (w1 : GWear) (step2 : Int) (track3 : Int) : Option (GWear × Int) := (impl_wornPlaceCode f0 w1 [(Arr.set (Arr.set (Arr.rep 2 0) 0 step2) 1 track3)]).bind fun t_1 => (if (t_1 != 0) = true then some ((⟨[], []⟩ : GWear), t_1) else (impl_Wear_at w1 step2 track3).bind fun t_2 => (if (decide (t_2 ≥ 0)) = true then (impl_Wear_without w1 t_2).bind fun t_3 => (impl_Wear_with t_3 (⟨(w8 step2), (w8 track3), 0⟩ : GWornPin)).bind fun t_4 => some (t_4, 0) else (impl_Wear_with w1 (⟨(w8 step2), (w8 track3), 0⟩ : GWornPin)).bind fun t_5 => some (t_5, 0)))
set_option maxRecDepth 100000 in
theorem impl_NewPin.calls (f0 : GFrame) (w1 : GWear) (step2 : Int) (track3 : Int) (w : World) (r : GWear × Int) (f0_fHammers_a : Option Addr) (f0_fHammers_an : Nat) (f0_fHammers_c : Nat) (f0_fHammers_h : Rw w f0_fHammers_a 2 encGHammer f0.fHammers) (f0_fHammers_hn : f0.fHammers.length = f0_fHammers_an) (w1_fPins_a : Option Addr) (w1_fPins_an : Nat) (w1_fPins_c : Nat) (w1_fPins_h : Rw w w1_fPins_a 3 encGWornPin w1.fPins) (w1_fPins_hn : w1.fPins.length = w1_fPins_an) (w1_fStrokes_a : Option Addr) (w1_fStrokes_an : Nat) (w1_fStrokes_c : Nat) (w1_fStrokes_h : Rw w w1_fStrokes_a 1 encI64 w1.fStrokes) (w1_fStrokes_hn : w1.fStrokes.length = w1_fStrokes_an) (h : impl_NewPin f0 w1 step2 track3 = some r) :
    Calls Tryz.prog 35 #[(.agg #[(.int .i16 f0.fSteps), (.slice f0_fHammers_a f0_fHammers_an f0_fHammers_c)]), (.agg #[(.slice w1_fPins_a w1_fPins_an w1_fPins_c), (.slice w1_fStrokes_a w1_fStrokes_an w1_fStrokes_c)]), (.int .i64 step2), (.int .i64 track3)] w fun e w' => ∃ v, e = .returned v ∧ (∃ (o0 : Option Nat) (c0 : Nat) (s0 : List Value) (n0 : Nat), r.1.fPins.length = n0 ∧ (o0 ≠ none → n0 ≤ c0 ∧ s0.length = (c0 - n0) * 3) ∧ (o0 = none → r.1.fPins = [] ∧ c0 = 0) ∧ ∃ (o1 : Option Nat) (c1 : Nat) (s1 : List Value) (n1 : Nat), r.1.fStrokes.length = n1 ∧ (o1 ≠ none → n1 ≤ c1 ∧ s1.length = (c1 - n1) * 1) ∧ (o1 = none → r.1.fStrokes = [] ∧ c1 = 0) ∧ v = .tuple #[.agg #[.slice (o0.map fun b => ⟨b, 0, none⟩) n0 c0, .slice (o1.map fun b => ⟨b, 0, none⟩) n1 c1], (.int .i64 r.2)] ∧ Mem w [] [⟨o0, 75, row encGWornPin r.1.fPins s0⟩, ⟨o1, 2, row encI64 r.1.fStrokes s1⟩] w') := by
  subst f0_fHammers_hn w1_fPins_hn w1_fStrokes_hn
  rw [impl_NewPin] at h
  refine enter (args := [(.agg #[(.int .i16 f0.fSteps), (.slice f0_fHammers_a f0.fHammers.length f0_fHammers_c)]), (.agg #[(.slice w1_fPins_a w1.fPins.length w1_fPins_c), (.slice w1_fStrokes_a w1.fStrokes.length w1_fStrokes_c)]), (.int .i64 step2), (.int .i64 track3)]) Tryz.func35 rfl Tryz.ntmps35 (by kernel_rfl) (L := []) (W := []) (Mem.start w) ?_
  refine jc_seq ?_
  refine jc_region ?_
  refine toO (by kernel_rfl) (p_a 0 [0] (by kernel_rfl) (fun b => by kernel_rfl) (fun b_1 => jkO ?_))
  refine toO (by kernel_rfl) (p_a 0 [0] (by kernel_rfl) (fun b => by kernel_rfl) (fun b_2 => jkO ?_))
  refine toO (by kernel_rfl) (p_a 0 [0] (by kernel_rfl) (fun b => by kernel_rfl) (fun b_3 => jkO ?_))
  refine jo_f [(0, 0)] (by kernel_rfl) ?_
  refine jo_end (by kernel_rfl) ?_
  refine jx_then ?_
  refine jc_seq ?_
  refine jc_seq ?_
  refine jc_region ?_
  refine jo_f [(0, 0), (1, 0), (0, 0), (0, 0), (0, 0)] (by kernel_rfl) ?_
  refine toO (by kernel_rfl) (p_bs 0 128 2 1 encA2I64 [(.agg (row encI64 (Arr.set (Arr.set (Arr.rep 2 0) 0 step2) 1 track3).1 []).toArray)] [(Arr.set (Arr.set (Arr.rep 2 0) 0 step2) 1 track3)] (by kernel_rfl) (by kernel_rfl) rfl (by kernel_rfl) (by kernel_rfl) encA2I64_len (fun b_7 => jkO ?_))
  obtain ⟨t_1, ht_8, h⟩ := bd h
  refine toO (by kernel_rfl) (p_call 0 80 #[(.agg #[(.int .i16 f0.fSteps), (.slice f0_fHammers_a f0.fHammers.length f0_fHammers_c)]), (.agg #[(.slice w1_fPins_a w1.fPins.length w1_fPins_c), (.slice w1_fStrokes_a w1.fStrokes.length w1_fStrokes_c)]), (.slice (some ⟨b_7, 0, none⟩) 1 1)] (by kernel_rfl) (by kernel_rfl) (fun w hm => impl_wornPlaceCode.calls f0 w1 [(Arr.set (Arr.set (Arr.rep 2 0) 0 step2) 1 track3)] w _ f0_fHammers_a f0.fHammers.length f0_fHammers_c (hm.exRow f0_fHammers_h List.not_mem_nil) rfl w1_fPins_a w1.fPins.length w1_fPins_c (hm.exRow w1_fPins_h List.not_mem_nil) rfl w1_fStrokes_a w1.fStrokes.length w1_fStrokes_c (hm.exRow w1_fStrokes_h List.not_mem_nil) rfl (some ⟨b_7, 0, none⟩) 1 1 (hm.ownRow (hh := 3) (o := (some b_7)) (T := 128) (enc := encA2I64) (xs := [(Arr.set (Arr.set (Arr.rep 2 0) 0 step2) 1 track3)]) (sp := []) (by kernel_rfl) (fun e => nomatch e) encA2I64_len) rfl ht_8) ?_)
  rintro w v w' hm ⟨rfl, hm'⟩
  refine ⟨_, hm.app hm', jkO ?_⟩
  clear hm hm'
  refine jo_f [(0, 0)] (by kernel_rfl) ?_
  refine jo_end (by kernel_rfl) ?_
  refine jx_then ?_
  refine jc_seq ?_
  refine jc_region ?_
  refine jo_f [(0, 0), (0, 0)] (by kernel_rfl) ?_
  refine jo_end (by kernel_rfl) ?_
  refine jx_then ?_
  refine jc_cond (t_1 != 0) (by kernel_rfl) (fun hc_9 => ?_) (fun hc_9 => ?_)
  · replace h := ifT hc_9 h
    refine jc_seq ?_
    refine jc_region ?_
    refine jo_f [(0, 0), (0, 0)] (by kernel_rfl) ?_
    refine toO (by kernel_rfl) (p_s 0 [2] (by kernel_rfl) (by kernel_rfl) (jkO ?_))
    refine jo_f [(0, 0)] (by kernel_rfl) ?_
    refine jo_end (by kernel_rfl) ?_
    refine jx_then ?_
    refine jc_ret ?_
    refine jx_thenr ?_
    obtain rfl := Option.some.inj h
    refine jx_ghost 75 encGWornPin ?_
    refine jx_ghost 2 encI64 ?_
    exact jx_ret [2] (.tuple #[(.agg #[(.slice none 0 0), (.slice none 0 0)]), (.int .i64 t_1)]) [(b_3, b_3), (b_3, b_3)] rfl (by kernel_rfl) (by kernel_rfl) (fun w hm => ⟨none, 0, [], 0, rfl, (fun e => absurd rfl e), (fun _ => ⟨rfl, rfl⟩), none, 0, [], 0, rfl, (fun e => absurd rfl e), (fun _ => ⟨rfl, rfl⟩), rfl, hm.pick [4, 5] (by kernel_rfl) (by kernel_rfl)⟩)
  · replace h := ifF hc_9 h
    refine jc_skip ?_
    refine jx_then ?_
    refine jc_seq ?_
    refine jc_seq ?_
    refine jc_region ?_
    refine jo_f [(1, 0), (0, 0), (0, 0)] (by kernel_rfl) ?_
    obtain ⟨t_2, ht_23, h⟩ := bd h
    refine toO (by kernel_rfl) (p_call 0 81 #[(.agg #[(.slice w1_fPins_a w1.fPins.length w1_fPins_c), (.slice w1_fStrokes_a w1.fStrokes.length w1_fStrokes_c)]), (.int .i64 step2), (.int .i64 track3)] (by kernel_rfl) (by kernel_rfl) (fun w hm => impl_Wear_at.calls w1 step2 track3 w _ w1_fPins_a w1.fPins.length w1_fPins_c (hm.exRow w1_fPins_h List.not_mem_nil) rfl w1_fStrokes_a w1.fStrokes.length w1_fStrokes_c (hm.exRow w1_fStrokes_h List.not_mem_nil) rfl ht_23) ?_)
    rintro w v w' hm ⟨rfl, hm'⟩
    refine ⟨_, hm.app hm', jkO ?_⟩
    clear hm hm'
    refine jo_f [(0, 0)] (by kernel_rfl) ?_
    refine jo_end (by kernel_rfl) ?_
    refine jx_then ?_
    refine jc_seq ?_
    refine jc_region ?_
    refine jo_f [(0, 0), (0, 0)] (by kernel_rfl) ?_
    refine jo_end (by kernel_rfl) ?_
    refine jx_then ?_
    refine jc_cond (decide (t_2 ≥ 0)) (by kernel_rfl) (fun hc_24 => ?_) (fun hc_24 => ?_)
    · replace h := ifT hc_24 h
      refine jc_region ?_
      refine jo_f [(1, 0), (0, 0)] (by kernel_rfl) ?_
      obtain ⟨t_3, ht_25, h⟩ := bd h
      refine toO (by kernel_rfl) (p_call 0 82 #[(.agg #[(.slice w1_fPins_a w1.fPins.length w1_fPins_c), (.slice w1_fStrokes_a w1.fStrokes.length w1_fStrokes_c)]), (.int .i64 t_2)] (by kernel_rfl) (by kernel_rfl) (fun w hm => impl_Wear_without.calls w1 t_2 w _ w1_fPins_a w1.fPins.length w1_fPins_c (hm.exRow w1_fPins_h List.not_mem_nil) rfl w1_fStrokes_a w1.fStrokes.length w1_fStrokes_c (hm.exRow w1_fStrokes_h List.not_mem_nil) rfl ht_25) ?_)
      rintro w v w' hm ⟨o_26, cap_27, sp_28, _, rfl, hs_29, ho_30, o_31, cap_32, sp_33, _, rfl, hs_34, ho_35, rfl, hm'⟩
      refine ⟨_, hm.app hm', jkO ?_⟩
      clear hm hm'
      refine toO (by kernel_rfl) (p_s 0 [1] (by kernel_rfl) (by kernel_rfl) (jkO ?_))
      refine jo_end (by kernel_rfl) ?_
      refine jx_then ?_
      refine jc_seq ?_
      refine jc_region ?_
      refine jo_f [(1, 0), (0, 0), (0, 0), (0, 0), (0, 0), (0, 0)] (by kernel_rfl) ?_
      obtain ⟨t_4, ht_36, h⟩ := bd h
      refine toO (by kernel_rfl) (p_call 0 83 #[(.agg #[(.slice (o_26.map fun b => ⟨b, 0, none⟩) t_3.fPins.length cap_27), (.slice (o_31.map fun b => ⟨b, 0, none⟩) t_3.fStrokes.length cap_32)]), (.agg #[(.int .i8 (w8 step2)), (.int .i8 (w8 track3)), (.int .i64 0)])] (by kernel_rfl) (by kernel_rfl) (fun w hm => impl_Wear_with.calls t_3 (⟨(w8 step2), (w8 track3), 0⟩ : GWornPin) w _ (o_26.map fun b => ⟨b, 0, none⟩) t_3.fPins.length cap_27 (hm.ownRow (hh := 4) (o := o_26) (T := 75) (enc := encGWornPin) (xs := t_3.fPins) (sp := sp_28) (by kernel_rfl) (fun e => (ho_30 e).1) encGWornPin_len) rfl (o_31.map fun b => ⟨b, 0, none⟩) t_3.fStrokes.length cap_32 (hm.ownRow (hh := 5) (o := o_31) (T := 2) (enc := encI64) (xs := t_3.fStrokes) (sp := sp_33) (by kernel_rfl) (fun e => (ho_35 e).1) encI64_len) rfl ht_36) ?_)
      rintro w v w' hm ⟨o_37, cap_38, sp_39, _, rfl, hs_40, ho_41, o_42, cap_43, sp_44, _, rfl, hs_45, ho_46, rfl, hm'⟩
      refine ⟨_, hm.app hm', jkO ?_⟩
      clear hm hm'
      refine toO (by kernel_rfl) (p_s 0 [2] (by kernel_rfl) (by kernel_rfl) (jkO ?_))
      refine jo_f [(0, 0)] (by kernel_rfl) ?_
      refine jo_end (by kernel_rfl) ?_
      refine jx_then ?_
      refine jc_ret ?_
      obtain rfl := Option.some.inj h
      exact jx_ret [2] (.tuple #[(.agg #[(.slice (o_37.map fun b => ⟨b, 0, none⟩) t_4.fPins.length cap_38), (.slice (o_42.map fun b => ⟨b, 0, none⟩) t_4.fStrokes.length cap_43)]), (.int .i64 0)]) [(b_3, b_3), (b_3, b_3)] rfl (by kernel_rfl) (by kernel_rfl) (fun w hm => ⟨o_37, cap_38, sp_39, t_4.fPins.length, rfl, hs_40, ho_41, o_42, cap_43, sp_44, t_4.fStrokes.length, rfl, hs_45, ho_46, rfl, hm.pick [6, 7] (by kernel_rfl) (by kernel_rfl)⟩)
    · replace h := ifF hc_24 h
      refine jc_skip ?_
      refine jx_then ?_
      refine jc_seq ?_
      refine jc_region ?_
      refine jo_f [(1, 0), (0, 0), (0, 0), (0, 0), (0, 0), (0, 0)] (by kernel_rfl) ?_
      obtain ⟨t_5, ht_47, h⟩ := bd h
      refine toO (by kernel_rfl) (p_call 0 83 #[(.agg #[(.slice w1_fPins_a w1.fPins.length w1_fPins_c), (.slice w1_fStrokes_a w1.fStrokes.length w1_fStrokes_c)]), (.agg #[(.int .i8 (w8 step2)), (.int .i8 (w8 track3)), (.int .i64 0)])] (by kernel_rfl) (by kernel_rfl) (fun w hm => impl_Wear_with.calls w1 (⟨(w8 step2), (w8 track3), 0⟩ : GWornPin) w _ w1_fPins_a w1.fPins.length w1_fPins_c (hm.exRow w1_fPins_h List.not_mem_nil) rfl w1_fStrokes_a w1.fStrokes.length w1_fStrokes_c (hm.exRow w1_fStrokes_h List.not_mem_nil) rfl ht_47) ?_)
      rintro w v w' hm ⟨o_48, cap_49, sp_50, _, rfl, hs_51, ho_52, o_53, cap_54, sp_55, _, rfl, hs_56, ho_57, rfl, hm'⟩
      refine ⟨_, hm.app hm', jkO ?_⟩
      clear hm hm'
      refine toO (by kernel_rfl) (p_s 0 [2] (by kernel_rfl) (by kernel_rfl) (jkO ?_))
      refine jo_f [(0, 0)] (by kernel_rfl) ?_
      refine jo_end (by kernel_rfl) ?_
      refine jx_then ?_
      refine jc_ret ?_
      obtain rfl := Option.some.inj h
      exact jx_ret [2] (.tuple #[(.agg #[(.slice (o_48.map fun b => ⟨b, 0, none⟩) t_5.fPins.length cap_49), (.slice (o_53.map fun b => ⟨b, 0, none⟩) t_5.fStrokes.length cap_54)]), (.int .i64 0)]) [(b_3, b_3), (b_3, b_3)] rfl (by kernel_rfl) (by kernel_rfl) (fun w hm => ⟨o_48, cap_49, sp_50, t_5.fPins.length, rfl, hs_51, ho_52, o_53, cap_54, sp_55, t_5.fStrokes.length, rfl, hs_56, ho_57, rfl, hm.pick [4, 5] (by kernel_rfl) (by kernel_rfl)⟩)

/-! ### impl.MovePin -/
noncomputable def impl_MovePin.k_4 (w1 : GWear) (toStep4 : Int) (toTrack5 : Int) (t_2 : Int) (q_3 : Bool) : Option (GWear × Int) := (if q_3 = true then some ((⟨[], []⟩ : GWear), 4) else (ix w1.fPins t_2).bind fun x_5 => (impl_Wear_without w1 t_2).bind fun t_6 => (impl_Wear_with t_6 (⟨(w8 toStep4), (w8 toTrack5), x_5.fTurns⟩ : GWornPin)).bind fun t_7 => some (t_7, 0))
noncomputable def impl_MovePin (f0 : GFrame) (w1 : GWear) (step2 : Int) (track3 : Int) (toStep4 : Int) (toTrack5 : Int) : Option (GWear × Int) := (impl_wornPlaceCode f0 w1 [(Arr.set (Arr.set (Arr.rep 2 0) 0 step2) 1 track3), (Arr.set (Arr.set (Arr.rep 2 0) 0 toStep4) 1 toTrack5)]).bind fun t_1 => (if (t_1 != 0) = true then some ((⟨[], []⟩ : GWear), t_1) else (impl_Wear_at w1 step2 track3).bind fun t_2 => (if (decide (t_2 < 0)) = true then impl_MovePin.k_4 w1 toStep4 toTrack5 t_2 true else (impl_Wear_at w1 toStep4 toTrack5).bind fun t_8 => impl_MovePin.k_4 w1 toStep4 toTrack5 t_2 (decide (t_8 ≥ 0))))
set_option maxRecDepth 100000 in
theorem impl_MovePin.calls (f0 : GFrame) (w1 : GWear) (step2 : Int) (track3 : Int) (toStep4 : Int) (toTrack5 : Int) (w : World) (r : GWear × Int) (f0_fHammers_a : Option Addr) (f0_fHammers_an : Nat) (f0_fHammers_c : Nat) (f0_fHammers_h : Rw w f0_fHammers_a 2 encGHammer f0.fHammers) (f0_fHammers_hn : f0.fHammers.length = f0_fHammers_an) (w1_fPins_a : Option Addr) (w1_fPins_an : Nat) (w1_fPins_c : Nat) (w1_fPins_h : Rw w w1_fPins_a 3 encGWornPin w1.fPins) (w1_fPins_hn : w1.fPins.length = w1_fPins_an) (w1_fStrokes_a : Option Addr) (w1_fStrokes_an : Nat) (w1_fStrokes_c : Nat) (w1_fStrokes_h : Rw w w1_fStrokes_a 1 encI64 w1.fStrokes) (w1_fStrokes_hn : w1.fStrokes.length = w1_fStrokes_an) (h : impl_MovePin f0 w1 step2 track3 toStep4 toTrack5 = some r) :
    Calls Tryz.prog 123 #[(.agg #[(.int .i16 f0.fSteps), (.slice f0_fHammers_a f0_fHammers_an f0_fHammers_c)]), (.agg #[(.slice w1_fPins_a w1_fPins_an w1_fPins_c), (.slice w1_fStrokes_a w1_fStrokes_an w1_fStrokes_c)]), (.int .i64 step2), (.int .i64 track3), (.int .i64 toStep4), (.int .i64 toTrack5)] w fun e w' => ∃ v, e = .returned v ∧ (∃ (o0 : Option Nat) (c0 : Nat) (s0 : List Value) (n0 : Nat), r.1.fPins.length = n0 ∧ (o0 ≠ none → n0 ≤ c0 ∧ s0.length = (c0 - n0) * 3) ∧ (o0 = none → r.1.fPins = [] ∧ c0 = 0) ∧ ∃ (o1 : Option Nat) (c1 : Nat) (s1 : List Value) (n1 : Nat), r.1.fStrokes.length = n1 ∧ (o1 ≠ none → n1 ≤ c1 ∧ s1.length = (c1 - n1) * 1) ∧ (o1 = none → r.1.fStrokes = [] ∧ c1 = 0) ∧ v = .tuple #[.agg #[.slice (o0.map fun b => ⟨b, 0, none⟩) n0 c0, .slice (o1.map fun b => ⟨b, 0, none⟩) n1 c1], (.int .i64 r.2)] ∧ Mem w [] [⟨o0, 75, row encGWornPin r.1.fPins s0⟩, ⟨o1, 2, row encI64 r.1.fStrokes s1⟩] w') := by
  subst f0_fHammers_hn w1_fPins_hn w1_fStrokes_hn
  rw [impl_MovePin] at h
  refine enter (args := [(.agg #[(.int .i16 f0.fSteps), (.slice f0_fHammers_a f0.fHammers.length f0_fHammers_c)]), (.agg #[(.slice w1_fPins_a w1.fPins.length w1_fPins_c), (.slice w1_fStrokes_a w1.fStrokes.length w1_fStrokes_c)]), (.int .i64 step2), (.int .i64 track3), (.int .i64 toStep4), (.int .i64 toTrack5)]) Tryz.func123 rfl Tryz.ntmps123 (by kernel_rfl) (L := []) (W := []) (Mem.start w) ?_
  refine jc_seq ?_
  refine jc_region ?_
  refine toO (by kernel_rfl) (p_a 0 [0] (by kernel_rfl) (fun b => by kernel_rfl) (fun b_1 => jkO ?_))
  refine toO (by kernel_rfl) (p_a 0 [0] (by kernel_rfl) (fun b => by kernel_rfl) (fun b_2 => jkO ?_))
  refine toO (by kernel_rfl) (p_a 0 [0] (by kernel_rfl) (fun b => by kernel_rfl) (fun b_3 => jkO ?_))
  refine jo_f [(0, 0)] (by kernel_rfl) ?_
  refine jo_end (by kernel_rfl) ?_
  refine jx_then ?_
  refine jc_seq ?_
  refine jc_seq ?_
  refine jc_region ?_
  refine jo_f [(0, 0), (1, 0), (0, 0), (0, 0), (0, 0), (0, 0), (0, 0), (0, 0)] (by kernel_rfl) ?_
  refine toO (by kernel_rfl) (p_bs 0 128 2 2 encA2I64 [(.agg (row encI64 (Arr.set (Arr.set (Arr.rep 2 0) 0 step2) 1 track3).1 []).toArray), (.agg (row encI64 (Arr.set (Arr.set (Arr.rep 2 0) 0 toStep4) 1 toTrack5).1 []).toArray)] [(Arr.set (Arr.set (Arr.rep 2 0) 0 step2) 1 track3), (Arr.set (Arr.set (Arr.rep 2 0) 0 toStep4) 1 toTrack5)] (by kernel_rfl) (by kernel_rfl) rfl (by kernel_rfl) (by kernel_rfl) encA2I64_len (fun b_7 => jkO ?_))
  obtain ⟨t_1, ht_8, h⟩ := bd h
  refine toO (by kernel_rfl) (p_call 0 80 #[(.agg #[(.int .i16 f0.fSteps), (.slice f0_fHammers_a f0.fHammers.length f0_fHammers_c)]), (.agg #[(.slice w1_fPins_a w1.fPins.length w1_fPins_c), (.slice w1_fStrokes_a w1.fStrokes.length w1_fStrokes_c)]), (.slice (some ⟨b_7, 0, none⟩) 2 2)] (by kernel_rfl) (by kernel_rfl) (fun w hm => impl_wornPlaceCode.calls f0 w1 [(Arr.set (Arr.set (Arr.rep 2 0) 0 step2) 1 track3), (Arr.set (Arr.set (Arr.rep 2 0) 0 toStep4) 1 toTrack5)] w _ f0_fHammers_a f0.fHammers.length f0_fHammers_c (hm.exRow f0_fHammers_h List.not_mem_nil) rfl w1_fPins_a w1.fPins.length w1_fPins_c (hm.exRow w1_fPins_h List.not_mem_nil) rfl w1_fStrokes_a w1.fStrokes.length w1_fStrokes_c (hm.exRow w1_fStrokes_h List.not_mem_nil) rfl (some ⟨b_7, 0, none⟩) 2 2 (hm.ownRow (hh := 3) (o := (some b_7)) (T := 128) (enc := encA2I64) (xs := [(Arr.set (Arr.set (Arr.rep 2 0) 0 step2) 1 track3), (Arr.set (Arr.set (Arr.rep 2 0) 0 toStep4) 1 toTrack5)]) (sp := []) (by kernel_rfl) (fun e => nomatch e) encA2I64_len) rfl ht_8) ?_)
  rintro w v w' hm ⟨rfl, hm'⟩
  refine ⟨_, hm.app hm', jkO ?_⟩
  clear hm hm'
  refine jo_f [(0, 0)] (by kernel_rfl) ?_
  refine jo_end (by kernel_rfl) ?_
  refine jx_then ?_
  refine jc_seq ?_
  refine jc_region ?_
  refine jo_f [(0, 0), (0, 0)] (by kernel_rfl) ?_
  refine jo_end (by kernel_rfl) ?_
  refine jx_then ?_
  refine jc_cond (t_1 != 0) (by kernel_rfl) (fun hc_9 => ?_) (fun hc_9 => ?_)
  · replace h := ifT hc_9 h
    refine jc_seq ?_
    refine jc_region ?_
    refine jo_f [(0, 0), (0, 0)] (by kernel_rfl) ?_
    refine toO (by kernel_rfl) (p_s 0 [2] (by kernel_rfl) (by kernel_rfl) (jkO ?_))
    refine jo_f [(0, 0)] (by kernel_rfl) ?_
    refine jo_end (by kernel_rfl) ?_
    refine jx_then ?_
    refine jc_ret ?_
    refine jx_thenr ?_
    obtain rfl := Option.some.inj h
    refine jx_ghost 75 encGWornPin ?_
    refine jx_ghost 2 encI64 ?_
    exact jx_ret [2] (.tuple #[(.agg #[(.slice none 0 0), (.slice none 0 0)]), (.int .i64 t_1)]) [(b_3, b_3), (b_3, b_3)] rfl (by kernel_rfl) (by kernel_rfl) (fun w hm => ⟨none, 0, [], 0, rfl, (fun e => absurd rfl e), (fun _ => ⟨rfl, rfl⟩), none, 0, [], 0, rfl, (fun e => absurd rfl e), (fun _ => ⟨rfl, rfl⟩), rfl, hm.pick [4, 5] (by kernel_rfl) (by kernel_rfl)⟩)
  · replace h := ifF hc_9 h
    refine jc_skip ?_
    refine jx_then ?_
    refine jc_seq ?_
    refine jc_region ?_
    refine jo_f [(1, 0), (0, 0), (0, 0)] (by kernel_rfl) ?_
    obtain ⟨t_2, ht_10, h⟩ := bd h
    refine toO (by kernel_rfl) (p_call 0 81 #[(.agg #[(.slice w1_fPins_a w1.fPins.length w1_fPins_c), (.slice w1_fStrokes_a w1.fStrokes.length w1_fStrokes_c)]), (.int .i64 step2), (.int .i64 track3)] (by kernel_rfl) (by kernel_rfl) (fun w hm => impl_Wear_at.calls w1 step2 track3 w _ w1_fPins_a w1.fPins.length w1_fPins_c (hm.exRow w1_fPins_h List.not_mem_nil) rfl w1_fStrokes_a w1.fStrokes.length w1_fStrokes_c (hm.exRow w1_fStrokes_h List.not_mem_nil) rfl ht_10) ?_)
    rintro w v w' hm ⟨rfl, hm'⟩
    refine ⟨_, hm.app hm', jkO ?_⟩
    clear hm hm'
    refine jo_f [(0, 0)] (by kernel_rfl) ?_
    refine jo_end (by kernel_rfl) ?_
    refine jx_then ?_
    refine jc_seq ?_
    refine jc_seq ?_
    refine jc_meet (fun (j : Bool) => match j with | q_3 => impl_MovePin.k_4 w1 toStep4 toTrack5 t_2 q_3 = some r) (fun (j : Bool) => match j with | q_3 => [(4, [], (.int .i64 toStep4)), (5, [], (.int .i64 toTrack5)), (7, [], (.pointer (some ⟨b_2, 0, none⟩))), (12, [], (.pointer (some ⟨b_3, 0, none⟩))), (13, [], (.int .i64 0)), (15, [], (.int .i64 t_2)), (42, [], (.bool q_3))]) (fun (j : Bool) => match j with | q_3 => [⟨some b_1, 43, [(.int .i16 f0.fSteps), (.slice f0_fHammers_a f0.fHammers.length f0_fHammers_c)]⟩, ⟨some b_2, 38, [(.slice w1_fPins_a w1.fPins.length w1_fPins_c), (.slice w1_fStrokes_a w1.fStrokes.length w1_fStrokes_c)]⟩, ⟨some b_3, 38, [(.slice none 0 0), (.slice none 0 0)]⟩, ⟨(some b_7), 128, row encA2I64 [(Arr.set (Arr.set (Arr.rep 2 0) 0 step2) 1 track3), (Arr.set (Arr.set (Arr.rep 2 0) 0 toStep4) 1 toTrack5)] []⟩]) ?_ ?_
    · refine jc_region ?_
      refine jo_f [(0, 0), (0, 0), (0, 0), (1, 1), (0, 1), (0, 1)] (by kernel_rfl) ?_
      refine jo_split 36 (decide (t_2 < 0)) (by kernel_rfl) (fun hc_65 => ?_) (fun hc_65 => ?_)
      · replace h := ifT hc_65 h
        refine jo_f [(0, 3), (0, 3), (0, 4)] (by kernel_rfl) ?_
        refine jo_end (by kernel_rfl) ?_
        exact jx_meet true h (by kernel_rfl) [0, 1, 2, 3] (by kernel_rfl) (by kernel_rfl)
      · replace h := ifF hc_65 h
        obtain ⟨t_8, ht_66, h⟩ := bd h
        refine toO (by kernel_rfl) (p_call 2 81 #[(.agg #[(.slice w1_fPins_a w1.fPins.length w1_fPins_c), (.slice w1_fStrokes_a w1.fStrokes.length w1_fStrokes_c)]), (.int .i64 toStep4), (.int .i64 toTrack5)] (by kernel_rfl) (by kernel_rfl) (fun w hm => impl_Wear_at.calls w1 toStep4 toTrack5 w _ w1_fPins_a w1.fPins.length w1_fPins_c (hm.exRow w1_fPins_h List.not_mem_nil) rfl w1_fStrokes_a w1.fStrokes.length w1_fStrokes_c (hm.exRow w1_fStrokes_h List.not_mem_nil) rfl ht_66) ?_)
        rintro w v w' hm ⟨rfl, hm'⟩
        refine ⟨_, hm.app hm', jkO ?_⟩
        clear hm hm'
        refine jo_f [(0, 2), (0, 5)] (by kernel_rfl) ?_
        refine jo_end (by kernel_rfl) ?_
        exact jx_meet (decide (t_8 ≥ 0)) h (by kernel_rfl) [0, 1, 2, 3] (by kernel_rfl) (by kernel_rfl)
    · rintro q_3 h
      replace h : impl_MovePin.k_4 w1 toStep4 toTrack5 t_2 q_3 = some r := h
      rw [impl_MovePin.k_4] at h
      refine jx_then ?_
      refine jc_cond q_3 (by kernel_rfl) (fun hc_18 => ?_) (fun hc_18 => ?_)
      · replace h := ifT hc_18 h
        refine jc_seq ?_
        refine jc_region ?_
        refine jo_f [(0, 0)] (by kernel_rfl) ?_
        refine toO (by kernel_rfl) (p_s 0 [2] (by kernel_rfl) (by kernel_rfl) (jkO ?_))
        refine jo_f [(0, 0)] (by kernel_rfl) ?_
        refine jo_end (by kernel_rfl) ?_
        refine jx_then ?_
        refine jc_ret ?_
        refine jx_thenr ?_
        obtain rfl := Option.some.inj h
        refine jx_ghost 75 encGWornPin ?_
        refine jx_ghost 2 encI64 ?_
        exact jx_ret [2] (.tuple #[(.agg #[(.slice none 0 0), (.slice none 0 0)]), (.int .i64 4)]) [(b_3, b_3), (b_3, b_3)] rfl (by kernel_rfl) (by kernel_rfl) (fun w hm => ⟨none, 0, [], 0, rfl, (fun e => absurd rfl e), (fun _ => ⟨rfl, rfl⟩), none, 0, [], 0, rfl, (fun e => absurd rfl e), (fun _ => ⟨rfl, rfl⟩), rfl, hm.pick [4, 5] (by kernel_rfl) (by kernel_rfl)⟩)
      · replace h := ifF hc_18 h
        refine jc_skip ?_
        refine jx_then ?_
        refine jc_seq ?_
        refine jc_draw [⟨some b_1, 43, [(.int .i16 f0.fSteps), (.slice f0_fHammers_a f0.fHammers.length f0_fHammers_c)]⟩, ⟨some b_2, 38, [(.slice w1_fPins_a w1.fPins.length w1_fPins_c), (.slice w1_fStrokes_a w1.fStrokes.length w1_fStrokes_c)]⟩, ⟨(some b_7), 128, row encA2I64 [(Arr.set (Arr.set (Arr.rep 2 0) 0 step2) 1 track3), (Arr.set (Arr.set (Arr.rep 2 0) 0 toStep4) 1 toTrack5)] []⟩] 17 (by kernel_rfl) (by kernel_rfl) ?_
        refine jd_f [⟨0, 1, 0⟩, ⟨1, 0, 0⟩, ⟨3, 0, 0⟩, ⟨4, 0, 0⟩, ⟨5, 0, 0⟩, ⟨6, 0, 0⟩, ⟨7, 0, 0⟩, ⟨8, 1, 0⟩, ⟨9, 0, 0⟩] 8 (by kernel_rfl) (by kernel_rfl) (fun w h => h.pick [0, 1, 3] (by kernel_rfl) (by kernel_rfl)) (by kernel_rfl) (by kernel_rfl) ?_
        obtain ⟨x_5, hx_42, h⟩ := bd h
        refine jd_v 10 0 (by kernel_rfl) (fun w h => h.pick [0, 1, 3] (by kernel_rfl) (by kernel_rfl)) (by kernel_rfl) (by kernel_rfl) _ (fun w hm => idx_run (a := w1_fPins_a) (len := w1.fPins.length) (s := 3) (j := t_2) (by kernel_rfl) (ix_some hx_42).1 (ltn hx_42 rfl) (w1_fPins_h.sp hx_42)) ?_
        refine jd_f [⟨11, 0, 0⟩] 6 (by kernel_rfl) (by kernel_rfl) (fun w h => h.pick [0, 1, 3] (by kernel_rfl) (by kernel_rfl)) (by kernel_rfl) (by kernel_rfl) ?_
        refine jd_v 12 0 (by kernel_rfl) (fun w h => h.pick [0, 1, 3] (by kernel_rfl) (by kernel_rfl)) (by kernel_rfl) (by kernel_rfl) _ (fun w hm => ld_run (b := aB w1_fPins_a) (off := (aO w1_fPins_a + t_2.toNat * 3 + 2)) (s := 1) (agg := false) (vs := (((encGWornPin x_5).drop 2).take 1)) (by kernel_rfl) (by kernel_rfl) (.inr rfl) (((hm.exRow w1_fPins_h List.not_mem_nil).at hx_42).sub 2 1)) ?_
        refine jd_f [⟨13, 0, 0⟩] 4 (by kernel_rfl) (by kernel_rfl) (fun w h => h.pick [0, 1, 3] (by kernel_rfl) (by kernel_rfl)) (by kernel_rfl) (by kernel_rfl) ?_
        obtain ⟨t_6, ht_43, h⟩ := bd h
        refine toD 2 (by kernel_rfl) (p_call 0 82 #[(.agg #[(.slice w1_fPins_a w1.fPins.length w1_fPins_c), (.slice w1_fStrokes_a w1.fStrokes.length w1_fStrokes_c)]), (.int .i64 t_2)] (by kernel_rfl) (by kernel_rfl) (fun w hm => impl_Wear_without.calls w1 t_2 w _ w1_fPins_a w1.fPins.length w1_fPins_c (hm.exRow w1_fPins_h List.not_mem_nil) rfl w1_fStrokes_a w1.fStrokes.length w1_fStrokes_c (hm.exRow w1_fStrokes_h List.not_mem_nil) rfl ht_43) ?_)
        rintro w v w' hm ⟨o_44, cap_45, sp_46, _, rfl, hs_47, ho_48, o_49, cap_50, sp_51, _, rfl, hs_52, ho_53, rfl, hm'⟩
        refine ⟨_, hm.app hm', jkD (fun w h => h.pick [0, 1, 3] (by kernel_rfl) (by kernel_rfl)) ?_⟩
        clear hm hm'
        obtain ⟨t_7, ht_54, h⟩ := bd h
        refine toD 14 (by kernel_rfl) (p_call 0 83 #[(.agg #[(.slice (o_44.map fun b => ⟨b, 0, none⟩) t_6.fPins.length cap_45), (.slice (o_49.map fun b => ⟨b, 0, none⟩) t_6.fStrokes.length cap_50)]), (.agg #[(.int .i8 (w8 toStep4)), (.int .i8 (w8 toTrack5)), (.int .i64 x_5.fTurns)])] (by kernel_rfl) (by kernel_rfl) (fun w hm => impl_Wear_with.calls t_6 (⟨(w8 toStep4), (w8 toTrack5), x_5.fTurns⟩ : GWornPin) w _ (o_44.map fun b => ⟨b, 0, none⟩) t_6.fPins.length cap_45 (hm.ownRow (hh := 4) (o := o_44) (T := 75) (enc := encGWornPin) (xs := t_6.fPins) (sp := sp_46) (by kernel_rfl) (fun e => (ho_48 e).1) encGWornPin_len) rfl (o_49.map fun b => ⟨b, 0, none⟩) t_6.fStrokes.length cap_50 (hm.ownRow (hh := 5) (o := o_49) (T := 2) (enc := encI64) (xs := t_6.fStrokes) (sp := sp_51) (by kernel_rfl) (fun e => (ho_53 e).1) encI64_len) rfl ht_54) ?_)
        rintro w v w' hm ⟨o_55, cap_56, sp_57, _, rfl, hs_58, ho_59, o_60, cap_61, sp_62, _, rfl, hs_63, ho_64, rfl, hm'⟩
        refine ⟨_, hm.app hm', jkD (fun w h => h.pick [0, 1, 3] (by kernel_rfl) (by kernel_rfl)) ?_⟩
        clear hm hm'
        refine toD 15 (by kernel_rfl) (p_s 0 [2] (by kernel_rfl) (by kernel_rfl) (jkD (fun w h => h.pick [0, 1, 3] (by kernel_rfl) (by kernel_rfl)) ?_))
        refine jd_f [⟨16, 0, 0⟩] 0 (by kernel_rfl) (by kernel_rfl) (fun w h => h.pick [0, 1, 3] (by kernel_rfl) (by kernel_rfl)) (by kernel_rfl) (by kernel_rfl) ?_
        refine jd_end (by kernel_rfl) ?_
        refine jx_then ?_
        refine jc_ret ?_
        obtain rfl := Option.some.inj h
        exact jx_ret [2] (.tuple #[(.agg #[(.slice (o_55.map fun b => ⟨b, 0, none⟩) t_7.fPins.length cap_56), (.slice (o_60.map fun b => ⟨b, 0, none⟩) t_7.fStrokes.length cap_61)]), (.int .i64 0)]) [(b_3, b_3), (b_3, b_3)] rfl (by kernel_rfl) (by kernel_rfl) (fun w hm => ⟨o_55, cap_56, sp_57, t_7.fPins.length, rfl, hs_58, ho_59, o_60, cap_61, sp_62, t_7.fStrokes.length, rfl, hs_63, ho_64, rfl, hm.pick [6, 7] (by kernel_rfl) (by kernel_rfl)⟩)

/-! ### impl.DoWearAct -/
noncomputable def impl_DoWearAct (f0 : GFrame) (w1 : GWear) (a2 : GAct) : Option (GWear × Int) := (if (a2.fKind == 0) = true then (impl_TurnWear f0 w1 a2.fA).bind fun t_1 => some (t_1.1, t_1.2) else (if (a2.fKind == 1) = true then (impl_NewHammer f0 w1 a2.fA).bind fun t_2 => some (t_2.1, t_2.2) else (if (a2.fKind == 2) = true then (impl_NewPin f0 w1 a2.fA a2.fB).bind fun t_3 => some (t_3.1, t_3.2) else (if (a2.fKind == 3) = true then (impl_MovePin f0 w1 a2.fA a2.fB a2.fC a2.fD).bind fun t_4 => some (t_4.1, t_4.2) else (impl_wearCode f0 w1 []).bind fun t_5 => (impl_firstOf [t_5, 2]).bind fun t_6 => some ((⟨[], []⟩ : GWear), t_6)))))
set_option maxRecDepth 100000 in
theorem impl_DoWearAct.calls (f0 : GFrame) (w1 : GWear) (a2 : GAct) (w : World) (r : GWear × Int) (f0_fHammers_a : Option Addr) (f0_fHammers_an : Nat) (f0_fHammers_c : Nat) (f0_fHammers_h : Rw w f0_fHammers_a 2 encGHammer f0.fHammers) (f0_fHammers_hn : f0.fHammers.length = f0_fHammers_an) (w1_fPins_a : Option Addr) (w1_fPins_an : Nat) (w1_fPins_c : Nat) (w1_fPins_h : Rw w w1_fPins_a 3 encGWornPin w1.fPins) (w1_fPins_hn : w1.fPins.length = w1_fPins_an) (w1_fStrokes_a : Option Addr) (w1_fStrokes_an : Nat) (w1_fStrokes_c : Nat) (w1_fStrokes_h : Rw w w1_fStrokes_a 1 encI64 w1.fStrokes) (w1_fStrokes_hn : w1.fStrokes.length = w1_fStrokes_an) (h : impl_DoWearAct f0 w1 a2 = some r) :
    Calls Tryz.prog 90 #[(.agg #[(.int .i16 f0.fSteps), (.slice f0_fHammers_a f0_fHammers_an f0_fHammers_c)]), (.agg #[(.slice w1_fPins_a w1_fPins_an w1_fPins_c), (.slice w1_fStrokes_a w1_fStrokes_an w1_fStrokes_c)]), (.agg #[(.int .i8 a2.fKind), (.int .i64 a2.fA), (.int .i64 a2.fB), (.int .i64 a2.fC), (.int .i64 a2.fD)])] w fun e w' => ∃ v, e = .returned v ∧ (∃ (o0 : Option Nat) (c0 : Nat) (s0 : List Value) (n0 : Nat), r.1.fPins.length = n0 ∧ (o0 ≠ none → n0 ≤ c0 ∧ s0.length = (c0 - n0) * 3) ∧ (o0 = none → r.1.fPins = [] ∧ c0 = 0) ∧ ∃ (o1 : Option Nat) (c1 : Nat) (s1 : List Value) (n1 : Nat), r.1.fStrokes.length = n1 ∧ (o1 ≠ none → n1 ≤ c1 ∧ s1.length = (c1 - n1) * 1) ∧ (o1 = none → r.1.fStrokes = [] ∧ c1 = 0) ∧ v = .tuple #[.agg #[.slice (o0.map fun b => ⟨b, 0, none⟩) n0 c0, .slice (o1.map fun b => ⟨b, 0, none⟩) n1 c1], (.int .i64 r.2)] ∧ Mem w [] [⟨o0, 75, row encGWornPin r.1.fPins s0⟩, ⟨o1, 2, row encI64 r.1.fStrokes s1⟩] w') := by
  subst f0_fHammers_hn w1_fPins_hn w1_fStrokes_hn
  rw [impl_DoWearAct] at h
  refine enter (args := [(.agg #[(.int .i16 f0.fSteps), (.slice f0_fHammers_a f0.fHammers.length f0_fHammers_c)]), (.agg #[(.slice w1_fPins_a w1.fPins.length w1_fPins_c), (.slice w1_fStrokes_a w1.fStrokes.length w1_fStrokes_c)]), (.agg #[(.int .i8 a2.fKind), (.int .i64 a2.fA), (.int .i64 a2.fB), (.int .i64 a2.fC), (.int .i64 a2.fD)])]) Tryz.func90 rfl Tryz.ntmps90 (by kernel_rfl) (L := []) (W := []) (Mem.start w) ?_
  refine jc_seq ?_
  refine jc_region ?_
  refine toO (by kernel_rfl) (p_a 0 [0] (by kernel_rfl) (fun b => by kernel_rfl) (fun b_1 => jkO ?_))
  refine toO (by kernel_rfl) (p_a 0 [0] (by kernel_rfl) (fun b => by kernel_rfl) (fun b_2 => jkO ?_))
  refine toO (by kernel_rfl) (p_a 0 [0] (by kernel_rfl) (fun b => by kernel_rfl) (fun b_3 => jkO ?_))
  refine toO (by kernel_rfl) (p_a 0 [0] (by kernel_rfl) (fun b => by kernel_rfl) (fun b_4 => jkO ?_))
  refine jo_f [(0, 0)] (by kernel_rfl) ?_
  refine jo_end (by kernel_rfl) ?_
  refine jx_then ?_
  refine jc_seq ?_
  refine jc_seq ?_
  refine jc_region ?_
  refine jo_f [(0, 0), (2, 0)] (by kernel_rfl) ?_
  refine jo_end (by kernel_rfl) ?_
  refine jx_then ?_
  refine jc_block ?_
  refine jc_seq ?_
  refine jc_region ?_
  refine jo_f [(0, 0), (0, 0)] (by kernel_rfl) ?_
  refine jo_end (by kernel_rfl) ?_
  refine jx_then ?_
  refine jc_cond (a2.fKind == 0) (by kernel_rfl) (fun hc_149 => ?_) (fun hc_149 => ?_)
  · replace h := ifT hc_149 h
    refine jc_seq ?_
    refine jc_region ?_
    refine jo_f [(0, 0), (1, 0), (0, 0), (2, 0)] (by kernel_rfl) ?_
    obtain ⟨t_1, ht_150, h⟩ := bd h
    refine toO (by kernel_rfl) (p_call 0 122 #[(.agg #[(.int .i16 f0.fSteps), (.slice f0_fHammers_a f0.fHammers.length f0_fHammers_c)]), (.agg #[(.slice w1_fPins_a w1.fPins.length w1_fPins_c), (.slice w1_fStrokes_a w1.fStrokes.length w1_fStrokes_c)]), (.int .i64 a2.fA)] (by kernel_rfl) (by kernel_rfl) (fun w hm => impl_TurnWear.calls f0 w1 a2.fA w _ f0_fHammers_a f0.fHammers.length f0_fHammers_c (hm.exRow f0_fHammers_h List.not_mem_nil) rfl w1_fPins_a w1.fPins.length w1_fPins_c (hm.exRow w1_fPins_h List.not_mem_nil) rfl w1_fStrokes_a w1.fStrokes.length w1_fStrokes_c (hm.exRow w1_fStrokes_h List.not_mem_nil) rfl ht_150) ?_)
    rintro w v w' hm ⟨o_151, cap_152, sp_153, _, rfl, hs_154, ho_155, o_156, cap_157, sp_158, _, rfl, hs_159, ho_160, rfl, hm'⟩
    refine ⟨_, hm.app hm', jkO ?_⟩
    clear hm hm'
    refine jo_f [(0, 0), (0, 0)] (by kernel_rfl) ?_
    refine toO (by kernel_rfl) (p_s 0 [3] (by kernel_rfl) (by kernel_rfl) (jkO ?_))
    refine jo_f [(0, 0)] (by kernel_rfl) ?_
    refine jo_end (by kernel_rfl) ?_
    refine jx_then ?_
    refine jc_ret ?_
    refine jx_inr ?_
    refine jx_thenr ?_
    obtain rfl := Option.some.inj h
    exact jx_ret [3] (.tuple #[(.agg #[(.slice (o_151.map fun b => ⟨b, 0, none⟩) t_1.1.fPins.length cap_152), (.slice (o_156.map fun b => ⟨b, 0, none⟩) t_1.1.fStrokes.length cap_157)]), (.int .i64 t_1.2)]) [(b_4, b_4), (b_4, b_4)] rfl (by kernel_rfl) (by kernel_rfl) (fun w hm => ⟨o_151, cap_152, sp_153, t_1.1.fPins.length, rfl, hs_154, ho_155, o_156, cap_157, sp_158, t_1.1.fStrokes.length, rfl, hs_159, ho_160, rfl, hm.pick [4, 5] (by kernel_rfl) (by kernel_rfl)⟩)
  · replace h := ifF hc_149 h
    refine jc_seq ?_
    refine jc_region ?_
    refine jo_f [(0, 0), (0, 0)] (by kernel_rfl) ?_
    refine jo_end (by kernel_rfl) ?_
    refine jx_then ?_
    refine jc_cond (a2.fKind == 1) (by kernel_rfl) (fun hc_161 => ?_) (fun hc_161 => ?_)
    · replace h := ifT hc_161 h
      refine jc_seq ?_
      refine jc_region ?_
      refine jo_f [(0, 0), (1, 0), (0, 0), (2, 0)] (by kernel_rfl) ?_
      obtain ⟨t_2, ht_162, h⟩ := bd h
      refine toO (by kernel_rfl) (p_call 0 36 #[(.agg #[(.int .i16 f0.fSteps), (.slice f0_fHammers_a f0.fHammers.length f0_fHammers_c)]), (.agg #[(.slice w1_fPins_a w1.fPins.length w1_fPins_c), (.slice w1_fStrokes_a w1.fStrokes.length w1_fStrokes_c)]), (.int .i64 a2.fA)] (by kernel_rfl) (by kernel_rfl) (fun w hm => impl_NewHammer.calls f0 w1 a2.fA w _ f0_fHammers_a f0.fHammers.length f0_fHammers_c (hm.exRow f0_fHammers_h List.not_mem_nil) rfl w1_fPins_a w1.fPins.length w1_fPins_c (hm.exRow w1_fPins_h List.not_mem_nil) rfl w1_fStrokes_a w1.fStrokes.length w1_fStrokes_c (hm.exRow w1_fStrokes_h List.not_mem_nil) rfl ht_162) ?_)
      rintro w v w' hm ⟨o_163, cap_164, sp_165, _, rfl, hs_166, ho_167, o_168, cap_169, sp_170, _, rfl, hs_171, ho_172, rfl, hm'⟩
      refine ⟨_, hm.app hm', jkO ?_⟩
      clear hm hm'
      refine jo_f [(0, 0), (0, 0)] (by kernel_rfl) ?_
      refine toO (by kernel_rfl) (p_s 0 [3] (by kernel_rfl) (by kernel_rfl) (jkO ?_))
      refine jo_f [(0, 0)] (by kernel_rfl) ?_
      refine jo_end (by kernel_rfl) ?_
      refine jx_then ?_
      refine jc_ret ?_
      refine jx_inr ?_
      refine jx_thenr ?_
      obtain rfl := Option.some.inj h
      exact jx_ret [3] (.tuple #[(.agg #[(.slice (o_163.map fun b => ⟨b, 0, none⟩) t_2.1.fPins.length cap_164), (.slice (o_168.map fun b => ⟨b, 0, none⟩) t_2.1.fStrokes.length cap_169)]), (.int .i64 t_2.2)]) [(b_4, b_4), (b_4, b_4)] rfl (by kernel_rfl) (by kernel_rfl) (fun w hm => ⟨o_163, cap_164, sp_165, t_2.1.fPins.length, rfl, hs_166, ho_167, o_168, cap_169, sp_170, t_2.1.fStrokes.length, rfl, hs_171, ho_172, rfl, hm.pick [4, 5] (by kernel_rfl) (by kernel_rfl)⟩)
    · replace h := ifF hc_161 h
      refine jc_seq ?_
      refine jc_region ?_
      refine jo_f [(0, 0), (0, 0)] (by kernel_rfl) ?_
      refine jo_end (by kernel_rfl) ?_
      refine jx_then ?_
      refine jc_cond (a2.fKind == 2) (by kernel_rfl) (fun hc_173 => ?_) (fun hc_173 => ?_)
      · replace h := ifT hc_173 h
        refine jc_seq ?_
        refine jc_region ?_
        refine jo_f [(0, 0), (1, 0), (0, 0), (2, 0), (0, 0), (2, 0)] (by kernel_rfl) ?_
        obtain ⟨t_3, ht_174, h⟩ := bd h
        refine toO (by kernel_rfl) (p_call 0 35 #[(.agg #[(.int .i16 f0.fSteps), (.slice f0_fHammers_a f0.fHammers.length f0_fHammers_c)]), (.agg #[(.slice w1_fPins_a w1.fPins.length w1_fPins_c), (.slice w1_fStrokes_a w1.fStrokes.length w1_fStrokes_c)]), (.int .i64 a2.fA), (.int .i64 a2.fB)] (by kernel_rfl) (by kernel_rfl) (fun w hm => impl_NewPin.calls f0 w1 a2.fA a2.fB w _ f0_fHammers_a f0.fHammers.length f0_fHammers_c (hm.exRow f0_fHammers_h List.not_mem_nil) rfl w1_fPins_a w1.fPins.length w1_fPins_c (hm.exRow w1_fPins_h List.not_mem_nil) rfl w1_fStrokes_a w1.fStrokes.length w1_fStrokes_c (hm.exRow w1_fStrokes_h List.not_mem_nil) rfl ht_174) ?_)
        rintro w v w' hm ⟨o_175, cap_176, sp_177, _, rfl, hs_178, ho_179, o_180, cap_181, sp_182, _, rfl, hs_183, ho_184, rfl, hm'⟩
        refine ⟨_, hm.app hm', jkO ?_⟩
        clear hm hm'
        refine jo_f [(0, 0), (0, 0)] (by kernel_rfl) ?_
        refine toO (by kernel_rfl) (p_s 0 [3] (by kernel_rfl) (by kernel_rfl) (jkO ?_))
        refine jo_f [(0, 0)] (by kernel_rfl) ?_
        refine jo_end (by kernel_rfl) ?_
        refine jx_then ?_
        refine jc_ret ?_
        refine jx_inr ?_
        refine jx_thenr ?_
        obtain rfl := Option.some.inj h
        exact jx_ret [3] (.tuple #[(.agg #[(.slice (o_175.map fun b => ⟨b, 0, none⟩) t_3.1.fPins.length cap_176), (.slice (o_180.map fun b => ⟨b, 0, none⟩) t_3.1.fStrokes.length cap_181)]), (.int .i64 t_3.2)]) [(b_4, b_4), (b_4, b_4)] rfl (by kernel_rfl) (by kernel_rfl) (fun w hm => ⟨o_175, cap_176, sp_177, t_3.1.fPins.length, rfl, hs_178, ho_179, o_180, cap_181, sp_182, t_3.1.fStrokes.length, rfl, hs_183, ho_184, rfl, hm.pick [4, 5] (by kernel_rfl) (by kernel_rfl)⟩)
      · replace h := ifF hc_173 h
        refine jc_seq ?_
        refine jc_region ?_
        refine jo_f [(0, 0), (0, 0)] (by kernel_rfl) ?_
        refine jo_end (by kernel_rfl) ?_
        refine jx_then ?_
        refine jc_cond (a2.fKind == 3) (by kernel_rfl) (fun hc_185 => ?_) (fun hc_185 => ?_)
        · replace h := ifT hc_185 h
          refine jc_seq ?_
          refine jc_region ?_
          refine jo_f [(0, 0), (1, 0), (0, 0), (2, 0), (0, 0), (2, 0), (0, 0), (2, 0), (0, 0), (2, 0)] (by kernel_rfl) ?_
          obtain ⟨t_4, ht_186, h⟩ := bd h
          refine toO (by kernel_rfl) (p_call 0 123 #[(.agg #[(.int .i16 f0.fSteps), (.slice f0_fHammers_a f0.fHammers.length f0_fHammers_c)]), (.agg #[(.slice w1_fPins_a w1.fPins.length w1_fPins_c), (.slice w1_fStrokes_a w1.fStrokes.length w1_fStrokes_c)]), (.int .i64 a2.fA), (.int .i64 a2.fB), (.int .i64 a2.fC), (.int .i64 a2.fD)] (by kernel_rfl) (by kernel_rfl) (fun w hm => impl_MovePin.calls f0 w1 a2.fA a2.fB a2.fC a2.fD w _ f0_fHammers_a f0.fHammers.length f0_fHammers_c (hm.exRow f0_fHammers_h List.not_mem_nil) rfl w1_fPins_a w1.fPins.length w1_fPins_c (hm.exRow w1_fPins_h List.not_mem_nil) rfl w1_fStrokes_a w1.fStrokes.length w1_fStrokes_c (hm.exRow w1_fStrokes_h List.not_mem_nil) rfl ht_186) ?_)
          rintro w v w' hm ⟨o_187, cap_188, sp_189, _, rfl, hs_190, ho_191, o_192, cap_193, sp_194, _, rfl, hs_195, ho_196, rfl, hm'⟩
          refine ⟨_, hm.app hm', jkO ?_⟩
          clear hm hm'
          refine jo_f [(0, 0), (0, 0)] (by kernel_rfl) ?_
          refine toO (by kernel_rfl) (p_s 0 [3] (by kernel_rfl) (by kernel_rfl) (jkO ?_))
          refine jo_f [(0, 0)] (by kernel_rfl) ?_
          refine jo_end (by kernel_rfl) ?_
          refine jx_then ?_
          refine jc_ret ?_
          refine jx_inr ?_
          refine jx_thenr ?_
          obtain rfl := Option.some.inj h
          exact jx_ret [3] (.tuple #[(.agg #[(.slice (o_187.map fun b => ⟨b, 0, none⟩) t_4.1.fPins.length cap_188), (.slice (o_192.map fun b => ⟨b, 0, none⟩) t_4.1.fStrokes.length cap_193)]), (.int .i64 t_4.2)]) [(b_4, b_4), (b_4, b_4)] rfl (by kernel_rfl) (by kernel_rfl) (fun w hm => ⟨o_187, cap_188, sp_189, t_4.1.fPins.length, rfl, hs_190, ho_191, o_192, cap_193, sp_194, t_4.1.fStrokes.length, rfl, hs_195, ho_196, rfl, hm.pick [4, 5] (by kernel_rfl) (by kernel_rfl)⟩)
        · replace h := ifF hc_185 h
          refine jc_skip ?_
          refine jx_inn ?_
          refine jx_then ?_
          refine jc_seq ?_
          refine jc_region ?_
          refine jo_f [(0, 0), (0, 0), (1, 0)] (by kernel_rfl) ?_
          obtain ⟨t_5, ht_197, h⟩ := bd h
          refine toO (by kernel_rfl) (p_call 0 63 #[(.agg #[(.int .i16 f0.fSteps), (.slice f0_fHammers_a f0.fHammers.length f0_fHammers_c)]), (.agg #[(.slice w1_fPins_a w1.fPins.length w1_fPins_c), (.slice w1_fStrokes_a w1.fStrokes.length w1_fStrokes_c)]), (.slice none 0 0)] (by kernel_rfl) (by kernel_rfl) (fun w hm => impl_wearCode.calls f0 w1 [] w _ f0_fHammers_a f0.fHammers.length f0_fHammers_c (hm.exRow f0_fHammers_h List.not_mem_nil) rfl w1_fPins_a w1.fPins.length w1_fPins_c (hm.exRow w1_fPins_h List.not_mem_nil) rfl w1_fStrokes_a w1.fStrokes.length w1_fStrokes_c (hm.exRow w1_fStrokes_h List.not_mem_nil) rfl none 0 0 Rw.nil rfl ht_197) ?_)
          rintro w v w' hm ⟨rfl, hm'⟩
          refine ⟨_, hm.app hm', jkO ?_⟩
          clear hm hm'
          refine toO (by kernel_rfl) (p_a 0 [0] (by kernel_rfl) (fun b => by kernel_rfl) (fun b_198 => jkO ?_))
          obtain ⟨t_6, ht_199, h⟩ := bd h
          refine toO (by kernel_rfl) (p_call 0 62 #[(.slice (some ⟨b_198, 0, none⟩) 2 2)] (by kernel_rfl) (by kernel_rfl) (fun w hm => impl_firstOf.calls [t_5, 2] w _ (some ⟨b_198, 0, none⟩) 2 2 (hm.ownRow (hh := 4) (o := (some b_198)) (T := 2) (enc := encI64) (xs := [t_5, 2]) (sp := []) (by kernel_rfl) (fun e => nomatch e) encI64_len) rfl ht_199) ?_)
          rintro w v w' hm ⟨rfl, hm'⟩
          refine ⟨_, hm.app hm', jkO ?_⟩
          clear hm hm'
          refine toO (by kernel_rfl) (p_s 0 [3] (by kernel_rfl) (by kernel_rfl) (jkO ?_))
          refine jo_f [(0, 0)] (by kernel_rfl) ?_
          refine jo_end (by kernel_rfl) ?_
          refine jx_then ?_
          refine jc_ret ?_
          obtain rfl := Option.some.inj h
          refine jx_ghost 75 encGWornPin ?_
          refine jx_ghost 2 encI64 ?_
          exact jx_ret [3] (.tuple #[(.agg #[(.slice none 0 0), (.slice none 0 0)]), (.int .i64 t_6)]) [(b_4, b_4), (b_4, b_4)] rfl (by kernel_rfl) (by kernel_rfl) (fun w hm => ⟨none, 0, [], 0, rfl, (fun e => absurd rfl e), (fun _ => ⟨rfl, rfl⟩), none, 0, [], 0, rfl, (fun e => absurd rfl e), (fun _ => ⟨rfl, rfl⟩), rfl, hm.pick [5, 6] (by kernel_rfl) (by kernel_rfl)⟩)

/-! ### (impl.Wear).parts -/
noncomputable def impl_Wear_parts.k_6 (xs_5 : List Gpart) : Option ((List Gpart)) := some xs_5
noncomputable def impl_Wear_parts.l_9 (w0 : GWear) (v2 : GLives) (t_4 : (List Int)) : ((List Gpart) × Int) → Option (((List Gpart) × Int) ⊕ ((List Gpart)))
  | (xs_7, i_8) => (if (decide (i_8 < (t_4.length : Int))) = true then (ix t_4 i_8).bind fun x_11 => (ix w0.fStrokes i_8).bind fun x_12 => (if xs_7.length + [(⟨x_12, x_11, v2.fHammer, (-1), i_8⟩ : Gpart)].length ≤ 4294967296 then some (.inl ((xs_7 ++ [(⟨x_12, x_11, v2.fHammer, (-1), i_8⟩ : Gpart)]), (w64 (i_8 + 1)))) else none) else some (.inr xs_7))
noncomputable def impl_Wear_parts.k_2 (w0 : GWear) (f1 : GFrame) (v2 : GLives) (xs_1 : List Gpart) : Option ((List Gpart)) := (impl_Wear_drum w0).bind fun t_3 => (impl_Frame_byTrack f1 t_3).bind fun t_4 => (loop (impl_Wear_parts.l_9 w0 v2 t_4) (xs_1, 0)).bind fun t_10 => impl_Wear_parts.k_6 t_10
noncomputable def impl_Wear_parts.l_15 (w0 : GWear) (v2 : GLives) : ((List Gpart) × Int) → Option (((List Gpart) × Int) ⊕ ((List Gpart)))
  | (xs_13, i_14) => (if (decide (i_14 < (w0.fPins.length : Int))) = true then (ix w0.fPins i_14).bind fun x_17 => (if xs_13.length + [(⟨x_17.fTurns, 1, v2.fPin, (w64 x_17.fStep), (w64 x_17.fTrack)⟩ : Gpart)].length ≤ 4294967296 then some (.inl ((xs_13 ++ [(⟨x_17.fTurns, 1, v2.fPin, (w64 x_17.fStep), (w64 x_17.fTrack)⟩ : Gpart)]), (w64 (i_14 + 1)))) else none) else some (.inr xs_13))
noncomputable def impl_Wear_parts (w0 : GWear) (f1 : GFrame) (v2 : GLives) : Option ((List Gpart)) := (loop (impl_Wear_parts.l_15 w0 v2) (([] : List Gpart), 0)).bind fun t_16 => impl_Wear_parts.k_2 w0 f1 v2 t_16
set_option maxRecDepth 100000 in
theorem impl_Wear_parts.calls (w0 : GWear) (f1 : GFrame) (v2 : GLives) (w : World) (r : (List Gpart)) (w0_fPins_a : Option Addr) (w0_fPins_an : Nat) (w0_fPins_c : Nat) (w0_fPins_h : Rw w w0_fPins_a 3 encGWornPin w0.fPins) (w0_fPins_hn : w0.fPins.length = w0_fPins_an) (w0_fStrokes_a : Option Addr) (w0_fStrokes_an : Nat) (w0_fStrokes_c : Nat) (w0_fStrokes_h : Rw w w0_fStrokes_a 1 encI64 w0.fStrokes) (w0_fStrokes_hn : w0.fStrokes.length = w0_fStrokes_an) (f1_fHammers_a : Option Addr) (f1_fHammers_an : Nat) (f1_fHammers_c : Nat) (f1_fHammers_h : Rw w f1_fHammers_a 2 encGHammer f1.fHammers) (f1_fHammers_hn : f1.fHammers.length = f1_fHammers_an) (h : impl_Wear_parts w0 f1 v2 = some r) :
    Calls Tryz.prog 66 #[(.agg #[(.slice w0_fPins_a w0_fPins_an w0_fPins_c), (.slice w0_fStrokes_a w0_fStrokes_an w0_fStrokes_c)]), (.agg #[(.int .i16 f1.fSteps), (.slice f1_fHammers_a f1_fHammers_an f1_fHammers_c)]), (.agg #[(.int .i64 v2.fPin), (.int .i64 v2.fHammer)])] w fun e w' => ∃ v, e = .returned v ∧ (∃ (o0 : Option Nat) (c0 : Nat) (s0 : List Value) (n0 : Nat), r.length = n0 ∧ (o0 ≠ none → n0 ≤ c0 ∧ s0.length = (c0 - n0) * 5) ∧ (o0 = none → r = [] ∧ c0 = 0) ∧ v = .slice (o0.map fun b => ⟨b, 0, none⟩) n0 c0 ∧ Mem w [] [⟨o0, 114, row encGpart r s0⟩] w') := by
  subst w0_fPins_hn w0_fStrokes_hn f1_fHammers_hn
  rw [impl_Wear_parts] at h
  refine enter (args := [(.agg #[(.slice w0_fPins_a w0.fPins.length w0_fPins_c), (.slice w0_fStrokes_a w0.fStrokes.length w0_fStrokes_c)]), (.agg #[(.int .i16 f1.fSteps), (.slice f1_fHammers_a f1.fHammers.length f1_fHammers_c)]), (.agg #[(.int .i64 v2.fPin), (.int .i64 v2.fHammer)])]) Tryz.func66 rfl Tryz.ntmps66 (by kernel_rfl) (L := []) (W := []) (Mem.start w) ?_
  refine jc_seq ?_
  refine jc_region ?_
  refine toO (by kernel_rfl) (p_a 0 [0] (by kernel_rfl) (fun b => by kernel_rfl) (fun b_1 => jkO ?_))
  refine toO (by kernel_rfl) (p_a 0 [0] (by kernel_rfl) (fun b => by kernel_rfl) (fun b_2 => jkO ?_))
  refine toO (by kernel_rfl) (p_a 0 [0] (by kernel_rfl) (fun b => by kernel_rfl) (fun b_3 => jkO ?_))
  refine jo_f [(0, 0)] (by kernel_rfl) ?_
  refine jo_end (by kernel_rfl) ?_
  refine jx_then ?_
  refine jc_seq ?_
  refine jc_region ?_
  refine toO (by kernel_rfl) (p_a 0 [0] (by kernel_rfl) (fun b => by kernel_rfl) (fun b_4 => jkO ?_))
  refine jo_f [(0, 0)] (by kernel_rfl) ?_
  refine jo_end (by kernel_rfl) ?_
  refine jx_then ?_
  refine jc_seq ?_
  refine jc_seq ?_
  refine jc_region ?_
  refine jo_f [(0, 0), (0, 0), (0, 0), (0, 0)] (by kernel_rfl) ?_
  refine jo_end (by kernel_rfl) ?_
  refine jx_then ?_
  refine jc_meet (fun (j : (List Gpart) × (Option Nat) × Nat × (List Value) × Nat) => match j with | ⟨xs_1, o_158, cap_159, sp_160, n_161⟩ => impl_Wear_parts.k_2 w0 f1 v2 xs_1 = some r ∧ (xs_1.length = n_161) ∧ ((o_158 ≠ none → n_161 ≤ cap_159 ∧ sp_160.length = (cap_159 - n_161) * 5)) ∧ ((o_158 = none → xs_1 = [] ∧ cap_159 = 0))) (fun (j : (List Gpart) × (Option Nat) × Nat × (List Value) × Nat) => match j with | ⟨xs_1, o_158, cap_159, sp_160, n_161⟩ => [(3, [], (.pointer (some ⟨b_1, 0, none⟩))), (4, [], (.pointer (some ⟨b_2, 0, none⟩))), (5, [], (.pointer (some ⟨b_3, 0, none⟩))), (6, [], (.slice none 0 0)), (7, [], (.slice (o_158.map fun b => ⟨b, 0, none⟩) n_161 cap_159))]) (fun (j : (List Gpart) × (Option Nat) × Nat × (List Value) × Nat) => match j with | ⟨xs_1, o_158, cap_159, sp_160, n_161⟩ => [⟨some b_1, 38, [(.slice w0_fPins_a w0.fPins.length w0_fPins_c), (.slice w0_fStrokes_a w0.fStrokes.length w0_fStrokes_c)]⟩, ⟨some b_2, 43, [(.int .i16 f1.fSteps), (.slice f1_fHammers_a f1.fHammers.length f1_fHammers_c)]⟩, ⟨some b_3, 46, [(.int .i64 v2.fPin), (.int .i64 v2.fHammer)]⟩, ⟨o_158, 114, row encGpart xs_1 sp_160⟩]) ?_ ?_
  · refine jc_block ?_
    obtain ⟨t_16, ht_472, hr_458⟩ := bd h
    refine jc_loop (fun (s : (List Gpart) × Int) (x : (Option Nat) × Nat × (List Value) × Nat) => match s, x with | ⟨xs_13, i_14⟩, ⟨o_452, cap_453, sp_454, n_455⟩ => (xs_13.length = n_455) ∧ ((o_452 ≠ none → n_455 ≤ cap_453 ∧ sp_454.length = (cap_453 - n_455) * 5)) ∧ ((o_452 = none → xs_13 = [] ∧ cap_453 = 0))) (fun (s : (List Gpart) × Int) (x : (Option Nat) × Nat × (List Value) × Nat) => match s, x with | ⟨xs_13, i_14⟩, ⟨o_452, cap_453, sp_454, n_455⟩ => [(3, [], (.pointer (some ⟨b_1, 0, none⟩))), (4, [], (.pointer (some ⟨b_2, 0, none⟩))), (5, [], (.pointer (some ⟨b_3, 0, none⟩))), (6, [], (.slice none 0 0)), (7, [], (.slice (o_452.map fun b => ⟨b, 0, none⟩) n_455 cap_453)), (14, [], (.slice w0_fPins_a w0.fPins.length w0_fPins_c)), (15, [], (.int .i64 (w0.fPins.length : Int))), (16, [], (.int .i64 i_14))]) (fun (s : (List Gpart) × Int) (x : (Option Nat) × Nat × (List Value) × Nat) => match s, x with | ⟨xs_13, i_14⟩, ⟨o_452, cap_453, sp_454, n_455⟩ => [⟨some b_1, 38, [(.slice w0_fPins_a w0.fPins.length w0_fPins_c), (.slice w0_fStrokes_a w0.fStrokes.length w0_fStrokes_c)]⟩, ⟨some b_2, 43, [(.int .i16 f1.fSteps), (.slice f1_fHammers_a f1.fHammers.length f1_fHammers_c)]⟩, ⟨some b_3, 46, [(.int .i64 v2.fPin), (.int .i64 v2.fHammer)]⟩, ⟨o_452, 114, row encGpart xs_13 sp_454⟩]) ht_472 ⟨(some b_4), 0, [], 0⟩ ⟨rfl, (fun _ => ⟨Nat.le_refl _, by simp⟩), (fun e => nomatch e)⟩ (by kernel_rfl) [0, 1, 2, 3] (by kernel_rfl) (by kernel_rfl) ?_
    rintro ⟨xs_13, i_14⟩ ⟨o_452, cap_453, sp_454, n_455⟩ y_459 ⟨rfl, hs_456, ho_457⟩ h
    rw [impl_Wear_parts.l_15] at h
    refine jc_seq ?_
    refine jc_region ?_
    refine jo_f [(0, 0)] (by kernel_rfl) ?_
    refine jo_end (by kernel_rfl) ?_
    refine jx_then ?_
    refine jc_seq ?_
    refine jc_cond (decide (i_14 < (w0.fPins.length : Int))) (by kernel_rfl) (fun hc_461 => ?_) (fun hc_461 => ?_)
    · replace h := ifT hc_461 h
      refine jc_skip ?_
      refine jx_then ?_
      refine jc_seq ?_
      refine jc_block ?_
      refine jc_seq ?_
      refine jc_region ?_
      obtain ⟨x_17, hx_462, h⟩ := bd h
      refine toO (by kernel_rfl) (p_idx 0 w0_fPins_a w0.fPins.length i_14 3 (by kernel_rfl) (by kernel_rfl) (ix_some hx_462).1 (ltn hx_462 rfl) (w0_fPins_h.sp hx_462) (jkO ?_))
      refine toO (by kernel_rfl) (p_ld 0 (aB w0_fPins_a) (aO w0_fPins_a + i_14.toNat * 3) true (encGWornPin x_17) (by kernel_rfl) (by kernel_rfl) (by kernel_rfl) (fun w hm => ((hm.exRow w0_fPins_h List.not_mem_nil).at hx_462)) (jkO ?_))
      refine toO (by kernel_rfl) (p_a 0 [0] (by kernel_rfl) (fun b => by kernel_rfl) (fun b_463 => jkO ?_))
      refine toO (by kernel_rfl) (p_s 0 [4] (by kernel_rfl) (by kernel_rfl) (jkO ?_))
      refine jo_end (by kernel_rfl) ?_
      refine jx_then ?_
      refine jc_region ?_
      refine jo_f [(0, 0), (0, 0), (4, 0), (0, 0), (2, 0), (0, 0), (4, 0), (0, 0), (0, 0), (4, 0), (0, 0), (0, 0)] (by kernel_rfl) ?_
      refine toO (by kernel_rfl) (p_a 0 [0] (by kernel_rfl) (fun b => by kernel_rfl) (fun b_464 => jkO ?_))
      obtain ⟨hg_465, h⟩ := gd h
      refine toO (by kernel_rfl) (p_apn 0 3 o_452 114 xs_13.length 1 cap_453 5 40 (some ⟨b_464, 0, none⟩) encGpart xs_13 [(⟨x_17.fTurns, 1, v2.fPin, (w64 x_17.fStep), (w64 x_17.fTrack)⟩ : Gpart)] sp_454 (.agg #[(.int .i64 0), (.int .i64 0), (.int .i64 0), (.int .i64 0), (.int .i64 0)]) rfl rfl (by kernel_rfl) (by kernel_rfl) (by kernel_rfl) encGpart_len encGpart_cell hs_456 ho_457 (fun w hm => (hm.ownRow (hh := 5) (o := (some b_464)) (T := 114) (enc := encGpart) (xs := [(⟨x_17.fTurns, 1, v2.fPin, (w64 x_17.fStep), (w64 x_17.fTrack)⟩ : Gpart)]) (sp := []) (by kernel_rfl) (fun e => nomatch e) encGpart_len)) hg_465 (by kernel_rfl) (by kernel_rfl) (fun o_466 cap_467 sp_468 hs_469 ho_470 => jkO ?_))
      refine jo_f [(0, 0)] (by kernel_rfl) ?_
      refine jo_end (by kernel_rfl) ?_
      refine jx_inn ?_
      refine jx_then ?_
      refine jc_region ?_
      refine jo_f [(0, 0), (0, 0)] (by kernel_rfl) ?_
      refine jo_end (by kernel_rfl) ?_
      exact jx_back ((xs_13 ++ [(⟨x_17.fTurns, 1, v2.fPin, (w64 x_17.fStep), (w64 x_17.fTrack)⟩ : Gpart)]), (w64 (i_14 + 1))) ⟨o_466, cap_467, sp_468, (xs_13 ++ [(⟨x_17.fTurns, 1, v2.fPin, (w64 x_17.fStep), (w64 x_17.fTrack)⟩ : Gpart)]).length⟩ (Option.some.inj h).symm ⟨rfl, hs_469, ho_470⟩ [0, 1, 2, 3] (by kernel_rfl) (by kernel_rfl) (by kernel_rfl)
    · replace h := ifF hc_461 h
      refine jc_exit ?_
      refine jx_thenx ?_
      refine jx_leave xs_13 (Option.some.inj h).symm (fun e_471 => ?_)
      subst e_471
      refine jx_ine ?_
      exact jx_meet ⟨xs_13, o_452, cap_453, sp_454, xs_13.length⟩ ⟨hr_458, rfl, hs_456, ho_457⟩ (by kernel_rfl) [0, 1, 2, 3] (by kernel_rfl) (by kernel_rfl)
  · rintro ⟨xs_1, o_158, cap_159, sp_160, n_161⟩ ⟨h, rfl, hs_162, ho_163⟩
    replace h : impl_Wear_parts.k_2 w0 f1 v2 xs_1 = some r := h
    rw [impl_Wear_parts.k_2] at h
    refine jx_then ?_
    refine jc_seq ?_
    refine jc_seq ?_
    refine jc_draw [⟨some b_1, 38, [(.slice w0_fPins_a w0.fPins.length w0_fPins_c), (.slice w0_fStrokes_a w0.fStrokes.length w0_fStrokes_c)]⟩, ⟨some b_2, 43, [(.int .i16 f1.fSteps), (.slice f1_fHammers_a f1.fHammers.length f1_fHammers_c)]⟩, ⟨some b_3, 46, [(.int .i64 v2.fPin), (.int .i64 v2.fHammer)]⟩, ⟨o_158, 114, row encGpart xs_1 sp_160⟩] 6 (by kernel_rfl) (by kernel_rfl) ?_
    refine jd_f [⟨0, 1, 0⟩, ⟨1, 0, 0⟩, ⟨5, 0, 0⟩] 3 (by kernel_rfl) (by kernel_rfl) (fun w h => h.pick [0, 1, 2, 3] (by kernel_rfl) (by kernel_rfl)) (by kernel_rfl) (by kernel_rfl) ?_
    obtain ⟨t_3, ht_301, h⟩ := bd h
    refine toD 2 (by kernel_rfl) (p_call 0 102 #[(.agg #[(.slice w0_fPins_a w0.fPins.length w0_fPins_c), (.slice w0_fStrokes_a w0.fStrokes.length w0_fStrokes_c)])] (by kernel_rfl) (by kernel_rfl) (fun w hm => impl_Wear_drum.calls w0 w _ w0_fPins_a w0.fPins.length w0_fPins_c (hm.exRow w0_fPins_h List.not_mem_nil) rfl w0_fStrokes_a w0.fStrokes.length w0_fStrokes_c (hm.exRow w0_fStrokes_h List.not_mem_nil) rfl ht_301) ?_)
    rintro w v w' hm ⟨rfl, hm'⟩
    refine ⟨_, hm.app hm', jkD (fun w h => h.pick [0, 1, 2, 3] (by kernel_rfl) (by kernel_rfl)) ?_⟩
    clear hm hm'
    obtain ⟨t_4, ht_302, h⟩ := bd h
    refine toD 3 (by kernel_rfl) (p_call 0 101 #[(.agg #[(.int .i16 f1.fSteps), (.slice f1_fHammers_a f1.fHammers.length f1_fHammers_c)]), (.agg (row encU32 t_3.1 []).toArray)] (by kernel_rfl) (by kernel_rfl) (fun w hm => impl_Frame_byTrack.calls f1 t_3 w _ f1_fHammers_a f1.fHammers.length f1_fHammers_c (hm.exRow f1_fHammers_h List.not_mem_nil) rfl ht_302) ?_)
    rintro w v w' hm ⟨o_303, cap_304, sp_305, _, rfl, hs_306, ho_307, rfl, hm'⟩
    refine ⟨_, hm.app hm', jkD (fun w h => h.pick [0, 1, 2, 3] (by kernel_rfl) (by kernel_rfl)) ?_⟩
    clear hm hm'
    refine jd_f [⟨4, 0, 0⟩] 0 (by kernel_rfl) (by kernel_rfl) (fun w h => h.pick [0, 1, 2, 3] (by kernel_rfl) (by kernel_rfl)) (by kernel_rfl) (by kernel_rfl) ?_
    refine jd_end (by kernel_rfl) ?_
    refine jx_then ?_
    refine jc_meet (fun (j : (List Gpart) × (Option Nat) × Nat × (List Value) × Nat) => match j with | ⟨xs_5, o_363, cap_364, sp_365, n_366⟩ => impl_Wear_parts.k_6 xs_5 = some r ∧ (xs_5.length = n_366) ∧ ((o_363 ≠ none → n_366 ≤ cap_364 ∧ sp_365.length = (cap_364 - n_366) * 5)) ∧ ((o_363 = none → xs_5 = [] ∧ cap_364 = 0))) (fun (j : (List Gpart) × (Option Nat) × Nat × (List Value) × Nat) => match j with | ⟨xs_5, o_363, cap_364, sp_365, n_366⟩ => [(6, [], (.slice none 0 0)), (7, [], (.slice (o_363.map fun b => ⟨b, 0, none⟩) n_366 cap_364))]) (fun (j : (List Gpart) × (Option Nat) × Nat × (List Value) × Nat) => match j with | ⟨xs_5, o_363, cap_364, sp_365, n_366⟩ => [⟨some b_1, 38, [(.slice w0_fPins_a w0.fPins.length w0_fPins_c), (.slice w0_fStrokes_a w0.fStrokes.length w0_fStrokes_c)]⟩, ⟨some b_2, 43, [(.int .i16 f1.fSteps), (.slice f1_fHammers_a f1.fHammers.length f1_fHammers_c)]⟩, ⟨some b_3, 46, [(.int .i64 v2.fPin), (.int .i64 v2.fHammer)]⟩, ⟨o_363, 114, row encGpart xs_5 sp_365⟩, ⟨o_303, 2, row encI64 t_4 sp_305⟩]) ?_ ?_
    · refine jc_block ?_
      obtain ⟨t_10, ht_423, hr_407⟩ := bd h
      refine jc_loop (fun (s : (List Gpart) × Int) (x : (Option Nat) × Nat × (List Value) × Nat) => match s, x with | ⟨xs_7, i_8⟩, ⟨o_401, cap_402, sp_403, n_404⟩ => (xs_7.length = n_404) ∧ ((o_401 ≠ none → n_404 ≤ cap_402 ∧ sp_403.length = (cap_402 - n_404) * 5)) ∧ ((o_401 = none → xs_7 = [] ∧ cap_402 = 0))) (fun (s : (List Gpart) × Int) (x : (Option Nat) × Nat × (List Value) × Nat) => match s, x with | ⟨xs_7, i_8⟩, ⟨o_401, cap_402, sp_403, n_404⟩ => [(3, [], (.pointer (some ⟨b_1, 0, none⟩))), (5, [], (.pointer (some ⟨b_3, 0, none⟩))), (6, [], (.slice none 0 0)), (7, [], (.slice (o_401.map fun b => ⟨b, 0, none⟩) n_404 cap_402)), (38, [], (.slice (o_303.map fun b => ⟨b, 0, none⟩) t_4.length cap_304)), (39, [], (.int .i64 (t_4.length : Int))), (40, [], (.int .i64 i_8))]) (fun (s : (List Gpart) × Int) (x : (Option Nat) × Nat × (List Value) × Nat) => match s, x with | ⟨xs_7, i_8⟩, ⟨o_401, cap_402, sp_403, n_404⟩ => [⟨some b_1, 38, [(.slice w0_fPins_a w0.fPins.length w0_fPins_c), (.slice w0_fStrokes_a w0.fStrokes.length w0_fStrokes_c)]⟩, ⟨some b_2, 43, [(.int .i16 f1.fSteps), (.slice f1_fHammers_a f1.fHammers.length f1_fHammers_c)]⟩, ⟨some b_3, 46, [(.int .i64 v2.fPin), (.int .i64 v2.fHammer)]⟩, ⟨o_401, 114, row encGpart xs_7 sp_403⟩, ⟨o_303, 2, row encI64 t_4 sp_305⟩]) ht_423 ⟨o_158, cap_159, sp_160, xs_1.length⟩ ⟨rfl, hs_162, ho_163⟩ (by kernel_rfl) [0, 1, 2, 3, 4] (by kernel_rfl) (by kernel_rfl) ?_
      rintro ⟨xs_7, i_8⟩ ⟨o_401, cap_402, sp_403, n_404⟩ y_408 ⟨rfl, hs_405, ho_406⟩ h
      rw [impl_Wear_parts.l_9] at h
      refine jc_seq ?_
      refine jc_region ?_
      refine jo_f [(0, 0)] (by kernel_rfl) ?_
      refine jo_end (by kernel_rfl) ?_
      refine jx_then ?_
      refine jc_seq ?_
      refine jc_cond (decide (i_8 < (t_4.length : Int))) (by kernel_rfl) (fun hc_410 => ?_) (fun hc_410 => ?_)
      · replace h := ifT hc_410 h
        refine jc_skip ?_
        refine jx_then ?_
        refine jc_seq ?_
        refine jc_block ?_
        refine jc_seq ?_
        refine jc_region ?_
        refine jo_f [(0, 0)] (by kernel_rfl) ?_
        obtain ⟨x_11, hx_411, h⟩ := bd h
        refine toO (by kernel_rfl) (p_idx 0 (o_303.map fun b => ⟨b, 0, none⟩) t_4.length i_8 1 (by kernel_rfl) (by kernel_rfl) (ix_some hx_411).1 (ltn hx_411 rfl) (spo ho_307 hx_411) (jkO ?_))
        refine toO (by kernel_rfl) (p_ld 0 (aB (o_303.map fun b => ⟨b, 0, none⟩)) (aO (o_303.map fun b => ⟨b, 0, none⟩) + i_8.toNat * 1) false (encI64 x_11) (by kernel_rfl) (by kernel_rfl) (by kernel_rfl) (fun w hm => ((hm.ownRow (hh := 4) (o := o_303) (T := 2) (enc := encI64) (xs := t_4) (sp := sp_305) (by kernel_rfl) (fun e => (ho_307 e).1) encI64_len).at hx_411)) (jkO ?_))
        refine jo_f [(0, 0), (0, 0)] (by kernel_rfl) ?_
        refine jo_end (by kernel_rfl) ?_
        refine jx_then ?_
        refine jc_draw [⟨some b_1, 38, [(.slice w0_fPins_a w0.fPins.length w0_fPins_c), (.slice w0_fStrokes_a w0.fStrokes.length w0_fStrokes_c)]⟩, ⟨some b_2, 43, [(.int .i16 f1.fSteps), (.slice f1_fHammers_a f1.fHammers.length f1_fHammers_c)]⟩, ⟨some b_3, 46, [(.int .i64 v2.fPin), (.int .i64 v2.fHammer)]⟩, ⟨o_303, 2, row encI64 t_4 sp_305⟩] 14 (by kernel_rfl) (by kernel_rfl) ?_
        refine jd_f [⟨0, 0, 0⟩, ⟨1, 0, 0⟩, ⟨2, 0, 0⟩, ⟨3, 0, 0⟩, ⟨6, 0, 0⟩, ⟨7, 0, 0⟩, ⟨8, 2, 0⟩, ⟨9, 0, 0⟩] 6 (by kernel_rfl) (by kernel_rfl) (fun w h => h.pick [0, 1, 2, 4] (by kernel_rfl) (by kernel_rfl)) (by kernel_rfl) (by kernel_rfl) ?_
        obtain ⟨x_12, hx_414, h⟩ := bd h
        refine jd_v 4 0 (by kernel_rfl) (fun w h => h.pick [0, 1, 2, 4] (by kernel_rfl) (by kernel_rfl)) (by kernel_rfl) (by kernel_rfl) _ (fun w hm => idx_run (a := w0_fStrokes_a) (len := w0.fStrokes.length) (s := 1) (j := i_8) (by kernel_rfl) (ix_some hx_414).1 (ltn hx_414 rfl) (w0_fStrokes_h.sp hx_414)) ?_
        refine jd_v 5 0 (by kernel_rfl) (fun w h => h.pick [0, 1, 2, 4] (by kernel_rfl) (by kernel_rfl)) (by kernel_rfl) (by kernel_rfl) _ (fun w hm => ld_run (b := aB w0_fStrokes_a) (off := (aO w0_fStrokes_a + i_8.toNat * 1)) (s := 1) (agg := false) (vs := (encI64 x_12)) (by kernel_rfl) (by kernel_rfl) (.inr rfl) ((hm.exRow w0_fStrokes_h List.not_mem_nil).at hx_414)) ?_
        refine jd_f [⟨10, 0, 0⟩] 3 (by kernel_rfl) (by kernel_rfl) (fun w h => h.pick [0, 1, 2, 4] (by kernel_rfl) (by kernel_rfl)) (by kernel_rfl) (by kernel_rfl) ?_
        refine toD 11 (by kernel_rfl) (p_a 0 [0] (by kernel_rfl) (fun b => by kernel_rfl) (fun b_415 => jkD (fun w h => h.pick [0, 1, 2, 4] (by kernel_rfl) (by kernel_rfl)) ?_))
        obtain ⟨hg_416, h⟩ := gd h
        refine toD 12 (by kernel_rfl) (p_apn 0 3 o_401 114 xs_7.length 1 cap_402 5 40 (some ⟨b_415, 0, none⟩) encGpart xs_7 [(⟨x_12, x_11, v2.fHammer, (-1), i_8⟩ : Gpart)] sp_403 (.agg #[(.int .i64 0), (.int .i64 0), (.int .i64 0), (.int .i64 0), (.int .i64 0)]) rfl rfl (by kernel_rfl) (by kernel_rfl) (by kernel_rfl) encGpart_len encGpart_cell hs_405 ho_406 (fun w hm => (hm.ownRow (hh := 5) (o := (some b_415)) (T := 114) (enc := encGpart) (xs := [(⟨x_12, x_11, v2.fHammer, (-1), i_8⟩ : Gpart)]) (sp := []) (by kernel_rfl) (fun e => nomatch e) encGpart_len)) hg_416 (by kernel_rfl) (by kernel_rfl) (fun o_417 cap_418 sp_419 hs_420 ho_421 => jkD (fun w h => h.pick [0, 1, 2, 4] (by kernel_rfl) (by kernel_rfl)) ?_))
        refine jd_f [⟨13, 0, 0⟩] 0 (by kernel_rfl) (by kernel_rfl) (fun w h => h.pick [0, 1, 2, 4] (by kernel_rfl) (by kernel_rfl)) (by kernel_rfl) (by kernel_rfl) ?_
        refine jd_end (by kernel_rfl) ?_
        refine jx_inn ?_
        refine jx_then ?_
        refine jc_region ?_
        refine jo_f [(0, 0), (0, 0)] (by kernel_rfl) ?_
        refine jo_end (by kernel_rfl) ?_
        exact jx_back ((xs_7 ++ [(⟨x_12, x_11, v2.fHammer, (-1), i_8⟩ : Gpart)]), (w64 (i_8 + 1))) ⟨o_417, cap_418, sp_419, (xs_7 ++ [(⟨x_12, x_11, v2.fHammer, (-1), i_8⟩ : Gpart)]).length⟩ (Option.some.inj h).symm ⟨rfl, hs_420, ho_421⟩ [0, 1, 2, 3, 4] (by kernel_rfl) (by kernel_rfl) (by kernel_rfl)
      · replace h := ifF hc_410 h
        refine jc_exit ?_
        refine jx_thenx ?_
        refine jx_leave xs_7 (Option.some.inj h).symm (fun e_422 => ?_)
        subst e_422
        refine jx_ine ?_
        exact jx_meet ⟨xs_7, o_401, cap_402, sp_403, xs_7.length⟩ ⟨hr_407, rfl, hs_405, ho_406⟩ (by kernel_rfl) [0, 1, 2, 3, 4] (by kernel_rfl) (by kernel_rfl)
    · rintro ⟨xs_5, o_363, cap_364, sp_365, n_366⟩ ⟨h, rfl, hs_367, ho_368⟩
      replace h : impl_Wear_parts.k_6 xs_5 = some r := h
      rw [impl_Wear_parts.k_6] at h
      refine jx_then ?_
      refine jc_seq ?_
      refine jc_region ?_
      refine jo_f [(0, 0), (0, 0)] (by kernel_rfl) ?_
      refine jo_end (by kernel_rfl) ?_
      refine jx_then ?_
      refine jc_ret ?_
      obtain rfl := Option.some.inj h
      exact jx_ret [] (.slice (o_363.map fun b => ⟨b, 0, none⟩) xs_5.length cap_364) [] rfl (by kernel_rfl) (by kernel_rfl) (fun w hm => ⟨o_363, cap_364, sp_365, xs_5.length, rfl, hs_367, ho_368, rfl, hm.pick [3] (by kernel_rfl) (by kernel_rfl)⟩)

/-! ### (impl.part).isWorn -/
noncomputable def impl_part_isWorn (p0 : Gpart) : Option (Bool) := some (decide (p0.fmade > p0.flife))
set_option maxRecDepth 100000 in
theorem impl_part_isWorn.calls (p0 : Gpart) (w : World) (r : Bool) (h : impl_part_isWorn p0 = some r) :
    Calls Tryz.prog 69 #[(.agg #[(.int .i64 p0.fmade), (.int .i64 p0.feach), (.int .i64 p0.flife), (.int .i64 p0.fstep), (.int .i64 p0.ftrack)])] w fun e w' => ∃ v, e = .returned v ∧ (v = (.bool r) ∧ Mem w [] [] w') := by
  rw [impl_part_isWorn] at h
  refine enter (args := [(.agg #[(.int .i64 p0.fmade), (.int .i64 p0.feach), (.int .i64 p0.flife), (.int .i64 p0.fstep), (.int .i64 p0.ftrack)])]) Tryz.func69 rfl Tryz.ntmps69 (by kernel_rfl) (L := []) (W := []) (Mem.start w) ?_
  refine jc_seq ?_
  refine jc_region ?_
  refine toO (by kernel_rfl) (p_a 0 [0] (by kernel_rfl) (fun b => by kernel_rfl) (fun b_1 => jkO ?_))
  refine jo_f [(0, 0)] (by kernel_rfl) ?_
  refine jo_end (by kernel_rfl) ?_
  refine jx_then ?_
  refine jc_seq ?_
  refine jc_region ?_
  refine jo_f [(0, 0), (0, 0), (0, 0), (0, 0), (0, 0), (0, 0)] (by kernel_rfl) ?_
  refine jo_end (by kernel_rfl) ?_
  refine jx_then ?_
  refine jc_ret ?_
  obtain rfl := Option.some.inj h
  exact jx_ret [] (.bool (decide (p0.fmade > p0.flife))) [] rfl (by kernel_rfl) (by kernel_rfl) (fun w hm => ⟨rfl, hm.pick [] (by kernel_rfl) (by kernel_rfl)⟩)

/-! ### slices.IndexFunc[[]impl.part,impl.part] -/
noncomputable def slices_IndexFunc_part_at_impl_part_isWorn.k_1 : Option (Int) := some (-1)
noncomputable def slices_IndexFunc_part_at_impl_part_isWorn.l_3 (s0 : List Gpart) : Int → Option ((Int) ⊕ (Int ⊕ Unit))
  | i_2 => (if (decide (i_2 < (s0.length : Int))) = true then (ix s0 i_2).bind fun x_5 => (impl_part_isWorn x_5).bind fun t_6 => (if t_6 = true then some (.inr (.inl i_2)) else some (.inl (w64 (i_2 + 1)))) else some (.inr (.inr ())))
noncomputable def slices_IndexFunc_part_at_impl_part_isWorn (s0 : List Gpart) : Option (Int) := (loop (slices_IndexFunc_part_at_impl_part_isWorn.l_3 s0) 0).bind fun t_4 => match t_4 with | .inl p => some p | .inr p => slices_IndexFunc_part_at_impl_part_isWorn.k_1
set_option maxRecDepth 100000 in
theorem slices_IndexFunc_part_at_impl_part_isWorn.calls (s0 : List Gpart) (w : World) (r : Int) (s0_a : Option Addr) (s0_an : Nat) (s0_c : Nat) (s0_h : Rw w s0_a 5 encGpart s0) (s0_hn : s0.length = s0_an) (h : slices_IndexFunc_part_at_impl_part_isWorn s0 = some r) :
    Calls Tryz.prog 103 #[(.slice s0_a s0_an s0_c), (.func (.func 69) #[] #[])] w fun e w' => ∃ v, e = .returned v ∧ (v = (.int .i64 r) ∧ Mem w [] [] w') := by
  subst s0_hn
  rw [slices_IndexFunc_part_at_impl_part_isWorn] at h
  refine enter (args := [(.slice s0_a s0.length s0_c), (.func (.func 69) #[] #[])]) Tryz.func103 rfl Tryz.ntmps103 (by kernel_rfl) (L := []) (W := []) (Mem.start w) ?_
  refine jc_seq ?_
  refine jc_region ?_
  refine jo_f [(0, 0)] (by kernel_rfl) ?_
  refine jo_end (by kernel_rfl) ?_
  refine jx_then ?_
  refine jc_seq ?_
  refine jc_seq ?_
  refine jc_region ?_
  refine jo_f [(0, 0), (0, 0), (0, 0)] (by kernel_rfl) ?_
  refine jo_end (by kernel_rfl) ?_
  refine jx_then ?_
  refine jc_meet (fun (_ : Unit) => slices_IndexFunc_part_at_impl_part_isWorn.k_1 = some r) (fun (_ : Unit) => [(4, [], (.int .i64 0))]) (fun (_ : Unit) => []) ?_ ?_
  · refine jc_block ?_
    obtain ⟨t_4, ht_40, hr_31⟩ := bd h
    refine jc_loop (fun (s : Int) (x : Unit) => match s, x with | i_2, _ => True) (fun (s : Int) (x : Unit) => match s, x with | i_2, _ => [(0, [], (.slice s0_a s0.length s0_c)), (1, [], (.func (.func 69) #[] #[])), (4, [], (.int .i64 0)), (7, [], (.int .i64 (s0.length : Int))), (8, [], (.int .i64 i_2))]) (fun (s : Int) (x : Unit) => match s, x with | i_2, _ => []) ht_40 () trivial (by kernel_rfl) [] (by kernel_rfl) (by kernel_rfl) ?_
    rintro i_2 _ y_32 _ h
    rw [slices_IndexFunc_part_at_impl_part_isWorn.l_3] at h
    refine jc_seq ?_
    refine jc_region ?_
    refine jo_f [(0, 0)] (by kernel_rfl) ?_
    refine jo_end (by kernel_rfl) ?_
    refine jx_then ?_
    refine jc_seq ?_
    refine jc_cond (decide (i_2 < (s0.length : Int))) (by kernel_rfl) (fun hc_34 => ?_) (fun hc_34 => ?_)
    · replace h := ifT hc_34 h
      refine jc_skip ?_
      refine jx_then ?_
      refine jc_seq ?_
      refine jc_block ?_
      refine jc_seq ?_
      refine jc_region ?_
      refine jo_f [(0, 0), (0, 0)] (by kernel_rfl) ?_
      refine jo_end (by kernel_rfl) ?_
      refine jx_then ?_
      refine jc_seq ?_
      refine jc_region ?_
      refine jo_f [(0, 0), (0, 0), (0, 0)] (by kernel_rfl) ?_
      obtain ⟨x_5, hx_35, h⟩ := bd h
      refine toO (by kernel_rfl) (p_idx 0 s0_a s0.length i_2 5 (by kernel_rfl) (by kernel_rfl) (ix_some hx_35).1 (ltn hx_35 rfl) (s0_h.sp hx_35) (jkO ?_))
      refine toO (by kernel_rfl) (p_ld 0 (aB s0_a) (aO s0_a + i_2.toNat * 5) true (encGpart x_5) (by kernel_rfl) (by kernel_rfl) (by kernel_rfl) (fun w hm => ((hm.exRow s0_h List.not_mem_nil).at hx_35)) (jkO ?_))
      obtain ⟨t_6, ht_36, h⟩ := bd h
      refine toO (by kernel_rfl) (p_call 0 69 #[(.agg #[(.int .i64 x_5.fmade), (.int .i64 x_5.feach), (.int .i64 x_5.flife), (.int .i64 x_5.fstep), (.int .i64 x_5.ftrack)])] (by kernel_rfl) (by kernel_rfl) (fun w hm => impl_part_isWorn.calls x_5 w _ ht_36) ?_)
      rintro w v w' hm ⟨rfl, hm'⟩
      refine ⟨_, hm.app hm', jkO ?_⟩
      clear hm hm'
      refine jo_end (by kernel_rfl) ?_
      refine jx_then ?_
      refine jc_cond t_6 (by kernel_rfl) (fun hc_37 => ?_) (fun hc_37 => ?_)
      · replace h := ifT hc_37 h
        refine jc_seq ?_
        refine jc_region ?_
        refine jo_f [(0, 0), (0, 0)] (by kernel_rfl) ?_
        refine jo_end (by kernel_rfl) ?_
        refine jx_then ?_
        refine jc_ret ?_
        refine jx_inr ?_
        refine jx_thenr ?_
        refine jx_leaver (.inl i_2) (Option.some.inj h).symm (fun e_38 => ?_)
        subst e_38
        refine jx_inr ?_
        refine jx_thenr ?_
        refine jx_thenr ?_
        obtain rfl := Option.some.inj hr_31
        exact jx_ret [] (.int .i64 i_2) [] rfl (by kernel_rfl) (by kernel_rfl) (fun w hm => ⟨rfl, hm.pick [] (by kernel_rfl) (by kernel_rfl)⟩)
      · replace h := ifF hc_37 h
        refine jc_skip ?_
        refine jx_inn ?_
        refine jx_then ?_
        refine jc_region ?_
        refine jo_f [(0, 0), (0, 0)] (by kernel_rfl) ?_
        refine jo_end (by kernel_rfl) ?_
        exact jx_back (w64 (i_2 + 1)) () (Option.some.inj h).symm trivial [] (by kernel_rfl) (by kernel_rfl) (by kernel_rfl)
    · replace h := ifF hc_34 h
      refine jc_exit ?_
      refine jx_thenx ?_
      refine jx_leave (.inr ()) (Option.some.inj h).symm (fun e_39 => ?_)
      subst e_39
      refine jx_ine ?_
      exact jx_meet () hr_31 (by kernel_rfl) [] (by kernel_rfl) (by kernel_rfl)
  · rintro _ h
    replace h : slices_IndexFunc_part_at_impl_part_isWorn.k_1 = some r := h
    rw [slices_IndexFunc_part_at_impl_part_isWorn.k_1] at h
    refine jx_then ?_
    refine jc_seq ?_
    refine jc_region ?_
    refine jo_f [(0, 0)] (by kernel_rfl) ?_
    refine jo_end (by kernel_rfl) ?_
    refine jx_then ?_
    refine jc_ret ?_
    obtain rfl := Option.some.inj h
    exact jx_ret [] (.int .i64 (-1)) [] rfl (by kernel_rfl) (by kernel_rfl) (fun w hm => ⟨rfl, hm.pick [] (by kernel_rfl) (by kernel_rfl)⟩)

/-! ### slices.ContainsFunc[[]impl.part,impl.part] -/
noncomputable def slices_ContainsFunc_part_at_impl_part_isWorn (s0 : List Gpart) : Option (Bool) := (slices_IndexFunc_part_at_impl_part_isWorn s0).bind fun t_1 => some (decide (t_1 ≥ 0))
set_option maxRecDepth 100000 in
theorem slices_ContainsFunc_part_at_impl_part_isWorn.calls (s0 : List Gpart) (w : World) (r : Bool) (s0_a : Option Addr) (s0_an : Nat) (s0_c : Nat) (s0_h : Rw w s0_a 5 encGpart s0) (s0_hn : s0.length = s0_an) (h : slices_ContainsFunc_part_at_impl_part_isWorn s0 = some r) :
    Calls Tryz.prog 67 #[(.slice s0_a s0_an s0_c), (.func (.func 69) #[] #[])] w fun e w' => ∃ v, e = .returned v ∧ (v = (.bool r) ∧ Mem w [] [] w') := by
  subst s0_hn
  rw [slices_ContainsFunc_part_at_impl_part_isWorn] at h
  refine enter (args := [(.slice s0_a s0.length s0_c), (.func (.func 69) #[] #[])]) Tryz.func67 rfl Tryz.ntmps67 (by kernel_rfl) (L := []) (W := []) (Mem.start w) ?_
  refine jc_seq ?_
  refine jc_region ?_
  refine jo_f [(0, 0)] (by kernel_rfl) ?_
  refine jo_end (by kernel_rfl) ?_
  refine jx_then ?_
  refine jc_seq ?_
  refine jc_region ?_
  refine jo_f [(0, 0), (0, 0)] (by kernel_rfl) ?_
  obtain ⟨t_1, ht_1, h⟩ := bd h
  refine toO (by kernel_rfl) (p_call 0 103 #[(.slice s0_a s0.length s0_c), (.func (.func 69) #[] #[])] (by kernel_rfl) (by kernel_rfl) (fun w hm => slices_IndexFunc_part_at_impl_part_isWorn.calls s0 w _ s0_a s0.length s0_c (hm.exRow s0_h List.not_mem_nil) rfl ht_1) ?_)
  rintro w v w' hm ⟨rfl, hm'⟩
  refine ⟨_, hm.app hm', jkO ?_⟩
  clear hm hm'
  refine jo_f [(0, 0), (0, 0)] (by kernel_rfl) ?_
  refine jo_end (by kernel_rfl) ?_
  refine jx_then ?_
  refine jc_ret ?_
  obtain rfl := Option.some.inj h
  exact jx_ret [] (.bool (decide (t_1 ≥ 0))) [] rfl (by kernel_rfl) (by kernel_rfl) (fun w hm => ⟨rfl, hm.pick [] (by kernel_rfl) (by kernel_rfl)⟩)

/-! ### impl.lifeCode -/
noncomputable def impl_lifeCode (f0 : GFrame) (w1 : GWear) (v2 : GLives) : Option (Int) := (impl_wearCode f0 w1 [v2]).bind fun t_1 => (if (t_1 != 0) = true then some t_1 else (impl_Wear_parts w1 f0 v2).bind fun t_2 => (slices_ContainsFunc_part_at_impl_part_isWorn t_2).bind fun t_3 => (impl_unless (!t_3) 4).bind fun t_4 => some t_4)
set_option maxRecDepth 100000 in
theorem impl_lifeCode.calls (f0 : GFrame) (w1 : GWear) (v2 : GLives) (w : World) (r : Int) (f0_fHammers_a : Option Addr) (f0_fHammers_an : Nat) (f0_fHammers_c : Nat) (f0_fHammers_h : Rw w f0_fHammers_a 2 encGHammer f0.fHammers) (f0_fHammers_hn : f0.fHammers.length = f0_fHammers_an) (w1_fPins_a : Option Addr) (w1_fPins_an : Nat) (w1_fPins_c : Nat) (w1_fPins_h : Rw w w1_fPins_a 3 encGWornPin w1.fPins) (w1_fPins_hn : w1.fPins.length = w1_fPins_an) (w1_fStrokes_a : Option Addr) (w1_fStrokes_an : Nat) (w1_fStrokes_c : Nat) (w1_fStrokes_h : Rw w w1_fStrokes_a 1 encI64 w1.fStrokes) (w1_fStrokes_hn : w1.fStrokes.length = w1_fStrokes_an) (h : impl_lifeCode f0 w1 v2 = some r) :
    Calls Tryz.prog 91 #[(.agg #[(.int .i16 f0.fSteps), (.slice f0_fHammers_a f0_fHammers_an f0_fHammers_c)]), (.agg #[(.slice w1_fPins_a w1_fPins_an w1_fPins_c), (.slice w1_fStrokes_a w1_fStrokes_an w1_fStrokes_c)]), (.agg #[(.int .i64 v2.fPin), (.int .i64 v2.fHammer)])] w fun e w' => ∃ v, e = .returned v ∧ (v = (.int .i64 r) ∧ Mem w [] [] w') := by
  subst f0_fHammers_hn w1_fPins_hn w1_fStrokes_hn
  rw [impl_lifeCode] at h
  refine enter (args := [(.agg #[(.int .i16 f0.fSteps), (.slice f0_fHammers_a f0.fHammers.length f0_fHammers_c)]), (.agg #[(.slice w1_fPins_a w1.fPins.length w1_fPins_c), (.slice w1_fStrokes_a w1.fStrokes.length w1_fStrokes_c)]), (.agg #[(.int .i64 v2.fPin), (.int .i64 v2.fHammer)])]) Tryz.func91 rfl Tryz.ntmps91 (by kernel_rfl) (L := []) (W := []) (Mem.start w) ?_
  refine jc_seq ?_
  refine jc_region ?_
  refine toO (by kernel_rfl) (p_a 0 [0] (by kernel_rfl) (fun b => by kernel_rfl) (fun b_1 => jkO ?_))
  refine toO (by kernel_rfl) (p_a 0 [0] (by kernel_rfl) (fun b => by kernel_rfl) (fun b_2 => jkO ?_))
  refine toO (by kernel_rfl) (p_a 0 [0] (by kernel_rfl) (fun b => by kernel_rfl) (fun b_3 => jkO ?_))
  refine jo_f [(0, 0)] (by kernel_rfl) ?_
  refine jo_end (by kernel_rfl) ?_
  refine jx_then ?_
  refine jc_seq ?_
  refine jc_seq ?_
  refine jc_region ?_
  refine jo_f [(0, 0), (1, 0), (2, 0)] (by kernel_rfl) ?_
  refine toO (by kernel_rfl) (p_a 0 [0] (by kernel_rfl) (fun b => by kernel_rfl) (fun b_7 => jkO ?_))
  obtain ⟨t_1, ht_8, h⟩ := bd h
  refine toO (by kernel_rfl) (p_call 0 63 #[(.agg #[(.int .i16 f0.fSteps), (.slice f0_fHammers_a f0.fHammers.length f0_fHammers_c)]), (.agg #[(.slice w1_fPins_a w1.fPins.length w1_fPins_c), (.slice w1_fStrokes_a w1.fStrokes.length w1_fStrokes_c)]), (.slice (some ⟨b_7, 0, none⟩) 1 1)] (by kernel_rfl) (by kernel_rfl) (fun w hm => impl_wearCode.calls f0 w1 [v2] w _ f0_fHammers_a f0.fHammers.length f0_fHammers_c (hm.exRow f0_fHammers_h List.not_mem_nil) rfl w1_fPins_a w1.fPins.length w1_fPins_c (hm.exRow w1_fPins_h List.not_mem_nil) rfl w1_fStrokes_a w1.fStrokes.length w1_fStrokes_c (hm.exRow w1_fStrokes_h List.not_mem_nil) rfl (some ⟨b_7, 0, none⟩) 1 1 (hm.ownRow (hh := 3) (o := (some b_7)) (T := 46) (enc := encGLives) (xs := [v2]) (sp := []) (by kernel_rfl) (fun e => nomatch e) encGLives_len) rfl ht_8) ?_)
  rintro w v w' hm ⟨rfl, hm'⟩
  refine ⟨_, hm.app hm', jkO ?_⟩
  clear hm hm'
  refine jo_f [(0, 0)] (by kernel_rfl) ?_
  refine jo_end (by kernel_rfl) ?_
  refine jx_then ?_
  refine jc_seq ?_
  refine jc_region ?_
  refine jo_f [(0, 0), (0, 0)] (by kernel_rfl) ?_
  refine jo_end (by kernel_rfl) ?_
  refine jx_then ?_
  refine jc_cond (t_1 != 0) (by kernel_rfl) (fun hc_9 => ?_) (fun hc_9 => ?_)
  · replace h := ifT hc_9 h
    refine jc_seq ?_
    refine jc_region ?_
    refine jo_f [(0, 0), (0, 0)] (by kernel_rfl) ?_
    refine jo_end (by kernel_rfl) ?_
    refine jx_then ?_
    refine jc_ret ?_
    refine jx_thenr ?_
    obtain rfl := Option.some.inj h
    exact jx_ret [] (.int .i64 t_1) [] rfl (by kernel_rfl) (by kernel_rfl) (fun w hm => ⟨rfl, hm.pick [] (by kernel_rfl) (by kernel_rfl)⟩)
  · replace h := ifF hc_9 h
    refine jc_skip ?_
    refine jx_then ?_
    refine jc_seq ?_
    refine jc_region ?_
    refine jo_f [(1, 0), (0, 0), (2, 0)] (by kernel_rfl) ?_
    obtain ⟨t_2, ht_10, h⟩ := bd h
    refine toO (by kernel_rfl) (p_call 0 66 #[(.agg #[(.slice w1_fPins_a w1.fPins.length w1_fPins_c), (.slice w1_fStrokes_a w1.fStrokes.length w1_fStrokes_c)]), (.agg #[(.int .i16 f0.fSteps), (.slice f0_fHammers_a f0.fHammers.length f0_fHammers_c)]), (.agg #[(.int .i64 v2.fPin), (.int .i64 v2.fHammer)])] (by kernel_rfl) (by kernel_rfl) (fun w hm => impl_Wear_parts.calls w1 f0 v2 w _ w1_fPins_a w1.fPins.length w1_fPins_c (hm.exRow w1_fPins_h List.not_mem_nil) rfl w1_fStrokes_a w1.fStrokes.length w1_fStrokes_c (hm.exRow w1_fStrokes_h List.not_mem_nil) rfl f0_fHammers_a f0.fHammers.length f0_fHammers_c (hm.exRow f0_fHammers_h List.not_mem_nil) rfl ht_10) ?_)
    rintro w v w' hm ⟨o_11, cap_12, sp_13, _, rfl, hs_14, ho_15, rfl, hm'⟩
    refine ⟨_, hm.app hm', jkO ?_⟩
    clear hm hm'
    obtain ⟨t_3, ht_16, h⟩ := bd h
    refine toO (by kernel_rfl) (p_call 0 67 #[(.slice (o_11.map fun b => ⟨b, 0, none⟩) t_2.length cap_12), (.func (.func 69) #[] #[])] (by kernel_rfl) (by kernel_rfl) (fun w hm => slices_ContainsFunc_part_at_impl_part_isWorn.calls t_2 w _ (o_11.map fun b => ⟨b, 0, none⟩) t_2.length cap_12 (hm.ownRow (hh := 4) (o := o_11) (T := 114) (enc := encGpart) (xs := t_2) (sp := sp_13) (by kernel_rfl) (fun e => (ho_15 e).1) encGpart_len) rfl ht_16) ?_)
    rintro w v w' hm ⟨rfl, hm'⟩
    refine ⟨_, hm.app hm', jkO ?_⟩
    clear hm hm'
    refine jo_f [(0, 0)] (by kernel_rfl) ?_
    obtain ⟨t_4, ht_17, h⟩ := bd h
    refine toO (by kernel_rfl) (p_call 0 64 #[(.bool (!t_3)), (.int .i64 4)] (by kernel_rfl) (by kernel_rfl) (fun w hm => impl_unless.calls (!t_3) 4 w _ ht_17) ?_)
    rintro w v w' hm ⟨rfl, hm'⟩
    refine ⟨_, hm.app hm', jkO ?_⟩
    clear hm hm'
    refine jo_f [(0, 0)] (by kernel_rfl) ?_
    refine jo_end (by kernel_rfl) ?_
    refine jx_then ?_
    refine jc_ret ?_
    obtain rfl := Option.some.inj h
    exact jx_ret [] (.int .i64 t_4) [] rfl (by kernel_rfl) (by kernel_rfl) (fun w hm => ⟨rfl, hm.pick [] (by kernel_rfl) (by kernel_rfl)⟩)

/-! ### impl.doActs -/
noncomputable def impl_doActs.k_5 (xs_1 : List GWornPin) (xs_3 : List Int) : Option (GWear × Int × Int) := (impl_Wear_own (⟨xs_1, xs_3⟩ : GWear)).bind fun t_6 => some (t_6, 0, 0)
noncomputable def impl_doActs.k_17 (i_11 : Int) (t_15 : GWear × Int) (i_16 : Int) : Option (((List GWornPin) × (List Int) × Int) ⊕ ((GWear × Int × Int) ⊕ ((List GWornPin) × (List Int)))) := (if (i_16 != 0) = true then some (.inr (.inl ((⟨[], []⟩ : GWear), i_11, i_16))) else some (.inl (t_15.1.fPins, t_15.1.fStrokes, (w64 (i_11 + 1)))))
noncomputable def impl_doActs.l_12 (f0 : GFrame) (v2 : GLives) (list3 : List GAct) : ((List GWornPin) × (List Int) × Int) → Option (((List GWornPin) × (List Int) × Int) ⊕ ((GWear × Int × Int) ⊕ ((List GWornPin) × (List Int))))
  | (xs_7, xs_9, i_11) => (if (decide (i_11 < (list3.length : Int))) = true then (ix list3 i_11).bind fun x_14 => (impl_DoWearAct f0 (⟨xs_7, xs_9⟩ : GWear) x_14).bind fun t_15 => (if (t_15.2 == 0) = true then (impl_lifeCode f0 t_15.1 v2).bind fun t_18 => (if (t_18 != 0) = true then impl_doActs.k_17 i_11 t_15 8 else impl_doActs.k_17 i_11 t_15 t_15.2) else impl_doActs.k_17 i_11 t_15 t_15.2) else some (.inr (.inr (xs_7, xs_9))))
noncomputable def impl_doActs (f0 : GFrame) (w1 : GWear) (v2 : GLives) (list3 : List GAct) : Option (GWear × Int × Int) := (loop (impl_doActs.l_12 f0 v2 list3) (w1.fPins, w1.fStrokes, 0)).bind fun t_13 => match t_13 with | .inl p => some p | .inr p => impl_doActs.k_5 p.1 p.2
set_option maxRecDepth 100000 in
theorem impl_doActs.calls (f0 : GFrame) (w1 : GWear) (v2 : GLives) (list3 : List GAct) (w : World) (r : GWear × Int × Int) (f0_fHammers_a : Option Addr) (f0_fHammers_an : Nat) (f0_fHammers_c : Nat) (f0_fHammers_h : Rw w f0_fHammers_a 2 encGHammer f0.fHammers) (f0_fHammers_hn : f0.fHammers.length = f0_fHammers_an) (w1_fPins_a : Option Addr) (w1_fPins_an : Nat) (w1_fPins_c : Nat) (w1_fPins_h : Rw w w1_fPins_a 3 encGWornPin w1.fPins) (w1_fPins_hn : w1.fPins.length = w1_fPins_an) (w1_fStrokes_a : Option Addr) (w1_fStrokes_an : Nat) (w1_fStrokes_c : Nat) (w1_fStrokes_h : Rw w w1_fStrokes_a 1 encI64 w1.fStrokes) (w1_fStrokes_hn : w1.fStrokes.length = w1_fStrokes_an) (list3_a : Option Addr) (list3_an : Nat) (list3_c : Nat) (list3_h : Rw w list3_a 5 encGAct list3) (list3_hn : list3.length = list3_an) (h : impl_doActs f0 w1 v2 list3 = some r) :
    Calls Tryz.prog 48 #[(.agg #[(.int .i16 f0.fSteps), (.slice f0_fHammers_a f0_fHammers_an f0_fHammers_c)]), (.agg #[(.slice w1_fPins_a w1_fPins_an w1_fPins_c), (.slice w1_fStrokes_a w1_fStrokes_an w1_fStrokes_c)]), (.agg #[(.int .i64 v2.fPin), (.int .i64 v2.fHammer)]), (.slice list3_a list3_an list3_c)] w fun e w' => ∃ v, e = .returned v ∧ (∃ (o0 : Option Nat) (c0 : Nat) (s0 : List Value) (n0 : Nat), r.1.fPins.length = n0 ∧ (o0 ≠ none → n0 ≤ c0 ∧ s0.length = (c0 - n0) * 3) ∧ (o0 = none → r.1.fPins = [] ∧ c0 = 0) ∧ ∃ (o1 : Option Nat) (c1 : Nat) (s1 : List Value) (n1 : Nat), r.1.fStrokes.length = n1 ∧ (o1 ≠ none → n1 ≤ c1 ∧ s1.length = (c1 - n1) * 1) ∧ (o1 = none → r.1.fStrokes = [] ∧ c1 = 0) ∧ v = .tuple #[.agg #[.slice (o0.map fun b => ⟨b, 0, none⟩) n0 c0, .slice (o1.map fun b => ⟨b, 0, none⟩) n1 c1], (.int .i64 r.2.1), (.int .i64 r.2.2)] ∧ Mem w [] [⟨o0, 75, row encGWornPin r.1.fPins s0⟩, ⟨o1, 2, row encI64 r.1.fStrokes s1⟩] w') := by
  subst f0_fHammers_hn w1_fPins_hn w1_fStrokes_hn list3_hn
  rw [impl_doActs] at h
  refine enter (args := [(.agg #[(.int .i16 f0.fSteps), (.slice f0_fHammers_a f0.fHammers.length f0_fHammers_c)]), (.agg #[(.slice w1_fPins_a w1.fPins.length w1_fPins_c), (.slice w1_fStrokes_a w1.fStrokes.length w1_fStrokes_c)]), (.agg #[(.int .i64 v2.fPin), (.int .i64 v2.fHammer)]), (.slice list3_a list3.length list3_c)]) Tryz.func48 rfl Tryz.ntmps48 (by kernel_rfl) (L := []) (W := []) (Mem.start w) ?_
  refine jc_seq ?_
  refine jc_region ?_
  refine toO (by kernel_rfl) (p_a 0 [0] (by kernel_rfl) (fun b => by kernel_rfl) (fun b_1 => jkO ?_))
  refine toO (by kernel_rfl) (p_a 0 [0] (by kernel_rfl) (fun b => by kernel_rfl) (fun b_2 => jkO ?_))
  refine toO (by kernel_rfl) (p_a 0 [0] (by kernel_rfl) (fun b => by kernel_rfl) (fun b_3 => jkO ?_))
  refine toO (by kernel_rfl) (p_a 0 [0] (by kernel_rfl) (fun b => by kernel_rfl) (fun b_4 => jkO ?_))
  refine jo_f [(0, 0), (0, 0)] (by kernel_rfl) ?_
  refine jo_end (by kernel_rfl) ?_
  refine jx_then ?_
  refine jc_seq ?_
  refine jc_seq ?_
  refine jc_region ?_
  refine jo_f [(0, 0), (0, 0), (0, 0)] (by kernel_rfl) ?_
  refine jo_end (by kernel_rfl) ?_
  refine jx_then ?_
  refine jc_meet (fun (j : (List GWornPin) × (List Int) × (Option Nat) × Nat × (List Value) × Nat × (Option Addr) × (Option Nat) × Nat × (List Value) × Nat × (Option Addr)) => match j with | ⟨xs_1, xs_3, o_329, cap_330, sp_331, n_332, a_2, o_335, cap_336, sp_337, n_338, a_4⟩ => impl_doActs.k_5 xs_1 xs_3 = some r ∧ (xs_1.length = n_332) ∧ (EiR w [] o_329 a_2 3 encGWornPin xs_1) ∧ (xs_3.length = n_338) ∧ (EiR w [] o_335 a_4 1 encI64 xs_3)) (fun (j : (List GWornPin) × (List Int) × (Option Nat) × Nat × (List Value) × Nat × (Option Addr) × (Option Nat) × Nat × (List Value) × Nat × (Option Addr)) => match j with | ⟨xs_1, xs_3, o_329, cap_330, sp_331, n_332, a_2, o_335, cap_336, sp_337, n_338, a_4⟩ => [(5, [], (.pointer (some ⟨b_2, 0, none⟩))), (8, [], (.pointer (some ⟨b_4, 0, none⟩))), (9, [], (.int .i64 0)), (10, [], (.int .i64 0))]) (fun (j : (List GWornPin) × (List Int) × (Option Nat) × Nat × (List Value) × Nat × (Option Addr) × (Option Nat) × Nat × (List Value) × Nat × (Option Addr)) => match j with | ⟨xs_1, xs_3, o_329, cap_330, sp_331, n_332, a_2, o_335, cap_336, sp_337, n_338, a_4⟩ => [⟨some b_1, 43, [(.int .i16 f0.fSteps), (.slice f0_fHammers_a f0.fHammers.length f0_fHammers_c)]⟩, ⟨some b_2, 38, [(.slice a_2 n_332 cap_330), (.slice a_4 n_338 cap_336)]⟩, ⟨some b_3, 46, [(.int .i64 v2.fPin), (.int .i64 v2.fHammer)]⟩, ⟨some b_4, 38, [(.slice none 0 0), (.slice none 0 0)]⟩, ⟨o_329, 75, row encGWornPin xs_1 sp_331⟩, ⟨o_335, 2, row encI64 xs_3 sp_337⟩]) ?_ ?_
  · refine jc_block ?_
    obtain ⟨t_13, ht_455, hr_426⟩ := bd h
    refine jc_ghostX 75 encGWornPin w1.fPins ?_
    refine jc_ghostX 2 encI64 w1.fStrokes ?_
    refine jc_loop (fun (s : (List GWornPin) × (List Int) × Int) (x : (Option Nat) × Nat × (List Value) × Nat × (Option Addr) × (Option Nat) × Nat × (List Value) × Nat × (Option Addr)) => match s, x with | ⟨xs_7, xs_9, i_11⟩, ⟨o_414, cap_415, sp_416, n_417, a_8, o_420, cap_421, sp_422, n_423, a_10⟩ => (xs_7.length = n_417) ∧ (EiR w [] o_414 a_8 3 encGWornPin xs_7) ∧ (xs_9.length = n_423) ∧ (EiR w [] o_420 a_10 1 encI64 xs_9)) (fun (s : (List GWornPin) × (List Int) × Int) (x : (Option Nat) × Nat × (List Value) × Nat × (Option Addr) × (Option Nat) × Nat × (List Value) × Nat × (Option Addr)) => match s, x with | ⟨xs_7, xs_9, i_11⟩, ⟨o_414, cap_415, sp_416, n_417, a_8, o_420, cap_421, sp_422, n_423, a_10⟩ => [(4, [], (.pointer (some ⟨b_1, 0, none⟩))), (5, [], (.pointer (some ⟨b_2, 0, none⟩))), (6, [], (.pointer (some ⟨b_3, 0, none⟩))), (8, [], (.pointer (some ⟨b_4, 0, none⟩))), (9, [], (.int .i64 0)), (10, [], (.int .i64 0)), (15, [], (.slice list3_a list3.length list3_c)), (16, [], (.int .i64 (list3.length : Int))), (17, [], (.int .i64 i_11))]) (fun (s : (List GWornPin) × (List Int) × Int) (x : (Option Nat) × Nat × (List Value) × Nat × (Option Addr) × (Option Nat) × Nat × (List Value) × Nat × (Option Addr)) => match s, x with | ⟨xs_7, xs_9, i_11⟩, ⟨o_414, cap_415, sp_416, n_417, a_8, o_420, cap_421, sp_422, n_423, a_10⟩ => [⟨some b_1, 43, [(.int .i16 f0.fSteps), (.slice f0_fHammers_a f0.fHammers.length f0_fHammers_c)]⟩, ⟨some b_2, 38, [(.slice a_8 n_417 cap_415), (.slice a_10 n_423 cap_421)]⟩, ⟨some b_3, 46, [(.int .i64 v2.fPin), (.int .i64 v2.fHammer)]⟩, ⟨some b_4, 38, [(.slice none 0 0), (.slice none 0 0)]⟩, ⟨o_414, 75, row encGWornPin xs_7 sp_416⟩, ⟨o_420, 2, row encI64 xs_9 sp_422⟩]) ht_455 ⟨(none : Option Nat), w1_fPins_c, ([] : List Value), w1.fPins.length, w1_fPins_a, (none : Option Nat), w1_fStrokes_c, ([] : List Value), w1.fStrokes.length, w1_fStrokes_a⟩ ⟨rfl, (.inr ⟨rfl, w1_fPins_h, fun _ => List.not_mem_nil⟩), rfl, (.inr ⟨rfl, w1_fStrokes_h, fun _ => List.not_mem_nil⟩)⟩ (by kernel_rfl) [0, 1, 2, 3, 4, 5] (by kernel_rfl) (by kernel_rfl) ?_
    rintro ⟨xs_7, xs_9, i_11⟩ ⟨o_414, cap_415, sp_416, n_417, a_8, o_420, cap_421, sp_422, n_423, a_10⟩ y_427 ⟨hn_419, he_418, hn_425, he_424⟩ h
    rw [impl_doActs.l_12] at h
    refine jc_seq ?_
    refine jc_region ?_
    refine jo_f [(0, 0)] (by kernel_rfl) ?_
    refine jo_end (by kernel_rfl) ?_
    refine jx_then ?_
    refine jc_seq ?_
    refine jc_cond (decide (i_11 < (list3.length : Int))) (by kernel_rfl) (fun hc_429 => ?_) (fun hc_429 => ?_)
    · replace h := ifT hc_429 h
      refine jc_skip ?_
      refine jx_then ?_
      refine jc_seq ?_
      refine jc_block ?_
      refine jc_seq ?_
      refine jc_region ?_
      refine jo_f [(0, 0)] (by kernel_rfl) ?_
      obtain ⟨x_14, hx_430, h⟩ := bd h
      refine toO (by kernel_rfl) (p_idx 0 list3_a list3.length i_11 5 (by kernel_rfl) (by kernel_rfl) (ix_some hx_430).1 (ltn hx_430 rfl) (list3_h.sp hx_430) (jkO ?_))
      refine toO (by kernel_rfl) (p_ld 0 (aB list3_a) (aO list3_a + i_11.toNat * 5) true (encGAct x_14) (by kernel_rfl) (by kernel_rfl) (by kernel_rfl) (fun w hm => ((hm.exRow list3_h List.not_mem_nil).at hx_430)) (jkO ?_))
      refine toO (by kernel_rfl) (p_a 0 [0] (by kernel_rfl) (fun b => by kernel_rfl) (fun b_431 => jkO ?_))
      refine jo_f [(0, 0)] (by kernel_rfl) ?_
      refine toO (by kernel_rfl) (p_s 0 [6] (by kernel_rfl) (by kernel_rfl) (jkO ?_))
      refine jo_end (by kernel_rfl) ?_
      refine jx_then ?_
      refine jc_seq ?_
      refine jc_region ?_
      refine jo_f [(0, 0), (1, 0), (6, 0)] (by kernel_rfl) ?_
      obtain ⟨t_15, ht_432, h⟩ := bd h
      refine toO (by kernel_rfl) (p_call 0 90 #[(.agg #[(.int .i16 f0.fSteps), (.slice f0_fHammers_a f0.fHammers.length f0_fHammers_c)]), (.agg #[(.slice a_8 n_417 cap_415), (.slice a_10 n_423 cap_421)]), (.agg #[(.int .i8 x_14.fKind), (.int .i64 x_14.fA), (.int .i64 x_14.fB), (.int .i64 x_14.fC), (.int .i64 x_14.fD)])] (by kernel_rfl) (by kernel_rfl) (fun w hm => impl_DoWearAct.calls f0 (⟨xs_7, xs_9⟩ : GWear) x_14 w _ f0_fHammers_a f0.fHammers.length f0_fHammers_c (hm.exRow f0_fHammers_h List.not_mem_nil) rfl a_8 n_417 cap_415 (hm.eiRow (hh := 4) (o := o_414) (T := 75) (enc := encGWornPin) (xs := xs_7) (sp := sp_416) (by kernel_rfl) he_418 encGWornPin_len) hn_419 a_10 n_423 cap_421 (hm.eiRow (hh := 5) (o := o_420) (T := 2) (enc := encI64) (xs := xs_9) (sp := sp_422) (by kernel_rfl) he_424 encI64_len) hn_425 ht_432) ?_)
      rintro w v w' hm ⟨o_433, cap_434, sp_435, _, rfl, hs_436, ho_437, o_438, cap_439, sp_440, _, rfl, hs_441, ho_442, rfl, hm'⟩
      refine ⟨_, hm.app hm', jkO ?_⟩
      clear hm hm'
      refine jo_f [(0, 0), (0, 0), (0, 0)] (by kernel_rfl) ?_
      refine toO (by kernel_rfl) (p_a 0 [0] (by kernel_rfl) (fun b => by kernel_rfl) (fun b_443 => jkO ?_))
      refine toO (by kernel_rfl) (p_s 0 [9] (by kernel_rfl) (by kernel_rfl) (jkO ?_))
      refine jo_f [(0, 0)] (by kernel_rfl) ?_
      refine jo_end (by kernel_rfl) ?_
      refine jx_then ?_
      refine jc_seq ?_
      refine jc_meet (fun (j : Int) => match j with | i_16 => impl_doActs.k_17 i_11 t_15 i_16 = some y_427) (fun (j : Int) => match j with | i_16 => [(4, [], (.pointer (some ⟨b_1, 0, none⟩))), (5, [], (.pointer (some ⟨b_2, 0, none⟩))), (6, [], (.pointer (some ⟨b_3, 0, none⟩))), (8, [], (.pointer (some ⟨b_4, 0, none⟩))), (9, [], (.int .i64 0)), (10, [], (.int .i64 0)), (11, [], (.int .i64 i_11)), (13, [], (.pointer (some ⟨b_443, 0, none⟩))), (14, [], (.int .i64 i_16)), (15, [], (.slice list3_a list3.length list3_c)), (16, [], (.int .i64 (list3.length : Int))), (17, [], (.int .i64 i_11))]) (fun (j : Int) => match j with | i_16 => [⟨some b_1, 43, [(.int .i16 f0.fSteps), (.slice f0_fHammers_a f0.fHammers.length f0_fHammers_c)]⟩, ⟨some b_2, 38, [(.slice a_8 n_417 cap_415), (.slice a_10 n_423 cap_421)]⟩, ⟨some b_3, 46, [(.int .i64 v2.fPin), (.int .i64 v2.fHammer)]⟩, ⟨some b_4, 38, [(.slice none 0 0), (.slice none 0 0)]⟩, ⟨o_414, 75, row encGWornPin xs_7 sp_416⟩, ⟨o_420, 2, row encI64 xs_9 sp_422⟩, ⟨some b_431, 89, [(.int .i8 x_14.fKind), (.int .i64 x_14.fA), (.int .i64 x_14.fB), (.int .i64 x_14.fC), (.int .i64 x_14.fD)]⟩, ⟨o_433, 75, row encGWornPin t_15.1.fPins sp_435⟩, ⟨o_438, 2, row encI64 t_15.1.fStrokes sp_440⟩, ⟨some b_443, 38, [(.slice (o_433.map fun b => ⟨b, 0, none⟩) t_15.1.fPins.length cap_434), (.slice (o_438.map fun b => ⟨b, 0, none⟩) t_15.1.fStrokes.length cap_439)]⟩]) ?_ ?_
      · refine jc_seq ?_
        refine jc_region ?_
        refine jo_f [(0, 0), (0, 0), (0, 0), (0, 1), (9, 1), (2, 1)] (by kernel_rfl) ?_
        refine jo_split 31 (t_15.2 == 0) (by kernel_rfl) (fun hc_450 => ?_) (fun hc_450 => ?_)
        · replace h := ifT hc_450 h
          obtain ⟨t_18, ht_451, h⟩ := bd h
          refine toO (by kernel_rfl) (p_call 2 91 #[(.agg #[(.int .i16 f0.fSteps), (.slice f0_fHammers_a f0.fHammers.length f0_fHammers_c)]), (.agg #[(.slice (o_433.map fun b => ⟨b, 0, none⟩) t_15.1.fPins.length cap_434), (.slice (o_438.map fun b => ⟨b, 0, none⟩) t_15.1.fStrokes.length cap_439)]), (.agg #[(.int .i64 v2.fPin), (.int .i64 v2.fHammer)])] (by kernel_rfl) (by kernel_rfl) (fun w hm => impl_lifeCode.calls f0 t_15.1 v2 w _ f0_fHammers_a f0.fHammers.length f0_fHammers_c (hm.exRow f0_fHammers_h List.not_mem_nil) rfl (o_433.map fun b => ⟨b, 0, none⟩) t_15.1.fPins.length cap_434 (hm.ownRow (hh := 7) (o := o_433) (T := 75) (enc := encGWornPin) (xs := t_15.1.fPins) (sp := sp_435) (by kernel_rfl) (fun e => (ho_437 e).1) encGWornPin_len) rfl (o_438.map fun b => ⟨b, 0, none⟩) t_15.1.fStrokes.length cap_439 (hm.ownRow (hh := 8) (o := o_438) (T := 2) (enc := encI64) (xs := t_15.1.fStrokes) (sp := sp_440) (by kernel_rfl) (fun e => (ho_442 e).1) encI64_len) rfl ht_451) ?_)
          rintro w v w' hm ⟨rfl, hm'⟩
          refine ⟨_, hm.app hm', jkO ?_⟩
          clear hm hm'
          refine jo_f [(0, 2), (0, 4)] (by kernel_rfl) ?_
          refine jo_end (by kernel_rfl) ?_
          refine jx_then ?_
          refine jc_cond (t_18 != 0) (by kernel_rfl) (fun hc_452 => ?_) (fun hc_452 => ?_)
          · replace h := ifT hc_452 h
            refine jc_region ?_
            refine jo_f [(0, 0)] (by kernel_rfl) ?_
            refine jo_end (by kernel_rfl) ?_
            exact jx_meet 8 h (by kernel_rfl) [0, 1, 2, 3, 4, 5, 6, 7, 8, 9] (by kernel_rfl) (by kernel_rfl)
          · replace h := ifF hc_452 h
            refine jc_skip ?_
            exact jx_meet t_15.2 h (by kernel_rfl) [0, 1, 2, 3, 4, 5, 6, 7, 8, 9] (by kernel_rfl) (by kernel_rfl)
        · replace h := ifF hc_450 h
          refine jo_f [(0, 3), (0, 3), (0, 5)] (by kernel_rfl) ?_
          refine jo_end (by kernel_rfl) ?_
          refine jx_then ?_
          refine jc_cond false (by kernel_rfl) (fun hc_453 => nomatch hc_453) (fun hc_453 => ?_)
          refine jc_skip ?_
          exact jx_meet t_15.2 h (by kernel_rfl) [0, 1, 2, 3, 4, 5, 6, 7, 8, 9] (by kernel_rfl) (by kernel_rfl)
      · rintro i_16 h
        replace h : impl_doActs.k_17 i_11 t_15 i_16 = some y_427 := h
        rw [impl_doActs.k_17] at h
        refine jx_then ?_
        refine jc_seq ?_
        refine jc_seq ?_
        refine jc_region ?_
        refine jo_f [(0, 0), (0, 0)] (by kernel_rfl) ?_
        refine jo_end (by kernel_rfl) ?_
        refine jx_then ?_
        refine jc_cond (i_16 != 0) (by kernel_rfl) (fun hc_448 => ?_) (fun hc_448 => ?_)
        · replace h := ifT hc_448 h
          refine jc_seq ?_
          refine jc_region ?_
          refine jo_f [(0, 0), (0, 0), (0, 0)] (by kernel_rfl) ?_
          refine toO (by kernel_rfl) (p_s 0 [3] (by kernel_rfl) (by kernel_rfl) (jkO ?_))
          refine jo_f [(0, 0), (0, 0)] (by kernel_rfl) ?_
          refine jo_end (by kernel_rfl) ?_
          refine jx_then ?_
          refine jc_ret ?_
          refine jx_thenr ?_
          refine jx_inr ?_
          refine jx_thenr ?_
          refine jx_leaver (.inl ((⟨[], []⟩ : GWear), i_11, i_16)) (Option.some.inj h).symm (fun e_449 => ?_)
          subst e_449
          refine jx_inr ?_
          refine jx_thenr ?_
          refine jx_thenr ?_
          obtain rfl := Option.some.inj hr_426
          refine jx_ghost 75 encGWornPin ?_
          refine jx_ghost 2 encI64 ?_
          exact jx_ret [3] (.tuple #[(.agg #[(.slice none 0 0), (.slice none 0 0)]), (.int .i64 i_11), (.int .i64 i_16)]) [(b_4, b_4), (b_4, b_4)] rfl (by kernel_rfl) (by kernel_rfl) (fun w hm => ⟨none, 0, [], 0, rfl, (fun e => absurd rfl e), (fun _ => ⟨rfl, rfl⟩), none, 0, [], 0, rfl, (fun e => absurd rfl e), (fun _ => ⟨rfl, rfl⟩), rfl, hm.pick [10, 11] (by kernel_rfl) (by kernel_rfl)⟩)
        · replace h := ifF hc_448 h
          refine jc_skip ?_
          refine jx_then ?_
          refine jc_region ?_
          refine jo_f [(9, 0)] (by kernel_rfl) ?_
          refine toO (by kernel_rfl) (p_s 0 [1] (by kernel_rfl) (by kernel_rfl) (jkO ?_))
          refine jo_end (by kernel_rfl) ?_
          refine jx_inn ?_
          refine jx_then ?_
          refine jc_region ?_
          refine jo_f [(0, 0), (0, 0)] (by kernel_rfl) ?_
          refine jo_end (by kernel_rfl) ?_
          exact jx_back (t_15.1.fPins, t_15.1.fStrokes, (w64 (i_11 + 1))) ⟨o_433, cap_434, sp_435, t_15.1.fPins.length, (o_433.map fun b => ⟨b, 0, none⟩), o_438, cap_439, sp_440, t_15.1.fStrokes.length, (o_438.map fun b => ⟨b, 0, none⟩)⟩ (Option.some.inj h).symm ⟨rfl, (.inl ⟨rfl, (fun e => (ho_437 e).1)⟩), rfl, (.inl ⟨rfl, (fun e => (ho_442 e).1)⟩)⟩ [0, 1, 2, 3, 7, 8] (by kernel_rfl) (by kernel_rfl) (by kernel_rfl)
    · replace h := ifF hc_429 h
      refine jc_exit ?_
      refine jx_thenx ?_
      refine jx_leave (.inr (xs_7, xs_9)) (Option.some.inj h).symm (fun e_454 => ?_)
      subst e_454
      refine jx_ine ?_
      exact jx_meet ⟨xs_7, xs_9, o_414, cap_415, sp_416, n_417, a_8, o_420, cap_421, sp_422, n_423, a_10⟩ ⟨hr_426, hn_419, he_418, hn_425, he_424⟩ (by kernel_rfl) [0, 1, 2, 3, 4, 5] (by kernel_rfl) (by kernel_rfl)
  · rintro ⟨xs_1, xs_3, o_329, cap_330, sp_331, n_332, a_2, o_335, cap_336, sp_337, n_338, a_4⟩ ⟨h, hn_334, he_333, hn_340, he_339⟩
    replace h : impl_doActs.k_5 xs_1 xs_3 = some r := h
    rw [impl_doActs.k_5] at h
    refine jx_then ?_
    refine jc_seq ?_
    refine jc_region ?_
    refine jo_f [(1, 0)] (by kernel_rfl) ?_
    obtain ⟨t_6, ht_341, h⟩ := bd h
    refine toO (by kernel_rfl) (p_call 0 84 #[(.agg #[(.slice a_2 n_332 cap_330), (.slice a_4 n_338 cap_336)])] (by kernel_rfl) (by kernel_rfl) (fun w hm => impl_Wear_own.calls (⟨xs_1, xs_3⟩ : GWear) w _ a_2 n_332 cap_330 (hm.eiRow (hh := 4) (o := o_329) (T := 75) (enc := encGWornPin) (xs := xs_1) (sp := sp_331) (by kernel_rfl) he_333 encGWornPin_len) hn_334 a_4 n_338 cap_336 (hm.eiRow (hh := 5) (o := o_335) (T := 2) (enc := encI64) (xs := xs_3) (sp := sp_337) (by kernel_rfl) he_339 encI64_len) hn_340 ht_341) ?_)
    rintro w v w' hm ⟨o_342, cap_343, sp_344, _, rfl, hs_345, ho_346, o_347, cap_348, sp_349, _, rfl, hs_350, ho_351, rfl, hm'⟩
    refine ⟨_, hm.app hm', jkO ?_⟩
    clear hm hm'
    refine toO (by kernel_rfl) (p_s 0 [3] (by kernel_rfl) (by kernel_rfl) (jkO ?_))
    refine jo_f [(0, 0), (0, 0)] (by kernel_rfl) ?_
    refine jo_end (by kernel_rfl) ?_
    refine jx_then ?_
    refine jc_ret ?_
    obtain rfl := Option.some.inj h
    exact jx_ret [3] (.tuple #[(.agg #[(.slice (o_342.map fun b => ⟨b, 0, none⟩) t_6.fPins.length cap_343), (.slice (o_347.map fun b => ⟨b, 0, none⟩) t_6.fStrokes.length cap_348)]), (.int .i64 0), (.int .i64 0)]) [(b_4, b_4), (b_4, b_4)] rfl (by kernel_rfl) (by kernel_rfl) (fun w hm => ⟨o_342, cap_343, sp_344, t_6.fPins.length, rfl, hs_345, ho_346, o_347, cap_348, sp_349, t_6.fStrokes.length, rfl, hs_350, ho_351, rfl, hm.pick [6, 7] (by kernel_rfl) (by kernel_rfl)⟩)

/-! ### laws.eqWornPin -/
noncomputable def laws_eqWornPin (a0 : GWornPin) (b1 : GWornPin) : Option (Bool) := (if (a0.fStep != b1.fStep) = true then some false else (if (a0.fTrack != b1.fTrack) = true then some false else (if (a0.fTurns != b1.fTurns) = true then some false else some true)))
set_option maxRecDepth 100000 in
theorem laws_eqWornPin.calls (a0 : GWornPin) (b1 : GWornPin) (w : World) (r : Bool) (h : laws_eqWornPin a0 b1 = some r) :
    Calls Tryz.prog 92 #[(.agg #[(.int .i8 a0.fStep), (.int .i8 a0.fTrack), (.int .i64 a0.fTurns)]), (.agg #[(.int .i8 b1.fStep), (.int .i8 b1.fTrack), (.int .i64 b1.fTurns)])] w fun e w' => ∃ v, e = .returned v ∧ (v = (.bool r) ∧ Mem w [] [] w') := by
  rw [laws_eqWornPin] at h
  refine enter (args := [(.agg #[(.int .i8 a0.fStep), (.int .i8 a0.fTrack), (.int .i64 a0.fTurns)]), (.agg #[(.int .i8 b1.fStep), (.int .i8 b1.fTrack), (.int .i64 b1.fTurns)])]) Tryz.func92 rfl Tryz.ntmps92 (by kernel_rfl) (L := []) (W := []) (Mem.start w) ?_
  refine jc_seq ?_
  refine jc_region ?_
  refine toO (by kernel_rfl) (p_a 0 [0] (by kernel_rfl) (fun b => by kernel_rfl) (fun b_1 => jkO ?_))
  refine toO (by kernel_rfl) (p_a 0 [0] (by kernel_rfl) (fun b => by kernel_rfl) (fun b_2 => jkO ?_))
  refine jo_f [(0, 0)] (by kernel_rfl) ?_
  refine jo_end (by kernel_rfl) ?_
  refine jx_then ?_
  refine jc_seq ?_
  refine jc_seq ?_
  refine jc_region ?_
  refine jo_f [(0, 0), (0, 0), (0, 0), (1, 0), (0, 0)] (by kernel_rfl) ?_
  refine jo_end (by kernel_rfl) ?_
  refine jx_then ?_
  refine jc_cond (a0.fStep != b1.fStep) (by kernel_rfl) (fun hc_4 => ?_) (fun hc_4 => ?_)
  · replace h := ifT hc_4 h
    refine jc_seq ?_
    refine jc_region ?_
    refine jo_f [(0, 0)] (by kernel_rfl) ?_
    refine jo_end (by kernel_rfl) ?_
    refine jx_then ?_
    refine jc_ret ?_
    refine jx_thenr ?_
    obtain rfl := Option.some.inj h
    exact jx_ret [] (.bool false) [] rfl (by kernel_rfl) (by kernel_rfl) (fun w hm => ⟨rfl, hm.pick [] (by kernel_rfl) (by kernel_rfl)⟩)
  · replace h := ifF hc_4 h
    refine jc_skip ?_
    refine jx_then ?_
    refine jc_seq ?_
    refine jc_seq ?_
    refine jc_region ?_
    refine jo_f [(0, 0), (0, 0), (0, 0), (1, 0), (0, 0)] (by kernel_rfl) ?_
    refine jo_end (by kernel_rfl) ?_
    refine jx_then ?_
    refine jc_cond (a0.fTrack != b1.fTrack) (by kernel_rfl) (fun hc_6 => ?_) (fun hc_6 => ?_)
    · replace h := ifT hc_6 h
      refine jc_seq ?_
      refine jc_region ?_
      refine jo_f [(0, 0)] (by kernel_rfl) ?_
      refine jo_end (by kernel_rfl) ?_
      refine jx_then ?_
      refine jc_ret ?_
      refine jx_thenr ?_
      obtain rfl := Option.some.inj h
      exact jx_ret [] (.bool false) [] rfl (by kernel_rfl) (by kernel_rfl) (fun w hm => ⟨rfl, hm.pick [] (by kernel_rfl) (by kernel_rfl)⟩)
    · replace h := ifF hc_6 h
      refine jc_skip ?_
      refine jx_then ?_
      refine jc_seq ?_
      refine jc_seq ?_
      refine jc_region ?_
      refine jo_f [(0, 0), (0, 0), (0, 0), (1, 0), (0, 0)] (by kernel_rfl) ?_
      refine jo_end (by kernel_rfl) ?_
      refine jx_then ?_
      refine jc_cond (a0.fTurns != b1.fTurns) (by kernel_rfl) (fun hc_7 => ?_) (fun hc_7 => ?_)
      · replace h := ifT hc_7 h
        refine jc_seq ?_
        refine jc_region ?_
        refine jo_f [(0, 0)] (by kernel_rfl) ?_
        refine jo_end (by kernel_rfl) ?_
        refine jx_then ?_
        refine jc_ret ?_
        refine jx_thenr ?_
        obtain rfl := Option.some.inj h
        exact jx_ret [] (.bool false) [] rfl (by kernel_rfl) (by kernel_rfl) (fun w hm => ⟨rfl, hm.pick [] (by kernel_rfl) (by kernel_rfl)⟩)
      · replace h := ifF hc_7 h
        refine jc_skip ?_
        refine jx_then ?_
        refine jc_seq ?_
        refine jc_region ?_
        refine jo_f [(0, 0)] (by kernel_rfl) ?_
        refine jo_end (by kernel_rfl) ?_
        refine jx_then ?_
        refine jc_ret ?_
        obtain rfl := Option.some.inj h
        exact jx_ret [] (.bool true) [] rfl (by kernel_rfl) (by kernel_rfl) (fun w hm => ⟨rfl, hm.pick [] (by kernel_rfl) (by kernel_rfl)⟩)

/-! ### laws.eqWornPinS -/
noncomputable def laws_eqWornPinS.k_1 : Option (Bool) := some true
noncomputable def laws_eqWornPinS.l_3 (a0 : List GWornPin) (b1 : List GWornPin) : Int → Option ((Int) ⊕ (Bool ⊕ Unit))
  | i_2 => (if (decide (i_2 < (a0.length : Int))) = true then (ix a0 i_2).bind fun x_5 => (ix b1 i_2).bind fun x_6 => (laws_eqWornPin x_5 x_6).bind fun t_7 => (if (!t_7) = true then some (.inr (.inl false)) else some (.inl (w64 (i_2 + 1)))) else some (.inr (.inr ())))
noncomputable def laws_eqWornPinS (a0 : List GWornPin) (b1 : List GWornPin) : Option (Bool) := (if ((a0.length : Int) != (b1.length : Int)) = true then some false else (loop (laws_eqWornPinS.l_3 a0 b1) 0).bind fun t_4 => match t_4 with | .inl p => some p | .inr p => laws_eqWornPinS.k_1)
set_option maxRecDepth 100000 in
theorem laws_eqWornPinS.calls (a0 : List GWornPin) (b1 : List GWornPin) (w : World) (r : Bool) (a0_a : Option Addr) (a0_an : Nat) (a0_c : Nat) (a0_h : Rw w a0_a 3 encGWornPin a0) (a0_hn : a0.length = a0_an) (b1_a : Option Addr) (b1_an : Nat) (b1_c : Nat) (b1_h : Rw w b1_a 3 encGWornPin b1) (b1_hn : b1.length = b1_an) (h : laws_eqWornPinS a0 b1 = some r) :
    Calls Tryz.prog 49 #[(.slice a0_a a0_an a0_c), (.slice b1_a b1_an b1_c)] w fun e w' => ∃ v, e = .returned v ∧ (v = (.bool r) ∧ Mem w [] [] w') := by
  subst a0_hn b1_hn
  rw [laws_eqWornPinS] at h
  refine enter (args := [(.slice a0_a a0.length a0_c), (.slice b1_a b1.length b1_c)]) Tryz.func49 rfl Tryz.ntmps49 (by kernel_rfl) (L := []) (W := []) (Mem.start w) ?_
  refine jc_seq ?_
  refine jc_region ?_
  refine jo_f [(0, 0)] (by kernel_rfl) ?_
  refine jo_end (by kernel_rfl) ?_
  refine jx_then ?_
  refine jc_seq ?_
  refine jc_seq ?_
  refine jc_region ?_
  refine jo_f [(0, 0), (0, 0), (0, 0), (0, 0), (0, 0)] (by kernel_rfl) ?_
  refine jo_end (by kernel_rfl) ?_
  refine jx_then ?_
  refine jc_cond ((a0.length : Int) != (b1.length : Int)) (by kernel_rfl) (fun hc_2 => ?_) (fun hc_2 => ?_)
  · replace h := ifT hc_2 h
    refine jc_seq ?_
    refine jc_region ?_
    refine jo_f [(0, 0)] (by kernel_rfl) ?_
    refine jo_end (by kernel_rfl) ?_
    refine jx_then ?_
    refine jc_ret ?_
    refine jx_thenr ?_
    obtain rfl := Option.some.inj h
    exact jx_ret [] (.bool false) [] rfl (by kernel_rfl) (by kernel_rfl) (fun w hm => ⟨rfl, hm.pick [] (by kernel_rfl) (by kernel_rfl)⟩)
  · replace h := ifF hc_2 h
    refine jc_skip ?_
    refine jx_then ?_
    refine jc_seq ?_
    refine jc_seq ?_
    refine jc_region ?_
    refine jo_f [(0, 0)] (by kernel_rfl) ?_
    refine jo_end (by kernel_rfl) ?_
    refine jx_then ?_
    refine jc_meet (fun (_ : Unit) => laws_eqWornPinS.k_1 = some r) (fun (_ : Unit) => [(4, [], (.bool false))]) (fun (_ : Unit) => []) ?_ ?_
    · refine jc_block ?_
      obtain ⟨t_4, ht_48, hr_38⟩ := bd h
      refine jc_loop (fun (s : Int) (x : Unit) => match s, x with | i_2, _ => True) (fun (s : Int) (x : Unit) => match s, x with | i_2, _ => [(0, [], (.slice a0_a a0.length a0_c)), (1, [], (.slice b1_a b1.length b1_c)), (4, [], (.bool false)), (5, [], (.int .i64 i_2))]) (fun (s : Int) (x : Unit) => match s, x with | i_2, _ => []) ht_48 () trivial (by kernel_rfl) [] (by kernel_rfl) (by kernel_rfl) ?_
      rintro i_2 _ y_39 _ h
      rw [laws_eqWornPinS.l_3] at h
      refine jc_seq ?_
      refine jc_seq ?_
      refine jc_region ?_
      refine jo_f [(0, 0), (0, 0), (0, 0), (0, 0)] (by kernel_rfl) ?_
      refine jo_end (by kernel_rfl) ?_
      refine jx_then ?_
      refine jc_cond (decide (i_2 < (a0.length : Int))) (by kernel_rfl) (fun hc_41 => ?_) (fun hc_41 => ?_)
      · replace h := ifT hc_41 h
        refine jc_skip ?_
        refine jx_then ?_
        refine jc_seq ?_
        refine jc_block ?_
        refine jc_seq ?_
        refine jc_draw [] 10 (by kernel_rfl) (by kernel_rfl) ?_
        refine jd_f [⟨0, 0, 0⟩, ⟨1, 0, 0⟩, ⟨4, 0, 0⟩, ⟨5, 0, 0⟩] 6 (by kernel_rfl) (by kernel_rfl) (fun w h => h.pick [] (by kernel_rfl) (by kernel_rfl)) (by kernel_rfl) (by kernel_rfl) ?_
        obtain ⟨x_5, hx_42, h⟩ := bd h
        refine jd_v 2 0 (by kernel_rfl) (fun w h => h.pick [] (by kernel_rfl) (by kernel_rfl)) (by kernel_rfl) (by kernel_rfl) _ (fun w hm => idx_run (a := a0_a) (len := a0.length) (s := 3) (j := i_2) (by kernel_rfl) (ix_some hx_42).1 (ltn hx_42 rfl) (a0_h.sp hx_42)) ?_
        refine jd_v 3 0 (by kernel_rfl) (fun w h => h.pick [] (by kernel_rfl) (by kernel_rfl)) (by kernel_rfl) (by kernel_rfl) _ (fun w hm => ld_run (b := aB a0_a) (off := (aO a0_a + i_2.toNat * 3)) (s := 3) (agg := true) (vs := (encGWornPin x_5)) (by kernel_rfl) (by kernel_rfl) (.inl rfl) ((hm.exRow a0_h List.not_mem_nil).at hx_42)) ?_
        obtain ⟨x_6, hx_43, h⟩ := bd h
        refine jd_v 6 0 (by kernel_rfl) (fun w h => h.pick [] (by kernel_rfl) (by kernel_rfl)) (by kernel_rfl) (by kernel_rfl) _ (fun w hm => idx_run (a := b1_a) (len := b1.length) (s := 3) (j := i_2) (by kernel_rfl) (ix_some hx_43).1 (ltn hx_43 rfl) (b1_h.sp hx_43)) ?_
        refine jd_v 7 0 (by kernel_rfl) (fun w h => h.pick [] (by kernel_rfl) (by kernel_rfl)) (by kernel_rfl) (by kernel_rfl) _ (fun w hm => ld_run (b := aB b1_a) (off := (aO b1_a + i_2.toNat * 3)) (s := 3) (agg := true) (vs := (encGWornPin x_6)) (by kernel_rfl) (by kernel_rfl) (.inl rfl) ((hm.exRow b1_h List.not_mem_nil).at hx_43)) ?_
        obtain ⟨t_7, ht_44, h⟩ := bd h
        refine toD 8 (by kernel_rfl) (p_call 0 92 #[(.agg #[(.int .i8 x_5.fStep), (.int .i8 x_5.fTrack), (.int .i64 x_5.fTurns)]), (.agg #[(.int .i8 x_6.fStep), (.int .i8 x_6.fTrack), (.int .i64 x_6.fTurns)])] (by kernel_rfl) (by kernel_rfl) (fun w hm => laws_eqWornPin.calls x_5 x_6 w _ ht_44) ?_)
        rintro w v w' hm ⟨rfl, hm'⟩
        refine ⟨_, hm.app hm', jkD (fun w h => h.pick [] (by kernel_rfl) (by kernel_rfl)) ?_⟩
        clear hm hm'
        refine jd_f [⟨9, 0, 0⟩] 0 (by kernel_rfl) (by kernel_rfl) (fun w h => h.pick [] (by kernel_rfl) (by kernel_rfl)) (by kernel_rfl) (by kernel_rfl) ?_
        refine jd_end (by kernel_rfl) ?_
        refine jx_then ?_
        refine jc_cond (!t_7) (by kernel_rfl) (fun hc_45 => ?_) (fun hc_45 => ?_)
        · replace h := ifT hc_45 h
          refine jc_seq ?_
          refine jc_region ?_
          refine jo_f [(0, 0)] (by kernel_rfl) ?_
          refine jo_end (by kernel_rfl) ?_
          refine jx_then ?_
          refine jc_ret ?_
          refine jx_inr ?_
          refine jx_thenr ?_
          refine jx_leaver (.inl false) (Option.some.inj h).symm (fun e_46 => ?_)
          subst e_46
          refine jx_inr ?_
          refine jx_thenr ?_
          refine jx_thenr ?_
          obtain rfl := Option.some.inj hr_38
          exact jx_ret [] (.bool false) [] rfl (by kernel_rfl) (by kernel_rfl) (fun w hm => ⟨rfl, hm.pick [] (by kernel_rfl) (by kernel_rfl)⟩)
        · replace h := ifF hc_45 h
          refine jc_skip ?_
          refine jx_inn ?_
          refine jx_then ?_
          refine jc_region ?_
          refine jo_f [(0, 0), (0, 0), (0, 0)] (by kernel_rfl) ?_
          refine jo_end (by kernel_rfl) ?_
          exact jx_back (w64 (i_2 + 1)) () (Option.some.inj h).symm trivial [] (by kernel_rfl) (by kernel_rfl) (by kernel_rfl)
      · replace h := ifF hc_41 h
        refine jc_exit ?_
        refine jx_thenx ?_
        refine jx_leave (.inr ()) (Option.some.inj h).symm (fun e_47 => ?_)
        subst e_47
        refine jx_ine ?_
        exact jx_meet () hr_38 (by kernel_rfl) [] (by kernel_rfl) (by kernel_rfl)
    · rintro _ h
      replace h : laws_eqWornPinS.k_1 = some r := h
      rw [laws_eqWornPinS.k_1] at h
      refine jx_then ?_
      refine jc_seq ?_
      refine jc_region ?_
      refine jo_f [(0, 0)] (by kernel_rfl) ?_
      refine jo_end (by kernel_rfl) ?_
      refine jx_then ?_
      refine jc_ret ?_
      obtain rfl := Option.some.inj h
      exact jx_ret [] (.bool true) [] rfl (by kernel_rfl) (by kernel_rfl) (fun w hm => ⟨rfl, hm.pick [] (by kernel_rfl) (by kernel_rfl)⟩)

/-! ### laws.eqInt64S -/
noncomputable def laws_eqInt64S.k_1 : Option (Bool) := some true
noncomputable def laws_eqInt64S.l_3 (a0 : List Int) (b1 : List Int) : Int → Option ((Int) ⊕ (Bool ⊕ Unit))
  | i_2 => (if (decide (i_2 < (a0.length : Int))) = true then (ix a0 i_2).bind fun x_5 => (ix b1 i_2).bind fun x_6 => (if (x_5 != x_6) = true then some (.inr (.inl false)) else some (.inl (w64 (i_2 + 1)))) else some (.inr (.inr ())))
noncomputable def laws_eqInt64S (a0 : List Int) (b1 : List Int) : Option (Bool) := (if ((a0.length : Int) != (b1.length : Int)) = true then some false else (loop (laws_eqInt64S.l_3 a0 b1) 0).bind fun t_4 => match t_4 with | .inl p => some p | .inr p => laws_eqInt64S.k_1)
set_option maxRecDepth 100000 in
theorem laws_eqInt64S.calls (a0 : List Int) (b1 : List Int) (w : World) (r : Bool) (a0_a : Option Addr) (a0_an : Nat) (a0_c : Nat) (a0_h : Rw w a0_a 1 encI64 a0) (a0_hn : a0.length = a0_an) (b1_a : Option Addr) (b1_an : Nat) (b1_c : Nat) (b1_h : Rw w b1_a 1 encI64 b1) (b1_hn : b1.length = b1_an) (h : laws_eqInt64S a0 b1 = some r) :
    Calls Tryz.prog 50 #[(.slice a0_a a0_an a0_c), (.slice b1_a b1_an b1_c)] w fun e w' => ∃ v, e = .returned v ∧ (v = (.bool r) ∧ Mem w [] [] w') := by
  subst a0_hn b1_hn
  rw [laws_eqInt64S] at h
  refine enter (args := [(.slice a0_a a0.length a0_c), (.slice b1_a b1.length b1_c)]) Tryz.func50 rfl Tryz.ntmps50 (by kernel_rfl) (L := []) (W := []) (Mem.start w) ?_
  refine jc_seq ?_
  refine jc_region ?_
  refine jo_f [(0, 0)] (by kernel_rfl) ?_
  refine jo_end (by kernel_rfl) ?_
  refine jx_then ?_
  refine jc_seq ?_
  refine jc_seq ?_
  refine jc_region ?_
  refine jo_f [(0, 0), (0, 0), (0, 0), (0, 0), (0, 0)] (by kernel_rfl) ?_
  refine jo_end (by kernel_rfl) ?_
  refine jx_then ?_
  refine jc_cond ((a0.length : Int) != (b1.length : Int)) (by kernel_rfl) (fun hc_2 => ?_) (fun hc_2 => ?_)
  · replace h := ifT hc_2 h
    refine jc_seq ?_
    refine jc_region ?_
    refine jo_f [(0, 0)] (by kernel_rfl) ?_
    refine jo_end (by kernel_rfl) ?_
    refine jx_then ?_
    refine jc_ret ?_
    refine jx_thenr ?_
    obtain rfl := Option.some.inj h
    exact jx_ret [] (.bool false) [] rfl (by kernel_rfl) (by kernel_rfl) (fun w hm => ⟨rfl, hm.pick [] (by kernel_rfl) (by kernel_rfl)⟩)
  · replace h := ifF hc_2 h
    refine jc_skip ?_
    refine jx_then ?_
    refine jc_seq ?_
    refine jc_seq ?_
    refine jc_region ?_
    refine jo_f [(0, 0)] (by kernel_rfl) ?_
    refine jo_end (by kernel_rfl) ?_
    refine jx_then ?_
    refine jc_meet (fun (_ : Unit) => laws_eqInt64S.k_1 = some r) (fun (_ : Unit) => [(4, [], (.bool false))]) (fun (_ : Unit) => []) ?_ ?_
    · refine jc_block ?_
      obtain ⟨t_4, ht_42, hr_33⟩ := bd h
      refine jc_loop (fun (s : Int) (x : Unit) => match s, x with | i_2, _ => True) (fun (s : Int) (x : Unit) => match s, x with | i_2, _ => [(0, [], (.slice a0_a a0.length a0_c)), (1, [], (.slice b1_a b1.length b1_c)), (4, [], (.bool false)), (5, [], (.int .i64 i_2))]) (fun (s : Int) (x : Unit) => match s, x with | i_2, _ => []) ht_42 () trivial (by kernel_rfl) [] (by kernel_rfl) (by kernel_rfl) ?_
      rintro i_2 _ y_34 _ h
      rw [laws_eqInt64S.l_3] at h
      refine jc_seq ?_
      refine jc_seq ?_
      refine jc_region ?_
      refine jo_f [(0, 0), (0, 0), (0, 0), (0, 0)] (by kernel_rfl) ?_
      refine jo_end (by kernel_rfl) ?_
      refine jx_then ?_
      refine jc_cond (decide (i_2 < (a0.length : Int))) (by kernel_rfl) (fun hc_36 => ?_) (fun hc_36 => ?_)
      · replace h := ifT hc_36 h
        refine jc_skip ?_
        refine jx_then ?_
        refine jc_seq ?_
        refine jc_block ?_
        refine jc_seq ?_
        refine jc_draw [] 9 (by kernel_rfl) (by kernel_rfl) ?_
        refine jd_f [⟨0, 0, 0⟩, ⟨1, 0, 0⟩, ⟨4, 0, 0⟩, ⟨5, 0, 0⟩] 5 (by kernel_rfl) (by kernel_rfl) (fun w h => h.pick [] (by kernel_rfl) (by kernel_rfl)) (by kernel_rfl) (by kernel_rfl) ?_
        obtain ⟨x_5, hx_37, h⟩ := bd h
        refine jd_v 2 0 (by kernel_rfl) (fun w h => h.pick [] (by kernel_rfl) (by kernel_rfl)) (by kernel_rfl) (by kernel_rfl) _ (fun w hm => idx_run (a := a0_a) (len := a0.length) (s := 1) (j := i_2) (by kernel_rfl) (ix_some hx_37).1 (ltn hx_37 rfl) (a0_h.sp hx_37)) ?_
        refine jd_v 3 0 (by kernel_rfl) (fun w h => h.pick [] (by kernel_rfl) (by kernel_rfl)) (by kernel_rfl) (by kernel_rfl) _ (fun w hm => ld_run (b := aB a0_a) (off := (aO a0_a + i_2.toNat * 1)) (s := 1) (agg := false) (vs := (encI64 x_5)) (by kernel_rfl) (by kernel_rfl) (.inr rfl) ((hm.exRow a0_h List.not_mem_nil).at hx_37)) ?_
        obtain ⟨x_6, hx_38, h⟩ := bd h
        refine jd_v 6 0 (by kernel_rfl) (fun w h => h.pick [] (by kernel_rfl) (by kernel_rfl)) (by kernel_rfl) (by kernel_rfl) _ (fun w hm => idx_run (a := b1_a) (len := b1.length) (s := 1) (j := i_2) (by kernel_rfl) (ix_some hx_38).1 (ltn hx_38 rfl) (b1_h.sp hx_38)) ?_
        refine jd_v 7 0 (by kernel_rfl) (fun w h => h.pick [] (by kernel_rfl) (by kernel_rfl)) (by kernel_rfl) (by kernel_rfl) _ (fun w hm => ld_run (b := aB b1_a) (off := (aO b1_a + i_2.toNat * 1)) (s := 1) (agg := false) (vs := (encI64 x_6)) (by kernel_rfl) (by kernel_rfl) (.inr rfl) ((hm.exRow b1_h List.not_mem_nil).at hx_38)) ?_
        refine jd_f [⟨8, 0, 0⟩] 0 (by kernel_rfl) (by kernel_rfl) (fun w h => h.pick [] (by kernel_rfl) (by kernel_rfl)) (by kernel_rfl) (by kernel_rfl) ?_
        refine jd_end (by kernel_rfl) ?_
        refine jx_then ?_
        refine jc_cond (x_5 != x_6) (by kernel_rfl) (fun hc_39 => ?_) (fun hc_39 => ?_)
        · replace h := ifT hc_39 h
          refine jc_seq ?_
          refine jc_region ?_
          refine jo_f [(0, 0)] (by kernel_rfl) ?_
          refine jo_end (by kernel_rfl) ?_
          refine jx_then ?_
          refine jc_ret ?_
          refine jx_inr ?_
          refine jx_thenr ?_
          refine jx_leaver (.inl false) (Option.some.inj h).symm (fun e_40 => ?_)
          subst e_40
          refine jx_inr ?_
          refine jx_thenr ?_
          refine jx_thenr ?_
          obtain rfl := Option.some.inj hr_33
          exact jx_ret [] (.bool false) [] rfl (by kernel_rfl) (by kernel_rfl) (fun w hm => ⟨rfl, hm.pick [] (by kernel_rfl) (by kernel_rfl)⟩)
        · replace h := ifF hc_39 h
          refine jc_skip ?_
          refine jx_inn ?_
          refine jx_then ?_
          refine jc_region ?_
          refine jo_f [(0, 0), (0, 0), (0, 0)] (by kernel_rfl) ?_
          refine jo_end (by kernel_rfl) ?_
          exact jx_back (w64 (i_2 + 1)) () (Option.some.inj h).symm trivial [] (by kernel_rfl) (by kernel_rfl) (by kernel_rfl)
      · replace h := ifF hc_36 h
        refine jc_exit ?_
        refine jx_thenx ?_
        refine jx_leave (.inr ()) (Option.some.inj h).symm (fun e_41 => ?_)
        subst e_41
        refine jx_ine ?_
        exact jx_meet () hr_33 (by kernel_rfl) [] (by kernel_rfl) (by kernel_rfl)
    · rintro _ h
      replace h : laws_eqInt64S.k_1 = some r := h
      rw [laws_eqInt64S.k_1] at h
      refine jx_then ?_
      refine jc_seq ?_
      refine jc_region ?_
      refine jo_f [(0, 0)] (by kernel_rfl) ?_
      refine jo_end (by kernel_rfl) ?_
      refine jx_then ?_
      refine jc_ret ?_
      obtain rfl := Option.some.inj h
      exact jx_ret [] (.bool true) [] rfl (by kernel_rfl) (by kernel_rfl) (fun w hm => ⟨rfl, hm.pick [] (by kernel_rfl) (by kernel_rfl)⟩)

/-! ### laws.eqWear -/
noncomputable def laws_eqWear (a0 : GWear) (b1 : GWear) : Option (Bool) := (laws_eqWornPinS a0.fPins b1.fPins).bind fun t_1 => (if (!t_1) = true then some false else (laws_eqInt64S a0.fStrokes b1.fStrokes).bind fun t_2 => (if (!t_2) = true then some false else some true))
set_option maxRecDepth 100000 in
theorem laws_eqWear.calls (a0 : GWear) (b1 : GWear) (w : World) (r : Bool) (a0_fPins_a : Option Addr) (a0_fPins_an : Nat) (a0_fPins_c : Nat) (a0_fPins_h : Rw w a0_fPins_a 3 encGWornPin a0.fPins) (a0_fPins_hn : a0.fPins.length = a0_fPins_an) (a0_fStrokes_a : Option Addr) (a0_fStrokes_an : Nat) (a0_fStrokes_c : Nat) (a0_fStrokes_h : Rw w a0_fStrokes_a 1 encI64 a0.fStrokes) (a0_fStrokes_hn : a0.fStrokes.length = a0_fStrokes_an) (b1_fPins_a : Option Addr) (b1_fPins_an : Nat) (b1_fPins_c : Nat) (b1_fPins_h : Rw w b1_fPins_a 3 encGWornPin b1.fPins) (b1_fPins_hn : b1.fPins.length = b1_fPins_an) (b1_fStrokes_a : Option Addr) (b1_fStrokes_an : Nat) (b1_fStrokes_c : Nat) (b1_fStrokes_h : Rw w b1_fStrokes_a 1 encI64 b1.fStrokes) (b1_fStrokes_hn : b1.fStrokes.length = b1_fStrokes_an) (h : laws_eqWear a0 b1 = some r) :
    Calls Tryz.prog 15 #[(.agg #[(.slice a0_fPins_a a0_fPins_an a0_fPins_c), (.slice a0_fStrokes_a a0_fStrokes_an a0_fStrokes_c)]), (.agg #[(.slice b1_fPins_a b1_fPins_an b1_fPins_c), (.slice b1_fStrokes_a b1_fStrokes_an b1_fStrokes_c)])] w fun e w' => ∃ v, e = .returned v ∧ (v = (.bool r) ∧ Mem w [] [] w') := by
  subst a0_fPins_hn a0_fStrokes_hn b1_fPins_hn b1_fStrokes_hn
  rw [laws_eqWear] at h
  refine enter (args := [(.agg #[(.slice a0_fPins_a a0.fPins.length a0_fPins_c), (.slice a0_fStrokes_a a0.fStrokes.length a0_fStrokes_c)]), (.agg #[(.slice b1_fPins_a b1.fPins.length b1_fPins_c), (.slice b1_fStrokes_a b1.fStrokes.length b1_fStrokes_c)])]) Tryz.func15 rfl Tryz.ntmps15 (by kernel_rfl) (L := []) (W := []) (Mem.start w) ?_
  refine jc_seq ?_
  refine jc_region ?_
  refine toO (by kernel_rfl) (p_a 0 [0] (by kernel_rfl) (fun b => by kernel_rfl) (fun b_1 => jkO ?_))
  refine toO (by kernel_rfl) (p_a 0 [0] (by kernel_rfl) (fun b => by kernel_rfl) (fun b_2 => jkO ?_))
  refine jo_f [(0, 0)] (by kernel_rfl) ?_
  refine jo_end (by kernel_rfl) ?_
  refine jx_then ?_
  refine jc_seq ?_
  refine jc_seq ?_
  refine jc_region ?_
  refine jo_f [(0, 0), (0, 0), (0, 0), (1, 0)] (by kernel_rfl) ?_
  obtain ⟨t_1, ht_5, h⟩ := bd h
  refine toO (by kernel_rfl) (p_call 0 49 #[(.slice a0_fPins_a a0.fPins.length a0_fPins_c), (.slice b1_fPins_a b1.fPins.length b1_fPins_c)] (by kernel_rfl) (by kernel_rfl) (fun w hm => laws_eqWornPinS.calls a0.fPins b1.fPins w _ a0_fPins_a a0.fPins.length a0_fPins_c (hm.exRow a0_fPins_h List.not_mem_nil) rfl b1_fPins_a b1.fPins.length b1_fPins_c (hm.exRow b1_fPins_h List.not_mem_nil) rfl ht_5) ?_)
  rintro w v w' hm ⟨rfl, hm'⟩
  refine ⟨_, hm.app hm', jkO ?_⟩
  clear hm hm'
  refine jo_f [(0, 0)] (by kernel_rfl) ?_
  refine jo_end (by kernel_rfl) ?_
  refine jx_then ?_
  refine jc_cond (!t_1) (by kernel_rfl) (fun hc_6 => ?_) (fun hc_6 => ?_)
  · replace h := ifT hc_6 h
    refine jc_seq ?_
    refine jc_region ?_
    refine jo_f [(0, 0)] (by kernel_rfl) ?_
    refine jo_end (by kernel_rfl) ?_
    refine jx_then ?_
    refine jc_ret ?_
    refine jx_thenr ?_
    obtain rfl := Option.some.inj h
    exact jx_ret [] (.bool false) [] rfl (by kernel_rfl) (by kernel_rfl) (fun w hm => ⟨rfl, hm.pick [] (by kernel_rfl) (by kernel_rfl)⟩)
  · replace h := ifF hc_6 h
    refine jc_skip ?_
    refine jx_then ?_
    refine jc_seq ?_
    refine jc_seq ?_
    refine jc_region ?_
    refine jo_f [(0, 0), (0, 0), (0, 0), (1, 0)] (by kernel_rfl) ?_
    obtain ⟨t_2, ht_7, h⟩ := bd h
    refine toO (by kernel_rfl) (p_call 0 50 #[(.slice a0_fStrokes_a a0.fStrokes.length a0_fStrokes_c), (.slice b1_fStrokes_a b1.fStrokes.length b1_fStrokes_c)] (by kernel_rfl) (by kernel_rfl) (fun w hm => laws_eqInt64S.calls a0.fStrokes b1.fStrokes w _ a0_fStrokes_a a0.fStrokes.length a0_fStrokes_c (hm.exRow a0_fStrokes_h List.not_mem_nil) rfl b1_fStrokes_a b1.fStrokes.length b1_fStrokes_c (hm.exRow b1_fStrokes_h List.not_mem_nil) rfl ht_7) ?_)
    rintro w v w' hm ⟨rfl, hm'⟩
    refine ⟨_, hm.app hm', jkO ?_⟩
    clear hm hm'
    refine jo_f [(0, 0)] (by kernel_rfl) ?_
    refine jo_end (by kernel_rfl) ?_
    refine jx_then ?_
    refine jc_cond (!t_2) (by kernel_rfl) (fun hc_8 => ?_) (fun hc_8 => ?_)
    · replace h := ifT hc_8 h
      refine jc_seq ?_
      refine jc_region ?_
      refine jo_f [(0, 0)] (by kernel_rfl) ?_
      refine jo_end (by kernel_rfl) ?_
      refine jx_then ?_
      refine jc_ret ?_
      refine jx_thenr ?_
      obtain rfl := Option.some.inj h
      exact jx_ret [] (.bool false) [] rfl (by kernel_rfl) (by kernel_rfl) (fun w hm => ⟨rfl, hm.pick [] (by kernel_rfl) (by kernel_rfl)⟩)
    · replace h := ifF hc_8 h
      refine jc_skip ?_
      refine jx_then ?_
      refine jc_seq ?_
      refine jc_region ?_
      refine jo_f [(0, 0)] (by kernel_rfl) ?_
      refine jo_end (by kernel_rfl) ?_
      refine jx_then ?_
      refine jc_ret ?_
      obtain rfl := Option.some.inj h
      exact jx_ret [] (.bool true) [] rfl (by kernel_rfl) (by kernel_rfl) (fun w hm => ⟨rfl, hm.pick [] (by kernel_rfl) (by kernel_rfl)⟩)

/-! ### laws.eqHammer -/
noncomputable def laws_eqHammer (a0 : GHammer) (b1 : GHammer) : Option (Bool) := (if (a0.fPitch != b1.fPitch) = true then some false else (if (a0.fReady != b1.fReady) = true then some false else some true))
set_option maxRecDepth 100000 in
theorem laws_eqHammer.calls (a0 : GHammer) (b1 : GHammer) (w : World) (r : Bool) (h : laws_eqHammer a0 b1 = some r) :
    Calls Tryz.prog 93 #[(.agg #[(.int .i8 a0.fPitch), (.int .i8 a0.fReady)]), (.agg #[(.int .i8 b1.fPitch), (.int .i8 b1.fReady)])] w fun e w' => ∃ v, e = .returned v ∧ (v = (.bool r) ∧ Mem w [] [] w') := by
  rw [laws_eqHammer] at h
  refine enter (args := [(.agg #[(.int .i8 a0.fPitch), (.int .i8 a0.fReady)]), (.agg #[(.int .i8 b1.fPitch), (.int .i8 b1.fReady)])]) Tryz.func93 rfl Tryz.ntmps93 (by kernel_rfl) (L := []) (W := []) (Mem.start w) ?_
  refine jc_seq ?_
  refine jc_region ?_
  refine toO (by kernel_rfl) (p_a 0 [0] (by kernel_rfl) (fun b => by kernel_rfl) (fun b_1 => jkO ?_))
  refine toO (by kernel_rfl) (p_a 0 [0] (by kernel_rfl) (fun b => by kernel_rfl) (fun b_2 => jkO ?_))
  refine jo_f [(0, 0)] (by kernel_rfl) ?_
  refine jo_end (by kernel_rfl) ?_
  refine jx_then ?_
  refine jc_seq ?_
  refine jc_seq ?_
  refine jc_region ?_
  refine jo_f [(0, 0), (0, 0), (0, 0), (1, 0), (0, 0)] (by kernel_rfl) ?_
  refine jo_end (by kernel_rfl) ?_
  refine jx_then ?_
  refine jc_cond (a0.fPitch != b1.fPitch) (by kernel_rfl) (fun hc_4 => ?_) (fun hc_4 => ?_)
  · replace h := ifT hc_4 h
    refine jc_seq ?_
    refine jc_region ?_
    refine jo_f [(0, 0)] (by kernel_rfl) ?_
    refine jo_end (by kernel_rfl) ?_
    refine jx_then ?_
    refine jc_ret ?_
    refine jx_thenr ?_
    obtain rfl := Option.some.inj h
    exact jx_ret [] (.bool false) [] rfl (by kernel_rfl) (by kernel_rfl) (fun w hm => ⟨rfl, hm.pick [] (by kernel_rfl) (by kernel_rfl)⟩)
  · replace h := ifF hc_4 h
    refine jc_skip ?_
    refine jx_then ?_
    refine jc_seq ?_
    refine jc_seq ?_
    refine jc_region ?_
    refine jo_f [(0, 0), (0, 0), (0, 0), (1, 0), (0, 0)] (by kernel_rfl) ?_
    refine jo_end (by kernel_rfl) ?_
    refine jx_then ?_
    refine jc_cond (a0.fReady != b1.fReady) (by kernel_rfl) (fun hc_5 => ?_) (fun hc_5 => ?_)
    · replace h := ifT hc_5 h
      refine jc_seq ?_
      refine jc_region ?_
      refine jo_f [(0, 0)] (by kernel_rfl) ?_
      refine jo_end (by kernel_rfl) ?_
      refine jx_then ?_
      refine jc_ret ?_
      refine jx_thenr ?_
      obtain rfl := Option.some.inj h
      exact jx_ret [] (.bool false) [] rfl (by kernel_rfl) (by kernel_rfl) (fun w hm => ⟨rfl, hm.pick [] (by kernel_rfl) (by kernel_rfl)⟩)
    · replace h := ifF hc_5 h
      refine jc_skip ?_
      refine jx_then ?_
      refine jc_seq ?_
      refine jc_region ?_
      refine jo_f [(0, 0)] (by kernel_rfl) ?_
      refine jo_end (by kernel_rfl) ?_
      refine jx_then ?_
      refine jc_ret ?_
      obtain rfl := Option.some.inj h
      exact jx_ret [] (.bool true) [] rfl (by kernel_rfl) (by kernel_rfl) (fun w hm => ⟨rfl, hm.pick [] (by kernel_rfl) (by kernel_rfl)⟩)

/-! ### laws.eqHammerS -/
noncomputable def laws_eqHammerS.k_1 : Option (Bool) := some true
noncomputable def laws_eqHammerS.l_3 (a0 : List GHammer) (b1 : List GHammer) : Int → Option ((Int) ⊕ (Bool ⊕ Unit))
  | i_2 => (if (decide (i_2 < (a0.length : Int))) = true then (ix a0 i_2).bind fun x_5 => (ix b1 i_2).bind fun x_6 => (laws_eqHammer x_5 x_6).bind fun t_7 => (if (!t_7) = true then some (.inr (.inl false)) else some (.inl (w64 (i_2 + 1)))) else some (.inr (.inr ())))
noncomputable def laws_eqHammerS (a0 : List GHammer) (b1 : List GHammer) : Option (Bool) := (if ((a0.length : Int) != (b1.length : Int)) = true then some false else (loop (laws_eqHammerS.l_3 a0 b1) 0).bind fun t_4 => match t_4 with | .inl p => some p | .inr p => laws_eqHammerS.k_1)
set_option maxRecDepth 100000 in
theorem laws_eqHammerS.calls (a0 : List GHammer) (b1 : List GHammer) (w : World) (r : Bool) (a0_a : Option Addr) (a0_an : Nat) (a0_c : Nat) (a0_h : Rw w a0_a 2 encGHammer a0) (a0_hn : a0.length = a0_an) (b1_a : Option Addr) (b1_an : Nat) (b1_c : Nat) (b1_h : Rw w b1_a 2 encGHammer b1) (b1_hn : b1.length = b1_an) (h : laws_eqHammerS a0 b1 = some r) :
    Calls Tryz.prog 51 #[(.slice a0_a a0_an a0_c), (.slice b1_a b1_an b1_c)] w fun e w' => ∃ v, e = .returned v ∧ (v = (.bool r) ∧ Mem w [] [] w') := by
  subst a0_hn b1_hn
  rw [laws_eqHammerS] at h
  refine enter (args := [(.slice a0_a a0.length a0_c), (.slice b1_a b1.length b1_c)]) Tryz.func51 rfl Tryz.ntmps51 (by kernel_rfl) (L := []) (W := []) (Mem.start w) ?_
  refine jc_seq ?_
  refine jc_region ?_
  refine jo_f [(0, 0)] (by kernel_rfl) ?_
  refine jo_end (by kernel_rfl) ?_
  refine jx_then ?_
  refine jc_seq ?_
  refine jc_seq ?_
  refine jc_region ?_
  refine jo_f [(0, 0), (0, 0), (0, 0), (0, 0), (0, 0)] (by kernel_rfl) ?_
  refine jo_end (by kernel_rfl) ?_
  refine jx_then ?_
  refine jc_cond ((a0.length : Int) != (b1.length : Int)) (by kernel_rfl) (fun hc_2 => ?_) (fun hc_2 => ?_)
  · replace h := ifT hc_2 h
    refine jc_seq ?_
    refine jc_region ?_
    refine jo_f [(0, 0)] (by kernel_rfl) ?_
    refine jo_end (by kernel_rfl) ?_
    refine jx_then ?_
    refine jc_ret ?_
    refine jx_thenr ?_
    obtain rfl := Option.some.inj h
    exact jx_ret [] (.bool false) [] rfl (by kernel_rfl) (by kernel_rfl) (fun w hm => ⟨rfl, hm.pick [] (by kernel_rfl) (by kernel_rfl)⟩)
  · replace h := ifF hc_2 h
    refine jc_skip ?_
    refine jx_then ?_
    refine jc_seq ?_
    refine jc_seq ?_
    refine jc_region ?_
    refine jo_f [(0, 0)] (by kernel_rfl) ?_
    refine jo_end (by kernel_rfl) ?_
    refine jx_then ?_
    refine jc_meet (fun (_ : Unit) => laws_eqHammerS.k_1 = some r) (fun (_ : Unit) => [(4, [], (.bool false))]) (fun (_ : Unit) => []) ?_ ?_
    · refine jc_block ?_
      obtain ⟨t_4, ht_48, hr_38⟩ := bd h
      refine jc_loop (fun (s : Int) (x : Unit) => match s, x with | i_2, _ => True) (fun (s : Int) (x : Unit) => match s, x with | i_2, _ => [(0, [], (.slice a0_a a0.length a0_c)), (1, [], (.slice b1_a b1.length b1_c)), (4, [], (.bool false)), (5, [], (.int .i64 i_2))]) (fun (s : Int) (x : Unit) => match s, x with | i_2, _ => []) ht_48 () trivial (by kernel_rfl) [] (by kernel_rfl) (by kernel_rfl) ?_
      rintro i_2 _ y_39 _ h
      rw [laws_eqHammerS.l_3] at h
      refine jc_seq ?_
      refine jc_seq ?_
      refine jc_region ?_
      refine jo_f [(0, 0), (0, 0), (0, 0), (0, 0)] (by kernel_rfl) ?_
      refine jo_end (by kernel_rfl) ?_
      refine jx_then ?_
      refine jc_cond (decide (i_2 < (a0.length : Int))) (by kernel_rfl) (fun hc_41 => ?_) (fun hc_41 => ?_)
      · replace h := ifT hc_41 h
        refine jc_skip ?_
        refine jx_then ?_
        refine jc_seq ?_
        refine jc_block ?_
        refine jc_seq ?_
        refine jc_draw [] 10 (by kernel_rfl) (by kernel_rfl) ?_
        refine jd_f [⟨0, 0, 0⟩, ⟨1, 0, 0⟩, ⟨4, 0, 0⟩, ⟨5, 0, 0⟩] 6 (by kernel_rfl) (by kernel_rfl) (fun w h => h.pick [] (by kernel_rfl) (by kernel_rfl)) (by kernel_rfl) (by kernel_rfl) ?_
        obtain ⟨x_5, hx_42, h⟩ := bd h
        refine jd_v 2 0 (by kernel_rfl) (fun w h => h.pick [] (by kernel_rfl) (by kernel_rfl)) (by kernel_rfl) (by kernel_rfl) _ (fun w hm => idx_run (a := a0_a) (len := a0.length) (s := 2) (j := i_2) (by kernel_rfl) (ix_some hx_42).1 (ltn hx_42 rfl) (a0_h.sp hx_42)) ?_
        refine jd_v 3 0 (by kernel_rfl) (fun w h => h.pick [] (by kernel_rfl) (by kernel_rfl)) (by kernel_rfl) (by kernel_rfl) _ (fun w hm => ld_run (b := aB a0_a) (off := (aO a0_a + i_2.toNat * 2)) (s := 2) (agg := true) (vs := (encGHammer x_5)) (by kernel_rfl) (by kernel_rfl) (.inl rfl) ((hm.exRow a0_h List.not_mem_nil).at hx_42)) ?_
        obtain ⟨x_6, hx_43, h⟩ := bd h
        refine jd_v 6 0 (by kernel_rfl) (fun w h => h.pick [] (by kernel_rfl) (by kernel_rfl)) (by kernel_rfl) (by kernel_rfl) _ (fun w hm => idx_run (a := b1_a) (len := b1.length) (s := 2) (j := i_2) (by kernel_rfl) (ix_some hx_43).1 (ltn hx_43 rfl) (b1_h.sp hx_43)) ?_
        refine jd_v 7 0 (by kernel_rfl) (fun w h => h.pick [] (by kernel_rfl) (by kernel_rfl)) (by kernel_rfl) (by kernel_rfl) _ (fun w hm => ld_run (b := aB b1_a) (off := (aO b1_a + i_2.toNat * 2)) (s := 2) (agg := true) (vs := (encGHammer x_6)) (by kernel_rfl) (by kernel_rfl) (.inl rfl) ((hm.exRow b1_h List.not_mem_nil).at hx_43)) ?_
        obtain ⟨t_7, ht_44, h⟩ := bd h
        refine toD 8 (by kernel_rfl) (p_call 0 93 #[(.agg #[(.int .i8 x_5.fPitch), (.int .i8 x_5.fReady)]), (.agg #[(.int .i8 x_6.fPitch), (.int .i8 x_6.fReady)])] (by kernel_rfl) (by kernel_rfl) (fun w hm => laws_eqHammer.calls x_5 x_6 w _ ht_44) ?_)
        rintro w v w' hm ⟨rfl, hm'⟩
        refine ⟨_, hm.app hm', jkD (fun w h => h.pick [] (by kernel_rfl) (by kernel_rfl)) ?_⟩
        clear hm hm'
        refine jd_f [⟨9, 0, 0⟩] 0 (by kernel_rfl) (by kernel_rfl) (fun w h => h.pick [] (by kernel_rfl) (by kernel_rfl)) (by kernel_rfl) (by kernel_rfl) ?_
        refine jd_end (by kernel_rfl) ?_
        refine jx_then ?_
        refine jc_cond (!t_7) (by kernel_rfl) (fun hc_45 => ?_) (fun hc_45 => ?_)
        · replace h := ifT hc_45 h
          refine jc_seq ?_
          refine jc_region ?_
          refine jo_f [(0, 0)] (by kernel_rfl) ?_
          refine jo_end (by kernel_rfl) ?_
          refine jx_then ?_
          refine jc_ret ?_
          refine jx_inr ?_
          refine jx_thenr ?_
          refine jx_leaver (.inl false) (Option.some.inj h).symm (fun e_46 => ?_)
          subst e_46
          refine jx_inr ?_
          refine jx_thenr ?_
          refine jx_thenr ?_
          obtain rfl := Option.some.inj hr_38
          exact jx_ret [] (.bool false) [] rfl (by kernel_rfl) (by kernel_rfl) (fun w hm => ⟨rfl, hm.pick [] (by kernel_rfl) (by kernel_rfl)⟩)
        · replace h := ifF hc_45 h
          refine jc_skip ?_
          refine jx_inn ?_
          refine jx_then ?_
          refine jc_region ?_
          refine jo_f [(0, 0), (0, 0), (0, 0)] (by kernel_rfl) ?_
          refine jo_end (by kernel_rfl) ?_
          exact jx_back (w64 (i_2 + 1)) () (Option.some.inj h).symm trivial [] (by kernel_rfl) (by kernel_rfl) (by kernel_rfl)
      · replace h := ifF hc_41 h
        refine jc_exit ?_
        refine jx_thenx ?_
        refine jx_leave (.inr ()) (Option.some.inj h).symm (fun e_47 => ?_)
        subst e_47
        refine jx_ine ?_
        exact jx_meet () hr_38 (by kernel_rfl) [] (by kernel_rfl) (by kernel_rfl)
    · rintro _ h
      replace h : laws_eqHammerS.k_1 = some r := h
      rw [laws_eqHammerS.k_1] at h
      refine jx_then ?_
      refine jc_seq ?_
      refine jc_region ?_
      refine jo_f [(0, 0)] (by kernel_rfl) ?_
      refine jo_end (by kernel_rfl) ?_
      refine jx_then ?_
      refine jc_ret ?_
      obtain rfl := Option.some.inj h
      exact jx_ret [] (.bool true) [] rfl (by kernel_rfl) (by kernel_rfl) (fun w hm => ⟨rfl, hm.pick [] (by kernel_rfl) (by kernel_rfl)⟩)

/-! ### laws.eqFrame -/
noncomputable def laws_eqFrame (a0 : GFrame) (b1 : GFrame) : Option (Bool) := (if (a0.fSteps != b1.fSteps) = true then some false else (laws_eqHammerS a0.fHammers b1.fHammers).bind fun t_1 => (if (!t_1) = true then some false else some true))
set_option maxRecDepth 100000 in
theorem laws_eqFrame.calls (a0 : GFrame) (b1 : GFrame) (w : World) (r : Bool) (a0_fHammers_a : Option Addr) (a0_fHammers_an : Nat) (a0_fHammers_c : Nat) (a0_fHammers_h : Rw w a0_fHammers_a 2 encGHammer a0.fHammers) (a0_fHammers_hn : a0.fHammers.length = a0_fHammers_an) (b1_fHammers_a : Option Addr) (b1_fHammers_an : Nat) (b1_fHammers_c : Nat) (b1_fHammers_h : Rw w b1_fHammers_a 2 encGHammer b1.fHammers) (b1_fHammers_hn : b1.fHammers.length = b1_fHammers_an) (h : laws_eqFrame a0 b1 = some r) :
    Calls Tryz.prog 16 #[(.agg #[(.int .i16 a0.fSteps), (.slice a0_fHammers_a a0_fHammers_an a0_fHammers_c)]), (.agg #[(.int .i16 b1.fSteps), (.slice b1_fHammers_a b1_fHammers_an b1_fHammers_c)])] w fun e w' => ∃ v, e = .returned v ∧ (v = (.bool r) ∧ Mem w [] [] w') := by
  subst a0_fHammers_hn b1_fHammers_hn
  rw [laws_eqFrame] at h
  refine enter (args := [(.agg #[(.int .i16 a0.fSteps), (.slice a0_fHammers_a a0.fHammers.length a0_fHammers_c)]), (.agg #[(.int .i16 b1.fSteps), (.slice b1_fHammers_a b1.fHammers.length b1_fHammers_c)])]) Tryz.func16 rfl Tryz.ntmps16 (by kernel_rfl) (L := []) (W := []) (Mem.start w) ?_
  refine jc_seq ?_
  refine jc_region ?_
  refine toO (by kernel_rfl) (p_a 0 [0] (by kernel_rfl) (fun b => by kernel_rfl) (fun b_1 => jkO ?_))
  refine toO (by kernel_rfl) (p_a 0 [0] (by kernel_rfl) (fun b => by kernel_rfl) (fun b_2 => jkO ?_))
  refine jo_f [(0, 0)] (by kernel_rfl) ?_
  refine jo_end (by kernel_rfl) ?_
  refine jx_then ?_
  refine jc_seq ?_
  refine jc_seq ?_
  refine jc_region ?_
  refine jo_f [(0, 0), (0, 0), (0, 0), (1, 0), (0, 0)] (by kernel_rfl) ?_
  refine jo_end (by kernel_rfl) ?_
  refine jx_then ?_
  refine jc_cond (a0.fSteps != b1.fSteps) (by kernel_rfl) (fun hc_4 => ?_) (fun hc_4 => ?_)
  · replace h := ifT hc_4 h
    refine jc_seq ?_
    refine jc_region ?_
    refine jo_f [(0, 0)] (by kernel_rfl) ?_
    refine jo_end (by kernel_rfl) ?_
    refine jx_then ?_
    refine jc_ret ?_
    refine jx_thenr ?_
    obtain rfl := Option.some.inj h
    exact jx_ret [] (.bool false) [] rfl (by kernel_rfl) (by kernel_rfl) (fun w hm => ⟨rfl, hm.pick [] (by kernel_rfl) (by kernel_rfl)⟩)
  · replace h := ifF hc_4 h
    refine jc_skip ?_
    refine jx_then ?_
    refine jc_seq ?_
    refine jc_seq ?_
    refine jc_region ?_
    refine jo_f [(0, 0), (0, 0), (0, 0), (1, 0)] (by kernel_rfl) ?_
    obtain ⟨t_1, ht_5, h⟩ := bd h
    refine toO (by kernel_rfl) (p_call 0 51 #[(.slice a0_fHammers_a a0.fHammers.length a0_fHammers_c), (.slice b1_fHammers_a b1.fHammers.length b1_fHammers_c)] (by kernel_rfl) (by kernel_rfl) (fun w hm => laws_eqHammerS.calls a0.fHammers b1.fHammers w _ a0_fHammers_a a0.fHammers.length a0_fHammers_c (hm.exRow a0_fHammers_h List.not_mem_nil) rfl b1_fHammers_a b1.fHammers.length b1_fHammers_c (hm.exRow b1_fHammers_h List.not_mem_nil) rfl ht_5) ?_)
    rintro w v w' hm ⟨rfl, hm'⟩
    refine ⟨_, hm.app hm', jkO ?_⟩
    clear hm hm'
    refine jo_f [(0, 0)] (by kernel_rfl) ?_
    refine jo_end (by kernel_rfl) ?_
    refine jx_then ?_
    refine jc_cond (!t_1) (by kernel_rfl) (fun hc_6 => ?_) (fun hc_6 => ?_)
    · replace h := ifT hc_6 h
      refine jc_seq ?_
      refine jc_region ?_
      refine jo_f [(0, 0)] (by kernel_rfl) ?_
      refine jo_end (by kernel_rfl) ?_
      refine jx_then ?_
      refine jc_ret ?_
      refine jx_thenr ?_
      obtain rfl := Option.some.inj h
      exact jx_ret [] (.bool false) [] rfl (by kernel_rfl) (by kernel_rfl) (fun w hm => ⟨rfl, hm.pick [] (by kernel_rfl) (by kernel_rfl)⟩)
    · replace h := ifF hc_6 h
      refine jc_skip ?_
      refine jx_then ?_
      refine jc_seq ?_
      refine jc_region ?_
      refine jo_f [(0, 0)] (by kernel_rfl) ?_
      refine jo_end (by kernel_rfl) ?_
      refine jx_then ?_
      refine jc_ret ?_
      obtain rfl := Option.some.inj h
      exact jx_ret [] (.bool true) [] rfl (by kernel_rfl) (by kernel_rfl) (fun w hm => ⟨rfl, hm.pick [] (by kernel_rfl) (by kernel_rfl)⟩)
end Go.Proofs.YtfkjghkjimcmdaaGreat
