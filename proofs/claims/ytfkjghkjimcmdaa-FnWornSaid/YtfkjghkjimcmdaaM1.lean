/- Functions of the program that the laws reach: a plain function each, and that the call comes to its answer if the plain function has one. Printed by a program. -/
import Derived.Test.YtfkjghkjimcmdaaT
import Derived.Test.YtfkjghkjimcmdaaM0
namespace Go.Proofs.Ytfkjghkjimcmdaa
open Eng
set_option linter.unusedVariables false

/-! ### impl.wearCode -/
noncomputable def impl_wearCode (f0 : GFrame) (w1 : GWear) (lives2 : List GLives) : Option (Int) := (impl_ValidWear f0 w1).bind fun t_1 => (if t_1 = true then (slices_ContainsFunc_Lives_at_impl_wearCode_1 lives2).bind fun t_2 => (impl_unless (!t_2) 1).bind fun t_3 => some t_3 else (impl_unless false 1).bind fun t_4 => some t_4)
set_option maxRecDepth 100000 in
theorem impl_wearCode.calls (f0 : GFrame) (w1 : GWear) (lives2 : List GLives) (w : World) (r : Int) (f0_fHammers_a : Option Addr) (f0_fHammers_an : Nat) (f0_fHammers_c : Nat) (f0_fHammers_h : Rw w f0_fHammers_a 2 encGHammer f0.fHammers) (f0_fHammers_hn : f0.fHammers.length = f0_fHammers_an) (w1_fPins_a : Option Addr) (w1_fPins_an : Nat) (w1_fPins_c : Nat) (w1_fPins_h : Rw w w1_fPins_a 3 encGWornPin w1.fPins) (w1_fPins_hn : w1.fPins.length = w1_fPins_an) (w1_fStrokes_a : Option Addr) (w1_fStrokes_an : Nat) (w1_fStrokes_c : Nat) (w1_fStrokes_h : Rw w w1_fStrokes_a 1 encI64 w1.fStrokes) (w1_fStrokes_hn : w1.fStrokes.length = w1_fStrokes_an) (lives2_a : Option Addr) (lives2_an : Nat) (lives2_c : Nat) (lives2_h : Rw w lives2_a 2 encGLives lives2) (lives2_hn : lives2.length = lives2_an) (h : impl_wearCode f0 w1 lives2 = some r) :
    Calls Try.prog 28 #[(.agg #[(.int .i16 f0.fSteps), (.slice f0_fHammers_a f0_fHammers_an f0_fHammers_c)]), (.agg #[(.slice w1_fPins_a w1_fPins_an w1_fPins_c), (.slice w1_fStrokes_a w1_fStrokes_an w1_fStrokes_c)]), (.slice lives2_a lives2_an lives2_c)] w fun e w' => ∃ v, e = .returned v ∧ (v = (.int .i64 r) ∧ Mem w [] [] w') := by
  subst f0_fHammers_hn w1_fPins_hn w1_fStrokes_hn lives2_hn
  rw [impl_wearCode] at h
  refine enter (args := [(.agg #[(.int .i16 f0.fSteps), (.slice f0_fHammers_a f0.fHammers.length f0_fHammers_c)]), (.agg #[(.slice w1_fPins_a w1.fPins.length w1_fPins_c), (.slice w1_fStrokes_a w1.fStrokes.length w1_fStrokes_c)]), (.slice lives2_a lives2.length lives2_c)]) Try.func28 rfl Try.ntmps28 (by kernel_rfl) (L := []) (W := []) (Mem.start w) ?_
  refine jc_seq ?_
  refine jc_region ?_
  refine toO (by kernel_rfl) (p_a 0 [0] (by kernel_rfl) (fun b => by kernel_rfl) (fun b_1 => jkO ?_))
  refine toO (by kernel_rfl) (p_a 0 [0] (by kernel_rfl) (fun b => by kernel_rfl) (fun b_2 => jkO ?_))
  refine jo_f [(0, 0)] (by kernel_rfl) ?_
  refine jo_end (by kernel_rfl) ?_
  refine jx_then ?_
  refine jc_seq ?_
  refine jc_region ?_
  refine jo_f [(0, 0), (1, 0)] (by kernel_rfl) ?_
  obtain ⟨t_1, ht_3, h⟩ := bd h
  refine toO (by kernel_rfl) (p_call 0 20 #[(.agg #[(.int .i16 f0.fSteps), (.slice f0_fHammers_a f0.fHammers.length f0_fHammers_c)]), (.agg #[(.slice w1_fPins_a w1.fPins.length w1_fPins_c), (.slice w1_fStrokes_a w1.fStrokes.length w1_fStrokes_c)])] (by kernel_rfl) (by kernel_rfl) (fun w hm => impl_ValidWear.calls f0 w1 w _ f0_fHammers_a f0.fHammers.length f0_fHammers_c (hm.exRow f0_fHammers_h List.not_mem_nil) rfl w1_fPins_a w1.fPins.length w1_fPins_c (hm.exRow w1_fPins_h List.not_mem_nil) rfl w1_fStrokes_a w1.fStrokes.length w1_fStrokes_c (hm.exRow w1_fStrokes_h List.not_mem_nil) rfl ht_3) ?_)
  rintro w v w' hm ⟨rfl, hm'⟩
  refine ⟨_, hm.app hm', jkO ?_⟩
  clear hm hm'
  refine jo_f [(0, 0), (0, 1)] (by kernel_rfl) ?_
  refine jo_split 10 t_1 (by kernel_rfl) (fun hc_4 => ?_) (fun hc_4 => ?_)
  · replace h := ifT hc_4 h
    obtain ⟨t_2, ht_5, h⟩ := bd h
    refine toO (by kernel_rfl) (p_call 2 61 #[(.slice lives2_a lives2.length lives2_c), (.func (.func 62) #[] #[])] (by kernel_rfl) (by kernel_rfl) (fun w hm => slices_ContainsFunc_Lives_at_impl_wearCode_1.calls lives2 w _ lives2_a lives2.length lives2_c (hm.exRow lives2_h List.not_mem_nil) rfl ht_5) ?_)
    rintro w v w' hm ⟨rfl, hm'⟩
    refine ⟨_, hm.app hm', jkO ?_⟩
    clear hm hm'
    refine jo_f [(0, 2), (0, 4)] (by kernel_rfl) ?_
    obtain ⟨t_3, ht_6, h⟩ := bd h
    refine toO (by kernel_rfl) (p_call 0 29 #[(.bool (!t_2)), (.int .i64 1)] (by kernel_rfl) (by kernel_rfl) (fun w hm => impl_unless.calls (!t_2) 1 w _ ht_6) ?_)
    rintro w v w' hm ⟨rfl, hm'⟩
    refine ⟨_, hm.app hm', jkO ?_⟩
    clear hm hm'
    refine jo_f [(0, 0)] (by kernel_rfl) ?_
    refine jo_end (by kernel_rfl) ?_
    refine jx_then ?_
    refine jc_ret ?_
    obtain rfl := Option.some.inj h
    exact jx_ret [] (.int .i64 t_3) [] rfl (by kernel_rfl) (by kernel_rfl) (fun w hm => ⟨rfl, hm.pick [] (by kernel_rfl) (by kernel_rfl)⟩)
  · replace h := ifF hc_4 h
    refine jo_f [(0, 3), (0, 3), (0, 5)] (by kernel_rfl) ?_
    obtain ⟨t_4, ht_7, h⟩ := bd h
    refine toO (by kernel_rfl) (p_call 0 29 #[(.bool false), (.int .i64 1)] (by kernel_rfl) (by kernel_rfl) (fun w hm => impl_unless.calls false 1 w _ ht_7) ?_)
    rintro w v w' hm ⟨rfl, hm'⟩
    refine ⟨_, hm.app hm', jkO ?_⟩
    clear hm hm'
    refine jo_f [(0, 0)] (by kernel_rfl) ?_
    refine jo_end (by kernel_rfl) ?_
    refine jx_then ?_
    refine jc_ret ?_
    obtain rfl := Option.some.inj h
    exact jx_ret [] (.int .i64 t_4) [] rfl (by kernel_rfl) (by kernel_rfl) (fun w hm => ⟨rfl, hm.pick [] (by kernel_rfl) (by kernel_rfl)⟩)

/-! ### impl.firstOf -/
noncomputable def impl_firstOf.k_1 : Option (Int) := some 0
noncomputable def impl_firstOf.l_3 (codes0 : List Int) : Int → Option ((Int) ⊕ (Int ⊕ Unit))
  | i_2 => (if (decide (i_2 < (codes0.length : Int))) = true then (ix codes0 i_2).bind fun x_5 => (if (x_5 != 0) = true then some (.inr (.inl x_5)) else some (.inl (w64 (i_2 + 1)))) else some (.inr (.inr ())))
noncomputable def impl_firstOf (codes0 : List Int) : Option (Int) := (loop (impl_firstOf.l_3 codes0) 0).bind fun t_4 => match t_4 with | .inl p => some p | .inr p => impl_firstOf.k_1
set_option maxRecDepth 100000 in
theorem impl_firstOf.calls (codes0 : List Int) (w : World) (r : Int) (codes0_a : Option Addr) (codes0_an : Nat) (codes0_c : Nat) (codes0_h : Rw w codes0_a 1 encI64 codes0) (codes0_hn : codes0.length = codes0_an) (h : impl_firstOf codes0 = some r) :
    Calls Try.prog 27 #[(.slice codes0_a codes0_an codes0_c)] w fun e w' => ∃ v, e = .returned v ∧ (v = (.int .i64 r) ∧ Mem w [] [] w') := by
  subst codes0_hn
  rw [impl_firstOf] at h
  refine enter (args := [(.slice codes0_a codes0.length codes0_c)]) Try.func27 rfl Try.ntmps27 (by kernel_rfl) (L := []) (W := []) (Mem.start w) ?_
  refine jc_seq ?_
  refine jc_region ?_
  refine jo_f [(0, 0)] (by kernel_rfl) ?_
  refine jo_end (by kernel_rfl) ?_
  refine jx_then ?_
  refine jc_seq ?_
  refine jc_seq ?_
  refine jc_region ?_
  refine jo_f [(0, 0), (0, 0), (0, 0)] (by kernel_rfl) ?_
  refine jo_end (by kernel_rfl) ?_
  refine jx_then ?_
  refine jc_meet (fun (_ : Unit) => impl_firstOf.k_1 = some r) (fun (_ : Unit) => [(2, [], (.int .i64 0))]) (fun (_ : Unit) => []) ?_ ?_
  · refine jc_block ?_
    obtain ⟨t_4, ht_34, hr_26⟩ := bd h
    refine jc_loop (fun (s : Int) (x : Unit) => match s, x with | i_2, _ => True) (fun (s : Int) (x : Unit) => match s, x with | i_2, _ => [(2, [], (.int .i64 0)), (5, [], (.slice codes0_a codes0.length codes0_c)), (6, [], (.int .i64 (codes0.length : Int))), (7, [], (.int .i64 i_2))]) (fun (s : Int) (x : Unit) => match s, x with | i_2, _ => []) ht_34 () trivial (by kernel_rfl) [] (by kernel_rfl) (by kernel_rfl) ?_
    rintro i_2 _ y_27 _ h
    rw [impl_firstOf.l_3] at h
    refine jc_seq ?_
    refine jc_region ?_
    refine jo_f [(0, 0)] (by kernel_rfl) ?_
    refine jo_end (by kernel_rfl) ?_
    refine jx_then ?_
    refine jc_seq ?_
    refine jc_cond (decide (i_2 < (codes0.length : Int))) (by kernel_rfl) (fun hc_29 => ?_) (fun hc_29 => ?_)
    · replace h := ifT hc_29 h
      refine jc_skip ?_
      refine jx_then ?_
      refine jc_seq ?_
      refine jc_block ?_
      refine jc_seq ?_
      refine jc_region ?_
      obtain ⟨x_5, hx_30, h⟩ := bd h
      refine toO (by kernel_rfl) (p_idx 0 codes0_a codes0.length i_2 1 (by kernel_rfl) (by kernel_rfl) (ix_some hx_30).1 (ltn hx_30 rfl) (codes0_h.sp hx_30) (jkO ?_))
      refine toO (by kernel_rfl) (p_ld 0 (aB codes0_a) (aO codes0_a + i_2.toNat * 1) false (encI64 x_5) (by kernel_rfl) (by kernel_rfl) (by kernel_rfl) (fun w hm => ((hm.exRow codes0_h List.not_mem_nil).at hx_30)) (jkO ?_))
      refine jo_f [(0, 0)] (by kernel_rfl) ?_
      refine jo_end (by kernel_rfl) ?_
      refine jx_then ?_
      refine jc_seq ?_
      refine jc_region ?_
      refine jo_f [(0, 0), (0, 0)] (by kernel_rfl) ?_
      refine jo_end (by kernel_rfl) ?_
      refine jx_then ?_
      refine jc_cond (x_5 != 0) (by kernel_rfl) (fun hc_31 => ?_) (fun hc_31 => ?_)
      · replace h := ifT hc_31 h
        refine jc_seq ?_
        refine jc_region ?_
        refine jo_f [(0, 0), (0, 0)] (by kernel_rfl) ?_
        refine jo_end (by kernel_rfl) ?_
        refine jx_then ?_
        refine jc_ret ?_
        refine jx_inr ?_
        refine jx_thenr ?_
        refine jx_leaver (.inl x_5) (Option.some.inj h).symm (fun e_32 => ?_)
        subst e_32
        refine jx_inr ?_
        refine jx_thenr ?_
        refine jx_thenr ?_
        obtain rfl := Option.some.inj hr_26
        exact jx_ret [] (.int .i64 x_5) [] rfl (by kernel_rfl) (by kernel_rfl) (fun w hm => ⟨rfl, hm.pick [] (by kernel_rfl) (by kernel_rfl)⟩)
      · replace h := ifF hc_31 h
        refine jc_skip ?_
        refine jx_inn ?_
        refine jx_then ?_
        refine jc_region ?_
        refine jo_f [(0, 0), (0, 0)] (by kernel_rfl) ?_
        refine jo_end (by kernel_rfl) ?_
        exact jx_back (w64 (i_2 + 1)) () (Option.some.inj h).symm trivial [] (by kernel_rfl) (by kernel_rfl) (by kernel_rfl)
    · replace h := ifF hc_29 h
      refine jc_exit ?_
      refine jx_thenx ?_
      refine jx_leave (.inr ()) (Option.some.inj h).symm (fun e_33 => ?_)
      subst e_33
      refine jx_ine ?_
      exact jx_meet () hr_26 (by kernel_rfl) [] (by kernel_rfl) (by kernel_rfl)
  · rintro _ h
    replace h : impl_firstOf.k_1 = some r := h
    rw [impl_firstOf.k_1] at h
    refine jx_then ?_
    refine jc_seq ?_
    refine jc_region ?_
    refine jo_f [(0, 0)] (by kernel_rfl) ?_
    refine jo_end (by kernel_rfl) ?_
    refine jx_then ?_
    refine jc_ret ?_
    obtain rfl := Option.some.inj h
    exact jx_ret [] (.int .i64 0) [] rfl (by kernel_rfl) (by kernel_rfl) (fun w hm => ⟨rfl, hm.pick [] (by kernel_rfl) (by kernel_rfl)⟩)

/-! ### slices.Clone[[]impl.WornPin,impl.WornPin] -/
noncomputable def slices_Clone_WornPin (s0 : List GWornPin) : Option ((List GWornPin)) := (if ([] : List GWornPin).length + s0.length ≤ 4294967296 then some (([] : List GWornPin) ++ s0) else none)
set_option maxRecDepth 100000 in
theorem slices_Clone_WornPin.calls (s0 : List GWornPin) (w : World) (r : (List GWornPin)) (s0_a : Option Addr) (s0_an : Nat) (s0_c : Nat) (s0_h : Rw w s0_a 3 encGWornPin s0) (s0_hn : s0.length = s0_an) (h : slices_Clone_WornPin s0 = some r) :
    Calls Try.prog 63 #[(.slice s0_a s0_an s0_c)] w fun e w' => ∃ v, e = .returned v ∧ (∃ (o0 : Option Nat) (c0 : Nat) (s0 : List Value) (n0 : Nat), r.length = n0 ∧ (o0 ≠ none → n0 ≤ c0 ∧ s0.length = (c0 - n0) * 3) ∧ (o0 = none → r = [] ∧ c0 = 0) ∧ v = .slice (o0.map fun b => ⟨b, 0, none⟩) n0 c0 ∧ Mem w [] [⟨o0, 58, row encGWornPin r s0⟩] w') := by
  subst s0_hn
  rw [slices_Clone_WornPin] at h
  refine enter (args := [(.slice s0_a s0.length s0_c)]) Try.func63 rfl Try.ntmps63 (by kernel_rfl) (L := []) (W := []) (Mem.start w) ?_
  refine jc_seq ?_
  refine jc_region ?_
  refine jo_f [(0, 0)] (by kernel_rfl) ?_
  refine jo_end (by kernel_rfl) ?_
  refine jx_then ?_
  refine jc_seq ?_
  refine jc_seq ?_
  refine jc_region ?_
  refine jo_f [(0, 0)] (by kernel_rfl) ?_
  by_cases hn_4 : s0_a = none
  · have hx0 : s0 = [] := (nil_of s0_h hn_4)
    replace h : some [] = some r := by simpa [hx0] using h
    refine toO (by kernel_rfl) (p_nil 0 s0_a true true (by kernel_rfl) (by kernel_rfl) (by rw [hn_4]; rfl) (jkO ?_))
    refine jo_end (by kernel_rfl) ?_
    refine jx_then ?_
    refine jc_cond true (by kernel_rfl) (fun hc_5 => ?_) (fun hc_5 => nomatch hc_5)
    refine jc_seq ?_
    refine jc_region ?_
    refine jo_f [(0, 0)] (by kernel_rfl) ?_
    refine jo_end (by kernel_rfl) ?_
    refine jx_then ?_
    refine jc_ret ?_
    refine jx_thenr ?_
    obtain rfl := Option.some.inj h
    refine jx_ghost 58 encGWornPin ?_
    exact jx_ret [] (.slice none 0 0) [] rfl (by kernel_rfl) (by kernel_rfl) (fun w hm => ⟨none, 0, [], 0, rfl, (fun e => absurd rfl e), (fun _ => ⟨rfl, rfl⟩), rfl, hm.pick [0] (by kernel_rfl) (by kernel_rfl)⟩)
  · refine toO (by kernel_rfl) (p_nil 0 s0_a true false (by kernel_rfl) (by kernel_rfl) (by rw [Option.isNone_eq_false_iff.2 (Option.ne_none_iff_isSome.1 hn_4)]; rfl) (jkO ?_))
    refine jo_end (by kernel_rfl) ?_
    refine jx_then ?_
    refine jc_cond false (by kernel_rfl) (fun hc_6 => nomatch hc_6) (fun hc_6 => ?_)
    refine jc_skip ?_
    refine jx_then ?_
    refine jc_seq ?_
    refine jc_region ?_
    refine toO (by kernel_rfl) (p_a 0 [0] (by kernel_rfl) (fun b => by kernel_rfl) (fun b_7 => jkO ?_))
    refine jo_f [(0, 0)] (by kernel_rfl) ?_
    obtain ⟨hg_8, h⟩ := gd h
    refine toO (by kernel_rfl) (p_apn 0 0 (some b_7) 58 0 s0.length 0 3 16 s0_a encGWornPin ([] : List GWornPin) s0 [] (.agg #[(.int .i8 0), (.int .i8 0), (.int .i64 0)]) rfl rfl (by kernel_rfl) (by kernel_rfl) (by kernel_rfl) encGWornPin_len encGWornPin_cell (fun _ => ⟨Nat.le_refl _, by simp⟩) (fun e => nomatch e) (fun w hm => (hm.exRow s0_h List.not_mem_nil)) hg_8 (by kernel_rfl) (by kernel_rfl) (fun o_9 cap_10 sp_11 hs_12 ho_13 => jkO ?_))
    refine jo_f [(0, 0)] (by kernel_rfl) ?_
    refine jo_end (by kernel_rfl) ?_
    refine jx_then ?_
    refine jc_ret ?_
    obtain rfl := Option.some.inj h
    exact jx_ret [] (.slice (o_9.map fun b => ⟨b, 0, none⟩) ((([] : List GWornPin) ++ s0).length) cap_10) [] rfl (by kernel_rfl) (by kernel_rfl) (fun w hm => ⟨o_9, cap_10, sp_11, ((([] : List GWornPin) ++ s0).length), rfl, hs_12, ho_13, rfl, hm.pick [0] (by kernel_rfl) (by kernel_rfl)⟩)

/-! ### slices.Clone[[]int64,int64] -/
noncomputable def slices_Clone_int64 (s0 : List Int) : Option ((List Int)) := (if ([] : List Int).length + s0.length ≤ 4294967296 then some (([] : List Int) ++ s0) else none)
set_option maxRecDepth 100000 in
theorem slices_Clone_int64.calls (s0 : List Int) (w : World) (r : (List Int)) (s0_a : Option Addr) (s0_an : Nat) (s0_c : Nat) (s0_h : Rw w s0_a 1 encI64 s0) (s0_hn : s0.length = s0_an) (h : slices_Clone_int64 s0 = some r) :
    Calls Try.prog 64 #[(.slice s0_a s0_an s0_c)] w fun e w' => ∃ v, e = .returned v ∧ (∃ (o0 : Option Nat) (c0 : Nat) (s0 : List Value) (n0 : Nat), r.length = n0 ∧ (o0 ≠ none → n0 ≤ c0 ∧ s0.length = (c0 - n0) * 1) ∧ (o0 = none → r = [] ∧ c0 = 0) ∧ v = .slice (o0.map fun b => ⟨b, 0, none⟩) n0 c0 ∧ Mem w [] [⟨o0, 2, row encI64 r s0⟩] w') := by
  subst s0_hn
  rw [slices_Clone_int64] at h
  refine enter (args := [(.slice s0_a s0.length s0_c)]) Try.func64 rfl Try.ntmps64 (by kernel_rfl) (L := []) (W := []) (Mem.start w) ?_
  refine jc_seq ?_
  refine jc_region ?_
  refine jo_f [(0, 0)] (by kernel_rfl) ?_
  refine jo_end (by kernel_rfl) ?_
  refine jx_then ?_
  refine jc_seq ?_
  refine jc_seq ?_
  refine jc_region ?_
  refine jo_f [(0, 0)] (by kernel_rfl) ?_
  by_cases hn_4 : s0_a = none
  · have hx0 : s0 = [] := (nil_of s0_h hn_4)
    replace h : some [] = some r := by simpa [hx0] using h
    refine toO (by kernel_rfl) (p_nil 0 s0_a true true (by kernel_rfl) (by kernel_rfl) (by rw [hn_4]; rfl) (jkO ?_))
    refine jo_end (by kernel_rfl) ?_
    refine jx_then ?_
    refine jc_cond true (by kernel_rfl) (fun hc_5 => ?_) (fun hc_5 => nomatch hc_5)
    refine jc_seq ?_
    refine jc_region ?_
    refine jo_f [(0, 0)] (by kernel_rfl) ?_
    refine jo_end (by kernel_rfl) ?_
    refine jx_then ?_
    refine jc_ret ?_
    refine jx_thenr ?_
    obtain rfl := Option.some.inj h
    refine jx_ghost 2 encI64 ?_
    exact jx_ret [] (.slice none 0 0) [] rfl (by kernel_rfl) (by kernel_rfl) (fun w hm => ⟨none, 0, [], 0, rfl, (fun e => absurd rfl e), (fun _ => ⟨rfl, rfl⟩), rfl, hm.pick [0] (by kernel_rfl) (by kernel_rfl)⟩)
  · refine toO (by kernel_rfl) (p_nil 0 s0_a true false (by kernel_rfl) (by kernel_rfl) (by rw [Option.isNone_eq_false_iff.2 (Option.ne_none_iff_isSome.1 hn_4)]; rfl) (jkO ?_))
    refine jo_end (by kernel_rfl) ?_
    refine jx_then ?_
    refine jc_cond false (by kernel_rfl) (fun hc_6 => nomatch hc_6) (fun hc_6 => ?_)
    refine jc_skip ?_
    refine jx_then ?_
    refine jc_seq ?_
    refine jc_region ?_
    refine toO (by kernel_rfl) (p_a 0 [0] (by kernel_rfl) (fun b => by kernel_rfl) (fun b_7 => jkO ?_))
    refine jo_f [(0, 0)] (by kernel_rfl) ?_
    obtain ⟨hg_8, h⟩ := gd h
    refine toO (by kernel_rfl) (p_apn 0 0 (some b_7) 2 0 s0.length 0 1 8 s0_a encI64 ([] : List Int) s0 [] (.int .i64 0) rfl rfl (by kernel_rfl) (by kernel_rfl) (by kernel_rfl) encI64_len encI64_cell (fun _ => ⟨Nat.le_refl _, by simp⟩) (fun e => nomatch e) (fun w hm => (hm.exRow s0_h List.not_mem_nil)) hg_8 (by kernel_rfl) (by kernel_rfl) (fun o_9 cap_10 sp_11 hs_12 ho_13 => jkO ?_))
    refine jo_f [(0, 0)] (by kernel_rfl) ?_
    refine jo_end (by kernel_rfl) ?_
    refine jx_then ?_
    refine jc_ret ?_
    obtain rfl := Option.some.inj h
    exact jx_ret [] (.slice (o_9.map fun b => ⟨b, 0, none⟩) ((([] : List Int) ++ s0).length) cap_10) [] rfl (by kernel_rfl) (by kernel_rfl) (fun w hm => ⟨o_9, cap_10, sp_11, ((([] : List Int) ++ s0).length), rfl, hs_12, ho_13, rfl, hm.pick [0] (by kernel_rfl) (by kernel_rfl)⟩)

/-! ### (impl.Wear).own -/
noncomputable def impl_Wear_own (w0 : GWear) : Option (GWear) := (slices_Clone_WornPin w0.fPins).bind fun t_1 => (slices_Clone_int64 w0.fStrokes).bind fun t_2 => some (⟨t_1, t_2⟩ : GWear)
set_option maxRecDepth 100000 in
theorem impl_Wear_own.calls (w0 : GWear) (w : World) (r : GWear) (w0_fPins_a : Option Addr) (w0_fPins_an : Nat) (w0_fPins_c : Nat) (w0_fPins_h : Rw w w0_fPins_a 3 encGWornPin w0.fPins) (w0_fPins_hn : w0.fPins.length = w0_fPins_an) (w0_fStrokes_a : Option Addr) (w0_fStrokes_an : Nat) (w0_fStrokes_c : Nat) (w0_fStrokes_h : Rw w w0_fStrokes_a 1 encI64 w0.fStrokes) (w0_fStrokes_hn : w0.fStrokes.length = w0_fStrokes_an) (h : impl_Wear_own w0 = some r) :
    Calls Try.prog 31 #[(.agg #[(.slice w0_fPins_a w0_fPins_an w0_fPins_c), (.slice w0_fStrokes_a w0_fStrokes_an w0_fStrokes_c)])] w fun e w' => ∃ v, e = .returned v ∧ (∃ (o0 : Option Nat) (c0 : Nat) (s0 : List Value) (n0 : Nat), r.fPins.length = n0 ∧ (o0 ≠ none → n0 ≤ c0 ∧ s0.length = (c0 - n0) * 3) ∧ (o0 = none → r.fPins = [] ∧ c0 = 0) ∧ ∃ (o1 : Option Nat) (c1 : Nat) (s1 : List Value) (n1 : Nat), r.fStrokes.length = n1 ∧ (o1 ≠ none → n1 ≤ c1 ∧ s1.length = (c1 - n1) * 1) ∧ (o1 = none → r.fStrokes = [] ∧ c1 = 0) ∧ v = .agg #[.slice (o0.map fun b => ⟨b, 0, none⟩) n0 c0, .slice (o1.map fun b => ⟨b, 0, none⟩) n1 c1] ∧ Mem w [] [⟨o0, 58, row encGWornPin r.fPins s0⟩, ⟨o1, 2, row encI64 r.fStrokes s1⟩] w') := by
  subst w0_fPins_hn w0_fStrokes_hn
  rw [impl_Wear_own] at h
  refine enter (args := [(.agg #[(.slice w0_fPins_a w0.fPins.length w0_fPins_c), (.slice w0_fStrokes_a w0.fStrokes.length w0_fStrokes_c)])]) Try.func31 rfl Try.ntmps31 (by kernel_rfl) (L := []) (W := []) (Mem.start w) ?_
  refine jc_seq ?_
  refine jc_region ?_
  refine toO (by kernel_rfl) (p_a 0 [0] (by kernel_rfl) (fun b => by kernel_rfl) (fun b_1 => jkO ?_))
  refine toO (by kernel_rfl) (p_a 0 [0] (by kernel_rfl) (fun b => by kernel_rfl) (fun b_2 => jkO ?_))
  refine jo_end (by kernel_rfl) ?_
  refine jx_then ?_
  refine jc_seq ?_
  refine jc_draw [⟨some b_1, 32, [(.slice w0_fPins_a w0.fPins.length w0_fPins_c), (.slice w0_fStrokes_a w0.fStrokes.length w0_fStrokes_c)]⟩] 8 (by kernel_rfl) (by kernel_rfl) ?_
  refine jd_f [⟨0, 0, 0⟩, ⟨1, 0, 0⟩, ⟨3, 0, 0⟩, ⟨4, 0, 0⟩] 4 (by kernel_rfl) (by kernel_rfl) (fun w h => h.pick [0] (by kernel_rfl) (by kernel_rfl)) (by kernel_rfl) (by kernel_rfl) ?_
  obtain ⟨t_1, ht_15, h⟩ := bd h
  refine toD 2 (by kernel_rfl) (p_call 0 63 #[(.slice w0_fPins_a w0.fPins.length w0_fPins_c)] (by kernel_rfl) (by kernel_rfl) (fun w hm => slices_Clone_WornPin.calls w0.fPins w _ w0_fPins_a w0.fPins.length w0_fPins_c (hm.exRow w0_fPins_h List.not_mem_nil) rfl ht_15) ?_)
  rintro w v w' hm ⟨o_16, cap_17, sp_18, _, rfl, hs_19, ho_20, rfl, hm'⟩
  refine ⟨_, hm.app hm', jkD (fun w h => h.pick [0] (by kernel_rfl) (by kernel_rfl)) ?_⟩
  clear hm hm'
  obtain ⟨t_2, ht_21, h⟩ := bd h
  refine toD 5 (by kernel_rfl) (p_call 0 64 #[(.slice w0_fStrokes_a w0.fStrokes.length w0_fStrokes_c)] (by kernel_rfl) (by kernel_rfl) (fun w hm => slices_Clone_int64.calls w0.fStrokes w _ w0_fStrokes_a w0.fStrokes.length w0_fStrokes_c (hm.exRow w0_fStrokes_h List.not_mem_nil) rfl ht_21) ?_)
  rintro w v w' hm ⟨o_22, cap_23, sp_24, _, rfl, hs_25, ho_26, rfl, hm'⟩
  refine ⟨_, hm.app hm', jkD (fun w h => h.pick [0] (by kernel_rfl) (by kernel_rfl)) ?_⟩
  clear hm hm'
  refine jd_f [⟨6, 0, 0⟩] 1 (by kernel_rfl) (by kernel_rfl) (fun w h => h.pick [0] (by kernel_rfl) (by kernel_rfl)) (by kernel_rfl) (by kernel_rfl) ?_
  refine toD 7 (by kernel_rfl) (p_s 0 [1] (by kernel_rfl) (by kernel_rfl) (jkD (fun w h => h.pick [0] (by kernel_rfl) (by kernel_rfl)) ?_))
  refine jd_end (by kernel_rfl) ?_
  refine jx_then ?_
  refine jc_ret ?_
  obtain rfl := Option.some.inj h
  exact jx_ret [1] (.agg #[(.slice (o_16.map fun b => ⟨b, 0, none⟩) t_1.length cap_17), (.slice (o_22.map fun b => ⟨b, 0, none⟩) t_2.length cap_23)]) [(b_2, b_2), (b_2, b_2)] rfl (by kernel_rfl) (by kernel_rfl) (fun w hm => ⟨o_16, cap_17, sp_18, t_1.length, rfl, hs_19, ho_20, o_22, cap_23, sp_24, t_2.length, rfl, hs_25, ho_26, rfl, hm.pick [2, 3] (by kernel_rfl) (by kernel_rfl)⟩)

/-! ### (*impl.Drum).put -/
noncomputable def impl_Drum_put (d0 : Arr 96 Int) (step1 : Int) (track2 : Int) (on3 : Bool) : Option ((Arr 96 Int)) := (ix d0.1 step1).bind fun x_1 => (if 0 ≤ track2 then (ix d0.1 step1).bind fun x_2 => (if on3 = true then (ix ((Arr.set d0 step1 (bClr .u32 x_1 (bShl .u32 1 track2))).1) step1).bind fun x_3 => (if 0 ≤ track2 then (ix ((Arr.set d0 step1 (bClr .u32 x_1 (bShl .u32 1 track2))).1) step1).bind fun x_4 => some (Arr.set (Arr.set d0 step1 (bClr .u32 x_1 (bShl .u32 1 track2))) step1 (bOr .u32 x_3 (bShl .u32 1 track2))) else none) else some (Arr.set d0 step1 (bClr .u32 x_1 (bShl .u32 1 track2)))) else none)
set_option maxRecDepth 100000 in
theorem impl_Drum_put.calls (d0 : Arr 96 Int) (step1 : Int) (track2 : Int) (on3 : Bool) (w : World) (r : (Arr 96 Int)) (d0_b : Nat) (hm0 : Mem w (bs [some d0_b]) [⟨(some d0_b), 42, row encU32 d0.1 []⟩] w) (h : impl_Drum_put d0 step1 track2 on3 = some r) :
    Calls Try.prog 66 #[(.pointer (some ⟨d0_b, 0, none⟩)), (.int .i64 step1), (.int .i64 track2), (.bool on3)] w fun e w' => ∃ v, e = .returned v ∧ (v = .tuple #[] ∧ Mem w (bs [some d0_b]) [⟨(some d0_b), 42, row encU32 r.1 []⟩] w') := by
  rw [impl_Drum_put] at h
  refine enter (args := [(.pointer (some ⟨d0_b, 0, none⟩)), (.int .i64 step1), (.int .i64 track2), (.bool on3)]) Try.func66 rfl Try.ntmps66 (by kernel_rfl) (L := [⟨(some d0_b), 42, row encU32 d0.1 []⟩]) (W := bs [some d0_b]) hm0 ?_
  refine jc_seq ?_
  refine jc_draw [] 11 (by kernel_rfl) (by kernel_rfl) ?_
  refine jd_f [⟨0, 0, 0⟩, ⟨1, 0, 0⟩, ⟨2, 0, 0⟩, ⟨5, 0, 0⟩, ⟨8, 0, 0⟩] 6 (by kernel_rfl) (by kernel_rfl) (fun w h => h.pick [] (by kernel_rfl) (by kernel_rfl)) (by kernel_rfl) (by kernel_rfl) ?_
  obtain ⟨x_1, hx_4, h⟩ := bd h
  refine jd_v 3 0 (by kernel_rfl) (fun w h => h.pick [] (by kernel_rfl) (by kernel_rfl)) (by kernel_rfl) (by kernel_rfl) _ (fun w hm => idx_run (a := (some ⟨d0_b, 0, none⟩)) (len := 96) (s := 1) (j := step1) (by kernel_rfl) (ix_some hx_4).1 (ltn hx_4 d0.2) rfl) ?_
  refine toD2 4 6 (by kernel_rfl) ?_ ?_
  · refine p_ld 0 (aB (some ⟨d0_b, 0, none⟩)) (aO (some ⟨d0_b, 0, none⟩) + step1.toNat * 1) false (encU32 x_1) (by kernel_rfl) (by kernel_rfl) (by kernel_rfl) (fun w hm => ((hm.ownRow (hh := 0) (o := (some d0_b)) (T := 42) (enc := encU32) (xs := d0.1) (sp := []) (by kernel_rfl) (fun e => nomatch e) encU32_len).at hx_4)) (jkD (fun w h => h.pick [] (by kernel_rfl) (by kernel_rfl)) ?_)
    obtain ⟨hg_5, h⟩ := gd h
    refine toD 6 (by kernel_rfl) (p_shl 0 .u32 1 .i64 track2 (by kernel_rfl) (by kernel_rfl) hg_5 (jkD (fun w h => h.pick [] (by kernel_rfl) (by kernel_rfl)) ?_))
    refine jd_f [⟨7, 0, 0⟩] 2 (by kernel_rfl) (by kernel_rfl) (fun w h => h.pick [] (by kernel_rfl) (by kernel_rfl)) (by kernel_rfl) (by kernel_rfl) ?_
    obtain ⟨x_2, hx_6, h⟩ := bd h
    refine jd_v 9 0 (by kernel_rfl) (fun w h => h.pick [] (by kernel_rfl) (by kernel_rfl)) (by kernel_rfl) (by kernel_rfl) _ (fun w hm => idx_run (a := (some ⟨d0_b, 0, none⟩)) (len := 96) (s := 1) (j := step1) (by kernel_rfl) (ix_some hx_6).1 (ltn hx_6 d0.2) rfl) ?_
    refine toD 10 (by kernel_rfl) (p_str 0 0 d0_b 42 encU32 d0.1 [] step1 (bClr .u32 x_1 (bShl .u32 1 track2)) 1 0 [(.int .u32 (bClr .u32 x_1 (bShl .u32 1 track2)))] (by kernel_rfl) (by kernel_rfl) (by kernel_rfl) encU32_len hx_6 (by kernel_rfl) (by kernel_rfl) (jkD (fun w h => h.pick [] (by kernel_rfl) (by kernel_rfl)) ?_))
    refine jd_end (by kernel_rfl) ?_
    refine jx_then ?_
    refine jc_seq ?_
    refine jc_region ?_
    refine jo_f [(0, 0)] (by kernel_rfl) ?_
    refine jo_end (by kernel_rfl) ?_
    refine jx_then ?_
    refine jc_cond on3 (by kernel_rfl) (fun hc_7 => ?_) (fun hc_7 => ?_)
    · replace h := ifT hc_7 h
      refine jc_draw [] 11 (by kernel_rfl) (by kernel_rfl) ?_
      refine jd_f [⟨0, 0, 0⟩, ⟨1, 0, 0⟩, ⟨2, 0, 0⟩, ⟨5, 0, 0⟩, ⟨8, 0, 0⟩] 6 (by kernel_rfl) (by kernel_rfl) (fun w h => h.pick [] (by kernel_rfl) (by kernel_rfl)) (by kernel_rfl) (by kernel_rfl) ?_
      obtain ⟨x_3, hx_11, h⟩ := bd h
      refine jd_v 3 0 (by kernel_rfl) (fun w h => h.pick [] (by kernel_rfl) (by kernel_rfl)) (by kernel_rfl) (by kernel_rfl) _ (fun w hm => idx_run (a := (some ⟨d0_b, 0, none⟩)) (len := 96) (s := 1) (j := step1) (by kernel_rfl) (ix_some hx_11).1 (ltn hx_11 (Arr.set d0 step1 (bClr .u32 x_1 (bShl .u32 1 track2))).2) rfl) ?_
      refine toD2 4 6 (by kernel_rfl) ?_ ?_
      · refine p_ld 0 (aB (some ⟨d0_b, 0, none⟩)) (aO (some ⟨d0_b, 0, none⟩) + step1.toNat * 1) false (encU32 x_3) (by kernel_rfl) (by kernel_rfl) (by kernel_rfl) (fun w hm => ((hm.ownRow (hh := 0) (o := (some d0_b)) (T := 42) (enc := encU32) (xs := ((Arr.set d0 step1 (bClr .u32 x_1 (bShl .u32 1 track2))).1)) (sp := []) (by kernel_rfl) (fun e => nomatch e) encU32_len).at hx_11)) (jkD (fun w h => h.pick [] (by kernel_rfl) (by kernel_rfl)) ?_)
        obtain ⟨hg_12, h⟩ := gd h
        refine toD 6 (by kernel_rfl) (p_shl 0 .u32 1 .i64 track2 (by kernel_rfl) (by kernel_rfl) hg_12 (jkD (fun w h => h.pick [] (by kernel_rfl) (by kernel_rfl)) ?_))
        refine jd_f [⟨7, 0, 0⟩] 2 (by kernel_rfl) (by kernel_rfl) (fun w h => h.pick [] (by kernel_rfl) (by kernel_rfl)) (by kernel_rfl) (by kernel_rfl) ?_
        obtain ⟨x_4, hx_13, h⟩ := bd h
        refine jd_v 9 0 (by kernel_rfl) (fun w h => h.pick [] (by kernel_rfl) (by kernel_rfl)) (by kernel_rfl) (by kernel_rfl) _ (fun w hm => idx_run (a := (some ⟨d0_b, 0, none⟩)) (len := 96) (s := 1) (j := step1) (by kernel_rfl) (ix_some hx_13).1 (ltn hx_13 (Arr.set d0 step1 (bClr .u32 x_1 (bShl .u32 1 track2))).2) rfl) ?_
        refine toD 10 (by kernel_rfl) (p_str 0 0 d0_b 42 encU32 ((Arr.set d0 step1 (bClr .u32 x_1 (bShl .u32 1 track2))).1) [] step1 (bOr .u32 x_3 (bShl .u32 1 track2)) 1 0 [(.int .u32 (bOr .u32 x_3 (bShl .u32 1 track2)))] (by kernel_rfl) (by kernel_rfl) (by kernel_rfl) encU32_len hx_13 (by kernel_rfl) (by kernel_rfl) (jkD (fun w h => h.pick [] (by kernel_rfl) (by kernel_rfl)) ?_))
        refine jd_end (by kernel_rfl) ?_
        refine jx_fall ?_
        obtain rfl := Option.some.inj h
        exact jx_ret [] (.tuple #[]) [] rfl (by kernel_rfl) (by kernel_rfl) (fun w hm => ⟨rfl, hm.pick [0] (by kernel_rfl) (by kernel_rfl)⟩)
      · obtain ⟨hg_14, h⟩ := gd h
        refine p_shl 0 .u32 1 .i64 track2 (by kernel_rfl) (by kernel_rfl) hg_14 (jkD (fun w h => h.pick [] (by kernel_rfl) (by kernel_rfl)) ?_)
        refine toD 4 (by kernel_rfl) (p_ld 0 (aB (some ⟨d0_b, 0, none⟩)) (aO (some ⟨d0_b, 0, none⟩) + step1.toNat * 1) false (encU32 x_3) (by kernel_rfl) (by kernel_rfl) (by kernel_rfl) (fun w hm => ((hm.ownRow (hh := 0) (o := (some d0_b)) (T := 42) (enc := encU32) (xs := ((Arr.set d0 step1 (bClr .u32 x_1 (bShl .u32 1 track2))).1)) (sp := []) (by kernel_rfl) (fun e => nomatch e) encU32_len).at hx_11)) (jkD (fun w h => h.pick [] (by kernel_rfl) (by kernel_rfl)) ?_))
        refine jd_f [⟨7, 0, 0⟩] 2 (by kernel_rfl) (by kernel_rfl) (fun w h => h.pick [] (by kernel_rfl) (by kernel_rfl)) (by kernel_rfl) (by kernel_rfl) ?_
        obtain ⟨x_4, hx_15, h⟩ := bd h
        refine jd_v 9 0 (by kernel_rfl) (fun w h => h.pick [] (by kernel_rfl) (by kernel_rfl)) (by kernel_rfl) (by kernel_rfl) _ (fun w hm => idx_run (a := (some ⟨d0_b, 0, none⟩)) (len := 96) (s := 1) (j := step1) (by kernel_rfl) (ix_some hx_15).1 (ltn hx_15 (Arr.set d0 step1 (bClr .u32 x_1 (bShl .u32 1 track2))).2) rfl) ?_
        refine toD 10 (by kernel_rfl) (p_str 0 0 d0_b 42 encU32 ((Arr.set d0 step1 (bClr .u32 x_1 (bShl .u32 1 track2))).1) [] step1 (bOr .u32 x_3 (bShl .u32 1 track2)) 1 0 [(.int .u32 (bOr .u32 x_3 (bShl .u32 1 track2)))] (by kernel_rfl) (by kernel_rfl) (by kernel_rfl) encU32_len hx_15 (by kernel_rfl) (by kernel_rfl) (jkD (fun w h => h.pick [] (by kernel_rfl) (by kernel_rfl)) ?_))
        refine jd_end (by kernel_rfl) ?_
        refine jx_fall ?_
        obtain rfl := Option.some.inj h
        exact jx_ret [] (.tuple #[]) [] rfl (by kernel_rfl) (by kernel_rfl) (fun w hm => ⟨rfl, hm.pick [0] (by kernel_rfl) (by kernel_rfl)⟩)
    · replace h := ifF hc_7 h
      refine jc_skip ?_
      refine jx_fall ?_
      obtain rfl := Option.some.inj h
      exact jx_ret [] (.tuple #[]) [] rfl (by kernel_rfl) (by kernel_rfl) (fun w hm => ⟨rfl, hm.pick [0] (by kernel_rfl) (by kernel_rfl)⟩)
  · obtain ⟨hg_16, h⟩ := gd h
    refine p_shl 0 .u32 1 .i64 track2 (by kernel_rfl) (by kernel_rfl) hg_16 (jkD (fun w h => h.pick [] (by kernel_rfl) (by kernel_rfl)) ?_)
    refine toD 4 (by kernel_rfl) (p_ld 0 (aB (some ⟨d0_b, 0, none⟩)) (aO (some ⟨d0_b, 0, none⟩) + step1.toNat * 1) false (encU32 x_1) (by kernel_rfl) (by kernel_rfl) (by kernel_rfl) (fun w hm => ((hm.ownRow (hh := 0) (o := (some d0_b)) (T := 42) (enc := encU32) (xs := d0.1) (sp := []) (by kernel_rfl) (fun e => nomatch e) encU32_len).at hx_4)) (jkD (fun w h => h.pick [] (by kernel_rfl) (by kernel_rfl)) ?_))
    refine jd_f [⟨7, 0, 0⟩] 2 (by kernel_rfl) (by kernel_rfl) (fun w h => h.pick [] (by kernel_rfl) (by kernel_rfl)) (by kernel_rfl) (by kernel_rfl) ?_
    obtain ⟨x_2, hx_17, h⟩ := bd h
    refine jd_v 9 0 (by kernel_rfl) (fun w h => h.pick [] (by kernel_rfl) (by kernel_rfl)) (by kernel_rfl) (by kernel_rfl) _ (fun w hm => idx_run (a := (some ⟨d0_b, 0, none⟩)) (len := 96) (s := 1) (j := step1) (by kernel_rfl) (ix_some hx_17).1 (ltn hx_17 d0.2) rfl) ?_
    refine toD 10 (by kernel_rfl) (p_str 0 0 d0_b 42 encU32 d0.1 [] step1 (bClr .u32 x_1 (bShl .u32 1 track2)) 1 0 [(.int .u32 (bClr .u32 x_1 (bShl .u32 1 track2)))] (by kernel_rfl) (by kernel_rfl) (by kernel_rfl) encU32_len hx_17 (by kernel_rfl) (by kernel_rfl) (jkD (fun w h => h.pick [] (by kernel_rfl) (by kernel_rfl)) ?_))
    refine jd_end (by kernel_rfl) ?_
    refine jx_then ?_
    refine jc_seq ?_
    refine jc_region ?_
    refine jo_f [(0, 0)] (by kernel_rfl) ?_
    refine jo_end (by kernel_rfl) ?_
    refine jx_then ?_
    refine jc_cond on3 (by kernel_rfl) (fun hc_18 => ?_) (fun hc_18 => ?_)
    · replace h := ifT hc_18 h
      refine jc_draw [] 11 (by kernel_rfl) (by kernel_rfl) ?_
      refine jd_f [⟨0, 0, 0⟩, ⟨1, 0, 0⟩, ⟨2, 0, 0⟩, ⟨5, 0, 0⟩, ⟨8, 0, 0⟩] 6 (by kernel_rfl) (by kernel_rfl) (fun w h => h.pick [] (by kernel_rfl) (by kernel_rfl)) (by kernel_rfl) (by kernel_rfl) ?_
      obtain ⟨x_3, hx_22, h⟩ := bd h
      refine jd_v 3 0 (by kernel_rfl) (fun w h => h.pick [] (by kernel_rfl) (by kernel_rfl)) (by kernel_rfl) (by kernel_rfl) _ (fun w hm => idx_run (a := (some ⟨d0_b, 0, none⟩)) (len := 96) (s := 1) (j := step1) (by kernel_rfl) (ix_some hx_22).1 (ltn hx_22 (Arr.set d0 step1 (bClr .u32 x_1 (bShl .u32 1 track2))).2) rfl) ?_
      refine toD2 4 6 (by kernel_rfl) ?_ ?_
      · refine p_ld 0 (aB (some ⟨d0_b, 0, none⟩)) (aO (some ⟨d0_b, 0, none⟩) + step1.toNat * 1) false (encU32 x_3) (by kernel_rfl) (by kernel_rfl) (by kernel_rfl) (fun w hm => ((hm.ownRow (hh := 0) (o := (some d0_b)) (T := 42) (enc := encU32) (xs := ((Arr.set d0 step1 (bClr .u32 x_1 (bShl .u32 1 track2))).1)) (sp := []) (by kernel_rfl) (fun e => nomatch e) encU32_len).at hx_22)) (jkD (fun w h => h.pick [] (by kernel_rfl) (by kernel_rfl)) ?_)
        obtain ⟨hg_23, h⟩ := gd h
        refine toD 6 (by kernel_rfl) (p_shl 0 .u32 1 .i64 track2 (by kernel_rfl) (by kernel_rfl) hg_23 (jkD (fun w h => h.pick [] (by kernel_rfl) (by kernel_rfl)) ?_))
        refine jd_f [⟨7, 0, 0⟩] 2 (by kernel_rfl) (by kernel_rfl) (fun w h => h.pick [] (by kernel_rfl) (by kernel_rfl)) (by kernel_rfl) (by kernel_rfl) ?_
        obtain ⟨x_4, hx_24, h⟩ := bd h
        refine jd_v 9 0 (by kernel_rfl) (fun w h => h.pick [] (by kernel_rfl) (by kernel_rfl)) (by kernel_rfl) (by kernel_rfl) _ (fun w hm => idx_run (a := (some ⟨d0_b, 0, none⟩)) (len := 96) (s := 1) (j := step1) (by kernel_rfl) (ix_some hx_24).1 (ltn hx_24 (Arr.set d0 step1 (bClr .u32 x_1 (bShl .u32 1 track2))).2) rfl) ?_
        refine toD 10 (by kernel_rfl) (p_str 0 0 d0_b 42 encU32 ((Arr.set d0 step1 (bClr .u32 x_1 (bShl .u32 1 track2))).1) [] step1 (bOr .u32 x_3 (bShl .u32 1 track2)) 1 0 [(.int .u32 (bOr .u32 x_3 (bShl .u32 1 track2)))] (by kernel_rfl) (by kernel_rfl) (by kernel_rfl) encU32_len hx_24 (by kernel_rfl) (by kernel_rfl) (jkD (fun w h => h.pick [] (by kernel_rfl) (by kernel_rfl)) ?_))
        refine jd_end (by kernel_rfl) ?_
        refine jx_fall ?_
        obtain rfl := Option.some.inj h
        exact jx_ret [] (.tuple #[]) [] rfl (by kernel_rfl) (by kernel_rfl) (fun w hm => ⟨rfl, hm.pick [0] (by kernel_rfl) (by kernel_rfl)⟩)
      · obtain ⟨hg_25, h⟩ := gd h
        refine p_shl 0 .u32 1 .i64 track2 (by kernel_rfl) (by kernel_rfl) hg_25 (jkD (fun w h => h.pick [] (by kernel_rfl) (by kernel_rfl)) ?_)
        refine toD 4 (by kernel_rfl) (p_ld 0 (aB (some ⟨d0_b, 0, none⟩)) (aO (some ⟨d0_b, 0, none⟩) + step1.toNat * 1) false (encU32 x_3) (by kernel_rfl) (by kernel_rfl) (by kernel_rfl) (fun w hm => ((hm.ownRow (hh := 0) (o := (some d0_b)) (T := 42) (enc := encU32) (xs := ((Arr.set d0 step1 (bClr .u32 x_1 (bShl .u32 1 track2))).1)) (sp := []) (by kernel_rfl) (fun e => nomatch e) encU32_len).at hx_22)) (jkD (fun w h => h.pick [] (by kernel_rfl) (by kernel_rfl)) ?_))
        refine jd_f [⟨7, 0, 0⟩] 2 (by kernel_rfl) (by kernel_rfl) (fun w h => h.pick [] (by kernel_rfl) (by kernel_rfl)) (by kernel_rfl) (by kernel_rfl) ?_
        obtain ⟨x_4, hx_26, h⟩ := bd h
        refine jd_v 9 0 (by kernel_rfl) (fun w h => h.pick [] (by kernel_rfl) (by kernel_rfl)) (by kernel_rfl) (by kernel_rfl) _ (fun w hm => idx_run (a := (some ⟨d0_b, 0, none⟩)) (len := 96) (s := 1) (j := step1) (by kernel_rfl) (ix_some hx_26).1 (ltn hx_26 (Arr.set d0 step1 (bClr .u32 x_1 (bShl .u32 1 track2))).2) rfl) ?_
        refine toD 10 (by kernel_rfl) (p_str 0 0 d0_b 42 encU32 ((Arr.set d0 step1 (bClr .u32 x_1 (bShl .u32 1 track2))).1) [] step1 (bOr .u32 x_3 (bShl .u32 1 track2)) 1 0 [(.int .u32 (bOr .u32 x_3 (bShl .u32 1 track2)))] (by kernel_rfl) (by kernel_rfl) (by kernel_rfl) encU32_len hx_26 (by kernel_rfl) (by kernel_rfl) (jkD (fun w h => h.pick [] (by kernel_rfl) (by kernel_rfl)) ?_))
        refine jd_end (by kernel_rfl) ?_
        refine jx_fall ?_
        obtain rfl := Option.some.inj h
        exact jx_ret [] (.tuple #[]) [] rfl (by kernel_rfl) (by kernel_rfl) (fun w hm => ⟨rfl, hm.pick [0] (by kernel_rfl) (by kernel_rfl)⟩)
    · replace h := ifF hc_18 h
      refine jc_skip ?_
      refine jx_fall ?_
      obtain rfl := Option.some.inj h
      exact jx_ret [] (.tuple #[]) [] rfl (by kernel_rfl) (by kernel_rfl) (fun w hm => ⟨rfl, hm.pick [0] (by kernel_rfl) (by kernel_rfl)⟩)

/-! ### (impl.Wear).drum -/
noncomputable def impl_Wear_drum.k_2 (a_1 : Arr 96 Int) : Option ((Arr 96 Int)) := some a_1
noncomputable def impl_Wear_drum.l_5 (w0 : GWear) : ((Arr 96 Int) × Int) → Option (((Arr 96 Int) × Int) ⊕ ((Arr 96 Int)))
  | (a_3, i_4) => (if (decide (i_4 < (w0.fPins.length : Int))) = true then (ix w0.fPins i_4).bind fun x_7 => (impl_Drum_put a_3 (w64 x_7.fStep) (w64 x_7.fTrack) true).bind fun t_8 => some (.inl (t_8, (w64 (i_4 + 1)))) else some (.inr a_3))
noncomputable def impl_Wear_drum (w0 : GWear) : Option ((Arr 96 Int)) := (loop (impl_Wear_drum.l_5 w0) ((Arr.rep 96 0), 0)).bind fun t_6 => impl_Wear_drum.k_2 t_6
set_option maxRecDepth 100000 in
theorem impl_Wear_drum.calls (w0 : GWear) (w : World) (r : (Arr 96 Int)) (w0_fPins_a : Option Addr) (w0_fPins_an : Nat) (w0_fPins_c : Nat) (w0_fPins_h : Rw w w0_fPins_a 3 encGWornPin w0.fPins) (w0_fPins_hn : w0.fPins.length = w0_fPins_an) (w0_fStrokes_a : Option Addr) (w0_fStrokes_an : Nat) (w0_fStrokes_c : Nat) (w0_fStrokes_h : Rw w w0_fStrokes_a 1 encI64 w0.fStrokes) (w0_fStrokes_hn : w0.fStrokes.length = w0_fStrokes_an) (h : impl_Wear_drum w0 = some r) :
    Calls Try.prog 33 #[(.agg #[(.slice w0_fPins_a w0_fPins_an w0_fPins_c), (.slice w0_fStrokes_a w0_fStrokes_an w0_fStrokes_c)])] w fun e w' => ∃ v, e = .returned v ∧ (v = (.agg (row encU32 r.1 []).toArray) ∧ Mem w [] [] w') := by
  subst w0_fPins_hn w0_fStrokes_hn
  rw [impl_Wear_drum] at h
  refine enter (args := [(.agg #[(.slice w0_fPins_a w0.fPins.length w0_fPins_c), (.slice w0_fStrokes_a w0.fStrokes.length w0_fStrokes_c)])]) Try.func33 rfl Try.ntmps33 (by kernel_rfl) (L := []) (W := []) (Mem.start w) ?_
  refine jc_seq ?_
  refine jc_region ?_
  refine toO (by kernel_rfl) (p_a 0 [0] (by kernel_rfl) (fun b => by kernel_rfl) (fun b_1 => jkO ?_))
  refine toO (by kernel_rfl) (p_a 0 [0] (by kernel_rfl) (fun b => by kernel_rfl) (fun b_2 => jkO ?_))
  refine jo_end (by kernel_rfl) ?_
  refine jx_then ?_
  refine jc_seq ?_
  refine jc_region ?_
  refine jo_f [(0, 0)] (by kernel_rfl) ?_
  refine toO (by kernel_rfl) (p_a 0 [0] (by kernel_rfl) (fun b => by kernel_rfl) (fun b_3 => jkO ?_))
  refine toO (by kernel_rfl) (p_sA 0 2 b_3 96 1 42 encU32 (Arr.rep 96 0) (Arr.rep 96 0) (by kernel_rfl) (by kernel_rfl) (by kernel_rfl) encU32_len encU32_cell (by kernel_rfl) (jkO ?_))
  refine jo_end (by kernel_rfl) ?_
  refine jx_then ?_
  refine jc_seq ?_
  refine jc_seq ?_
  refine jc_region ?_
  refine jo_f [(0, 0), (0, 0), (0, 0), (0, 0)] (by kernel_rfl) ?_
  refine jo_end (by kernel_rfl) ?_
  refine jx_then ?_
  refine jc_meet (fun (j : (Arr 96 Int)) => match j with | a_1 => impl_Wear_drum.k_2 a_1 = some r) (fun (j : (Arr 96 Int)) => match j with | a_1 => [(2, [], (.pointer (some ⟨b_2, 0, none⟩))), (3, [], (.pointer (some ⟨b_3, 0, none⟩)))]) (fun (j : (Arr 96 Int)) => match j with | a_1 => [⟨some b_1, 32, [(.slice w0_fPins_a w0.fPins.length w0_fPins_c), (.slice w0_fStrokes_a w0.fStrokes.length w0_fStrokes_c)]⟩, ⟨(some b_2), 42, row encU32 ((Arr.rep 96 0).1) []⟩, ⟨(some b_3), 42, row encU32 a_1.1 []⟩]) ?_ ?_
  · refine jc_block ?_
    obtain ⟨t_6, ht_79, hr_71⟩ := bd h
    refine jc_loop (fun (s : (Arr 96 Int) × Int) (x : Unit) => match s, x with | ⟨a_3, i_4⟩, _ => True) (fun (s : (Arr 96 Int) × Int) (x : Unit) => match s, x with | ⟨a_3, i_4⟩, _ => [(2, [], (.pointer (some ⟨b_2, 0, none⟩))), (3, [], (.pointer (some ⟨b_3, 0, none⟩))), (8, [], (.slice w0_fPins_a w0.fPins.length w0_fPins_c)), (9, [], (.int .i64 (w0.fPins.length : Int))), (10, [], (.int .i64 i_4))]) (fun (s : (Arr 96 Int) × Int) (x : Unit) => match s, x with | ⟨a_3, i_4⟩, _ => [⟨some b_1, 32, [(.slice w0_fPins_a w0.fPins.length w0_fPins_c), (.slice w0_fStrokes_a w0.fStrokes.length w0_fStrokes_c)]⟩, ⟨(some b_2), 42, row encU32 ((Arr.rep 96 0).1) []⟩, ⟨(some b_3), 42, row encU32 a_3.1 []⟩]) ht_79 () trivial (by kernel_rfl) [0, 1, 2] (by kernel_rfl) (by kernel_rfl) ?_
    rintro ⟨a_3, i_4⟩ _ y_72 _ h
    rw [impl_Wear_drum.l_5] at h
    refine jc_seq ?_
    refine jc_region ?_
    refine jo_f [(0, 0)] (by kernel_rfl) ?_
    refine jo_end (by kernel_rfl) ?_
    refine jx_then ?_
    refine jc_seq ?_
    refine jc_cond (decide (i_4 < (w0.fPins.length : Int))) (by kernel_rfl) (fun hc_74 => ?_) (fun hc_74 => ?_)
    · replace h := ifT hc_74 h
      refine jc_skip ?_
      refine jx_then ?_
      refine jc_seq ?_
      refine jc_block ?_
      refine jc_seq ?_
      refine jc_region ?_
      obtain ⟨x_7, hx_75, h⟩ := bd h
      refine toO (by kernel_rfl) (p_idx 0 w0_fPins_a w0.fPins.length i_4 3 (by kernel_rfl) (by kernel_rfl) (ix_some hx_75).1 (ltn hx_75 rfl) (w0_fPins_h.sp hx_75) (jkO ?_))
      refine toO (by kernel_rfl) (p_ld 0 (aB w0_fPins_a) (aO w0_fPins_a + i_4.toNat * 3) true (encGWornPin x_7) (by kernel_rfl) (by kernel_rfl) (by kernel_rfl) (fun w hm => ((hm.exRow w0_fPins_h List.not_mem_nil).at hx_75)) (jkO ?_))
      refine toO (by kernel_rfl) (p_a 0 [0] (by kernel_rfl) (fun b => by kernel_rfl) (fun b_76 => jkO ?_))
      refine toO (by kernel_rfl) (p_s 0 [3] (by kernel_rfl) (by kernel_rfl) (jkO ?_))
      refine jo_end (by kernel_rfl) ?_
      refine jx_then ?_
      refine jc_region ?_
      refine jo_f [(0, 0), (3, 0), (0, 0), (0, 0), (3, 0), (0, 0)] (by kernel_rfl) ?_
      obtain ⟨t_8, ht_77, h⟩ := bd h
      refine toO (by kernel_rfl) (p_call 0 66 #[(.pointer (some ⟨b_3, 0, none⟩)), (.int .i64 (w64 x_7.fStep)), (.int .i64 (w64 x_7.fTrack)), (.bool true)] (by kernel_rfl) (by kernel_rfl) (fun w hm => impl_Drum_put.calls a_3 (w64 x_7.fStep) (w64 x_7.fTrack) true w _ b_3 (hm.pass (N := [⟨(some b_3), 42, row encU32 a_3.1 []⟩]) [2] (by kernel_rfl) (by kernel_rfl)) ht_77) ?_)
      rintro w v w' hm ⟨rfl, hm'⟩
      refine ⟨_, hm.appW (ps := [(2, ⟨(some b_3), 42, row encU32 t_8.1 []⟩)]) (N := []) hm' (by kernel_rfl) (by kernel_rfl), jkO ?_⟩
      clear hm hm'
      refine jo_end (by kernel_rfl) ?_
      refine jx_inn ?_
      refine jx_then ?_
      refine jc_region ?_
      refine jo_f [(0, 0), (0, 0)] (by kernel_rfl) ?_
      refine jo_end (by kernel_rfl) ?_
      exact jx_back (t_8, (w64 (i_4 + 1))) () (Option.some.inj h).symm trivial [0, 1, 2] (by kernel_rfl) (by kernel_rfl) (by kernel_rfl)
    · replace h := ifF hc_74 h
      refine jc_exit ?_
      refine jx_thenx ?_
      refine jx_leave a_3 (Option.some.inj h).symm (fun e_78 => ?_)
      subst e_78
      refine jx_ine ?_
      exact jx_meet a_3 hr_71 (by kernel_rfl) [0, 1, 2] (by kernel_rfl) (by kernel_rfl)
  · rintro a_1 h
    replace h : impl_Wear_drum.k_2 a_1 = some r := h
    rw [impl_Wear_drum.k_2] at h
    refine jx_then ?_
    refine jc_seq ?_
    refine jc_region ?_
    refine toO (by kernel_rfl) (p_ldA 0 2 b_3 96 1 42 encU32 a_1 (by kernel_rfl) (by kernel_rfl) (by kernel_rfl) encU32_len (by kernel_rfl) (jkO ?_))
    refine toO (by kernel_rfl) (p_sA 0 1 b_2 96 1 42 encU32 (Arr.rep 96 0) a_1 (by kernel_rfl) (by kernel_rfl) (by kernel_rfl) encU32_len encU32_cell (by kernel_rfl) (jkO ?_))
    refine jo_end (by kernel_rfl) ?_
    refine jx_then ?_
    refine jc_ret ?_
    obtain rfl := Option.some.inj h
    exact jx_retV rfl (rq_arr (b := b_2) (T' := 42) (hh := 1) (mm := 1) encU32 a_1 (by kernel_rfl) (by kernel_rfl) encU32_len (by kernel_rfl) rq_nil) (fun w hm => ⟨rfl, hm.pick [] (by kernel_rfl) (by kernel_rfl)⟩)

/-! ### (*impl.Drum).has -/
noncomputable def impl_Drum_has (d0 : Arr 96 Int) (step1 : Int) (track2 : Int) : Option (Bool) := (ix d0.1 step1).bind fun x_1 => (if 0 ≤ track2 then some ((bAnd .u32 (bShr .u32 x_1 track2) 1) == 1) else none)
set_option maxRecDepth 100000 in
theorem impl_Drum_has.calls (d0 : Arr 96 Int) (step1 : Int) (track2 : Int) (w : World) (r : Bool) (d0_b : Nat) (hm0 : Mem w (bs [some d0_b]) [⟨(some d0_b), 42, row encU32 d0.1 []⟩] w) (h : impl_Drum_has d0 step1 track2 = some r) :
    Calls Try.prog 78 #[(.pointer (some ⟨d0_b, 0, none⟩)), (.int .i64 step1), (.int .i64 track2)] w fun e w' => ∃ v, e = .returned v ∧ (v = (.bool r) ∧ Mem w (bs [some d0_b]) [⟨(some d0_b), 42, row encU32 d0.1 []⟩] w') := by
  rw [impl_Drum_has] at h
  refine enter (args := [(.pointer (some ⟨d0_b, 0, none⟩)), (.int .i64 step1), (.int .i64 track2)]) Try.func78 rfl Try.ntmps78 (by kernel_rfl) (L := [⟨(some d0_b), 42, row encU32 d0.1 []⟩]) (W := bs [some d0_b]) hm0 ?_
  refine jc_seq ?_
  refine jc_region ?_
  refine jo_f [(0, 0)] (by kernel_rfl) ?_
  refine jo_end (by kernel_rfl) ?_
  refine jx_then ?_
  refine jc_seq ?_
  refine jc_region ?_
  refine jo_f [(0, 0), (0, 0), (0, 0)] (by kernel_rfl) ?_
  obtain ⟨x_1, hx_1, h⟩ := bd h
  refine toO (by kernel_rfl) (p_idx 0 (some ⟨d0_b, 0, none⟩) 96 step1 1 (by kernel_rfl) (by kernel_rfl) (ix_some hx_1).1 (ltn hx_1 d0.2) rfl (jkO ?_))
  refine toO (by kernel_rfl) (p_ld 0 (aB (some ⟨d0_b, 0, none⟩)) (aO (some ⟨d0_b, 0, none⟩) + step1.toNat * 1) false (encU32 x_1) (by kernel_rfl) (by kernel_rfl) (by kernel_rfl) (fun w hm => ((hm.ownRow (hh := 0) (o := (some d0_b)) (T := 42) (enc := encU32) (xs := d0.1) (sp := []) (by kernel_rfl) (fun e => nomatch e) encU32_len).at hx_1)) (jkO ?_))
  refine jo_f [(0, 0)] (by kernel_rfl) ?_
  obtain ⟨hg_2, h⟩ := gd h
  refine toO (by kernel_rfl) (p_shr 0 .u32 x_1 .i64 track2 (by kernel_rfl) (by kernel_rfl) hg_2 (jkO ?_))
  refine jo_f [(0, 0), (0, 0), (0, 0)] (by kernel_rfl) ?_
  refine jo_end (by kernel_rfl) ?_
  refine jx_then ?_
  refine jc_ret ?_
  obtain rfl := Option.some.inj h
  exact jx_ret [] (.bool ((bAnd .u32 (bShr .u32 x_1 track2) 1) == 1)) [] rfl (by kernel_rfl) (by kernel_rfl) (fun w hm => ⟨rfl, hm.pick [0] (by kernel_rfl) (by kernel_rfl)⟩)

/-! ### (impl.Frame).byTrack$1 -/
noncomputable def impl_Frame_byTrack_1 (p_0 : Int) (track1 : Int) (p2 : List Int) : Option ((List Int)) := (ix p2 track1).bind fun x_1 => (ix p2 track1).bind fun x_2 => some (p2.set track1.toNat (w64 (x_1 + 1)))
set_option maxRecDepth 100000 in
theorem impl_Frame_byTrack_1.calls (p_0 : Int) (track1 : Int) (p2 : List Int) (w : World) (r : (List Int)) (p2_b : Nat) (p2_o : Option Nat) (p2_on : Nat) (p2_c : Nat) (p2_sp : List Value) (p2_hn : p2.length = p2_on) (p2_hs : p2_o ≠ none → p2_on ≤ p2_c ∧ p2_sp.length = (p2_c - p2_on) * 1) (p2_ho : p2_o = none → p2 = [] ∧ p2_c = 0) (hm0 : Mem w (bs [some p2_b, p2_o]) [⟨some p2_b, 30, [(.slice (p2_o.map fun b => ⟨b, 0, none⟩) p2_on p2_c)]⟩, ⟨p2_o, 2, row encI64 p2 p2_sp⟩] w) (h : impl_Frame_byTrack_1 p_0 track1 p2 = some r) :
    Calls Try.prog 65 #[(.int .i64 p_0), (.int .i64 track1), (.pointer (some ⟨p2_b, 0, none⟩))] w fun e w' => ∃ v, e = .returned v ∧ (r.length = p2_on ∧ (p2_o = none → r = [] ∧ p2_c = 0) ∧ v = .tuple #[] ∧ Mem w (bs [some p2_b, p2_o]) [⟨some p2_b, 30, [(.slice (p2_o.map fun b => ⟨b, 0, none⟩) p2_on p2_c)]⟩, ⟨p2_o, 2, row encI64 r p2_sp⟩] w') := by
  subst p2_hn
  rw [impl_Frame_byTrack_1] at h
  refine enter (args := [(.int .i64 p_0), (.int .i64 track1), (.pointer (some ⟨p2_b, 0, none⟩))]) Try.func65 rfl Try.ntmps65 (by kernel_rfl) (L := [⟨some p2_b, 30, [(.slice (p2_o.map fun b => ⟨b, 0, none⟩) p2.length p2_c)]⟩, ⟨p2_o, 2, row encI64 p2 p2_sp⟩]) (W := bs [some p2_b, p2_o]) hm0 ?_
  refine jc_region ?_
  refine jo_f [(0, 0), (0, 0)] (by kernel_rfl) ?_
  obtain ⟨x_1, hx_1, h⟩ := bd h
  refine toO (by kernel_rfl) (p_idx 0 (p2_o.map fun b => ⟨b, 0, none⟩) p2.length track1 1 (by kernel_rfl) (by kernel_rfl) (ix_some hx_1).1 (ltn hx_1 rfl) (spo p2_ho hx_1) (jkO ?_))
  refine toO (by kernel_rfl) (p_ld 0 (aB (p2_o.map fun b => ⟨b, 0, none⟩)) (aO (p2_o.map fun b => ⟨b, 0, none⟩) + track1.toNat * 1) false (encI64 x_1) (by kernel_rfl) (by kernel_rfl) (by kernel_rfl) (fun w hm => ((hm.ownRow (hh := 1) (o := p2_o) (T := 2) (enc := encI64) (xs := p2) (sp := p2_sp) (by kernel_rfl) (fun e => (p2_ho e).1) encI64_len).at hx_1)) (jkO ?_))
  refine jo_f [(0, 0)] (by kernel_rfl) ?_
  obtain ⟨x_2, hx_2, h⟩ := bd h
  refine toO (by kernel_rfl) (p_idx 0 (p2_o.map fun b => ⟨b, 0, none⟩) p2.length track1 1 (by kernel_rfl) (by kernel_rfl) (ix_some hx_2).1 (ltn hx_2 rfl) (spo p2_ho hx_2) (jkO ?_))
  refine toO (by kernel_rfl) (p_strO 0 1 p2_o 2 encI64 p2 p2_sp track1 (w64 (x_1 + 1)) 1 0 [(.int .i64 (w64 (x_1 + 1)))] (by kernel_rfl) (by kernel_rfl) (by kernel_rfl) (fun e => (p2_ho e).1) encI64_len hx_2 (by kernel_rfl) (by kernel_rfl) (jkO ?_))
  refine jo_end (by kernel_rfl) ?_
  refine jx_fall ?_
  obtain rfl := Option.some.inj h
  exact jx_ret [] (.tuple #[]) [] rfl (by kernel_rfl) (by kernel_rfl) (fun w hm => ⟨(List.length_set.trans rfl), (set_ho p2_ho), rfl, hm.pick [0, 1] (by kernel_rfl) (by kernel_rfl)⟩)

/-! ### (impl.Frame).pins -/
noncomputable def impl_Frame_pins_at_impl_Frame_byTrack_1.k_2 (xs_1 : List Int) : Option ((List Int)) := some xs_1
noncomputable def impl_Frame_pins_at_impl_Frame_byTrack_1.k_9 (i_4 : Int) (xs_8 : List Int) : Option (((List Int) × Int) ⊕ ((List Int))) := some (.inl (xs_8, (w64 (i_4 + 1))))
noncomputable def impl_Frame_pins_at_impl_Frame_byTrack_1.l_12 (d1 : Arr 96 Int) (i_4 : Int) (t_7 : Int) : ((List Int) × Int) → Option (((List Int) × Int) ⊕ ((List Int)))
  | (xs_10, i_11) => (if (decide (i_11 < t_7)) = true then (impl_Drum_has d1 i_4 i_11).bind fun t_14 => (if t_14 = true then (impl_Frame_byTrack_1 i_4 i_11 xs_10).bind fun t_15 => some (.inl (t_15, (w64 (i_11 + 1)))) else some (.inl (xs_10, (w64 (i_11 + 1))))) else some (.inr xs_10))
noncomputable def impl_Frame_pins_at_impl_Frame_byTrack_1.l_5 (f0 : GFrame) (d1 : Arr 96 Int) : ((List Int) × Int) → Option (((List Int) × Int) ⊕ ((List Int)))
  | (xs_3, i_4) => (if (decide (i_4 < (w64 f0.fSteps))) = true then (impl_size_Hammer f0.fHammers).bind fun t_7 => (loop (impl_Frame_pins_at_impl_Frame_byTrack_1.l_12 d1 i_4 t_7) (xs_3, 0)).bind fun t_13 => impl_Frame_pins_at_impl_Frame_byTrack_1.k_9 i_4 t_13 else some (.inr xs_3))
noncomputable def impl_Frame_pins_at_impl_Frame_byTrack_1 (f0 : GFrame) (d1 : Arr 96 Int) (g2c0 : List Int) : Option ((List Int)) := (loop (impl_Frame_pins_at_impl_Frame_byTrack_1.l_5 f0 d1) (g2c0, 0)).bind fun t_6 => impl_Frame_pins_at_impl_Frame_byTrack_1.k_2 t_6
set_option maxRecDepth 100000 in
theorem impl_Frame_pins_at_impl_Frame_byTrack_1.calls (f0 : GFrame) (d1 : Arr 96 Int) (g2c0 : List Int) (w : World) (r : (List Int)) (f0_fHammers_a : Option Addr) (f0_fHammers_an : Nat) (f0_fHammers_c : Nat) (f0_fHammers_h : Rw w f0_fHammers_a 2 encGHammer f0.fHammers) (f0_fHammers_hn : f0.fHammers.length = f0_fHammers_an) (g2c0_b : Nat) (g2c0_o : Option Nat) (g2c0_on : Nat) (g2c0_c : Nat) (g2c0_sp : List Value) (g2c0_hn : g2c0.length = g2c0_on) (g2c0_hs : g2c0_o ≠ none → g2c0_on ≤ g2c0_c ∧ g2c0_sp.length = (g2c0_c - g2c0_on) * 1) (g2c0_ho : g2c0_o = none → g2c0 = [] ∧ g2c0_c = 0) (hm0 : Mem w (bs [some g2c0_b, g2c0_o]) [⟨some g2c0_b, 30, [(.slice (g2c0_o.map fun b => ⟨b, 0, none⟩) g2c0_on g2c0_c)]⟩, ⟨g2c0_o, 2, row encI64 g2c0 g2c0_sp⟩] w) (f0_fHammers_ha : f0.fHammers ≠ [] → aB f0_fHammers_a ∉ bs [some g2c0_b, g2c0_o]) (h : impl_Frame_pins_at_impl_Frame_byTrack_1 f0 d1 g2c0 = some r) :
    Calls Try.prog 39 #[(.agg #[(.int .i16 f0.fSteps), (.slice f0_fHammers_a f0_fHammers_an f0_fHammers_c)]), (.agg (row encU32 d1.1 []).toArray), (.func (.func 65) #[] #[(.pointer (some ⟨g2c0_b, 0, none⟩))])] w fun e w' => ∃ v, e = .returned v ∧ (r.length = g2c0_on ∧ (g2c0_o = none → r = [] ∧ g2c0_c = 0) ∧ v = .tuple #[] ∧ Mem w (bs [some g2c0_b, g2c0_o]) [⟨some g2c0_b, 30, [(.slice (g2c0_o.map fun b => ⟨b, 0, none⟩) g2c0_on g2c0_c)]⟩, ⟨g2c0_o, 2, row encI64 r g2c0_sp⟩] w') := by
  subst f0_fHammers_hn g2c0_hn
  rw [impl_Frame_pins_at_impl_Frame_byTrack_1] at h
  refine enter (args := [(.agg #[(.int .i16 f0.fSteps), (.slice f0_fHammers_a f0.fHammers.length f0_fHammers_c)]), (.agg (row encU32 d1.1 []).toArray), (.func (.func 65) #[] #[(.pointer (some ⟨g2c0_b, 0, none⟩))])]) Try.func39 rfl Try.ntmps39 (by kernel_rfl) (L := [⟨some g2c0_b, 30, [(.slice (g2c0_o.map fun b => ⟨b, 0, none⟩) g2c0.length g2c0_c)]⟩, ⟨g2c0_o, 2, row encI64 g2c0 g2c0_sp⟩]) (W := bs [some g2c0_b, g2c0_o]) hm0 ?_
  refine jc_seq ?_
  refine jc_region ?_
  refine toO (by kernel_rfl) (p_a 0 [0] (by kernel_rfl) (fun b => by kernel_rfl) (fun b_1 => jkO ?_))
  refine toO (by kernel_rfl) (p_a 0 [0] (by kernel_rfl) (fun b => by kernel_rfl) (fun b_2 => jkO ?_))
  refine jo_end (by kernel_rfl) ?_
  refine jx_then ?_
  refine jc_seq ?_
  refine jc_region ?_
  refine jo_f [(0, 0), (2, 0), (0, 0), (0, 0)] (by kernel_rfl) ?_
  refine jo_end (by kernel_rfl) ?_
  refine jx_then ?_
  refine jc_meet (fun (j : (List Int)) => match j with | xs_1 => impl_Frame_pins_at_impl_Frame_byTrack_1.k_2 xs_1 = some r ∧ (xs_1.length = g2c0.length) ∧ ((g2c0_o = none → xs_1 = [] ∧ g2c0_c = 0))) (fun (j : (List Int)) => match j with | xs_1 => []) (fun (j : (List Int)) => match j with | xs_1 => [⟨some g2c0_b, 30, [(.slice (g2c0_o.map fun b => ⟨b, 0, none⟩) g2c0.length g2c0_c)]⟩, ⟨g2c0_o, 2, row encI64 xs_1 g2c0_sp⟩, ⟨some b_1, 27, [(.int .i16 f0.fSteps), (.slice f0_fHammers_a f0.fHammers.length f0_fHammers_c)]⟩, ⟨(some b_2), 42, row encU32 d1.1 []⟩]) ?_ ?_
  · refine jc_block ?_
    obtain ⟨t_6, ht_398, hr_332⟩ := bd h
    refine jc_loop (fun (s : (List Int) × Int) (x : Unit) => match s, x with | ⟨xs_3, i_4⟩, _ => (xs_3.length = g2c0.length) ∧ ((g2c0_o = none → xs_3 = [] ∧ g2c0_c = 0))) (fun (s : (List Int) × Int) (x : Unit) => match s, x with | ⟨xs_3, i_4⟩, _ => [(2, [], (.func (.func 65) #[] #[(.pointer (some ⟨g2c0_b, 0, none⟩))])), (3, [], (.pointer (some ⟨b_1, 0, none⟩))), (4, [], (.pointer (some ⟨b_2, 0, none⟩))), (10, [], (.int .i64 (w64 f0.fSteps))), (11, [], (.int .i64 i_4))]) (fun (s : (List Int) × Int) (x : Unit) => match s, x with | ⟨xs_3, i_4⟩, _ => [⟨some g2c0_b, 30, [(.slice (g2c0_o.map fun b => ⟨b, 0, none⟩) g2c0.length g2c0_c)]⟩, ⟨g2c0_o, 2, row encI64 xs_3 g2c0_sp⟩, ⟨some b_1, 27, [(.int .i16 f0.fSteps), (.slice f0_fHammers_a f0.fHammers.length f0_fHammers_c)]⟩, ⟨(some b_2), 42, row encU32 d1.1 []⟩]) ht_398 () ⟨rfl, g2c0_ho⟩ (by kernel_rfl) [0, 1, 2, 3] (by kernel_rfl) (by kernel_rfl) ?_
    rintro ⟨xs_3, i_4⟩ _ y_333 ⟨hn_331, ho_330⟩ h
    rw [impl_Frame_pins_at_impl_Frame_byTrack_1.l_5] at h
    refine jc_seq ?_
    refine jc_region ?_
    refine jo_f [(0, 0)] (by kernel_rfl) ?_
    refine jo_end (by kernel_rfl) ?_
    refine jx_then ?_
    refine jc_seq ?_
    refine jc_cond (decide (i_4 < (w64 f0.fSteps))) (by kernel_rfl) (fun hc_335 => ?_) (fun hc_335 => ?_)
    · replace h := ifT hc_335 h
      refine jc_skip ?_
      refine jx_then ?_
      refine jc_seq ?_
      refine jc_block ?_
      refine jc_seq ?_
      refine jc_region ?_
      refine jo_f [(0, 0), (0, 0)] (by kernel_rfl) ?_
      refine jo_end (by kernel_rfl) ?_
      refine jx_then ?_
      refine jc_seq ?_
      refine jc_region ?_
      refine jo_f [(0, 0), (2, 0)] (by kernel_rfl) ?_
      obtain ⟨t_7, ht_336, h⟩ := bd h
      refine toO (by kernel_rfl) (p_call 0 77 #[(.slice f0_fHammers_a f0.fHammers.length f0_fHammers_c)] (by kernel_rfl) (by kernel_rfl) (fun w hm => impl_size_Hammer.calls f0.fHammers w _ f0_fHammers_a f0.fHammers.length f0_fHammers_c (hm.exRowW f0_fHammers_h f0_fHammers_ha) rfl ht_336) ?_)
      rintro w v w' hm ⟨rfl, hm'⟩
      refine ⟨_, hm.app hm', jkO ?_⟩
      clear hm hm'
      refine jo_f [(0, 0)] (by kernel_rfl) ?_
      refine jo_end (by kernel_rfl) ?_
      refine jx_then ?_
      refine jc_meet (fun (j : (List Int)) => match j with | xs_8 => impl_Frame_pins_at_impl_Frame_byTrack_1.k_9 i_4 xs_8 = some y_333 ∧ (xs_8.length = g2c0.length) ∧ ((g2c0_o = none → xs_8 = [] ∧ g2c0_c = 0))) (fun (j : (List Int)) => match j with | xs_8 => [(2, [], (.func (.func 65) #[] #[(.pointer (some ⟨g2c0_b, 0, none⟩))])), (3, [], (.pointer (some ⟨b_1, 0, none⟩))), (4, [], (.pointer (some ⟨b_2, 0, none⟩))), (10, [], (.int .i64 (w64 f0.fSteps))), (11, [], (.int .i64 i_4))]) (fun (j : (List Int)) => match j with | xs_8 => [⟨some g2c0_b, 30, [(.slice (g2c0_o.map fun b => ⟨b, 0, none⟩) g2c0.length g2c0_c)]⟩, ⟨g2c0_o, 2, row encI64 xs_8 g2c0_sp⟩, ⟨some b_1, 27, [(.int .i16 f0.fSteps), (.slice f0_fHammers_a f0.fHammers.length f0_fHammers_c)]⟩, ⟨(some b_2), 42, row encU32 d1.1 []⟩]) ?_ ?_
      · refine jc_block ?_
        obtain ⟨t_13, ht_396, hr_386⟩ := bd h
        refine jc_loop (fun (s : (List Int) × Int) (x : Unit) => match s, x with | ⟨xs_10, i_11⟩, _ => (xs_10.length = g2c0.length) ∧ ((g2c0_o = none → xs_10 = [] ∧ g2c0_c = 0))) (fun (s : (List Int) × Int) (x : Unit) => match s, x with | ⟨xs_10, i_11⟩, _ => [(2, [], (.func (.func 65) #[] #[(.pointer (some ⟨g2c0_b, 0, none⟩))])), (3, [], (.pointer (some ⟨b_1, 0, none⟩))), (4, [], (.pointer (some ⟨b_2, 0, none⟩))), (6, [], (.int .i64 i_4)), (10, [], (.int .i64 (w64 f0.fSteps))), (11, [], (.int .i64 i_4)), (16, [], (.int .i64 t_7)), (17, [], (.int .i64 i_11))]) (fun (s : (List Int) × Int) (x : Unit) => match s, x with | ⟨xs_10, i_11⟩, _ => [⟨some g2c0_b, 30, [(.slice (g2c0_o.map fun b => ⟨b, 0, none⟩) g2c0.length g2c0_c)]⟩, ⟨g2c0_o, 2, row encI64 xs_10 g2c0_sp⟩, ⟨some b_1, 27, [(.int .i16 f0.fSteps), (.slice f0_fHammers_a f0.fHammers.length f0_fHammers_c)]⟩, ⟨(some b_2), 42, row encU32 d1.1 []⟩]) ht_396 () ⟨hn_331, ho_330⟩ (by kernel_rfl) [0, 1, 2, 3] (by kernel_rfl) (by kernel_rfl) ?_
        rintro ⟨xs_10, i_11⟩ _ y_387 ⟨hn_385, ho_384⟩ h
        rw [impl_Frame_pins_at_impl_Frame_byTrack_1.l_12] at h
        refine jc_seq ?_
        refine jc_region ?_
        refine jo_f [(0, 0)] (by kernel_rfl) ?_
        refine jo_end (by kernel_rfl) ?_
        refine jx_then ?_
        refine jc_seq ?_
        refine jc_cond (decide (i_11 < t_7)) (by kernel_rfl) (fun hc_389 => ?_) (fun hc_389 => ?_)
        · replace h := ifT hc_389 h
          refine jc_skip ?_
          refine jx_then ?_
          refine jc_seq ?_
          refine jc_block ?_
          refine jc_seq ?_
          refine jc_region ?_
          refine jo_f [(0, 0), (0, 0)] (by kernel_rfl) ?_
          refine jo_end (by kernel_rfl) ?_
          refine jx_then ?_
          refine jc_seq ?_
          refine jc_region ?_
          refine jo_f [(0, 0), (0, 0)] (by kernel_rfl) ?_
          obtain ⟨t_14, ht_390, h⟩ := bd h
          refine toO (by kernel_rfl) (p_call 0 78 #[(.pointer (some ⟨b_2, 0, none⟩)), (.int .i64 i_4), (.int .i64 i_11)] (by kernel_rfl) (by kernel_rfl) (fun w hm => impl_Drum_has.calls d1 i_4 i_11 w _ b_2 (hm.pass (N := [⟨(some b_2), 42, row encU32 d1.1 []⟩]) [3] (by kernel_rfl) (by kernel_rfl)) ht_390) ?_)
          rintro w v w' hm ⟨rfl, hm'⟩
          refine ⟨_, hm.appW (ps := [(3, ⟨(some b_2), 42, row encU32 d1.1 []⟩)]) (N := []) hm' (by kernel_rfl) (by kernel_rfl), jkO ?_⟩
          clear hm hm'
          refine jo_end (by kernel_rfl) ?_
          refine jx_then ?_
          refine jc_cond t_14 (by kernel_rfl) (fun hc_391 => ?_) (fun hc_391 => ?_)
          · replace h := ifT hc_391 h
            refine jc_region ?_
            refine jo_f [(0, 0), (0, 0), (0, 0)] (by kernel_rfl) ?_
            obtain ⟨t_15, ht_392, h⟩ := bd h
            refine toO (by kernel_rfl) (p_call 0 65 #[(.int .i64 i_4), (.int .i64 i_11), (.pointer (some ⟨g2c0_b, 0, none⟩))] (by kernel_rfl) (by kernel_rfl) (fun w hm => impl_Frame_byTrack_1.calls i_4 i_11 xs_10 w _ g2c0_b g2c0_o g2c0.length g2c0_c g2c0_sp hn_385 g2c0_hs ho_384 (hm.pass (N := [⟨some g2c0_b, 30, [(.slice (g2c0_o.map fun b => ⟨b, 0, none⟩) g2c0.length g2c0_c)]⟩, ⟨g2c0_o, 2, row encI64 xs_10 g2c0_sp⟩]) [0, 1] (by kernel_rfl) (by kernel_rfl)) ht_392) ?_)
            rintro w v w' hm ⟨hn_393, ho_394, rfl, hm'⟩
            refine ⟨_, hm.appW (ps := [(0, ⟨some g2c0_b, 30, [(.slice (g2c0_o.map fun b => ⟨b, 0, none⟩) g2c0.length g2c0_c)]⟩), (1, ⟨g2c0_o, 2, row encI64 t_15 g2c0_sp⟩)]) (N := []) hm' (by kernel_rfl) (by kernel_rfl), jkO ?_⟩
            clear hm hm'
            refine jo_end (by kernel_rfl) ?_
            refine jx_inn ?_
            refine jx_then ?_
            refine jc_region ?_
            refine jo_f [(0, 0), (0, 0)] (by kernel_rfl) ?_
            refine jo_end (by kernel_rfl) ?_
            exact jx_back (t_15, (w64 (i_11 + 1))) () (Option.some.inj h).symm ⟨hn_393, ho_394⟩ [0, 1, 2, 3] (by kernel_rfl) (by kernel_rfl) (by kernel_rfl)
          · replace h := ifF hc_391 h
            refine jc_skip ?_
            refine jx_inn ?_
            refine jx_then ?_
            refine jc_region ?_
            refine jo_f [(0, 0), (0, 0)] (by kernel_rfl) ?_
            refine jo_end (by kernel_rfl) ?_
            exact jx_back (xs_10, (w64 (i_11 + 1))) () (Option.some.inj h).symm ⟨hn_385, ho_384⟩ [0, 1, 2, 3] (by kernel_rfl) (by kernel_rfl) (by kernel_rfl)
        · replace h := ifF hc_389 h
          refine jc_exit ?_
          refine jx_thenx ?_
          refine jx_leave xs_10 (Option.some.inj h).symm (fun e_395 => ?_)
          subst e_395
          refine jx_ine ?_
          exact jx_meet xs_10 ⟨hr_386, hn_385, ho_384⟩ (by kernel_rfl) [0, 1, 2, 3] (by kernel_rfl) (by kernel_rfl)
      · rintro xs_8 ⟨h, hn_367, ho_366⟩
        replace h : impl_Frame_pins_at_impl_Frame_byTrack_1.k_9 i_4 xs_8 = some y_333 := h
        rw [impl_Frame_pins_at_impl_Frame_byTrack_1.k_9] at h
        refine jx_inn ?_
        refine jx_then ?_
        refine jc_region ?_
        refine jo_f [(0, 0), (0, 0)] (by kernel_rfl) ?_
        refine jo_end (by kernel_rfl) ?_
        exact jx_back (xs_8, (w64 (i_4 + 1))) () (Option.some.inj h).symm ⟨hn_367, ho_366⟩ [0, 1, 2, 3] (by kernel_rfl) (by kernel_rfl) (by kernel_rfl)
    · replace h := ifF hc_335 h
      refine jc_exit ?_
      refine jx_thenx ?_
      refine jx_leave xs_3 (Option.some.inj h).symm (fun e_397 => ?_)
      subst e_397
      refine jx_ine ?_
      exact jx_meet xs_3 ⟨hr_332, hn_331, ho_330⟩ (by kernel_rfl) [0, 1, 2, 3] (by kernel_rfl) (by kernel_rfl)
  · rintro xs_1 ⟨h, hn_201, ho_200⟩
    replace h : impl_Frame_pins_at_impl_Frame_byTrack_1.k_2 xs_1 = some r := h
    rw [impl_Frame_pins_at_impl_Frame_byTrack_1.k_2] at h
    refine jx_fall ?_
    obtain rfl := Option.some.inj h
    exact jx_ret [] (.tuple #[]) [] rfl (by kernel_rfl) (by kernel_rfl) (fun w hm => ⟨hn_201, ho_200, rfl, hm.pick [0, 1] (by kernel_rfl) (by kernel_rfl)⟩)

/-! ### (impl.Frame).byTrack -/
noncomputable def impl_Frame_byTrack (f0 : GFrame) (d1 : Arr 96 Int) : Option ((List Int)) := (if 0 ≤ (f0.fHammers.length : Int) ∧ (f0.fHammers.length : Int) ≤ 17592186044416 then (impl_Frame_pins_at_impl_Frame_byTrack_1 f0 d1 (List.replicate (f0.fHammers.length : Int).toNat 0)).bind fun t_1 => some t_1 else none)
set_option maxRecDepth 100000 in
theorem impl_Frame_byTrack.calls (f0 : GFrame) (d1 : Arr 96 Int) (w : World) (r : (List Int)) (f0_fHammers_a : Option Addr) (f0_fHammers_an : Nat) (f0_fHammers_c : Nat) (f0_fHammers_h : Rw w f0_fHammers_a 2 encGHammer f0.fHammers) (f0_fHammers_hn : f0.fHammers.length = f0_fHammers_an) (h : impl_Frame_byTrack f0 d1 = some r) :
    Calls Try.prog 32 #[(.agg #[(.int .i16 f0.fSteps), (.slice f0_fHammers_a f0_fHammers_an f0_fHammers_c)]), (.agg (row encU32 d1.1 []).toArray)] w fun e w' => ∃ v, e = .returned v ∧ (∃ (o0 : Option Nat) (c0 : Nat) (s0 : List Value) (n0 : Nat), r.length = n0 ∧ (o0 ≠ none → n0 ≤ c0 ∧ s0.length = (c0 - n0) * 1) ∧ (o0 = none → r = [] ∧ c0 = 0) ∧ v = .slice (o0.map fun b => ⟨b, 0, none⟩) n0 c0 ∧ Mem w [] [⟨o0, 2, row encI64 r s0⟩] w') := by
  subst f0_fHammers_hn
  rw [impl_Frame_byTrack] at h
  refine enter (args := [(.agg #[(.int .i16 f0.fSteps), (.slice f0_fHammers_a f0.fHammers.length f0_fHammers_c)]), (.agg (row encU32 d1.1 []).toArray)]) Try.func32 rfl Try.ntmps32 (by kernel_rfl) (L := []) (W := []) (Mem.start w) ?_
  refine jc_seq ?_
  refine jc_region ?_
  refine toO (by kernel_rfl) (p_a 0 [0] (by kernel_rfl) (fun b => by kernel_rfl) (fun b_1 => jkO ?_))
  refine toO (by kernel_rfl) (p_a 0 [0] (by kernel_rfl) (fun b => by kernel_rfl) (fun b_2 => jkO ?_))
  refine jo_f [(0, 0)] (by kernel_rfl) ?_
  refine jo_end (by kernel_rfl) ?_
  refine jx_then ?_
  refine jc_seq ?_
  refine jc_region ?_
  refine jo_f [(0, 0), (0, 0), (0, 0)] (by kernel_rfl) ?_
  obtain ⟨hg_8, h⟩ := gd h
  refine toO (by kernel_rfl) (p_mk 0 2 (f0.fHammers.length : Int) 1 8 encI64 0 (by kernel_rfl) (by kernel_rfl) hg_8.1 (by omega) (by kernel_rfl) (fun b_3 => jkO ?_))
  refine toO (by kernel_rfl) (p_a 0 [0] (by kernel_rfl) (fun b => by kernel_rfl) (fun b_4 => jkO ?_))
  refine toO (by kernel_rfl) (p_s 0 [3] (by kernel_rfl) (by kernel_rfl) (jkO ?_))
  refine jo_end (by kernel_rfl) ?_
  refine jx_then ?_
  refine jc_seq ?_
  refine jc_region ?_
  refine jo_f [(0, 0)] (by kernel_rfl) ?_
  refine toO (by kernel_rfl) (p_ldA 0 1 b_2 96 1 42 encU32 d1 (by kernel_rfl) (by kernel_rfl) (by kernel_rfl) encU32_len (by kernel_rfl) (jkO ?_))
  refine jo_f [(0, 0)] (by kernel_rfl) ?_
  obtain ⟨t_1, ht_5, h⟩ := bd h
  refine toO (by kernel_rfl) (p_call 0 39 #[(.agg #[(.int .i16 f0.fSteps), (.slice f0_fHammers_a f0.fHammers.length f0_fHammers_c)]), (.agg (row encU32 d1.1 []).toArray), (.func (.func 65) #[] #[(.pointer (some ⟨b_4, 0, none⟩))])] (by kernel_rfl) (by kernel_rfl) (fun w hm => impl_Frame_pins_at_impl_Frame_byTrack_1.calls f0 d1 (List.replicate (f0.fHammers.length : Int).toNat 0) w _ f0_fHammers_a f0.fHammers.length f0_fHammers_c (hm.exRow f0_fHammers_h List.not_mem_nil) rfl b_4 (some b_3) ((f0.fHammers.length : Int).toNat) ((f0.fHammers.length : Int).toNat) [] List.length_replicate (fun _ => ⟨Nat.le_refl _, by simp⟩) (fun e => nomatch e) (hm.pass (N := [⟨some b_4, 30, [(.slice (some ⟨b_3, 0, none⟩) ((f0.fHammers.length : Int).toNat) ((f0.fHammers.length : Int).toNat))]⟩, ⟨(some b_3), 2, row encI64 (List.replicate (f0.fHammers.length : Int).toNat 0) []⟩]) [3, 2] (by kernel_rfl) (by kernel_rfl)) (hm.exApart (N := [⟨some b_4, 30, [(.slice (some ⟨b_3, 0, none⟩) ((f0.fHammers.length : Int).toNat) ((f0.fHammers.length : Int).toNat))]⟩, ⟨(some b_3), 2, row encI64 (List.replicate (f0.fHammers.length : Int).toNat 0) []⟩]) f0_fHammers_h (fun _ => List.not_mem_nil) [3, 2] (by kernel_rfl)) ht_5) ?_)
  rintro w v w' hm ⟨hn_6, ho_7, rfl, hm'⟩
  refine ⟨_, hm.appW (ps := [(3, ⟨some b_4, 30, [(.slice (some ⟨b_3, 0, none⟩) ((f0.fHammers.length : Int).toNat) ((f0.fHammers.length : Int).toNat))]⟩), (2, ⟨(some b_3), 2, row encI64 t_1 []⟩)]) (N := []) hm' (by kernel_rfl) (by kernel_rfl), jkO ?_⟩
  clear hm hm'
  refine jo_end (by kernel_rfl) ?_
  refine jx_then ?_
  refine jc_seq ?_
  refine jc_region ?_
  refine jo_f [(3, 0), (0, 0)] (by kernel_rfl) ?_
  refine jo_end (by kernel_rfl) ?_
  refine jx_then ?_
  refine jc_ret ?_
  obtain rfl := Option.some.inj h
  exact jx_ret [] (.slice (some ⟨b_3, 0, none⟩) ((f0.fHammers.length : Int).toNat) ((f0.fHammers.length : Int).toNat)) [] rfl (by kernel_rfl) (by kernel_rfl) (fun w hm => ⟨(some b_3), ((f0.fHammers.length : Int).toNat), [], ((f0.fHammers.length : Int).toNat), hn_6, (fun _ => ⟨Nat.le_refl _, by simp⟩), (fun e => nomatch e), rfl, hm.pick [2] (by kernel_rfl) (by kernel_rfl)⟩)

/-! ### impl.TurnWear -/
noncomputable def impl_TurnWear.k_11 (f0 : GFrame) (xs_6 : List GWornPin) (xs_10 : List Int) : Option (GWear × Int) := (impl_ValidWear f0 (⟨xs_6, xs_10⟩ : GWear)).bind fun t_12 => (if (!t_12) = true then some ((⟨[], []⟩ : GWear), 3) else some ((⟨xs_6, xs_10⟩ : GWear), 0))
noncomputable def impl_TurnWear.l_15 (turns2 : Int) (t_9 : (List Int)) : ((List Int) × Int) → Option (((List Int) × Int) ⊕ ((List Int)))
  | (xs_13, i_14) => (if (decide (i_14 < (t_9.length : Int))) = true then (ix t_9 i_14).bind fun x_17 => (ix xs_13 i_14).bind fun x_18 => (ix xs_13 i_14).bind fun x_19 => some (.inl ((xs_13.set i_14.toNat (w64 (x_18 + (w64 (x_17 * turns2))))), (w64 (i_14 + 1)))) else some (.inr xs_13))
noncomputable def impl_TurnWear.k_7 (f0 : GFrame) (w1 : GWear) (turns2 : Int) (t_5 : GWear) (xs_6 : List GWornPin) : Option (GWear × Int) := (impl_Wear_drum w1).bind fun t_8 => (impl_Frame_byTrack f0 t_8).bind fun t_9 => (loop (impl_TurnWear.l_15 turns2 t_9) (t_5.fStrokes, 0)).bind fun t_16 => impl_TurnWear.k_11 f0 xs_6 t_16
noncomputable def impl_TurnWear.l_22 (turns2 : Int) (t_5 : GWear) : ((List GWornPin) × Int) → Option (((List GWornPin) × Int) ⊕ ((List GWornPin)))
  | (xs_20, i_21) => (if (decide (i_21 < (t_5.fPins.length : Int))) = true then (ix xs_20 i_21).bind fun x_24 => (ix xs_20 i_21).bind fun x_25 => some (.inl ((xs_20.set i_21.toNat (⟨x_25.fStep, x_25.fTrack, (w64 (x_24.fTurns + turns2))⟩ : GWornPin)), (w64 (i_21 + 1)))) else some (.inr xs_20))
noncomputable def impl_TurnWear (f0 : GFrame) (w1 : GWear) (turns2 : Int) : Option (GWear × Int) := (impl_wearCode f0 w1 []).bind fun t_1 => (impl_isMade turns2).bind fun t_2 => (impl_unless t_2 2).bind fun t_3 => (impl_firstOf [t_1, t_3]).bind fun t_4 => (if (t_4 != 0) = true then some ((⟨[], []⟩ : GWear), t_4) else (impl_Wear_own w1).bind fun t_5 => (loop (impl_TurnWear.l_22 turns2 t_5) (t_5.fPins, 0)).bind fun t_23 => impl_TurnWear.k_7 f0 w1 turns2 t_5 t_23)
set_option maxRecDepth 100000 in
theorem impl_TurnWear.calls (f0 : GFrame) (w1 : GWear) (turns2 : Int) (w : World) (r : GWear × Int) (f0_fHammers_a : Option Addr) (f0_fHammers_an : Nat) (f0_fHammers_c : Nat) (f0_fHammers_h : Rw w f0_fHammers_a 2 encGHammer f0.fHammers) (f0_fHammers_hn : f0.fHammers.length = f0_fHammers_an) (w1_fPins_a : Option Addr) (w1_fPins_an : Nat) (w1_fPins_c : Nat) (w1_fPins_h : Rw w w1_fPins_a 3 encGWornPin w1.fPins) (w1_fPins_hn : w1.fPins.length = w1_fPins_an) (w1_fStrokes_a : Option Addr) (w1_fStrokes_an : Nat) (w1_fStrokes_c : Nat) (w1_fStrokes_h : Rw w w1_fStrokes_a 1 encI64 w1.fStrokes) (w1_fStrokes_hn : w1.fStrokes.length = w1_fStrokes_an) (h : impl_TurnWear f0 w1 turns2 = some r) :
    Calls Try.prog 9 #[(.agg #[(.int .i16 f0.fSteps), (.slice f0_fHammers_a f0_fHammers_an f0_fHammers_c)]), (.agg #[(.slice w1_fPins_a w1_fPins_an w1_fPins_c), (.slice w1_fStrokes_a w1_fStrokes_an w1_fStrokes_c)]), (.int .i64 turns2)] w fun e w' => ∃ v, e = .returned v ∧ (∃ (o0 : Option Nat) (c0 : Nat) (s0 : List Value) (n0 : Nat), r.1.fPins.length = n0 ∧ (o0 ≠ none → n0 ≤ c0 ∧ s0.length = (c0 - n0) * 3) ∧ (o0 = none → r.1.fPins = [] ∧ c0 = 0) ∧ ∃ (o1 : Option Nat) (c1 : Nat) (s1 : List Value) (n1 : Nat), r.1.fStrokes.length = n1 ∧ (o1 ≠ none → n1 ≤ c1 ∧ s1.length = (c1 - n1) * 1) ∧ (o1 = none → r.1.fStrokes = [] ∧ c1 = 0) ∧ v = .tuple #[.agg #[.slice (o0.map fun b => ⟨b, 0, none⟩) n0 c0, .slice (o1.map fun b => ⟨b, 0, none⟩) n1 c1], (.int .i64 r.2)] ∧ Mem w [] [⟨o0, 58, row encGWornPin r.1.fPins s0⟩, ⟨o1, 2, row encI64 r.1.fStrokes s1⟩] w') := by
  subst f0_fHammers_hn w1_fPins_hn w1_fStrokes_hn
  rw [impl_TurnWear] at h
  refine enter (args := [(.agg #[(.int .i16 f0.fSteps), (.slice f0_fHammers_a f0.fHammers.length f0_fHammers_c)]), (.agg #[(.slice w1_fPins_a w1.fPins.length w1_fPins_c), (.slice w1_fStrokes_a w1.fStrokes.length w1_fStrokes_c)]), (.int .i64 turns2)]) Try.func9 rfl Try.ntmps9 (by kernel_rfl) (L := []) (W := []) (Mem.start w) ?_
  refine jc_seq ?_
  refine jc_region ?_
  refine toO (by kernel_rfl) (p_a 0 [0] (by kernel_rfl) (fun b => by kernel_rfl) (fun b_1 => jkO ?_))
  refine toO (by kernel_rfl) (p_a 0 [0] (by kernel_rfl) (fun b => by kernel_rfl) (fun b_2 => jkO ?_))
  refine toO (by kernel_rfl) (p_a 0 [0] (by kernel_rfl) (fun b => by kernel_rfl) (fun b_3 => jkO ?_))
  refine jo_f [(0, 0)] (by kernel_rfl) ?_
  refine jo_end (by kernel_rfl) ?_
  refine jx_then ?_
  refine jc_seq ?_
  refine jc_seq ?_
  refine jc_region ?_
  refine jo_f [(0, 0), (1, 0)] (by kernel_rfl) ?_
  obtain ⟨t_1, ht_10, h⟩ := bd h
  refine toO (by kernel_rfl) (p_call 0 28 #[(.agg #[(.int .i16 f0.fSteps), (.slice f0_fHammers_a f0.fHammers.length f0_fHammers_c)]), (.agg #[(.slice w1_fPins_a w1.fPins.length w1_fPins_c), (.slice w1_fStrokes_a w1.fStrokes.length w1_fStrokes_c)]), (.slice none 0 0)] (by kernel_rfl) (by kernel_rfl) (fun w hm => impl_wearCode.calls f0 w1 [] w _ f0_fHammers_a f0.fHammers.length f0_fHammers_c (hm.exRow f0_fHammers_h List.not_mem_nil) rfl w1_fPins_a w1.fPins.length w1_fPins_c (hm.exRow w1_fPins_h List.not_mem_nil) rfl w1_fStrokes_a w1.fStrokes.length w1_fStrokes_c (hm.exRow w1_fStrokes_h List.not_mem_nil) rfl none 0 0 Rw.nil rfl ht_10) ?_)
  rintro w v w' hm ⟨rfl, hm'⟩
  refine ⟨_, hm.app hm', jkO ?_⟩
  clear hm hm'
  refine jo_f [(0, 0)] (by kernel_rfl) ?_
  obtain ⟨t_2, ht_11, h⟩ := bd h
  refine toO (by kernel_rfl) (p_call 0 30 #[(.int .i64 turns2)] (by kernel_rfl) (by kernel_rfl) (fun w hm => impl_isMade.calls turns2 w _ ht_11) ?_)
  rintro w v w' hm ⟨rfl, hm'⟩
  refine ⟨_, hm.app hm', jkO ?_⟩
  clear hm hm'
  obtain ⟨t_3, ht_12, h⟩ := bd h
  refine toO (by kernel_rfl) (p_call 0 29 #[(.bool t_2), (.int .i64 2)] (by kernel_rfl) (by kernel_rfl) (fun w hm => impl_unless.calls t_2 2 w _ ht_12) ?_)
  rintro w v w' hm ⟨rfl, hm'⟩
  refine ⟨_, hm.app hm', jkO ?_⟩
  clear hm hm'
  refine toO (by kernel_rfl) (p_a 0 [0] (by kernel_rfl) (fun b => by kernel_rfl) (fun b_13 => jkO ?_))
  obtain ⟨t_4, ht_14, h⟩ := bd h
  refine toO (by kernel_rfl) (p_call 0 27 #[(.slice (some ⟨b_13, 0, none⟩) 2 2)] (by kernel_rfl) (by kernel_rfl) (fun w hm => impl_firstOf.calls [t_1, t_3] w _ (some ⟨b_13, 0, none⟩) 2 2 (hm.ownRow (hh := 3) (o := (some b_13)) (T := 2) (enc := encI64) (xs := [t_1, t_3]) (sp := []) (by kernel_rfl) (fun e => nomatch e) encI64_len) rfl ht_14) ?_)
  rintro w v w' hm ⟨rfl, hm'⟩
  refine ⟨_, hm.app hm', jkO ?_⟩
  clear hm hm'
  refine jo_f [(0, 0)] (by kernel_rfl) ?_
  refine jo_end (by kernel_rfl) ?_
  refine jx_then ?_
  refine jc_seq ?_
  refine jc_region ?_
  refine jo_f [(0, 0), (0, 0)] (by kernel_rfl) ?_
  refine jo_end (by kernel_rfl) ?_
  refine jx_then ?_
  refine jc_cond (t_4 != 0) (by kernel_rfl) (fun hc_15 => ?_) (fun hc_15 => ?_)
  · replace h := ifT hc_15 h
    refine jc_seq ?_
    refine jc_region ?_
    refine jo_f [(0, 0), (0, 0)] (by kernel_rfl) ?_
    refine toO (by kernel_rfl) (p_s 0 [2] (by kernel_rfl) (by kernel_rfl) (jkO ?_))
    refine jo_f [(0, 0)] (by kernel_rfl) ?_
    refine jo_end (by kernel_rfl) ?_
    refine jx_then ?_
    refine jc_ret ?_
    refine jx_thenr ?_
    obtain rfl := Option.some.inj h
    refine jx_ghost 58 encGWornPin ?_
    refine jx_ghost 2 encI64 ?_
    exact jx_ret [2] (.tuple #[(.agg #[(.slice none 0 0), (.slice none 0 0)]), (.int .i64 t_4)]) [(b_3, b_3), (b_3, b_3)] rfl (by kernel_rfl) (by kernel_rfl) (fun w hm => ⟨none, 0, [], 0, rfl, (fun e => absurd rfl e), (fun _ => ⟨rfl, rfl⟩), none, 0, [], 0, rfl, (fun e => absurd rfl e), (fun _ => ⟨rfl, rfl⟩), rfl, hm.pick [4, 5] (by kernel_rfl) (by kernel_rfl)⟩)
  · replace h := ifF hc_15 h
    refine jc_skip ?_
    refine jx_then ?_
    refine jc_seq ?_
    refine jc_region ?_
    refine jo_f [(1, 0)] (by kernel_rfl) ?_
    obtain ⟨t_5, ht_16, h⟩ := bd h
    refine toO (by kernel_rfl) (p_call 0 31 #[(.agg #[(.slice w1_fPins_a w1.fPins.length w1_fPins_c), (.slice w1_fStrokes_a w1.fStrokes.length w1_fStrokes_c)])] (by kernel_rfl) (by kernel_rfl) (fun w hm => impl_Wear_own.calls w1 w _ w1_fPins_a w1.fPins.length w1_fPins_c (hm.exRow w1_fPins_h List.not_mem_nil) rfl w1_fStrokes_a w1.fStrokes.length w1_fStrokes_c (hm.exRow w1_fStrokes_h List.not_mem_nil) rfl ht_16) ?_)
    rintro w v w' hm ⟨o_17, cap_18, sp_19, _, rfl, hs_20, ho_21, o_22, cap_23, sp_24, _, rfl, hs_25, ho_26, rfl, hm'⟩
    refine ⟨_, hm.app hm', jkO ?_⟩
    clear hm hm'
    refine toO (by kernel_rfl) (p_a 0 [0] (by kernel_rfl) (fun b => by kernel_rfl) (fun b_27 => jkO ?_))
    refine toO (by kernel_rfl) (p_s 0 [6] (by kernel_rfl) (by kernel_rfl) (jkO ?_))
    refine jo_end (by kernel_rfl) ?_
    refine jx_then ?_
    refine jc_seq ?_
    refine jc_seq ?_
    refine jc_region ?_
    refine jo_f [(0, 0), (6, 0), (0, 0), (0, 0)] (by kernel_rfl) ?_
    refine jo_end (by kernel_rfl) ?_
    refine jx_then ?_
    refine jc_meet (fun (j : (List GWornPin)) => match j with | xs_6 => impl_TurnWear.k_7 f0 w1 turns2 t_5 xs_6 = some r ∧ (xs_6.length = t_5.fPins.length) ∧ ((o_17 = none → xs_6 = [] ∧ cap_18 = 0))) (fun (j : (List GWornPin)) => match j with | xs_6 => [(2, [], (.int .i64 turns2)), (3, [], (.pointer (some ⟨b_1, 0, none⟩))), (4, [], (.pointer (some ⟨b_2, 0, none⟩))), (6, [], (.pointer (some ⟨b_3, 0, none⟩))), (7, [], (.int .i64 0)), (9, [], (.pointer (some ⟨b_27, 0, none⟩)))]) (fun (j : (List GWornPin)) => match j with | xs_6 => [⟨some b_1, 27, [(.int .i16 f0.fSteps), (.slice f0_fHammers_a f0.fHammers.length f0_fHammers_c)]⟩, ⟨some b_2, 32, [(.slice w1_fPins_a w1.fPins.length w1_fPins_c), (.slice w1_fStrokes_a w1.fStrokes.length w1_fStrokes_c)]⟩, ⟨some b_3, 32, [(.slice none 0 0), (.slice none 0 0)]⟩, ⟨(some b_13), 2, row encI64 [t_1, t_3] []⟩, ⟨o_17, 58, row encGWornPin xs_6 sp_19⟩, ⟨o_22, 2, row encI64 t_5.fStrokes sp_24⟩, ⟨some b_27, 32, [(.slice (o_17.map fun b => ⟨b, 0, none⟩) t_5.fPins.length cap_18), (.slice (o_22.map fun b => ⟨b, 0, none⟩) t_5.fStrokes.length cap_23)]⟩]) ?_ ?_
    · refine jc_block ?_
      obtain ⟨t_23, ht_239, hr_232⟩ := bd h
      refine jc_loop (fun (s : (List GWornPin) × Int) (x : Unit) => match s, x with | ⟨xs_20, i_21⟩, _ => (xs_20.length = t_5.fPins.length) ∧ ((o_17 = none → xs_20 = [] ∧ cap_18 = 0))) (fun (s : (List GWornPin) × Int) (x : Unit) => match s, x with | ⟨xs_20, i_21⟩, _ => [(2, [], (.int .i64 turns2)), (3, [], (.pointer (some ⟨b_1, 0, none⟩))), (4, [], (.pointer (some ⟨b_2, 0, none⟩))), (6, [], (.pointer (some ⟨b_3, 0, none⟩))), (7, [], (.int .i64 0)), (9, [], (.pointer (some ⟨b_27, 0, none⟩))), (29, [], (.int .i64 (t_5.fPins.length : Int))), (30, [], (.int .i64 i_21))]) (fun (s : (List GWornPin) × Int) (x : Unit) => match s, x with | ⟨xs_20, i_21⟩, _ => [⟨some b_1, 27, [(.int .i16 f0.fSteps), (.slice f0_fHammers_a f0.fHammers.length f0_fHammers_c)]⟩, ⟨some b_2, 32, [(.slice w1_fPins_a w1.fPins.length w1_fPins_c), (.slice w1_fStrokes_a w1.fStrokes.length w1_fStrokes_c)]⟩, ⟨some b_3, 32, [(.slice none 0 0), (.slice none 0 0)]⟩, ⟨(some b_13), 2, row encI64 [t_1, t_3] []⟩, ⟨o_17, 58, row encGWornPin xs_20 sp_19⟩, ⟨o_22, 2, row encI64 t_5.fStrokes sp_24⟩, ⟨some b_27, 32, [(.slice (o_17.map fun b => ⟨b, 0, none⟩) t_5.fPins.length cap_18), (.slice (o_22.map fun b => ⟨b, 0, none⟩) t_5.fStrokes.length cap_23)]⟩]) ht_239 () ⟨rfl, ho_21⟩ (by kernel_rfl) [0, 1, 2, 3, 4, 5, 6] (by kernel_rfl) (by kernel_rfl) ?_
      rintro ⟨xs_20, i_21⟩ _ y_233 ⟨hn_231, ho_230⟩ h
      rw [impl_TurnWear.l_22] at h
      refine jc_seq ?_
      refine jc_region ?_
      refine jo_f [(0, 0)] (by kernel_rfl) ?_
      refine jo_end (by kernel_rfl) ?_
      refine jx_then ?_
      refine jc_seq ?_
      refine jc_cond (decide (i_21 < (t_5.fPins.length : Int))) (by kernel_rfl) (fun hc_235 => ?_) (fun hc_235 => ?_)
      · replace h := ifT hc_235 h
        refine jc_skip ?_
        refine jx_then ?_
        refine jc_seq ?_
        refine jc_block ?_
        refine jc_seq ?_
        refine jc_region ?_
        refine jo_f [(0, 0), (0, 0)] (by kernel_rfl) ?_
        refine jo_end (by kernel_rfl) ?_
        refine jx_then ?_
        refine jc_region ?_
        refine jo_f [(0, 0), (6, 0), (0, 0)] (by kernel_rfl) ?_
        obtain ⟨x_24, hx_236, h⟩ := bd h
        refine toO (by kernel_rfl) (p_idx 0 (o_17.map fun b => ⟨b, 0, none⟩) t_5.fPins.length i_21 3 (by kernel_rfl) (by kernel_rfl) (ix_some hx_236).1 (ltn hx_236 hn_231) (spo ho_230 hx_236) (jkO ?_))
        refine jo_f [(0, 0)] (by kernel_rfl) ?_
        refine toO (by kernel_rfl) (p_ld 0 (aB (o_17.map fun b => ⟨b, 0, none⟩)) (aO (o_17.map fun b => ⟨b, 0, none⟩) + i_21.toNat * 3 + 2) false (((encGWornPin x_24).drop 2).take 1) (by kernel_rfl) (by kernel_rfl) (by kernel_rfl) (fun w hm => (((hm.ownRow (hh := 4) (o := o_17) (T := 58) (enc := encGWornPin) (xs := xs_20) (sp := sp_19) (by kernel_rfl) (fun e => (ho_230 e).1) encGWornPin_len).at hx_236).sub 2 1)) (jkO ?_))
        refine jo_f [(0, 0), (0, 0)] (by kernel_rfl) ?_
        obtain ⟨x_25, hx_237, h⟩ := bd h
        refine toO (by kernel_rfl) (p_idx 0 (o_17.map fun b => ⟨b, 0, none⟩) t_5.fPins.length i_21 3 (by kernel_rfl) (by kernel_rfl) (ix_some hx_237).1 (ltn hx_237 hn_231) (spo ho_230 hx_237) (jkO ?_))
        refine jo_f [(0, 0)] (by kernel_rfl) ?_
        refine toO (by kernel_rfl) (p_strO 0 4 o_17 58 encGWornPin xs_20 sp_19 i_21 (⟨x_25.fStep, x_25.fTrack, (w64 (x_24.fTurns + turns2))⟩ : GWornPin) 3 2 [(.int .i64 (w64 (x_24.fTurns + turns2)))] (by kernel_rfl) (by kernel_rfl) (by kernel_rfl) (fun e => (ho_230 e).1) encGWornPin_len hx_237 (by kernel_rfl) (by kernel_rfl) (jkO ?_))
        refine jo_end (by kernel_rfl) ?_
        refine jx_inn ?_
        refine jx_then ?_
        refine jc_region ?_
        refine jo_f [(0, 0), (0, 0)] (by kernel_rfl) ?_
        refine jo_end (by kernel_rfl) ?_
        exact jx_back ((xs_20.set i_21.toNat (⟨x_25.fStep, x_25.fTrack, (w64 (x_24.fTurns + turns2))⟩ : GWornPin)), (w64 (i_21 + 1))) () (Option.some.inj h).symm ⟨(List.length_set.trans hn_231), (set_ho ho_230)⟩ [0, 1, 2, 3, 4, 5, 6] (by kernel_rfl) (by kernel_rfl) (by kernel_rfl)
      · replace h := ifF hc_235 h
        refine jc_exit ?_
        refine jx_thenx ?_
        refine jx_leave xs_20 (Option.some.inj h).symm (fun e_238 => ?_)
        subst e_238
        refine jx_ine ?_
        exact jx_meet xs_20 ⟨hr_232, hn_231, ho_230⟩ (by kernel_rfl) [0, 1, 2, 3, 4, 5, 6] (by kernel_rfl) (by kernel_rfl)
    · rintro xs_6 ⟨h, hn_91, ho_90⟩
      replace h : impl_TurnWear.k_7 f0 w1 turns2 t_5 xs_6 = some r := h
      rw [impl_TurnWear.k_7] at h
      refine jx_then ?_
      refine jc_seq ?_
      refine jc_seq ?_
      refine jc_draw [⟨some b_1, 27, [(.int .i16 f0.fSteps), (.slice f0_fHammers_a f0.fHammers.length f0_fHammers_c)]⟩, ⟨some b_2, 32, [(.slice w1_fPins_a w1.fPins.length w1_fPins_c), (.slice w1_fStrokes_a w1.fStrokes.length w1_fStrokes_c)]⟩, ⟨some b_3, 32, [(.slice none 0 0), (.slice none 0 0)]⟩, ⟨(some b_13), 2, row encI64 [t_1, t_3] []⟩, ⟨o_17, 58, row encGWornPin xs_6 sp_19⟩, ⟨o_22, 2, row encI64 t_5.fStrokes sp_24⟩, ⟨some b_27, 32, [(.slice (o_17.map fun b => ⟨b, 0, none⟩) t_5.fPins.length cap_18), (.slice (o_22.map fun b => ⟨b, 0, none⟩) t_5.fStrokes.length cap_23)]⟩] 6 (by kernel_rfl) (by kernel_rfl) ?_
      refine jd_f [⟨0, 0, 0⟩, ⟨1, 1, 0⟩, ⟨5, 0, 0⟩] 3 (by kernel_rfl) (by kernel_rfl) (fun w h => h.pick [0, 1, 2, 3, 4, 5, 6] (by kernel_rfl) (by kernel_rfl)) (by kernel_rfl) (by kernel_rfl) ?_
      obtain ⟨t_8, ht_161, h⟩ := bd h
      refine toD 2 (by kernel_rfl) (p_call 0 33 #[(.agg #[(.slice w1_fPins_a w1.fPins.length w1_fPins_c), (.slice w1_fStrokes_a w1.fStrokes.length w1_fStrokes_c)])] (by kernel_rfl) (by kernel_rfl) (fun w hm => impl_Wear_drum.calls w1 w _ w1_fPins_a w1.fPins.length w1_fPins_c (hm.exRow w1_fPins_h List.not_mem_nil) rfl w1_fStrokes_a w1.fStrokes.length w1_fStrokes_c (hm.exRow w1_fStrokes_h List.not_mem_nil) rfl ht_161) ?_)
      rintro w v w' hm ⟨rfl, hm'⟩
      refine ⟨_, hm.app hm', jkD (fun w h => h.pick [0, 1, 2, 3, 4, 5, 6] (by kernel_rfl) (by kernel_rfl)) ?_⟩
      clear hm hm'
      obtain ⟨t_9, ht_162, h⟩ := bd h
      refine toD 3 (by kernel_rfl) (p_call 0 32 #[(.agg #[(.int .i16 f0.fSteps), (.slice f0_fHammers_a f0.fHammers.length f0_fHammers_c)]), (.agg (row encU32 t_8.1 []).toArray)] (by kernel_rfl) (by kernel_rfl) (fun w hm => impl_Frame_byTrack.calls f0 t_8 w _ f0_fHammers_a f0.fHammers.length f0_fHammers_c (hm.exRow f0_fHammers_h List.not_mem_nil) rfl ht_162) ?_)
      rintro w v w' hm ⟨o_163, cap_164, sp_165, _, rfl, hs_166, ho_167, rfl, hm'⟩
      refine ⟨_, hm.app hm', jkD (fun w h => h.pick [0, 1, 2, 3, 4, 5, 6] (by kernel_rfl) (by kernel_rfl)) ?_⟩
      clear hm hm'
      refine jd_f [⟨4, 0, 0⟩] 0 (by kernel_rfl) (by kernel_rfl) (fun w h => h.pick [0, 1, 2, 3, 4, 5, 6] (by kernel_rfl) (by kernel_rfl)) (by kernel_rfl) (by kernel_rfl) ?_
      refine jd_end (by kernel_rfl) ?_
      refine jx_then ?_
      refine jc_meet (fun (j : (List Int)) => match j with | xs_10 => impl_TurnWear.k_11 f0 xs_6 xs_10 = some r ∧ (xs_10.length = t_5.fStrokes.length) ∧ ((o_22 = none → xs_10 = [] ∧ cap_23 = 0))) (fun (j : (List Int)) => match j with | xs_10 => [(3, [], (.pointer (some ⟨b_1, 0, none⟩))), (6, [], (.pointer (some ⟨b_3, 0, none⟩))), (7, [], (.int .i64 0)), (9, [], (.pointer (some ⟨b_27, 0, none⟩)))]) (fun (j : (List Int)) => match j with | xs_10 => [⟨some b_1, 27, [(.int .i16 f0.fSteps), (.slice f0_fHammers_a f0.fHammers.length f0_fHammers_c)]⟩, ⟨some b_2, 32, [(.slice w1_fPins_a w1.fPins.length w1_fPins_c), (.slice w1_fStrokes_a w1.fStrokes.length w1_fStrokes_c)]⟩, ⟨some b_3, 32, [(.slice none 0 0), (.slice none 0 0)]⟩, ⟨(some b_13), 2, row encI64 [t_1, t_3] []⟩, ⟨o_17, 58, row encGWornPin xs_6 sp_19⟩, ⟨o_22, 2, row encI64 xs_10 sp_24⟩, ⟨some b_27, 32, [(.slice (o_17.map fun b => ⟨b, 0, none⟩) t_5.fPins.length cap_18), (.slice (o_22.map fun b => ⟨b, 0, none⟩) t_5.fStrokes.length cap_23)]⟩, ⟨o_163, 2, row encI64 t_9 sp_165⟩]) ?_ ?_
      · refine jc_block ?_
        obtain ⟨t_16, ht_219, hr_211⟩ := bd h
        refine jc_loop (fun (s : (List Int) × Int) (x : Unit) => match s, x with | ⟨xs_13, i_14⟩, _ => (xs_13.length = t_5.fStrokes.length) ∧ ((o_22 = none → xs_13 = [] ∧ cap_23 = 0))) (fun (s : (List Int) × Int) (x : Unit) => match s, x with | ⟨xs_13, i_14⟩, _ => [(2, [], (.int .i64 turns2)), (3, [], (.pointer (some ⟨b_1, 0, none⟩))), (6, [], (.pointer (some ⟨b_3, 0, none⟩))), (7, [], (.int .i64 0)), (9, [], (.pointer (some ⟨b_27, 0, none⟩))), (47, [], (.slice (o_163.map fun b => ⟨b, 0, none⟩) t_9.length cap_164)), (48, [], (.int .i64 (t_9.length : Int))), (49, [], (.int .i64 i_14))]) (fun (s : (List Int) × Int) (x : Unit) => match s, x with | ⟨xs_13, i_14⟩, _ => [⟨some b_1, 27, [(.int .i16 f0.fSteps), (.slice f0_fHammers_a f0.fHammers.length f0_fHammers_c)]⟩, ⟨some b_2, 32, [(.slice w1_fPins_a w1.fPins.length w1_fPins_c), (.slice w1_fStrokes_a w1.fStrokes.length w1_fStrokes_c)]⟩, ⟨some b_3, 32, [(.slice none 0 0), (.slice none 0 0)]⟩, ⟨(some b_13), 2, row encI64 [t_1, t_3] []⟩, ⟨o_17, 58, row encGWornPin xs_6 sp_19⟩, ⟨o_22, 2, row encI64 xs_13 sp_24⟩, ⟨some b_27, 32, [(.slice (o_17.map fun b => ⟨b, 0, none⟩) t_5.fPins.length cap_18), (.slice (o_22.map fun b => ⟨b, 0, none⟩) t_5.fStrokes.length cap_23)]⟩, ⟨o_163, 2, row encI64 t_9 sp_165⟩]) ht_219 () ⟨rfl, ho_26⟩ (by kernel_rfl) [0, 1, 2, 3, 4, 5, 6, 7] (by kernel_rfl) (by kernel_rfl) ?_
        rintro ⟨xs_13, i_14⟩ _ y_212 ⟨hn_210, ho_209⟩ h
        rw [impl_TurnWear.l_15] at h
        refine jc_seq ?_
        refine jc_region ?_
        refine jo_f [(0, 0)] (by kernel_rfl) ?_
        refine jo_end (by kernel_rfl) ?_
        refine jx_then ?_
        refine jc_seq ?_
        refine jc_cond (decide (i_14 < (t_9.length : Int))) (by kernel_rfl) (fun hc_214 => ?_) (fun hc_214 => ?_)
        · replace h := ifT hc_214 h
          refine jc_skip ?_
          refine jx_then ?_
          refine jc_seq ?_
          refine jc_block ?_
          refine jc_seq ?_
          refine jc_region ?_
          refine jo_f [(0, 0)] (by kernel_rfl) ?_
          obtain ⟨x_17, hx_215, h⟩ := bd h
          refine toO (by kernel_rfl) (p_idx 0 (o_163.map fun b => ⟨b, 0, none⟩) t_9.length i_14 1 (by kernel_rfl) (by kernel_rfl) (ix_some hx_215).1 (ltn hx_215 rfl) (spo ho_167 hx_215) (jkO ?_))
          refine toO (by kernel_rfl) (p_ld 0 (aB (o_163.map fun b => ⟨b, 0, none⟩)) (aO (o_163.map fun b => ⟨b, 0, none⟩) + i_14.toNat * 1) false (encI64 x_17) (by kernel_rfl) (by kernel_rfl) (by kernel_rfl) (fun w hm => ((hm.ownRow (hh := 7) (o := o_163) (T := 2) (enc := encI64) (xs := t_9) (sp := sp_165) (by kernel_rfl) (fun e => (ho_167 e).1) encI64_len).at hx_215)) (jkO ?_))
          refine jo_f [(0, 0), (0, 0)] (by kernel_rfl) ?_
          refine jo_end (by kernel_rfl) ?_
          refine jx_then ?_
          refine jc_region ?_
          refine jo_f [(0, 0), (6, 0), (0, 0)] (by kernel_rfl) ?_
          obtain ⟨x_18, hx_216, h⟩ := bd h
          refine toO (by kernel_rfl) (p_idx 0 (o_22.map fun b => ⟨b, 0, none⟩) t_5.fStrokes.length i_14 1 (by kernel_rfl) (by kernel_rfl) (ix_some hx_216).1 (ltn hx_216 hn_210) (spo ho_209 hx_216) (jkO ?_))
          refine toO (by kernel_rfl) (p_ld 0 (aB (o_22.map fun b => ⟨b, 0, none⟩)) (aO (o_22.map fun b => ⟨b, 0, none⟩) + i_14.toNat * 1) false (encI64 x_18) (by kernel_rfl) (by kernel_rfl) (by kernel_rfl) (fun w hm => ((hm.ownRow (hh := 5) (o := o_22) (T := 2) (enc := encI64) (xs := xs_13) (sp := sp_24) (by kernel_rfl) (fun e => (ho_209 e).1) encI64_len).at hx_216)) (jkO ?_))
          refine jo_f [(0, 0), (0, 0), (0, 0), (0, 0)] (by kernel_rfl) ?_
          obtain ⟨x_19, hx_217, h⟩ := bd h
          refine toO (by kernel_rfl) (p_idx 0 (o_22.map fun b => ⟨b, 0, none⟩) t_5.fStrokes.length i_14 1 (by kernel_rfl) (by kernel_rfl) (ix_some hx_217).1 (ltn hx_217 hn_210) (spo ho_209 hx_217) (jkO ?_))
          refine toO (by kernel_rfl) (p_strO 0 5 o_22 2 encI64 xs_13 sp_24 i_14 (w64 (x_18 + (w64 (x_17 * turns2)))) 1 0 [(.int .i64 (w64 (x_18 + (w64 (x_17 * turns2)))))] (by kernel_rfl) (by kernel_rfl) (by kernel_rfl) (fun e => (ho_209 e).1) encI64_len hx_217 (by kernel_rfl) (by kernel_rfl) (jkO ?_))
          refine jo_end (by kernel_rfl) ?_
          refine jx_inn ?_
          refine jx_then ?_
          refine jc_region ?_
          refine jo_f [(0, 0), (0, 0)] (by kernel_rfl) ?_
          refine jo_end (by kernel_rfl) ?_
          exact jx_back ((xs_13.set i_14.toNat (w64 (x_18 + (w64 (x_17 * turns2))))), (w64 (i_14 + 1))) () (Option.some.inj h).symm ⟨(List.length_set.trans hn_210), (set_ho ho_209)⟩ [0, 1, 2, 3, 4, 5, 6, 7] (by kernel_rfl) (by kernel_rfl) (by kernel_rfl)
        · replace h := ifF hc_214 h
          refine jc_exit ?_
          refine jx_thenx ?_
          refine jx_leave xs_13 (Option.some.inj h).symm (fun e_218 => ?_)
          subst e_218
          refine jx_ine ?_
          exact jx_meet xs_13 ⟨hr_211, hn_210, ho_209⟩ (by kernel_rfl) [0, 1, 2, 3, 4, 5, 6, 7] (by kernel_rfl) (by kernel_rfl)
      · rintro xs_10 ⟨h, hn_192, ho_191⟩
        replace h : impl_TurnWear.k_11 f0 xs_6 xs_10 = some r := h
        rw [impl_TurnWear.k_11] at h
        refine jx_then ?_
        refine jc_seq ?_
        refine jc_seq ?_
        refine jc_region ?_
        refine jo_f [(0, 0), (6, 0)] (by kernel_rfl) ?_
        obtain ⟨t_12, ht_195, h⟩ := bd h
        refine toO (by kernel_rfl) (p_call 0 20 #[(.agg #[(.int .i16 f0.fSteps), (.slice f0_fHammers_a f0.fHammers.length f0_fHammers_c)]), (.agg #[(.slice (o_17.map fun b => ⟨b, 0, none⟩) t_5.fPins.length cap_18), (.slice (o_22.map fun b => ⟨b, 0, none⟩) t_5.fStrokes.length cap_23)])] (by kernel_rfl) (by kernel_rfl) (fun w hm => impl_ValidWear.calls f0 (⟨xs_6, xs_10⟩ : GWear) w _ f0_fHammers_a f0.fHammers.length f0_fHammers_c (hm.exRow f0_fHammers_h List.not_mem_nil) rfl (o_17.map fun b => ⟨b, 0, none⟩) t_5.fPins.length cap_18 (hm.ownRow (hh := 4) (o := o_17) (T := 58) (enc := encGWornPin) (xs := xs_6) (sp := sp_19) (by kernel_rfl) (fun e => (ho_90 e).1) encGWornPin_len) hn_91 (o_22.map fun b => ⟨b, 0, none⟩) t_5.fStrokes.length cap_23 (hm.ownRow (hh := 5) (o := o_22) (T := 2) (enc := encI64) (xs := xs_10) (sp := sp_24) (by kernel_rfl) (fun e => (ho_191 e).1) encI64_len) hn_192 ht_195) ?_)
        rintro w v w' hm ⟨rfl, hm'⟩
        refine ⟨_, hm.app hm', jkO ?_⟩
        clear hm hm'
        refine jo_f [(0, 0)] (by kernel_rfl) ?_
        refine jo_end (by kernel_rfl) ?_
        refine jx_then ?_
        refine jc_cond (!t_12) (by kernel_rfl) (fun hc_196 => ?_) (fun hc_196 => ?_)
        · replace h := ifT hc_196 h
          refine jc_seq ?_
          refine jc_region ?_
          refine jo_f [(0, 0)] (by kernel_rfl) ?_
          refine toO (by kernel_rfl) (p_s 0 [2] (by kernel_rfl) (by kernel_rfl) (jkO ?_))
          refine jo_f [(0, 0)] (by kernel_rfl) ?_
          refine jo_end (by kernel_rfl) ?_
          refine jx_then ?_
          refine jc_ret ?_
          refine jx_thenr ?_
          obtain rfl := Option.some.inj h
          refine jx_ghost 58 encGWornPin ?_
          refine jx_ghost 2 encI64 ?_
          exact jx_ret [2] (.tuple #[(.agg #[(.slice none 0 0), (.slice none 0 0)]), (.int .i64 3)]) [(b_3, b_3), (b_3, b_3)] rfl (by kernel_rfl) (by kernel_rfl) (fun w hm => ⟨none, 0, [], 0, rfl, (fun e => absurd rfl e), (fun _ => ⟨rfl, rfl⟩), none, 0, [], 0, rfl, (fun e => absurd rfl e), (fun _ => ⟨rfl, rfl⟩), rfl, hm.pick [8, 9] (by kernel_rfl) (by kernel_rfl)⟩)
        · replace h := ifF hc_196 h
          refine jc_skip ?_
          refine jx_then ?_
          refine jc_seq ?_
          refine jc_region ?_
          refine jo_f [(6, 0)] (by kernel_rfl) ?_
          refine toO (by kernel_rfl) (p_s 0 [2] (by kernel_rfl) (by kernel_rfl) (jkO ?_))
          refine jo_f [(0, 0)] (by kernel_rfl) ?_
          refine jo_end (by kernel_rfl) ?_
          refine jx_then ?_
          refine jc_ret ?_
          obtain rfl := Option.some.inj h
          exact jx_ret [2] (.tuple #[(.agg #[(.slice (o_17.map fun b => ⟨b, 0, none⟩) t_5.fPins.length cap_18), (.slice (o_22.map fun b => ⟨b, 0, none⟩) t_5.fStrokes.length cap_23)]), (.int .i64 0)]) [(b_3, b_3), (b_3, b_3)] rfl (by kernel_rfl) (by kernel_rfl) (fun w hm => ⟨o_17, cap_18, sp_19, t_5.fPins.length, hn_91, hs_20, ho_90, o_22, cap_23, sp_24, t_5.fStrokes.length, hn_192, hs_25, ho_191, rfl, hm.pick [4, 5] (by kernel_rfl) (by kernel_rfl)⟩)

/-! ### spec.l06Place -/
noncomputable def spec_l06Place (f0 : GFrame) (step1 : Int) (track2 : Int) : Option (Bool) := (spec_l00In step1 0 (w64 ((w64 f0.fSteps) - 1))).bind fun t_1 => (if t_1 = true then (spec_l00In track2 0 (w64 ((f0.fHammers.length : Int) - 1))).bind fun t_2 => some t_2 else some false)
set_option maxRecDepth 100000 in
theorem spec_l06Place.calls (f0 : GFrame) (step1 : Int) (track2 : Int) (w : World) (r : Bool) (f0_fHammers_a : Option Addr) (f0_fHammers_an : Nat) (f0_fHammers_c : Nat) (f0_fHammers_h : Rw w f0_fHammers_a 2 encGHammer f0.fHammers) (f0_fHammers_hn : f0.fHammers.length = f0_fHammers_an) (f0_b : Nat) (hm0 : Mem w (bs [some f0_b]) [⟨some f0_b, 27, [(.int .i16 f0.fSteps), (.slice f0_fHammers_a f0_fHammers_an f0_fHammers_c)]⟩] w) (f0_fHammers_ha : f0.fHammers ≠ [] → aB f0_fHammers_a ∉ bs [some f0_b]) (h : spec_l06Place f0 step1 track2 = some r) :
    Calls Try.prog 68 #[(.pointer (some ⟨f0_b, 0, none⟩)), (.int .i64 step1), (.int .i64 track2)] w fun e w' => ∃ v, e = .returned v ∧ (v = (.bool r) ∧ Mem w (bs [some f0_b]) [⟨some f0_b, 27, [(.int .i16 f0.fSteps), (.slice f0_fHammers_a f0_fHammers_an f0_fHammers_c)]⟩] w') := by
  subst f0_fHammers_hn
  rw [spec_l06Place] at h
  refine enter (args := [(.pointer (some ⟨f0_b, 0, none⟩)), (.int .i64 step1), (.int .i64 track2)]) Try.func68 rfl Try.ntmps68 (by kernel_rfl) (L := [⟨some f0_b, 27, [(.int .i16 f0.fSteps), (.slice f0_fHammers_a f0.fHammers.length f0_fHammers_c)]⟩]) (W := bs [some f0_b]) hm0 ?_
  refine jc_seq ?_
  refine jc_region ?_
  refine jo_f [(0, 0)] (by kernel_rfl) ?_
  refine jo_end (by kernel_rfl) ?_
  refine jx_then ?_
  refine jc_seq ?_
  refine jc_region ?_
  refine jo_f [(0, 0), (0, 0), (0, 0), (0, 0), (0, 0), (0, 0), (0, 0)] (by kernel_rfl) ?_
  obtain ⟨t_1, ht_1, h⟩ := bd h
  refine toO (by kernel_rfl) (p_call 0 70 #[(.int .i64 step1), (.int .i64 0), (.int .i64 (w64 ((w64 f0.fSteps) - 1)))] (by kernel_rfl) (by kernel_rfl) (fun w hm => spec_l00In.calls step1 0 (w64 ((w64 f0.fSteps) - 1)) w _ ht_1) ?_)
  rintro w v w' hm ⟨rfl, hm'⟩
  refine ⟨_, hm.app hm', jkO ?_⟩
  clear hm hm'
  refine jo_f [(0, 0), (0, 1), (0, 1), (0, 1), (0, 1), (0, 1), (0, 1), (0, 1)] (by kernel_rfl) ?_
  refine jo_split 15 t_1 (by kernel_rfl) (fun hc_2 => ?_) (fun hc_2 => ?_)
  · replace h := ifT hc_2 h
    obtain ⟨t_2, ht_3, h⟩ := bd h
    refine toO (by kernel_rfl) (p_call 2 70 #[(.int .i64 track2), (.int .i64 0), (.int .i64 (w64 ((f0.fHammers.length : Int) - 1)))] (by kernel_rfl) (by kernel_rfl) (fun w hm => spec_l00In.calls track2 0 (w64 ((f0.fHammers.length : Int) - 1)) w _ ht_3) ?_)
    rintro w v w' hm ⟨rfl, hm'⟩
    refine ⟨_, hm.app hm', jkO ?_⟩
    clear hm hm'
    refine jo_f [(0, 4), (0, 0)] (by kernel_rfl) ?_
    refine jo_end (by kernel_rfl) ?_
    refine jx_then ?_
    refine jc_ret ?_
    obtain rfl := Option.some.inj h
    exact jx_ret [] (.bool t_2) [] rfl (by kernel_rfl) (by kernel_rfl) (fun w hm => ⟨rfl, hm.pick [0] (by kernel_rfl) (by kernel_rfl)⟩)
  · replace h := ifF hc_2 h
    refine jo_f [(0, 3), (0, 5), (0, 0)] (by kernel_rfl) ?_
    refine jo_end (by kernel_rfl) ?_
    refine jx_then ?_
    refine jc_ret ?_
    obtain rfl := Option.some.inj h
    exact jx_ret [] (.bool false) [] rfl (by kernel_rfl) (by kernel_rfl) (fun w hm => ⟨rfl, hm.pick [0] (by kernel_rfl) (by kernel_rfl)⟩)

/-! ### spec.l06Turns -/
noncomputable def spec_l06Turns (n0 : Int) : Option (Bool) := (spec_l00In n0 0 1000000).bind fun t_1 => some t_1
set_option maxRecDepth 100000 in
theorem spec_l06Turns.calls (n0 : Int) (w : World) (r : Bool) (h : spec_l06Turns n0 = some r) :
    Calls Try.prog 35 #[(.int .i64 n0)] w fun e w' => ∃ v, e = .returned v ∧ (v = (.bool r) ∧ Mem w [] [] w') := by
  rw [spec_l06Turns] at h
  refine enter (args := [(.int .i64 n0)]) Try.func35 rfl Try.ntmps35 (by kernel_rfl) (L := []) (W := []) (Mem.start w) ?_
  refine jc_seq ?_
  refine jc_region ?_
  refine jo_f [(0, 0)] (by kernel_rfl) ?_
  refine jo_end (by kernel_rfl) ?_
  refine jx_then ?_
  refine jc_seq ?_
  refine jc_region ?_
  refine jo_f [(0, 0)] (by kernel_rfl) ?_
  obtain ⟨t_1, ht_1, h⟩ := bd h
  refine toO (by kernel_rfl) (p_call 0 70 #[(.int .i64 n0), (.int .i64 0), (.int .i64 1000000)] (by kernel_rfl) (by kernel_rfl) (fun w hm => spec_l00In.calls n0 0 1000000 w _ ht_1) ?_)
  rintro w v w' hm ⟨rfl, hm'⟩
  refine ⟨_, hm.app hm', jkO ?_⟩
  clear hm hm'
  refine jo_f [(0, 0)] (by kernel_rfl) ?_
  refine jo_end (by kernel_rfl) ?_
  refine jx_then ?_
  refine jc_ret ?_
  obtain rfl := Option.some.inj h
  exact jx_ret [] (.bool t_1) [] rfl (by kernel_rfl) (by kernel_rfl) (fun w hm => ⟨rfl, hm.pick [] (by kernel_rfl) (by kernel_rfl)⟩)

/-! ### spec.l06Before -/
noncomputable def spec_l06Before (a0 : GWornPin) (b1 : GWornPin) : Option (Bool) := (if (decide (a0.fStep < b1.fStep)) = true then some true else some ((a0.fStep == b1.fStep) && (decide (a0.fTrack < b1.fTrack))))
set_option maxRecDepth 100000 in
theorem spec_l06Before.calls (a0 : GWornPin) (b1 : GWornPin) (w : World) (r : Bool) (h : spec_l06Before a0 b1 = some r) :
    Calls Try.prog 69 #[(.agg #[(.int .i8 a0.fStep), (.int .i8 a0.fTrack), (.int .i64 a0.fTurns)]), (.agg #[(.int .i8 b1.fStep), (.int .i8 b1.fTrack), (.int .i64 b1.fTurns)])] w fun e w' => ∃ v, e = .returned v ∧ (v = (.bool r) ∧ Mem w [] [] w') := by
  rw [spec_l06Before] at h
  refine enter (args := [(.agg #[(.int .i8 a0.fStep), (.int .i8 a0.fTrack), (.int .i64 a0.fTurns)]), (.agg #[(.int .i8 b1.fStep), (.int .i8 b1.fTrack), (.int .i64 b1.fTurns)])]) Try.func69 rfl Try.ntmps69 (by kernel_rfl) (L := []) (W := []) (Mem.start w) ?_
  refine jc_seq ?_
  refine jc_region ?_
  refine toO (by kernel_rfl) (p_a 0 [0] (by kernel_rfl) (fun b => by kernel_rfl) (fun b_1 => jkO ?_))
  refine toO (by kernel_rfl) (p_a 0 [0] (by kernel_rfl) (fun b => by kernel_rfl) (fun b_2 => jkO ?_))
  refine jo_f [(0, 0)] (by kernel_rfl) ?_
  refine jo_end (by kernel_rfl) ?_
  refine jx_then ?_
  refine jc_seq ?_
  refine jc_region ?_
  refine jo_f [(0, 0), (0, 0), (0, 0), (1, 0), (0, 0), (0, 0), (0, 1), (0, 1), (0, 1), (1, 1), (0, 1)] (by kernel_rfl) ?_
  refine jo_split 10 (decide (a0.fStep < b1.fStep)) (by kernel_rfl) (fun hc_3 => ?_) (fun hc_3 => ?_)
  · replace h := ifT hc_3 h
    refine jo_f [(0, 3), (0, 3), (0, 3), (0, 3), (0, 3), (0, 3), (0, 3), (0, 4), (0, 0)] (by kernel_rfl) ?_
    refine jo_end (by kernel_rfl) ?_
    refine jx_then ?_
    refine jc_ret ?_
    obtain rfl := Option.some.inj h
    exact jx_ret [] (.bool true) [] rfl (by kernel_rfl) (by kernel_rfl) (fun w hm => ⟨rfl, hm.pick [] (by kernel_rfl) (by kernel_rfl)⟩)
  · replace h := ifF hc_3 h
    refine jo_f [(0, 2), (0, 1), (0, 1), (0, 1), (1, 1), (0, 1), (0, 2), (0, 5), (0, 0)] (by kernel_rfl) ?_
    refine jo_end (by kernel_rfl) ?_
    refine jx_then ?_
    refine jc_ret ?_
    obtain rfl := Option.some.inj h
    exact jx_ret [] (.bool ((a0.fStep == b1.fStep) && (decide (a0.fTrack < b1.fTrack)))) [] rfl (by kernel_rfl) (by kernel_rfl) (fun w hm => ⟨rfl, hm.pick [] (by kernel_rfl) (by kernel_rfl)⟩)

/-! ### spec.l06Ok -/
noncomputable def spec_l06Ok.k_3 : Option (Bool) := some true
noncomputable def spec_l06Ok.l_5 (w1 : GWear) : Int → Option ((Int) ⊕ (Bool ⊕ Unit))
  | i_4 => (if (decide (i_4 < (w1.fStrokes.length : Int))) = true then (ix w1.fStrokes i_4).bind fun x_7 => (spec_l06Turns x_7).bind fun t_8 => (if (!t_8) = true then some (.inr (.inl false)) else some (.inl (w64 (i_4 + 1)))) else some (.inr (.inr ())))
noncomputable def spec_l06Ok.k_2 (w1 : GWear) : Option (Bool) := (loop (spec_l06Ok.l_5 w1) 0).bind fun t_6 => match t_6 with | .inl p => some p | .inr p => spec_l06Ok.k_3
noncomputable def spec_l06Ok.k_14 (i_9 : Int) (q_13 : Bool) : Option ((Int) ⊕ (Bool ⊕ Unit)) := (if q_13 = true then some (.inr (.inl false)) else some (.inl (w64 (i_9 + 1))))
noncomputable def spec_l06Ok.l_10 (f0 : GFrame) (w1 : GWear) : Int → Option ((Int) ⊕ (Bool ⊕ Unit))
  | i_9 => (if (decide (i_9 < (w1.fPins.length : Int))) = true then (ix w1.fPins i_9).bind fun x_12 => (spec_l06Place f0 (w64 x_12.fStep) (w64 x_12.fTrack)).bind fun t_15 => (if (!t_15) = true then spec_l06Ok.k_14 i_9 true else (spec_l06Turns x_12.fTurns).bind fun t_16 => (if (!t_16) = true then spec_l06Ok.k_14 i_9 true else (if (decide (i_9 > 0)) = true then (ix w1.fPins (w64 (i_9 - 1))).bind fun x_17 => (spec_l06Before x_17 x_12).bind fun t_18 => spec_l06Ok.k_14 i_9 (!t_18) else spec_l06Ok.k_14 i_9 false))) else some (.inr (.inr ())))
noncomputable def spec_l06Ok (f0 : GFrame) (w1 : GWear) : Option (Bool) := (spec_l02Frame f0).bind fun t_1 => (if ((!t_1) || ((w1.fStrokes.length : Int) != (f0.fHammers.length : Int))) = true then some false else (loop (spec_l06Ok.l_10 f0 w1) 0).bind fun t_11 => match t_11 with | .inl p => some p | .inr p => spec_l06Ok.k_2 w1)
set_option maxRecDepth 100000 in
theorem spec_l06Ok.calls (f0 : GFrame) (w1 : GWear) (w : World) (r : Bool) (f0_fHammers_a : Option Addr) (f0_fHammers_an : Nat) (f0_fHammers_c : Nat) (f0_fHammers_h : Rw w f0_fHammers_a 2 encGHammer f0.fHammers) (f0_fHammers_hn : f0.fHammers.length = f0_fHammers_an) (w1_fPins_a : Option Addr) (w1_fPins_an : Nat) (w1_fPins_c : Nat) (w1_fPins_h : Rw w w1_fPins_a 3 encGWornPin w1.fPins) (w1_fPins_hn : w1.fPins.length = w1_fPins_an) (w1_fStrokes_a : Option Addr) (w1_fStrokes_an : Nat) (w1_fStrokes_c : Nat) (w1_fStrokes_h : Rw w w1_fStrokes_a 1 encI64 w1.fStrokes) (w1_fStrokes_hn : w1.fStrokes.length = w1_fStrokes_an) (f0_b : Nat) (w1_b : Nat) (hm0 : Mem w (bs [some f0_b, some w1_b]) [⟨some f0_b, 27, [(.int .i16 f0.fSteps), (.slice f0_fHammers_a f0_fHammers_an f0_fHammers_c)]⟩, ⟨some w1_b, 32, [(.slice w1_fPins_a w1_fPins_an w1_fPins_c), (.slice w1_fStrokes_a w1_fStrokes_an w1_fStrokes_c)]⟩] w) (f0_fHammers_ha : f0.fHammers ≠ [] → aB f0_fHammers_a ∉ bs [some f0_b, some w1_b]) (w1_fPins_ha : w1.fPins ≠ [] → aB w1_fPins_a ∉ bs [some f0_b, some w1_b]) (w1_fStrokes_ha : w1.fStrokes ≠ [] → aB w1_fStrokes_a ∉ bs [some f0_b, some w1_b]) (h : spec_l06Ok f0 w1 = some r) :
    Calls Try.prog 34 #[(.pointer (some ⟨f0_b, 0, none⟩)), (.pointer (some ⟨w1_b, 0, none⟩))] w fun e w' => ∃ v, e = .returned v ∧ (v = (.bool r) ∧ Mem w (bs [some f0_b, some w1_b]) [⟨some f0_b, 27, [(.int .i16 f0.fSteps), (.slice f0_fHammers_a f0_fHammers_an f0_fHammers_c)]⟩, ⟨some w1_b, 32, [(.slice w1_fPins_a w1_fPins_an w1_fPins_c), (.slice w1_fStrokes_a w1_fStrokes_an w1_fStrokes_c)]⟩] w') := by
  subst f0_fHammers_hn w1_fPins_hn w1_fStrokes_hn
  rw [spec_l06Ok] at h
  refine enter (args := [(.pointer (some ⟨f0_b, 0, none⟩)), (.pointer (some ⟨w1_b, 0, none⟩))]) Try.func34 rfl Try.ntmps34 (by kernel_rfl) (L := [⟨some f0_b, 27, [(.int .i16 f0.fSteps), (.slice f0_fHammers_a f0.fHammers.length f0_fHammers_c)]⟩, ⟨some w1_b, 32, [(.slice w1_fPins_a w1.fPins.length w1_fPins_c), (.slice w1_fStrokes_a w1.fStrokes.length w1_fStrokes_c)]⟩]) (W := bs [some f0_b, some w1_b]) hm0 ?_
  refine jc_seq ?_
  refine jc_region ?_
  refine jo_f [(0, 0)] (by kernel_rfl) ?_
  refine jo_end (by kernel_rfl) ?_
  refine jx_then ?_
  refine jc_seq ?_
  refine jc_seq ?_
  refine jc_draw [⟨some f0_b, 27, [(.int .i16 f0.fSteps), (.slice f0_fHammers_a f0.fHammers.length f0_fHammers_c)]⟩, ⟨some w1_b, 32, [(.slice w1_fPins_a w1.fPins.length w1_fPins_c), (.slice w1_fStrokes_a w1.fStrokes.length w1_fStrokes_c)]⟩] 16 (by kernel_rfl) (by kernel_rfl) ?_
  refine jd_f [⟨0, 0, 0⟩] 15 (by kernel_rfl) (by kernel_rfl) (fun w h => h.pick [0, 1] (by kernel_rfl) (by kernel_rfl)) (by kernel_rfl) (by kernel_rfl) ?_
  obtain ⟨t_1, ht_5, h⟩ := bd h
  refine toD 1 (by kernel_rfl) (p_call 0 67 #[(.pointer (some ⟨f0_b, 0, none⟩))] (by kernel_rfl) (by kernel_rfl) (fun w hm => spec_l02Frame.calls f0 w _ f0_fHammers_a f0.fHammers.length f0_fHammers_c (hm.exRowW f0_fHammers_h f0_fHammers_ha) rfl f0_b (hm.pass (N := [⟨some f0_b, 27, [(.int .i16 f0.fSteps), (.slice f0_fHammers_a f0.fHammers.length f0_fHammers_c)]⟩]) [0] (by kernel_rfl) (by kernel_rfl)) (hm.exApart (N := [⟨some f0_b, 27, [(.int .i16 f0.fSteps), (.slice f0_fHammers_a f0.fHammers.length f0_fHammers_c)]⟩]) f0_fHammers_h f0_fHammers_ha [0] (by kernel_rfl)) ht_5) ?_)
  rintro w v w' hm ⟨rfl, hm'⟩
  refine ⟨_, hm.appW (ps := [(0, ⟨some f0_b, 27, [(.int .i16 f0.fSteps), (.slice f0_fHammers_a f0.fHammers.length f0_fHammers_c)]⟩)]) (N := []) hm' (by kernel_rfl) (by kernel_rfl), jkD (fun w h => h.pick [0, 1] (by kernel_rfl) (by kernel_rfl)) ?_⟩
  clear hm hm'
  refine jd_f [⟨2, 0, 0⟩, ⟨3, 0, 0⟩, ⟨4, 0, 1⟩, ⟨5, 0, 1⟩, ⟨6, 0, 1⟩, ⟨7, 1, 1⟩, ⟨8, 0, 1⟩, ⟨9, 0, 1⟩, ⟨10, 0, 1⟩, ⟨11, 0, 1⟩, ⟨12, 0, 1⟩, ⟨13, 0, 1⟩, ⟨14, 0, 1⟩, ⟨15, 0, 0⟩] 0 (by kernel_rfl) (by kernel_rfl) (fun w h => h.pick [0, 1] (by kernel_rfl) (by kernel_rfl)) (by kernel_rfl) (by kernel_rfl) ?_
  refine jd_end (by kernel_rfl) ?_
  refine jx_then ?_
  refine jc_cond ((!t_1) || ((w1.fStrokes.length : Int) != (f0.fHammers.length : Int))) (by kernel_rfl) (fun hc_6 => ?_) (fun hc_6 => ?_)
  · replace h := ifT hc_6 h
    refine jc_seq ?_
    refine jc_region ?_
    refine jo_f [(0, 0)] (by kernel_rfl) ?_
    refine jo_end (by kernel_rfl) ?_
    refine jx_then ?_
    refine jc_ret ?_
    refine jx_thenr ?_
    obtain rfl := Option.some.inj h
    exact jx_ret [] (.bool false) [] rfl (by kernel_rfl) (by kernel_rfl) (fun w hm => ⟨rfl, hm.pick [0, 1] (by kernel_rfl) (by kernel_rfl)⟩)
  · replace h := ifF hc_6 h
    refine jc_skip ?_
    refine jx_then ?_
    refine jc_seq ?_
    refine jc_seq ?_
    refine jc_region ?_
    refine jo_f [(0, 0)] (by kernel_rfl) ?_
    refine jo_end (by kernel_rfl) ?_
    refine jx_then ?_
    refine jc_meet (fun (_ : Unit) => spec_l06Ok.k_2 w1 = some r) (fun (_ : Unit) => [(1, [], (.pointer (some ⟨w1_b, 0, none⟩))), (4, [], (.bool false))]) (fun (_ : Unit) => [⟨some f0_b, 27, [(.int .i16 f0.fSteps), (.slice f0_fHammers_a f0.fHammers.length f0_fHammers_c)]⟩, ⟨some w1_b, 32, [(.slice w1_fPins_a w1.fPins.length w1_fPins_c), (.slice w1_fStrokes_a w1.fStrokes.length w1_fStrokes_c)]⟩]) ?_ ?_
    · refine jc_block ?_
      obtain ⟨t_11, ht_294, hr_271⟩ := bd h
      refine jc_loop (fun (s : Int) (x : Unit) => match s, x with | i_9, _ => True) (fun (s : Int) (x : Unit) => match s, x with | i_9, _ => [(0, [], (.pointer (some ⟨f0_b, 0, none⟩))), (1, [], (.pointer (some ⟨w1_b, 0, none⟩))), (4, [], (.bool false)), (5, [], (.int .i64 i_9))]) (fun (s : Int) (x : Unit) => match s, x with | i_9, _ => [⟨some f0_b, 27, [(.int .i16 f0.fSteps), (.slice f0_fHammers_a f0.fHammers.length f0_fHammers_c)]⟩, ⟨some w1_b, 32, [(.slice w1_fPins_a w1.fPins.length w1_fPins_c), (.slice w1_fStrokes_a w1.fStrokes.length w1_fStrokes_c)]⟩]) ht_294 () trivial (by kernel_rfl) [0, 1] (by kernel_rfl) (by kernel_rfl) ?_
      rintro i_9 _ y_272 _ h
      rw [spec_l06Ok.l_10] at h
      refine jc_seq ?_
      refine jc_seq ?_
      refine jc_region ?_
      refine jo_f [(0, 0), (0, 0), (0, 0), (0, 0), (1, 0), (0, 0), (0, 0)] (by kernel_rfl) ?_
      refine jo_end (by kernel_rfl) ?_
      refine jx_then ?_
      refine jc_cond (decide (i_9 < (w1.fPins.length : Int))) (by kernel_rfl) (fun hc_274 => ?_) (fun hc_274 => ?_)
      · replace h := ifT hc_274 h
        refine jc_skip ?_
        refine jx_then ?_
        refine jc_seq ?_
        refine jc_block ?_
        refine jc_seq ?_
        refine jc_region ?_
        refine jo_f [(0, 0), (0, 0), (0, 0), (1, 0), (0, 0)] (by kernel_rfl) ?_
        obtain ⟨x_12, hx_275, h⟩ := bd h
        refine toO (by kernel_rfl) (p_idx 0 w1_fPins_a w1.fPins.length i_9 3 (by kernel_rfl) (by kernel_rfl) (ix_some hx_275).1 (ltn hx_275 rfl) (w1_fPins_h.sp hx_275) (jkO ?_))
        refine toO (by kernel_rfl) (p_ld 0 (aB w1_fPins_a) (aO w1_fPins_a + i_9.toNat * 3) true (encGWornPin x_12) (by kernel_rfl) (by kernel_rfl) (by kernel_rfl) (fun w hm => ((hm.exRowW w1_fPins_h w1_fPins_ha).at hx_275)) (jkO ?_))
        refine toO (by kernel_rfl) (p_a 0 [0] (by kernel_rfl) (fun b => by kernel_rfl) (fun b_276 => jkO ?_))
        refine toO (by kernel_rfl) (p_s 0 [2] (by kernel_rfl) (by kernel_rfl) (jkO ?_))
        refine jo_end (by kernel_rfl) ?_
        refine jx_then ?_
        refine jc_seq ?_
        refine jc_meet (fun (j : Bool) => match j with | q_13 => spec_l06Ok.k_14 i_9 q_13 = some y_272) (fun (j : Bool) => match j with | q_13 => [(0, [], (.pointer (some ⟨f0_b, 0, none⟩))), (1, [], (.pointer (some ⟨w1_b, 0, none⟩))), (4, [], (.bool false)), (5, [], (.int .i64 i_9)), (71, [], (.bool q_13))]) (fun (j : Bool) => match j with | q_13 => [⟨some f0_b, 27, [(.int .i16 f0.fSteps), (.slice f0_fHammers_a f0.fHammers.length f0_fHammers_c)]⟩, ⟨some w1_b, 32, [(.slice w1_fPins_a w1.fPins.length w1_fPins_c), (.slice w1_fStrokes_a w1.fStrokes.length w1_fStrokes_c)]⟩, ⟨some b_276, 58, [(.int .i8 x_12.fStep), (.int .i8 x_12.fTrack), (.int .i64 x_12.fTurns)]⟩]) ?_ ?_
        · refine jc_draw [⟨some f0_b, 27, [(.int .i16 f0.fSteps), (.slice f0_fHammers_a f0.fHammers.length f0_fHammers_c)]⟩, ⟨some w1_b, 32, [(.slice w1_fPins_a w1.fPins.length w1_fPins_c), (.slice w1_fStrokes_a w1.fStrokes.length w1_fStrokes_c)]⟩, ⟨some b_276, 58, [(.int .i8 x_12.fStep), (.int .i8 x_12.fTrack), (.int .i64 x_12.fTurns)]⟩] 32 (by kernel_rfl) (by kernel_rfl) ?_
          refine jd_f [⟨0, 0, 0⟩, ⟨1, 0, 0⟩, ⟨2, 2, 0⟩, ⟨3, 0, 0⟩, ⟨4, 0, 0⟩, ⟨5, 2, 0⟩, ⟨6, 0, 0⟩] 25 (by kernel_rfl) (by kernel_rfl) (fun w h => h.pick [0, 1, 2] (by kernel_rfl) (by kernel_rfl)) (by kernel_rfl) (by kernel_rfl) ?_
          obtain ⟨t_15, ht_286, h⟩ := bd h
          refine toD 7 (by kernel_rfl) (p_call 0 68 #[(.pointer (some ⟨f0_b, 0, none⟩)), (.int .i64 (w64 x_12.fStep)), (.int .i64 (w64 x_12.fTrack))] (by kernel_rfl) (by kernel_rfl) (fun w hm => spec_l06Place.calls f0 (w64 x_12.fStep) (w64 x_12.fTrack) w _ f0_fHammers_a f0.fHammers.length f0_fHammers_c (hm.exRowW f0_fHammers_h f0_fHammers_ha) rfl f0_b (hm.pass (N := [⟨some f0_b, 27, [(.int .i16 f0.fSteps), (.slice f0_fHammers_a f0.fHammers.length f0_fHammers_c)]⟩]) [0] (by kernel_rfl) (by kernel_rfl)) (hm.exApart (N := [⟨some f0_b, 27, [(.int .i16 f0.fSteps), (.slice f0_fHammers_a f0.fHammers.length f0_fHammers_c)]⟩]) f0_fHammers_h f0_fHammers_ha [0] (by kernel_rfl)) ht_286) ?_)
          rintro w v w' hm ⟨rfl, hm'⟩
          refine ⟨_, hm.appW (ps := [(0, ⟨some f0_b, 27, [(.int .i16 f0.fSteps), (.slice f0_fHammers_a f0.fHammers.length f0_fHammers_c)]⟩)]) (N := []) hm' (by kernel_rfl) (by kernel_rfl), jkD (fun w h => h.pick [0, 1, 2] (by kernel_rfl) (by kernel_rfl)) ?_⟩
          clear hm hm'
          refine jd_f [⟨8, 0, 0⟩, ⟨9, 0, 0⟩, ⟨10, 0, 1⟩, ⟨11, 2, 1⟩] 20 (by kernel_rfl) (by kernel_rfl) (fun w h => h.pick [0, 1, 2] (by kernel_rfl) (by kernel_rfl)) (by kernel_rfl) (by kernel_rfl) ?_
          refine jd_split 49 (!t_15) (by kernel_rfl) (fun hc_287 => ?_) (fun hc_287 => ?_)
          · replace h := ifT hc_287 h
            refine jd_f [⟨12, 0, 3⟩, ⟨13, 0, 3⟩, ⟨14, 0, 4⟩, ⟨15, 0, 0⟩, ⟨16, 0, 3⟩, ⟨17, 0, 3⟩, ⟨18, 0, 3⟩, ⟨19, 0, 3⟩, ⟨20, 0, 3⟩, ⟨21, 0, 3⟩, ⟨22, 0, 3⟩, ⟨23, 0, 3⟩, ⟨24, 0, 3⟩, ⟨25, 0, 3⟩, ⟨26, 0, 3⟩, ⟨27, 0, 3⟩, ⟨28, 0, 3⟩, ⟨29, 0, 3⟩, ⟨30, 0, 3⟩, ⟨31, 0, 4⟩] 0 (by kernel_rfl) (by kernel_rfl) (fun w h => h.pick [0, 1, 2] (by kernel_rfl) (by kernel_rfl)) (by kernel_rfl) (by kernel_rfl) ?_
            refine jd_end (by kernel_rfl) ?_
            exact jx_meet true h (by kernel_rfl) [0, 1, 2] (by kernel_rfl) (by kernel_rfl)
          · replace h := ifF hc_287 h
            obtain ⟨t_16, ht_288, h⟩ := bd h
            refine toD 12 (by kernel_rfl) (p_call 2 35 #[(.int .i64 x_12.fTurns)] (by kernel_rfl) (by kernel_rfl) (fun w hm => spec_l06Turns.calls x_12.fTurns w _ ht_288) ?_)
            rintro w v w' hm ⟨rfl, hm'⟩
            refine ⟨_, hm.app hm', jkD (fun w h => h.pick [0, 1, 2] (by kernel_rfl) (by kernel_rfl)) ?_⟩
            clear hm hm'
            refine jd_f [⟨13, 0, 2⟩, ⟨14, 0, 5⟩, ⟨15, 0, 0⟩, ⟨16, 0, 1⟩, ⟨17, 0, 1⟩] 14 (by kernel_rfl) (by kernel_rfl) (fun w h => h.pick [0, 1, 2] (by kernel_rfl) (by kernel_rfl)) (by kernel_rfl) (by kernel_rfl) ?_
            refine jd_split 55 (!t_16) (by kernel_rfl) (fun hc_289 => ?_) (fun hc_289 => ?_)
            · replace h := ifT hc_289 h
              refine jd_f [⟨18, 0, 3⟩, ⟨19, 0, 3⟩, ⟨20, 0, 3⟩, ⟨21, 0, 3⟩, ⟨22, 0, 3⟩, ⟨23, 0, 3⟩, ⟨24, 0, 3⟩, ⟨25, 0, 3⟩, ⟨26, 0, 3⟩, ⟨27, 0, 3⟩, ⟨28, 0, 3⟩, ⟨29, 0, 3⟩, ⟨30, 0, 3⟩, ⟨31, 0, 4⟩] 0 (by kernel_rfl) (by kernel_rfl) (fun w h => h.pick [0, 1, 2] (by kernel_rfl) (by kernel_rfl)) (by kernel_rfl) (by kernel_rfl) ?_
              refine jd_end (by kernel_rfl) ?_
              exact jx_meet true h (by kernel_rfl) [0, 1, 2] (by kernel_rfl) (by kernel_rfl)
            · replace h := ifF hc_289 h
              refine jd_f [⟨18, 0, 2⟩, ⟨19, 0, 1⟩, ⟨20, 0, 1⟩, ⟨21, 0, 1⟩, ⟨22, 1, 1⟩, ⟨23, 0, 1⟩, ⟨24, 0, 1⟩, ⟨27, 2, 1⟩] 6 (by kernel_rfl) (by kernel_rfl) (fun w h => h.pick [0, 1, 2] (by kernel_rfl) (by kernel_rfl)) (by kernel_rfl) (by kernel_rfl) ?_
              refine jd_split 58 (decide (i_9 > 0)) (by kernel_rfl) (fun hc_290 => ?_) (fun hc_290 => ?_)
              · replace h := ifT hc_290 h
                obtain ⟨x_17, hx_291, h⟩ := bd h
                refine jd_v 25 2 (by kernel_rfl) (fun w h => h.pick [0, 1, 2] (by kernel_rfl) (by kernel_rfl)) (by kernel_rfl) (by kernel_rfl) _ (fun w hm => idx_run (a := w1_fPins_a) (len := w1.fPins.length) (s := 3) (j := (w64 (i_9 - 1))) (by kernel_rfl) (ix_some hx_291).1 (ltn hx_291 rfl) (w1_fPins_h.sp hx_291)) ?_
                refine jd_v 26 2 (by kernel_rfl) (fun w h => h.pick [0, 1, 2] (by kernel_rfl) (by kernel_rfl)) (by kernel_rfl) (by kernel_rfl) _ (fun w hm => ld_run (b := aB w1_fPins_a) (off := (aO w1_fPins_a + (w64 (i_9 - 1)).toNat * 3)) (s := 3) (agg := true) (vs := (encGWornPin x_17)) (by kernel_rfl) (by kernel_rfl) (.inl rfl) ((hm.exRowW w1_fPins_h w1_fPins_ha).at hx_291)) ?_
                obtain ⟨t_18, ht_292, h⟩ := bd h
                refine toD 28 (by kernel_rfl) (p_call 2 69 #[(.agg #[(.int .i8 x_17.fStep), (.int .i8 x_17.fTrack), (.int .i64 x_17.fTurns)]), (.agg #[(.int .i8 x_12.fStep), (.int .i8 x_12.fTrack), (.int .i64 x_12.fTurns)])] (by kernel_rfl) (by kernel_rfl) (fun w hm => spec_l06Before.calls x_17 x_12 w _ ht_292) ?_)
                rintro w v w' hm ⟨rfl, hm'⟩
                refine ⟨_, hm.app hm', jkD (fun w h => h.pick [0, 1, 2] (by kernel_rfl) (by kernel_rfl)) ?_⟩
                clear hm hm'
                refine jd_f [⟨29, 0, 2⟩, ⟨30, 0, 4⟩, ⟨31, 0, 5⟩] 0 (by kernel_rfl) (by kernel_rfl) (fun w h => h.pick [0, 1, 2] (by kernel_rfl) (by kernel_rfl)) (by kernel_rfl) (by kernel_rfl) ?_
                refine jd_end (by kernel_rfl) ?_
                exact jx_meet (!t_18) h (by kernel_rfl) [0, 1, 2] (by kernel_rfl) (by kernel_rfl)
              · replace h := ifF hc_290 h
                refine jd_f [⟨25, 0, 3⟩, ⟨26, 0, 3⟩, ⟨28, 0, 3⟩, ⟨29, 0, 3⟩, ⟨30, 0, 5⟩, ⟨31, 0, 5⟩] 0 (by kernel_rfl) (by kernel_rfl) (fun w h => h.pick [0, 1, 2] (by kernel_rfl) (by kernel_rfl)) (by kernel_rfl) (by kernel_rfl) ?_
                refine jd_end (by kernel_rfl) ?_
                exact jx_meet false h (by kernel_rfl) [0, 1, 2] (by kernel_rfl) (by kernel_rfl)
        · rintro q_13 h
          replace h : spec_l06Ok.k_14 i_9 q_13 = some y_272 := h
          rw [spec_l06Ok.k_14] at h
          refine jx_then ?_
          refine jc_cond q_13 (by kernel_rfl) (fun hc_284 => ?_) (fun hc_284 => ?_)
          · replace h := ifT hc_284 h
            refine jc_seq ?_
            refine jc_region ?_
            refine jo_f [(0, 0)] (by kernel_rfl) ?_
            refine jo_end (by kernel_rfl) ?_
            refine jx_then ?_
            refine jc_ret ?_
            refine jx_inr ?_
            refine jx_thenr ?_
            refine jx_leaver (.inl false) (Option.some.inj h).symm (fun e_285 => ?_)
            subst e_285
            refine jx_inr ?_
            refine jx_thenr ?_
            refine jx_thenr ?_
            obtain rfl := Option.some.inj hr_271
            exact jx_ret [] (.bool false) [] rfl (by kernel_rfl) (by kernel_rfl) (fun w hm => ⟨rfl, hm.pick [0, 1] (by kernel_rfl) (by kernel_rfl)⟩)
          · replace h := ifF hc_284 h
            refine jc_skip ?_
            refine jx_inn ?_
            refine jx_then ?_
            refine jc_region ?_
            refine jo_f [(0, 0), (0, 0), (0, 0)] (by kernel_rfl) ?_
            refine jo_end (by kernel_rfl) ?_
            exact jx_back (w64 (i_9 + 1)) () (Option.some.inj h).symm trivial [0, 1] (by kernel_rfl) (by kernel_rfl) (by kernel_rfl)
      · replace h := ifF hc_274 h
        refine jc_exit ?_
        refine jx_thenx ?_
        refine jx_leave (.inr ()) (Option.some.inj h).symm (fun e_293 => ?_)
        subst e_293
        refine jx_ine ?_
        exact jx_meet () hr_271 (by kernel_rfl) [0, 1] (by kernel_rfl) (by kernel_rfl)
    · rintro _ h
      replace h : spec_l06Ok.k_2 w1 = some r := h
      rw [spec_l06Ok.k_2] at h
      refine jx_then ?_
      refine jc_seq ?_
      refine jc_seq ?_
      refine jc_region ?_
      refine jo_f [(0, 0)] (by kernel_rfl) ?_
      refine jo_end (by kernel_rfl) ?_
      refine jx_then ?_
      refine jc_meet (fun (_ : Unit) => spec_l06Ok.k_3 = some r) (fun (_ : Unit) => [(4, [], (.bool false))]) (fun (_ : Unit) => [⟨some f0_b, 27, [(.int .i16 f0.fSteps), (.slice f0_fHammers_a f0.fHammers.length f0_fHammers_c)]⟩, ⟨some w1_b, 32, [(.slice w1_fPins_a w1.fPins.length w1_fPins_c), (.slice w1_fStrokes_a w1.fStrokes.length w1_fStrokes_c)]⟩]) ?_ ?_
      · refine jc_block ?_
        obtain ⟨t_6, ht_232, hr_223⟩ := bd h
        refine jc_loop (fun (s : Int) (x : Unit) => match s, x with | i_4, _ => True) (fun (s : Int) (x : Unit) => match s, x with | i_4, _ => [(1, [], (.pointer (some ⟨w1_b, 0, none⟩))), (4, [], (.bool false)), (7, [], (.int .i64 i_4))]) (fun (s : Int) (x : Unit) => match s, x with | i_4, _ => [⟨some f0_b, 27, [(.int .i16 f0.fSteps), (.slice f0_fHammers_a f0.fHammers.length f0_fHammers_c)]⟩, ⟨some w1_b, 32, [(.slice w1_fPins_a w1.fPins.length w1_fPins_c), (.slice w1_fStrokes_a w1.fStrokes.length w1_fStrokes_c)]⟩]) ht_232 () trivial (by kernel_rfl) [0, 1] (by kernel_rfl) (by kernel_rfl) ?_
        rintro i_4 _ y_224 _ h
        rw [spec_l06Ok.l_5] at h
        refine jc_seq ?_
        refine jc_seq ?_
        refine jc_region ?_
        refine jo_f [(0, 0), (0, 0), (0, 0), (0, 0), (1, 0), (0, 0), (0, 0)] (by kernel_rfl) ?_
        refine jo_end (by kernel_rfl) ?_
        refine jx_then ?_
        refine jc_cond (decide (i_4 < (w1.fStrokes.length : Int))) (by kernel_rfl) (fun hc_226 => ?_) (fun hc_226 => ?_)
        · replace h := ifT hc_226 h
          refine jc_skip ?_
          refine jx_then ?_
          refine jc_seq ?_
          refine jc_block ?_
          refine jc_seq ?_
          refine jc_region ?_
          refine jo_f [(0, 0), (0, 0), (0, 0), (1, 0), (0, 0)] (by kernel_rfl) ?_
          obtain ⟨x_7, hx_227, h⟩ := bd h
          refine toO (by kernel_rfl) (p_idx 0 w1_fStrokes_a w1.fStrokes.length i_4 1 (by kernel_rfl) (by kernel_rfl) (ix_some hx_227).1 (ltn hx_227 rfl) (w1_fStrokes_h.sp hx_227) (jkO ?_))
          refine toO (by kernel_rfl) (p_ld 0 (aB w1_fStrokes_a) (aO w1_fStrokes_a + i_4.toNat * 1) false (encI64 x_7) (by kernel_rfl) (by kernel_rfl) (by kernel_rfl) (fun w hm => ((hm.exRowW w1_fStrokes_h w1_fStrokes_ha).at hx_227)) (jkO ?_))
          obtain ⟨t_8, ht_228, h⟩ := bd h
          refine toO (by kernel_rfl) (p_call 0 35 #[(.int .i64 x_7)] (by kernel_rfl) (by kernel_rfl) (fun w hm => spec_l06Turns.calls x_7 w _ ht_228) ?_)
          rintro w v w' hm ⟨rfl, hm'⟩
          refine ⟨_, hm.app hm', jkO ?_⟩
          clear hm hm'
          refine jo_f [(0, 0)] (by kernel_rfl) ?_
          refine jo_end (by kernel_rfl) ?_
          refine jx_then ?_
          refine jc_cond (!t_8) (by kernel_rfl) (fun hc_229 => ?_) (fun hc_229 => ?_)
          · replace h := ifT hc_229 h
            refine jc_seq ?_
            refine jc_region ?_
            refine jo_f [(0, 0)] (by kernel_rfl) ?_
            refine jo_end (by kernel_rfl) ?_
            refine jx_then ?_
            refine jc_ret ?_
            refine jx_inr ?_
            refine jx_thenr ?_
            refine jx_leaver (.inl false) (Option.some.inj h).symm (fun e_230 => ?_)
            subst e_230
            refine jx_inr ?_
            refine jx_thenr ?_
            refine jx_thenr ?_
            obtain rfl := Option.some.inj hr_223
            exact jx_ret [] (.bool false) [] rfl (by kernel_rfl) (by kernel_rfl) (fun w hm => ⟨rfl, hm.pick [0, 1] (by kernel_rfl) (by kernel_rfl)⟩)
          · replace h := ifF hc_229 h
            refine jc_skip ?_
            refine jx_inn ?_
            refine jx_then ?_
            refine jc_region ?_
            refine jo_f [(0, 0), (0, 0), (0, 0)] (by kernel_rfl) ?_
            refine jo_end (by kernel_rfl) ?_
            exact jx_back (w64 (i_4 + 1)) () (Option.some.inj h).symm trivial [0, 1] (by kernel_rfl) (by kernel_rfl) (by kernel_rfl)
        · replace h := ifF hc_226 h
          refine jc_exit ?_
          refine jx_thenx ?_
          refine jx_leave (.inr ()) (Option.some.inj h).symm (fun e_231 => ?_)
          subst e_231
          refine jx_ine ?_
          exact jx_meet () hr_223 (by kernel_rfl) [0, 1] (by kernel_rfl) (by kernel_rfl)
      · rintro _ h
        replace h : spec_l06Ok.k_3 = some r := h
        rw [spec_l06Ok.k_3] at h
        refine jx_then ?_
        refine jc_seq ?_
        refine jc_region ?_
        refine jo_f [(0, 0)] (by kernel_rfl) ?_
        refine jo_end (by kernel_rfl) ?_
        refine jx_then ?_
        refine jc_ret ?_
        obtain rfl := Option.some.inj h
        exact jx_ret [] (.bool true) [] rfl (by kernel_rfl) (by kernel_rfl) (fun w hm => ⟨rfl, hm.pick [0, 1] (by kernel_rfl) (by kernel_rfl)⟩)

/-! ### spec.l06Copy -/
noncomputable def spec_l06Copy (w0 : GWear) : Option (GWear) := (if ([] : List GWornPin).length + w0.fPins.length ≤ 4294967296 then (if ([] : List Int).length + w0.fStrokes.length ≤ 4294967296 then some (⟨(([] : List GWornPin) ++ w0.fPins), (([] : List Int) ++ w0.fStrokes)⟩ : GWear) else none) else none)
set_option maxRecDepth 100000 in
theorem spec_l06Copy.calls (w0 : GWear) (w : World) (r : GWear) (w0_fPins_a : Option Addr) (w0_fPins_an : Nat) (w0_fPins_c : Nat) (w0_fPins_h : Rw w w0_fPins_a 3 encGWornPin w0.fPins) (w0_fPins_hn : w0.fPins.length = w0_fPins_an) (w0_fStrokes_a : Option Addr) (w0_fStrokes_an : Nat) (w0_fStrokes_c : Nat) (w0_fStrokes_h : Rw w w0_fStrokes_a 1 encI64 w0.fStrokes) (w0_fStrokes_hn : w0.fStrokes.length = w0_fStrokes_an) (w0_b : Nat) (hm0 : Mem w (bs [some w0_b]) [⟨some w0_b, 32, [(.slice w0_fPins_a w0_fPins_an w0_fPins_c), (.slice w0_fStrokes_a w0_fStrokes_an w0_fStrokes_c)]⟩] w) (w0_fPins_ha : w0.fPins ≠ [] → aB w0_fPins_a ∉ bs [some w0_b]) (w0_fStrokes_ha : w0.fStrokes ≠ [] → aB w0_fStrokes_a ∉ bs [some w0_b]) (h : spec_l06Copy w0 = some r) :
    Calls Try.prog 71 #[(.pointer (some ⟨w0_b, 0, none⟩))] w fun e w' => ∃ v, e = .returned v ∧ (∃ (o0 : Option Nat) (c0 : Nat) (s0 : List Value) (n0 : Nat), r.fPins.length = n0 ∧ (o0 ≠ none → n0 ≤ c0 ∧ s0.length = (c0 - n0) * 3) ∧ (o0 = none → r.fPins = [] ∧ c0 = 0) ∧ ∃ (o1 : Option Nat) (c1 : Nat) (s1 : List Value) (n1 : Nat), r.fStrokes.length = n1 ∧ (o1 ≠ none → n1 ≤ c1 ∧ s1.length = (c1 - n1) * 1) ∧ (o1 = none → r.fStrokes = [] ∧ c1 = 0) ∧ v = .agg #[.slice (o0.map fun b => ⟨b, 0, none⟩) n0 c0, .slice (o1.map fun b => ⟨b, 0, none⟩) n1 c1] ∧ Mem w (bs [some w0_b]) [⟨some w0_b, 32, [(.slice w0_fPins_a w0_fPins_an w0_fPins_c), (.slice w0_fStrokes_a w0_fStrokes_an w0_fStrokes_c)]⟩, ⟨o0, 58, row encGWornPin r.fPins s0⟩, ⟨o1, 2, row encI64 r.fStrokes s1⟩] w') := by
  subst w0_fPins_hn w0_fStrokes_hn
  rw [spec_l06Copy] at h
  refine enter (args := [(.pointer (some ⟨w0_b, 0, none⟩))]) Try.func71 rfl Try.ntmps71 (by kernel_rfl) (L := [⟨some w0_b, 32, [(.slice w0_fPins_a w0.fPins.length w0_fPins_c), (.slice w0_fStrokes_a w0.fStrokes.length w0_fStrokes_c)]⟩]) (W := bs [some w0_b]) hm0 ?_
  refine jc_seq ?_
  refine jc_region ?_
  refine toO (by kernel_rfl) (p_a 0 [0] (by kernel_rfl) (fun b => by kernel_rfl) (fun b_1 => jkO ?_))
  refine jo_end (by kernel_rfl) ?_
  refine jx_then ?_
  refine jc_seq ?_
  refine jc_draw [⟨some w0_b, 32, [(.slice w0_fPins_a w0.fPins.length w0_fPins_c), (.slice w0_fStrokes_a w0.fStrokes.length w0_fStrokes_c)]⟩] 14 (by kernel_rfl) (by kernel_rfl) ?_
  refine jd_f [⟨1, 0, 0⟩, ⟨2, 0, 0⟩, ⟨3, 0, 0⟩, ⟨4, 0, 0⟩, ⟨7, 0, 0⟩, ⟨8, 0, 0⟩, ⟨9, 0, 0⟩, ⟨10, 0, 0⟩] 6 (by kernel_rfl) (by kernel_rfl) (fun w h => h.pick [0] (by kernel_rfl) (by kernel_rfl)) (by kernel_rfl) (by kernel_rfl) ?_
  refine toD2 0 6 (by kernel_rfl) ?_ ?_
  · refine p_a 0 [0] (by kernel_rfl) (fun b => by kernel_rfl) (fun b_16 => jkD (fun w h => h.pick [0] (by kernel_rfl) (by kernel_rfl)) ?_)
    refine toD2 5 6 (by kernel_rfl) ?_ ?_
    · obtain ⟨hg_17, h⟩ := gd h
      refine p_apn 0 2 (some b_16) 58 0 w0.fPins.length 0 3 16 w0_fPins_a encGWornPin ([] : List GWornPin) w0.fPins [] (.agg #[(.int .i8 0), (.int .i8 0), (.int .i64 0)]) rfl rfl (by kernel_rfl) (by kernel_rfl) (by kernel_rfl) encGWornPin_len encGWornPin_cell (fun _ => ⟨Nat.le_refl _, by simp⟩) (fun e => nomatch e) (fun w hm => (hm.exRowW w0_fPins_h w0_fPins_ha)) hg_17 (by kernel_rfl) (by kernel_rfl) (fun o_18 cap_19 sp_20 hs_21 ho_22 => jkD (fun w h => h.pick [0] (by kernel_rfl) (by kernel_rfl)) ?_)
      refine toD 6 (by kernel_rfl) (p_a 0 [0] (by kernel_rfl) (fun b => by kernel_rfl) (fun b_23 => jkD (fun w h => h.pick [0] (by kernel_rfl) (by kernel_rfl)) ?_))
      obtain ⟨hg_24, h⟩ := gd h
      refine toD 11 (by kernel_rfl) (p_apn 0 3 (some b_23) 2 0 w0.fStrokes.length 0 1 8 w0_fStrokes_a encI64 ([] : List Int) w0.fStrokes [] (.int .i64 0) rfl rfl (by kernel_rfl) (by kernel_rfl) (by kernel_rfl) encI64_len encI64_cell (fun _ => ⟨Nat.le_refl _, by simp⟩) (fun e => nomatch e) (fun w hm => (hm.exRowW w0_fStrokes_h w0_fStrokes_ha)) hg_24 (by kernel_rfl) (by kernel_rfl) (fun o_25 cap_26 sp_27 hs_28 ho_29 => jkD (fun w h => h.pick [0] (by kernel_rfl) (by kernel_rfl)) ?_))
      refine jd_f [⟨12, 0, 0⟩] 1 (by kernel_rfl) (by kernel_rfl) (fun w h => h.pick [0] (by kernel_rfl) (by kernel_rfl)) (by kernel_rfl) (by kernel_rfl) ?_
      refine toD 13 (by kernel_rfl) (p_s 0 [1] (by kernel_rfl) (by kernel_rfl) (jkD (fun w h => h.pick [0] (by kernel_rfl) (by kernel_rfl)) ?_))
      refine jd_end (by kernel_rfl) ?_
      refine jx_then ?_
      refine jc_ret ?_
      obtain rfl := Option.some.inj h
      exact jx_ret [1] (.agg #[(.slice (o_18.map fun b => ⟨b, 0, none⟩) ((([] : List GWornPin) ++ w0.fPins).length) cap_19), (.slice (o_25.map fun b => ⟨b, 0, none⟩) ((([] : List Int) ++ w0.fStrokes).length) cap_26)]) [(b_1, b_1), (b_1, b_1)] rfl (by kernel_rfl) (by kernel_rfl) (fun w hm => ⟨o_18, cap_19, sp_20, ((([] : List GWornPin) ++ w0.fPins).length), rfl, hs_21, ho_22, o_25, cap_26, sp_27, ((([] : List Int) ++ w0.fStrokes).length), rfl, hs_28, ho_29, rfl, hm.pick [0, 2, 3] (by kernel_rfl) (by kernel_rfl)⟩)
    · refine p_a 0 [0] (by kernel_rfl) (fun b => by kernel_rfl) (fun b_30 => jkD (fun w h => h.pick [0] (by kernel_rfl) (by kernel_rfl)) ?_)
      obtain ⟨hg_31, h⟩ := gd h
      refine toD 5 (by kernel_rfl) (p_apn 0 2 (some b_16) 58 0 w0.fPins.length 0 3 16 w0_fPins_a encGWornPin ([] : List GWornPin) w0.fPins [] (.agg #[(.int .i8 0), (.int .i8 0), (.int .i64 0)]) rfl rfl (by kernel_rfl) (by kernel_rfl) (by kernel_rfl) encGWornPin_len encGWornPin_cell (fun _ => ⟨Nat.le_refl _, by simp⟩) (fun e => nomatch e) (fun w hm => (hm.exRowW w0_fPins_h w0_fPins_ha)) hg_31 (by kernel_rfl) (by kernel_rfl) (fun o_32 cap_33 sp_34 hs_35 ho_36 => jkD (fun w h => h.pick [0] (by kernel_rfl) (by kernel_rfl)) ?_))
      obtain ⟨hg_37, h⟩ := gd h
      refine toD 11 (by kernel_rfl) (p_apn 0 3 (some b_30) 2 0 w0.fStrokes.length 0 1 8 w0_fStrokes_a encI64 ([] : List Int) w0.fStrokes [] (.int .i64 0) rfl rfl (by kernel_rfl) (by kernel_rfl) (by kernel_rfl) encI64_len encI64_cell (fun _ => ⟨Nat.le_refl _, by simp⟩) (fun e => nomatch e) (fun w hm => (hm.exRowW w0_fStrokes_h w0_fStrokes_ha)) hg_37 (by kernel_rfl) (by kernel_rfl) (fun o_38 cap_39 sp_40 hs_41 ho_42 => jkD (fun w h => h.pick [0] (by kernel_rfl) (by kernel_rfl)) ?_))
      refine jd_f [⟨12, 0, 0⟩] 1 (by kernel_rfl) (by kernel_rfl) (fun w h => h.pick [0] (by kernel_rfl) (by kernel_rfl)) (by kernel_rfl) (by kernel_rfl) ?_
      refine toD 13 (by kernel_rfl) (p_s 0 [1] (by kernel_rfl) (by kernel_rfl) (jkD (fun w h => h.pick [0] (by kernel_rfl) (by kernel_rfl)) ?_))
      refine jd_end (by kernel_rfl) ?_
      refine jx_then ?_
      refine jc_ret ?_
      obtain rfl := Option.some.inj h
      exact jx_ret [1] (.agg #[(.slice (o_32.map fun b => ⟨b, 0, none⟩) ((([] : List GWornPin) ++ w0.fPins).length) cap_33), (.slice (o_38.map fun b => ⟨b, 0, none⟩) ((([] : List Int) ++ w0.fStrokes).length) cap_39)]) [(b_1, b_1), (b_1, b_1)] rfl (by kernel_rfl) (by kernel_rfl) (fun w hm => ⟨o_32, cap_33, sp_34, ((([] : List GWornPin) ++ w0.fPins).length), rfl, hs_35, ho_36, o_38, cap_39, sp_40, ((([] : List Int) ++ w0.fStrokes).length), rfl, hs_41, ho_42, rfl, hm.pick [0, 2, 3] (by kernel_rfl) (by kernel_rfl)⟩)
  · refine p_a 0 [0] (by kernel_rfl) (fun b => by kernel_rfl) (fun b_43 => jkD (fun w h => h.pick [0] (by kernel_rfl) (by kernel_rfl)) ?_)
    refine toD 0 (by kernel_rfl) (p_a 0 [0] (by kernel_rfl) (fun b => by kernel_rfl) (fun b_44 => jkD (fun w h => h.pick [0] (by kernel_rfl) (by kernel_rfl)) ?_))
    obtain ⟨hg_45, h⟩ := gd h
    refine toD 5 (by kernel_rfl) (p_apn 0 3 (some b_44) 58 0 w0.fPins.length 0 3 16 w0_fPins_a encGWornPin ([] : List GWornPin) w0.fPins [] (.agg #[(.int .i8 0), (.int .i8 0), (.int .i64 0)]) rfl rfl (by kernel_rfl) (by kernel_rfl) (by kernel_rfl) encGWornPin_len encGWornPin_cell (fun _ => ⟨Nat.le_refl _, by simp⟩) (fun e => nomatch e) (fun w hm => (hm.exRowW w0_fPins_h w0_fPins_ha)) hg_45 (by kernel_rfl) (by kernel_rfl) (fun o_46 cap_47 sp_48 hs_49 ho_50 => jkD (fun w h => h.pick [0] (by kernel_rfl) (by kernel_rfl)) ?_))
    obtain ⟨hg_51, h⟩ := gd h
    refine toD 11 (by kernel_rfl) (p_apn 0 2 (some b_43) 2 0 w0.fStrokes.length 0 1 8 w0_fStrokes_a encI64 ([] : List Int) w0.fStrokes [] (.int .i64 0) rfl rfl (by kernel_rfl) (by kernel_rfl) (by kernel_rfl) encI64_len encI64_cell (fun _ => ⟨Nat.le_refl _, by simp⟩) (fun e => nomatch e) (fun w hm => (hm.exRowW w0_fStrokes_h w0_fStrokes_ha)) hg_51 (by kernel_rfl) (by kernel_rfl) (fun o_52 cap_53 sp_54 hs_55 ho_56 => jkD (fun w h => h.pick [0] (by kernel_rfl) (by kernel_rfl)) ?_))
    refine jd_f [⟨12, 0, 0⟩] 1 (by kernel_rfl) (by kernel_rfl) (fun w h => h.pick [0] (by kernel_rfl) (by kernel_rfl)) (by kernel_rfl) (by kernel_rfl) ?_
    refine toD 13 (by kernel_rfl) (p_s 0 [1] (by kernel_rfl) (by kernel_rfl) (jkD (fun w h => h.pick [0] (by kernel_rfl) (by kernel_rfl)) ?_))
    refine jd_end (by kernel_rfl) ?_
    refine jx_then ?_
    refine jc_ret ?_
    obtain rfl := Option.some.inj h
    exact jx_ret [1] (.agg #[(.slice (o_46.map fun b => ⟨b, 0, none⟩) ((([] : List GWornPin) ++ w0.fPins).length) cap_47), (.slice (o_52.map fun b => ⟨b, 0, none⟩) ((([] : List Int) ++ w0.fStrokes).length) cap_53)]) [(b_1, b_1), (b_1, b_1)] rfl (by kernel_rfl) (by kernel_rfl) (fun w hm => ⟨o_46, cap_47, sp_48, ((([] : List GWornPin) ++ w0.fPins).length), rfl, hs_49, ho_50, o_52, cap_53, sp_54, ((([] : List Int) ++ w0.fStrokes).length), rfl, hs_55, ho_56, rfl, hm.pick [0, 3, 2] (by kernel_rfl) (by kernel_rfl)⟩)

/-! ### spec.l06Each -/
noncomputable def spec_l06Each.k_2 (xs_1 : List Int) : Option ((List Int)) := some xs_1
noncomputable def spec_l06Each.l_5 (w0 : GWear) : ((List Int) × Int) → Option (((List Int) × Int) ⊕ ((List Int)))
  | (xs_3, i_4) => (if (decide (i_4 < (w0.fPins.length : Int))) = true then (ix w0.fPins i_4).bind fun x_7 => (ix xs_3 x_7.fTrack).bind fun x_8 => (ix xs_3 x_7.fTrack).bind fun x_9 => some (.inl ((xs_3.set x_7.fTrack.toNat (w64 (x_8 + 1))), (w64 (i_4 + 1)))) else some (.inr xs_3))
noncomputable def spec_l06Each (w0 : GWear) : Option ((List Int)) := (if 0 ≤ (w0.fStrokes.length : Int) ∧ (w0.fStrokes.length : Int) ≤ 17592186044416 then (loop (spec_l06Each.l_5 w0) ((List.replicate (w0.fStrokes.length : Int).toNat 0), 0)).bind fun t_6 => spec_l06Each.k_2 t_6 else none)
set_option maxRecDepth 100000 in
theorem spec_l06Each.calls (w0 : GWear) (w : World) (r : (List Int)) (w0_fPins_a : Option Addr) (w0_fPins_an : Nat) (w0_fPins_c : Nat) (w0_fPins_h : Rw w w0_fPins_a 3 encGWornPin w0.fPins) (w0_fPins_hn : w0.fPins.length = w0_fPins_an) (w0_fStrokes_a : Option Addr) (w0_fStrokes_an : Nat) (w0_fStrokes_c : Nat) (w0_fStrokes_h : Rw w w0_fStrokes_a 1 encI64 w0.fStrokes) (w0_fStrokes_hn : w0.fStrokes.length = w0_fStrokes_an) (w0_b : Nat) (hm0 : Mem w (bs [some w0_b]) [⟨some w0_b, 32, [(.slice w0_fPins_a w0_fPins_an w0_fPins_c), (.slice w0_fStrokes_a w0_fStrokes_an w0_fStrokes_c)]⟩] w) (w0_fPins_ha : w0.fPins ≠ [] → aB w0_fPins_a ∉ bs [some w0_b]) (w0_fStrokes_ha : w0.fStrokes ≠ [] → aB w0_fStrokes_a ∉ bs [some w0_b]) (h : spec_l06Each w0 = some r) :
    Calls Try.prog 47 #[(.pointer (some ⟨w0_b, 0, none⟩))] w fun e w' => ∃ v, e = .returned v ∧ (∃ (o0 : Option Nat) (c0 : Nat) (s0 : List Value) (n0 : Nat), r.length = n0 ∧ (o0 ≠ none → n0 ≤ c0 ∧ s0.length = (c0 - n0) * 1) ∧ (o0 = none → r = [] ∧ c0 = 0) ∧ v = .slice (o0.map fun b => ⟨b, 0, none⟩) n0 c0 ∧ Mem w (bs [some w0_b]) [⟨some w0_b, 32, [(.slice w0_fPins_a w0_fPins_an w0_fPins_c), (.slice w0_fStrokes_a w0_fStrokes_an w0_fStrokes_c)]⟩, ⟨o0, 2, row encI64 r s0⟩] w') := by
  subst w0_fPins_hn w0_fStrokes_hn
  rw [spec_l06Each] at h
  refine enter (args := [(.pointer (some ⟨w0_b, 0, none⟩))]) Try.func47 rfl Try.ntmps47 (by kernel_rfl) (L := [⟨some w0_b, 32, [(.slice w0_fPins_a w0.fPins.length w0_fPins_c), (.slice w0_fStrokes_a w0.fStrokes.length w0_fStrokes_c)]⟩]) (W := bs [some w0_b]) hm0 ?_
  refine jc_seq ?_
  refine jc_region ?_
  refine jo_f [(0, 0)] (by kernel_rfl) ?_
  refine jo_end (by kernel_rfl) ?_
  refine jx_then ?_
  refine jc_seq ?_
  refine jc_region ?_
  refine jo_f [(0, 0), (0, 0), (0, 0), (0, 0), (0, 0)] (by kernel_rfl) ?_
  obtain ⟨hg_88, h⟩ := gd h
  refine toO (by kernel_rfl) (p_mk 0 2 (w0.fStrokes.length : Int) 1 8 encI64 0 (by kernel_rfl) (by kernel_rfl) hg_88.1 (by omega) (by kernel_rfl) (fun b_1 => jkO ?_))
  refine jo_f [(0, 0)] (by kernel_rfl) ?_
  refine jo_end (by kernel_rfl) ?_
  refine jx_then ?_
  refine jc_seq ?_
  refine jc_seq ?_
  refine jc_region ?_
  refine jo_f [(0, 0)] (by kernel_rfl) ?_
  refine jo_end (by kernel_rfl) ?_
  refine jx_then ?_
  refine jc_meet (fun (j : (List Int)) => match j with | xs_1 => spec_l06Each.k_2 xs_1 = some r ∧ (xs_1.length = (w0.fStrokes.length : Int).toNat)) (fun (j : (List Int)) => match j with | xs_1 => [(2, [], (.slice none 0 0)), (3, [], (.slice (some ⟨b_1, 0, none⟩) ((w0.fStrokes.length : Int).toNat) ((w0.fStrokes.length : Int).toNat)))]) (fun (j : (List Int)) => match j with | xs_1 => [⟨some w0_b, 32, [(.slice w0_fPins_a w0.fPins.length w0_fPins_c), (.slice w0_fStrokes_a w0.fStrokes.length w0_fStrokes_c)]⟩, ⟨(some b_1), 2, row encI64 xs_1 []⟩]) ?_ ?_
  · refine jc_block ?_
    obtain ⟨t_6, ht_87, hr_79⟩ := bd h
    refine jc_loop (fun (s : (List Int) × Int) (x : Unit) => match s, x with | ⟨xs_3, i_4⟩, _ => (xs_3.length = (w0.fStrokes.length : Int).toNat)) (fun (s : (List Int) × Int) (x : Unit) => match s, x with | ⟨xs_3, i_4⟩, _ => [(0, [], (.pointer (some ⟨w0_b, 0, none⟩))), (2, [], (.slice none 0 0)), (3, [], (.slice (some ⟨b_1, 0, none⟩) ((w0.fStrokes.length : Int).toNat) ((w0.fStrokes.length : Int).toNat))), (4, [], (.int .i64 i_4))]) (fun (s : (List Int) × Int) (x : Unit) => match s, x with | ⟨xs_3, i_4⟩, _ => [⟨some w0_b, 32, [(.slice w0_fPins_a w0.fPins.length w0_fPins_c), (.slice w0_fStrokes_a w0.fStrokes.length w0_fStrokes_c)]⟩, ⟨(some b_1), 2, row encI64 xs_3 []⟩]) ht_87 () List.length_replicate (by kernel_rfl) [0, 1] (by kernel_rfl) (by kernel_rfl) ?_
    rintro ⟨xs_3, i_4⟩ _ y_80 hn_78 h
    rw [spec_l06Each.l_5] at h
    refine jc_seq ?_
    refine jc_seq ?_
    refine jc_region ?_
    refine jo_f [(0, 0), (0, 0), (0, 0), (0, 0), (0, 0), (0, 0), (0, 0)] (by kernel_rfl) ?_
    refine jo_end (by kernel_rfl) ?_
    refine jx_then ?_
    refine jc_cond (decide (i_4 < (w0.fPins.length : Int))) (by kernel_rfl) (fun hc_82 => ?_) (fun hc_82 => ?_)
    · replace h := ifT hc_82 h
      refine jc_skip ?_
      refine jx_then ?_
      refine jc_seq ?_
      refine jc_block ?_
      refine jc_region ?_
      refine jo_f [(0, 0), (0, 0), (0, 0), (0, 0), (0, 0), (0, 0)] (by kernel_rfl) ?_
      obtain ⟨x_7, hx_83, h⟩ := bd h
      refine toO (by kernel_rfl) (p_idx 0 w0_fPins_a w0.fPins.length i_4 3 (by kernel_rfl) (by kernel_rfl) (ix_some hx_83).1 (ltn hx_83 rfl) (w0_fPins_h.sp hx_83) (jkO ?_))
      refine jo_f [(0, 0)] (by kernel_rfl) ?_
      refine toO (by kernel_rfl) (p_ld 0 (aB w0_fPins_a) (aO w0_fPins_a + i_4.toNat * 3 + 1) false (((encGWornPin x_7).drop 1).take 1) (by kernel_rfl) (by kernel_rfl) (by kernel_rfl) (fun w hm => (((hm.exRowW w0_fPins_h w0_fPins_ha).at hx_83).sub 1 1)) (jkO ?_))
      obtain ⟨x_8, hx_84, h⟩ := bd h
      refine toO (by kernel_rfl) (p_idx 0 (some ⟨b_1, 0, none⟩) ((w0.fStrokes.length : Int).toNat) x_7.fTrack 1 (by kernel_rfl) (by kernel_rfl) (ix_some hx_84).1 (ltn hx_84 hn_78) rfl (jkO ?_))
      refine toO (by kernel_rfl) (p_ld 0 (aB (some ⟨b_1, 0, none⟩)) (aO (some ⟨b_1, 0, none⟩) + x_7.fTrack.toNat * 1) false (encI64 x_8) (by kernel_rfl) (by kernel_rfl) (by kernel_rfl) (fun w hm => ((hm.ownRow (hh := 1) (o := (some b_1)) (T := 2) (enc := encI64) (xs := xs_3) (sp := []) (by kernel_rfl) (fun e => nomatch e) encI64_len).at hx_84)) (jkO ?_))
      refine jo_f [(0, 0)] (by kernel_rfl) ?_
      obtain ⟨x_9, hx_85, h⟩ := bd h
      refine toO (by kernel_rfl) (p_idx 0 (some ⟨b_1, 0, none⟩) ((w0.fStrokes.length : Int).toNat) x_7.fTrack 1 (by kernel_rfl) (by kernel_rfl) (ix_some hx_85).1 (ltn hx_85 hn_78) rfl (jkO ?_))
      refine toO (by kernel_rfl) (p_str 0 1 b_1 2 encI64 xs_3 [] x_7.fTrack (w64 (x_8 + 1)) 1 0 [(.int .i64 (w64 (x_8 + 1)))] (by kernel_rfl) (by kernel_rfl) (by kernel_rfl) encI64_len hx_85 (by kernel_rfl) (by kernel_rfl) (jkO ?_))
      refine jo_end (by kernel_rfl) ?_
      refine jx_inn ?_
      refine jx_then ?_
      refine jc_region ?_
      refine jo_f [(0, 0), (0, 0), (0, 0)] (by kernel_rfl) ?_
      refine jo_end (by kernel_rfl) ?_
      exact jx_back ((xs_3.set x_7.fTrack.toNat (w64 (x_8 + 1))), (w64 (i_4 + 1))) () (Option.some.inj h).symm (List.length_set.trans hn_78) [0, 1] (by kernel_rfl) (by kernel_rfl) (by kernel_rfl)
    · replace h := ifF hc_82 h
      refine jc_exit ?_
      refine jx_thenx ?_
      refine jx_leave xs_3 (Option.some.inj h).symm (fun e_86 => ?_)
      subst e_86
      refine jx_ine ?_
      exact jx_meet xs_3 ⟨hr_79, hn_78⟩ (by kernel_rfl) [0, 1] (by kernel_rfl) (by kernel_rfl)
  · rintro xs_1 ⟨h, hn_66⟩
    replace h : spec_l06Each.k_2 xs_1 = some r := h
    rw [spec_l06Each.k_2] at h
    refine jx_then ?_
    refine jc_seq ?_
    refine jc_region ?_
    refine jo_f [(0, 0), (0, 0)] (by kernel_rfl) ?_
    refine jo_end (by kernel_rfl) ?_
    refine jx_then ?_
    refine jc_ret ?_
    obtain rfl := Option.some.inj h
    exact jx_ret [] (.slice (some ⟨b_1, 0, none⟩) ((w0.fStrokes.length : Int).toNat) ((w0.fStrokes.length : Int).toNat)) [] rfl (by kernel_rfl) (by kernel_rfl) (fun w hm => ⟨(some b_1), ((w0.fStrokes.length : Int).toNat), [], ((w0.fStrokes.length : Int).toNat), hn_66, (fun _ => ⟨Nat.le_refl _, by simp⟩), (fun e => nomatch e), rfl, hm.pick [0, 1] (by kernel_rfl) (by kernel_rfl)⟩)

/-! ### spec.l06Turned -/
noncomputable def spec_l06Turned.k_8 (xs_3 : List GWornPin) (xs_6 : List Int) (q_7 : Bool) : Option (GWear × Bool) := some ((⟨xs_3, xs_6⟩ : GWear), q_7)
noncomputable def spec_l06Turned.l_12 (turns1 : Int) (t_2 : (List Int)) : ((List Int) × Bool × Int) → Option (((List Int) × Bool × Int) ⊕ (((List Int) × Bool)))
  | (xs_9, q_10, i_11) => (if (decide (i_11 < (t_2.length : Int))) = true then (ix xs_9 i_11).bind fun x_14 => (ix t_2 i_11).bind fun x_15 => (ix xs_9 i_11).bind fun x_16 => (if q_10 = true then (ix (xs_9.set i_11.toNat (w64 (x_14 + (w64 (turns1 * x_15))))) i_11).bind fun x_17 => (spec_l06Turns x_17).bind fun t_18 => some (.inl ((xs_9.set i_11.toNat (w64 (x_14 + (w64 (turns1 * x_15))))), t_18, (w64 (i_11 + 1)))) else some (.inl ((xs_9.set i_11.toNat (w64 (x_14 + (w64 (turns1 * x_15))))), false, (w64 (i_11 + 1))))) else some (.inr (xs_9, q_10)))
noncomputable def spec_l06Turned.k_5 (turns1 : Int) (t_1 : GWear) (t_2 : (List Int)) (xs_3 : List GWornPin) (q_4 : Bool) : Option (GWear × Bool) := (loop (spec_l06Turned.l_12 turns1 t_2) (t_1.fStrokes, q_4, 0)).bind fun t_13 => spec_l06Turned.k_8 xs_3 t_13.1 t_13.2
noncomputable def spec_l06Turned.l_22 (turns1 : Int) (t_1 : GWear) : ((List GWornPin) × Bool × Int) → Option (((List GWornPin) × Bool × Int) ⊕ (((List GWornPin) × Bool)))
  | (xs_19, q_20, i_21) => (if (decide (i_21 < (t_1.fPins.length : Int))) = true then (ix xs_19 i_21).bind fun x_24 => (ix xs_19 i_21).bind fun x_25 => (if q_20 = true then (ix (xs_19.set i_21.toNat (⟨x_25.fStep, x_25.fTrack, (w64 (x_24.fTurns + turns1))⟩ : GWornPin)) i_21).bind fun x_26 => (spec_l06Turns x_26.fTurns).bind fun t_27 => some (.inl ((xs_19.set i_21.toNat (⟨x_25.fStep, x_25.fTrack, (w64 (x_24.fTurns + turns1))⟩ : GWornPin)), t_27, (w64 (i_21 + 1)))) else some (.inl ((xs_19.set i_21.toNat (⟨x_25.fStep, x_25.fTrack, (w64 (x_24.fTurns + turns1))⟩ : GWornPin)), false, (w64 (i_21 + 1))))) else some (.inr (xs_19, q_20)))
noncomputable def spec_l06Turned (w0 : GWear) (turns1 : Int) : Option (GWear × Bool) := (spec_l06Copy w0).bind fun t_1 => (spec_l06Each w0).bind fun t_2 => (loop (spec_l06Turned.l_22 turns1 t_1) (t_1.fPins, true, 0)).bind fun t_23 => spec_l06Turned.k_5 turns1 t_1 t_2 t_23.1 t_23.2
set_option maxRecDepth 100000 in
theorem spec_l06Turned.calls (w0 : GWear) (turns1 : Int) (w : World) (r : GWear × Bool) (w0_fPins_a : Option Addr) (w0_fPins_an : Nat) (w0_fPins_c : Nat) (w0_fPins_h : Rw w w0_fPins_a 3 encGWornPin w0.fPins) (w0_fPins_hn : w0.fPins.length = w0_fPins_an) (w0_fStrokes_a : Option Addr) (w0_fStrokes_an : Nat) (w0_fStrokes_c : Nat) (w0_fStrokes_h : Rw w w0_fStrokes_a 1 encI64 w0.fStrokes) (w0_fStrokes_hn : w0.fStrokes.length = w0_fStrokes_an) (w0_b : Nat) (hm0 : Mem w (bs [some w0_b]) [⟨some w0_b, 32, [(.slice w0_fPins_a w0_fPins_an w0_fPins_c), (.slice w0_fStrokes_a w0_fStrokes_an w0_fStrokes_c)]⟩] w) (w0_fPins_ha : w0.fPins ≠ [] → aB w0_fPins_a ∉ bs [some w0_b]) (w0_fStrokes_ha : w0.fStrokes ≠ [] → aB w0_fStrokes_a ∉ bs [some w0_b]) (h : spec_l06Turned w0 turns1 = some r) :
    Calls Try.prog 36 #[(.pointer (some ⟨w0_b, 0, none⟩)), (.int .i64 turns1)] w fun e w' => ∃ v, e = .returned v ∧ (∃ (o0 : Option Nat) (c0 : Nat) (s0 : List Value) (n0 : Nat), r.1.fPins.length = n0 ∧ (o0 ≠ none → n0 ≤ c0 ∧ s0.length = (c0 - n0) * 3) ∧ (o0 = none → r.1.fPins = [] ∧ c0 = 0) ∧ ∃ (o1 : Option Nat) (c1 : Nat) (s1 : List Value) (n1 : Nat), r.1.fStrokes.length = n1 ∧ (o1 ≠ none → n1 ≤ c1 ∧ s1.length = (c1 - n1) * 1) ∧ (o1 = none → r.1.fStrokes = [] ∧ c1 = 0) ∧ v = .tuple #[.agg #[.slice (o0.map fun b => ⟨b, 0, none⟩) n0 c0, .slice (o1.map fun b => ⟨b, 0, none⟩) n1 c1], (.bool r.2)] ∧ Mem w (bs [some w0_b]) [⟨some w0_b, 32, [(.slice w0_fPins_a w0_fPins_an w0_fPins_c), (.slice w0_fStrokes_a w0_fStrokes_an w0_fStrokes_c)]⟩, ⟨o0, 58, row encGWornPin r.1.fPins s0⟩, ⟨o1, 2, row encI64 r.1.fStrokes s1⟩] w') := by
  subst w0_fPins_hn w0_fStrokes_hn
  rw [spec_l06Turned] at h
  refine enter (args := [(.pointer (some ⟨w0_b, 0, none⟩)), (.int .i64 turns1)]) Try.func36 rfl Try.ntmps36 (by kernel_rfl) (L := [⟨some w0_b, 32, [(.slice w0_fPins_a w0.fPins.length w0_fPins_c), (.slice w0_fStrokes_a w0.fStrokes.length w0_fStrokes_c)]⟩]) (W := bs [some w0_b]) hm0 ?_
  refine jc_seq ?_
  refine jc_region ?_
  refine toO (by kernel_rfl) (p_a 0 [0] (by kernel_rfl) (fun b => by kernel_rfl) (fun b_1 => jkO ?_))
  refine jo_f [(0, 0)] (by kernel_rfl) ?_
  refine jo_end (by kernel_rfl) ?_
  refine jx_then ?_
  refine jc_seq ?_
  refine jc_region ?_
  refine jo_f [(0, 0)] (by kernel_rfl) ?_
  obtain ⟨t_1, ht_2, h⟩ := bd h
  refine toO (by kernel_rfl) (p_call 0 71 #[(.pointer (some ⟨w0_b, 0, none⟩))] (by kernel_rfl) (by kernel_rfl) (fun w hm => spec_l06Copy.calls w0 w _ w0_fPins_a w0.fPins.length w0_fPins_c (hm.exRowW w0_fPins_h w0_fPins_ha) rfl w0_fStrokes_a w0.fStrokes.length w0_fStrokes_c (hm.exRowW w0_fStrokes_h w0_fStrokes_ha) rfl w0_b (hm.pass (N := [⟨some w0_b, 32, [(.slice w0_fPins_a w0.fPins.length w0_fPins_c), (.slice w0_fStrokes_a w0.fStrokes.length w0_fStrokes_c)]⟩]) [0] (by kernel_rfl) (by kernel_rfl)) (hm.exApart (N := [⟨some w0_b, 32, [(.slice w0_fPins_a w0.fPins.length w0_fPins_c), (.slice w0_fStrokes_a w0.fStrokes.length w0_fStrokes_c)]⟩]) w0_fPins_h w0_fPins_ha [0] (by kernel_rfl)) (hm.exApart (N := [⟨some w0_b, 32, [(.slice w0_fPins_a w0.fPins.length w0_fPins_c), (.slice w0_fStrokes_a w0.fStrokes.length w0_fStrokes_c)]⟩]) w0_fStrokes_h w0_fStrokes_ha [0] (by kernel_rfl)) ht_2) ?_)
  rintro w v w' hm ⟨o_3, cap_4, sp_5, _, rfl, hs_6, ho_7, o_8, cap_9, sp_10, _, rfl, hs_11, ho_12, rfl, hm'⟩
  refine ⟨_, hm.appW (ps := [(0, ⟨some w0_b, 32, [(.slice w0_fPins_a w0.fPins.length w0_fPins_c), (.slice w0_fStrokes_a w0.fStrokes.length w0_fStrokes_c)]⟩)]) (N := [⟨o_3, 58, row encGWornPin t_1.fPins sp_5⟩, ⟨o_8, 2, row encI64 t_1.fStrokes sp_10⟩]) hm' (by kernel_rfl) (by kernel_rfl), jkO ?_⟩
  clear hm hm'
  refine toO (by kernel_rfl) (p_a 0 [0] (by kernel_rfl) (fun b => by kernel_rfl) (fun b_13 => jkO ?_))
  refine toO (by kernel_rfl) (p_s 0 [4] (by kernel_rfl) (by kernel_rfl) (jkO ?_))
  refine jo_end (by kernel_rfl) ?_
  refine jx_then ?_
  refine jc_seq ?_
  refine jc_region ?_
  refine jo_f [(0, 0)] (by kernel_rfl) ?_
  obtain ⟨t_2, ht_14, h⟩ := bd h
  refine toO (by kernel_rfl) (p_call 0 47 #[(.pointer (some ⟨w0_b, 0, none⟩))] (by kernel_rfl) (by kernel_rfl) (fun w hm => spec_l06Each.calls w0 w _ w0_fPins_a w0.fPins.length w0_fPins_c (hm.exRowW w0_fPins_h w0_fPins_ha) rfl w0_fStrokes_a w0.fStrokes.length w0_fStrokes_c (hm.exRowW w0_fStrokes_h w0_fStrokes_ha) rfl w0_b (hm.pass (N := [⟨some w0_b, 32, [(.slice w0_fPins_a w0.fPins.length w0_fPins_c), (.slice w0_fStrokes_a w0.fStrokes.length w0_fStrokes_c)]⟩]) [0] (by kernel_rfl) (by kernel_rfl)) (hm.exApart (N := [⟨some w0_b, 32, [(.slice w0_fPins_a w0.fPins.length w0_fPins_c), (.slice w0_fStrokes_a w0.fStrokes.length w0_fStrokes_c)]⟩]) w0_fPins_h w0_fPins_ha [0] (by kernel_rfl)) (hm.exApart (N := [⟨some w0_b, 32, [(.slice w0_fPins_a w0.fPins.length w0_fPins_c), (.slice w0_fStrokes_a w0.fStrokes.length w0_fStrokes_c)]⟩]) w0_fStrokes_h w0_fStrokes_ha [0] (by kernel_rfl)) ht_14) ?_)
  rintro w v w' hm ⟨o_15, cap_16, sp_17, _, rfl, hs_18, ho_19, rfl, hm'⟩
  refine ⟨_, hm.appW (ps := [(0, ⟨some w0_b, 32, [(.slice w0_fPins_a w0.fPins.length w0_fPins_c), (.slice w0_fStrokes_a w0.fStrokes.length w0_fStrokes_c)]⟩)]) (N := [⟨o_15, 2, row encI64 t_2 sp_17⟩]) hm' (by kernel_rfl) (by kernel_rfl), jkO ?_⟩
  clear hm hm'
  refine jo_f [(0, 0)] (by kernel_rfl) ?_
  refine jo_end (by kernel_rfl) ?_
  refine jx_then ?_
  refine jc_seq ?_
  refine jc_region ?_
  refine jo_f [(0, 0)] (by kernel_rfl) ?_
  refine jo_end (by kernel_rfl) ?_
  refine jx_then ?_
  refine jc_seq ?_
  refine jc_seq ?_
  refine jc_region ?_
  refine jo_f [(0, 0)] (by kernel_rfl) ?_
  refine jo_end (by kernel_rfl) ?_
  refine jx_then ?_
  refine jc_meet (fun (j : (List GWornPin) × Bool) => match j with | ⟨xs_3, q_4⟩ => spec_l06Turned.k_5 turns1 t_1 t_2 xs_3 q_4 = some r ∧ (xs_3.length = t_1.fPins.length) ∧ ((o_3 = none → xs_3 = [] ∧ cap_4 = 0))) (fun (j : (List GWornPin) × Bool) => match j with | ⟨xs_3, q_4⟩ => [(1, [], (.int .i64 turns1)), (4, [], (.pointer (some ⟨b_1, 0, none⟩))), (5, [], (.bool false)), (6, [], (.pointer (some ⟨b_13, 0, none⟩))), (7, [], (.slice (o_15.map fun b => ⟨b, 0, none⟩) t_2.length cap_16)), (8, [], (.bool q_4))]) (fun (j : (List GWornPin) × Bool) => match j with | ⟨xs_3, q_4⟩ => [⟨some w0_b, 32, [(.slice w0_fPins_a w0.fPins.length w0_fPins_c), (.slice w0_fStrokes_a w0.fStrokes.length w0_fStrokes_c)]⟩, ⟨some b_1, 32, [(.slice none 0 0), (.slice none 0 0)]⟩, ⟨o_3, 58, row encGWornPin xs_3 sp_5⟩, ⟨o_8, 2, row encI64 t_1.fStrokes sp_10⟩, ⟨some b_13, 32, [(.slice (o_3.map fun b => ⟨b, 0, none⟩) t_1.fPins.length cap_4), (.slice (o_8.map fun b => ⟨b, 0, none⟩) t_1.fStrokes.length cap_9)]⟩, ⟨o_15, 2, row encI64 t_2 sp_17⟩]) ?_ ?_
  · refine jc_block ?_
    obtain ⟨t_23, ht_303, hr_293⟩ := bd h
    refine jc_loop (fun (s : (List GWornPin) × Bool × Int) (x : Unit) => match s, x with | ⟨xs_19, q_20, i_21⟩, _ => (xs_19.length = t_1.fPins.length) ∧ ((o_3 = none → xs_19 = [] ∧ cap_4 = 0))) (fun (s : (List GWornPin) × Bool × Int) (x : Unit) => match s, x with | ⟨xs_19, q_20, i_21⟩, _ => [(1, [], (.int .i64 turns1)), (4, [], (.pointer (some ⟨b_1, 0, none⟩))), (5, [], (.bool false)), (6, [], (.pointer (some ⟨b_13, 0, none⟩))), (7, [], (.slice (o_15.map fun b => ⟨b, 0, none⟩) t_2.length cap_16)), (8, [], (.bool q_20)), (9, [], (.int .i64 i_21))]) (fun (s : (List GWornPin) × Bool × Int) (x : Unit) => match s, x with | ⟨xs_19, q_20, i_21⟩, _ => [⟨some w0_b, 32, [(.slice w0_fPins_a w0.fPins.length w0_fPins_c), (.slice w0_fStrokes_a w0.fStrokes.length w0_fStrokes_c)]⟩, ⟨some b_1, 32, [(.slice none 0 0), (.slice none 0 0)]⟩, ⟨o_3, 58, row encGWornPin xs_19 sp_5⟩, ⟨o_8, 2, row encI64 t_1.fStrokes sp_10⟩, ⟨some b_13, 32, [(.slice (o_3.map fun b => ⟨b, 0, none⟩) t_1.fPins.length cap_4), (.slice (o_8.map fun b => ⟨b, 0, none⟩) t_1.fStrokes.length cap_9)]⟩, ⟨o_15, 2, row encI64 t_2 sp_17⟩]) ht_303 () ⟨rfl, ho_7⟩ (by kernel_rfl) [0, 1, 2, 3, 4, 5] (by kernel_rfl) (by kernel_rfl) ?_
    rintro ⟨xs_19, q_20, i_21⟩ _ y_294 ⟨hn_292, ho_291⟩ h
    rw [spec_l06Turned.l_22] at h
    refine jc_seq ?_
    refine jc_seq ?_
    refine jc_region ?_
    refine jo_f [(0, 0), (0, 0), (4, 0), (0, 0), (0, 0)] (by kernel_rfl) ?_
    refine jo_end (by kernel_rfl) ?_
    refine jx_then ?_
    refine jc_cond (decide (i_21 < (t_1.fPins.length : Int))) (by kernel_rfl) (fun hc_296 => ?_) (fun hc_296 => ?_)
    · replace h := ifT hc_296 h
      refine jc_skip ?_
      refine jx_then ?_
      refine jc_seq ?_
      refine jc_block ?_
      refine jc_seq ?_
      refine jc_region ?_
      refine jo_f [(0, 0), (4, 0), (0, 0)] (by kernel_rfl) ?_
      obtain ⟨x_24, hx_297, h⟩ := bd h
      refine toO (by kernel_rfl) (p_idx 0 (o_3.map fun b => ⟨b, 0, none⟩) t_1.fPins.length i_21 3 (by kernel_rfl) (by kernel_rfl) (ix_some hx_297).1 (ltn hx_297 hn_292) (spo ho_291 hx_297) (jkO ?_))
      refine jo_f [(0, 0)] (by kernel_rfl) ?_
      refine toO (by kernel_rfl) (p_ld 0 (aB (o_3.map fun b => ⟨b, 0, none⟩)) (aO (o_3.map fun b => ⟨b, 0, none⟩) + i_21.toNat * 3 + 2) false (((encGWornPin x_24).drop 2).take 1) (by kernel_rfl) (by kernel_rfl) (by kernel_rfl) (fun w hm => (((hm.ownRow (hh := 2) (o := o_3) (T := 58) (enc := encGWornPin) (xs := xs_19) (sp := sp_5) (by kernel_rfl) (fun e => (ho_291 e).1) encGWornPin_len).at hx_297).sub 2 1)) (jkO ?_))
      refine jo_f [(0, 0), (0, 0)] (by kernel_rfl) ?_
      obtain ⟨x_25, hx_298, h⟩ := bd h
      refine toO (by kernel_rfl) (p_idx 0 (o_3.map fun b => ⟨b, 0, none⟩) t_1.fPins.length i_21 3 (by kernel_rfl) (by kernel_rfl) (ix_some hx_298).1 (ltn hx_298 hn_292) (spo ho_291 hx_298) (jkO ?_))
      refine jo_f [(0, 0)] (by kernel_rfl) ?_
      refine toO (by kernel_rfl) (p_strO 0 2 o_3 58 encGWornPin xs_19 sp_5 i_21 (⟨x_25.fStep, x_25.fTrack, (w64 (x_24.fTurns + turns1))⟩ : GWornPin) 3 2 [(.int .i64 (w64 (x_24.fTurns + turns1)))] (by kernel_rfl) (by kernel_rfl) (by kernel_rfl) (fun e => (ho_291 e).1) encGWornPin_len hx_298 (by kernel_rfl) (by kernel_rfl) (jkO ?_))
      refine jo_end (by kernel_rfl) ?_
      refine jx_then ?_
      refine jc_region ?_
      refine jo_f [(0, 0), (0, 0), (0, 1), (4, 1), (0, 1)] (by kernel_rfl) ?_
      refine jo_split 33 q_20 (by kernel_rfl) (fun hc_299 => ?_) (fun hc_299 => ?_)
      · replace h := ifT hc_299 h
        obtain ⟨x_26, hx_300, h⟩ := bd h
        refine toO (by kernel_rfl) (p_idx 2 (o_3.map fun b => ⟨b, 0, none⟩) t_1.fPins.length i_21 3 (by kernel_rfl) (by kernel_rfl) (ix_some hx_300).1 (ltn hx_300 (List.length_set.trans hn_292)) (spo (set_ho ho_291) hx_300) (jkO ?_))
        refine jo_f [(0, 2)] (by kernel_rfl) ?_
        refine toO (by kernel_rfl) (p_ld 2 (aB (o_3.map fun b => ⟨b, 0, none⟩)) (aO (o_3.map fun b => ⟨b, 0, none⟩) + i_21.toNat * 3 + 2) false (((encGWornPin x_26).drop 2).take 1) (by kernel_rfl) (by kernel_rfl) (by kernel_rfl) (fun w hm => (((hm.ownRow (hh := 2) (o := o_3) (T := 58) (enc := encGWornPin) (xs := (xs_19.set i_21.toNat (⟨x_25.fStep, x_25.fTrack, (w64 (x_24.fTurns + turns1))⟩ : GWornPin))) (sp := sp_5) (by kernel_rfl) (fun e => ((set_ho ho_291) e).1) encGWornPin_len).at hx_300).sub 2 1)) (jkO ?_))
        obtain ⟨t_27, ht_301, h⟩ := bd h
        refine toO (by kernel_rfl) (p_call 2 35 #[(.int .i64 x_26.fTurns)] (by kernel_rfl) (by kernel_rfl) (fun w hm => spec_l06Turns.calls x_26.fTurns w _ ht_301) ?_)
        rintro w v w' hm ⟨rfl, hm'⟩
        refine ⟨_, hm.app hm', jkO ?_⟩
        clear hm hm'
        refine jo_f [(0, 4), (0, 0)] (by kernel_rfl) ?_
        refine jo_end (by kernel_rfl) ?_
        refine jx_inn ?_
        refine jx_then ?_
        refine jc_region ?_
        refine jo_f [(0, 0), (0, 0), (0, 0)] (by kernel_rfl) ?_
        refine jo_end (by kernel_rfl) ?_
        exact jx_back ((xs_19.set i_21.toNat (⟨x_25.fStep, x_25.fTrack, (w64 (x_24.fTurns + turns1))⟩ : GWornPin)), t_27, (w64 (i_21 + 1))) () (Option.some.inj h).symm ⟨(List.length_set.trans hn_292), (set_ho ho_291)⟩ [0, 1, 2, 3, 4, 5] (by kernel_rfl) (by kernel_rfl) (by kernel_rfl)
      · replace h := ifF hc_299 h
        refine jo_f [(0, 3), (0, 3), (0, 3), (0, 3), (0, 5), (0, 0)] (by kernel_rfl) ?_
        refine jo_end (by kernel_rfl) ?_
        refine jx_inn ?_
        refine jx_then ?_
        refine jc_region ?_
        refine jo_f [(0, 0), (0, 0), (0, 0)] (by kernel_rfl) ?_
        refine jo_end (by kernel_rfl) ?_
        exact jx_back ((xs_19.set i_21.toNat (⟨x_25.fStep, x_25.fTrack, (w64 (x_24.fTurns + turns1))⟩ : GWornPin)), false, (w64 (i_21 + 1))) () (Option.some.inj h).symm ⟨(List.length_set.trans hn_292), (set_ho ho_291)⟩ [0, 1, 2, 3, 4, 5] (by kernel_rfl) (by kernel_rfl) (by kernel_rfl)
    · replace h := ifF hc_296 h
      refine jc_exit ?_
      refine jx_thenx ?_
      refine jx_leave (xs_19, q_20) (Option.some.inj h).symm (fun e_302 => ?_)
      subst e_302
      refine jx_ine ?_
      exact jx_meet ⟨xs_19, q_20⟩ ⟨hr_293, hn_292, ho_291⟩ (by kernel_rfl) [0, 1, 2, 3, 4, 5] (by kernel_rfl) (by kernel_rfl)
  · rintro ⟨xs_3, q_4⟩ ⟨h, hn_107, ho_106⟩
    replace h : spec_l06Turned.k_5 turns1 t_1 t_2 xs_3 q_4 = some r := h
    rw [spec_l06Turned.k_5] at h
    refine jx_then ?_
    refine jc_seq ?_
    refine jc_seq ?_
    refine jc_region ?_
    refine jo_f [(0, 0)] (by kernel_rfl) ?_
    refine jo_end (by kernel_rfl) ?_
    refine jx_then ?_
    refine jc_meet (fun (j : (List Int) × Bool) => match j with | ⟨xs_6, q_7⟩ => spec_l06Turned.k_8 xs_3 xs_6 q_7 = some r ∧ (xs_6.length = t_1.fStrokes.length) ∧ ((o_8 = none → xs_6 = [] ∧ cap_9 = 0))) (fun (j : (List Int) × Bool) => match j with | ⟨xs_6, q_7⟩ => [(4, [], (.pointer (some ⟨b_1, 0, none⟩))), (5, [], (.bool false)), (6, [], (.pointer (some ⟨b_13, 0, none⟩))), (8, [], (.bool q_7))]) (fun (j : (List Int) × Bool) => match j with | ⟨xs_6, q_7⟩ => [⟨some w0_b, 32, [(.slice w0_fPins_a w0.fPins.length w0_fPins_c), (.slice w0_fStrokes_a w0.fStrokes.length w0_fStrokes_c)]⟩, ⟨some b_1, 32, [(.slice none 0 0), (.slice none 0 0)]⟩, ⟨o_3, 58, row encGWornPin xs_3 sp_5⟩, ⟨o_8, 2, row encI64 xs_6 sp_10⟩, ⟨some b_13, 32, [(.slice (o_3.map fun b => ⟨b, 0, none⟩) t_1.fPins.length cap_4), (.slice (o_8.map fun b => ⟨b, 0, none⟩) t_1.fStrokes.length cap_9)]⟩, ⟨o_15, 2, row encI64 t_2 sp_17⟩]) ?_ ?_
    · refine jc_block ?_
      obtain ⟨t_13, ht_275, hr_261⟩ := bd h
      refine jc_loop (fun (s : (List Int) × Bool × Int) (x : Unit) => match s, x with | ⟨xs_9, q_10, i_11⟩, _ => (xs_9.length = t_1.fStrokes.length) ∧ ((o_8 = none → xs_9 = [] ∧ cap_9 = 0))) (fun (s : (List Int) × Bool × Int) (x : Unit) => match s, x with | ⟨xs_9, q_10, i_11⟩, _ => [(1, [], (.int .i64 turns1)), (4, [], (.pointer (some ⟨b_1, 0, none⟩))), (5, [], (.bool false)), (6, [], (.pointer (some ⟨b_13, 0, none⟩))), (7, [], (.slice (o_15.map fun b => ⟨b, 0, none⟩) t_2.length cap_16)), (8, [], (.bool q_10)), (10, [], (.int .i64 i_11))]) (fun (s : (List Int) × Bool × Int) (x : Unit) => match s, x with | ⟨xs_9, q_10, i_11⟩, _ => [⟨some w0_b, 32, [(.slice w0_fPins_a w0.fPins.length w0_fPins_c), (.slice w0_fStrokes_a w0.fStrokes.length w0_fStrokes_c)]⟩, ⟨some b_1, 32, [(.slice none 0 0), (.slice none 0 0)]⟩, ⟨o_3, 58, row encGWornPin xs_3 sp_5⟩, ⟨o_8, 2, row encI64 xs_9 sp_10⟩, ⟨some b_13, 32, [(.slice (o_3.map fun b => ⟨b, 0, none⟩) t_1.fPins.length cap_4), (.slice (o_8.map fun b => ⟨b, 0, none⟩) t_1.fStrokes.length cap_9)]⟩, ⟨o_15, 2, row encI64 t_2 sp_17⟩]) ht_275 () ⟨rfl, ho_12⟩ (by kernel_rfl) [0, 1, 2, 3, 4, 5] (by kernel_rfl) (by kernel_rfl) ?_
      rintro ⟨xs_9, q_10, i_11⟩ _ y_262 ⟨hn_260, ho_259⟩ h
      rw [spec_l06Turned.l_12] at h
      refine jc_seq ?_
      refine jc_seq ?_
      refine jc_region ?_
      refine jo_f [(0, 0), (0, 0), (0, 0), (0, 0)] (by kernel_rfl) ?_
      refine jo_end (by kernel_rfl) ?_
      refine jx_then ?_
      refine jc_cond (decide (i_11 < (t_2.length : Int))) (by kernel_rfl) (fun hc_264 => ?_) (fun hc_264 => ?_)
      · replace h := ifT hc_264 h
        refine jc_skip ?_
        refine jx_then ?_
        refine jc_seq ?_
        refine jc_block ?_
        refine jc_seq ?_
        refine jc_draw [⟨some w0_b, 32, [(.slice w0_fPins_a w0.fPins.length w0_fPins_c), (.slice w0_fStrokes_a w0.fStrokes.length w0_fStrokes_c)]⟩, ⟨some b_1, 32, [(.slice none 0 0), (.slice none 0 0)]⟩, ⟨o_3, 58, row encGWornPin xs_3 sp_5⟩, ⟨some b_13, 32, [(.slice (o_3.map fun b => ⟨b, 0, none⟩) t_1.fPins.length cap_4), (.slice (o_8.map fun b => ⟨b, 0, none⟩) t_1.fStrokes.length cap_9)]⟩, ⟨o_15, 2, row encI64 t_2 sp_17⟩] 14 (by kernel_rfl) (by kernel_rfl) ?_
        refine jd_f [⟨0, 0, 0⟩, ⟨1, 3, 0⟩, ⟨2, 0, 0⟩, ⟨5, 0, 0⟩, ⟨6, 0, 0⟩, ⟨7, 0, 0⟩] 8 (by kernel_rfl) (by kernel_rfl) (fun w h => h.pick [0, 1, 2, 4, 5] (by kernel_rfl) (by kernel_rfl)) (by kernel_rfl) (by kernel_rfl) ?_
        obtain ⟨x_14, hx_268, h⟩ := bd h
        refine jd_v 3 0 (by kernel_rfl) (fun w h => h.pick [0, 1, 2, 4, 5] (by kernel_rfl) (by kernel_rfl)) (by kernel_rfl) (by kernel_rfl) _ (fun w hm => idx_run (a := (o_8.map fun b => ⟨b, 0, none⟩)) (len := t_1.fStrokes.length) (s := 1) (j := i_11) (by kernel_rfl) (ix_some hx_268).1 (ltn hx_268 hn_260) (spo ho_259 hx_268)) ?_
        obtain ⟨x_15, hx_269, h⟩ := bd h
        refine jd_v 8 0 (by kernel_rfl) (fun w h => h.pick [0, 1, 2, 4, 5] (by kernel_rfl) (by kernel_rfl)) (by kernel_rfl) (by kernel_rfl) _ (fun w hm => idx_run (a := (o_15.map fun b => ⟨b, 0, none⟩)) (len := t_2.length) (s := 1) (j := i_11) (by kernel_rfl) (ix_some hx_269).1 (ltn hx_269 rfl) (spo ho_19 hx_269)) ?_
        refine jd_v 9 0 (by kernel_rfl) (fun w h => h.pick [0, 1, 2, 4, 5] (by kernel_rfl) (by kernel_rfl)) (by kernel_rfl) (by kernel_rfl) _ (fun w hm => ld_run (b := aB (o_15.map fun b => ⟨b, 0, none⟩)) (off := (aO (o_15.map fun b => ⟨b, 0, none⟩) + i_11.toNat * 1)) (s := 1) (agg := false) (vs := (encI64 x_15)) (by kernel_rfl) (by kernel_rfl) (.inr rfl) ((hm.ownRow (hh := 4) (o := o_15) (T := 2) (enc := encI64) (xs := t_2) (sp := sp_17) (by kernel_rfl) (fun e => (ho_19 e).1) encI64_len).at hx_269)) ?_
        refine jd_f [⟨10, 0, 0⟩] 4 (by kernel_rfl) (by kernel_rfl) (fun w h => h.pick [0, 1, 2, 4, 5] (by kernel_rfl) (by kernel_rfl)) (by kernel_rfl) (by kernel_rfl) ?_
        refine toD 4 (by kernel_rfl) (p_ld 0 (aB (o_8.map fun b => ⟨b, 0, none⟩)) (aO (o_8.map fun b => ⟨b, 0, none⟩) + i_11.toNat * 1) false (encI64 x_14) (by kernel_rfl) (by kernel_rfl) (by kernel_rfl) (fun w hm => ((hm.ownRow (hh := 3) (o := o_8) (T := 2) (enc := encI64) (xs := xs_9) (sp := sp_10) (by kernel_rfl) (fun e => (ho_259 e).1) encI64_len).at hx_268)) (jkD (fun w h => h.pick [0, 1, 2, 4, 5] (by kernel_rfl) (by kernel_rfl)) ?_))
        refine jd_f [⟨11, 0, 0⟩] 2 (by kernel_rfl) (by kernel_rfl) (fun w h => h.pick [0, 1, 2, 4, 5] (by kernel_rfl) (by kernel_rfl)) (by kernel_rfl) (by kernel_rfl) ?_
        obtain ⟨x_16, hx_270, h⟩ := bd h
        refine jd_v 12 0 (by kernel_rfl) (fun w h => h.pick [0, 1, 2, 4, 5] (by kernel_rfl) (by kernel_rfl)) (by kernel_rfl) (by kernel_rfl) _ (fun w hm => idx_run (a := (o_8.map fun b => ⟨b, 0, none⟩)) (len := t_1.fStrokes.length) (s := 1) (j := i_11) (by kernel_rfl) (ix_some hx_270).1 (ltn hx_270 hn_260) (spo ho_259 hx_270)) ?_
        refine toD 13 (by kernel_rfl) (p_strO 0 3 o_8 2 encI64 xs_9 sp_10 i_11 (w64 (x_14 + (w64 (turns1 * x_15)))) 1 0 [(.int .i64 (w64 (x_14 + (w64 (turns1 * x_15)))))] (by kernel_rfl) (by kernel_rfl) (by kernel_rfl) (fun e => (ho_259 e).1) encI64_len hx_270 (by kernel_rfl) (by kernel_rfl) (jkD (fun w h => h.pick [0, 1, 2, 4, 5] (by kernel_rfl) (by kernel_rfl)) ?_))
        refine jd_end (by kernel_rfl) ?_
        refine jx_then ?_
        refine jc_region ?_
        refine jo_f [(0, 0), (0, 0), (0, 1), (4, 1), (0, 1)] (by kernel_rfl) ?_
        refine jo_split 62 q_10 (by kernel_rfl) (fun hc_271 => ?_) (fun hc_271 => ?_)
        · replace h := ifT hc_271 h
          obtain ⟨x_17, hx_272, h⟩ := bd h
          refine toO (by kernel_rfl) (p_idx 2 (o_8.map fun b => ⟨b, 0, none⟩) t_1.fStrokes.length i_11 1 (by kernel_rfl) (by kernel_rfl) (ix_some hx_272).1 (ltn hx_272 (List.length_set.trans hn_260)) (spo (set_ho ho_259) hx_272) (jkO ?_))
          refine toO (by kernel_rfl) (p_ld 2 (aB (o_8.map fun b => ⟨b, 0, none⟩)) (aO (o_8.map fun b => ⟨b, 0, none⟩) + i_11.toNat * 1) false (encI64 x_17) (by kernel_rfl) (by kernel_rfl) (by kernel_rfl) (fun w hm => ((hm.ownRow (hh := 3) (o := o_8) (T := 2) (enc := encI64) (xs := (xs_9.set i_11.toNat (w64 (x_14 + (w64 (turns1 * x_15)))))) (sp := sp_10) (by kernel_rfl) (fun e => ((set_ho ho_259) e).1) encI64_len).at hx_272)) (jkO ?_))
          obtain ⟨t_18, ht_273, h⟩ := bd h
          refine toO (by kernel_rfl) (p_call 2 35 #[(.int .i64 x_17)] (by kernel_rfl) (by kernel_rfl) (fun w hm => spec_l06Turns.calls x_17 w _ ht_273) ?_)
          rintro w v w' hm ⟨rfl, hm'⟩
          refine ⟨_, hm.app hm', jkO ?_⟩
          clear hm hm'
          refine jo_f [(0, 4), (0, 0)] (by kernel_rfl) ?_
          refine jo_end (by kernel_rfl) ?_
          refine jx_inn ?_
          refine jx_then ?_
          refine jc_region ?_
          refine jo_f [(0, 0), (0, 0), (0, 0)] (by kernel_rfl) ?_
          refine jo_end (by kernel_rfl) ?_
          exact jx_back ((xs_9.set i_11.toNat (w64 (x_14 + (w64 (turns1 * x_15))))), t_18, (w64 (i_11 + 1))) () (Option.some.inj h).symm ⟨(List.length_set.trans hn_260), (set_ho ho_259)⟩ [0, 1, 2, 3, 4, 5] (by kernel_rfl) (by kernel_rfl) (by kernel_rfl)
        · replace h := ifF hc_271 h
          refine jo_f [(0, 3), (0, 3), (0, 3), (0, 5), (0, 0)] (by kernel_rfl) ?_
          refine jo_end (by kernel_rfl) ?_
          refine jx_inn ?_
          refine jx_then ?_
          refine jc_region ?_
          refine jo_f [(0, 0), (0, 0), (0, 0)] (by kernel_rfl) ?_
          refine jo_end (by kernel_rfl) ?_
          exact jx_back ((xs_9.set i_11.toNat (w64 (x_14 + (w64 (turns1 * x_15))))), false, (w64 (i_11 + 1))) () (Option.some.inj h).symm ⟨(List.length_set.trans hn_260), (set_ho ho_259)⟩ [0, 1, 2, 3, 4, 5] (by kernel_rfl) (by kernel_rfl) (by kernel_rfl)
      · replace h := ifF hc_264 h
        refine jc_exit ?_
        refine jx_thenx ?_
        refine jx_leave (xs_9, q_10) (Option.some.inj h).symm (fun e_274 => ?_)
        subst e_274
        refine jx_ine ?_
        exact jx_meet ⟨xs_9, q_10⟩ ⟨hr_261, hn_260, ho_259⟩ (by kernel_rfl) [0, 1, 2, 3, 4, 5] (by kernel_rfl) (by kernel_rfl)
    · rintro ⟨xs_6, q_7⟩ ⟨h, hn_234, ho_233⟩
      replace h : spec_l06Turned.k_8 xs_3 xs_6 q_7 = some r := h
      rw [spec_l06Turned.k_8] at h
      refine jx_then ?_
      refine jc_seq ?_
      refine jc_region ?_
      refine jo_f [(4, 0), (0, 0)] (by kernel_rfl) ?_
      refine toO (by kernel_rfl) (p_s 0 [1] (by kernel_rfl) (by kernel_rfl) (jkO ?_))
      refine jo_f [(0, 0)] (by kernel_rfl) ?_
      refine jo_end (by kernel_rfl) ?_
      refine jx_then ?_
      refine jc_ret ?_
      obtain rfl := Option.some.inj h
      exact jx_ret [1] (.tuple #[(.agg #[(.slice (o_3.map fun b => ⟨b, 0, none⟩) t_1.fPins.length cap_4), (.slice (o_8.map fun b => ⟨b, 0, none⟩) t_1.fStrokes.length cap_9)]), (.bool q_7)]) [(b_1, b_1), (b_1, b_1)] rfl (by kernel_rfl) (by kernel_rfl) (fun w hm => ⟨o_3, cap_4, sp_5, t_1.fPins.length, hn_107, hs_6, ho_106, o_8, cap_9, sp_10, t_1.fStrokes.length, hn_234, hs_11, ho_233, rfl, hm.pick [0, 2, 3] (by kernel_rfl) (by kernel_rfl)⟩)

/-! ### spec.TurnWear -/
noncomputable def spec_TurnWear (f0 : GFrame) (w1 : GWear) (turns2 : Int) : Option (GWear × Int) := (spec_l06Ok f0 w1).bind fun t_1 => (if (!t_1) = true then some ((⟨[], []⟩ : GWear), 1) else (spec_l06Turns turns2).bind fun t_2 => (if (!t_2) = true then some ((⟨[], []⟩ : GWear), 2) else (spec_l06Turned w1 turns2).bind fun t_3 => (if (!t_3.2) = true then some ((⟨[], []⟩ : GWear), 3) else some (t_3.1, 0))))
set_option maxRecDepth 100000 in
theorem spec_TurnWear.calls (f0 : GFrame) (w1 : GWear) (turns2 : Int) (w : World) (r : GWear × Int) (f0_fHammers_a : Option Addr) (f0_fHammers_an : Nat) (f0_fHammers_c : Nat) (f0_fHammers_h : Rw w f0_fHammers_a 2 encGHammer f0.fHammers) (f0_fHammers_hn : f0.fHammers.length = f0_fHammers_an) (w1_fPins_a : Option Addr) (w1_fPins_an : Nat) (w1_fPins_c : Nat) (w1_fPins_h : Rw w w1_fPins_a 3 encGWornPin w1.fPins) (w1_fPins_hn : w1.fPins.length = w1_fPins_an) (w1_fStrokes_a : Option Addr) (w1_fStrokes_an : Nat) (w1_fStrokes_c : Nat) (w1_fStrokes_h : Rw w w1_fStrokes_a 1 encI64 w1.fStrokes) (w1_fStrokes_hn : w1.fStrokes.length = w1_fStrokes_an) (h : spec_TurnWear f0 w1 turns2 = some r) :
    Calls Try.prog 10 #[(.agg #[(.int .i16 f0.fSteps), (.slice f0_fHammers_a f0_fHammers_an f0_fHammers_c)]), (.agg #[(.slice w1_fPins_a w1_fPins_an w1_fPins_c), (.slice w1_fStrokes_a w1_fStrokes_an w1_fStrokes_c)]), (.int .i64 turns2)] w fun e w' => ∃ v, e = .returned v ∧ (∃ (o0 : Option Nat) (c0 : Nat) (s0 : List Value) (n0 : Nat), r.1.fPins.length = n0 ∧ (o0 ≠ none → n0 ≤ c0 ∧ s0.length = (c0 - n0) * 3) ∧ (o0 = none → r.1.fPins = [] ∧ c0 = 0) ∧ ∃ (o1 : Option Nat) (c1 : Nat) (s1 : List Value) (n1 : Nat), r.1.fStrokes.length = n1 ∧ (o1 ≠ none → n1 ≤ c1 ∧ s1.length = (c1 - n1) * 1) ∧ (o1 = none → r.1.fStrokes = [] ∧ c1 = 0) ∧ v = .tuple #[.agg #[.slice (o0.map fun b => ⟨b, 0, none⟩) n0 c0, .slice (o1.map fun b => ⟨b, 0, none⟩) n1 c1], (.int .i64 r.2)] ∧ Mem w [] [⟨o0, 58, row encGWornPin r.1.fPins s0⟩, ⟨o1, 2, row encI64 r.1.fStrokes s1⟩] w') := by
  subst f0_fHammers_hn w1_fPins_hn w1_fStrokes_hn
  rw [spec_TurnWear] at h
  refine enter (args := [(.agg #[(.int .i16 f0.fSteps), (.slice f0_fHammers_a f0.fHammers.length f0_fHammers_c)]), (.agg #[(.slice w1_fPins_a w1.fPins.length w1_fPins_c), (.slice w1_fStrokes_a w1.fStrokes.length w1_fStrokes_c)]), (.int .i64 turns2)]) Try.func10 rfl Try.ntmps10 (by kernel_rfl) (L := []) (W := []) (Mem.start w) ?_
  refine jc_seq ?_
  refine jc_region ?_
  refine toO (by kernel_rfl) (p_a 0 [0] (by kernel_rfl) (fun b => by kernel_rfl) (fun b_1 => jkO ?_))
  refine toO (by kernel_rfl) (p_a 0 [0] (by kernel_rfl) (fun b => by kernel_rfl) (fun b_2 => jkO ?_))
  refine toO (by kernel_rfl) (p_a 0 [0] (by kernel_rfl) (fun b => by kernel_rfl) (fun b_3 => jkO ?_))
  refine jo_f [(0, 0)] (by kernel_rfl) ?_
  refine jo_end (by kernel_rfl) ?_
  refine jx_then ?_
  refine jc_seq ?_
  refine jc_seq ?_
  refine jc_region ?_
  obtain ⟨t_1, ht_6, h⟩ := bd h
  refine toO (by kernel_rfl) (p_call 0 34 #[(.pointer (some ⟨b_1, 0, none⟩)), (.pointer (some ⟨b_2, 0, none⟩))] (by kernel_rfl) (by kernel_rfl) (fun w hm => spec_l06Ok.calls f0 w1 w _ f0_fHammers_a f0.fHammers.length f0_fHammers_c (hm.exRow f0_fHammers_h List.not_mem_nil) rfl w1_fPins_a w1.fPins.length w1_fPins_c (hm.exRow w1_fPins_h List.not_mem_nil) rfl w1_fStrokes_a w1.fStrokes.length w1_fStrokes_c (hm.exRow w1_fStrokes_h List.not_mem_nil) rfl b_1 b_2 (hm.pass (N := [⟨some b_1, 27, [(.int .i16 f0.fSteps), (.slice f0_fHammers_a f0.fHammers.length f0_fHammers_c)]⟩, ⟨some b_2, 32, [(.slice w1_fPins_a w1.fPins.length w1_fPins_c), (.slice w1_fStrokes_a w1.fStrokes.length w1_fStrokes_c)]⟩]) [0, 1] (by kernel_rfl) (by kernel_rfl)) (hm.exApart (N := [⟨some b_1, 27, [(.int .i16 f0.fSteps), (.slice f0_fHammers_a f0.fHammers.length f0_fHammers_c)]⟩, ⟨some b_2, 32, [(.slice w1_fPins_a w1.fPins.length w1_fPins_c), (.slice w1_fStrokes_a w1.fStrokes.length w1_fStrokes_c)]⟩]) f0_fHammers_h (fun _ => List.not_mem_nil) [0, 1] (by kernel_rfl)) (hm.exApart (N := [⟨some b_1, 27, [(.int .i16 f0.fSteps), (.slice f0_fHammers_a f0.fHammers.length f0_fHammers_c)]⟩, ⟨some b_2, 32, [(.slice w1_fPins_a w1.fPins.length w1_fPins_c), (.slice w1_fStrokes_a w1.fStrokes.length w1_fStrokes_c)]⟩]) w1_fPins_h (fun _ => List.not_mem_nil) [0, 1] (by kernel_rfl)) (hm.exApart (N := [⟨some b_1, 27, [(.int .i16 f0.fSteps), (.slice f0_fHammers_a f0.fHammers.length f0_fHammers_c)]⟩, ⟨some b_2, 32, [(.slice w1_fPins_a w1.fPins.length w1_fPins_c), (.slice w1_fStrokes_a w1.fStrokes.length w1_fStrokes_c)]⟩]) w1_fStrokes_h (fun _ => List.not_mem_nil) [0, 1] (by kernel_rfl)) ht_6) ?_)
  rintro w v w' hm ⟨rfl, hm'⟩
  refine ⟨_, hm.appW (ps := [(0, ⟨some b_1, 27, [(.int .i16 f0.fSteps), (.slice f0_fHammers_a f0.fHammers.length f0_fHammers_c)]⟩), (1, ⟨some b_2, 32, [(.slice w1_fPins_a w1.fPins.length w1_fPins_c), (.slice w1_fStrokes_a w1.fStrokes.length w1_fStrokes_c)]⟩)]) (N := []) hm' (by kernel_rfl) (by kernel_rfl), jkO ?_⟩
  clear hm hm'
  refine jo_f [(0, 0)] (by kernel_rfl) ?_
  refine jo_end (by kernel_rfl) ?_
  refine jx_then ?_
  refine jc_cond (!t_1) (by kernel_rfl) (fun hc_7 => ?_) (fun hc_7 => ?_)
  · replace h := ifT hc_7 h
    refine jc_seq ?_
    refine jc_region ?_
    refine jo_f [(0, 0)] (by kernel_rfl) ?_
    refine toO (by kernel_rfl) (p_s 0 [2] (by kernel_rfl) (by kernel_rfl) (jkO ?_))
    refine jo_f [(0, 0)] (by kernel_rfl) ?_
    refine jo_end (by kernel_rfl) ?_
    refine jx_then ?_
    refine jc_ret ?_
    refine jx_thenr ?_
    obtain rfl := Option.some.inj h
    refine jx_ghost 58 encGWornPin ?_
    refine jx_ghost 2 encI64 ?_
    exact jx_ret [2] (.tuple #[(.agg #[(.slice none 0 0), (.slice none 0 0)]), (.int .i64 1)]) [(b_3, b_3), (b_3, b_3)] rfl (by kernel_rfl) (by kernel_rfl) (fun w hm => ⟨none, 0, [], 0, rfl, (fun e => absurd rfl e), (fun _ => ⟨rfl, rfl⟩), none, 0, [], 0, rfl, (fun e => absurd rfl e), (fun _ => ⟨rfl, rfl⟩), rfl, hm.pick [3, 4] (by kernel_rfl) (by kernel_rfl)⟩)
  · replace h := ifF hc_7 h
    refine jc_skip ?_
    refine jx_then ?_
    refine jc_seq ?_
    refine jc_seq ?_
    refine jc_region ?_
    refine jo_f [(0, 0)] (by kernel_rfl) ?_
    obtain ⟨t_2, ht_10, h⟩ := bd h
    refine toO (by kernel_rfl) (p_call 0 35 #[(.int .i64 turns2)] (by kernel_rfl) (by kernel_rfl) (fun w hm => spec_l06Turns.calls turns2 w _ ht_10) ?_)
    rintro w v w' hm ⟨rfl, hm'⟩
    refine ⟨_, hm.app hm', jkO ?_⟩
    clear hm hm'
    refine jo_f [(0, 0)] (by kernel_rfl) ?_
    refine jo_end (by kernel_rfl) ?_
    refine jx_then ?_
    refine jc_cond (!t_2) (by kernel_rfl) (fun hc_11 => ?_) (fun hc_11 => ?_)
    · replace h := ifT hc_11 h
      refine jc_seq ?_
      refine jc_region ?_
      refine jo_f [(0, 0)] (by kernel_rfl) ?_
      refine toO (by kernel_rfl) (p_s 0 [2] (by kernel_rfl) (by kernel_rfl) (jkO ?_))
      refine jo_f [(0, 0)] (by kernel_rfl) ?_
      refine jo_end (by kernel_rfl) ?_
      refine jx_then ?_
      refine jc_ret ?_
      refine jx_thenr ?_
      obtain rfl := Option.some.inj h
      refine jx_ghost 58 encGWornPin ?_
      refine jx_ghost 2 encI64 ?_
      exact jx_ret [2] (.tuple #[(.agg #[(.slice none 0 0), (.slice none 0 0)]), (.int .i64 2)]) [(b_3, b_3), (b_3, b_3)] rfl (by kernel_rfl) (by kernel_rfl) (fun w hm => ⟨none, 0, [], 0, rfl, (fun e => absurd rfl e), (fun _ => ⟨rfl, rfl⟩), none, 0, [], 0, rfl, (fun e => absurd rfl e), (fun _ => ⟨rfl, rfl⟩), rfl, hm.pick [3, 4] (by kernel_rfl) (by kernel_rfl)⟩)
    · replace h := ifF hc_11 h
      refine jc_skip ?_
      refine jx_then ?_
      refine jc_seq ?_
      refine jc_region ?_
      refine jo_f [(0, 0)] (by kernel_rfl) ?_
      obtain ⟨t_3, ht_12, h⟩ := bd h
      refine toO (by kernel_rfl) (p_call 0 36 #[(.pointer (some ⟨b_2, 0, none⟩)), (.int .i64 turns2)] (by kernel_rfl) (by kernel_rfl) (fun w hm => spec_l06Turned.calls w1 turns2 w _ w1_fPins_a w1.fPins.length w1_fPins_c (hm.exRow w1_fPins_h List.not_mem_nil) rfl w1_fStrokes_a w1.fStrokes.length w1_fStrokes_c (hm.exRow w1_fStrokes_h List.not_mem_nil) rfl b_2 (hm.pass (N := [⟨some b_2, 32, [(.slice w1_fPins_a w1.fPins.length w1_fPins_c), (.slice w1_fStrokes_a w1.fStrokes.length w1_fStrokes_c)]⟩]) [1] (by kernel_rfl) (by kernel_rfl)) (hm.exApart (N := [⟨some b_2, 32, [(.slice w1_fPins_a w1.fPins.length w1_fPins_c), (.slice w1_fStrokes_a w1.fStrokes.length w1_fStrokes_c)]⟩]) w1_fPins_h (fun _ => List.not_mem_nil) [1] (by kernel_rfl)) (hm.exApart (N := [⟨some b_2, 32, [(.slice w1_fPins_a w1.fPins.length w1_fPins_c), (.slice w1_fStrokes_a w1.fStrokes.length w1_fStrokes_c)]⟩]) w1_fStrokes_h (fun _ => List.not_mem_nil) [1] (by kernel_rfl)) ht_12) ?_)
      rintro w v w' hm ⟨o_13, cap_14, sp_15, _, rfl, hs_16, ho_17, o_18, cap_19, sp_20, _, rfl, hs_21, ho_22, rfl, hm'⟩
      refine ⟨_, hm.appW (ps := [(1, ⟨some b_2, 32, [(.slice w1_fPins_a w1.fPins.length w1_fPins_c), (.slice w1_fStrokes_a w1.fStrokes.length w1_fStrokes_c)]⟩)]) (N := [⟨o_13, 58, row encGWornPin t_3.1.fPins sp_15⟩, ⟨o_18, 2, row encI64 t_3.1.fStrokes sp_20⟩]) hm' (by kernel_rfl) (by kernel_rfl), jkO ?_⟩
      clear hm hm'
      refine jo_f [(0, 0), (0, 0), (0, 0)] (by kernel_rfl) ?_
      refine toO (by kernel_rfl) (p_a 0 [0] (by kernel_rfl) (fun b => by kernel_rfl) (fun b_23 => jkO ?_))
      refine toO (by kernel_rfl) (p_s 0 [5] (by kernel_rfl) (by kernel_rfl) (jkO ?_))
      refine jo_f [(0, 0)] (by kernel_rfl) ?_
      refine jo_end (by kernel_rfl) ?_
      refine jx_then ?_
      refine jc_seq ?_
      refine jc_seq ?_
      refine jc_region ?_
      refine jo_f [(0, 0), (0, 0)] (by kernel_rfl) ?_
      refine jo_end (by kernel_rfl) ?_
      refine jx_then ?_
      refine jc_cond (!t_3.2) (by kernel_rfl) (fun hc_25 => ?_) (fun hc_25 => ?_)
      · replace h := ifT hc_25 h
        refine jc_seq ?_
        refine jc_region ?_
        refine jo_f [(0, 0)] (by kernel_rfl) ?_
        refine toO (by kernel_rfl) (p_s 0 [2] (by kernel_rfl) (by kernel_rfl) (jkO ?_))
        refine jo_f [(0, 0)] (by kernel_rfl) ?_
        refine jo_end (by kernel_rfl) ?_
        refine jx_then ?_
        refine jc_ret ?_
        refine jx_thenr ?_
        obtain rfl := Option.some.inj h
        refine jx_ghost 58 encGWornPin ?_
        refine jx_ghost 2 encI64 ?_
        exact jx_ret [2] (.tuple #[(.agg #[(.slice none 0 0), (.slice none 0 0)]), (.int .i64 3)]) [(b_3, b_3), (b_3, b_3)] rfl (by kernel_rfl) (by kernel_rfl) (fun w hm => ⟨none, 0, [], 0, rfl, (fun e => absurd rfl e), (fun _ => ⟨rfl, rfl⟩), none, 0, [], 0, rfl, (fun e => absurd rfl e), (fun _ => ⟨rfl, rfl⟩), rfl, hm.pick [6, 7] (by kernel_rfl) (by kernel_rfl)⟩)
      · replace h := ifF hc_25 h
        refine jc_skip ?_
        refine jx_then ?_
        refine jc_seq ?_
        refine jc_region ?_
        refine jo_f [(5, 0)] (by kernel_rfl) ?_
        refine toO (by kernel_rfl) (p_s 0 [2] (by kernel_rfl) (by kernel_rfl) (jkO ?_))
        refine jo_f [(0, 0)] (by kernel_rfl) ?_
        refine jo_end (by kernel_rfl) ?_
        refine jx_then ?_
        refine jc_ret ?_
        obtain rfl := Option.some.inj h
        exact jx_ret [2] (.tuple #[(.agg #[(.slice (o_13.map fun b => ⟨b, 0, none⟩) t_3.1.fPins.length cap_14), (.slice (o_18.map fun b => ⟨b, 0, none⟩) t_3.1.fStrokes.length cap_19)]), (.int .i64 0)]) [(b_3, b_3), (b_3, b_3)] rfl (by kernel_rfl) (by kernel_rfl) (fun w hm => ⟨o_13, cap_14, sp_15, t_3.1.fPins.length, rfl, hs_16, ho_17, o_18, cap_19, sp_20, t_3.1.fStrokes.length, rfl, hs_21, ho_22, rfl, hm.pick [3, 4] (by kernel_rfl) (by kernel_rfl)⟩)

/-! ### spec.P6Drum -/
noncomputable def spec_P6Drum (code0 : List Int) (f1 : GFrame) : Option ((Arr 96 Int)) := (spec_l00From code0).bind fun t_1 => (spec_l02Drawn (⟨code0, t_1.fat, t_1.fseed⟩ : Gl00Src) f1).bind fun t_2 => some t_2.1
set_option maxRecDepth 100000 in
theorem spec_P6Drum.calls (code0 : List Int) (f1 : GFrame) (w : World) (r : (Arr 96 Int)) (code0_a : Option Addr) (code0_an : Nat) (code0_c : Nat) (code0_h : Rw w code0_a 1 encU8 code0) (code0_hn : code0.length = code0_an) (f1_fHammers_a : Option Addr) (f1_fHammers_an : Nat) (f1_fHammers_c : Nat) (f1_fHammers_h : Rw w f1_fHammers_a 2 encGHammer f1.fHammers) (f1_fHammers_hn : f1.fHammers.length = f1_fHammers_an) (h : spec_P6Drum code0 f1 = some r) :
    Calls Try.prog 11 #[(.slice code0_a code0_an code0_c), (.agg #[(.int .i16 f1.fSteps), (.slice f1_fHammers_a f1_fHammers_an f1_fHammers_c)])] w fun e w' => ∃ v, e = .returned v ∧ (v = (.agg (row encU32 r.1 []).toArray) ∧ Mem w [] [] w') := by
  subst code0_hn f1_fHammers_hn
  rw [spec_P6Drum] at h
  refine enter (args := [(.slice code0_a code0.length code0_c), (.agg #[(.int .i16 f1.fSteps), (.slice f1_fHammers_a f1.fHammers.length f1_fHammers_c)])]) Try.func11 rfl Try.ntmps11 (by kernel_rfl) (L := []) (W := []) (Mem.start w) ?_
  refine jc_seq ?_
  refine jc_region ?_
  refine toO (by kernel_rfl) (p_a 0 [0] (by kernel_rfl) (fun b => by kernel_rfl) (fun b_1 => jkO ?_))
  refine toO (by kernel_rfl) (p_a 0 [0] (by kernel_rfl) (fun b => by kernel_rfl) (fun b_2 => jkO ?_))
  refine jo_end (by kernel_rfl) ?_
  refine jx_then ?_
  refine jc_seq ?_
  refine jc_region ?_
  refine jo_f [(0, 0)] (by kernel_rfl) ?_
  obtain ⟨t_1, ht_3, h⟩ := bd h
  refine toO (by kernel_rfl) (p_call 0 24 #[(.slice code0_a code0.length code0_c)] (by kernel_rfl) (by kernel_rfl) (fun w hm => spec_l00From.calls code0 w _ code0_a code0.length code0_c (hm.exRow code0_h List.not_mem_nil) rfl ht_3) ?_)
  rintro w v w' hm ⟨b_4, rfl, hm'⟩
  refine ⟨_, hm.app hm', jkO ?_⟩
  clear hm hm'
  obtain ⟨t_2, ht_5, h⟩ := bd h
  refine toO (by kernel_rfl) (p_call 0 37 #[(.pointer (some ⟨b_4, 0, none⟩)), (.pointer (some ⟨b_1, 0, none⟩))] (by kernel_rfl) (by kernel_rfl) (fun w hm => spec_l02Drawn.calls (⟨code0, t_1.fat, t_1.fseed⟩ : Gl00Src) f1 w _ code0_a code0.length code0_c (hm.exRow code0_h List.not_mem_nil) rfl f1_fHammers_a f1.fHammers.length f1_fHammers_c (hm.exRow f1_fHammers_h List.not_mem_nil) rfl b_4 b_1 (hm.pass (N := [⟨some b_4, 105, [(.slice code0_a code0.length code0_c), (.int .i64 t_1.fat), (.int .u64 t_1.fseed)]⟩, ⟨some b_1, 27, [(.int .i16 f1.fSteps), (.slice f1_fHammers_a f1.fHammers.length f1_fHammers_c)]⟩]) [2, 0] (by kernel_rfl) (by kernel_rfl)) (hm.exApart (N := [⟨some b_4, 105, [(.slice code0_a code0.length code0_c), (.int .i64 t_1.fat), (.int .u64 t_1.fseed)]⟩, ⟨some b_1, 27, [(.int .i16 f1.fSteps), (.slice f1_fHammers_a f1.fHammers.length f1_fHammers_c)]⟩]) code0_h (fun _ => List.not_mem_nil) [2, 0] (by kernel_rfl)) (hm.exApart (N := [⟨some b_4, 105, [(.slice code0_a code0.length code0_c), (.int .i64 t_1.fat), (.int .u64 t_1.fseed)]⟩, ⟨some b_1, 27, [(.int .i16 f1.fSteps), (.slice f1_fHammers_a f1.fHammers.length f1_fHammers_c)]⟩]) f1_fHammers_h (fun _ => List.not_mem_nil) [2, 0] (by kernel_rfl)) ht_5) ?_)
  rintro w v w' hm ⟨rfl, hm'⟩
  refine ⟨_, hm.appW (ps := [(2, ⟨some b_4, 105, [(.slice code0_a code0.length code0_c), (.int .i64 t_2.2.fat), (.int .u64 t_2.2.fseed)]⟩), (0, ⟨some b_1, 27, [(.int .i16 f1.fSteps), (.slice f1_fHammers_a f1.fHammers.length f1_fHammers_c)]⟩)]) (N := []) hm' (by kernel_rfl) (by kernel_rfl), jkO ?_⟩
  clear hm hm'
  refine toO (by kernel_rfl) (p_sA 0 1 b_2 96 1 42 encU32 (Arr.rep 96 0) t_2.1 (by kernel_rfl) (by kernel_rfl) (by kernel_rfl) encU32_len encU32_cell (by kernel_rfl) (jkO ?_))
  refine jo_end (by kernel_rfl) ?_
  refine jx_then ?_
  refine jc_ret ?_
  obtain rfl := Option.some.inj h
  exact jx_retV rfl (rq_arr (b := b_2) (T' := 42) (hh := 1) (mm := 1) encU32 t_2.1 (by kernel_rfl) (by kernel_rfl) encU32_len (by kernel_rfl) rq_nil) (fun w hm => ⟨rfl, hm.pick [] (by kernel_rfl) (by kernel_rfl)⟩)

/-! ### (impl.Frame).isDrum -/
noncomputable def impl_Frame_isDrum.k_1 : Option (Bool) := some true
noncomputable def impl_Frame_isDrum.k_7 (i_2 : Int) (q_6 : Bool) : Option ((Int) ⊕ (Bool ⊕ Unit)) := (if q_6 = true then some (.inr (.inl false)) else some (.inl (w64 (i_2 + 1))))
noncomputable def impl_Frame_isDrum.l_3 (f0 : GFrame) (d1 : Arr 96 Int) : Int → Option ((Int) ⊕ (Bool ⊕ Unit))
  | i_2 => (if (decide (i_2 < 96)) = true then (ix d1.1 i_2).bind fun x_5 => (if 0 ≤ (f0.fHammers.length : Int) then (if ((bShr .u32 x_5 (f0.fHammers.length : Int)) != 0) = true then impl_Frame_isDrum.k_7 i_2 true else impl_Frame_isDrum.k_7 i_2 ((decide (i_2 ≥ (w64 f0.fSteps))) && (x_5 != 0))) else none) else some (.inr (.inr ())))
noncomputable def impl_Frame_isDrum (f0 : GFrame) (d1 : Arr 96 Int) : Option (Bool) := (loop (impl_Frame_isDrum.l_3 f0 d1) 0).bind fun t_4 => match t_4 with | .inl p => some p | .inr p => impl_Frame_isDrum.k_1
set_option maxRecDepth 100000 in
theorem impl_Frame_isDrum.calls (f0 : GFrame) (d1 : Arr 96 Int) (w : World) (r : Bool) (f0_fHammers_a : Option Addr) (f0_fHammers_an : Nat) (f0_fHammers_c : Nat) (f0_fHammers_h : Rw w f0_fHammers_a 2 encGHammer f0.fHammers) (f0_fHammers_hn : f0.fHammers.length = f0_fHammers_an) (h : impl_Frame_isDrum f0 d1 = some r) :
    Calls Try.prog 76 #[(.agg #[(.int .i16 f0.fSteps), (.slice f0_fHammers_a f0_fHammers_an f0_fHammers_c)]), (.agg (row encU32 d1.1 []).toArray)] w fun e w' => ∃ v, e = .returned v ∧ (v = (.bool r) ∧ Mem w [] [] w') := by
  subst f0_fHammers_hn
  rw [impl_Frame_isDrum] at h
  refine enter (args := [(.agg #[(.int .i16 f0.fSteps), (.slice f0_fHammers_a f0.fHammers.length f0_fHammers_c)]), (.agg (row encU32 d1.1 []).toArray)]) Try.func76 rfl Try.ntmps76 (by kernel_rfl) (L := []) (W := []) (Mem.start w) ?_
  refine jc_seq ?_
  refine jc_region ?_
  refine toO (by kernel_rfl) (p_a 0 [0] (by kernel_rfl) (fun b => by kernel_rfl) (fun b_1 => jkO ?_))
  refine toO (by kernel_rfl) (p_a 0 [0] (by kernel_rfl) (fun b => by kernel_rfl) (fun b_2 => jkO ?_))
  refine jo_f [(0, 0)] (by kernel_rfl) ?_
  refine jo_end (by kernel_rfl) ?_
  refine jx_then ?_
  refine jc_seq ?_
  refine jc_seq ?_
  refine jc_region ?_
  refine toO (by kernel_rfl) (p_ldA 0 1 b_2 96 1 42 encU32 d1 (by kernel_rfl) (by kernel_rfl) (by kernel_rfl) encU32_len (by kernel_rfl) (jkO ?_))
  refine jo_f [(0, 0)] (by kernel_rfl) ?_
  refine jo_end (by kernel_rfl) ?_
  refine jx_then ?_
  refine jc_meet (fun (_ : Unit) => impl_Frame_isDrum.k_1 = some r) (fun (_ : Unit) => [(4, [], (.bool false))]) (fun (_ : Unit) => [⟨some b_1, 27, [(.int .i16 f0.fSteps), (.slice f0_fHammers_a f0.fHammers.length f0_fHammers_c)]⟩, ⟨(some b_2), 42, row encU32 d1.1 []⟩]) ?_ ?_
  · refine jc_block ?_
    obtain ⟨t_4, ht_60, hr_48⟩ := bd h
    refine jc_loop (fun (s : Int) (x : Unit) => match s, x with | i_2, _ => True) (fun (s : Int) (x : Unit) => match s, x with | i_2, _ => [(2, [], (.pointer (some ⟨b_1, 0, none⟩))), (4, [], (.bool false)), (7, [], (.agg (row encU32 d1.1 []).toArray)), (8, [], (.int .i64 i_2))]) (fun (s : Int) (x : Unit) => match s, x with | i_2, _ => [⟨some b_1, 27, [(.int .i16 f0.fSteps), (.slice f0_fHammers_a f0.fHammers.length f0_fHammers_c)]⟩, ⟨(some b_2), 42, row encU32 d1.1 []⟩]) ht_60 () trivial (by kernel_rfl) [0, 1] (by kernel_rfl) (by kernel_rfl) ?_
    rintro i_2 _ y_49 _ h
    rw [impl_Frame_isDrum.l_3] at h
    refine jc_seq ?_
    refine jc_region ?_
    refine jo_f [(0, 0)] (by kernel_rfl) ?_
    refine jo_end (by kernel_rfl) ?_
    refine jx_then ?_
    refine jc_seq ?_
    refine jc_cond (decide (i_2 < 96)) (by kernel_rfl) (fun hc_51 => ?_) (fun hc_51 => ?_)
    · replace h := ifT hc_51 h
      refine jc_skip ?_
      refine jx_then ?_
      refine jc_seq ?_
      refine jc_block ?_
      refine jc_seq ?_
      refine jc_region ?_
      refine jo_f [(0, 0)] (by kernel_rfl) ?_
      obtain ⟨x_5, hx_52, h⟩ := bd h
      refine toO (by kernel_rfl) (p_ixA 0 encU32 (fun x => (.int .u32 x)) d1 i_2 (by kernel_rfl) (by kernel_rfl) (fun _ => rfl) hx_52 (jkO ?_))
      refine jo_f [(0, 0), (0, 0)] (by kernel_rfl) ?_
      refine jo_end (by kernel_rfl) ?_
      refine jx_then ?_
      refine jc_seq ?_
      refine jc_meet (fun (j : Bool) => match j with | q_6 => impl_Frame_isDrum.k_7 i_2 q_6 = some y_49) (fun (j : Bool) => match j with | q_6 => [(2, [], (.pointer (some ⟨b_1, 0, none⟩))), (4, [], (.bool false)), (7, [], (.agg (row encU32 d1.1 []).toArray)), (8, [], (.int .i64 i_2)), (28, [], (.bool q_6))]) (fun (j : Bool) => match j with | q_6 => [⟨some b_1, 27, [(.int .i16 f0.fSteps), (.slice f0_fHammers_a f0.fHammers.length f0_fHammers_c)]⟩, ⟨(some b_2), 42, row encU32 d1.1 []⟩]) ?_ ?_
      · refine jc_region ?_
        refine jo_f [(0, 0), (0, 0), (0, 0), (0, 0)] (by kernel_rfl) ?_
        obtain ⟨hg_57, h⟩ := gd h
        refine toO (by kernel_rfl) (p_shr 0 .u32 x_5 .i64 (f0.fHammers.length : Int) (by kernel_rfl) (by kernel_rfl) hg_57 (jkO ?_))
        refine jo_f [(0, 0), (0, 0), (0, 1), (0, 1), (0, 1), (0, 1), (0, 1)] (by kernel_rfl) ?_
        refine jo_split 18 ((bShr .u32 x_5 (f0.fHammers.length : Int)) != 0) (by kernel_rfl) (fun hc_58 => ?_) (fun hc_58 => ?_)
        · replace h := ifT hc_58 h
          refine jo_f [(0, 3), (0, 3), (0, 3), (0, 3), (0, 4)] (by kernel_rfl) ?_
          refine jo_end (by kernel_rfl) ?_
          exact jx_meet true h (by kernel_rfl) [0, 1] (by kernel_rfl) (by kernel_rfl)
        · replace h := ifF hc_58 h
          refine jo_f [(0, 2), (0, 1), (0, 1), (0, 2), (0, 5)] (by kernel_rfl) ?_
          refine jo_end (by kernel_rfl) ?_
          exact jx_meet ((decide (i_2 ≥ (w64 f0.fSteps))) && (x_5 != 0)) h (by kernel_rfl) [0, 1] (by kernel_rfl) (by kernel_rfl)
      · rintro q_6 h
        replace h : impl_Frame_isDrum.k_7 i_2 q_6 = some y_49 := h
        rw [impl_Frame_isDrum.k_7] at h
        refine jx_then ?_
        refine jc_cond q_6 (by kernel_rfl) (fun hc_55 => ?_) (fun hc_55 => ?_)
        · replace h := ifT hc_55 h
          refine jc_seq ?_
          refine jc_region ?_
          refine jo_f [(0, 0)] (by kernel_rfl) ?_
          refine jo_end (by kernel_rfl) ?_
          refine jx_then ?_
          refine jc_ret ?_
          refine jx_inr ?_
          refine jx_thenr ?_
          refine jx_leaver (.inl false) (Option.some.inj h).symm (fun e_56 => ?_)
          subst e_56
          refine jx_inr ?_
          refine jx_thenr ?_
          refine jx_thenr ?_
          obtain rfl := Option.some.inj hr_48
          exact jx_ret [] (.bool false) [] rfl (by kernel_rfl) (by kernel_rfl) (fun w hm => ⟨rfl, hm.pick [] (by kernel_rfl) (by kernel_rfl)⟩)
        · replace h := ifF hc_55 h
          refine jc_skip ?_
          refine jx_inn ?_
          refine jx_then ?_
          refine jc_region ?_
          refine jo_f [(0, 0), (0, 0)] (by kernel_rfl) ?_
          refine jo_end (by kernel_rfl) ?_
          exact jx_back (w64 (i_2 + 1)) () (Option.some.inj h).symm trivial [0, 1] (by kernel_rfl) (by kernel_rfl) (by kernel_rfl)
    · replace h := ifF hc_51 h
      refine jc_exit ?_
      refine jx_thenx ?_
      refine jx_leave (.inr ()) (Option.some.inj h).symm (fun e_59 => ?_)
      subst e_59
      refine jx_ine ?_
      exact jx_meet () hr_48 (by kernel_rfl) [0, 1] (by kernel_rfl) (by kernel_rfl)
  · rintro _ h
    replace h : impl_Frame_isDrum.k_1 = some r := h
    rw [impl_Frame_isDrum.k_1] at h
    refine jx_then ?_
    refine jc_seq ?_
    refine jc_region ?_
    refine jo_f [(0, 0)] (by kernel_rfl) ?_
    refine jo_end (by kernel_rfl) ?_
    refine jx_then ?_
    refine jc_ret ?_
    obtain rfl := Option.some.inj h
    exact jx_ret [] (.bool true) [] rfl (by kernel_rfl) (by kernel_rfl) (fun w hm => ⟨rfl, hm.pick [] (by kernel_rfl) (by kernel_rfl)⟩)

/-! ### impl.drumCode$1 -/
noncomputable def impl_drumCode_1 (d0 : Arr 96 Int) (p1 : GFrame) : Option (Bool) := (impl_Frame_isDrum p1 d0).bind fun t_1 => some (!t_1)
set_option maxRecDepth 100000 in
theorem impl_drumCode_1.calls (d0 : Arr 96 Int) (p1 : GFrame) (w : World) (r : Bool) (p1_fHammers_a : Option Addr) (p1_fHammers_an : Nat) (p1_fHammers_c : Nat) (p1_fHammers_h : Rw w p1_fHammers_a 2 encGHammer p1.fHammers) (p1_fHammers_hn : p1.fHammers.length = p1_fHammers_an) (p1_b : Nat) (hm0 : Mem w (bs [some p1_b]) [⟨some p1_b, 27, [(.int .i16 p1.fSteps), (.slice p1_fHammers_a p1_fHammers_an p1_fHammers_c)]⟩] w) (p1_fHammers_ha : p1.fHammers ≠ [] → aB p1_fHammers_a ∉ bs [some p1_b]) (h : impl_drumCode_1 d0 p1 = some r) :
    Calls Try.prog 75 #[(.agg (row encU32 d0.1 []).toArray), (.pointer (some ⟨p1_b, 0, none⟩))] w fun e w' => ∃ v, e = .returned v ∧ (v = (.bool r) ∧ Mem w (bs [some p1_b]) [⟨some p1_b, 27, [(.int .i16 p1.fSteps), (.slice p1_fHammers_a p1_fHammers_an p1_fHammers_c)]⟩] w') := by
  subst p1_fHammers_hn
  rw [impl_drumCode_1] at h
  refine enter (args := [(.agg (row encU32 d0.1 []).toArray), (.pointer (some ⟨p1_b, 0, none⟩))]) Try.func75 rfl Try.ntmps75 (by kernel_rfl) (L := [⟨some p1_b, 27, [(.int .i16 p1.fSteps), (.slice p1_fHammers_a p1.fHammers.length p1_fHammers_c)]⟩]) (W := bs [some p1_b]) hm0 ?_
  refine jc_seq ?_
  refine jc_region ?_
  refine toO (by kernel_rfl) (p_a 0 [0] (by kernel_rfl) (fun b => by kernel_rfl) (fun b_1 => jkO ?_))
  refine jo_f [(0, 0)] (by kernel_rfl) ?_
  refine jo_end (by kernel_rfl) ?_
  refine jx_then ?_
  refine jc_seq ?_
  refine jc_region ?_
  refine jo_f [(0, 0)] (by kernel_rfl) ?_
  refine toO (by kernel_rfl) (p_ldA 0 1 b_1 96 1 42 encU32 d0 (by kernel_rfl) (by kernel_rfl) (by kernel_rfl) encU32_len (by kernel_rfl) (jkO ?_))
  obtain ⟨t_1, ht_2, h⟩ := bd h
  refine toO (by kernel_rfl) (p_call 0 76 #[(.agg #[(.int .i16 p1.fSteps), (.slice p1_fHammers_a p1.fHammers.length p1_fHammers_c)]), (.agg (row encU32 d0.1 []).toArray)] (by kernel_rfl) (by kernel_rfl) (fun w hm => impl_Frame_isDrum.calls p1 d0 w _ p1_fHammers_a p1.fHammers.length p1_fHammers_c (hm.exRowW p1_fHammers_h p1_fHammers_ha) rfl ht_2) ?_)
  rintro w v w' hm ⟨rfl, hm'⟩
  refine ⟨_, hm.app hm', jkO ?_⟩
  clear hm hm'
  refine jo_f [(0, 0), (0, 0)] (by kernel_rfl) ?_
  refine jo_end (by kernel_rfl) ?_
  refine jx_then ?_
  refine jc_ret ?_
  obtain rfl := Option.some.inj h
  exact jx_ret [] (.bool (!t_1)) [] rfl (by kernel_rfl) (by kernel_rfl) (fun w hm => ⟨rfl, hm.pick [0] (by kernel_rfl) (by kernel_rfl)⟩)

/-! ### slices.IndexFunc[[]impl.Drum,impl.Drum] -/
noncomputable def slices_IndexFunc_Drum_at_impl_drumCode_1.k_1 : Option (Int) := some (-1)
noncomputable def slices_IndexFunc_Drum_at_impl_drumCode_1.l_3 (s0 : List (Arr 96 Int)) (g1c0 : GFrame) : Int → Option ((Int) ⊕ (Int ⊕ Unit))
  | i_2 => (if (decide (i_2 < (s0.length : Int))) = true then (ix s0 i_2).bind fun x_5 => (impl_drumCode_1 x_5 g1c0).bind fun t_6 => (if t_6 = true then some (.inr (.inl i_2)) else some (.inl (w64 (i_2 + 1)))) else some (.inr (.inr ())))
noncomputable def slices_IndexFunc_Drum_at_impl_drumCode_1 (s0 : List (Arr 96 Int)) (g1c0 : GFrame) : Option (Int) := (loop (slices_IndexFunc_Drum_at_impl_drumCode_1.l_3 s0 g1c0) 0).bind fun t_4 => match t_4 with | .inl p => some p | .inr p => slices_IndexFunc_Drum_at_impl_drumCode_1.k_1
set_option maxRecDepth 100000 in
theorem slices_IndexFunc_Drum_at_impl_drumCode_1.calls (s0 : List (Arr 96 Int)) (g1c0 : GFrame) (w : World) (r : Int) (s0_a : Option Addr) (s0_an : Nat) (s0_c : Nat) (s0_h : Rw w s0_a 96 encA96U32 s0) (s0_hn : s0.length = s0_an) (g1c0_fHammers_a : Option Addr) (g1c0_fHammers_an : Nat) (g1c0_fHammers_c : Nat) (g1c0_fHammers_h : Rw w g1c0_fHammers_a 2 encGHammer g1c0.fHammers) (g1c0_fHammers_hn : g1c0.fHammers.length = g1c0_fHammers_an) (g1c0_b : Nat) (hm0 : Mem w (bs [some g1c0_b]) [⟨some g1c0_b, 27, [(.int .i16 g1c0.fSteps), (.slice g1c0_fHammers_a g1c0_fHammers_an g1c0_fHammers_c)]⟩] w) (s0_ha : s0 ≠ [] → aB s0_a ∉ bs [some g1c0_b]) (g1c0_fHammers_ha : g1c0.fHammers ≠ [] → aB g1c0_fHammers_a ∉ bs [some g1c0_b]) (h : slices_IndexFunc_Drum_at_impl_drumCode_1 s0 g1c0 = some r) :
    Calls Try.prog 93 #[(.slice s0_a s0_an s0_c), (.func (.func 75) #[] #[(.pointer (some ⟨g1c0_b, 0, none⟩))])] w fun e w' => ∃ v, e = .returned v ∧ (v = (.int .i64 r) ∧ Mem w (bs [some g1c0_b]) [⟨some g1c0_b, 27, [(.int .i16 g1c0.fSteps), (.slice g1c0_fHammers_a g1c0_fHammers_an g1c0_fHammers_c)]⟩] w') := by
  subst s0_hn g1c0_fHammers_hn
  rw [slices_IndexFunc_Drum_at_impl_drumCode_1] at h
  refine enter (args := [(.slice s0_a s0.length s0_c), (.func (.func 75) #[] #[(.pointer (some ⟨g1c0_b, 0, none⟩))])]) Try.func93 rfl Try.ntmps93 (by kernel_rfl) (L := [⟨some g1c0_b, 27, [(.int .i16 g1c0.fSteps), (.slice g1c0_fHammers_a g1c0.fHammers.length g1c0_fHammers_c)]⟩]) (W := bs [some g1c0_b]) hm0 ?_
  refine jc_seq ?_
  refine jc_region ?_
  refine jo_f [(0, 0)] (by kernel_rfl) ?_
  refine jo_end (by kernel_rfl) ?_
  refine jx_then ?_
  refine jc_seq ?_
  refine jc_seq ?_
  refine jc_region ?_
  refine jo_f [(0, 0), (0, 0), (0, 0)] (by kernel_rfl) ?_
  refine jo_end (by kernel_rfl) ?_
  refine jx_then ?_
  refine jc_meet (fun (_ : Unit) => slices_IndexFunc_Drum_at_impl_drumCode_1.k_1 = some r) (fun (_ : Unit) => [(4, [], (.int .i64 0))]) (fun (_ : Unit) => [⟨some g1c0_b, 27, [(.int .i16 g1c0.fSteps), (.slice g1c0_fHammers_a g1c0.fHammers.length g1c0_fHammers_c)]⟩]) ?_ ?_
  · refine jc_block ?_
    obtain ⟨t_4, ht_40, hr_31⟩ := bd h
    refine jc_loop (fun (s : Int) (x : Unit) => match s, x with | i_2, _ => True) (fun (s : Int) (x : Unit) => match s, x with | i_2, _ => [(0, [], (.slice s0_a s0.length s0_c)), (1, [], (.func (.func 75) #[] #[(.pointer (some ⟨g1c0_b, 0, none⟩))])), (4, [], (.int .i64 0)), (7, [], (.int .i64 (s0.length : Int))), (8, [], (.int .i64 i_2))]) (fun (s : Int) (x : Unit) => match s, x with | i_2, _ => [⟨some g1c0_b, 27, [(.int .i16 g1c0.fSteps), (.slice g1c0_fHammers_a g1c0.fHammers.length g1c0_fHammers_c)]⟩]) ht_40 () trivial (by kernel_rfl) [0] (by kernel_rfl) (by kernel_rfl) ?_
    rintro i_2 _ y_32 _ h
    rw [slices_IndexFunc_Drum_at_impl_drumCode_1.l_3] at h
    refine jc_seq ?_
    refine jc_region ?_
    refine jo_f [(0, 0)] (by kernel_rfl) ?_
    refine jo_end (by kernel_rfl) ?_
    refine jx_then ?_
    refine jc_seq ?_
    refine jc_cond (decide (i_2 < (s0.length : Int))) (by kernel_rfl) (fun hc_34 => ?_) (fun hc_34 => ?_)
    · replace h := ifT hc_34 h
      refine jc_skip ?_
      refine jx_then ?_
      refine jc_seq ?_
      refine jc_block ?_
      refine jc_seq ?_
      refine jc_region ?_
      refine jo_f [(0, 0), (0, 0)] (by kernel_rfl) ?_
      refine jo_end (by kernel_rfl) ?_
      refine jx_then ?_
      refine jc_seq ?_
      refine jc_region ?_
      refine jo_f [(0, 0), (0, 0), (0, 0)] (by kernel_rfl) ?_
      obtain ⟨x_5, hx_35, h⟩ := bd h
      refine toO (by kernel_rfl) (p_idx 0 s0_a s0.length i_2 96 (by kernel_rfl) (by kernel_rfl) (ix_some hx_35).1 (ltn hx_35 rfl) (s0_h.sp hx_35) (jkO ?_))
      refine toO (by kernel_rfl) (p_ldx 0 (aB s0_a) (aO s0_a + i_2.toNat * 96) (encA96U32 x_5) 96 (by kernel_rfl) (by kernel_rfl) (encA96U32_len x_5) (fun w hm => ((hm.exRowW s0_h s0_ha).at hx_35)) (jkO ?_))
      obtain ⟨t_6, ht_36, h⟩ := bd h
      refine toO (by kernel_rfl) (p_call 0 75 #[(.agg (row encU32 x_5.1 []).toArray), (.pointer (some ⟨g1c0_b, 0, none⟩))] (by kernel_rfl) (by kernel_rfl) (fun w hm => impl_drumCode_1.calls x_5 g1c0 w _ g1c0_fHammers_a g1c0.fHammers.length g1c0_fHammers_c (hm.exRowW g1c0_fHammers_h g1c0_fHammers_ha) rfl g1c0_b (hm.pass (N := [⟨some g1c0_b, 27, [(.int .i16 g1c0.fSteps), (.slice g1c0_fHammers_a g1c0.fHammers.length g1c0_fHammers_c)]⟩]) [0] (by kernel_rfl) (by kernel_rfl)) (hm.exApart (N := [⟨some g1c0_b, 27, [(.int .i16 g1c0.fSteps), (.slice g1c0_fHammers_a g1c0.fHammers.length g1c0_fHammers_c)]⟩]) g1c0_fHammers_h g1c0_fHammers_ha [0] (by kernel_rfl)) ht_36) ?_)
      rintro w v w' hm ⟨rfl, hm'⟩
      refine ⟨_, hm.appW (ps := [(0, ⟨some g1c0_b, 27, [(.int .i16 g1c0.fSteps), (.slice g1c0_fHammers_a g1c0.fHammers.length g1c0_fHammers_c)]⟩)]) (N := []) hm' (by kernel_rfl) (by kernel_rfl), jkO ?_⟩
      clear hm hm'
      refine jo_end (by kernel_rfl) ?_
      refine jx_then ?_
      refine jc_cond t_6 (by kernel_rfl) (fun hc_37 => ?_) (fun hc_37 => ?_)
      · replace h := ifT hc_37 h
        refine jc_seq ?_
        refine jc_region ?_
        refine jo_f [(0, 0), (0, 0)] (by kernel_rfl) ?_
        refine jo_end (by kernel_rfl) ?_
        refine jx_then ?_
        refine jc_ret ?_
        refine jx_inr ?_
        refine jx_thenr ?_
        refine jx_leaver (.inl i_2) (Option.some.inj h).symm (fun e_38 => ?_)
        subst e_38
        refine jx_inr ?_
        refine jx_thenr ?_
        refine jx_thenr ?_
        obtain rfl := Option.some.inj hr_31
        exact jx_ret [] (.int .i64 i_2) [] rfl (by kernel_rfl) (by kernel_rfl) (fun w hm => ⟨rfl, hm.pick [0] (by kernel_rfl) (by kernel_rfl)⟩)
      · replace h := ifF hc_37 h
        refine jc_skip ?_
        refine jx_inn ?_
        refine jx_then ?_
        refine jc_region ?_
        refine jo_f [(0, 0), (0, 0)] (by kernel_rfl) ?_
        refine jo_end (by kernel_rfl) ?_
        exact jx_back (w64 (i_2 + 1)) () (Option.some.inj h).symm trivial [0] (by kernel_rfl) (by kernel_rfl) (by kernel_rfl)
    · replace h := ifF hc_34 h
      refine jc_exit ?_
      refine jx_thenx ?_
      refine jx_leave (.inr ()) (Option.some.inj h).symm (fun e_39 => ?_)
      subst e_39
      refine jx_ine ?_
      exact jx_meet () hr_31 (by kernel_rfl) [0] (by kernel_rfl) (by kernel_rfl)
  · rintro _ h
    replace h : slices_IndexFunc_Drum_at_impl_drumCode_1.k_1 = some r := h
    rw [slices_IndexFunc_Drum_at_impl_drumCode_1.k_1] at h
    refine jx_then ?_
    refine jc_seq ?_
    refine jc_region ?_
    refine jo_f [(0, 0)] (by kernel_rfl) ?_
    refine jo_end (by kernel_rfl) ?_
    refine jx_then ?_
    refine jc_ret ?_
    obtain rfl := Option.some.inj h
    exact jx_ret [] (.int .i64 (-1)) [] rfl (by kernel_rfl) (by kernel_rfl) (fun w hm => ⟨rfl, hm.pick [0] (by kernel_rfl) (by kernel_rfl)⟩)

/-! ### slices.ContainsFunc[[]impl.Drum,impl.Drum] -/
noncomputable def slices_ContainsFunc_Drum_at_impl_drumCode_1 (s0 : List (Arr 96 Int)) (g1c0 : GFrame) : Option (Bool) := (slices_IndexFunc_Drum_at_impl_drumCode_1 s0 g1c0).bind fun t_1 => some (decide (t_1 ≥ 0))
set_option maxRecDepth 100000 in
theorem slices_ContainsFunc_Drum_at_impl_drumCode_1.calls (s0 : List (Arr 96 Int)) (g1c0 : GFrame) (w : World) (r : Bool) (s0_a : Option Addr) (s0_an : Nat) (s0_c : Nat) (s0_h : Rw w s0_a 96 encA96U32 s0) (s0_hn : s0.length = s0_an) (g1c0_fHammers_a : Option Addr) (g1c0_fHammers_an : Nat) (g1c0_fHammers_c : Nat) (g1c0_fHammers_h : Rw w g1c0_fHammers_a 2 encGHammer g1c0.fHammers) (g1c0_fHammers_hn : g1c0.fHammers.length = g1c0_fHammers_an) (g1c0_b : Nat) (hm0 : Mem w (bs [some g1c0_b]) [⟨some g1c0_b, 27, [(.int .i16 g1c0.fSteps), (.slice g1c0_fHammers_a g1c0_fHammers_an g1c0_fHammers_c)]⟩] w) (s0_ha : s0 ≠ [] → aB s0_a ∉ bs [some g1c0_b]) (g1c0_fHammers_ha : g1c0.fHammers ≠ [] → aB g1c0_fHammers_a ∉ bs [some g1c0_b]) (h : slices_ContainsFunc_Drum_at_impl_drumCode_1 s0 g1c0 = some r) :
    Calls Try.prog 74 #[(.slice s0_a s0_an s0_c), (.func (.func 75) #[] #[(.pointer (some ⟨g1c0_b, 0, none⟩))])] w fun e w' => ∃ v, e = .returned v ∧ (v = (.bool r) ∧ Mem w (bs [some g1c0_b]) [⟨some g1c0_b, 27, [(.int .i16 g1c0.fSteps), (.slice g1c0_fHammers_a g1c0_fHammers_an g1c0_fHammers_c)]⟩] w') := by
  subst s0_hn g1c0_fHammers_hn
  rw [slices_ContainsFunc_Drum_at_impl_drumCode_1] at h
  refine enter (args := [(.slice s0_a s0.length s0_c), (.func (.func 75) #[] #[(.pointer (some ⟨g1c0_b, 0, none⟩))])]) Try.func74 rfl Try.ntmps74 (by kernel_rfl) (L := [⟨some g1c0_b, 27, [(.int .i16 g1c0.fSteps), (.slice g1c0_fHammers_a g1c0.fHammers.length g1c0_fHammers_c)]⟩]) (W := bs [some g1c0_b]) hm0 ?_
  refine jc_seq ?_
  refine jc_region ?_
  refine jo_f [(0, 0)] (by kernel_rfl) ?_
  refine jo_end (by kernel_rfl) ?_
  refine jx_then ?_
  refine jc_seq ?_
  refine jc_region ?_
  refine jo_f [(0, 0), (0, 0)] (by kernel_rfl) ?_
  obtain ⟨t_1, ht_1, h⟩ := bd h
  refine toO (by kernel_rfl) (p_call 0 93 #[(.slice s0_a s0.length s0_c), (.func (.func 75) #[] #[(.pointer (some ⟨g1c0_b, 0, none⟩))])] (by kernel_rfl) (by kernel_rfl) (fun w hm => slices_IndexFunc_Drum_at_impl_drumCode_1.calls s0 g1c0 w _ s0_a s0.length s0_c (hm.exRowW s0_h s0_ha) rfl g1c0_fHammers_a g1c0.fHammers.length g1c0_fHammers_c (hm.exRowW g1c0_fHammers_h g1c0_fHammers_ha) rfl g1c0_b (hm.pass (N := [⟨some g1c0_b, 27, [(.int .i16 g1c0.fSteps), (.slice g1c0_fHammers_a g1c0.fHammers.length g1c0_fHammers_c)]⟩]) [0] (by kernel_rfl) (by kernel_rfl)) (hm.exApart (N := [⟨some g1c0_b, 27, [(.int .i16 g1c0.fSteps), (.slice g1c0_fHammers_a g1c0.fHammers.length g1c0_fHammers_c)]⟩]) s0_h s0_ha [0] (by kernel_rfl)) (hm.exApart (N := [⟨some g1c0_b, 27, [(.int .i16 g1c0.fSteps), (.slice g1c0_fHammers_a g1c0.fHammers.length g1c0_fHammers_c)]⟩]) g1c0_fHammers_h g1c0_fHammers_ha [0] (by kernel_rfl)) ht_1) ?_)
  rintro w v w' hm ⟨rfl, hm'⟩
  refine ⟨_, hm.appW (ps := [(0, ⟨some g1c0_b, 27, [(.int .i16 g1c0.fSteps), (.slice g1c0_fHammers_a g1c0.fHammers.length g1c0_fHammers_c)]⟩)]) (N := []) hm' (by kernel_rfl) (by kernel_rfl), jkO ?_⟩
  clear hm hm'
  refine jo_f [(0, 0), (0, 0)] (by kernel_rfl) ?_
  refine jo_end (by kernel_rfl) ?_
  refine jx_then ?_
  refine jc_ret ?_
  obtain rfl := Option.some.inj h
  exact jx_ret [] (.bool (decide (t_1 ≥ 0))) [] rfl (by kernel_rfl) (by kernel_rfl) (fun w hm => ⟨rfl, hm.pick [0] (by kernel_rfl) (by kernel_rfl)⟩)

/-! ### impl.drumCode -/
noncomputable def impl_drumCode (f0 : GFrame) (list1 : List (Arr 96 Int)) : Option (Int) := (impl_ValidFrame f0).bind fun t_1 => (if t_1 = true then (slices_ContainsFunc_Drum_at_impl_drumCode_1 list1 f0).bind fun t_2 => (impl_unless (!t_2) 1).bind fun t_3 => some t_3 else (impl_unless false 1).bind fun t_4 => some t_4)
set_option maxRecDepth 100000 in
theorem impl_drumCode.calls (f0 : GFrame) (list1 : List (Arr 96 Int)) (w : World) (r : Int) (f0_fHammers_a : Option Addr) (f0_fHammers_an : Nat) (f0_fHammers_c : Nat) (f0_fHammers_h : Rw w f0_fHammers_a 2 encGHammer f0.fHammers) (f0_fHammers_hn : f0.fHammers.length = f0_fHammers_an) (list1_a : Option Addr) (list1_an : Nat) (list1_c : Nat) (list1_h : Rw w list1_a 96 encA96U32 list1) (list1_hn : list1.length = list1_an) (h : impl_drumCode f0 list1 = some r) :
    Calls Try.prog 38 #[(.agg #[(.int .i16 f0.fSteps), (.slice f0_fHammers_a f0_fHammers_an f0_fHammers_c)]), (.slice list1_a list1_an list1_c)] w fun e w' => ∃ v, e = .returned v ∧ (v = (.int .i64 r) ∧ Mem w [] [] w') := by
  subst f0_fHammers_hn list1_hn
  rw [impl_drumCode] at h
  refine enter (args := [(.agg #[(.int .i16 f0.fSteps), (.slice f0_fHammers_a f0.fHammers.length f0_fHammers_c)]), (.slice list1_a list1.length list1_c)]) Try.func38 rfl Try.ntmps38 (by kernel_rfl) (L := []) (W := []) (Mem.start w) ?_
  refine jc_seq ?_
  refine jc_region ?_
  refine toO (by kernel_rfl) (p_a 0 [0] (by kernel_rfl) (fun b => by kernel_rfl) (fun b_1 => jkO ?_))
  refine jo_f [(0, 0)] (by kernel_rfl) ?_
  refine jo_end (by kernel_rfl) ?_
  refine jx_then ?_
  refine jc_seq ?_
  refine jc_region ?_
  refine jo_f [(0, 0)] (by kernel_rfl) ?_
  obtain ⟨t_1, ht_2, h⟩ := bd h
  refine toO (by kernel_rfl) (p_call 0 51 #[(.agg #[(.int .i16 f0.fSteps), (.slice f0_fHammers_a f0.fHammers.length f0_fHammers_c)])] (by kernel_rfl) (by kernel_rfl) (fun w hm => impl_ValidFrame.calls f0 w _ f0_fHammers_a f0.fHammers.length f0_fHammers_c (hm.exRow f0_fHammers_h List.not_mem_nil) rfl ht_2) ?_)
  rintro w v w' hm ⟨rfl, hm'⟩
  refine ⟨_, hm.app hm', jkO ?_⟩
  clear hm hm'
  refine jo_f [(0, 0), (0, 1), (0, 1)] (by kernel_rfl) ?_
  refine jo_split 7 t_1 (by kernel_rfl) (fun hc_3 => ?_) (fun hc_3 => ?_)
  · replace h := ifT hc_3 h
    obtain ⟨t_2, ht_4, h⟩ := bd h
    refine toO (by kernel_rfl) (p_call 2 74 #[(.slice list1_a list1.length list1_c), (.func (.func 75) #[] #[(.pointer (some ⟨b_1, 0, none⟩))])] (by kernel_rfl) (by kernel_rfl) (fun w hm => slices_ContainsFunc_Drum_at_impl_drumCode_1.calls list1 f0 w _ list1_a list1.length list1_c (hm.exRow list1_h List.not_mem_nil) rfl f0_fHammers_a f0.fHammers.length f0_fHammers_c (hm.exRow f0_fHammers_h List.not_mem_nil) rfl b_1 (hm.pass (N := [⟨some b_1, 27, [(.int .i16 f0.fSteps), (.slice f0_fHammers_a f0.fHammers.length f0_fHammers_c)]⟩]) [0] (by kernel_rfl) (by kernel_rfl)) (hm.exApart (N := [⟨some b_1, 27, [(.int .i16 f0.fSteps), (.slice f0_fHammers_a f0.fHammers.length f0_fHammers_c)]⟩]) list1_h (fun _ => List.not_mem_nil) [0] (by kernel_rfl)) (hm.exApart (N := [⟨some b_1, 27, [(.int .i16 f0.fSteps), (.slice f0_fHammers_a f0.fHammers.length f0_fHammers_c)]⟩]) f0_fHammers_h (fun _ => List.not_mem_nil) [0] (by kernel_rfl)) ht_4) ?_)
    rintro w v w' hm ⟨rfl, hm'⟩
    refine ⟨_, hm.appW (ps := [(0, ⟨some b_1, 27, [(.int .i16 f0.fSteps), (.slice f0_fHammers_a f0.fHammers.length f0_fHammers_c)]⟩)]) (N := []) hm' (by kernel_rfl) (by kernel_rfl), jkO ?_⟩
    clear hm hm'
    refine jo_f [(0, 2), (0, 4)] (by kernel_rfl) ?_
    obtain ⟨t_3, ht_5, h⟩ := bd h
    refine toO (by kernel_rfl) (p_call 0 29 #[(.bool (!t_2)), (.int .i64 1)] (by kernel_rfl) (by kernel_rfl) (fun w hm => impl_unless.calls (!t_2) 1 w _ ht_5) ?_)
    rintro w v w' hm ⟨rfl, hm'⟩
    refine ⟨_, hm.app hm', jkO ?_⟩
    clear hm hm'
    refine jo_f [(0, 0)] (by kernel_rfl) ?_
    refine jo_end (by kernel_rfl) ?_
    refine jx_then ?_
    refine jc_ret ?_
    obtain rfl := Option.some.inj h
    exact jx_ret [] (.int .i64 t_3) [] rfl (by kernel_rfl) (by kernel_rfl) (fun w hm => ⟨rfl, hm.pick [] (by kernel_rfl) (by kernel_rfl)⟩)
  · replace h := ifF hc_3 h
    refine jo_f [(0, 3), (0, 3), (0, 5)] (by kernel_rfl) ?_
    obtain ⟨t_4, ht_6, h⟩ := bd h
    refine toO (by kernel_rfl) (p_call 0 29 #[(.bool false), (.int .i64 1)] (by kernel_rfl) (by kernel_rfl) (fun w hm => impl_unless.calls false 1 w _ ht_6) ?_)
    rintro w v w' hm ⟨rfl, hm'⟩
    refine ⟨_, hm.app hm', jkO ?_⟩
    clear hm hm'
    refine jo_f [(0, 0)] (by kernel_rfl) ?_
    refine jo_end (by kernel_rfl) ?_
    refine jx_then ?_
    refine jc_ret ?_
    obtain rfl := Option.some.inj h
    exact jx_ret [] (.int .i64 t_4) [] rfl (by kernel_rfl) (by kernel_rfl) (fun w hm => ⟨rfl, hm.pick [] (by kernel_rfl) (by kernel_rfl)⟩)

/-! ### impl.FreshWear$1 -/
noncomputable def impl_FreshWear_1 (step0 : Int) (track1 : Int) (p2 : GWear) : Option (GWear) := (if p2.fPins.length + [(⟨(w8 step0), (w8 track1), 0⟩ : GWornPin)].length ≤ 4294967296 then some (⟨(p2.fPins ++ [(⟨(w8 step0), (w8 track1), 0⟩ : GWornPin)]), p2.fStrokes⟩ : GWear) else none)
set_option maxRecDepth 100000 in
theorem impl_FreshWear_1.calls (step0 : Int) (track1 : Int) (p2 : GWear) (w : World) (r : GWear) (p2_fStrokes_a : Option Addr) (p2_fStrokes_an : Nat) (p2_fStrokes_c : Nat) (p2_fStrokes_h : Rw w p2_fStrokes_a 1 encI64 p2.fStrokes) (p2_fStrokes_hn : p2.fStrokes.length = p2_fStrokes_an) (p2_b : Nat) (p2_fPins_o : Option Nat) (p2_fPins_on : Nat) (p2_fPins_c : Nat) (p2_fPins_sp : List Value) (p2_fPins_hn : p2.fPins.length = p2_fPins_on) (p2_fPins_hs : p2_fPins_o ≠ none → p2_fPins_on ≤ p2_fPins_c ∧ p2_fPins_sp.length = (p2_fPins_c - p2_fPins_on) * 3) (p2_fPins_ho : p2_fPins_o = none → p2.fPins = [] ∧ p2_fPins_c = 0) (hm0 : Mem w (bs [some p2_b, p2_fPins_o]) [⟨some p2_b, 32, [(.slice (p2_fPins_o.map fun b => ⟨b, 0, none⟩) p2_fPins_on p2_fPins_c), (.slice p2_fStrokes_a p2_fStrokes_an p2_fStrokes_c)]⟩, ⟨p2_fPins_o, 58, row encGWornPin p2.fPins p2_fPins_sp⟩] w) (p2_fStrokes_ha : p2.fStrokes ≠ [] → aB p2_fStrokes_a ∉ bs [some p2_b, p2_fPins_o]) (h : impl_FreshWear_1 step0 track1 p2 = some r) :
    Calls Try.prog 40 #[(.int .i64 step0), (.int .i64 track1), (.pointer (some ⟨p2_b, 0, none⟩))] w fun e w' => ∃ v, e = .returned v ∧ (∃ (mo0 : Option Nat) (mc0 : Nat) (ms0 : List Value) (mn0 : Nat), r.fPins.length = mn0 ∧ (mo0 ≠ none → mn0 ≤ mc0 ∧ ms0.length = (mc0 - mn0) * 3) ∧ (mo0 = none → r.fPins = [] ∧ mc0 = 0) ∧ v = .tuple #[] ∧ Mem w (bs [some p2_b, p2_fPins_o]) [⟨some p2_b, 32, [(.slice (mo0.map fun b => ⟨b, 0, none⟩) mn0 mc0), (.slice p2_fStrokes_a p2_fStrokes_an p2_fStrokes_c)]⟩, ⟨mo0, 58, row encGWornPin r.fPins ms0⟩] w') := by
  subst p2_fStrokes_hn p2_fPins_hn
  rw [impl_FreshWear_1] at h
  refine enter (args := [(.int .i64 step0), (.int .i64 track1), (.pointer (some ⟨p2_b, 0, none⟩))]) Try.func40 rfl Try.ntmps40 (by kernel_rfl) (L := [⟨some p2_b, 32, [(.slice (p2_fPins_o.map fun b => ⟨b, 0, none⟩) p2.fPins.length p2_fPins_c), (.slice p2_fStrokes_a p2.fStrokes.length p2_fStrokes_c)]⟩, ⟨p2_fPins_o, 58, row encGWornPin p2.fPins p2_fPins_sp⟩]) (W := bs [some p2_b, p2_fPins_o]) hm0 ?_
  refine jc_region ?_
  refine jo_f [(0, 0), (0, 0), (0, 0), (0, 0), (0, 0), (0, 0), (0, 0)] (by kernel_rfl) ?_
  refine toO (by kernel_rfl) (p_a 0 [0] (by kernel_rfl) (fun b => by kernel_rfl) (fun b_1 => jkO ?_))
  obtain ⟨hg_2, h⟩ := gd h
  refine toO (by kernel_rfl) (p_apn 0 1 p2_fPins_o 58 p2.fPins.length 1 p2_fPins_c 3 16 (some ⟨b_1, 0, none⟩) encGWornPin p2.fPins [(⟨(w8 step0), (w8 track1), 0⟩ : GWornPin)] p2_fPins_sp (.agg #[(.int .i8 0), (.int .i8 0), (.int .i64 0)]) rfl rfl (by kernel_rfl) (by kernel_rfl) (by kernel_rfl) encGWornPin_len encGWornPin_cell p2_fPins_hs p2_fPins_ho (fun w hm => (hm.ownRow (hh := 2) (o := (some b_1)) (T := 58) (enc := encGWornPin) (xs := [(⟨(w8 step0), (w8 track1), 0⟩ : GWornPin)]) (sp := []) (by kernel_rfl) (fun e => nomatch e) encGWornPin_len)) hg_2 (by kernel_rfl) (by kernel_rfl) (fun o_3 cap_4 sp_5 hs_6 ho_7 => jkO ?_))
  refine jo_f [(0, 0)] (by kernel_rfl) ?_
  refine toO (by kernel_rfl) (p_s 0 [0] (by kernel_rfl) (by kernel_rfl) (jkO ?_))
  refine jo_end (by kernel_rfl) ?_
  refine jx_fall ?_
  obtain rfl := Option.some.inj h
  exact jx_ret [] (.tuple #[]) [] rfl (by kernel_rfl) (by kernel_rfl) (fun w hm => ⟨o_3, cap_4, sp_5, ((p2.fPins ++ [(⟨(w8 step0), (w8 track1), 0⟩ : GWornPin)]).length), rfl, hs_6, ho_7, rfl, hm.pick [0, 1] (by kernel_rfl) (by kernel_rfl)⟩)

/-! ### (impl.Frame).pins -/
noncomputable def impl_Frame_pins_at_impl_FreshWear_1.k_2 (g2c0 : GWear) (xs_1 : List GWornPin) : Option (GWear) := some (⟨xs_1, g2c0.fStrokes⟩ : GWear)
noncomputable def impl_Frame_pins_at_impl_FreshWear_1.k_9 (i_4 : Int) (xs_8 : List GWornPin) : Option (((List GWornPin) × Int) ⊕ ((List GWornPin))) := some (.inl (xs_8, (w64 (i_4 + 1))))
noncomputable def impl_Frame_pins_at_impl_FreshWear_1.l_12 (d1 : Arr 96 Int) (g2c0 : GWear) (i_4 : Int) (t_7 : Int) : ((List GWornPin) × Int) → Option (((List GWornPin) × Int) ⊕ ((List GWornPin)))
  | (xs_10, i_11) => (if (decide (i_11 < t_7)) = true then (impl_Drum_has d1 i_4 i_11).bind fun t_14 => (if t_14 = true then (impl_FreshWear_1 i_4 i_11 (⟨xs_10, g2c0.fStrokes⟩ : GWear)).bind fun t_15 => some (.inl (t_15.fPins, (w64 (i_11 + 1)))) else some (.inl (xs_10, (w64 (i_11 + 1))))) else some (.inr xs_10))
noncomputable def impl_Frame_pins_at_impl_FreshWear_1.l_5 (f0 : GFrame) (d1 : Arr 96 Int) (g2c0 : GWear) : ((List GWornPin) × Int) → Option (((List GWornPin) × Int) ⊕ ((List GWornPin)))
  | (xs_3, i_4) => (if (decide (i_4 < (w64 f0.fSteps))) = true then (impl_size_Hammer f0.fHammers).bind fun t_7 => (loop (impl_Frame_pins_at_impl_FreshWear_1.l_12 d1 g2c0 i_4 t_7) (xs_3, 0)).bind fun t_13 => impl_Frame_pins_at_impl_FreshWear_1.k_9 i_4 t_13 else some (.inr xs_3))
noncomputable def impl_Frame_pins_at_impl_FreshWear_1 (f0 : GFrame) (d1 : Arr 96 Int) (g2c0 : GWear) : Option (GWear) := (loop (impl_Frame_pins_at_impl_FreshWear_1.l_5 f0 d1 g2c0) (g2c0.fPins, 0)).bind fun t_6 => impl_Frame_pins_at_impl_FreshWear_1.k_2 g2c0 t_6
set_option maxRecDepth 100000 in
theorem impl_Frame_pins_at_impl_FreshWear_1.calls (f0 : GFrame) (d1 : Arr 96 Int) (g2c0 : GWear) (w : World) (r : GWear) (f0_fHammers_a : Option Addr) (f0_fHammers_an : Nat) (f0_fHammers_c : Nat) (f0_fHammers_h : Rw w f0_fHammers_a 2 encGHammer f0.fHammers) (f0_fHammers_hn : f0.fHammers.length = f0_fHammers_an) (g2c0_fStrokes_a : Option Addr) (g2c0_fStrokes_an : Nat) (g2c0_fStrokes_c : Nat) (g2c0_fStrokes_h : Rw w g2c0_fStrokes_a 1 encI64 g2c0.fStrokes) (g2c0_fStrokes_hn : g2c0.fStrokes.length = g2c0_fStrokes_an) (g2c0_b : Nat) (g2c0_fPins_o : Option Nat) (g2c0_fPins_on : Nat) (g2c0_fPins_c : Nat) (g2c0_fPins_sp : List Value) (g2c0_fPins_hn : g2c0.fPins.length = g2c0_fPins_on) (g2c0_fPins_hs : g2c0_fPins_o ≠ none → g2c0_fPins_on ≤ g2c0_fPins_c ∧ g2c0_fPins_sp.length = (g2c0_fPins_c - g2c0_fPins_on) * 3) (g2c0_fPins_ho : g2c0_fPins_o = none → g2c0.fPins = [] ∧ g2c0_fPins_c = 0) (hm0 : Mem w (bs [some g2c0_b, g2c0_fPins_o]) [⟨some g2c0_b, 32, [(.slice (g2c0_fPins_o.map fun b => ⟨b, 0, none⟩) g2c0_fPins_on g2c0_fPins_c), (.slice g2c0_fStrokes_a g2c0_fStrokes_an g2c0_fStrokes_c)]⟩, ⟨g2c0_fPins_o, 58, row encGWornPin g2c0.fPins g2c0_fPins_sp⟩] w) (f0_fHammers_ha : f0.fHammers ≠ [] → aB f0_fHammers_a ∉ bs [some g2c0_b, g2c0_fPins_o]) (g2c0_fStrokes_ha : g2c0.fStrokes ≠ [] → aB g2c0_fStrokes_a ∉ bs [some g2c0_b, g2c0_fPins_o]) (h : impl_Frame_pins_at_impl_FreshWear_1 f0 d1 g2c0 = some r) :
    Calls Try.prog 39 #[(.agg #[(.int .i16 f0.fSteps), (.slice f0_fHammers_a f0_fHammers_an f0_fHammers_c)]), (.agg (row encU32 d1.1 []).toArray), (.func (.func 40) #[] #[(.pointer (some ⟨g2c0_b, 0, none⟩))])] w fun e w' => ∃ v, e = .returned v ∧ (∃ (mo0 : Option Nat) (mc0 : Nat) (ms0 : List Value) (mn0 : Nat), r.fPins.length = mn0 ∧ (mo0 ≠ none → mn0 ≤ mc0 ∧ ms0.length = (mc0 - mn0) * 3) ∧ (mo0 = none → r.fPins = [] ∧ mc0 = 0) ∧ v = .tuple #[] ∧ Mem w (bs [some g2c0_b, g2c0_fPins_o]) [⟨some g2c0_b, 32, [(.slice (mo0.map fun b => ⟨b, 0, none⟩) mn0 mc0), (.slice g2c0_fStrokes_a g2c0_fStrokes_an g2c0_fStrokes_c)]⟩, ⟨mo0, 58, row encGWornPin r.fPins ms0⟩] w') := by
  subst f0_fHammers_hn g2c0_fStrokes_hn g2c0_fPins_hn
  rw [impl_Frame_pins_at_impl_FreshWear_1] at h
  refine enter (args := [(.agg #[(.int .i16 f0.fSteps), (.slice f0_fHammers_a f0.fHammers.length f0_fHammers_c)]), (.agg (row encU32 d1.1 []).toArray), (.func (.func 40) #[] #[(.pointer (some ⟨g2c0_b, 0, none⟩))])]) Try.func39 rfl Try.ntmps39 (by kernel_rfl) (L := [⟨some g2c0_b, 32, [(.slice (g2c0_fPins_o.map fun b => ⟨b, 0, none⟩) g2c0.fPins.length g2c0_fPins_c), (.slice g2c0_fStrokes_a g2c0.fStrokes.length g2c0_fStrokes_c)]⟩, ⟨g2c0_fPins_o, 58, row encGWornPin g2c0.fPins g2c0_fPins_sp⟩]) (W := bs [some g2c0_b, g2c0_fPins_o]) hm0 ?_
  refine jc_seq ?_
  refine jc_region ?_
  refine toO (by kernel_rfl) (p_a 0 [0] (by kernel_rfl) (fun b => by kernel_rfl) (fun b_1 => jkO ?_))
  refine toO (by kernel_rfl) (p_a 0 [0] (by kernel_rfl) (fun b => by kernel_rfl) (fun b_2 => jkO ?_))
  refine jo_end (by kernel_rfl) ?_
  refine jx_then ?_
  refine jc_seq ?_
  refine jc_region ?_
  refine jo_f [(0, 0), (2, 0), (0, 0), (0, 0)] (by kernel_rfl) ?_
  refine jo_end (by kernel_rfl) ?_
  refine jx_then ?_
  refine jc_meet (fun (j : (List GWornPin) × (Option Nat) × Nat × (List Value) × Nat) => match j with | ⟨xs_1, o_322, cap_323, sp_324, n_325⟩ => impl_Frame_pins_at_impl_FreshWear_1.k_2 g2c0 xs_1 = some r ∧ (xs_1.length = n_325) ∧ ((o_322 ≠ none → n_325 ≤ cap_323 ∧ sp_324.length = (cap_323 - n_325) * 3)) ∧ ((o_322 = none → xs_1 = [] ∧ cap_323 = 0))) (fun (j : (List GWornPin) × (Option Nat) × Nat × (List Value) × Nat) => match j with | ⟨xs_1, o_322, cap_323, sp_324, n_325⟩ => []) (fun (j : (List GWornPin) × (Option Nat) × Nat × (List Value) × Nat) => match j with | ⟨xs_1, o_322, cap_323, sp_324, n_325⟩ => [⟨some g2c0_b, 32, [(.slice (o_322.map fun b => ⟨b, 0, none⟩) n_325 cap_323), (.slice g2c0_fStrokes_a g2c0.fStrokes.length g2c0_fStrokes_c)]⟩, ⟨o_322, 58, row encGWornPin xs_1 sp_324⟩, ⟨some b_1, 27, [(.int .i16 f0.fSteps), (.slice f0_fHammers_a f0.fHammers.length f0_fHammers_c)]⟩, ⟨(some b_2), 42, row encU32 d1.1 []⟩]) ?_ ?_
  · refine jc_block ?_
    obtain ⟨t_6, ht_646, hr_542⟩ := bd h
    refine jc_loop (fun (s : (List GWornPin) × Int) (x : (Option Nat) × Nat × (List Value) × Nat) => match s, x with | ⟨xs_3, i_4⟩, ⟨o_536, cap_537, sp_538, n_539⟩ => (xs_3.length = n_539) ∧ ((o_536 ≠ none → n_539 ≤ cap_537 ∧ sp_538.length = (cap_537 - n_539) * 3)) ∧ ((o_536 = none → xs_3 = [] ∧ cap_537 = 0))) (fun (s : (List GWornPin) × Int) (x : (Option Nat) × Nat × (List Value) × Nat) => match s, x with | ⟨xs_3, i_4⟩, ⟨o_536, cap_537, sp_538, n_539⟩ => [(2, [], (.func (.func 40) #[] #[(.pointer (some ⟨g2c0_b, 0, none⟩))])), (3, [], (.pointer (some ⟨b_1, 0, none⟩))), (4, [], (.pointer (some ⟨b_2, 0, none⟩))), (10, [], (.int .i64 (w64 f0.fSteps))), (11, [], (.int .i64 i_4))]) (fun (s : (List GWornPin) × Int) (x : (Option Nat) × Nat × (List Value) × Nat) => match s, x with | ⟨xs_3, i_4⟩, ⟨o_536, cap_537, sp_538, n_539⟩ => [⟨some g2c0_b, 32, [(.slice (o_536.map fun b => ⟨b, 0, none⟩) n_539 cap_537), (.slice g2c0_fStrokes_a g2c0.fStrokes.length g2c0_fStrokes_c)]⟩, ⟨o_536, 58, row encGWornPin xs_3 sp_538⟩, ⟨some b_1, 27, [(.int .i16 f0.fSteps), (.slice f0_fHammers_a f0.fHammers.length f0_fHammers_c)]⟩, ⟨(some b_2), 42, row encU32 d1.1 []⟩]) ht_646 ⟨g2c0_fPins_o, g2c0_fPins_c, g2c0_fPins_sp, g2c0.fPins.length⟩ ⟨rfl, g2c0_fPins_hs, g2c0_fPins_ho⟩ (by kernel_rfl) [0, 1, 2, 3] (by kernel_rfl) (by kernel_rfl) ?_
    rintro ⟨xs_3, i_4⟩ ⟨o_536, cap_537, sp_538, n_539⟩ y_543 ⟨rfl, hs_540, ho_541⟩ h
    rw [impl_Frame_pins_at_impl_FreshWear_1.l_5] at h
    refine jc_seq ?_
    refine jc_region ?_
    refine jo_f [(0, 0)] (by kernel_rfl) ?_
    refine jo_end (by kernel_rfl) ?_
    refine jx_then ?_
    refine jc_seq ?_
    refine jc_cond (decide (i_4 < (w64 f0.fSteps))) (by kernel_rfl) (fun hc_545 => ?_) (fun hc_545 => ?_)
    · replace h := ifT hc_545 h
      refine jc_skip ?_
      refine jx_then ?_
      refine jc_seq ?_
      refine jc_block ?_
      refine jc_seq ?_
      refine jc_region ?_
      refine jo_f [(0, 0), (0, 0)] (by kernel_rfl) ?_
      refine jo_end (by kernel_rfl) ?_
      refine jx_then ?_
      refine jc_seq ?_
      refine jc_region ?_
      refine jo_f [(0, 0), (2, 0)] (by kernel_rfl) ?_
      obtain ⟨t_7, ht_546, h⟩ := bd h
      refine toO (by kernel_rfl) (p_call 0 77 #[(.slice f0_fHammers_a f0.fHammers.length f0_fHammers_c)] (by kernel_rfl) (by kernel_rfl) (fun w hm => impl_size_Hammer.calls f0.fHammers w _ f0_fHammers_a f0.fHammers.length f0_fHammers_c (hm.exRowW f0_fHammers_h f0_fHammers_ha) rfl ht_546) ?_)
      rintro w v w' hm ⟨rfl, hm'⟩
      refine ⟨_, hm.app hm', jkO ?_⟩
      clear hm hm'
      refine jo_f [(0, 0)] (by kernel_rfl) ?_
      refine jo_end (by kernel_rfl) ?_
      refine jx_then ?_
      refine jc_meet (fun (j : (List GWornPin) × (Option Nat) × Nat × (List Value) × Nat) => match j with | ⟨xs_8, o_593, cap_594, sp_595, n_596⟩ => impl_Frame_pins_at_impl_FreshWear_1.k_9 i_4 xs_8 = some y_543 ∧ (xs_8.length = n_596) ∧ ((o_593 ≠ none → n_596 ≤ cap_594 ∧ sp_595.length = (cap_594 - n_596) * 3)) ∧ ((o_593 = none → xs_8 = [] ∧ cap_594 = 0))) (fun (j : (List GWornPin) × (Option Nat) × Nat × (List Value) × Nat) => match j with | ⟨xs_8, o_593, cap_594, sp_595, n_596⟩ => [(2, [], (.func (.func 40) #[] #[(.pointer (some ⟨g2c0_b, 0, none⟩))])), (3, [], (.pointer (some ⟨b_1, 0, none⟩))), (4, [], (.pointer (some ⟨b_2, 0, none⟩))), (10, [], (.int .i64 (w64 f0.fSteps))), (11, [], (.int .i64 i_4))]) (fun (j : (List GWornPin) × (Option Nat) × Nat × (List Value) × Nat) => match j with | ⟨xs_8, o_593, cap_594, sp_595, n_596⟩ => [⟨some g2c0_b, 32, [(.slice (o_593.map fun b => ⟨b, 0, none⟩) n_596 cap_594), (.slice g2c0_fStrokes_a g2c0.fStrokes.length g2c0_fStrokes_c)]⟩, ⟨o_593, 58, row encGWornPin xs_8 sp_595⟩, ⟨some b_1, 27, [(.int .i16 f0.fSteps), (.slice f0_fHammers_a f0.fHammers.length f0_fHammers_c)]⟩, ⟨(some b_2), 42, row encU32 d1.1 []⟩]) ?_ ?_
      · refine jc_block ?_
        obtain ⟨t_13, ht_644, hr_631⟩ := bd h
        refine jc_loop (fun (s : (List GWornPin) × Int) (x : (Option Nat) × Nat × (List Value) × Nat) => match s, x with | ⟨xs_10, i_11⟩, ⟨o_625, cap_626, sp_627, n_628⟩ => (xs_10.length = n_628) ∧ ((o_625 ≠ none → n_628 ≤ cap_626 ∧ sp_627.length = (cap_626 - n_628) * 3)) ∧ ((o_625 = none → xs_10 = [] ∧ cap_626 = 0))) (fun (s : (List GWornPin) × Int) (x : (Option Nat) × Nat × (List Value) × Nat) => match s, x with | ⟨xs_10, i_11⟩, ⟨o_625, cap_626, sp_627, n_628⟩ => [(2, [], (.func (.func 40) #[] #[(.pointer (some ⟨g2c0_b, 0, none⟩))])), (3, [], (.pointer (some ⟨b_1, 0, none⟩))), (4, [], (.pointer (some ⟨b_2, 0, none⟩))), (6, [], (.int .i64 i_4)), (10, [], (.int .i64 (w64 f0.fSteps))), (11, [], (.int .i64 i_4)), (16, [], (.int .i64 t_7)), (17, [], (.int .i64 i_11))]) (fun (s : (List GWornPin) × Int) (x : (Option Nat) × Nat × (List Value) × Nat) => match s, x with | ⟨xs_10, i_11⟩, ⟨o_625, cap_626, sp_627, n_628⟩ => [⟨some g2c0_b, 32, [(.slice (o_625.map fun b => ⟨b, 0, none⟩) n_628 cap_626), (.slice g2c0_fStrokes_a g2c0.fStrokes.length g2c0_fStrokes_c)]⟩, ⟨o_625, 58, row encGWornPin xs_10 sp_627⟩, ⟨some b_1, 27, [(.int .i16 f0.fSteps), (.slice f0_fHammers_a f0.fHammers.length f0_fHammers_c)]⟩, ⟨(some b_2), 42, row encU32 d1.1 []⟩]) ht_644 ⟨o_536, cap_537, sp_538, xs_3.length⟩ ⟨rfl, hs_540, ho_541⟩ (by kernel_rfl) [0, 1, 2, 3] (by kernel_rfl) (by kernel_rfl) ?_
        rintro ⟨xs_10, i_11⟩ ⟨o_625, cap_626, sp_627, n_628⟩ y_632 ⟨rfl, hs_629, ho_630⟩ h
        rw [impl_Frame_pins_at_impl_FreshWear_1.l_12] at h
        refine jc_seq ?_
        refine jc_region ?_
        refine jo_f [(0, 0)] (by kernel_rfl) ?_
        refine jo_end (by kernel_rfl) ?_
        refine jx_then ?_
        refine jc_seq ?_
        refine jc_cond (decide (i_11 < t_7)) (by kernel_rfl) (fun hc_634 => ?_) (fun hc_634 => ?_)
        · replace h := ifT hc_634 h
          refine jc_skip ?_
          refine jx_then ?_
          refine jc_seq ?_
          refine jc_block ?_
          refine jc_seq ?_
          refine jc_region ?_
          refine jo_f [(0, 0), (0, 0)] (by kernel_rfl) ?_
          refine jo_end (by kernel_rfl) ?_
          refine jx_then ?_
          refine jc_seq ?_
          refine jc_region ?_
          refine jo_f [(0, 0), (0, 0)] (by kernel_rfl) ?_
          obtain ⟨t_14, ht_635, h⟩ := bd h
          refine toO (by kernel_rfl) (p_call 0 78 #[(.pointer (some ⟨b_2, 0, none⟩)), (.int .i64 i_4), (.int .i64 i_11)] (by kernel_rfl) (by kernel_rfl) (fun w hm => impl_Drum_has.calls d1 i_4 i_11 w _ b_2 (hm.pass (N := [⟨(some b_2), 42, row encU32 d1.1 []⟩]) [3] (by kernel_rfl) (by kernel_rfl)) ht_635) ?_)
          rintro w v w' hm ⟨rfl, hm'⟩
          refine ⟨_, hm.appW (ps := [(3, ⟨(some b_2), 42, row encU32 d1.1 []⟩)]) (N := []) hm' (by kernel_rfl) (by kernel_rfl), jkO ?_⟩
          clear hm hm'
          refine jo_end (by kernel_rfl) ?_
          refine jx_then ?_
          refine jc_cond t_14 (by kernel_rfl) (fun hc_636 => ?_) (fun hc_636 => ?_)
          · replace h := ifT hc_636 h
            refine jc_region ?_
            refine jo_f [(0, 0), (0, 0), (0, 0)] (by kernel_rfl) ?_
            obtain ⟨t_15, ht_637, h⟩ := bd h
            refine toO (by kernel_rfl) (p_call 0 40 #[(.int .i64 i_4), (.int .i64 i_11), (.pointer (some ⟨g2c0_b, 0, none⟩))] (by kernel_rfl) (by kernel_rfl) (fun w hm => impl_FreshWear_1.calls i_4 i_11 (⟨xs_10, g2c0.fStrokes⟩ : GWear) w _ g2c0_fStrokes_a g2c0.fStrokes.length g2c0_fStrokes_c (hm.exRowW g2c0_fStrokes_h g2c0_fStrokes_ha) rfl g2c0_b o_625 xs_10.length cap_626 sp_627 rfl hs_629 ho_630 (hm.pass (N := [⟨some g2c0_b, 32, [(.slice (o_625.map fun b => ⟨b, 0, none⟩) xs_10.length cap_626), (.slice g2c0_fStrokes_a g2c0.fStrokes.length g2c0_fStrokes_c)]⟩, ⟨o_625, 58, row encGWornPin xs_10 sp_627⟩]) [0, 1] (by kernel_rfl) (by kernel_rfl)) (hm.exApart (N := [⟨some g2c0_b, 32, [(.slice (o_625.map fun b => ⟨b, 0, none⟩) xs_10.length cap_626), (.slice g2c0_fStrokes_a g2c0.fStrokes.length g2c0_fStrokes_c)]⟩, ⟨o_625, 58, row encGWornPin xs_10 sp_627⟩]) g2c0_fStrokes_h g2c0_fStrokes_ha [0, 1] (by kernel_rfl)) ht_637) ?_)
            rintro w v w' hm ⟨o_638, cap_639, sp_640, _, rfl, hs_641, ho_642, rfl, hm'⟩
            refine ⟨_, Mem.pick (hm.appP (ps := [(0, ⟨some g2c0_b, 32, [(.slice (o_638.map fun b => ⟨b, 0, none⟩) t_15.fPins.length cap_639), (.slice g2c0_fStrokes_a g2c0.fStrokes.length g2c0_fStrokes_c)]⟩)]) (ds := [1]) (N := [⟨o_638, 58, row encGWornPin t_15.fPins sp_640⟩]) hm' [0, 1] (by kernel_rfl) (by kernel_rfl) (by kernel_rfl)) (N := [⟨some g2c0_b, 32, [(.slice (o_638.map fun b => ⟨b, 0, none⟩) t_15.fPins.length cap_639), (.slice g2c0_fStrokes_a g2c0.fStrokes.length g2c0_fStrokes_c)]⟩, ⟨o_638, 58, row encGWornPin t_15.fPins sp_640⟩, ⟨some b_1, 27, [(.int .i16 f0.fSteps), (.slice f0_fHammers_a f0.fHammers.length f0_fHammers_c)]⟩, ⟨(some b_2), 42, row encU32 d1.1 []⟩]) [0, 4, 2, 3] (by kernel_rfl) (by kernel_rfl), jkO ?_⟩
            clear hm hm'
            refine jo_end (by kernel_rfl) ?_
            refine jx_inn ?_
            refine jx_then ?_
            refine jc_region ?_
            refine jo_f [(0, 0), (0, 0)] (by kernel_rfl) ?_
            refine jo_end (by kernel_rfl) ?_
            exact jx_back (t_15.fPins, (w64 (i_11 + 1))) ⟨o_638, cap_639, sp_640, t_15.fPins.length⟩ (Option.some.inj h).symm ⟨rfl, hs_641, ho_642⟩ [0, 1, 2, 3] (by kernel_rfl) (by kernel_rfl) (by kernel_rfl)
          · replace h := ifF hc_636 h
            refine jc_skip ?_
            refine jx_inn ?_
            refine jx_then ?_
            refine jc_region ?_
            refine jo_f [(0, 0), (0, 0)] (by kernel_rfl) ?_
            refine jo_end (by kernel_rfl) ?_
            exact jx_back (xs_10, (w64 (i_11 + 1))) ⟨o_625, cap_626, sp_627, xs_10.length⟩ (Option.some.inj h).symm ⟨rfl, hs_629, ho_630⟩ [0, 1, 2, 3] (by kernel_rfl) (by kernel_rfl) (by kernel_rfl)
        · replace h := ifF hc_634 h
          refine jc_exit ?_
          refine jx_thenx ?_
          refine jx_leave xs_10 (Option.some.inj h).symm (fun e_643 => ?_)
          subst e_643
          refine jx_ine ?_
          exact jx_meet ⟨xs_10, o_625, cap_626, sp_627, xs_10.length⟩ ⟨hr_631, rfl, hs_629, ho_630⟩ (by kernel_rfl) [0, 1, 2, 3] (by kernel_rfl) (by kernel_rfl)
      · rintro ⟨xs_8, o_593, cap_594, sp_595, n_596⟩ ⟨h, rfl, hs_597, ho_598⟩
        replace h : impl_Frame_pins_at_impl_FreshWear_1.k_9 i_4 xs_8 = some y_543 := h
        rw [impl_Frame_pins_at_impl_FreshWear_1.k_9] at h
        refine jx_inn ?_
        refine jx_then ?_
        refine jc_region ?_
        refine jo_f [(0, 0), (0, 0)] (by kernel_rfl) ?_
        refine jo_end (by kernel_rfl) ?_
        exact jx_back (xs_8, (w64 (i_4 + 1))) ⟨o_593, cap_594, sp_595, xs_8.length⟩ (Option.some.inj h).symm ⟨rfl, hs_597, ho_598⟩ [0, 1, 2, 3] (by kernel_rfl) (by kernel_rfl) (by kernel_rfl)
    · replace h := ifF hc_545 h
      refine jc_exit ?_
      refine jx_thenx ?_
      refine jx_leave xs_3 (Option.some.inj h).symm (fun e_645 => ?_)
      subst e_645
      refine jx_ine ?_
      exact jx_meet ⟨xs_3, o_536, cap_537, sp_538, xs_3.length⟩ ⟨hr_542, rfl, hs_540, ho_541⟩ (by kernel_rfl) [0, 1, 2, 3] (by kernel_rfl) (by kernel_rfl)
  · rintro ⟨xs_1, o_322, cap_323, sp_324, n_325⟩ ⟨h, rfl, hs_326, ho_327⟩
    replace h : impl_Frame_pins_at_impl_FreshWear_1.k_2 g2c0 xs_1 = some r := h
    rw [impl_Frame_pins_at_impl_FreshWear_1.k_2] at h
    refine jx_fall ?_
    obtain rfl := Option.some.inj h
    exact jx_ret [] (.tuple #[]) [] rfl (by kernel_rfl) (by kernel_rfl) (fun w hm => ⟨o_322, cap_323, sp_324, xs_1.length, rfl, hs_326, ho_327, rfl, hm.pick [0, 1] (by kernel_rfl) (by kernel_rfl)⟩)

/-! ### impl.FreshWear -/
noncomputable def impl_FreshWear (f0 : GFrame) (d1 : Arr 96 Int) : Option (GWear × Int) := (impl_drumCode f0 [d1]).bind fun t_1 => (if (t_1 != 0) = true then some ((⟨[], []⟩ : GWear), t_1) else (if 0 ≤ (f0.fHammers.length : Int) ∧ (f0.fHammers.length : Int) ≤ 17592186044416 then (impl_Frame_pins_at_impl_FreshWear_1 f0 d1 (⟨([] : List GWornPin), (List.replicate (f0.fHammers.length : Int).toNat 0)⟩ : GWear)).bind fun t_2 => some ((⟨t_2.fPins, (List.replicate (f0.fHammers.length : Int).toNat 0)⟩ : GWear), 0) else none))
set_option maxRecDepth 100000 in
theorem impl_FreshWear.calls (f0 : GFrame) (d1 : Arr 96 Int) (w : World) (r : GWear × Int) (f0_fHammers_a : Option Addr) (f0_fHammers_an : Nat) (f0_fHammers_c : Nat) (f0_fHammers_h : Rw w f0_fHammers_a 2 encGHammer f0.fHammers) (f0_fHammers_hn : f0.fHammers.length = f0_fHammers_an) (h : impl_FreshWear f0 d1 = some r) :
    Calls Try.prog 12 #[(.agg #[(.int .i16 f0.fSteps), (.slice f0_fHammers_a f0_fHammers_an f0_fHammers_c)]), (.agg (row encU32 d1.1 []).toArray)] w fun e w' => ∃ v, e = .returned v ∧ (∃ (o0 : Option Nat) (c0 : Nat) (s0 : List Value) (n0 : Nat), r.1.fPins.length = n0 ∧ (o0 ≠ none → n0 ≤ c0 ∧ s0.length = (c0 - n0) * 3) ∧ (o0 = none → r.1.fPins = [] ∧ c0 = 0) ∧ ∃ (o1 : Option Nat) (c1 : Nat) (s1 : List Value) (n1 : Nat), r.1.fStrokes.length = n1 ∧ (o1 ≠ none → n1 ≤ c1 ∧ s1.length = (c1 - n1) * 1) ∧ (o1 = none → r.1.fStrokes = [] ∧ c1 = 0) ∧ v = .tuple #[.agg #[.slice (o0.map fun b => ⟨b, 0, none⟩) n0 c0, .slice (o1.map fun b => ⟨b, 0, none⟩) n1 c1], (.int .i64 r.2)] ∧ Mem w [] [⟨o0, 58, row encGWornPin r.1.fPins s0⟩, ⟨o1, 2, row encI64 r.1.fStrokes s1⟩] w') := by
  subst f0_fHammers_hn
  rw [impl_FreshWear] at h
  refine enter (args := [(.agg #[(.int .i16 f0.fSteps), (.slice f0_fHammers_a f0.fHammers.length f0_fHammers_c)]), (.agg (row encU32 d1.1 []).toArray)]) Try.func12 rfl Try.ntmps12 (by kernel_rfl) (L := []) (W := []) (Mem.start w) ?_
  refine jc_seq ?_
  refine jc_region ?_
  refine toO (by kernel_rfl) (p_a 0 [0] (by kernel_rfl) (fun b => by kernel_rfl) (fun b_1 => jkO ?_))
  refine toO (by kernel_rfl) (p_a 0 [0] (by kernel_rfl) (fun b => by kernel_rfl) (fun b_2 => jkO ?_))
  refine toO (by kernel_rfl) (p_a 0 [0] (by kernel_rfl) (fun b => by kernel_rfl) (fun b_3 => jkO ?_))
  refine jo_f [(0, 0)] (by kernel_rfl) ?_
  refine jo_end (by kernel_rfl) ?_
  refine jx_then ?_
  refine jc_seq ?_
  refine jc_seq ?_
  refine jc_region ?_
  refine jo_f [(0, 0)] (by kernel_rfl) ?_
  refine toO (by kernel_rfl) (p_ldA 0 1 b_2 96 1 42 encU32 d1 (by kernel_rfl) (by kernel_rfl) (by kernel_rfl) encU32_len (by kernel_rfl) (jkO ?_))
  refine toO (by kernel_rfl) (p_bs 0 42 96 1 encA96U32 [(.agg (row encU32 d1.1 []).toArray)] [d1] (by kernel_rfl) (by kernel_rfl) rfl (by kernel_rfl) (by kernel_rfl) encA96U32_len (fun b_7 => jkO ?_))
  obtain ⟨t_1, ht_8, h⟩ := bd h
  refine toO (by kernel_rfl) (p_call 0 38 #[(.agg #[(.int .i16 f0.fSteps), (.slice f0_fHammers_a f0.fHammers.length f0_fHammers_c)]), (.slice (some ⟨b_7, 0, none⟩) 1 1)] (by kernel_rfl) (by kernel_rfl) (fun w hm => impl_drumCode.calls f0 [d1] w _ f0_fHammers_a f0.fHammers.length f0_fHammers_c (hm.exRow f0_fHammers_h List.not_mem_nil) rfl (some ⟨b_7, 0, none⟩) 1 1 (hm.ownRow (hh := 3) (o := (some b_7)) (T := 42) (enc := encA96U32) (xs := [d1]) (sp := []) (by kernel_rfl) (fun e => nomatch e) encA96U32_len) rfl ht_8) ?_)
  rintro w v w' hm ⟨rfl, hm'⟩
  refine ⟨_, hm.app hm', jkO ?_⟩
  clear hm hm'
  refine jo_f [(0, 0)] (by kernel_rfl) ?_
  refine jo_end (by kernel_rfl) ?_
  refine jx_then ?_
  refine jc_seq ?_
  refine jc_region ?_
  refine jo_f [(0, 0), (0, 0)] (by kernel_rfl) ?_
  refine jo_end (by kernel_rfl) ?_
  refine jx_then ?_
  refine jc_cond (t_1 != 0) (by kernel_rfl) (fun hc_9 => ?_) (fun hc_9 => ?_)
  · replace h := ifT hc_9 h
    refine jc_seq ?_
    refine jc_region ?_
    refine jo_f [(0, 0), (0, 0)] (by kernel_rfl) ?_
    refine toO (by kernel_rfl) (p_s 0 [2] (by kernel_rfl) (by kernel_rfl) (jkO ?_))
    refine jo_f [(0, 0)] (by kernel_rfl) ?_
    refine jo_end (by kernel_rfl) ?_
    refine jx_then ?_
    refine jc_ret ?_
    refine jx_thenr ?_
    obtain rfl := Option.some.inj h
    refine jx_ghost 58 encGWornPin ?_
    refine jx_ghost 2 encI64 ?_
    exact jx_ret [2] (.tuple #[(.agg #[(.slice none 0 0), (.slice none 0 0)]), (.int .i64 t_1)]) [(b_3, b_3), (b_3, b_3)] rfl (by kernel_rfl) (by kernel_rfl) (fun w hm => ⟨none, 0, [], 0, rfl, (fun e => absurd rfl e), (fun _ => ⟨rfl, rfl⟩), none, 0, [], 0, rfl, (fun e => absurd rfl e), (fun _ => ⟨rfl, rfl⟩), rfl, hm.pick [4, 5] (by kernel_rfl) (by kernel_rfl)⟩)
  · replace h := ifF hc_9 h
    refine jc_skip ?_
    refine jx_then ?_
    refine jc_seq ?_
    refine jc_region ?_
    refine jo_f [(0, 0), (0, 0), (0, 0)] (by kernel_rfl) ?_
    obtain ⟨hg_18, h⟩ := gd h
    refine toO (by kernel_rfl) (p_mk 0 2 (f0.fHammers.length : Int) 1 8 encI64 0 (by kernel_rfl) (by kernel_rfl) hg_18.1 (by omega) (by kernel_rfl) (fun b_10 => jkO ?_))
    refine jo_f [(0, 0)] (by kernel_rfl) ?_
    refine toO (by kernel_rfl) (p_a 0 [0] (by kernel_rfl) (fun b => by kernel_rfl) (fun b_11 => jkO ?_))
    refine toO (by kernel_rfl) (p_s 0 [5] (by kernel_rfl) (by kernel_rfl) (jkO ?_))
    refine jo_end (by kernel_rfl) ?_
    refine jx_then ?_
    refine jc_seq ?_
    refine jc_region ?_
    refine jo_f [(0, 0)] (by kernel_rfl) ?_
    refine toO (by kernel_rfl) (p_ldA 0 1 b_2 96 1 42 encU32 d1 (by kernel_rfl) (by kernel_rfl) (by kernel_rfl) encU32_len (by kernel_rfl) (jkO ?_))
    refine jo_f [(0, 0)] (by kernel_rfl) ?_
    obtain ⟨t_2, ht_12, h⟩ := bd h
    refine toO (by kernel_rfl) (jp_ghost 58 encGWornPin (p_call 0 39 #[(.agg #[(.int .i16 f0.fSteps), (.slice f0_fHammers_a f0.fHammers.length f0_fHammers_c)]), (.agg (row encU32 d1.1 []).toArray), (.func (.func 40) #[] #[(.pointer (some ⟨b_11, 0, none⟩))])] (by kernel_rfl) (by kernel_rfl) (fun w hm => impl_Frame_pins_at_impl_FreshWear_1.calls f0 d1 (⟨([] : List GWornPin), (List.replicate (f0.fHammers.length : Int).toNat 0)⟩ : GWear) w _ f0_fHammers_a f0.fHammers.length f0_fHammers_c (hm.exRow f0_fHammers_h List.not_mem_nil) rfl (some ⟨b_10, 0, none⟩) ((f0.fHammers.length : Int).toNat) ((f0.fHammers.length : Int).toNat) (hm.ownRow (hh := 4) (o := (some b_10)) (T := 2) (enc := encI64) (xs := (List.replicate (f0.fHammers.length : Int).toNat 0)) (sp := []) (by kernel_rfl) (fun e => nomatch e) encI64_len) List.length_replicate b_11 (none : Option Nat) 0 0 [] rfl (fun e => absurd rfl e) (fun _ => ⟨rfl, rfl⟩) (hm.pass (N := [⟨some b_11, 32, [(.slice ((none : Option Nat).map fun b => ⟨b, 0, none⟩) 0 0), (.slice (some ⟨b_10, 0, none⟩) ((f0.fHammers.length : Int).toNat) ((f0.fHammers.length : Int).toNat))]⟩, ⟨(none : Option Nat), 58, row encGWornPin ([] : List GWornPin) []⟩]) [5, 6] (by kernel_rfl) (by kernel_rfl)) (hm.exApart (N := [⟨some b_11, 32, [(.slice ((none : Option Nat).map fun b => ⟨b, 0, none⟩) 0 0), (.slice (some ⟨b_10, 0, none⟩) ((f0.fHammers.length : Int).toNat) ((f0.fHammers.length : Int).toNat))]⟩, ⟨(none : Option Nat), 58, row encGWornPin ([] : List GWornPin) []⟩]) f0_fHammers_h (fun _ => List.not_mem_nil) [5, 6] (by kernel_rfl)) (hm.ownApart (S := Int) (N := [⟨some b_11, 32, [(.slice ((none : Option Nat).map fun b => ⟨b, 0, none⟩) 0 0), (.slice (some ⟨b_10, 0, none⟩) ((f0.fHammers.length : Int).toNat) ((f0.fHammers.length : Int).toNat))]⟩, ⟨(none : Option Nat), 58, row encGWornPin ([] : List GWornPin) []⟩]) (hh := 4) (o := (some b_10)) (T := 2) (cs := row encI64 (List.replicate (f0.fHammers.length : Int).toNat 0) []) (xs := (List.replicate (f0.fHammers.length : Int).toNat 0)) (by kernel_rfl) (fun e => nomatch e) [5, 6] (by kernel_rfl) (by kernel_rfl)) ht_12) ?_))
    rintro w v w' hm ⟨o_13, cap_14, sp_15, _, rfl, hs_16, ho_17, rfl, hm'⟩
    refine ⟨_, Mem.pick (hm.appP (ps := [(5, ⟨some b_11, 32, [(.slice (o_13.map fun b => ⟨b, 0, none⟩) t_2.fPins.length cap_14), (.slice (some ⟨b_10, 0, none⟩) ((f0.fHammers.length : Int).toNat) ((f0.fHammers.length : Int).toNat))]⟩)]) (ds := [6]) (N := [⟨o_13, 58, row encGWornPin t_2.fPins sp_15⟩]) hm' [0, 1] (by kernel_rfl) (by kernel_rfl) (by kernel_rfl)) (N := [⟨some b_1, 27, [(.int .i16 f0.fSteps), (.slice f0_fHammers_a f0.fHammers.length f0_fHammers_c)]⟩, ⟨(some b_2), 42, row encU32 d1.1 []⟩, ⟨some b_3, 32, [(.slice none 0 0), (.slice none 0 0)]⟩, ⟨(some b_7), 42, row encA96U32 [d1] []⟩, ⟨(some b_10), 2, row encI64 (List.replicate (f0.fHammers.length : Int).toNat 0) []⟩, ⟨some b_11, 32, [(.slice (o_13.map fun b => ⟨b, 0, none⟩) t_2.fPins.length cap_14), (.slice (some ⟨b_10, 0, none⟩) ((f0.fHammers.length : Int).toNat) ((f0.fHammers.length : Int).toNat))]⟩, ⟨o_13, 58, row encGWornPin t_2.fPins sp_15⟩]) [0, 1, 2, 3, 4, 5, 7] (by kernel_rfl) (by kernel_rfl), jkO ?_⟩
    clear hm hm'
    refine jo_end (by kernel_rfl) ?_
    refine jx_then ?_
    refine jc_seq ?_
    refine jc_region ?_
    refine jo_f [(5, 0)] (by kernel_rfl) ?_
    refine toO (by kernel_rfl) (p_s 0 [2] (by kernel_rfl) (by kernel_rfl) (jkO ?_))
    refine jo_f [(0, 0)] (by kernel_rfl) ?_
    refine jo_end (by kernel_rfl) ?_
    refine jx_then ?_
    refine jc_ret ?_
    obtain rfl := Option.some.inj h
    exact jx_ret [2] (.tuple #[(.agg #[(.slice (o_13.map fun b => ⟨b, 0, none⟩) t_2.fPins.length cap_14), (.slice (some ⟨b_10, 0, none⟩) ((f0.fHammers.length : Int).toNat) ((f0.fHammers.length : Int).toNat))]), (.int .i64 0)]) [(b_3, b_3), (b_3, b_3)] rfl (by kernel_rfl) (by kernel_rfl) (fun w hm => ⟨o_13, cap_14, sp_15, t_2.fPins.length, rfl, hs_16, ho_17, (some b_10), ((f0.fHammers.length : Int).toNat), [], ((f0.fHammers.length : Int).toNat), List.length_replicate, (fun _ => ⟨Nat.le_refl _, by simp⟩), (fun e => nomatch e), rfl, hm.pick [6, 4] (by kernel_rfl) (by kernel_rfl)⟩)

/-! ### impl.DrumOfWear -/
noncomputable def impl_DrumOfWear (f0 : GFrame) (w1 : GWear) : Option ((Arr 96 Int) × Int) := (impl_wearCode f0 w1 []).bind fun t_1 => (if (t_1 != 0) = true then some ((Arr.rep 96 0), t_1) else (impl_Wear_drum w1).bind fun t_2 => some (t_2, 0))
set_option maxRecDepth 100000 in
theorem impl_DrumOfWear.calls (f0 : GFrame) (w1 : GWear) (w : World) (r : (Arr 96 Int) × Int) (f0_fHammers_a : Option Addr) (f0_fHammers_an : Nat) (f0_fHammers_c : Nat) (f0_fHammers_h : Rw w f0_fHammers_a 2 encGHammer f0.fHammers) (f0_fHammers_hn : f0.fHammers.length = f0_fHammers_an) (w1_fPins_a : Option Addr) (w1_fPins_an : Nat) (w1_fPins_c : Nat) (w1_fPins_h : Rw w w1_fPins_a 3 encGWornPin w1.fPins) (w1_fPins_hn : w1.fPins.length = w1_fPins_an) (w1_fStrokes_a : Option Addr) (w1_fStrokes_an : Nat) (w1_fStrokes_c : Nat) (w1_fStrokes_h : Rw w w1_fStrokes_a 1 encI64 w1.fStrokes) (w1_fStrokes_hn : w1.fStrokes.length = w1_fStrokes_an) (h : impl_DrumOfWear f0 w1 = some r) :
    Calls Try.prog 13 #[(.agg #[(.int .i16 f0.fSteps), (.slice f0_fHammers_a f0_fHammers_an f0_fHammers_c)]), (.agg #[(.slice w1_fPins_a w1_fPins_an w1_fPins_c), (.slice w1_fStrokes_a w1_fStrokes_an w1_fStrokes_c)])] w fun e w' => ∃ v, e = .returned v ∧ (v = .tuple #[(.agg (row encU32 r.1.1 []).toArray), (.int .i64 r.2)] ∧ Mem w [] [] w') := by
  subst f0_fHammers_hn w1_fPins_hn w1_fStrokes_hn
  rw [impl_DrumOfWear] at h
  refine enter (args := [(.agg #[(.int .i16 f0.fSteps), (.slice f0_fHammers_a f0.fHammers.length f0_fHammers_c)]), (.agg #[(.slice w1_fPins_a w1.fPins.length w1_fPins_c), (.slice w1_fStrokes_a w1.fStrokes.length w1_fStrokes_c)])]) Try.func13 rfl Try.ntmps13 (by kernel_rfl) (L := []) (W := []) (Mem.start w) ?_
  refine jc_seq ?_
  refine jc_region ?_
  refine toO (by kernel_rfl) (p_a 0 [0] (by kernel_rfl) (fun b => by kernel_rfl) (fun b_1 => jkO ?_))
  refine toO (by kernel_rfl) (p_a 0 [0] (by kernel_rfl) (fun b => by kernel_rfl) (fun b_2 => jkO ?_))
  refine toO (by kernel_rfl) (p_a 0 [0] (by kernel_rfl) (fun b => by kernel_rfl) (fun b_3 => jkO ?_))
  refine jo_f [(0, 0)] (by kernel_rfl) ?_
  refine jo_end (by kernel_rfl) ?_
  refine jx_then ?_
  refine jc_seq ?_
  refine jc_seq ?_
  refine jc_region ?_
  refine jo_f [(0, 0), (1, 0)] (by kernel_rfl) ?_
  obtain ⟨t_1, ht_6, h⟩ := bd h
  refine toO (by kernel_rfl) (p_call 0 28 #[(.agg #[(.int .i16 f0.fSteps), (.slice f0_fHammers_a f0.fHammers.length f0_fHammers_c)]), (.agg #[(.slice w1_fPins_a w1.fPins.length w1_fPins_c), (.slice w1_fStrokes_a w1.fStrokes.length w1_fStrokes_c)]), (.slice none 0 0)] (by kernel_rfl) (by kernel_rfl) (fun w hm => impl_wearCode.calls f0 w1 [] w _ f0_fHammers_a f0.fHammers.length f0_fHammers_c (hm.exRow f0_fHammers_h List.not_mem_nil) rfl w1_fPins_a w1.fPins.length w1_fPins_c (hm.exRow w1_fPins_h List.not_mem_nil) rfl w1_fStrokes_a w1.fStrokes.length w1_fStrokes_c (hm.exRow w1_fStrokes_h List.not_mem_nil) rfl none 0 0 Rw.nil rfl ht_6) ?_)
  rintro w v w' hm ⟨rfl, hm'⟩
  refine ⟨_, hm.app hm', jkO ?_⟩
  clear hm hm'
  refine jo_f [(0, 0)] (by kernel_rfl) ?_
  refine jo_end (by kernel_rfl) ?_
  refine jx_then ?_
  refine jc_seq ?_
  refine jc_region ?_
  refine jo_f [(0, 0), (0, 0)] (by kernel_rfl) ?_
  refine jo_end (by kernel_rfl) ?_
  refine jx_then ?_
  refine jc_cond (t_1 != 0) (by kernel_rfl) (fun hc_7 => ?_) (fun hc_7 => ?_)
  · replace h := ifT hc_7 h
    refine jc_seq ?_
    refine jc_region ?_
    refine jo_f [(0, 0), (0, 0)] (by kernel_rfl) ?_
    refine toO (by kernel_rfl) (p_sA 0 2 b_3 96 1 42 encU32 (Arr.rep 96 0) (Arr.rep 96 0) (by kernel_rfl) (by kernel_rfl) (by kernel_rfl) encU32_len encU32_cell (by kernel_rfl) (jkO ?_))
    refine jo_f [(0, 0)] (by kernel_rfl) ?_
    refine jo_end (by kernel_rfl) ?_
    refine jx_then ?_
    refine jc_ret ?_
    refine jx_thenr ?_
    obtain rfl := Option.some.inj h
    exact jx_retV rfl (rq_arr (b := b_3) (T' := 42) (hh := 2) (mm := 1) encU32 (Arr.rep 96 0) (by kernel_rfl) (by kernel_rfl) encU32_len (by kernel_rfl) (rq_tmp (by kernel_rfl) rq_nil)) (fun w hm => ⟨rfl, hm.pick [] (by kernel_rfl) (by kernel_rfl)⟩)
  · replace h := ifF hc_7 h
    refine jc_skip ?_
    refine jx_then ?_
    refine jc_seq ?_
    refine jc_region ?_
    refine jo_f [(1, 0)] (by kernel_rfl) ?_
    obtain ⟨t_2, ht_8, h⟩ := bd h
    refine toO (by kernel_rfl) (p_call 0 33 #[(.agg #[(.slice w1_fPins_a w1.fPins.length w1_fPins_c), (.slice w1_fStrokes_a w1.fStrokes.length w1_fStrokes_c)])] (by kernel_rfl) (by kernel_rfl) (fun w hm => impl_Wear_drum.calls w1 w _ w1_fPins_a w1.fPins.length w1_fPins_c (hm.exRow w1_fPins_h List.not_mem_nil) rfl w1_fStrokes_a w1.fStrokes.length w1_fStrokes_c (hm.exRow w1_fStrokes_h List.not_mem_nil) rfl ht_8) ?_)
    rintro w v w' hm ⟨rfl, hm'⟩
    refine ⟨_, hm.app hm', jkO ?_⟩
    clear hm hm'
    refine toO (by kernel_rfl) (p_sA 0 2 b_3 96 1 42 encU32 (Arr.rep 96 0) t_2 (by kernel_rfl) (by kernel_rfl) (by kernel_rfl) encU32_len encU32_cell (by kernel_rfl) (jkO ?_))
    refine jo_f [(0, 0)] (by kernel_rfl) ?_
    refine jo_end (by kernel_rfl) ?_
    refine jx_then ?_
    refine jc_ret ?_
    obtain rfl := Option.some.inj h
    exact jx_retV rfl (rq_arr (b := b_3) (T' := 42) (hh := 2) (mm := 1) encU32 t_2 (by kernel_rfl) (by kernel_rfl) encU32_len (by kernel_rfl) (rq_tmp (by kernel_rfl) rq_nil)) (fun w hm => ⟨rfl, hm.pick [] (by kernel_rfl) (by kernel_rfl)⟩)
end Go.Proofs.Ytfkjghkjimcmdaa
