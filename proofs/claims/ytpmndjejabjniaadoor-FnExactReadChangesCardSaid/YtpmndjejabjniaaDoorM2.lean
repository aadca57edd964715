/- Functions of the program that the laws reach: a plain function each, and that the call comes to its answer if the plain function has one. Printed by a program. -/
import Derived.Test.YtpmndjejabjniaaDoorT
import Derived.Test.YtpmndjejabjniaaDoorM0
namespace Go.Proofs.YtpmndjejabjniaaDoor
open Eng
set_option linter.unusedVariables false

/-! ### spec.l01Split -/
noncomputable def spec_l01Split.k_3 (text0 : ByteArray) (xs_1 : List ByteArray) (i_2 : Int) : Option ((List ByteArray)) := (if 0 ≤ i_2 ∧ i_2 ≤ (text0.size : Int) ∧ (text0.size : Int) ≤ (text0.size : Int) then (if xs_1.length + [(text0.extract i_2.toNat (text0.size : Int).toNat)].length ≤ 4294967296 then some (xs_1 ++ [(text0.extract i_2.toNat (text0.size : Int).toNat)]) else none) else none)
noncomputable def spec_l01Split.l_7 (text0 : ByteArray) (by1 : Int) : ((List ByteArray) × Int × Int) → Option (((List ByteArray) × Int × Int) ⊕ (((List ByteArray) × Int)))
  | (xs_4, i_5, i_6) => (if (decide (i_6 < (text0.size : Int))) = true then (sIx text0 i_6).bind fun x_9 => (if (x_9 == by1) = true then (if 0 ≤ i_5 ∧ i_5 ≤ i_6 ∧ i_6 ≤ (text0.size : Int) then (if xs_4.length + [(text0.extract i_5.toNat i_6.toNat)].length ≤ 4294967296 then some (.inl ((xs_4 ++ [(text0.extract i_5.toNat i_6.toNat)]), (w64 (i_6 + 1)), (w64 (i_6 + 1)))) else none) else none) else some (.inl (xs_4, i_5, (w64 (i_6 + 1))))) else some (.inr (xs_4, i_5)))
noncomputable def spec_l01Split (text0 : ByteArray) (by1 : Int) : Option ((List ByteArray)) := (loop (spec_l01Split.l_7 text0 by1) (([] : List ByteArray), 0, 0)).bind fun t_8 => spec_l01Split.k_3 text0 t_8.1 t_8.2
set_option maxRecDepth 100000 in
theorem spec_l01Split.calls (text0 : ByteArray) (by1 : Int) (w : World) (r : (List ByteArray)) (h : spec_l01Split text0 by1 = some r) :
    Calls Tryd.prog 49 #[(.string text0), (.int .u8 by1)] w fun e w' => ∃ v, e = .returned v ∧ (∃ (o0 : Option Nat) (c0 : Nat) (s0 : List Value) (n0 : Nat), r.length = n0 ∧ (o0 ≠ none → n0 ≤ c0 ∧ s0.length = (c0 - n0) * 1) ∧ (o0 = none → r = [] ∧ c0 = 0) ∧ v = .slice (o0.map fun b => ⟨b, 0, none⟩) n0 c0 ∧ Mem w [] [⟨o0, 9, row encStr r s0⟩] w') := by
  rw [spec_l01Split] at h
  refine enter (args := [(.string text0), (.int .u8 by1)]) Tryd.func49 rfl Tryd.ntmps49 (by kernel_rfl) (L := []) (W := []) (Mem.start w) ?_
  refine jc_seq ?_
  refine jc_region ?_
  refine jo_f [(0, 0)] (by kernel_rfl) ?_
  refine jo_end (by kernel_rfl) ?_
  refine jx_then ?_
  refine jc_seq ?_
  refine jc_region ?_
  refine toO (by kernel_rfl) (p_a 0 [0] (by kernel_rfl) (fun b => by kernel_rfl) (fun b_1 => jkO ?_))
  refine jo_f [(0, 0)] (by kernel_rfl) ?_
  refine jo_end (by kernel_rfl) ?_
  refine jx_then ?_
  refine jc_seq ?_
  refine jc_region ?_
  refine jo_f [(0, 0)] (by kernel_rfl) ?_
  refine jo_end (by kernel_rfl) ?_
  refine jx_then ?_
  refine jc_seq ?_
  refine jc_seq ?_
  refine jc_region ?_
  refine jo_f [(0, 0)] (by kernel_rfl) ?_
  refine jo_end (by kernel_rfl) ?_
  refine jx_then ?_
  refine jc_meet (fun (j : (List ByteArray) × Int × (Option Nat) × Nat × (List Value) × Nat) => match j with | ⟨xs_1, i_2, o_164, cap_165, sp_166, n_167⟩ => spec_l01Split.k_3 text0 xs_1 i_2 = some r ∧ (xs_1.length = n_167) ∧ ((o_164 ≠ none → n_167 ≤ cap_165 ∧ sp_166.length = (cap_165 - n_167) * 1)) ∧ ((o_164 = none → xs_1 = [] ∧ cap_165 = 0))) (fun (j : (List ByteArray) × Int × (Option Nat) × Nat × (List Value) × Nat) => match j with | ⟨xs_1, i_2, o_164, cap_165, sp_166, n_167⟩ => [(0, [], (.string text0)), (4, [], (.slice none 0 0)), (5, [], (.slice (o_164.map fun b => ⟨b, 0, none⟩) n_167 cap_165)), (6, [], (.int .i64 i_2))]) (fun (j : (List ByteArray) × Int × (Option Nat) × Nat × (List Value) × Nat) => match j with | ⟨xs_1, i_2, o_164, cap_165, sp_166, n_167⟩ => [⟨o_164, 9, row encStr xs_1 sp_166⟩]) ?_ ?_
  · refine jc_block ?_
    obtain ⟨t_8, ht_229, hr_214⟩ := bd h
    refine jc_loop (fun (s : (List ByteArray) × Int × Int) (x : (Option Nat) × Nat × (List Value) × Nat) => match s, x with | ⟨xs_4, i_5, i_6⟩, ⟨o_208, cap_209, sp_210, n_211⟩ => (xs_4.length = n_211) ∧ ((o_208 ≠ none → n_211 ≤ cap_209 ∧ sp_210.length = (cap_209 - n_211) * 1)) ∧ ((o_208 = none → xs_4 = [] ∧ cap_209 = 0))) (fun (s : (List ByteArray) × Int × Int) (x : (Option Nat) × Nat × (List Value) × Nat) => match s, x with | ⟨xs_4, i_5, i_6⟩, ⟨o_208, cap_209, sp_210, n_211⟩ => [(0, [], (.string text0)), (1, [], (.int .u8 by1)), (4, [], (.slice none 0 0)), (5, [], (.slice (o_208.map fun b => ⟨b, 0, none⟩) n_211 cap_209)), (6, [], (.int .i64 i_5)), (7, [], (.int .i64 i_6))]) (fun (s : (List ByteArray) × Int × Int) (x : (Option Nat) × Nat × (List Value) × Nat) => match s, x with | ⟨xs_4, i_5, i_6⟩, ⟨o_208, cap_209, sp_210, n_211⟩ => [⟨o_208, 9, row encStr xs_4 sp_210⟩]) ht_229 ⟨(some b_1), 0, [], 0⟩ ⟨rfl, (fun _ => ⟨Nat.le_refl _, by simp⟩), (fun e => nomatch e)⟩ (by kernel_rfl) [0] (by kernel_rfl) (by kernel_rfl) ?_
    rintro ⟨xs_4, i_5, i_6⟩ ⟨o_208, cap_209, sp_210, n_211⟩ y_215 ⟨rfl, hs_212, ho_213⟩ h
    rw [spec_l01Split.l_7] at h
    refine jc_seq ?_
    refine jc_seq ?_
    refine jc_region ?_
    refine jo_f [(0, 0), (0, 0), (0, 0), (0, 0)] (by kernel_rfl) ?_
    refine jo_end (by kernel_rfl) ?_
    refine jx_then ?_
    refine jc_cond (decide (i_6 < (text0.size : Int))) (by kernel_rfl) (fun hc_217 => ?_) (fun hc_217 => ?_)
    · replace h := ifT hc_217 h
      refine jc_skip ?_
      refine jx_then ?_
      refine jc_seq ?_
      refine jc_block ?_
      refine jc_seq ?_
      refine jc_region ?_
      refine jo_f [(0, 0), (0, 0)] (by kernel_rfl) ?_
      obtain ⟨x_9, hx_218, h⟩ := bd h
      refine toO (by kernel_rfl) (p_v 0 (by kernel_rfl) _ (fun w hm => six_run (s := text0) (j := i_6) (by kernel_rfl) hx_218) (jkO ?_))
      refine jo_f [(0, 0), (0, 0)] (by kernel_rfl) ?_
      refine jo_end (by kernel_rfl) ?_
      refine jx_then ?_
      refine jc_cond (x_9 == by1) (by kernel_rfl) (fun hc_219 => ?_) (fun hc_219 => ?_)
      · replace h := ifT hc_219 h
        refine jc_seq ?_
        refine jc_region ?_
        refine jo_f [(0, 0), (0, 0), (0, 0), (0, 0)] (by kernel_rfl) ?_
        obtain ⟨hg_220, h⟩ := gd h
        refine toO (by kernel_rfl) (p_v 0 (by kernel_rfl) _ (fun w hm => ssl_run (s := text0) (lo := some i_5) (hi := some i_6) (l := i_5) (h := i_6) (by kernel_rfl) rfl rfl hg_220) (jkO ?_))
        refine toO (by kernel_rfl) (p_a 0 [0] (by kernel_rfl) (fun b => by kernel_rfl) (fun b_221 => jkO ?_))
        obtain ⟨hg_222, h⟩ := gd h
        refine toO (by kernel_rfl) (p_apn 0 0 o_208 9 xs_4.length 1 cap_209 1 16 (some ⟨b_221, 0, none⟩) encStr xs_4 [(text0.extract i_5.toNat i_6.toNat)] sp_210 (.string ByteArray.empty) rfl rfl (by kernel_rfl) (by kernel_rfl) (by kernel_rfl) encStr_len encStr_cell hs_212 ho_213 (fun w hm => (hm.ownRow (hh := 1) (o := (some b_221)) (T := 9) (enc := encStr) (xs := [(text0.extract i_5.toNat i_6.toNat)]) (sp := []) (by kernel_rfl) (fun e => nomatch e) encStr_len)) hg_222 (by kernel_rfl) (by kernel_rfl) (fun o_223 cap_224 sp_225 hs_226 ho_227 => jkO ?_))
        refine jo_f [(0, 0)] (by kernel_rfl) ?_
        refine jo_end (by kernel_rfl) ?_
        refine jx_then ?_
        refine jc_region ?_
        refine jo_f [(0, 0), (0, 0), (0, 0)] (by kernel_rfl) ?_
        refine jo_end (by kernel_rfl) ?_
        refine jx_inn ?_
        refine jx_then ?_
        refine jc_region ?_
        refine jo_f [(0, 0), (0, 0), (0, 0)] (by kernel_rfl) ?_
        refine jo_end (by kernel_rfl) ?_
        exact jx_back ((xs_4 ++ [(text0.extract i_5.toNat i_6.toNat)]), (w64 (i_6 + 1)), (w64 (i_6 + 1))) ⟨o_223, cap_224, sp_225, (xs_4 ++ [(text0.extract i_5.toNat i_6.toNat)]).length⟩ (Option.some.inj h).symm ⟨rfl, hs_226, ho_227⟩ [0] (by kernel_rfl) (by kernel_rfl) (by kernel_rfl)
      · replace h := ifF hc_219 h
        refine jc_skip ?_
        refine jx_inn ?_
        refine jx_then ?_
        refine jc_region ?_
        refine jo_f [(0, 0), (0, 0), (0, 0)] (by kernel_rfl) ?_
        refine jo_end (by kernel_rfl) ?_
        exact jx_back (xs_4, i_5, (w64 (i_6 + 1))) ⟨o_208, cap_209, sp_210, xs_4.length⟩ (Option.some.inj h).symm ⟨rfl, hs_212, ho_213⟩ [0] (by kernel_rfl) (by kernel_rfl) (by kernel_rfl)
    · replace h := ifF hc_217 h
      refine jc_exit ?_
      refine jx_thenx ?_
      refine jx_leave (xs_4, i_5) (Option.some.inj h).symm (fun e_228 => ?_)
      subst e_228
      refine jx_ine ?_
      exact jx_meet ⟨xs_4, i_5, o_208, cap_209, sp_210, xs_4.length⟩ ⟨hr_214, rfl, hs_212, ho_213⟩ (by kernel_rfl) [0] (by kernel_rfl) (by kernel_rfl)
  · rintro ⟨xs_1, i_2, o_164, cap_165, sp_166, n_167⟩ ⟨h, rfl, hs_168, ho_169⟩
    replace h : spec_l01Split.k_3 text0 xs_1 i_2 = some r := h
    rw [spec_l01Split.k_3] at h
    refine jx_then ?_
    refine jc_seq ?_
    refine jc_region ?_
    refine jo_f [(0, 0), (0, 0), (0, 0)] (by kernel_rfl) ?_
    obtain ⟨hg_170, h⟩ := gd h
    refine toO (by kernel_rfl) (p_v 0 (by kernel_rfl) _ (fun w hm => ssl_run (s := text0) (lo := some i_2) (hi := none) (l := i_2) (h := (text0.size : Int)) (by kernel_rfl) rfl rfl hg_170) (jkO ?_))
    refine toO (by kernel_rfl) (p_a 0 [0] (by kernel_rfl) (fun b => by kernel_rfl) (fun b_171 => jkO ?_))
    obtain ⟨hg_172, h⟩ := gd h
    refine toO (by kernel_rfl) (p_apn 0 0 o_164 9 xs_1.length 1 cap_165 1 16 (some ⟨b_171, 0, none⟩) encStr xs_1 [(text0.extract i_2.toNat (text0.size : Int).toNat)] sp_166 (.string ByteArray.empty) rfl rfl (by kernel_rfl) (by kernel_rfl) (by kernel_rfl) encStr_len encStr_cell hs_168 ho_169 (fun w hm => (hm.ownRow (hh := 1) (o := (some b_171)) (T := 9) (enc := encStr) (xs := [(text0.extract i_2.toNat (text0.size : Int).toNat)]) (sp := []) (by kernel_rfl) (fun e => nomatch e) encStr_len)) hg_172 (by kernel_rfl) (by kernel_rfl) (fun o_173 cap_174 sp_175 hs_176 ho_177 => jkO ?_))
    refine jo_f [(0, 0)] (by kernel_rfl) ?_
    refine jo_end (by kernel_rfl) ?_
    refine jx_then ?_
    refine jc_ret ?_
    obtain rfl := Option.some.inj h
    exact jx_ret [] (.slice (o_173.map fun b => ⟨b, 0, none⟩) ((xs_1 ++ [(text0.extract i_2.toNat (text0.size : Int).toNat)]).length) cap_174) [] rfl (by kernel_rfl) (by kernel_rfl) (fun w hm => ⟨o_173, cap_174, sp_175, ((xs_1 ++ [(text0.extract i_2.toNat (text0.size : Int).toNat)]).length), rfl, hs_176, ho_177, rfl, hm.pick [0] (by kernel_rfl) (by kernel_rfl)⟩)

/-! ### spec.l01Number -/
noncomputable def spec_l01Number.k_4 (i_3 : Int) : Option (Int × Bool) := some (i_3, true)
noncomputable def spec_l01Number.k_10 (s0 : ByteArray) (i_5 : Int) (i_6 : Int) (q_9 : Bool) : Option ((Int × Int) ⊕ ((Int × Bool) ⊕ Int)) := (if q_9 = true then some (.inr (.inl (0, false))) else (sIx s0 i_6).bind fun x_11 => some (.inl ((w64 ((w64 (10 * i_5)) + (w64 (u8 (x_11 - 48))))), (w64 (i_6 + 1)))))
noncomputable def spec_l01Number.l_7 (s0 : ByteArray) : (Int × Int) → Option ((Int × Int) ⊕ ((Int × Bool) ⊕ Int))
  | (i_5, i_6) => (if (decide (i_6 < (s0.size : Int))) = true then (sIx s0 i_6).bind fun x_12 => (if (decide (x_12 < 48)) = true then spec_l01Number.k_10 s0 i_5 i_6 true else (sIx s0 i_6).bind fun x_13 => spec_l01Number.k_10 s0 i_5 i_6 (decide (x_13 > 57))) else some (.inr (.inr i_5)))
noncomputable def spec_l01Number.k_2 (s0 : ByteArray) (q_1 : Bool) : Option (Int × Bool) := (if q_1 = true then some (0, false) else (loop (spec_l01Number.l_7 s0) (0, 0)).bind fun t_8 => match t_8 with | .inl p => some p | .inr p => spec_l01Number.k_4 p)
noncomputable def spec_l01Number (s0 : ByteArray) : Option (Int × Bool) := (if ((s0.toList == (ByteArray.mk #[]).toList) || (decide ((s0.size : Int) > 10))) = true then spec_l01Number.k_2 s0 true else (sIx s0 0).bind fun x_14 => spec_l01Number.k_2 s0 ((x_14 == 48) && (decide ((s0.size : Int) > 1))))
set_option maxRecDepth 100000 in
theorem spec_l01Number.calls (s0 : ByteArray) (w : World) (r : Int × Bool) (h : spec_l01Number s0 = some r) :
    Calls Tryd.prog 50 #[(.string s0)] w fun e w' => ∃ v, e = .returned v ∧ (v = .tuple #[(.int .i64 r.1), (.bool r.2)] ∧ Mem w [] [] w') := by
  rw [spec_l01Number] at h
  refine enter (args := [(.string s0)]) Tryd.func50 rfl Tryd.ntmps50 (by kernel_rfl) (L := []) (W := []) (Mem.start w) ?_
  refine jc_seq ?_
  refine jc_region ?_
  refine jo_f [(0, 0), (0, 0)] (by kernel_rfl) ?_
  refine jo_end (by kernel_rfl) ?_
  refine jx_then ?_
  refine jc_seq ?_
  refine jc_seq ?_
  refine jc_meet (fun (j : Bool) => match j with | q_1 => spec_l01Number.k_2 s0 q_1 = some r) (fun (j : Bool) => match j with | q_1 => [(0, [], (.string s0)), (2, [], (.int .i64 0)), (3, [], (.bool false)), (22, [], (.bool q_1))]) (fun (j : Bool) => match j with | q_1 => []) ?_ ?_
  · refine jc_region ?_
    refine jo_f [(0, 0), (0, 0), (0, 0), (0, 1), (0, 1), (0, 1), (0, 0), (0, 0), (0, 1)] (by kernel_rfl) ?_
    refine jo_split 13 ((s0.toList == (ByteArray.mk #[]).toList) || (decide ((s0.size : Int) > 10))) (by kernel_rfl) (fun hc_233 => ?_) (fun hc_233 => ?_)
    · replace h := ifT hc_233 h
      refine jo_f [(0, 3), (0, 3), (0, 3), (0, 3), (0, 3), (0, 3), (0, 3), (0, 4)] (by kernel_rfl) ?_
      refine jo_end (by kernel_rfl) ?_
      exact jx_meet true h (by kernel_rfl) [] (by kernel_rfl) (by kernel_rfl)
    · replace h := ifF hc_233 h
      obtain ⟨x_14, hx_234, h⟩ := bd h
      refine toO (by kernel_rfl) (p_v 2 (by kernel_rfl) _ (fun w hm => six_run (s := s0) (j := 0) (by kernel_rfl) hx_234) (jkO ?_))
      refine jo_f [(0, 2), (0, 2), (0, 1), (0, 1), (0, 1), (0, 2), (0, 5)] (by kernel_rfl) ?_
      refine jo_end (by kernel_rfl) ?_
      exact jx_meet ((x_14 == 48) && (decide ((s0.size : Int) > 1))) h (by kernel_rfl) [] (by kernel_rfl) (by kernel_rfl)
  · rintro q_1 h
    replace h : spec_l01Number.k_2 s0 q_1 = some r := h
    rw [spec_l01Number.k_2] at h
    refine jx_then ?_
    refine jc_cond q_1 (by kernel_rfl) (fun hc_8 => ?_) (fun hc_8 => ?_)
    · replace h := ifT hc_8 h
      refine jc_seq ?_
      refine jc_region ?_
      refine jo_f [(0, 0), (0, 0)] (by kernel_rfl) ?_
      refine jo_end (by kernel_rfl) ?_
      refine jx_then ?_
      refine jc_ret ?_
      refine jx_thenr ?_
      obtain rfl := Option.some.inj h
      exact jx_ret [] (.tuple #[(.int .i64 0), (.bool false)]) [] rfl (by kernel_rfl) (by kernel_rfl) (fun w hm => ⟨rfl, hm.pick [] (by kernel_rfl) (by kernel_rfl)⟩)
    · replace h := ifF hc_8 h
      refine jc_skip ?_
      refine jx_then ?_
      refine jc_seq ?_
      refine jc_region ?_
      refine jo_f [(0, 0)] (by kernel_rfl) ?_
      refine jo_end (by kernel_rfl) ?_
      refine jx_then ?_
      refine jc_seq ?_
      refine jc_seq ?_
      refine jc_region ?_
      refine jo_f [(0, 0)] (by kernel_rfl) ?_
      refine jo_end (by kernel_rfl) ?_
      refine jx_then ?_
      refine jc_meet (fun (j : Int) => match j with | i_3 => spec_l01Number.k_4 i_3 = some r) (fun (j : Int) => match j with | i_3 => [(2, [], (.int .i64 0)), (3, [], (.bool false)), (4, [], (.int .i64 i_3))]) (fun (j : Int) => match j with | i_3 => []) ?_ ?_
      · refine jc_block ?_
        obtain ⟨t_8, ht_232, hr_211⟩ := bd h
        refine jc_loop (fun (s : Int × Int) (x : Unit) => match s, x with | ⟨i_5, i_6⟩, _ => True) (fun (s : Int × Int) (x : Unit) => match s, x with | ⟨i_5, i_6⟩, _ => [(0, [], (.string s0)), (2, [], (.int .i64 0)), (3, [], (.bool false)), (4, [], (.int .i64 i_5)), (5, [], (.int .i64 i_6))]) (fun (s : Int × Int) (x : Unit) => match s, x with | ⟨i_5, i_6⟩, _ => []) ht_232 () trivial (by kernel_rfl) [] (by kernel_rfl) (by kernel_rfl) ?_
        rintro ⟨i_5, i_6⟩ _ y_212 _ h
        rw [spec_l01Number.l_7] at h
        refine jc_seq ?_
        refine jc_seq ?_
        refine jc_region ?_
        refine jo_f [(0, 0), (0, 0), (0, 0), (0, 0)] (by kernel_rfl) ?_
        refine jo_end (by kernel_rfl) ?_
        refine jx_then ?_
        refine jc_cond (decide (i_6 < (s0.size : Int))) (by kernel_rfl) (fun hc_214 => ?_) (fun hc_214 => ?_)
        · replace h := ifT hc_214 h
          refine jc_skip ?_
          refine jx_then ?_
          refine jc_seq ?_
          refine jc_block ?_
          refine jc_seq ?_
          refine jc_seq ?_
          refine jc_meet (fun (j : Bool) => match j with | q_9 => spec_l01Number.k_10 s0 i_5 i_6 q_9 = some y_212) (fun (j : Bool) => match j with | q_9 => [(0, [], (.string s0)), (2, [], (.int .i64 0)), (3, [], (.bool false)), (4, [], (.int .i64 i_5)), (5, [], (.int .i64 i_6)), (38, [], (.bool q_9))]) (fun (j : Bool) => match j with | q_9 => []) ?_ ?_
          · refine jc_region ?_
            refine jo_f [(0, 0), (0, 0)] (by kernel_rfl) ?_
            obtain ⟨x_12, hx_228, h⟩ := bd h
            refine toO (by kernel_rfl) (p_v 0 (by kernel_rfl) _ (fun w hm => six_run (s := s0) (j := i_6) (by kernel_rfl) hx_228) (jkO ?_))
            refine jo_f [(0, 0), (0, 0), (0, 1), (0, 1)] (by kernel_rfl) ?_
            refine jo_split 33 (decide (x_12 < 48)) (by kernel_rfl) (fun hc_229 => ?_) (fun hc_229 => ?_)
            · replace h := ifT hc_229 h
              refine jo_f [(0, 3), (0, 3), (0, 4)] (by kernel_rfl) ?_
              refine jo_end (by kernel_rfl) ?_
              exact jx_meet true h (by kernel_rfl) [] (by kernel_rfl) (by kernel_rfl)
            · replace h := ifF hc_229 h
              obtain ⟨x_13, hx_230, h⟩ := bd h
              refine toO (by kernel_rfl) (p_v 2 (by kernel_rfl) _ (fun w hm => six_run (s := s0) (j := i_6) (by kernel_rfl) hx_230) (jkO ?_))
              refine jo_f [(0, 2), (0, 5)] (by kernel_rfl) ?_
              refine jo_end (by kernel_rfl) ?_
              exact jx_meet (decide (x_13 > 57)) h (by kernel_rfl) [] (by kernel_rfl) (by kernel_rfl)
          · rintro q_9 h
            replace h : spec_l01Number.k_10 s0 i_5 i_6 q_9 = some y_212 := h
            rw [spec_l01Number.k_10] at h
            refine jx_then ?_
            refine jc_cond q_9 (by kernel_rfl) (fun hc_225 => ?_) (fun hc_225 => ?_)
            · replace h := ifT hc_225 h
              refine jc_seq ?_
              refine jc_region ?_
              refine jo_f [(0, 0), (0, 0)] (by kernel_rfl) ?_
              refine jo_end (by kernel_rfl) ?_
              refine jx_then ?_
              refine jc_ret ?_
              refine jx_thenr ?_
              refine jx_inr ?_
              refine jx_thenr ?_
              refine jx_leaver (.inl (0, false)) (Option.some.inj h).symm (fun e_226 => ?_)
              subst e_226
              refine jx_inr ?_
              refine jx_thenr ?_
              refine jx_thenr ?_
              obtain rfl := Option.some.inj hr_211
              exact jx_ret [] (.tuple #[(.int .i64 0), (.bool false)]) [] rfl (by kernel_rfl) (by kernel_rfl) (fun w hm => ⟨rfl, hm.pick [] (by kernel_rfl) (by kernel_rfl)⟩)
            · replace h := ifF hc_225 h
              refine jc_skip ?_
              refine jx_then ?_
              refine jc_region ?_
              refine jo_f [(0, 0), (0, 0), (0, 0), (0, 0)] (by kernel_rfl) ?_
              obtain ⟨x_11, hx_227, h⟩ := bd h
              refine toO (by kernel_rfl) (p_v 0 (by kernel_rfl) _ (fun w hm => six_run (s := s0) (j := i_6) (by kernel_rfl) hx_227) (jkO ?_))
              refine jo_f [(0, 0), (0, 0), (0, 0), (0, 0)] (by kernel_rfl) ?_
              refine jo_end (by kernel_rfl) ?_
              refine jx_inn ?_
              refine jx_then ?_
              refine jc_region ?_
              refine jo_f [(0, 0), (0, 0), (0, 0)] (by kernel_rfl) ?_
              refine jo_end (by kernel_rfl) ?_
              exact jx_back ((w64 ((w64 (10 * i_5)) + (w64 (u8 (x_11 - 48))))), (w64 (i_6 + 1))) () (Option.some.inj h).symm trivial [] (by kernel_rfl) (by kernel_rfl) (by kernel_rfl)
        · replace h := ifF hc_214 h
          refine jc_exit ?_
          refine jx_thenx ?_
          refine jx_leave (.inr i_5) (Option.some.inj h).symm (fun e_231 => ?_)
          subst e_231
          refine jx_ine ?_
          exact jx_meet i_5 hr_211 (by kernel_rfl) [] (by kernel_rfl) (by kernel_rfl)
      · rintro i_3 h
        replace h : spec_l01Number.k_4 i_3 = some r := h
        rw [spec_l01Number.k_4] at h
        refine jx_then ?_
        refine jc_seq ?_
        refine jc_region ?_
        refine jo_f [(0, 0), (0, 0), (0, 0)] (by kernel_rfl) ?_
        refine jo_end (by kernel_rfl) ?_
        refine jx_then ?_
        refine jc_ret ?_
        obtain rfl := Option.some.inj h
        exact jx_ret [] (.tuple #[(.int .i64 i_3), (.bool true)]) [] rfl (by kernel_rfl) (by kernel_rfl) (fun w hm => ⟨rfl, hm.pick [] (by kernel_rfl) (by kernel_rfl)⟩)

def lay_strings_Split_ren : Go.Shelf.Ren := ⟨fun | 146 => 52 | 221 => 79 | 268 => 90 | 138 => 91 | 143 => 92 | 195 => 104 | 197 => 105 | 218 => 106 | 219 => 94 | 260 => 121 | 217 => 97 | 225 => 107 | 224 => 108 | 267 => 109 | 266 => 115 | 314 => 122 | n => n, fun | 9 => 9 | 31 => 66 | 3 => 3 | 4 => 4 | 0 => 0 | 105 => 138 | 21 => 21 | 5 => 5 | 46 => 141 | 119 => 162 | 139 => 165 | 138 => 164 | 146 => 154 | 51 => 150 | n => n, fun | 1 => 0 | 3 => 4 | 4 => 5 | n => n⟩
theorem lay_strings_Split : Go.Proofs.Lays.n146 Tryd.prog lay_strings_Split_ren where
  mixed := by kernel_rfl
  f138 := Tryd.func91.trans (congrArg some (by kernel_rfl))
  f143 := Tryd.func92.trans (congrArg some (by kernel_rfl))
  f146 := Tryd.func52.trans (congrArg some (by kernel_rfl))
  f195 := Tryd.func104.trans (congrArg some (by kernel_rfl))
  f197 := Tryd.func105.trans (congrArg some (by kernel_rfl))
  f217 := Tryd.func97.trans (congrArg some (by kernel_rfl))
  f218 := Tryd.func106.trans (congrArg some (by kernel_rfl))
  f219 := Tryd.func94.trans (congrArg some (by kernel_rfl))
  f221 := Tryd.func79.trans (congrArg some (by kernel_rfl))
  f224 := Tryd.func108.trans (congrArg some (by kernel_rfl))
  f225 := Tryd.func107.trans (congrArg some (by kernel_rfl))
  f260 := Tryd.func121.trans (congrArg some (by kernel_rfl))
  f266 := Tryd.func115.trans (congrArg some (by kernel_rfl))
  f267 := Tryd.func109.trans (congrArg some (by kernel_rfl))
  f268 := Tryd.func90.trans (congrArg some (by kernel_rfl))
  f314 := Tryd.func122.trans (congrArg some (by kernel_rfl))
  t0 := Tryd.underlying0
  a0 := Tryd.isAgg0
  z0 := Tryd.sizeOf0
  v0 := Tryd.zeroValue0
  t3 := Tryd.underlying3
  a3 := Tryd.isAgg3
  z3 := Tryd.sizeOf3
  v3 := Tryd.zeroValue3
  t4 := Tryd.underlying4
  a4 := Tryd.isAgg4
  z4 := Tryd.sizeOf4
  v4 := Tryd.zeroValue4
  t5 := Tryd.underlying5
  a5 := Tryd.isAgg5
  z5 := Tryd.sizeOf5
  v5 := Tryd.zeroValue5
  t9 := Tryd.underlying9
  a9 := Tryd.isAgg9
  z9 := Tryd.sizeOf9
  v9 := Tryd.zeroValue9
  t21 := Tryd.underlying21
  a21 := Tryd.isAgg21
  z21 := Tryd.sizeOf21
  v21 := Tryd.zeroValue21
  t31 := Tryd.underlying66
  a31 := Tryd.isAgg66
  z31 := Tryd.sizeOf66
  v31 := Tryd.zeroValue66
  t46 := Tryd.underlying141
  a46 := Tryd.isAgg141
  z46 := Tryd.sizeOf141
  v46 := Tryd.zeroValue141
  t51 := Tryd.underlying150
  a51 := Tryd.isAgg150
  z51 := Tryd.sizeOf150
  v51 := Tryd.zeroValue150
  t105 := Tryd.underlying138
  a105 := Tryd.isAgg138
  z105 := Tryd.sizeOf138
  v105 := Tryd.zeroValue138
  t119 := Tryd.underlying162
  a119 := Tryd.isAgg162
  z119 := Tryd.sizeOf162
  t138 := Tryd.underlying164
  a138 := Tryd.isAgg164
  z138 := Tryd.sizeOf164
  v138 := Tryd.zeroValue164
  t139 := Tryd.underlying165
  a139 := Tryd.isAgg165
  z139 := Tryd.sizeOf165
  v139 := Tryd.zeroValue165
  t146 := Tryd.underlying154
  a146 := Tryd.isAgg154
  z146 := Tryd.sizeOf154
  v146 := Tryd.zeroValue154
  g1 := by kernel_rfl
  g3 := by kernel_rfl
  g4 := by kernel_rfl
/-! ### strings.Split -/
noncomputable def strings_Split (s0 : ByteArray) (sep1 : ByteArray) : Option ((List ByteArray)) := splitF s0 sep1
set_option maxRecDepth 100000 in
theorem strings_Split.calls (s0 : ByteArray) (sep1 : ByteArray) (w : World) (r : (List ByteArray)) (g_ml : Glml w) (h : strings_Split s0 sep1 = some r) :
    Calls Tryd.prog 52 #[(.string s0), (.string sep1)] w fun e w' => ∃ v, e = .returned v ∧ (∃ (o0 : Option Nat) (c0 : Nat) (s0 : List Value) (n0 : Nat), r.length = n0 ∧ (o0 ≠ none → n0 ≤ c0 ∧ s0.length = (c0 - n0) * 1) ∧ (o0 = none → r = [] ∧ c0 = 0) ∧ v = .slice (o0.map fun b => ⟨b, 0, none⟩) n0 c0 ∧ Mem w [] [⟨o0, 9, row encStr r s0⟩] w') := by
  rw [strings_Split] at h
  exact split_calls lay_strings_Split (by kernel_rfl) s0 sep1 w r g_ml.ml h

/-! ### internal/stringslite.HasPrefix -/
noncomputable def stringslite_HasPrefix (s0 : ByteArray) (prefix1 : ByteArray) : Option (Bool) := (if (decide ((s0.size : Int) ≥ (prefix1.size : Int))) = true then (if 0 ≤ (0 : Int) ∧ (0 : Int) ≤ (prefix1.size : Int) ∧ (prefix1.size : Int) ≤ (s0.size : Int) then some ((s0.extract (0 : Int).toNat (prefix1.size : Int).toNat).toList == prefix1.toList) else none) else some false)
set_option maxRecDepth 100000 in
theorem stringslite_HasPrefix.calls (s0 : ByteArray) (prefix1 : ByteArray) (w : World) (r : Bool) (h : stringslite_HasPrefix s0 prefix1 = some r) :
    Calls Tryd.prog 93 #[(.string s0), (.string prefix1)] w fun e w' => ∃ v, e = .returned v ∧ (v = (.bool r) ∧ Mem w [] [] w') := by
  rw [stringslite_HasPrefix] at h
  refine enter (args := [(.string s0), (.string prefix1)]) Tryd.func93 rfl Tryd.ntmps93 (by kernel_rfl) (L := []) (W := []) (Mem.start w) ?_
  refine jc_seq ?_
  refine jc_region ?_
  refine jo_f [(0, 0)] (by kernel_rfl) ?_
  refine jo_end (by kernel_rfl) ?_
  refine jx_then ?_
  refine jc_seq ?_
  refine jc_region ?_
  refine jo_f [(0, 0), (0, 0), (0, 0), (0, 0), (0, 0), (0, 0), (0, 1), (0, 1), (0, 1)] (by kernel_rfl) ?_
  refine jo_split 10 (decide ((s0.size : Int) ≥ (prefix1.size : Int))) (by kernel_rfl) (fun hc_1 => ?_) (fun hc_1 => ?_)
  · replace h := ifT hc_1 h
    obtain ⟨hg_2, h⟩ := gd h
    refine toO (by kernel_rfl) (p_v 2 (by kernel_rfl) _ (fun w hm => ssl_run (s := s0) (lo := none) (hi := some (prefix1.size : Int)) (l := (0 : Int)) (h := (prefix1.size : Int)) (by kernel_rfl) rfl rfl hg_2) (jkO ?_))
    refine jo_f [(0, 2), (0, 2), (0, 4), (0, 0)] (by kernel_rfl) ?_
    refine jo_end (by kernel_rfl) ?_
    refine jx_then ?_
    refine jc_ret ?_
    obtain rfl := Option.some.inj h
    exact jx_ret [] (.bool ((s0.extract (0 : Int).toNat (prefix1.size : Int).toNat).toList == prefix1.toList)) [] rfl (by kernel_rfl) (by kernel_rfl) (fun w hm => ⟨rfl, hm.pick [] (by kernel_rfl) (by kernel_rfl)⟩)
  · replace h := ifF hc_1 h
    refine jo_f [(0, 3), (0, 3), (0, 3), (0, 5), (0, 0)] (by kernel_rfl) ?_
    refine jo_end (by kernel_rfl) ?_
    refine jx_then ?_
    refine jc_ret ?_
    obtain rfl := Option.some.inj h
    exact jx_ret [] (.bool false) [] rfl (by kernel_rfl) (by kernel_rfl) (fun w hm => ⟨rfl, hm.pick [] (by kernel_rfl) (by kernel_rfl)⟩)

/-! ### internal/stringslite.CutPrefix -/
noncomputable def stringslite_CutPrefix (s0 : ByteArray) (prefix1 : ByteArray) : Option (ByteArray × Bool) := (stringslite_HasPrefix s0 prefix1).bind fun t_1 => (if (!t_1) = true then some (s0, false) else (if 0 ≤ (prefix1.size : Int) ∧ (prefix1.size : Int) ≤ (s0.size : Int) ∧ (s0.size : Int) ≤ (s0.size : Int) then some ((s0.extract (prefix1.size : Int).toNat (s0.size : Int).toNat), true) else none))
set_option maxRecDepth 100000 in
theorem stringslite_CutPrefix.calls (s0 : ByteArray) (prefix1 : ByteArray) (w : World) (r : ByteArray × Bool) (h : stringslite_CutPrefix s0 prefix1 = some r) :
    Calls Tryd.prog 80 #[(.string s0), (.string prefix1)] w fun e w' => ∃ v, e = .returned v ∧ (v = .tuple #[(.string r.1), (.bool r.2)] ∧ Mem w [] [] w') := by
  rw [stringslite_CutPrefix] at h
  refine enter (args := [(.string s0), (.string prefix1)]) Tryd.func80 rfl Tryd.ntmps80 (by kernel_rfl) (L := []) (W := []) (Mem.start w) ?_
  refine jc_seq ?_
  refine jc_region ?_
  refine jo_f [(0, 0), (0, 0)] (by kernel_rfl) ?_
  refine jo_end (by kernel_rfl) ?_
  refine jx_then ?_
  refine jc_seq ?_
  refine jc_seq ?_
  refine jc_region ?_
  refine jo_f [(0, 0), (0, 0)] (by kernel_rfl) ?_
  obtain ⟨t_1, ht_3, h⟩ := bd h
  refine toO (by kernel_rfl) (p_call 0 93 #[(.string s0), (.string prefix1)] (by kernel_rfl) (by kernel_rfl) (fun w hm => stringslite_HasPrefix.calls s0 prefix1 w _ ht_3) ?_)
  rintro w v w' hm ⟨rfl, hm'⟩
  refine ⟨_, hm.app hm', jkO ?_⟩
  clear hm hm'
  refine jo_f [(0, 0)] (by kernel_rfl) ?_
  refine jo_end (by kernel_rfl) ?_
  refine jx_then ?_
  refine jc_cond (!t_1) (by kernel_rfl) (fun hc_4 => ?_) (fun hc_4 => ?_)
  · replace h := ifT hc_4 h
    refine jc_seq ?_
    refine jc_region ?_
    refine jo_f [(0, 0), (0, 0), (0, 0)] (by kernel_rfl) ?_
    refine jo_end (by kernel_rfl) ?_
    refine jx_then ?_
    refine jc_ret ?_
    refine jx_thenr ?_
    obtain rfl := Option.some.inj h
    exact jx_ret [] (.tuple #[(.string s0), (.bool false)]) [] rfl (by kernel_rfl) (by kernel_rfl) (fun w hm => ⟨rfl, hm.pick [] (by kernel_rfl) (by kernel_rfl)⟩)
  · replace h := ifF hc_4 h
    refine jc_skip ?_
    refine jx_then ?_
    refine jc_seq ?_
    refine jc_region ?_
    refine jo_f [(0, 0), (0, 0), (0, 0)] (by kernel_rfl) ?_
    obtain ⟨hg_5, h⟩ := gd h
    refine toO (by kernel_rfl) (p_v 0 (by kernel_rfl) _ (fun w hm => ssl_run (s := s0) (lo := some (prefix1.size : Int)) (hi := none) (l := (prefix1.size : Int)) (h := (s0.size : Int)) (by kernel_rfl) rfl rfl hg_5) (jkO ?_))
    refine jo_f [(0, 0), (0, 0)] (by kernel_rfl) ?_
    refine jo_end (by kernel_rfl) ?_
    refine jx_then ?_
    refine jc_ret ?_
    obtain rfl := Option.some.inj h
    exact jx_ret [] (.tuple #[(.string (s0.extract (prefix1.size : Int).toNat (s0.size : Int).toNat)), (.bool true)]) [] rfl (by kernel_rfl) (by kernel_rfl) (fun w hm => ⟨rfl, hm.pick [] (by kernel_rfl) (by kernel_rfl)⟩)

/-! ### strings.CutPrefix -/
noncomputable def strings_CutPrefix (s0 : ByteArray) (prefix1 : ByteArray) : Option (ByteArray × Bool) := (stringslite_CutPrefix s0 prefix1).bind fun t_1 => some (t_1.1, t_1.2)
set_option maxRecDepth 100000 in
theorem strings_CutPrefix.calls (s0 : ByteArray) (prefix1 : ByteArray) (w : World) (r : ByteArray × Bool) (h : strings_CutPrefix s0 prefix1 = some r) :
    Calls Tryd.prog 53 #[(.string s0), (.string prefix1)] w fun e w' => ∃ v, e = .returned v ∧ (v = .tuple #[(.string r.1), (.bool r.2)] ∧ Mem w [] [] w') := by
  rw [strings_CutPrefix] at h
  refine enter (args := [(.string s0), (.string prefix1)]) Tryd.func53 rfl Tryd.ntmps53 (by kernel_rfl) (L := []) (W := []) (Mem.start w) ?_
  refine jc_seq ?_
  refine jc_region ?_
  refine jo_f [(0, 0), (0, 0)] (by kernel_rfl) ?_
  refine jo_end (by kernel_rfl) ?_
  refine jx_then ?_
  refine jc_seq ?_
  refine jc_region ?_
  refine jo_f [(0, 0), (0, 0)] (by kernel_rfl) ?_
  obtain ⟨t_1, ht_1, h⟩ := bd h
  refine toO (by kernel_rfl) (p_call 0 80 #[(.string s0), (.string prefix1)] (by kernel_rfl) (by kernel_rfl) (fun w hm => stringslite_CutPrefix.calls s0 prefix1 w _ ht_1) ?_)
  rintro w v w' hm ⟨rfl, hm'⟩
  refine ⟨_, hm.app hm', jkO ?_⟩
  clear hm hm'
  refine jo_f [(0, 0), (0, 0), (0, 0), (0, 0)] (by kernel_rfl) ?_
  refine jo_end (by kernel_rfl) ?_
  refine jx_then ?_
  refine jc_ret ?_
  obtain rfl := Option.some.inj h
  exact jx_ret [] (.tuple #[(.string t_1.1), (.bool t_1.2)]) [] rfl (by kernel_rfl) (by kernel_rfl) (fun w hm => ⟨rfl, hm.pick [] (by kernel_rfl) (by kernel_rfl)⟩)

def lay_strconv_ParseInt_ren : Go.Shelf.Ren := ⟨fun | 174 => 82 | 247 => 95 | 245 => 96 | 287 => 110 | 279 => 111 | 280 => 112 | 281 => 113 | 282 => 114 | 321 => 123 | 322 => 124 | 316 => 125 | 171 => 127 | 205 => 126 | 243 => 130 | 246 => 87 | 283 => 99 | 284 => 100 | 285 => 101 | 286 => 102 | 129 => 117 | 317 => 116 | 318 => 118 | 319 => 119 | 320 => 120 | 337 => 128 | 338 => 129 | n => n, fun | 9 => 9 | 3 => 3 | 2 => 2 | 75 => 63 | 85 => 119 | 4 => 4 | 167 => 142 | 5 => 5 | 53 => 131 | 175 => 143 | 46 => 141 | 168 => 145 | 37 => 59 | 0 => 0 | 210 => 159 | 21 => 21 | 127 => 112 | 145 => 168 | 143 => 166 | 171 => 130 | 173 => 134 | 212 => 149 | 51 => 150 | 20 => 20 | 213 => 151 | 232 => 169 | 233 => 170 | 80 => 73 | n => n, fun | 15 => 2 | 16 => 3 | 17 => 1 | 18 => 6 | 19 => 7 | n => n⟩
theorem lay_strconv_ParseInt : Go.Proofs.LaysC.n174 Tryd.prog lay_strconv_ParseInt_ren where
  mixed := by kernel_rfl
  f129 := Tryd.func117.trans (congrArg some (by kernel_rfl))
  f171 := Tryd.func127.trans (congrArg some (by kernel_rfl))
  f174 := Tryd.func82.trans (congrArg some (by kernel_rfl))
  f205 := Tryd.func126.trans (congrArg some (by kernel_rfl))
  f243 := Tryd.func130.trans (congrArg some (by kernel_rfl))
  f245 := Tryd.func96.trans (congrArg some (by kernel_rfl))
  f246 := Tryd.func87.trans (congrArg some (by kernel_rfl))
  f247 := Tryd.func95.trans (congrArg some (by kernel_rfl))
  f279 := Tryd.func111.trans (congrArg some (by kernel_rfl))
  f280 := Tryd.func112.trans (congrArg some (by kernel_rfl))
  f281 := Tryd.func113.trans (congrArg some (by kernel_rfl))
  f282 := Tryd.func114.trans (congrArg some (by kernel_rfl))
  f283 := Tryd.func99.trans (congrArg some (by kernel_rfl))
  f284 := Tryd.func100.trans (congrArg some (by kernel_rfl))
  f285 := Tryd.func101.trans (congrArg some (by kernel_rfl))
  f286 := Tryd.func102.trans (congrArg some (by kernel_rfl))
  f287 := Tryd.func110.trans (congrArg some (by kernel_rfl))
  f316 := Tryd.func125.trans (congrArg some (by kernel_rfl))
  f317 := Tryd.func116.trans (congrArg some (by kernel_rfl))
  f318 := Tryd.func118.trans (congrArg some (by kernel_rfl))
  f319 := Tryd.func119.trans (congrArg some (by kernel_rfl))
  f320 := Tryd.func120.trans (congrArg some (by kernel_rfl))
  f321 := Tryd.func123.trans (congrArg some (by kernel_rfl))
  f322 := Tryd.func124.trans (congrArg some (by kernel_rfl))
  f337 := Tryd.func128.trans (congrArg some (by kernel_rfl))
  f338 := Tryd.func129.trans (congrArg some (by kernel_rfl))
  t0 := Tryd.underlying0
  a0 := Tryd.isAgg0
  z0 := Tryd.sizeOf0
  v0 := Tryd.zeroValue0
  t2 := Tryd.underlying2
  a2 := Tryd.isAgg2
  z2 := Tryd.sizeOf2
  v2 := Tryd.zeroValue2
  t3 := Tryd.underlying3
  a3 := Tryd.isAgg3
  z3 := Tryd.sizeOf3
  v3 := Tryd.zeroValue3
  t4 := Tryd.underlying4
  a4 := Tryd.isAgg4
  z4 := Tryd.sizeOf4
  v4 := Tryd.zeroValue4
  t5 := Tryd.underlying5
  a5 := Tryd.isAgg5
  z5 := Tryd.sizeOf5
  v5 := Tryd.zeroValue5
  t9 := Tryd.underlying9
  a9 := Tryd.isAgg9
  z9 := Tryd.sizeOf9
  v9 := Tryd.zeroValue9
  t20 := Tryd.underlying20
  a20 := Tryd.isAgg20
  z20 := Tryd.sizeOf20
  v20 := Tryd.zeroValue20
  t21 := Tryd.underlying21
  a21 := Tryd.isAgg21
  z21 := Tryd.sizeOf21
  v21 := Tryd.zeroValue21
  t37 := Tryd.underlying59
  a37 := Tryd.isAgg59
  z37 := Tryd.sizeOf59
  v37 := Tryd.zeroValue59
  t46 := Tryd.underlying141
  a46 := Tryd.isAgg141
  z46 := Tryd.sizeOf141
  v46 := Tryd.zeroValue141
  t51 := Tryd.underlying150
  a51 := Tryd.isAgg150
  z51 := Tryd.sizeOf150
  v51 := Tryd.zeroValue150
  t53 := Tryd.underlying131
  a53 := Tryd.isAgg131
  z53 := Tryd.sizeOf131
  v53 := Tryd.zeroValue131
  t75 := Tryd.underlying63
  a75 := Tryd.isAgg63
  z75 := Tryd.sizeOf63
  v75 := Tryd.zeroValue63
  t85 := Tryd.underlying119
  a85 := Tryd.isAgg119
  z85 := Tryd.sizeOf119
  v85 := Tryd.zeroValue119
  t127 := Tryd.underlying112
  a127 := Tryd.isAgg112
  z127 := Tryd.sizeOf112
  v127 := Tryd.zeroValue112
  t143 := Tryd.underlying166
  a143 := Tryd.isAgg166
  z143 := Tryd.sizeOf166
  v143 := Tryd.zeroValue166
  t145 := Tryd.underlying168
  a145 := Tryd.isAgg168
  z145 := Tryd.sizeOf168
  v145 := Tryd.zeroValue168
  t167 := Tryd.underlying142
  a167 := Tryd.isAgg142
  z167 := Tryd.sizeOf142
  v167 := Tryd.zeroValue142
  t168 := Tryd.underlying145
  a168 := Tryd.isAgg145
  z168 := Tryd.sizeOf145
  v168 := Tryd.zeroValue145
  t171 := Tryd.underlying130
  a171 := Tryd.isAgg130
  z171 := Tryd.sizeOf130
  v171 := Tryd.zeroValue130
  t173 := Tryd.underlying134
  a173 := Tryd.isAgg134
  z173 := Tryd.sizeOf134
  v173 := Tryd.zeroValue134
  t175 := Tryd.underlying143
  a175 := Tryd.isAgg143
  z175 := Tryd.sizeOf143
  v175 := Tryd.zeroValue143
  t210 := Tryd.underlying159
  a210 := Tryd.isAgg159
  z210 := Tryd.sizeOf159
  v210 := Tryd.zeroValue159
  t212 := Tryd.underlying149
  a212 := Tryd.isAgg149
  z212 := Tryd.sizeOf149
  v212 := Tryd.zeroValue149
  t213 := Tryd.underlying151
  a213 := Tryd.isAgg151
  z213 := Tryd.sizeOf151
  t232 := Tryd.underlying169
  a232 := Tryd.isAgg169
  z232 := Tryd.sizeOf169
  v232 := Tryd.zeroValue169
  t233 := Tryd.underlying170
  a233 := Tryd.isAgg170
  z233 := Tryd.sizeOf170
  v233 := Tryd.zeroValue170
  g15 := by kernel_rfl
  g16 := by kernel_rfl
  g17 := by kernel_rfl
  g18 := by kernel_rfl
  g19 := by kernel_rfl
  t80 := Tryd.underlying73
  a80 := Tryd.isAgg73
  z80 := Tryd.sizeOf73
  v80 := Tryd.zeroValue73
  i0 := by kernel_rfl
  i2 := by kernel_rfl
  i3 := by kernel_rfl
  i4 := by kernel_rfl
  i5 := by kernel_rfl
  i9 := by kernel_rfl
  i20 := by kernel_rfl
  i21 := by kernel_rfl
  i37 := by kernel_rfl
  i46 := by kernel_rfl
  i51 := by kernel_rfl
  i53 := by kernel_rfl
  i75 := by kernel_rfl
  i80 := by kernel_rfl
  i85 := by kernel_rfl
  i127 := by kernel_rfl
  i143 := by kernel_rfl
  i145 := by kernel_rfl
  i167 := by kernel_rfl
  i168 := by kernel_rfl
  i171 := by kernel_rfl
  i173 := by kernel_rfl
  i175 := by kernel_rfl
  i210 := by kernel_rfl
  i212 := by kernel_rfl
  i232 := by kernel_rfl
  i233 := by kernel_rfl
  m15 := by kernel_rfl
  m16 := by kernel_rfl
  m17 := by kernel_rfl
  m18 := by kernel_rfl
  m19 := by kernel_rfl
  c0 := by kernel_rfl
  c2 := by kernel_rfl
  c3 := by kernel_rfl
  c4 := by kernel_rfl
  c5 := by kernel_rfl
  c9 := by kernel_rfl
  c20 := by kernel_rfl
  c21 := by kernel_rfl
  c37 := by kernel_rfl
  c46 := by kernel_rfl
  c51 := by kernel_rfl
  c53 := by kernel_rfl
  c75 := by kernel_rfl
  c80 := by kernel_rfl
  c85 := by kernel_rfl
  c127 := by kernel_rfl
  c143 := by kernel_rfl
  c145 := by kernel_rfl
  c167 := by kernel_rfl
  c168 := by kernel_rfl
  c171 := by kernel_rfl
  c173 := by kernel_rfl
  c175 := by kernel_rfl
  c210 := by kernel_rfl
  c212 := by kernel_rfl
  c213 := by kernel_rfl
  c232 := by kernel_rfl
  c233 := by kernel_rfl
/-! ### strconv.ParseInt -/
noncomputable def strconv_ParseInt (s0 : ByteArray) (base1 : Int) (bitSize2 : Int) : Option (Int × Bool) := parseF s0 base1 bitSize2
set_option maxRecDepth 100000 in
theorem strconv_ParseInt.calls (s0 : ByteArray) (base1 : Int) (bitSize2 : Int) (w : World) (r : Int × Bool) (g_er : Gler w) (h : strconv_ParseInt s0 base1 bitSize2 = some r) :
    Calls Tryd.prog 82 #[(.string s0), (.int .i64 base1), (.int .i64 bitSize2)] w fun e w' => ∃ v, e = .returned v ∧ (∃ (ev0 : Value), ErrIs r.2 ev0 ∧ v = .tuple #[(.int .i64 r.1), ev0] ∧ Mem w [] [] w') := by
  rw [strconv_ParseInt] at h
  exact parse_calls lay_strconv_ParseInt s0 base1 bitSize2 w r g_er.es g_er.er h

/-! ### impl.number -/
noncomputable def impl_number.k_3 (t_1 : Int × Bool) (q_2 : Bool) : Option (Int × Bool) := (if q_2 = true then some (0, false) else some (t_1.1, true))
noncomputable def impl_number (s0 : ByteArray) (most1 : Int) : Option (Int × Bool) := (strconv_ParseInt s0 10 64).bind fun t_1 => (if t_1.2 = true then impl_number.k_3 t_1 true else (impl_decimal t_1.1).bind fun t_4 => (if (!(t_4.toList == s0.toList)) = true then impl_number.k_3 t_1 true else (impl_within t_1.1 0 most1).bind fun t_5 => impl_number.k_3 t_1 (!t_5)))
set_option maxRecDepth 100000 in
theorem impl_number.calls (s0 : ByteArray) (most1 : Int) (w : World) (r : Int × Bool) (g_er : Gler w) (g_pw : Glpw w) (h : impl_number s0 most1 = some r) :
    Calls Tryd.prog 55 #[(.string s0), (.int .i64 most1)] w fun e w' => ∃ v, e = .returned v ∧ (v = .tuple #[(.int .i64 r.1), (.bool r.2)] ∧ Mem w [] [] w') := by
  rw [impl_number] at h
  refine enter (args := [(.string s0), (.int .i64 most1)]) Tryd.func55 rfl Tryd.ntmps55 (by kernel_rfl) (L := []) (W := []) (Mem.start w) ?_
  refine jc_seq ?_
  refine jc_region ?_
  refine jo_f [(0, 0), (0, 0)] (by kernel_rfl) ?_
  refine jo_end (by kernel_rfl) ?_
  refine jx_then ?_
  refine jc_seq ?_
  refine jc_region ?_
  refine jo_f [(0, 0)] (by kernel_rfl) ?_
  obtain ⟨t_1, ht_1, h⟩ := bd h
  refine toO (by kernel_rfl) (p_call 0 82 #[(.string s0), (.int .i64 10), (.int .i64 64)] (by kernel_rfl) (by kernel_rfl) (fun w hm => strconv_ParseInt.calls s0 10 64 w _ (g_er.keep hm) ht_1) ?_)
  rintro w v w' hm ⟨ev_2, hev_3, rfl, hm'⟩
  refine ⟨_, hm.app hm', jkO ?_⟩
  clear hm hm'
  refine jo_f [(0, 0), (0, 0), (0, 0), (0, 0), (0, 0)] (by kernel_rfl) ?_
  refine jo_end (by kernel_rfl) ?_
  refine jx_then ?_
  refine jc_seq ?_
  refine jc_seq ?_
  refine jc_meet (fun (j : Bool) => match j with | q_2 => impl_number.k_3 t_1 q_2 = some r) (fun (j : Bool) => match j with | q_2 => [(4, [], (.int .i64 0)), (5, [], (.bool false)), (6, [], (.int .i64 t_1.1)), (26, [], (.bool q_2))]) (fun (j : Bool) => match j with | q_2 => []) ?_ ?_
  · refine jc_region ?_
    refine jo_f [(0, 0)] (by kernel_rfl) ?_
    refine toO (by kernel_rfl) (p_v 0 (by kernel_rfl) _ (fun w hm => err_ne (ev := ev_2) (b := t_1.2) (by kernel_rfl) hev_3) (jkO ?_))
    refine jo_f [(0, 0), (0, 1)] (by kernel_rfl) ?_
    refine jo_split 15 t_1.2 (by kernel_rfl) (fun hc_18 => ?_) (fun hc_18 => ?_)
    · replace h := ifT hc_18 h
      refine jo_f [(0, 3), (0, 3), (0, 3), (0, 4), (0, 0), (0, 3), (0, 3), (0, 3), (0, 3), (0, 4)] (by kernel_rfl) ?_
      refine jo_end (by kernel_rfl) ?_
      exact jx_meet true h (by kernel_rfl) [] (by kernel_rfl) (by kernel_rfl)
    · replace h := ifF hc_18 h
      obtain ⟨t_4, ht_19, h⟩ := bd h
      refine toO (by kernel_rfl) (p_call 2 40 #[(.int .i64 t_1.1)] (by kernel_rfl) (by kernel_rfl) (fun w hm => impl_decimal.calls t_1.1 w _ (g_pw.keep hm) ht_19) ?_)
      rintro w v w' hm ⟨rfl, hm'⟩
      refine ⟨_, hm.app hm', jkO ?_⟩
      clear hm hm'
      refine jo_f [(0, 2), (0, 2), (0, 5), (0, 0), (0, 1), (0, 1)] (by kernel_rfl) ?_
      refine jo_split 21 (!(t_4.toList == s0.toList)) (by kernel_rfl) (fun hc_20 => ?_) (fun hc_20 => ?_)
      · replace h := ifT hc_20 h
        refine jo_f [(0, 3), (0, 3), (0, 4)] (by kernel_rfl) ?_
        refine jo_end (by kernel_rfl) ?_
        exact jx_meet true h (by kernel_rfl) [] (by kernel_rfl) (by kernel_rfl)
      · replace h := ifF hc_20 h
        obtain ⟨t_5, ht_21, h⟩ := bd h
        refine toO (by kernel_rfl) (p_call 2 67 #[(.int .i64 t_1.1), (.int .i64 0), (.int .i64 most1)] (by kernel_rfl) (by kernel_rfl) (fun w hm => impl_within.calls t_1.1 0 most1 w _ ht_21) ?_)
        rintro w v w' hm ⟨rfl, hm'⟩
        refine ⟨_, hm.app hm', jkO ?_⟩
        clear hm hm'
        refine jo_f [(0, 2), (0, 5)] (by kernel_rfl) ?_
        refine jo_end (by kernel_rfl) ?_
        exact jx_meet (!t_5) h (by kernel_rfl) [] (by kernel_rfl) (by kernel_rfl)
  · rintro q_2 h
    replace h : impl_number.k_3 t_1 q_2 = some r := h
    rw [impl_number.k_3] at h
    refine jx_then ?_
    refine jc_cond q_2 (by kernel_rfl) (fun hc_17 => ?_) (fun hc_17 => ?_)
    · replace h := ifT hc_17 h
      refine jc_seq ?_
      refine jc_region ?_
      refine jo_f [(0, 0), (0, 0)] (by kernel_rfl) ?_
      refine jo_end (by kernel_rfl) ?_
      refine jx_then ?_
      refine jc_ret ?_
      refine jx_thenr ?_
      obtain rfl := Option.some.inj h
      exact jx_ret [] (.tuple #[(.int .i64 0), (.bool false)]) [] rfl (by kernel_rfl) (by kernel_rfl) (fun w hm => ⟨rfl, hm.pick [] (by kernel_rfl) (by kernel_rfl)⟩)
    · replace h := ifF hc_17 h
      refine jc_skip ?_
      refine jx_then ?_
      refine jc_seq ?_
      refine jc_region ?_
      refine jo_f [(0, 0), (0, 0), (0, 0)] (by kernel_rfl) ?_
      refine jo_end (by kernel_rfl) ?_
      refine jx_then ?_
      refine jc_ret ?_
      obtain rfl := Option.some.inj h
      exact jx_ret [] (.tuple #[(.int .i64 t_1.1), (.bool true)]) [] rfl (by kernel_rfl) (by kernel_rfl) (fun w hm => ⟨rfl, hm.pick [] (by kernel_rfl) (by kernel_rfl)⟩)
end Go.Proofs.YtpmndjejabjniaaDoor
