/- Functions of the program that the laws reach: a plain function each, and that the call comes to its answer if the plain function has one. Printed by a program. -/
import Derived.Test.YtplklknkkaeniaaDoorT
import Derived.Test.YtplklknkkaeniaaDoorRange
import Derived.Test.YtplklknkkaeniaaDoorLines
import Derived.Test.YtplklknkkaeniaaDoorM0
import Derived.RangeFuncBox
import Derived.Shelf.Abstract
import Derived.WalkKit
import Derived.OwnWalkIn
import Derived.TacticsInMore
import Derived.LoopNIn
import Derived.LoopIn
namespace Go.Proofs.YtplklknkkaeniaaDoor
open Eng
set_option linter.unusedVariables false

set_option linter.unusedSectionVars false
variable [dsW : DrwS]

/-! ### spec.l01Split -/
noncomputable def spec_l01Split.k_3 (text0 : ByteArray) (xs_1 : List ByteArray) (i_2 : Int) : Option ((List ByteArray)) := (if 0 ≤ i_2 ∧ i_2 ≤ (text0.size : Int) ∧ (text0.size : Int) ≤ (text0.size : Int) then (if xs_1.length + ([(text0.extract i_2.toNat (text0.size : Int).toNat)] : List ByteArray).length ≤ 4294967296 then some (xs_1 ++ ([(text0.extract i_2.toNat (text0.size : Int).toNat)] : List ByteArray)) else none) else none)
noncomputable def spec_l01Split.l_7 (text0 : ByteArray) (by1 : Int) : ((List ByteArray) × Int × Int) → Option (((List ByteArray) × Int × Int) ⊕ (((List ByteArray) × Int)))
  | (xs_4, i_5, i_6) => (if (decide (i_6 < (text0.size : Int))) = true then (sIx text0 i_6).bind fun x_9 => (if (x_9 == by1) = true then (if 0 ≤ i_5 ∧ i_5 ≤ i_6 ∧ i_6 ≤ (text0.size : Int) then (if xs_4.length + ([(text0.extract i_5.toNat i_6.toNat)] : List ByteArray).length ≤ 4294967296 then some (.inl ((xs_4 ++ ([(text0.extract i_5.toNat i_6.toNat)] : List ByteArray)), (w64 (i_6 + 1)), (w64 (i_6 + 1)))) else none) else none) else some (.inl (xs_4, i_5, (w64 (i_6 + 1))))) else some (.inr (xs_4, i_5)))
noncomputable def spec_l01Split (text0 : ByteArray) (by1 : Int) : Option ((List ByteArray)) := (loop (spec_l01Split.l_7 text0 by1) (([] : List ByteArray), 0, 0)).bind fun t_8 => spec_l01Split.k_3 text0 t_8.1 t_8.2
set_option maxRecDepth 100000 in
theorem spec_l01Split.calls (text0 : ByteArray) (by1 : Int) (w : World) (r : (List ByteArray)) (h : spec_l01Split text0 by1 = some r) :
    Calls Tryd.prog 26 #[(.string text0), (.int .u8 by1)] w fun e w' => ∃ v, e = .returned v ∧ (∃ (o0 : Option Nat) (c0 : Nat) (s0 : List Value) (n0 : Nat), r.length = n0 ∧ (o0 ≠ none → n0 ≤ c0 ∧ s0.length = (c0 - n0) * 1) ∧ (o0 = none → r = [] ∧ c0 = 0) ∧ v = .slice (o0.map fun b => ⟨b, 0, none⟩) n0 c0 ∧ Mem w [] [⟨o0, 9, row encStr r s0⟩] w') := by
  rw [spec_l01Split] at h
  refine enter (args := [(.string text0), (.int .u8 by1)]) Tryd.func26 rfl Tryd.ntmps26 (by kernel_rfl) (L := []) (W := []) (Mem.start w) ?_
  refine jc_seq ?_
  refine jc_region ?_
  refine jo_f [(0, 0)] (by kernel_rfl) ?_
  refine jo_end (by kernel_rfl) ?_
  refine jx_then ?_
  refine jc_seq ?_
  refine jc_region ?_
  refine toO (by kernel_rfl) (p_a 0 [0] (by kernel_rfl) (fun b => by kernel_rfl) (fun b_1 => jkO ?_))
  refine jo_f [(0, 0)] (by kernel_rfl) ?_
  refine jo_end (by kernel_rfl) ?_
  refine jx_then ?_
  refine jc_seq ?_
  refine jc_region ?_
  refine jo_f [(0, 0)] (by kernel_rfl) ?_
  refine jo_end (by kernel_rfl) ?_
  refine jx_then ?_
  refine jc_seq ?_
  refine jc_seq ?_
  refine jc_region ?_
  refine jo_f [(0, 0)] (by kernel_rfl) ?_
  refine jo_end (by kernel_rfl) ?_
  refine jx_then ?_
  refine jc_meet (fun (j : (List ByteArray) × Int × (Option Nat) × Nat × (List Value) × Nat) => match j with | ⟨xs_1, i_2, o_164, cap_165, sp_166, n_167⟩ => spec_l01Split.k_3 text0 xs_1 i_2 = some r ∧ (xs_1.length = n_167) ∧ ((o_164 ≠ none → n_167 ≤ cap_165 ∧ sp_166.length = (cap_165 - n_167) * 1)) ∧ ((o_164 = none → xs_1 = [] ∧ cap_165 = 0))) (fun (j : (List ByteArray) × Int × (Option Nat) × Nat × (List Value) × Nat) => match j with | ⟨xs_1, i_2, o_164, cap_165, sp_166, n_167⟩ => [(0, [], (.string text0)), (4, [], (.slice none 0 0)), (5, [], (.slice (o_164.map fun b => ⟨b, 0, none⟩) n_167 cap_165)), (6, [], (.int .i64 i_2))]) (fun (j : (List ByteArray) × Int × (Option Nat) × Nat × (List Value) × Nat) => match j with | ⟨xs_1, i_2, o_164, cap_165, sp_166, n_167⟩ => [⟨o_164, 9, row encStr xs_1 sp_166⟩]) ?_ ?_
  · refine jc_block ?_
    obtain ⟨t_8, ht_229, hr_214⟩ := bd h
    refine jc_loop (fun (s : (List ByteArray) × Int × Int) (x : (Option Nat) × Nat × (List Value) × Nat) => match s, x with | ⟨xs_4, i_5, i_6⟩, ⟨o_208, cap_209, sp_210, n_211⟩ => (xs_4.length = n_211) ∧ ((o_208 ≠ none → n_211 ≤ cap_209 ∧ sp_210.length = (cap_209 - n_211) * 1)) ∧ ((o_208 = none → xs_4 = [] ∧ cap_209 = 0))) (fun (s : (List ByteArray) × Int × Int) (x : (Option Nat) × Nat × (List Value) × Nat) => match s, x with | ⟨xs_4, i_5, i_6⟩, ⟨o_208, cap_209, sp_210, n_211⟩ => [(0, [], (.string text0)), (1, [], (.int .u8 by1)), (4, [], (.slice none 0 0)), (5, [], (.slice (o_208.map fun b => ⟨b, 0, none⟩) n_211 cap_209)), (6, [], (.int .i64 i_5)), (7, [], (.int .i64 i_6))]) (fun (s : (List ByteArray) × Int × Int) (x : (Option Nat) × Nat × (List Value) × Nat) => match s, x with | ⟨xs_4, i_5, i_6⟩, ⟨o_208, cap_209, sp_210, n_211⟩ => [⟨o_208, 9, row encStr xs_4 sp_210⟩]) ht_229 ⟨(some b_1), 0, [], 0⟩ ⟨rfl, (fun _ => ⟨Nat.le_refl _, by simp⟩), (fun e => nomatch e)⟩ (by kernel_rfl) [0] (by kernel_rfl) (by kernel_rfl) ?_
    rintro ⟨xs_4, i_5, i_6⟩ ⟨o_208, cap_209, sp_210, n_211⟩ y_215 ⟨rfl, hs_212, ho_213⟩ h
    rw [spec_l01Split.l_7] at h
    refine jc_seq ?_
    refine jc_seq ?_
    refine jc_region ?_
    refine jo_f [(0, 0), (0, 0), (0, 0), (0, 0)] (by kernel_rfl) ?_
    refine jo_end (by kernel_rfl) ?_
    refine jx_then ?_
    refine jc_cond (decide (i_6 < (text0.size : Int))) (by kernel_rfl) (fun hc_217 => ?_) (fun hc_217 => ?_)
    · replace h := ifT hc_217 h
      refine jc_skip ?_
      refine jx_then ?_
      refine jc_seq ?_
      refine jc_block ?_
      refine jc_seq ?_
      refine jc_region ?_
      refine jo_f [(0, 0), (0, 0)] (by kernel_rfl) ?_
      obtain ⟨x_9, hx_218, h⟩ := bd h
      refine toO (by kernel_rfl) (p_v 0 (by kernel_rfl) _ (fun w hm => six_run (s := text0) (j := i_6) (by kernel_rfl) hx_218) (jkO ?_))
      refine jo_f [(0, 0), (0, 0)] (by kernel_rfl) ?_
      refine jo_end (by kernel_rfl) ?_
      refine jx_then ?_
      refine jc_cond (x_9 == by1) (by kernel_rfl) (fun hc_219 => ?_) (fun hc_219 => ?_)
      · replace h := ifT hc_219 h
        refine jc_seq ?_
        refine jc_region ?_
        refine jo_f [(0, 0), (0, 0), (0, 0), (0, 0)] (by kernel_rfl) ?_
        obtain ⟨hg_220, h⟩ := gd h
        refine toO (by kernel_rfl) (p_v 0 (by kernel_rfl) _ (fun w hm => ssl_run (s := text0) (lo := some i_5) (hi := some i_6) (l := i_5) (h := i_6) (by kernel_rfl) rfl rfl hg_220) (jkO ?_))
        refine toO (by kernel_rfl) (p_a 0 [0] (by kernel_rfl) (fun b => by kernel_rfl) (fun b_221 => jkO ?_))
        obtain ⟨hg_222, h⟩ := gd h
        refine toO (by kernel_rfl) (p_apn 0 0 o_208 9 xs_4.length 1 cap_209 1 16 (some ⟨b_221, 0, none⟩) encStr xs_4 ([(text0.extract i_5.toNat i_6.toNat)] : List ByteArray) sp_210 (.string ByteArray.empty) rfl rfl (by kernel_rfl) (by kernel_rfl) (by kernel_rfl) encStr_len encStr_cell hs_212 ho_213 (fun w hm => (hm.ownRow (hh := 1) (o := (some b_221)) (T := 9) (enc := encStr) (xs := ([(text0.extract i_5.toNat i_6.toNat)] : List ByteArray)) (sp := []) (by kernel_rfl) (fun e => nomatch e) encStr_len)) hg_222 (by kernel_rfl) (by kernel_rfl) (fun o_223 cap_224 sp_225 hs_226 ho_227 => jkO ?_))
        refine jo_f [(0, 0)] (by kernel_rfl) ?_
        refine jo_end (by kernel_rfl) ?_
        refine jx_then ?_
        refine jc_region ?_
        refine jo_f [(0, 0), (0, 0), (0, 0)] (by kernel_rfl) ?_
        refine jo_end (by kernel_rfl) ?_
        refine jx_inn ?_
        refine jx_then ?_
        refine jc_region ?_
        refine jo_f [(0, 0), (0, 0), (0, 0)] (by kernel_rfl) ?_
        refine jo_end (by kernel_rfl) ?_
        exact jx_back ((xs_4 ++ ([(text0.extract i_5.toNat i_6.toNat)] : List ByteArray)), (w64 (i_6 + 1)), (w64 (i_6 + 1))) ⟨o_223, cap_224, sp_225, (xs_4 ++ ([(text0.extract i_5.toNat i_6.toNat)] : List ByteArray)).length⟩ (Option.some.inj h).symm ⟨rfl, hs_226, ho_227⟩ [0] (by kernel_rfl) (by kernel_rfl) (by kernel_rfl)
      · replace h := ifF hc_219 h
        refine jc_skip ?_
        refine jx_inn ?_
        refine jx_then ?_
        refine jc_region ?_
        refine jo_f [(0, 0), (0, 0), (0, 0)] (by kernel_rfl) ?_
        refine jo_end (by kernel_rfl) ?_
        exact jx_back (xs_4, i_5, (w64 (i_6 + 1))) ⟨o_208, cap_209, sp_210, xs_4.length⟩ (Option.some.inj h).symm ⟨rfl, hs_212, ho_213⟩ [0] (by kernel_rfl) (by kernel_rfl) (by kernel_rfl)
    · replace h := ifF hc_217 h
      refine jc_exit ?_
      refine jx_thenx ?_
      refine jx_leave (xs_4, i_5) (Option.some.inj h).symm (fun e_228 => ?_)
      subst e_228
      refine jx_ine ?_
      exact jx_meet ⟨xs_4, i_5, o_208, cap_209, sp_210, xs_4.length⟩ ⟨hr_214, rfl, hs_212, ho_213⟩ (by kernel_rfl) [0] (by kernel_rfl) (by kernel_rfl)
  · rintro ⟨xs_1, i_2, o_164, cap_165, sp_166, n_167⟩ ⟨h, rfl, hs_168, ho_169⟩
    replace h : spec_l01Split.k_3 text0 xs_1 i_2 = some r := h
    rw [spec_l01Split.k_3] at h
    refine jx_then ?_
    refine jc_seq ?_
    refine jc_region ?_
    refine jo_f [(0, 0), (0, 0), (0, 0)] (by kernel_rfl) ?_
    obtain ⟨hg_170, h⟩ := gd h
    refine toO (by kernel_rfl) (p_v 0 (by kernel_rfl) _ (fun w hm => ssl_run (s := text0) (lo := some i_2) (hi := none) (l := i_2) (h := (text0.size : Int)) (by kernel_rfl) rfl rfl hg_170) (jkO ?_))
    refine toO (by kernel_rfl) (p_a 0 [0] (by kernel_rfl) (fun b => by kernel_rfl) (fun b_171 => jkO ?_))
    obtain ⟨hg_172, h⟩ := gd h
    refine toO (by kernel_rfl) (p_apn 0 0 o_164 9 xs_1.length 1 cap_165 1 16 (some ⟨b_171, 0, none⟩) encStr xs_1 ([(text0.extract i_2.toNat (text0.size : Int).toNat)] : List ByteArray) sp_166 (.string ByteArray.empty) rfl rfl (by kernel_rfl) (by kernel_rfl) (by kernel_rfl) encStr_len encStr_cell hs_168 ho_169 (fun w hm => (hm.ownRow (hh := 1) (o := (some b_171)) (T := 9) (enc := encStr) (xs := ([(text0.extract i_2.toNat (text0.size : Int).toNat)] : List ByteArray)) (sp := []) (by kernel_rfl) (fun e => nomatch e) encStr_len)) hg_172 (by kernel_rfl) (by kernel_rfl) (fun o_173 cap_174 sp_175 hs_176 ho_177 => jkO ?_))
    refine jo_f [(0, 0)] (by kernel_rfl) ?_
    refine jo_end (by kernel_rfl) ?_
    refine jx_then ?_
    refine jc_ret ?_
    obtain rfl := Option.some.inj h
    exact jx_ret [] (.slice (o_173.map fun b => ⟨b, 0, none⟩) ((xs_1 ++ ([(text0.extract i_2.toNat (text0.size : Int).toNat)] : List ByteArray)).length) cap_174) [] rfl (by kernel_rfl) (by kernel_rfl) (fun w hm => ⟨o_173, cap_174, sp_175, ((xs_1 ++ ([(text0.extract i_2.toNat (text0.size : Int).toNat)] : List ByteArray)).length), rfl, hs_176, ho_177, rfl, hm.pick [0] (by kernel_rfl) (by kernel_rfl)⟩)

/-! ### spec.l01Number -/
noncomputable def spec_l01Number.k_4 (i_3 : Int) : Option (Int × Bool) := some (i_3, true)
noncomputable def spec_l01Number.k_10 (s0 : ByteArray) (i_5 : Int) (i_6 : Int) (q_9 : Bool) : Option ((Int × Int) ⊕ ((Int × Bool) ⊕ Int)) := (if q_9 = true then some (.inr (.inl (0, false))) else (sIx s0 i_6).bind fun x_11 => some (.inl ((w64 ((w64 (10 * i_5)) + (w64 (u8 (x_11 - 48))))), (w64 (i_6 + 1)))))
noncomputable def spec_l01Number.l_7 (s0 : ByteArray) : (Int × Int) → Option ((Int × Int) ⊕ ((Int × Bool) ⊕ Int))
  | (i_5, i_6) => (if (decide (i_6 < (s0.size : Int))) = true then (sIx s0 i_6).bind fun x_12 => (if (decide (x_12 < 48)) = true then spec_l01Number.k_10 s0 i_5 i_6 true else (sIx s0 i_6).bind fun x_13 => spec_l01Number.k_10 s0 i_5 i_6 (decide (x_13 > 57))) else some (.inr (.inr i_5)))
noncomputable def spec_l01Number.k_2 (s0 : ByteArray) (q_1 : Bool) : Option (Int × Bool) := (if q_1 = true then some (0, false) else (loop (spec_l01Number.l_7 s0) (0, 0)).bind fun t_8 => match t_8 with | .inl p => some p | .inr p => spec_l01Number.k_4 p)
noncomputable def spec_l01Number (s0 : ByteArray) : Option (Int × Bool) := (if ((s0.toList == (ByteArray.mk #[]).toList) || (decide ((s0.size : Int) > 10))) = true then spec_l01Number.k_2 s0 true else (sIx s0 0).bind fun x_14 => spec_l01Number.k_2 s0 ((x_14 == 48) && (decide ((s0.size : Int) > 1))))
set_option maxRecDepth 100000 in
theorem spec_l01Number.calls (s0 : ByteArray) (w : World) (r : Int × Bool) (h : spec_l01Number s0 = some r) :
    Calls Tryd.prog 41 #[(.string s0)] w fun e w' => ∃ v, e = .returned v ∧ (v = .tuple #[(.int .i64 r.1), (.bool r.2)] ∧ Mem w [] [] w') := by
  rw [spec_l01Number] at h
  refine enter (args := [(.string s0)]) Tryd.func41 rfl Tryd.ntmps41 (by kernel_rfl) (L := []) (W := []) (Mem.start w) ?_
  refine jc_seq ?_
  refine jc_region ?_
  refine jo_f [(0, 0), (0, 0)] (by kernel_rfl) ?_
  refine jo_end (by kernel_rfl) ?_
  refine jx_then ?_
  refine jc_seq ?_
  refine jc_seq ?_
  refine jc_meet (fun (j : Bool) => match j with | q_1 => spec_l01Number.k_2 s0 q_1 = some r) (fun (j : Bool) => match j with | q_1 => [(0, [], (.string s0)), (2, [], (.int .i64 0)), (3, [], (.bool false)), (22, [], (.bool q_1))]) (fun (j : Bool) => match j with | q_1 => []) ?_ ?_
  · refine jc_region ?_
    refine jo_f [(0, 0), (0, 0), (0, 0), (0, 1), (0, 1), (0, 1), (0, 0), (0, 0), (0, 1)] (by kernel_rfl) ?_
    refine jo_split 13 ((s0.toList == (ByteArray.mk #[]).toList) || (decide ((s0.size : Int) > 10))) (by kernel_rfl) (fun hc_233 => ?_) (fun hc_233 => ?_)
    · replace h := ifT hc_233 h
      refine jo_f [(0, 3), (0, 3), (0, 3), (0, 3), (0, 3), (0, 3), (0, 3), (0, 4)] (by kernel_rfl) ?_
      refine jo_end (by kernel_rfl) ?_
      exact jx_meet true h (by kernel_rfl) [] (by kernel_rfl) (by kernel_rfl)
    · replace h := ifF hc_233 h
      obtain ⟨x_14, hx_234, h⟩ := bd h
      refine toO (by kernel_rfl) (p_v 2 (by kernel_rfl) _ (fun w hm => six_run (s := s0) (j := 0) (by kernel_rfl) hx_234) (jkO ?_))
      refine jo_f [(0, 2), (0, 2), (0, 1), (0, 1), (0, 1), (0, 2), (0, 5)] (by kernel_rfl) ?_
      refine jo_end (by kernel_rfl) ?_
      exact jx_meet ((x_14 == 48) && (decide ((s0.size : Int) > 1))) h (by kernel_rfl) [] (by kernel_rfl) (by kernel_rfl)
  · rintro q_1 h
    replace h : spec_l01Number.k_2 s0 q_1 = some r := h
    rw [spec_l01Number.k_2] at h
    refine jx_then ?_
    refine jc_cond q_1 (by kernel_rfl) (fun hc_8 => ?_) (fun hc_8 => ?_)
    · replace h := ifT hc_8 h
      refine jc_seq ?_
      refine jc_region ?_
      refine jo_f [(0, 0), (0, 0)] (by kernel_rfl) ?_
      refine jo_end (by kernel_rfl) ?_
      refine jx_then ?_
      refine jc_ret ?_
      refine jx_thenr ?_
      obtain rfl := Option.some.inj h
      exact jx_ret [] (.tuple #[(.int .i64 0), (.bool false)]) [] rfl (by kernel_rfl) (by kernel_rfl) (fun w hm => ⟨rfl, hm.pick [] (by kernel_rfl) (by kernel_rfl)⟩)
    · replace h := ifF hc_8 h
      refine jc_skip ?_
      refine jx_then ?_
      refine jc_seq ?_
      refine jc_region ?_
      refine jo_f [(0, 0)] (by kernel_rfl) ?_
      refine jo_end (by kernel_rfl) ?_
      refine jx_then ?_
      refine jc_seq ?_
      refine jc_seq ?_
      refine jc_region ?_
      refine jo_f [(0, 0)] (by kernel_rfl) ?_
      refine jo_end (by kernel_rfl) ?_
      refine jx_then ?_
      refine jc_meet (fun (j : Int) => match j with | i_3 => spec_l01Number.k_4 i_3 = some r) (fun (j : Int) => match j with | i_3 => [(2, [], (.int .i64 0)), (3, [], (.bool false)), (4, [], (.int .i64 i_3))]) (fun (j : Int) => match j with | i_3 => []) ?_ ?_
      · refine jc_block ?_
        obtain ⟨t_8, ht_232, hr_211⟩ := bd h
        refine jc_loop (fun (s : Int × Int) (x : Unit) => match s, x with | ⟨i_5, i_6⟩, _ => True) (fun (s : Int × Int) (x : Unit) => match s, x with | ⟨i_5, i_6⟩, _ => [(0, [], (.string s0)), (2, [], (.int .i64 0)), (3, [], (.bool false)), (4, [], (.int .i64 i_5)), (5, [], (.int .i64 i_6))]) (fun (s : Int × Int) (x : Unit) => match s, x with | ⟨i_5, i_6⟩, _ => []) ht_232 () trivial (by kernel_rfl) [] (by kernel_rfl) (by kernel_rfl) ?_
        rintro ⟨i_5, i_6⟩ _ y_212 _ h
        rw [spec_l01Number.l_7] at h
        refine jc_seq ?_
        refine jc_seq ?_
        refine jc_region ?_
        refine jo_f [(0, 0), (0, 0), (0, 0), (0, 0)] (by kernel_rfl) ?_
        refine jo_end (by kernel_rfl) ?_
        refine jx_then ?_
        refine jc_cond (decide (i_6 < (s0.size : Int))) (by kernel_rfl) (fun hc_214 => ?_) (fun hc_214 => ?_)
        · replace h := ifT hc_214 h
          refine jc_skip ?_
          refine jx_then ?_
          refine jc_seq ?_
          refine jc_block ?_
          refine jc_seq ?_
          refine jc_seq ?_
          refine jc_meet (fun (j : Bool) => match j with | q_9 => spec_l01Number.k_10 s0 i_5 i_6 q_9 = some y_212) (fun (j : Bool) => match j with | q_9 => [(0, [], (.string s0)), (2, [], (.int .i64 0)), (3, [], (.bool false)), (4, [], (.int .i64 i_5)), (5, [], (.int .i64 i_6)), (38, [], (.bool q_9))]) (fun (j : Bool) => match j with | q_9 => []) ?_ ?_
          · refine jc_region ?_
            refine jo_f [(0, 0), (0, 0)] (by kernel_rfl) ?_
            obtain ⟨x_12, hx_228, h⟩ := bd h
            refine toO (by kernel_rfl) (p_v 0 (by kernel_rfl) _ (fun w hm => six_run (s := s0) (j := i_6) (by kernel_rfl) hx_228) (jkO ?_))
            refine jo_f [(0, 0), (0, 0), (0, 1), (0, 1)] (by kernel_rfl) ?_
            refine jo_split 33 (decide (x_12 < 48)) (by kernel_rfl) (fun hc_229 => ?_) (fun hc_229 => ?_)
            · replace h := ifT hc_229 h
              refine jo_f [(0, 3), (0, 3), (0, 4)] (by kernel_rfl) ?_
              refine jo_end (by kernel_rfl) ?_
              exact jx_meet true h (by kernel_rfl) [] (by kernel_rfl) (by kernel_rfl)
            · replace h := ifF hc_229 h
              obtain ⟨x_13, hx_230, h⟩ := bd h
              refine toO (by kernel_rfl) (p_v 2 (by kernel_rfl) _ (fun w hm => six_run (s := s0) (j := i_6) (by kernel_rfl) hx_230) (jkO ?_))
              refine jo_f [(0, 2), (0, 5)] (by kernel_rfl) ?_
              refine jo_end (by kernel_rfl) ?_
              exact jx_meet (decide (x_13 > 57)) h (by kernel_rfl) [] (by kernel_rfl) (by kernel_rfl)
          · rintro q_9 h
            replace h : spec_l01Number.k_10 s0 i_5 i_6 q_9 = some y_212 := h
            rw [spec_l01Number.k_10] at h
            refine jx_then ?_
            refine jc_cond q_9 (by kernel_rfl) (fun hc_225 => ?_) (fun hc_225 => ?_)
            · replace h := ifT hc_225 h
              refine jc_seq ?_
              refine jc_region ?_
              refine jo_f [(0, 0), (0, 0)] (by kernel_rfl) ?_
              refine jo_end (by kernel_rfl) ?_
              refine jx_then ?_
              refine jc_ret ?_
              refine jx_thenr ?_
              refine jx_inr ?_
              refine jx_thenr ?_
              refine jx_leaver (.inl (0, false)) (Option.some.inj h).symm (fun e_226 => ?_)
              subst e_226
              refine jx_inr ?_
              refine jx_thenr ?_
              refine jx_thenr ?_
              obtain rfl := Option.some.inj hr_211
              exact jx_ret [] (.tuple #[(.int .i64 0), (.bool false)]) [] rfl (by kernel_rfl) (by kernel_rfl) (fun w hm => ⟨rfl, hm.pick [] (by kernel_rfl) (by kernel_rfl)⟩)
            · replace h := ifF hc_225 h
              refine jc_skip ?_
              refine jx_then ?_
              refine jc_region ?_
              refine jo_f [(0, 0), (0, 0), (0, 0), (0, 0)] (by kernel_rfl) ?_
              obtain ⟨x_11, hx_227, h⟩ := bd h
              refine toO (by kernel_rfl) (p_v 0 (by kernel_rfl) _ (fun w hm => six_run (s := s0) (j := i_6) (by kernel_rfl) hx_227) (jkO ?_))
              refine jo_f [(0, 0), (0, 0), (0, 0), (0, 0)] (by kernel_rfl) ?_
              refine jo_end (by kernel_rfl) ?_
              refine jx_inn ?_
              refine jx_then ?_
              refine jc_region ?_
              refine jo_f [(0, 0), (0, 0), (0, 0)] (by kernel_rfl) ?_
              refine jo_end (by kernel_rfl) ?_
              exact jx_back ((w64 ((w64 (10 * i_5)) + (w64 (u8 (x_11 - 48))))), (w64 (i_6 + 1))) () (Option.some.inj h).symm trivial [] (by kernel_rfl) (by kernel_rfl) (by kernel_rfl)
        · replace h := ifF hc_214 h
          refine jc_exit ?_
          refine jx_thenx ?_
          refine jx_leave (.inr i_5) (Option.some.inj h).symm (fun e_231 => ?_)
          subst e_231
          refine jx_ine ?_
          exact jx_meet i_5 hr_211 (by kernel_rfl) [] (by kernel_rfl) (by kernel_rfl)
      · rintro i_3 h
        replace h : spec_l01Number.k_4 i_3 = some r := h
        rw [spec_l01Number.k_4] at h
        refine jx_then ?_
        refine jc_seq ?_
        refine jc_region ?_
        refine jo_f [(0, 0), (0, 0), (0, 0)] (by kernel_rfl) ?_
        refine jo_end (by kernel_rfl) ?_
        refine jx_then ?_
        refine jc_ret ?_
        obtain rfl := Option.some.inj h
        exact jx_ret [] (.tuple #[(.int .i64 i_3), (.bool true)]) [] rfl (by kernel_rfl) (by kernel_rfl) (fun w hm => ⟨rfl, hm.pick [] (by kernel_rfl) (by kernel_rfl)⟩)

/-! ### spec.l06Read -/
noncomputable def spec_l06Read.k_2 : Option (GAct × Bool) := some ((⟨0, 0, 0, 0, 0⟩ : GAct), false)
noncomputable def spec_l06Read.k_9 (i_3 : Int) (a_8 : Arr 4 Int) : Option ((Int) ⊕ ((GAct × Bool) ⊕ Unit)) := (ix a_8.1 0).bind fun x_10 => (ix a_8.1 1).bind fun x_11 => (ix a_8.1 2).bind fun x_12 => (ix a_8.1 3).bind fun x_13 => some (.inr (.inl ((⟨(w8 i_3), x_10, x_11, x_12, x_13⟩ : GAct), true)))
noncomputable def spec_l06Read.k_21 (a_14 : Arr 4 Int) (i_15 : Int) (t_19 : Int × Bool) (q_20 : Bool) : Option (((Arr 4 Int) × Int) ⊕ ((GAct × Bool) ⊕ (Arr 4 Int))) := (if q_20 = true then some (.inr (.inl ((⟨0, 0, 0, 0, 0⟩ : GAct), false))) else (ix a_14.1 i_15).bind fun x_22 => some (.inl ((Arr.set a_14 i_15 t_19.1), (w64 (i_15 + 1)))))
noncomputable def spec_l06Read.l_16 (t_1 : (List ByteArray)) (t_6 : ByteArray × Int) : ((Arr 4 Int) × Int) → Option (((Arr 4 Int) × Int) ⊕ ((GAct × Bool) ⊕ (Arr 4 Int)))
  | (a_14, i_15) => (if (decide (i_15 < t_6.2)) = true then (ix t_1 (w64 (i_15 + 1))).bind fun x_18 => (spec_l01Number x_18).bind fun t_19 => (if (!t_19.2) = true then spec_l06Read.k_21 a_14 i_15 t_19 true else (spec_l06Turns t_19.1).bind fun t_23 => spec_l06Read.k_21 a_14 i_15 t_19 (!t_23)) else some (.inr (.inr a_14)))
noncomputable def spec_l06Read.l_4 (t_1 : (List ByteArray)) : Int → Option ((Int) ⊕ ((GAct × Bool) ⊕ Unit))
  | i_3 => (if (decide (i_3 ≤ 3)) = true then (spec_l06Words i_3).bind fun t_6 => (ix t_1 0).bind fun x_7 => (if ((!(x_7.toList == t_6.1.toList)) || ((t_1.length : Int) != (w64 (t_6.2 + 1)))) = true then some (.inl (w64 (i_3 + 1))) else (loop (spec_l06Read.l_16 t_1 t_6) ((Arr.rep 4 0), 0)).bind fun t_17 => match t_17 with | .inl p => some (.inr (.inl p)) | .inr p => spec_l06Read.k_9 i_3 p) else some (.inr (.inr ())))
noncomputable def spec_l06Read (line0 : ByteArray) : Option (GAct × Bool) := (spec_l01Split line0 32).bind fun t_1 => (loop (spec_l06Read.l_4 t_1) 0).bind fun t_5 => match t_5 with | .inl p => some p | .inr p => spec_l06Read.k_2
set_option maxRecDepth 100000 in
theorem spec_l06Read.calls (line0 : ByteArray) (w : World) (r : GAct × Bool) (h : spec_l06Read line0 = some r) :
    Calls Tryd.prog 27 #[(.string line0)] w fun e w' => ∃ v, e = .returned v ∧ (v = .tuple #[.agg #[(.int .i8 r.1.fKind), (.int .i64 r.1.fA), (.int .i64 r.1.fB), (.int .i64 r.1.fC), (.int .i64 r.1.fD)], (.bool r.2)] ∧ Mem w [] [] w') := by
  rw [spec_l06Read] at h
  refine enter (args := [(.string line0)]) Tryd.func27 rfl Tryd.ntmps27 (by kernel_rfl) (L := []) (W := []) (Mem.start w) ?_
  refine jc_seq ?_
  refine jc_region ?_
  refine toO (by kernel_rfl) (p_a 0 [0] (by kernel_rfl) (fun b => by kernel_rfl) (fun b_1 => jkO ?_))
  refine jo_f [(0, 0)] (by kernel_rfl) ?_
  refine jo_end (by kernel_rfl) ?_
  refine jx_then ?_
  refine jc_seq ?_
  refine jc_region ?_
  refine jo_f [(0, 0)] (by kernel_rfl) ?_
  obtain ⟨t_1, ht_2, h⟩ := bd h
  refine toO (by kernel_rfl) (p_call 0 26 #[(.string line0), (.int .u8 32)] (by kernel_rfl) (by kernel_rfl) (fun w hm => spec_l01Split.calls line0 32 w _ ht_2) ?_)
  rintro w v w' hm ⟨o_3, cap_4, sp_5, _, rfl, hs_6, ho_7, rfl, hm'⟩
  refine ⟨_, hm.app hm', jkO ?_⟩
  clear hm hm'
  refine jo_f [(0, 0)] (by kernel_rfl) ?_
  refine jo_end (by kernel_rfl) ?_
  refine jx_then ?_
  refine jc_seq ?_
  refine jc_seq ?_
  refine jc_region ?_
  refine jo_f [(0, 0)] (by kernel_rfl) ?_
  refine jo_end (by kernel_rfl) ?_
  refine jx_then ?_
  refine jc_meet (fun (_ : Unit) => spec_l06Read.k_2 = some r) (fun (_ : Unit) => [(2, [], (.pointer (some ⟨b_1, 0, none⟩))), (3, [], (.bool false))]) (fun (_ : Unit) => [⟨some b_1, 37, [(.int .i8 0), (.int .i64 0), (.int .i64 0), (.int .i64 0), (.int .i64 0)]⟩, ⟨o_3, 9, row encStr t_1 sp_5⟩]) ?_ ?_
  · refine jc_block ?_
    obtain ⟨t_5, ht_2575, hr_2358⟩ := bd h
    refine jc_loop (fun (s : Int) (x : Unit) => match s, x with | i_3, _ => True) (fun (s : Int) (x : Unit) => match s, x with | i_3, _ => [(2, [], (.pointer (some ⟨b_1, 0, none⟩))), (3, [], (.bool false)), (4, [], (.slice (o_3.map fun b => ⟨b, 0, none⟩) t_1.length cap_4)), (5, [], (.int .i64 i_3))]) (fun (s : Int) (x : Unit) => match s, x with | i_3, _ => [⟨some b_1, 37, [(.int .i8 0), (.int .i64 0), (.int .i64 0), (.int .i64 0), (.int .i64 0)]⟩, ⟨o_3, 9, row encStr t_1 sp_5⟩]) ht_2575 () trivial (by kernel_rfl) [0, 1] (by kernel_rfl) (by kernel_rfl) ?_
    rintro i_3 _ y_2359 _ h
    rw [spec_l06Read.l_4] at h
    refine jc_seq ?_
    refine jc_seq ?_
    refine jc_region ?_
    refine jo_f [(0, 0), (0, 0)] (by kernel_rfl) ?_
    refine jo_end (by kernel_rfl) ?_
    refine jx_then ?_
    refine jc_cond (decide (i_3 ≤ 3)) (by kernel_rfl) (fun hc_2361 => ?_) (fun hc_2361 => ?_)
    · replace h := ifT hc_2361 h
      refine jc_skip ?_
      refine jx_then ?_
      refine jc_seq ?_
      refine jc_block ?_
      refine jc_seq ?_
      refine jc_region ?_
      refine jo_f [(0, 0)] (by kernel_rfl) ?_
      obtain ⟨t_6, ht_2362, h⟩ := bd h
      refine toO (by kernel_rfl) (p_call 0 33 #[(.int .i64 i_3)] (by kernel_rfl) (by kernel_rfl) (fun w hm => spec_l06Words.calls i_3 w _ ht_2362) ?_)
      rintro w v w' hm ⟨rfl, hm'⟩
      refine ⟨_, hm.app hm', jkO ?_⟩
      clear hm hm'
      refine jo_f [(0, 0), (0, 0), (0, 0), (0, 0), (0, 0)] (by kernel_rfl) ?_
      refine jo_end (by kernel_rfl) ?_
      refine jx_then ?_
      refine jc_seq ?_
      refine jc_seq ?_
      refine jc_region ?_
      refine jo_f [(0, 0)] (by kernel_rfl) ?_
      obtain ⟨x_7, hx_2365, h⟩ := bd h
      refine toO (by kernel_rfl) (p_idx 0 (o_3.map fun b => ⟨b, 0, none⟩) t_1.length 0 1 (by kernel_rfl) (by kernel_rfl) (ix_some hx_2365).1 (ltn hx_2365 rfl) (spo ho_7 hx_2365) (jkO ?_))
      refine toO (by kernel_rfl) (p_ld 0 (aB (o_3.map fun b => ⟨b, 0, none⟩)) (aO (o_3.map fun b => ⟨b, 0, none⟩) + (0 : Int).toNat * 1) false (encStr x_7) (by kernel_rfl) (by kernel_rfl) (by kernel_rfl) (fun w hm => ((hm.ownRow (hh := 1) (o := o_3) (T := 9) (enc := encStr) (xs := t_1) (sp := sp_5) (by kernel_rfl) (fun e => (ho_7 e).1) encStr_len).at hx_2365)) (jkO ?_))
      refine jo_f [(0, 0), (0, 0), (0, 0), (0, 1), (0, 1), (0, 1), (0, 1), (0, 1), (0, 0)] (by kernel_rfl) ?_
      refine jo_end (by kernel_rfl) ?_
      refine jx_then ?_
      refine jc_cond ((!(x_7.toList == t_6.1.toList)) || ((t_1.length : Int) != (w64 (t_6.2 + 1)))) (by kernel_rfl) (fun hc_2366 => ?_) (fun hc_2366 => ?_)
      · replace h := ifT hc_2366 h
        refine jc_exit ?_
        refine jx_thenx ?_
        refine jx_ine ?_
        refine jx_then ?_
        refine jc_region ?_
        refine jo_f [(0, 0), (0, 0), (0, 0)] (by kernel_rfl) ?_
        refine jo_end (by kernel_rfl) ?_
        exact jx_back (w64 (i_3 + 1)) () (Option.some.inj h).symm trivial [0, 1] (by kernel_rfl) (by kernel_rfl) (by kernel_rfl)
      · replace h := ifF hc_2366 h
        refine jc_skip ?_
        refine jx_then ?_
        refine jc_seq ?_
        refine jc_region ?_
        refine jo_f [(0, 0)] (by kernel_rfl) ?_
        refine toO (by kernel_rfl) (p_a 0 [0] (by kernel_rfl) (fun b => by kernel_rfl) (fun b_2367 => jkO ?_))
        refine toO (by kernel_rfl) (p_sA 0 2 b_2367 4 1 69 encI64 (Arr.rep 4 0) (Arr.rep 4 0) (by kernel_rfl) (by kernel_rfl) (by kernel_rfl) encI64_len encI64_cell (by kernel_rfl) (jkO ?_))
        refine jo_end (by kernel_rfl) ?_
        refine jx_then ?_
        refine jc_seq ?_
        refine jc_seq ?_
        refine jc_region ?_
        refine jo_f [(0, 0)] (by kernel_rfl) ?_
        refine jo_end (by kernel_rfl) ?_
        refine jx_then ?_
        refine jc_meet (fun (j : (Arr 4 Int)) => match j with | a_8 => spec_l06Read.k_9 i_3 a_8 = some y_2359) (fun (j : (Arr 4 Int)) => match j with | a_8 => [(2, [], (.pointer (some ⟨b_1, 0, none⟩))), (3, [], (.bool false)), (4, [], (.slice (o_3.map fun b => ⟨b, 0, none⟩) t_1.length cap_4)), (5, [], (.int .i64 i_3)), (8, [], (.pointer (some ⟨b_2367, 0, none⟩)))]) (fun (j : (Arr 4 Int)) => match j with | a_8 => [⟨some b_1, 37, [(.int .i8 0), (.int .i64 0), (.int .i64 0), (.int .i64 0), (.int .i64 0)]⟩, ⟨o_3, 9, row encStr t_1 sp_5⟩, ⟨(some b_2367), 69, row encI64 a_8.1 []⟩]) ?_ ?_
        · refine jc_block ?_
          obtain ⟨t_17, ht_2573, hr_2553⟩ := bd h
          refine jc_loop (fun (s : (Arr 4 Int) × Int) (x : Unit) => match s, x with | ⟨a_14, i_15⟩, _ => True) (fun (s : (Arr 4 Int) × Int) (x : Unit) => match s, x with | ⟨a_14, i_15⟩, _ => [(2, [], (.pointer (some ⟨b_1, 0, none⟩))), (3, [], (.bool false)), (4, [], (.slice (o_3.map fun b => ⟨b, 0, none⟩) t_1.length cap_4)), (5, [], (.int .i64 i_3)), (7, [], (.int .i64 t_6.2)), (8, [], (.pointer (some ⟨b_2367, 0, none⟩))), (9, [], (.int .i64 i_15))]) (fun (s : (Arr 4 Int) × Int) (x : Unit) => match s, x with | ⟨a_14, i_15⟩, _ => [⟨some b_1, 37, [(.int .i8 0), (.int .i64 0), (.int .i64 0), (.int .i64 0), (.int .i64 0)]⟩, ⟨o_3, 9, row encStr t_1 sp_5⟩, ⟨(some b_2367), 69, row encI64 a_14.1 []⟩]) ht_2573 () trivial (by kernel_rfl) [0, 1, 2] (by kernel_rfl) (by kernel_rfl) ?_
          rintro ⟨a_14, i_15⟩ _ y_2554 _ h
          rw [spec_l06Read.l_16] at h
          refine jc_seq ?_
          refine jc_seq ?_
          refine jc_region ?_
          refine jo_f [(0, 0), (0, 0), (0, 0)] (by kernel_rfl) ?_
          refine jo_end (by kernel_rfl) ?_
          refine jx_then ?_
          refine jc_cond (decide (i_15 < t_6.2)) (by kernel_rfl) (fun hc_2556 => ?_) (fun hc_2556 => ?_)
          · replace h := ifT hc_2556 h
            refine jc_skip ?_
            refine jx_then ?_
            refine jc_seq ?_
            refine jc_block ?_
            refine jc_seq ?_
            refine jc_region ?_
            refine jo_f [(0, 0), (0, 0), (0, 0)] (by kernel_rfl) ?_
            obtain ⟨x_18, hx_2557, h⟩ := bd h
            refine toO (by kernel_rfl) (p_idx 0 (o_3.map fun b => ⟨b, 0, none⟩) t_1.length (w64 (i_15 + 1)) 1 (by kernel_rfl) (by kernel_rfl) (ix_some hx_2557).1 (ltn hx_2557 rfl) (spo ho_7 hx_2557) (jkO ?_))
            refine toO (by kernel_rfl) (p_ld 0 (aB (o_3.map fun b => ⟨b, 0, none⟩)) (aO (o_3.map fun b => ⟨b, 0, none⟩) + (w64 (i_15 + 1)).toNat * 1) false (encStr x_18) (by kernel_rfl) (by kernel_rfl) (by kernel_rfl) (fun w hm => ((hm.ownRow (hh := 1) (o := o_3) (T := 9) (enc := encStr) (xs := t_1) (sp := sp_5) (by kernel_rfl) (fun e => (ho_7 e).1) encStr_len).at hx_2557)) (jkO ?_))
            obtain ⟨t_19, ht_2558, h⟩ := bd h
            refine toO (by kernel_rfl) (p_call 0 41 #[(.string x_18)] (by kernel_rfl) (by kernel_rfl) (fun w hm => spec_l01Number.calls x_18 w _ ht_2558) ?_)
            rintro w v w' hm ⟨rfl, hm'⟩
            refine ⟨_, hm.app hm', jkO ?_⟩
            clear hm hm'
            refine jo_f [(0, 0), (0, 0), (0, 0), (0, 0), (0, 0)] (by kernel_rfl) ?_
            refine jo_end (by kernel_rfl) ?_
            refine jx_then ?_
            refine jc_seq ?_
            refine jc_seq ?_
            refine jc_meet (fun (j : Bool) => match j with | q_20 => spec_l06Read.k_21 a_14 i_15 t_19 q_20 = some y_2554) (fun (j : Bool) => match j with | q_20 => [(2, [], (.pointer (some ⟨b_1, 0, none⟩))), (3, [], (.bool false)), (4, [], (.slice (o_3.map fun b => ⟨b, 0, none⟩) t_1.length cap_4)), (5, [], (.int .i64 i_3)), (7, [], (.int .i64 t_6.2)), (8, [], (.pointer (some ⟨b_2367, 0, none⟩))), (9, [], (.int .i64 i_15)), (10, [], (.int .i64 t_19.1)), (56, [], (.bool q_20))]) (fun (j : Bool) => match j with | q_20 => [⟨some b_1, 37, [(.int .i8 0), (.int .i64 0), (.int .i64 0), (.int .i64 0), (.int .i64 0)]⟩, ⟨o_3, 9, row encStr t_1 sp_5⟩, ⟨(some b_2367), 69, row encI64 a_14.1 []⟩]) ?_ ?_
            · refine jc_region ?_
              refine jo_f [(0, 0), (0, 0), (0, 0), (0, 1)] (by kernel_rfl) ?_
              refine jo_split 52 (!t_19.2) (by kernel_rfl) (fun hc_2570 => ?_) (fun hc_2570 => ?_)
              · replace h := ifT hc_2570 h
                refine jo_f [(0, 3), (0, 3), (0, 4)] (by kernel_rfl) ?_
                refine jo_end (by kernel_rfl) ?_
                exact jx_meet true h (by kernel_rfl) [0, 1, 2] (by kernel_rfl) (by kernel_rfl)
              · replace h := ifF hc_2570 h
                obtain ⟨t_23, ht_2571, h⟩ := bd h
                refine toO (by kernel_rfl) (p_call 2 34 #[(.int .i64 t_19.1)] (by kernel_rfl) (by kernel_rfl) (fun w hm => spec_l06Turns.calls t_19.1 w _ ht_2571) ?_)
                rintro w v w' hm ⟨rfl, hm'⟩
                refine ⟨_, hm.app hm', jkO ?_⟩
                clear hm hm'
                refine jo_f [(0, 2), (0, 5)] (by kernel_rfl) ?_
                refine jo_end (by kernel_rfl) ?_
                exact jx_meet (!t_23) h (by kernel_rfl) [0, 1, 2] (by kernel_rfl) (by kernel_rfl)
            · rintro q_20 h
              replace h : spec_l06Read.k_21 a_14 i_15 t_19 q_20 = some y_2554 := h
              rw [spec_l06Read.k_21] at h
              refine jx_then ?_
              refine jc_cond q_20 (by kernel_rfl) (fun hc_2566 => ?_) (fun hc_2566 => ?_)
              · replace h := ifT hc_2566 h
                refine jc_seq ?_
                refine jc_region ?_
                refine jo_f [(0, 0)] (by kernel_rfl) ?_
                refine toO (by kernel_rfl) (p_s 0 [0] (by kernel_rfl) (by kernel_rfl) (jkO ?_))
                refine jo_f [(0, 0)] (by kernel_rfl) ?_
                refine jo_end (by kernel_rfl) ?_
                refine jx_then ?_
                refine jc_ret ?_
                refine jx_thenr ?_
                refine jx_inr ?_
                refine jx_thenr ?_
                refine jx_leaver (.inl ((⟨0, 0, 0, 0, 0⟩ : GAct), false)) (Option.some.inj h).symm (fun e_2568 => ?_)
                subst e_2568
                refine jx_inr ?_
                refine jx_thenr ?_
                refine jx_thenr ?_
                refine jx_inr ?_
                refine jx_thenr ?_
                refine jx_leaver (.inl ((⟨0, 0, 0, 0, 0⟩ : GAct), false)) (Option.some.inj hr_2553).symm (fun e_2567 => ?_)
                subst e_2567
                refine jx_inr ?_
                refine jx_thenr ?_
                refine jx_thenr ?_
                obtain rfl := Option.some.inj hr_2358
                exact jx_ret [0] (.tuple #[(.agg #[(.int .i8 0), (.int .i64 0), (.int .i64 0), (.int .i64 0), (.int .i64 0)]), (.bool false)]) [(b_1, b_1), (b_1, b_1), (b_1, b_1), (b_1, b_1), (b_1, b_1)] rfl (by kernel_rfl) (by kernel_rfl) (fun w hm => ⟨rfl, hm.pick [] (by kernel_rfl) (by kernel_rfl)⟩)
              · replace h := ifF hc_2566 h
                refine jc_skip ?_
                refine jx_then ?_
                refine jc_region ?_
                refine jo_f [(0, 0), (0, 0)] (by kernel_rfl) ?_
                obtain ⟨x_22, hx_2569, h⟩ := bd h
                refine toO (by kernel_rfl) (p_idx 0 (some ⟨b_2367, 0, none⟩) 4 i_15 1 (by kernel_rfl) (by kernel_rfl) (ix_some hx_2569).1 (ltn hx_2569 a_14.2) rfl (jkO ?_))
                refine toO (by kernel_rfl) (p_str 0 2 b_2367 69 encI64 a_14.1 [] i_15 t_19.1 1 0 [(.int .i64 t_19.1)] (by kernel_rfl) (by kernel_rfl) (by kernel_rfl) encI64_len hx_2569 (by kernel_rfl) (by kernel_rfl) (jkO ?_))
                refine jo_end (by kernel_rfl) ?_
                refine jx_inn ?_
                refine jx_then ?_
                refine jc_region ?_
                refine jo_f [(0, 0), (0, 0), (0, 0)] (by kernel_rfl) ?_
                refine jo_end (by kernel_rfl) ?_
                exact jx_back ((Arr.set a_14 i_15 t_19.1), (w64 (i_15 + 1))) () (Option.some.inj h).symm trivial [0, 1, 2] (by kernel_rfl) (by kernel_rfl) (by kernel_rfl)
          · replace h := ifF hc_2556 h
            refine jc_exit ?_
            refine jx_thenx ?_
            refine jx_leave (.inr a_14) (Option.some.inj h).symm (fun e_2572 => ?_)
            subst e_2572
            refine jx_ine ?_
            exact jx_meet a_14 hr_2553 (by kernel_rfl) [0, 1, 2] (by kernel_rfl) (by kernel_rfl)
        · rintro a_8 h
          replace h : spec_l06Read.k_9 i_3 a_8 = some y_2359 := h
          rw [spec_l06Read.k_9] at h
          refine jx_then ?_
          refine jc_seq ?_
          refine jc_region ?_
          refine jo_f [(0, 0), (0, 0)] (by kernel_rfl) ?_
          obtain ⟨x_10, hx_2518, h⟩ := bd h
          refine toO (by kernel_rfl) (p_idx 0 (some ⟨b_2367, 0, none⟩) 4 0 1 (by kernel_rfl) (by kernel_rfl) (ix_some hx_2518).1 (ltn hx_2518 a_8.2) rfl (jkO ?_))
          refine toO (by kernel_rfl) (p_ld 0 (aB (some ⟨b_2367, 0, none⟩)) (aO (some ⟨b_2367, 0, none⟩) + (0 : Int).toNat * 1) false (encI64 x_10) (by kernel_rfl) (by kernel_rfl) (by kernel_rfl) (fun w hm => ((hm.ownRow (hh := 2) (o := (some b_2367)) (T := 69) (enc := encI64) (xs := a_8.1) (sp := []) (by kernel_rfl) (fun e => nomatch e) encI64_len).at hx_2518)) (jkO ?_))
          obtain ⟨x_11, hx_2519, h⟩ := bd h
          refine toO (by kernel_rfl) (p_idx 0 (some ⟨b_2367, 0, none⟩) 4 1 1 (by kernel_rfl) (by kernel_rfl) (ix_some hx_2519).1 (ltn hx_2519 a_8.2) rfl (jkO ?_))
          refine toO (by kernel_rfl) (p_ld 0 (aB (some ⟨b_2367, 0, none⟩)) (aO (some ⟨b_2367, 0, none⟩) + (1 : Int).toNat * 1) false (encI64 x_11) (by kernel_rfl) (by kernel_rfl) (by kernel_rfl) (fun w hm => ((hm.ownRow (hh := 2) (o := (some b_2367)) (T := 69) (enc := encI64) (xs := a_8.1) (sp := []) (by kernel_rfl) (fun e => nomatch e) encI64_len).at hx_2519)) (jkO ?_))
          obtain ⟨x_12, hx_2520, h⟩ := bd h
          refine toO (by kernel_rfl) (p_idx 0 (some ⟨b_2367, 0, none⟩) 4 2 1 (by kernel_rfl) (by kernel_rfl) (ix_some hx_2520).1 (ltn hx_2520 a_8.2) rfl (jkO ?_))
          refine toO (by kernel_rfl) (p_ld 0 (aB (some ⟨b_2367, 0, none⟩)) (aO (some ⟨b_2367, 0, none⟩) + (2 : Int).toNat * 1) false (encI64 x_12) (by kernel_rfl) (by kernel_rfl) (by kernel_rfl) (fun w hm => ((hm.ownRow (hh := 2) (o := (some b_2367)) (T := 69) (enc := encI64) (xs := a_8.1) (sp := []) (by kernel_rfl) (fun e => nomatch e) encI64_len).at hx_2520)) (jkO ?_))
          obtain ⟨x_13, hx_2521, h⟩ := bd h
          refine toO (by kernel_rfl) (p_idx 0 (some ⟨b_2367, 0, none⟩) 4 3 1 (by kernel_rfl) (by kernel_rfl) (ix_some hx_2521).1 (ltn hx_2521 a_8.2) rfl (jkO ?_))
          refine toO (by kernel_rfl) (p_ld 0 (aB (some ⟨b_2367, 0, none⟩)) (aO (some ⟨b_2367, 0, none⟩) + (3 : Int).toNat * 1) false (encI64 x_13) (by kernel_rfl) (by kernel_rfl) (by kernel_rfl) (fun w hm => ((hm.ownRow (hh := 2) (o := (some b_2367)) (T := 69) (enc := encI64) (xs := a_8.1) (sp := []) (by kernel_rfl) (fun e => nomatch e) encI64_len).at hx_2521)) (jkO ?_))
          refine jo_f [(0, 0)] (by kernel_rfl) ?_
          refine toO (by kernel_rfl) (p_s 0 [0] (by kernel_rfl) (by kernel_rfl) (jkO ?_))
          refine jo_f [(0, 0)] (by kernel_rfl) ?_
          refine jo_end (by kernel_rfl) ?_
          refine jx_then ?_
          refine jc_ret ?_
          refine jx_inr ?_
          refine jx_thenr ?_
          refine jx_leaver (.inl ((⟨(w8 i_3), x_10, x_11, x_12, x_13⟩ : GAct), true)) (Option.some.inj h).symm (fun e_2522 => ?_)
          subst e_2522
          refine jx_inr ?_
          refine jx_thenr ?_
          refine jx_thenr ?_
          obtain rfl := Option.some.inj hr_2358
          exact jx_ret [0] (.tuple #[(.agg #[(.int .i8 (w8 i_3)), (.int .i64 x_10), (.int .i64 x_11), (.int .i64 x_12), (.int .i64 x_13)]), (.bool true)]) [(b_1, b_1), (b_1, b_1), (b_1, b_1), (b_1, b_1), (b_1, b_1)] rfl (by kernel_rfl) (by kernel_rfl) (fun w hm => ⟨rfl, hm.pick [] (by kernel_rfl) (by kernel_rfl)⟩)
    · replace h := ifF hc_2361 h
      refine jc_exit ?_
      refine jx_thenx ?_
      refine jx_leave (.inr ()) (Option.some.inj h).symm (fun e_2574 => ?_)
      subst e_2574
      refine jx_ine ?_
      exact jx_meet () hr_2358 (by kernel_rfl) [0, 1] (by kernel_rfl) (by kernel_rfl)
  · rintro _ h
    replace h : spec_l06Read.k_2 = some r := h
    rw [spec_l06Read.k_2] at h
    refine jx_then ?_
    refine jc_seq ?_
    refine jc_region ?_
    refine jo_f [(0, 0)] (by kernel_rfl) ?_
    refine toO (by kernel_rfl) (p_s 0 [0] (by kernel_rfl) (by kernel_rfl) (jkO ?_))
    refine jo_f [(0, 0)] (by kernel_rfl) ?_
    refine jo_end (by kernel_rfl) ?_
    refine jx_then ?_
    refine jc_ret ?_
    obtain rfl := Option.some.inj h
    exact jx_ret [0] (.tuple #[(.agg #[(.int .i8 0), (.int .i64 0), (.int .i64 0), (.int .i64 0), (.int .i64 0)]), (.bool false)]) [(b_1, b_1), (b_1, b_1), (b_1, b_1), (b_1, b_1), (b_1, b_1)] rfl (by kernel_rfl) (by kernel_rfl) (fun w hm => ⟨rfl, hm.pick [] (by kernel_rfl) (by kernel_rfl)⟩)

/-! ### spec.ReadActs -/
noncomputable def spec_ReadActs.k_4 (xs_3 : List GAct) : Option ((List GAct) × Int) := some (xs_3, 0)
noncomputable def spec_ReadActs.l_7 (t_1 : (List ByteArray)) : ((List GAct) × Int) → Option (((List GAct) × Int) ⊕ (((List GAct) × Int) ⊕ (List GAct)))
  | (xs_5, i_6) => (if (decide (i_6 < (w64 ((t_1.length : Int) - 1)))) = true then (ix t_1 i_6).bind fun x_9 => (spec_l06Read x_9).bind fun t_10 => (if (!t_10.2) = true then some (.inr (.inl (([] : List GAct), 5))) else (if xs_5.length + ([t_10.1] : List GAct).length ≤ 4294967296 then some (.inl ((xs_5 ++ ([t_10.1] : List GAct)), (w64 (i_6 + 1)))) else none)) else some (.inr (.inr xs_5)))
noncomputable def spec_ReadActs (text0 : ByteArray) : Option ((List GAct) × Int) := (spec_l01Split text0 10).bind fun t_1 => (ix t_1 (w64 ((t_1.length : Int) - 1))).bind fun x_2 => (if ((!(x_2.toList == (ByteArray.mk #[]).toList)) || (decide ((w64 ((t_1.length : Int) - 1)) > 60))) = true then some (([] : List GAct), 5) else (loop (spec_ReadActs.l_7 t_1) (([] : List GAct), 0)).bind fun t_8 => match t_8 with | .inl p => some p | .inr p => spec_ReadActs.k_4 p)
set_option maxRecDepth 100000 in
theorem spec_ReadActs.calls (text0 : ByteArray) (w : World) (r : (List GAct) × Int) (h : spec_ReadActs text0 = some r) :
    Calls Tryd.prog 10 #[(.string text0)] w fun e w' => ∃ v, e = .returned v ∧ (∃ (o0 : Option Nat) (c0 : Nat) (s0 : List Value) (n0 : Nat), r.1.length = n0 ∧ (o0 ≠ none → n0 ≤ c0 ∧ s0.length = (c0 - n0) * 5) ∧ (o0 = none → r.1 = [] ∧ c0 = 0) ∧ v = .tuple #[.slice (o0.map fun b => ⟨b, 0, none⟩) n0 c0, (.int .i64 r.2)] ∧ Mem w [] [⟨o0, 37, row encGAct r.1 s0⟩] w') := by
  rw [spec_ReadActs] at h
  refine enter (args := [(.string text0)]) Tryd.func10 rfl Tryd.ntmps10 (by kernel_rfl) (L := []) (W := []) (Mem.start w) ?_
  refine jc_seq ?_
  refine jc_region ?_
  refine jo_f [(0, 0), (0, 0)] (by kernel_rfl) ?_
  refine jo_end (by kernel_rfl) ?_
  refine jx_then ?_
  refine jc_seq ?_
  refine jc_region ?_
  refine jo_f [(0, 0)] (by kernel_rfl) ?_
  obtain ⟨t_1, ht_1, h⟩ := bd h
  refine toO (by kernel_rfl) (p_call 0 26 #[(.string text0), (.int .u8 10)] (by kernel_rfl) (by kernel_rfl) (fun w hm => spec_l01Split.calls text0 10 w _ ht_1) ?_)
  rintro w v w' hm ⟨o_2, cap_3, sp_4, _, rfl, hs_5, ho_6, rfl, hm'⟩
  refine ⟨_, hm.app hm', jkO ?_⟩
  clear hm hm'
  refine jo_f [(0, 0)] (by kernel_rfl) ?_
  refine jo_end (by kernel_rfl) ?_
  refine jx_then ?_
  refine jc_seq ?_
  refine jc_region ?_
  refine jo_f [(0, 0), (0, 0), (0, 0), (0, 0)] (by kernel_rfl) ?_
  refine jo_end (by kernel_rfl) ?_
  refine jx_then ?_
  refine jc_seq ?_
  refine jc_seq ?_
  refine jc_region ?_
  refine jo_f [(0, 0), (0, 0)] (by kernel_rfl) ?_
  obtain ⟨x_2, hx_12, h⟩ := bd h
  refine toO (by kernel_rfl) (p_idx 0 (o_2.map fun b => ⟨b, 0, none⟩) t_1.length (w64 ((t_1.length : Int) - 1)) 1 (by kernel_rfl) (by kernel_rfl) (ix_some hx_12).1 (ltn hx_12 rfl) (spo ho_6 hx_12) (jkO ?_))
  refine toO (by kernel_rfl) (p_ld 0 (aB (o_2.map fun b => ⟨b, 0, none⟩)) (aO (o_2.map fun b => ⟨b, 0, none⟩) + (w64 ((t_1.length : Int) - 1)).toNat * 1) false (encStr x_2) (by kernel_rfl) (by kernel_rfl) (by kernel_rfl) (fun w hm => ((hm.ownRow (hh := 0) (o := o_2) (T := 9) (enc := encStr) (xs := t_1) (sp := sp_4) (by kernel_rfl) (fun e => (ho_6 e).1) encStr_len).at hx_12)) (jkO ?_))
  refine jo_f [(0, 0), (0, 0), (0, 1), (0, 1), (0, 0)] (by kernel_rfl) ?_
  refine jo_end (by kernel_rfl) ?_
  refine jx_then ?_
  refine jc_cond ((!(x_2.toList == (ByteArray.mk #[]).toList)) || (decide ((w64 ((t_1.length : Int) - 1)) > 60))) (by kernel_rfl) (fun hc_13 => ?_) (fun hc_13 => ?_)
  · replace h := ifT hc_13 h
    refine jc_seq ?_
    refine jc_region ?_
    refine toO (by kernel_rfl) (p_a 0 [0] (by kernel_rfl) (fun b => by kernel_rfl) (fun b_14 => jkO ?_))
    refine jo_f [(0, 0), (0, 0)] (by kernel_rfl) ?_
    refine jo_end (by kernel_rfl) ?_
    refine jx_then ?_
    refine jc_ret ?_
    refine jx_thenr ?_
    obtain rfl := Option.some.inj h
    exact jx_ret [] (.tuple #[(.slice (some ⟨b_14, 0, none⟩) 0 0), (.int .i64 5)]) [] rfl (by kernel_rfl) (by kernel_rfl) (fun w hm => ⟨(some b_14), 0, [], 0, rfl, (fun _ => ⟨Nat.le_refl _, by simp⟩), (fun e => nomatch e), rfl, hm.pick [1] (by kernel_rfl) (by kernel_rfl)⟩)
  · replace h := ifF hc_13 h
    refine jc_skip ?_
    refine jx_then ?_
    refine jc_seq ?_
    refine jc_region ?_
    refine toO (by kernel_rfl) (p_a 0 [0] (by kernel_rfl) (fun b => by kernel_rfl) (fun b_15 => jkO ?_))
    refine jo_f [(0, 0)] (by kernel_rfl) ?_
    refine jo_end (by kernel_rfl) ?_
    refine jx_then ?_
    refine jc_seq ?_
    refine jc_seq ?_
    refine jc_region ?_
    refine jo_f [(0, 0)] (by kernel_rfl) ?_
    refine jo_end (by kernel_rfl) ?_
    refine jx_then ?_
    refine jc_meet (fun (j : (List GAct) × (Option Nat) × Nat × (List Value) × Nat) => match j with | ⟨xs_3, o_217, cap_218, sp_219, n_220⟩ => spec_ReadActs.k_4 xs_3 = some r ∧ (xs_3.length = n_220) ∧ ((o_217 ≠ none → n_220 ≤ cap_218 ∧ sp_219.length = (cap_218 - n_220) * 5)) ∧ ((o_217 = none → xs_3 = [] ∧ cap_218 = 0))) (fun (j : (List GAct) × (Option Nat) × Nat × (List Value) × Nat) => match j with | ⟨xs_3, o_217, cap_218, sp_219, n_220⟩ => [(2, [], (.slice none 0 0)), (3, [], (.int .i64 0)), (6, [], (.slice (o_217.map fun b => ⟨b, 0, none⟩) n_220 cap_218))]) (fun (j : (List GAct) × (Option Nat) × Nat × (List Value) × Nat) => match j with | ⟨xs_3, o_217, cap_218, sp_219, n_220⟩ => [⟨o_2, 9, row encStr t_1 sp_4⟩, ⟨o_217, 37, row encGAct xs_3 sp_219⟩]) ?_ ?_
    · refine jc_block ?_
      obtain ⟨t_8, ht_287, hr_267⟩ := bd h
      refine jc_loop (fun (s : (List GAct) × Int) (x : (Option Nat) × Nat × (List Value) × Nat) => match s, x with | ⟨xs_5, i_6⟩, ⟨o_261, cap_262, sp_263, n_264⟩ => (xs_5.length = n_264) ∧ ((o_261 ≠ none → n_264 ≤ cap_262 ∧ sp_263.length = (cap_262 - n_264) * 5)) ∧ ((o_261 = none → xs_5 = [] ∧ cap_262 = 0))) (fun (s : (List GAct) × Int) (x : (Option Nat) × Nat × (List Value) × Nat) => match s, x with | ⟨xs_5, i_6⟩, ⟨o_261, cap_262, sp_263, n_264⟩ => [(2, [], (.slice none 0 0)), (3, [], (.int .i64 0)), (4, [], (.slice (o_2.map fun b => ⟨b, 0, none⟩) t_1.length cap_3)), (5, [], (.int .i64 (w64 ((t_1.length : Int) - 1)))), (6, [], (.slice (o_261.map fun b => ⟨b, 0, none⟩) n_264 cap_262)), (7, [], (.int .i64 i_6))]) (fun (s : (List GAct) × Int) (x : (Option Nat) × Nat × (List Value) × Nat) => match s, x with | ⟨xs_5, i_6⟩, ⟨o_261, cap_262, sp_263, n_264⟩ => [⟨o_2, 9, row encStr t_1 sp_4⟩, ⟨o_261, 37, row encGAct xs_5 sp_263⟩]) ht_287 ⟨(some b_15), 0, [], 0⟩ ⟨rfl, (fun _ => ⟨Nat.le_refl _, by simp⟩), (fun e => nomatch e)⟩ (by kernel_rfl) [0, 1] (by kernel_rfl) (by kernel_rfl) ?_
      rintro ⟨xs_5, i_6⟩ ⟨o_261, cap_262, sp_263, n_264⟩ y_268 ⟨rfl, hs_265, ho_266⟩ h
      rw [spec_ReadActs.l_7] at h
      refine jc_seq ?_
      refine jc_seq ?_
      refine jc_region ?_
      refine jo_f [(0, 0), (0, 0), (0, 0)] (by kernel_rfl) ?_
      refine jo_end (by kernel_rfl) ?_
      refine jx_then ?_
      refine jc_cond (decide (i_6 < (w64 ((t_1.length : Int) - 1)))) (by kernel_rfl) (fun hc_270 => ?_) (fun hc_270 => ?_)
      · replace h := ifT hc_270 h
        refine jc_skip ?_
        refine jx_then ?_
        refine jc_seq ?_
        refine jc_block ?_
        refine jc_seq ?_
        refine jc_region ?_
        refine jo_f [(0, 0), (0, 0)] (by kernel_rfl) ?_
        obtain ⟨x_9, hx_271, h⟩ := bd h
        refine toO (by kernel_rfl) (p_idx 0 (o_2.map fun b => ⟨b, 0, none⟩) t_1.length i_6 1 (by kernel_rfl) (by kernel_rfl) (ix_some hx_271).1 (ltn hx_271 rfl) (spo ho_6 hx_271) (jkO ?_))
        refine toO (by kernel_rfl) (p_ld 0 (aB (o_2.map fun b => ⟨b, 0, none⟩)) (aO (o_2.map fun b => ⟨b, 0, none⟩) + i_6.toNat * 1) false (encStr x_9) (by kernel_rfl) (by kernel_rfl) (by kernel_rfl) (fun w hm => ((hm.ownRow (hh := 0) (o := o_2) (T := 9) (enc := encStr) (xs := t_1) (sp := sp_4) (by kernel_rfl) (fun e => (ho_6 e).1) encStr_len).at hx_271)) (jkO ?_))
        obtain ⟨t_10, ht_272, h⟩ := bd h
        refine toO (by kernel_rfl) (p_call 0 27 #[(.string x_9)] (by kernel_rfl) (by kernel_rfl) (fun w hm => spec_l06Read.calls x_9 w _ ht_272) ?_)
        rintro w v w' hm ⟨rfl, hm'⟩
        refine ⟨_, hm.app hm', jkO ?_⟩
        clear hm hm'
        refine jo_f [(0, 0), (0, 0), (0, 0)] (by kernel_rfl) ?_
        refine toO (by kernel_rfl) (p_a 0 [0] (by kernel_rfl) (fun b => by kernel_rfl) (fun b_273 => jkO ?_))
        refine toO (by kernel_rfl) (p_s 0 [2] (by kernel_rfl) (by kernel_rfl) (jkO ?_))
        refine jo_f [(0, 0)] (by kernel_rfl) ?_
        refine jo_end (by kernel_rfl) ?_
        refine jx_then ?_
        refine jc_seq ?_
        refine jc_seq ?_
        refine jc_region ?_
        refine jo_f [(0, 0), (0, 0)] (by kernel_rfl) ?_
        refine jo_end (by kernel_rfl) ?_
        refine jx_then ?_
        refine jc_cond (!t_10.2) (by kernel_rfl) (fun hc_276 => ?_) (fun hc_276 => ?_)
        · replace h := ifT hc_276 h
          refine jc_seq ?_
          refine jc_region ?_
          refine toO (by kernel_rfl) (p_a 0 [0] (by kernel_rfl) (fun b => by kernel_rfl) (fun b_277 => jkO ?_))
          refine jo_f [(0, 0), (0, 0)] (by kernel_rfl) ?_
          refine jo_end (by kernel_rfl) ?_
          refine jx_then ?_
          refine jc_ret ?_
          refine jx_thenr ?_
          refine jx_inr ?_
          refine jx_thenr ?_
          refine jx_leaver (.inl (([] : List GAct), 5)) (Option.some.inj h).symm (fun e_278 => ?_)
          subst e_278
          refine jx_inr ?_
          refine jx_thenr ?_
          refine jx_thenr ?_
          obtain rfl := Option.some.inj hr_267
          exact jx_ret [] (.tuple #[(.slice (some ⟨b_277, 0, none⟩) 0 0), (.int .i64 5)]) [] rfl (by kernel_rfl) (by kernel_rfl) (fun w hm => ⟨(some b_277), 0, [], 0, rfl, (fun _ => ⟨Nat.le_refl _, by simp⟩), (fun e => nomatch e), rfl, hm.pick [3] (by kernel_rfl) (by kernel_rfl)⟩)
        · replace h := ifF hc_276 h
          refine jc_skip ?_
          refine jx_then ?_
          refine jc_region ?_
          refine jo_f [(0, 0), (2, 0)] (by kernel_rfl) ?_
          refine toO (by kernel_rfl) (p_a 0 [0] (by kernel_rfl) (fun b => by kernel_rfl) (fun b_279 => jkO ?_))
          obtain ⟨hg_280, h⟩ := gd h
          refine toO (by kernel_rfl) (p_apn 0 1 o_261 37 xs_5.length 1 cap_262 5 40 (some ⟨b_279, 0, none⟩) encGAct xs_5 ([t_10.1] : List GAct) sp_263 (.agg #[(.int .i8 0), (.int .i64 0), (.int .i64 0), (.int .i64 0), (.int .i64 0)]) rfl rfl (by kernel_rfl) (by kernel_rfl) (by kernel_rfl) encGAct_len encGAct_cell hs_265 ho_266 (fun w hm => (hm.ownRow (hh := 3) (o := (some b_279)) (T := 37) (enc := encGAct) (xs := ([t_10.1] : List GAct)) (sp := []) (by kernel_rfl) (fun e => nomatch e) encGAct_len)) hg_280 (by kernel_rfl) (by kernel_rfl) (fun o_281 cap_282 sp_283 hs_284 ho_285 => jkO ?_))
          refine jo_f [(0, 0)] (by kernel_rfl) ?_
          refine jo_end (by kernel_rfl) ?_
          refine jx_inn ?_
          refine jx_then ?_
          refine jc_region ?_
          refine jo_f [(0, 0), (0, 0), (0, 0)] (by kernel_rfl) ?_
          refine jo_end (by kernel_rfl) ?_
          exact jx_back ((xs_5 ++ ([t_10.1] : List GAct)), (w64 (i_6 + 1))) ⟨o_281, cap_282, sp_283, (xs_5 ++ ([t_10.1] : List GAct)).length⟩ (Option.some.inj h).symm ⟨rfl, hs_284, ho_285⟩ [0, 1] (by kernel_rfl) (by kernel_rfl) (by kernel_rfl)
      · replace h := ifF hc_270 h
        refine jc_exit ?_
        refine jx_thenx ?_
        refine jx_leave (.inr xs_5) (Option.some.inj h).symm (fun e_286 => ?_)
        subst e_286
        refine jx_ine ?_
        exact jx_meet ⟨xs_5, o_261, cap_262, sp_263, xs_5.length⟩ ⟨hr_267, rfl, hs_265, ho_266⟩ (by kernel_rfl) [0, 1] (by kernel_rfl) (by kernel_rfl)
    · rintro ⟨xs_3, o_217, cap_218, sp_219, n_220⟩ ⟨h, rfl, hs_221, ho_222⟩
      replace h : spec_ReadActs.k_4 xs_3 = some r := h
      rw [spec_ReadActs.k_4] at h
      refine jx_then ?_
      refine jc_seq ?_
      refine jc_region ?_
      refine jo_f [(0, 0), (0, 0), (0, 0)] (by kernel_rfl) ?_
      refine jo_end (by kernel_rfl) ?_
      refine jx_then ?_
      refine jc_ret ?_
      obtain rfl := Option.some.inj h
      exact jx_ret [] (.tuple #[(.slice (o_217.map fun b => ⟨b, 0, none⟩) xs_3.length cap_218), (.int .i64 0)]) [] rfl (by kernel_rfl) (by kernel_rfl) (fun w hm => ⟨o_217, cap_218, sp_219, xs_3.length, rfl, hs_221, ho_222, rfl, hm.pick [1] (by kernel_rfl) (by kernel_rfl)⟩)

def lay_lines42_ren : Go.Shelf.Ren := ⟨fun | 137 => 43 | 217 => 50 | 266 => 61 | n => n, fun | 9 => 9 | 5 => 5 | 3 => 3 | n => n, fun | n => n⟩
theorem lay_lines42 : Go.Proofs.Lays.n137 Tryd.prog lay_lines42_ren where
  mixed := by kernel_rfl
  f137 := Tryd.func43.trans (congrArg some (by kernel_rfl))
  f217 := Tryd.func50.trans (congrArg some (by kernel_rfl))
  f266 := Tryd.func61.trans (congrArg some (by kernel_rfl))
  t3 := Tryd.underlying3
  a3 := Tryd.isAgg3
  z3 := Tryd.sizeOf3
  v3 := Tryd.zeroValue3
  t5 := Tryd.underlying5
  a5 := Tryd.isAgg5
  z5 := Tryd.sizeOf5
  v5 := Tryd.zeroValue5
  t9 := Tryd.underlying9
  a9 := Tryd.isAgg9
  z9 := Tryd.sizeOf9
  v9 := Tryd.zeroValue9
/-! ### strings.Lines -/
set_option maxRecDepth 100000 in
theorem lines42.iter (b0 : Nat) (s0 : ByteArray) (hs0 : s0.size ≤ 4294967296) : IterC Tryd.prog 42 #[.pointer (some ⟨b0, 0, none⟩)] ((linesL s0).map encL) (linesH b0 9 s0) (linesSt b0 9 s0) := by
  intro n l J J' Jx W hH hSt hY h0
  have hlen : ((linesL s0).map encL).length = (linesL s0).length := List.length_map ..
  rw [hlen] at hSt ⊢
  have hlin := lin_len s0.size s0 (Nat.le_refl _) (by omega)
  refine callsIn_wide.2 ((enterAt (n := 25) (L := [⟨some b0, 9, [.string (lnRest s0 0)]⟩]) (W := [b0]) (args := [.func (.yield l) #[] #[], .pointer (some ⟨b0, 0, none⟩)]) (R := fun _ w' => J (linesL s0).length w' ∨ Jx w') Tryd.func42 rfl Tryd.ntmps42 (by kernel_rfl) (lines_mem (hH 0 W h0)) (fun a0 hok0 => ?_)).mono ?_)
  rotate_left
  · rintro e w' ⟨v, rfl, h⟩; exact ⟨⟨v, rfl⟩, h⟩
  refine wp_block (wp_loop (fun a w => ∃ k, k ≤ (linesL s0).length ∧ J k w ∧ Ok 25 w [b0] [(0, [], .func (.yield l) #[] #[]), (1, [], .pointer (some ⟨b0, 0, none⟩))] [⟨some b0, 9, [.string (lnRest s0 k)]⟩] a w) (fun _ w => linesM b0 w) ⟨0, Nat.zero_le _, h0, lk_ok hok0 (by kernel_rfl) (fun _ h => h) hok0.mem.dis⟩ ?_)
  rintro a w ⟨k, hk, hJ, hok⟩
  obtain ⟨hl1, hl2, hl3⟩ := hlin k
  have hsz := hl3 hk
  have hmw := lines_M (hH k w hJ)
  have hs1 : lnRest s0 (k + 1) = lnTl (lnRest s0 k) := rfl
  refine wp_seq (wp_seq (wp_region_f [(0, 0), (0, 0), (0, 0)] hok (by kernel_rfl) (by kernel_rfl) (fun a1 hok1 => ?_)))
  refine wp_cond_at (decide (((lnRest s0 k).size : Int) > 0)) hok1 (by kernel_rfl) (fun e => wp_skip ?_) (fun e => wp_exit ?_)
  · have hpos := of_decide_eq_true e
    have hlt : k < (linesL s0).length := by
      rcases Nat.lt_or_ge k (linesL s0).length with h' | h'
      · exact h'
      · have := hl2 (Nat.le_antisymm hk h'); omega
    have hget := (hl1 hlt).2
    have hstep : ∀ w', Mem w [b0] [⟨some b0, 9, [.string (lnTl (lnRest s0 k))]⟩] w' → YieldAt Fence.wide (n - 1) Tryd.prog l #[.string (lnHd (lnRest s0 k))] w' fun e w'' => (e = .returned (.bool true) ∧ J (k + 1) w'') ∨ (e = .returned (.bool false) ∧ Jx w'') := by
      intro w' hm
      have h1 := hY k w' (by rw [hlen]; exact hlt) (hSt k w w' hlt hJ (by rw [linesSt, hs1]; exact hm))
      have hg : ((linesL s0).map encL)[k]'(by rw [hlen]; exact hlt) = #[.string (lnHd (lnRest s0 k))] := by
        rw [List.getElem_map]
        have : (linesL s0)[k] = lnHd (lnRest s0 k) := by
          have := List.getElem?_eq_getElem hlt
          unfold linesL at hget this ⊢
          rw [hget] at this
          exact (Option.some.inj this).symm
        rw [this]; rfl
      rw [hg] at h1
      exact h1
    have hnext : ∀ w', J (k + 1) w' → Mem w' [b0] [⟨some b0, 9, [.string (lnTl (lnRest s0 k))]⟩] w' := fun w' h => by have := lines_mem (hH (k + 1) w' h); rwa [hs1] at this
    have hmeas : ∀ w', J (k + 1) w' → linesM b0 w' < linesM b0 w := fun w' h => by
      rw [hmw, lines_M (hH (k + 1) w' h), hs1]
      exact lnTl_lt _ (by omega) hpos
    clear hl1 hl2 hl3 hget hH hSt hY
    generalize lnRest s0 k = s at *
    have hix := lnIdx_lt s
    refine jc_at ?_ hok1
    refine jc_block ?_
    refine jc_seq ?_
    refine jc_region ?_
    refine jo_f [(0, 0)] (by kernel_rfl) ?_
    refine jo_end (by kernel_rfl) ?_
    refine jx_then ?_
    refine jc_seq ?_
    refine jc_seq ?_
    refine jc_region ?_
    refine jo_f [(0, 0)] (by kernel_rfl) ?_
    refine toO (by kernel_rfl) (p_call 0 43 #[.string s, .int .u8 10] (by kernel_rfl) (by kernel_rfl) (fun w hm => index_calls lay_lines42 s w) ?_)
    rintro w1 v w1' hm ⟨rfl, hm'⟩
    refine ⟨_, hm.app hm', jkO ?_⟩
    clear hm hm'
    refine jo_f [(0, 0)] (by kernel_rfl) ?_
    refine jo_end (by kernel_rfl) ?_
    refine jx_then ?_
    refine jc_seq ?_
    refine jc_region ?_
    refine jo_f [(0, 0), (0, 0)] (by kernel_rfl) ?_
    refine jo_end (by kernel_rfl) ?_
    refine jx_then ?_
    refine jc_cond (decide (lnIdx s ≥ 0)) (by kernel_rfl) (fun hc => ?_) (fun hc => ?_)
    · have hge := of_decide_eq_true hc
      have hw : w64 (lnIdx s + 1) = lnIdx s + 1 := Go.IntWalk.i64_in _ ⟨by omega, by omega⟩
      have hg1 : (0 : Int) ≤ (0 : Int) ∧ (0 : Int) ≤ w64 (lnIdx s + 1) ∧ w64 (lnIdx s + 1) ≤ (s.size : Int) := by rw [hw]; omega
      have hg2 : (0 : Int) ≤ w64 (lnIdx s + 1) ∧ w64 (lnIdx s + 1) ≤ (s.size : Int) ∧ (s.size : Int) ≤ (s.size : Int) := by rw [hw]; omega
      have e1 : lnHd s = s.extract (0 : Int).toNat (w64 (lnIdx s + 1)).toNat := if_pos hge
      have e2 : lnTl s = s.extract (w64 (lnIdx s + 1)).toNat (s.size : Int).toNat := if_pos hge
      rw [e1, e2] at hstep
      rw [e2] at hnext
      refine jc_draw [] 10 (by kernel_rfl) (by kernel_rfl) ?_
      refine jd_f [⟨1, 0, 0⟩, ⟨2, 0, 0⟩, ⟨5, 0, 0⟩, ⟨6, 0, 0⟩] 6 (by kernel_rfl) (by kernel_rfl) (fun w h => h.pick [] (by kernel_rfl) (by kernel_rfl)) (by kernel_rfl) (by kernel_rfl) ?_
      refine toD2 0 4 (by kernel_rfl) ?_ ?_
      · refine p_s 0 [0] (by kernel_rfl) (by kernel_rfl) (jkD (fun w h => h.pick [] (by kernel_rfl) (by kernel_rfl)) ?_)
        refine jd_v 3 0 (by kernel_rfl) (fun w h => h.pick [] (by kernel_rfl) (by kernel_rfl)) (by kernel_rfl) (by kernel_rfl) _ (fun w hm => ssl_run (s := s) (lo := none) (hi := some (w64 (lnIdx s + 1))) (l := (0 : Int)) (h := (w64 (lnIdx s + 1))) (by kernel_rfl) rfl rfl hg1) ?_
        refine jd_f [⟨8, 0, 0⟩] 3 (by kernel_rfl) (by kernel_rfl) (fun w h => h.pick [] (by kernel_rfl) (by kernel_rfl)) (by kernel_rfl) (by kernel_rfl) ?_
        refine toD 4 (by kernel_rfl) (p_s 0 [0] (by kernel_rfl) (by kernel_rfl) (jkD (fun w h => h.pick [] (by kernel_rfl) (by kernel_rfl)) ?_))
        refine jd_v 7 0 (by kernel_rfl) (fun w h => h.pick [] (by kernel_rfl) (by kernel_rfl)) (by kernel_rfl) (by kernel_rfl) _ (fun w hm => ssl_run (s := s) (lo := some (w64 (lnIdx s + 1))) (hi := none) (l := (w64 (lnIdx s + 1))) (h := (s.size : Int)) (by kernel_rfl) rfl rfl hg2) ?_
        refine toD 9 (by kernel_rfl) (p_s 0 [0] (by kernel_rfl) (by kernel_rfl) (jkD (fun w h => h.pick [] (by kernel_rfl) (by kernel_rfl)) ?_))
        refine jd_end (by kernel_rfl) ?_
        refine jx_to [(0, [], .func (.yield l) #[] #[]), (1, [], .pointer (some ⟨b0, 0, none⟩)), (3, [], .string (s.extract (0 : Int).toNat (w64 (lnIdx s + 1)).toNat))] [0] (L' := [⟨some b0, 9, [.string (s.extract (w64 (lnIdx s + 1)).toNat (s.size : Int).toNat)]⟩]) (by kernel_rfl) (by kernel_rfl) (by kernel_rfl) ?_
        refine jx_then ?_
        refine jc_seq ?_
        refine jc_yield (l := l) (v0 := .func (.yield l) #[] #[]) (v1 := .string (s.extract (0 : Int).toNat (w64 (lnIdx s + 1)).toNat)) (args := #[.string (s.extract (0 : Int).toNat (w64 (lnIdx s + 1)).toNat)]) (Ja := J (k + 1)) (Jb := Jx) (Wa := [b0]) (La := [⟨some b0, 9, [.string (s.extract (w64 (lnIdx s + 1)).toNat (s.size : Int).toNat)]⟩]) (by kernel_rfl) (by kernel_rfl) (by kernel_rfl) (by kernel_rfl) (by kernel_rfl) (by kernel_rfl) hstep hnext ?_ ?_
        · intro w' hj a' hok'
          refine wp_cond_at false hok' (by kernel_rfl) (fun e => nomatch e) (fun _ => wp_skip ?_)
          exact ⟨⟨k + 1, hlt, hj, by rw [hs1, e2]; exact lk_ok hok' (by kernel_rfl) (fun _ h => h) hok'.mem.dis⟩, hmeas w' hj⟩
        · intro w' hj a' hok'
          refine wp_cond_at true hok' (by kernel_rfl) (fun _ => wp_ret ?_) (fun e => nomatch e)
          exact ret_at (R := fun _ w' => J (linesL s0).length w' ∨ Jx w') [] (.tuple #[]) [] rfl (by kernel_rfl) (by kernel_rfl) hok' (Or.inr hj)
      · refine p_s 0 [0] (by kernel_rfl) (by kernel_rfl) (jkD (fun w h => h.pick [] (by kernel_rfl) (by kernel_rfl)) ?_)
        refine jd_v 7 0 (by kernel_rfl) (fun w h => h.pick [] (by kernel_rfl) (by kernel_rfl)) (by kernel_rfl) (by kernel_rfl) _ (fun w hm => ssl_run (s := s) (lo := some (w64 (lnIdx s + 1))) (hi := none) (l := (w64 (lnIdx s + 1))) (h := (s.size : Int)) (by kernel_rfl) rfl rfl hg2) ?_
        refine toD 0 (by kernel_rfl) (p_s 0 [0] (by kernel_rfl) (by kernel_rfl) (jkD (fun w h => h.pick [] (by kernel_rfl) (by kernel_rfl)) ?_))
        refine jd_v 3 0 (by kernel_rfl) (fun w h => h.pick [] (by kernel_rfl) (by kernel_rfl)) (by kernel_rfl) (by kernel_rfl) _ (fun w hm => ssl_run (s := s) (lo := none) (hi := some (w64 (lnIdx s + 1))) (l := (0 : Int)) (h := (w64 (lnIdx s + 1))) (by kernel_rfl) rfl rfl hg1) ?_
        refine jd_f [⟨8, 0, 0⟩] 1 (by kernel_rfl) (by kernel_rfl) (fun w h => h.pick [] (by kernel_rfl) (by kernel_rfl)) (by kernel_rfl) (by kernel_rfl) ?_
        refine toD 9 (by kernel_rfl) (p_s 0 [0] (by kernel_rfl) (by kernel_rfl) (jkD (fun w h => h.pick [] (by kernel_rfl) (by kernel_rfl)) ?_))
        refine jd_end (by kernel_rfl) ?_
        refine jx_to [(0, [], .func (.yield l) #[] #[]), (1, [], .pointer (some ⟨b0, 0, none⟩)), (3, [], .string (s.extract (0 : Int).toNat (w64 (lnIdx s + 1)).toNat))] [0] (L' := [⟨some b0, 9, [.string (s.extract (w64 (lnIdx s + 1)).toNat (s.size : Int).toNat)]⟩]) (by kernel_rfl) (by kernel_rfl) (by kernel_rfl) ?_
        refine jx_then ?_
        refine jc_seq ?_
        refine jc_yield (l := l) (v0 := .func (.yield l) #[] #[]) (v1 := .string (s.extract (0 : Int).toNat (w64 (lnIdx s + 1)).toNat)) (args := #[.string (s.extract (0 : Int).toNat (w64 (lnIdx s + 1)).toNat)]) (Ja := J (k + 1)) (Jb := Jx) (Wa := [b0]) (La := [⟨some b0, 9, [.string (s.extract (w64 (lnIdx s + 1)).toNat (s.size : Int).toNat)]⟩]) (by kernel_rfl) (by kernel_rfl) (by kernel_rfl) (by kernel_rfl) (by kernel_rfl) (by kernel_rfl) hstep hnext ?_ ?_
        · intro w' hj a' hok'
          refine wp_cond_at false hok' (by kernel_rfl) (fun e => nomatch e) (fun _ => wp_skip ?_)
          exact ⟨⟨k + 1, hlt, hj, by rw [hs1, e2]; exact lk_ok hok' (by kernel_rfl) (fun _ h => h) hok'.mem.dis⟩, hmeas w' hj⟩
        · intro w' hj a' hok'
          refine wp_cond_at true hok' (by kernel_rfl) (fun _ => wp_ret ?_) (fun e => nomatch e)
          exact ret_at (R := fun _ w' => J (linesL s0).length w' ∨ Jx w') [] (.tuple #[]) [] rfl (by kernel_rfl) (by kernel_rfl) hok' (Or.inr hj)
    · have hge : ¬ lnIdx s ≥ 0 := of_decide_eq_false hc
      have e1 : lnHd s = s := if_neg hge
      have e2 : lnTl s = ByteArray.mk #[] := if_neg hge
      rw [e1, e2] at hstep
      rw [e2] at hnext
      refine jc_region ?_
      refine jo_f [(0, 0), (0, 0)] (by kernel_rfl) ?_
      refine toO (by kernel_rfl) (p_s 0 [0] (by kernel_rfl) (by kernel_rfl) (jkO ?_))
      refine jo_end (by kernel_rfl) ?_
      refine jx_to [(0, [], .func (.yield l) #[] #[]), (1, [], .pointer (some ⟨b0, 0, none⟩)), (3, [], .string s)] [0] (L' := [⟨some b0, 9, [.string (ByteArray.mk #[])]⟩]) (by kernel_rfl) (by kernel_rfl) (by kernel_rfl) ?_
      refine jx_then ?_
      refine jc_seq ?_
      refine jc_yield (l := l) (v0 := .func (.yield l) #[] #[]) (v1 := .string s) (args := #[.string s]) (Ja := J (k + 1)) (Jb := Jx) (Wa := [b0]) (La := [⟨some b0, 9, [.string (ByteArray.mk #[])]⟩]) (by kernel_rfl) (by kernel_rfl) (by kernel_rfl) (by kernel_rfl) (by kernel_rfl) (by kernel_rfl) hstep hnext ?_ ?_
      · intro w' hj a' hok'
        refine wp_cond_at false hok' (by kernel_rfl) (fun e => nomatch e) (fun _ => wp_skip ?_)
        exact ⟨⟨k + 1, hlt, hj, by rw [hs1, e2]; exact lk_ok hok' (by kernel_rfl) (fun _ h => h) hok'.mem.dis⟩, hmeas w' hj⟩
      · intro w' hj a' hok'
        refine wp_cond_at true hok' (by kernel_rfl) (fun _ => wp_ret ?_) (fun e => nomatch e)
        exact ret_at (R := fun _ w' => J (linesL s0).length w' ∨ Jx w') [] (.tuple #[]) [] rfl (by kernel_rfl) (by kernel_rfl) hok' (Or.inr hj)
  · have hz : (lnRest s0 k).size = 0 := by
      have := of_decide_eq_false e
      omega
    have hkl : k = (linesL s0).length := by
      rcases Nat.lt_or_ge k (linesL s0).length with h' | h'
      · have := (hl1 h').1; omega
      · exact Nat.le_antisymm hk h'
    subst hkl
    exact ret_at (R := fun _ w' => J (linesL s0).length w' ∨ Jx w') [] (.tuple #[]) [] rfl (by kernel_rfl) (by kernel_rfl) hok1 (Or.inl hJ)
set_option maxRecDepth 100000 in
theorem lines42.calls (s : ByteArray) (w : World) :
    Calls Tryd.prog 28 #[.string s] w fun e w' => ∃ v, e = .returned v ∧ (∃ b : Nat, v = .func (.func 42) #[] #[.pointer (some ⟨b, 0, none⟩)] ∧ Mem w [] [⟨some b, 9, [.string s]⟩] w') := by
  refine enter (args := [.string s]) Tryd.func28 rfl Tryd.ntmps28 (by kernel_rfl) (L := []) (W := []) (Mem.start w) ?_
  refine jc_seq ?_
  refine jc_region ?_
  refine toO (by kernel_rfl) (p_a 0 [0] (by kernel_rfl) (fun b => by kernel_rfl) (fun b => jkO ?_))
  refine jo_f [(0, 0)] (by kernel_rfl) ?_
  refine jo_end (by kernel_rfl) ?_
  refine jx_then ?_
  refine jc_seq ?_
  refine jc_region ?_
  refine jo_f [(0, 0), (0, 0)] (by kernel_rfl) ?_
  refine jo_end (by kernel_rfl) ?_
  refine jx_then ?_
  refine jc_ret ?_
  exact jx_ret [] (.func (.func 42) #[] #[.pointer (some ⟨b, 0, none⟩)]) [] rfl (by kernel_rfl) (by kernel_rfl) (fun w hm => ⟨b, rfl, hm.pick [0] (by kernel_rfl) (by kernel_rfl)⟩)


/-! ### internal/stringslite.HasSuffix -/
noncomputable def stringslite_HasSuffix (s0 : ByteArray) (suffix1 : ByteArray) : Option (Bool) := (if (decide ((s0.size : Int) ≥ (suffix1.size : Int))) = true then (if 0 ≤ (w64 ((s0.size : Int) - (suffix1.size : Int))) ∧ (w64 ((s0.size : Int) - (suffix1.size : Int))) ≤ (s0.size : Int) ∧ (s0.size : Int) ≤ (s0.size : Int) then some ((s0.extract (w64 ((s0.size : Int) - (suffix1.size : Int))).toNat (s0.size : Int).toNat).toList == suffix1.toList) else none) else some false)
set_option maxRecDepth 100000 in
theorem stringslite_HasSuffix.calls (s0 : ByteArray) (suffix1 : ByteArray) (w : World) (r : Bool) (h : stringslite_HasSuffix s0 suffix1 = some r) :
    Calls Tryd.prog 54 #[(.string s0), (.string suffix1)] w fun e w' => ∃ v, e = .returned v ∧ (v = (.bool r) ∧ Mem w [] [] w') := by
  rw [stringslite_HasSuffix] at h
  refine enter (args := [(.string s0), (.string suffix1)]) Tryd.func54 rfl Tryd.ntmps54 (by kernel_rfl) (L := []) (W := []) (Mem.start w) ?_
  refine jc_seq ?_
  refine jc_region ?_
  refine jo_f [(0, 0)] (by kernel_rfl) ?_
  refine jo_end (by kernel_rfl) ?_
  refine jx_then ?_
  refine jc_seq ?_
  refine jc_region ?_
  refine jo_f [(0, 0), (0, 0), (0, 0), (0, 0), (0, 0), (0, 0), (0, 1), (0, 1), (0, 1), (0, 1), (0, 1), (0, 1)] (by kernel_rfl) ?_
  refine jo_split 10 (decide ((s0.size : Int) ≥ (suffix1.size : Int))) (by kernel_rfl) (fun hc_1 => ?_) (fun hc_1 => ?_)
  · replace h := ifT hc_1 h
    obtain ⟨hg_2, h⟩ := gd h
    refine toO (by kernel_rfl) (p_v 2 (by kernel_rfl) _ (fun w hm => ssl_run (s := s0) (lo := some (w64 ((s0.size : Int) - (suffix1.size : Int)))) (hi := none) (l := (w64 ((s0.size : Int) - (suffix1.size : Int)))) (h := (s0.size : Int)) (by kernel_rfl) rfl rfl hg_2) (jkO ?_))
    refine jo_f [(0, 2), (0, 2), (0, 4), (0, 0)] (by kernel_rfl) ?_
    refine jo_end (by kernel_rfl) ?_
    refine jx_then ?_
    refine jc_ret ?_
    obtain rfl := Option.some.inj h
    exact jx_ret [] (.bool ((s0.extract (w64 ((s0.size : Int) - (suffix1.size : Int))).toNat (s0.size : Int).toNat).toList == suffix1.toList)) [] rfl (by kernel_rfl) (by kernel_rfl) (fun w hm => ⟨rfl, hm.pick [] (by kernel_rfl) (by kernel_rfl)⟩)
  · replace h := ifF hc_1 h
    refine jo_f [(0, 3), (0, 3), (0, 3), (0, 5), (0, 0)] (by kernel_rfl) ?_
    refine jo_end (by kernel_rfl) ?_
    refine jx_then ?_
    refine jc_ret ?_
    obtain rfl := Option.some.inj h
    exact jx_ret [] (.bool false) [] rfl (by kernel_rfl) (by kernel_rfl) (fun w hm => ⟨rfl, hm.pick [] (by kernel_rfl) (by kernel_rfl)⟩)

/-! ### internal/stringslite.TrimSuffix -/
noncomputable def stringslite_TrimSuffix (s0 : ByteArray) (suffix1 : ByteArray) : Option (ByteArray) := (stringslite_HasSuffix s0 suffix1).bind fun t_1 => (if t_1 = true then (if 0 ≤ (0 : Int) ∧ (0 : Int) ≤ (w64 ((s0.size : Int) - (suffix1.size : Int))) ∧ (w64 ((s0.size : Int) - (suffix1.size : Int))) ≤ (s0.size : Int) then some (s0.extract (0 : Int).toNat (w64 ((s0.size : Int) - (suffix1.size : Int))).toNat) else none) else some s0)
set_option maxRecDepth 100000 in
theorem stringslite_TrimSuffix.calls (s0 : ByteArray) (suffix1 : ByteArray) (w : World) (r : ByteArray) (h : stringslite_TrimSuffix s0 suffix1 = some r) :
    Calls Tryd.prog 45 #[(.string s0), (.string suffix1)] w fun e w' => ∃ v, e = .returned v ∧ (v = (.string r) ∧ Mem w [] [] w') := by
  rw [stringslite_TrimSuffix] at h
  refine enter (args := [(.string s0), (.string suffix1)]) Tryd.func45 rfl Tryd.ntmps45 (by kernel_rfl) (L := []) (W := []) (Mem.start w) ?_
  refine jc_seq ?_
  refine jc_region ?_
  refine jo_f [(0, 0)] (by kernel_rfl) ?_
  refine jo_end (by kernel_rfl) ?_
  refine jx_then ?_
  refine jc_seq ?_
  refine jc_seq ?_
  refine jc_region ?_
  refine jo_f [(0, 0), (0, 0)] (by kernel_rfl) ?_
  obtain ⟨t_1, ht_4, h⟩ := bd h
  refine toO (by kernel_rfl) (p_call 0 54 #[(.string s0), (.string suffix1)] (by kernel_rfl) (by kernel_rfl) (fun w hm => stringslite_HasSuffix.calls s0 suffix1 w _ ht_4) ?_)
  rintro w v w' hm ⟨rfl, hm'⟩
  refine ⟨_, hm.app hm', jkO ?_⟩
  clear hm hm'
  refine jo_end (by kernel_rfl) ?_
  refine jx_then ?_
  refine jc_cond t_1 (by kernel_rfl) (fun hc_5 => ?_) (fun hc_5 => ?_)
  · replace h := ifT hc_5 h
    refine jc_seq ?_
    refine jc_region ?_
    refine jo_f [(0, 0), (0, 0), (0, 0), (0, 0), (0, 0), (0, 0)] (by kernel_rfl) ?_
    obtain ⟨hg_6, h⟩ := gd h
    refine toO (by kernel_rfl) (p_v 0 (by kernel_rfl) _ (fun w hm => ssl_run (s := s0) (lo := none) (hi := some (w64 ((s0.size : Int) - (suffix1.size : Int)))) (l := (0 : Int)) (h := (w64 ((s0.size : Int) - (suffix1.size : Int)))) (by kernel_rfl) rfl rfl hg_6) (jkO ?_))
    refine jo_f [(0, 0)] (by kernel_rfl) ?_
    refine jo_end (by kernel_rfl) ?_
    refine jx_then ?_
    refine jc_ret ?_
    refine jx_thenr ?_
    obtain rfl := Option.some.inj h
    exact jx_ret [] (.string (s0.extract (0 : Int).toNat (w64 ((s0.size : Int) - (suffix1.size : Int))).toNat)) [] rfl (by kernel_rfl) (by kernel_rfl) (fun w hm => ⟨rfl, hm.pick [] (by kernel_rfl) (by kernel_rfl)⟩)
  · replace h := ifF hc_5 h
    refine jc_skip ?_
    refine jx_then ?_
    refine jc_seq ?_
    refine jc_region ?_
    refine jo_f [(0, 0), (0, 0)] (by kernel_rfl) ?_
    refine jo_end (by kernel_rfl) ?_
    refine jx_then ?_
    refine jc_ret ?_
    obtain rfl := Option.some.inj h
    exact jx_ret [] (.string s0) [] rfl (by kernel_rfl) (by kernel_rfl) (fun w hm => ⟨rfl, hm.pick [] (by kernel_rfl) (by kernel_rfl)⟩)

/-! ### strings.TrimSuffix -/
noncomputable def strings_TrimSuffix (s0 : ByteArray) (suffix1 : ByteArray) : Option (ByteArray) := (stringslite_TrimSuffix s0 suffix1).bind fun t_1 => some t_1
set_option maxRecDepth 100000 in
theorem strings_TrimSuffix.calls (s0 : ByteArray) (suffix1 : ByteArray) (w : World) (r : ByteArray) (h : strings_TrimSuffix s0 suffix1 = some r) :
    Calls Tryd.prog 30 #[(.string s0), (.string suffix1)] w fun e w' => ∃ v, e = .returned v ∧ (v = (.string r) ∧ Mem w [] [] w') := by
  rw [strings_TrimSuffix] at h
  refine enter (args := [(.string s0), (.string suffix1)]) Tryd.func30 rfl Tryd.ntmps30 (by kernel_rfl) (L := []) (W := []) (Mem.start w) ?_
  refine jc_seq ?_
  refine jc_region ?_
  refine jo_f [(0, 0)] (by kernel_rfl) ?_
  refine jo_end (by kernel_rfl) ?_
  refine jx_then ?_
  refine jc_seq ?_
  refine jc_region ?_
  refine jo_f [(0, 0), (0, 0)] (by kernel_rfl) ?_
  obtain ⟨t_1, ht_1, h⟩ := bd h
  refine toO (by kernel_rfl) (p_call 0 45 #[(.string s0), (.string suffix1)] (by kernel_rfl) (by kernel_rfl) (fun w hm => stringslite_TrimSuffix.calls s0 suffix1 w _ ht_1) ?_)
  rintro w v w' hm ⟨rfl, hm'⟩
  refine ⟨_, hm.app hm', jkO ?_⟩
  clear hm hm'
  refine jo_f [(0, 0)] (by kernel_rfl) ?_
  refine jo_end (by kernel_rfl) ?_
  refine jx_then ?_
  refine jc_ret ?_
  obtain rfl := Option.some.inj h
  exact jx_ret [] (.string t_1) [] rfl (by kernel_rfl) (by kernel_rfl) (fun w hm => ⟨rfl, hm.pick [] (by kernel_rfl) (by kernel_rfl)⟩)

def lay_strings_Split_ren : Go.Shelf.Ren := ⟨fun | 146 => 29 | 221 => 44 | 268 => 51 | 138 => 52 | 143 => 53 | 195 => 62 | 197 => 63 | 218 => 64 | 219 => 65 | 260 => 76 | 217 => 50 | 225 => 77 | 224 => 78 | 267 => 79 | 266 => 61 | 314 => 87 | n => n, fun | 9 => 9 | 31 => 51 | 3 => 3 | 4 => 4 | 0 => 0 | 105 => 98 | 21 => 21 | 5 => 5 | 46 => 103 | 119 => 120 | 139 => 123 | 138 => 122 | 146 => 124 | 51 => 110 | n => n, fun | 1 => 1 | 3 => 4 | 4 => 5 | n => n⟩
theorem lay_strings_Split : Go.Proofs.Lays.n146 Tryd.prog lay_strings_Split_ren where
  mixed := by kernel_rfl
  f138 := Tryd.func52.trans (congrArg some (by kernel_rfl))
  f143 := Tryd.func53.trans (congrArg some (by kernel_rfl))
  f146 := Tryd.func29.trans (congrArg some (by kernel_rfl))
  f195 := Tryd.func62.trans (congrArg some (by kernel_rfl))
  f197 := Tryd.func63.trans (congrArg some (by kernel_rfl))
  f217 := Tryd.func50.trans (congrArg some (by kernel_rfl))
  f218 := Tryd.func64.trans (congrArg some (by kernel_rfl))
  f219 := Tryd.func65.trans (congrArg some (by kernel_rfl))
  f221 := Tryd.func44.trans (congrArg some (by kernel_rfl))
  f224 := Tryd.func78.trans (congrArg some (by kernel_rfl))
  f225 := Tryd.func77.trans (congrArg some (by kernel_rfl))
  f260 := Tryd.func76.trans (congrArg some (by kernel_rfl))
  f266 := Tryd.func61.trans (congrArg some (by kernel_rfl))
  f267 := Tryd.func79.trans (congrArg some (by kernel_rfl))
  f268 := Tryd.func51.trans (congrArg some (by kernel_rfl))
  f314 := Tryd.func87.trans (congrArg some (by kernel_rfl))
  t0 := Tryd.underlying0
  a0 := Tryd.isAgg0
  z0 := Tryd.sizeOf0
  v0 := Tryd.zeroValue0
  t3 := Tryd.underlying3
  a3 := Tryd.isAgg3
  z3 := Tryd.sizeOf3
  v3 := Tryd.zeroValue3
  t4 := Tryd.underlying4
  a4 := Tryd.isAgg4
  z4 := Tryd.sizeOf4
  v4 := Tryd.zeroValue4
  t5 := Tryd.underlying5
  a5 := Tryd.isAgg5
  z5 := Tryd.sizeOf5
  v5 := Tryd.zeroValue5
  t9 := Tryd.underlying9
  a9 := Tryd.isAgg9
  z9 := Tryd.sizeOf9
  v9 := Tryd.zeroValue9
  t21 := Tryd.underlying21
  a21 := Tryd.isAgg21
  z21 := Tryd.sizeOf21
  v21 := Tryd.zeroValue21
  t31 := Tryd.underlying51
  a31 := Tryd.isAgg51
  z31 := Tryd.sizeOf51
  v31 := Tryd.zeroValue51
  t46 := Tryd.underlying103
  a46 := Tryd.isAgg103
  z46 := Tryd.sizeOf103
  v46 := Tryd.zeroValue103
  t51 := Tryd.underlying110
  a51 := Tryd.isAgg110
  z51 := Tryd.sizeOf110
  v51 := Tryd.zeroValue110
  t105 := Tryd.underlying98
  a105 := Tryd.isAgg98
  z105 := Tryd.sizeOf98
  v105 := Tryd.zeroValue98
  t119 := Tryd.underlying120
  a119 := Tryd.isAgg120
  z119 := Tryd.sizeOf120
  t138 := Tryd.underlying122
  a138 := Tryd.isAgg122
  z138 := Tryd.sizeOf122
  v138 := Tryd.zeroValue122
  t139 := Tryd.underlying123
  a139 := Tryd.isAgg123
  z139 := Tryd.sizeOf123
  v139 := Tryd.zeroValue123
  t146 := Tryd.underlying124
  a146 := Tryd.isAgg124
  z146 := Tryd.sizeOf124
  v146 := Tryd.zeroValue124
  g1 := by kernel_rfl
  g3 := by kernel_rfl
  g4 := by kernel_rfl
/-! ### strings.Split -/
noncomputable def strings_Split (s0 : ByteArray) (sep1 : ByteArray) : Option ((List ByteArray)) := splitF s0 sep1
set_option maxRecDepth 100000 in
theorem strings_Split.calls (s0 : ByteArray) (sep1 : ByteArray) (w : World) (r : (List ByteArray)) (g_ml : Glml w) (h : strings_Split s0 sep1 = some r) :
    Calls Tryd.prog 29 #[(.string s0), (.string sep1)] w fun e w' => ∃ v, e = .returned v ∧ (∃ (o0 : Option Nat) (c0 : Nat) (s0 : List Value) (n0 : Nat), r.length = n0 ∧ (o0 ≠ none → n0 ≤ c0 ∧ s0.length = (c0 - n0) * 1) ∧ (o0 = none → r = [] ∧ c0 = 0) ∧ v = .slice (o0.map fun b => ⟨b, 0, none⟩) n0 c0 ∧ Mem w [] [⟨o0, 9, row encStr r s0⟩] w') := by
  rw [strings_Split] at h
  exact split_calls lay_strings_Split (by kernel_rfl) s0 sep1 w r g_ml.ml h

/-! ### slices.Index[[]string,string] -/
noncomputable def slices_Index_string.k_1 : Option (Int) := some (-1)
noncomputable def slices_Index_string.l_3 (s0 : List ByteArray) (v1 : ByteArray) : Int → Option ((Int) ⊕ (Int ⊕ Unit))
  | i_2 => (if (decide (i_2 < (s0.length : Int))) = true then (ix s0 i_2).bind fun x_5 => (if (v1.toList == x_5.toList) = true then some (.inr (.inl i_2)) else some (.inl (w64 (i_2 + 1)))) else some (.inr (.inr ())))
noncomputable def slices_Index_string (s0 : List ByteArray) (v1 : ByteArray) : Option (Int) := (loop (slices_Index_string.l_3 s0 v1) 0).bind fun t_4 => match t_4 with | .inl p => some p | .inr p => slices_Index_string.k_1
set_option maxRecDepth 100000 in
theorem slices_Index_string.calls (s0 : List ByteArray) (v1 : ByteArray) (w : World) (r : Int) (s0_a : Option Addr) (s0_an : Nat) (s0_c : Nat) (s0_h : Rw w s0_a 1 encStr s0) (s0_hn : s0.length = s0_an) (h : slices_Index_string s0 v1 = some r) :
    Calls Tryd.prog 31 #[(.slice s0_a s0_an s0_c), (.string v1)] w fun e w' => ∃ v, e = .returned v ∧ (v = (.int .i64 r) ∧ Mem w [] [] w') := by
  subst s0_hn
  rw [slices_Index_string] at h
  refine enter (args := [(.slice s0_a s0.length s0_c), (.string v1)]) Tryd.func31 rfl Tryd.ntmps31 (by kernel_rfl) (L := []) (W := []) (Mem.start w) ?_
  refine jc_seq ?_
  refine jc_region ?_
  refine jo_f [(0, 0)] (by kernel_rfl) ?_
  refine jo_end (by kernel_rfl) ?_
  refine jx_then ?_
  refine jc_seq ?_
  refine jc_seq ?_
  refine jc_region ?_
  refine jo_f [(0, 0), (0, 0), (0, 0)] (by kernel_rfl) ?_
  refine jo_end (by kernel_rfl) ?_
  refine jx_then ?_
  refine jc_meet (fun (_ : Unit) => slices_Index_string.k_1 = some r) (fun (_ : Unit) => [(4, [], (.int .i64 0))]) (fun (_ : Unit) => []) ?_ ?_
  · refine jc_block ?_
    obtain ⟨t_4, ht_34, hr_26⟩ := bd h
    refine jc_loop (fun (s : Int) (x : Unit) => match s, x with | i_2, _ => True) (fun (s : Int) (x : Unit) => match s, x with | i_2, _ => [(0, [], (.slice s0_a s0.length s0_c)), (1, [], (.string v1)), (4, [], (.int .i64 0)), (7, [], (.int .i64 (s0.length : Int))), (8, [], (.int .i64 i_2))]) (fun (s : Int) (x : Unit) => match s, x with | i_2, _ => []) ht_34 () trivial (by kernel_rfl) [] (by kernel_rfl) (by kernel_rfl) ?_
    rintro i_2 _ y_27 _ h
    rw [slices_Index_string.l_3] at h
    refine jc_seq ?_
    refine jc_region ?_
    refine jo_f [(0, 0)] (by kernel_rfl) ?_
    refine jo_end (by kernel_rfl) ?_
    refine jx_then ?_
    refine jc_seq ?_
    refine jc_cond (decide (i_2 < (s0.length : Int))) (by kernel_rfl) (fun hc_29 => ?_) (fun hc_29 => ?_)
    · replace h := ifT hc_29 h
      refine jc_skip ?_
      refine jx_then ?_
      refine jc_seq ?_
      refine jc_block ?_
      refine jc_seq ?_
      refine jc_region ?_
      refine jo_f [(0, 0), (0, 0)] (by kernel_rfl) ?_
      refine jo_end (by kernel_rfl) ?_
      refine jx_then ?_
      refine jc_seq ?_
      refine jc_region ?_
      refine jo_f [(0, 0), (0, 0), (0, 0)] (by kernel_rfl) ?_
      obtain ⟨x_5, hx_30, h⟩ := bd h
      refine toO (by kernel_rfl) (p_idx 0 s0_a s0.length i_2 1 (by kernel_rfl) (by kernel_rfl) (ix_some hx_30).1 (ltn hx_30 rfl) (s0_h.sp hx_30) (jkO ?_))
      refine toO (by kernel_rfl) (p_ld 0 (aB s0_a) (aO s0_a + i_2.toNat * 1) false (encStr x_5) (by kernel_rfl) (by kernel_rfl) (by kernel_rfl) (fun w hm => ((hm.exRow s0_h List.not_mem_nil).at hx_30)) (jkO ?_))
      refine jo_f [(0, 0)] (by kernel_rfl) ?_
      refine jo_end (by kernel_rfl) ?_
      refine jx_then ?_
      refine jc_cond (v1.toList == x_5.toList) (by kernel_rfl) (fun hc_31 => ?_) (fun hc_31 => ?_)
      · replace h := ifT hc_31 h
        refine jc_seq ?_
        refine jc_region ?_
        refine jo_f [(0, 0), (0, 0)] (by kernel_rfl) ?_
        refine jo_end (by kernel_rfl) ?_
        refine jx_then ?_
        refine jc_ret ?_
        refine jx_inr ?_
        refine jx_thenr ?_
        refine jx_leaver (.inl i_2) (Option.some.inj h).symm (fun e_32 => ?_)
        subst e_32
        refine jx_inr ?_
        refine jx_thenr ?_
        refine jx_thenr ?_
        obtain rfl := Option.some.inj hr_26
        exact jx_ret [] (.int .i64 i_2) [] rfl (by kernel_rfl) (by kernel_rfl) (fun w hm => ⟨rfl, hm.pick [] (by kernel_rfl) (by kernel_rfl)⟩)
      · replace h := ifF hc_31 h
        refine jc_skip ?_
        refine jx_inn ?_
        refine jx_then ?_
        refine jc_region ?_
        refine jo_f [(0, 0), (0, 0)] (by kernel_rfl) ?_
        refine jo_end (by kernel_rfl) ?_
        exact jx_back (w64 (i_2 + 1)) () (Option.some.inj h).symm trivial [] (by kernel_rfl) (by kernel_rfl) (by kernel_rfl)
    · replace h := ifF hc_29 h
      refine jc_exit ?_
      refine jx_thenx ?_
      refine jx_leave (.inr ()) (Option.some.inj h).symm (fun e_33 => ?_)
      subst e_33
      refine jx_ine ?_
      exact jx_meet () hr_26 (by kernel_rfl) [] (by kernel_rfl) (by kernel_rfl)
  · rintro _ h
    replace h : slices_Index_string.k_1 = some r := h
    rw [slices_Index_string.k_1] at h
    refine jx_then ?_
    refine jc_seq ?_
    refine jc_region ?_
    refine jo_f [(0, 0)] (by kernel_rfl) ?_
    refine jo_end (by kernel_rfl) ?_
    refine jx_then ?_
    refine jc_ret ?_
    obtain rfl := Option.some.inj h
    exact jx_ret [] (.int .i64 (-1)) [] rfl (by kernel_rfl) (by kernel_rfl) (fun w hm => ⟨rfl, hm.pick [] (by kernel_rfl) (by kernel_rfl)⟩)

def lay_strconv_ParseInt_ren : Go.Shelf.Ren := ⟨fun | 174 => 46 | 247 => 55 | 245 => 56 | 287 => 66 | 279 => 67 | 280 => 68 | 281 => 69 | 282 => 70 | 321 => 80 | 322 => 81 | 316 => 82 | 171 => 84 | 205 => 83 | 243 => 88 | 246 => 49 | 283 => 57 | 284 => 58 | 285 => 59 | 286 => 60 | 129 => 72 | 317 => 71 | 318 => 73 | 319 => 74 | 320 => 75 | 337 => 85 | 338 => 86 | n => n, fun | 9 => 9 | 3 => 3 | 2 => 2 | 75 => 48 | 85 => 82 | 4 => 4 | 167 => 100 | 5 => 5 | 53 => 92 | 175 => 101 | 46 => 103 | 168 => 104 | 37 => 44 | 0 => 0 | 210 => 117 | 21 => 21 | 127 => 78 | 145 => 128 | 143 => 126 | 171 => 91 | 173 => 95 | 212 => 109 | 51 => 110 | 20 => 20 | 213 => 111 | 232 => 129 | 233 => 130 | 80 => 58 | n => n, fun | 15 => 2 | 16 => 3 | 17 => 0 | 18 => 6 | 19 => 7 | n => n⟩
theorem lay_strconv_ParseInt : Go.Proofs.LaysC.n174 Tryd.prog lay_strconv_ParseInt_ren where
  mixed := by kernel_rfl
  f129 := Tryd.func72.trans (congrArg some (by kernel_rfl))
  f171 := Tryd.func84.trans (congrArg some (by kernel_rfl))
  f174 := Tryd.func46.trans (congrArg some (by kernel_rfl))
  f205 := Tryd.func83.trans (congrArg some (by kernel_rfl))
  f243 := Tryd.func88.trans (congrArg some (by kernel_rfl))
  f245 := Tryd.func56.trans (congrArg some (by kernel_rfl))
  f246 := Tryd.func49.trans (congrArg some (by kernel_rfl))
  f247 := Tryd.func55.trans (congrArg some (by kernel_rfl))
  f279 := Tryd.func67.trans (congrArg some (by kernel_rfl))
  f280 := Tryd.func68.trans (congrArg some (by kernel_rfl))
  f281 := Tryd.func69.trans (congrArg some (by kernel_rfl))
  f282 := Tryd.func70.trans (congrArg some (by kernel_rfl))
  f283 := Tryd.func57.trans (congrArg some (by kernel_rfl))
  f284 := Tryd.func58.trans (congrArg some (by kernel_rfl))
  f285 := Tryd.func59.trans (congrArg some (by kernel_rfl))
  f286 := Tryd.func60.trans (congrArg some (by kernel_rfl))
  f287 := Tryd.func66.trans (congrArg some (by kernel_rfl))
  f316 := Tryd.func82.trans (congrArg some (by kernel_rfl))
  f317 := Tryd.func71.trans (congrArg some (by kernel_rfl))
  f318 := Tryd.func73.trans (congrArg some (by kernel_rfl))
  f319 := Tryd.func74.trans (congrArg some (by kernel_rfl))
  f320 := Tryd.func75.trans (congrArg some (by kernel_rfl))
  f321 := Tryd.func80.trans (congrArg some (by kernel_rfl))
  f322 := Tryd.func81.trans (congrArg some (by kernel_rfl))
  f337 := Tryd.func85.trans (congrArg some (by kernel_rfl))
  f338 := Tryd.func86.trans (congrArg some (by kernel_rfl))
  t0 := Tryd.underlying0
  a0 := Tryd.isAgg0
  z0 := Tryd.sizeOf0
  v0 := Tryd.zeroValue0
  t2 := Tryd.underlying2
  a2 := Tryd.isAgg2
  z2 := Tryd.sizeOf2
  v2 := Tryd.zeroValue2
  t3 := Tryd.underlying3
  a3 := Tryd.isAgg3
  z3 := Tryd.sizeOf3
  v3 := Tryd.zeroValue3
  t4 := Tryd.underlying4
  a4 := Tryd.isAgg4
  z4 := Tryd.sizeOf4
  v4 := Tryd.zeroValue4
  t5 := Tryd.underlying5
  a5 := Tryd.isAgg5
  z5 := Tryd.sizeOf5
  v5 := Tryd.zeroValue5
  t9 := Tryd.underlying9
  a9 := Tryd.isAgg9
  z9 := Tryd.sizeOf9
  v9 := Tryd.zeroValue9
  t20 := Tryd.underlying20
  a20 := Tryd.isAgg20
  z20 := Tryd.sizeOf20
  v20 := Tryd.zeroValue20
  t21 := Tryd.underlying21
  a21 := Tryd.isAgg21
  z21 := Tryd.sizeOf21
  v21 := Tryd.zeroValue21
  t37 := Tryd.underlying44
  a37 := Tryd.isAgg44
  z37 := Tryd.sizeOf44
  v37 := Tryd.zeroValue44
  t46 := Tryd.underlying103
  a46 := Tryd.isAgg103
  z46 := Tryd.sizeOf103
  v46 := Tryd.zeroValue103
  t51 := Tryd.underlying110
  a51 := Tryd.isAgg110
  z51 := Tryd.sizeOf110
  v51 := Tryd.zeroValue110
  t53 := Tryd.underlying92
  a53 := Tryd.isAgg92
  z53 := Tryd.sizeOf92
  v53 := Tryd.zeroValue92
  t75 := Tryd.underlying48
  a75 := Tryd.isAgg48
  z75 := Tryd.sizeOf48
  v75 := Tryd.zeroValue48
  t85 := Tryd.underlying82
  a85 := Tryd.isAgg82
  z85 := Tryd.sizeOf82
  v85 := Tryd.zeroValue82
  t127 := Tryd.underlying78
  a127 := Tryd.isAgg78
  z127 := Tryd.sizeOf78
  v127 := Tryd.zeroValue78
  t143 := Tryd.underlying126
  a143 := Tryd.isAgg126
  z143 := Tryd.sizeOf126
  v143 := Tryd.zeroValue126
  t145 := Tryd.underlying128
  a145 := Tryd.isAgg128
  z145 := Tryd.sizeOf128
  v145 := Tryd.zeroValue128
  t167 := Tryd.underlying100
  a167 := Tryd.isAgg100
  z167 := Tryd.sizeOf100
  v167 := Tryd.zeroValue100
  t168 := Tryd.underlying104
  a168 := Tryd.isAgg104
  z168 := Tryd.sizeOf104
  v168 := Tryd.zeroValue104
  t171 := Tryd.underlying91
  a171 := Tryd.isAgg91
  z171 := Tryd.sizeOf91
  v171 := Tryd.zeroValue91
  t173 := Tryd.underlying95
  a173 := Tryd.isAgg95
  z173 := Tryd.sizeOf95
  v173 := Tryd.zeroValue95
  t175 := Tryd.underlying101
  a175 := Tryd.isAgg101
  z175 := Tryd.sizeOf101
  v175 := Tryd.zeroValue101
  t210 := Tryd.underlying117
  a210 := Tryd.isAgg117
  z210 := Tryd.sizeOf117
  v210 := Tryd.zeroValue117
  t212 := Tryd.underlying109
  a212 := Tryd.isAgg109
  z212 := Tryd.sizeOf109
  v212 := Tryd.zeroValue109
  t213 := Tryd.underlying111
  a213 := Tryd.isAgg111
  z213 := Tryd.sizeOf111
  t232 := Tryd.underlying129
  a232 := Tryd.isAgg129
  z232 := Tryd.sizeOf129
  v232 := Tryd.zeroValue129
  t233 := Tryd.underlying130
  a233 := Tryd.isAgg130
  z233 := Tryd.sizeOf130
  v233 := Tryd.zeroValue130
  g15 := by kernel_rfl
  g16 := by kernel_rfl
  g17 := by kernel_rfl
  g18 := by kernel_rfl
  g19 := by kernel_rfl
  t80 := Tryd.underlying58
  a80 := Tryd.isAgg58
  z80 := Tryd.sizeOf58
  v80 := Tryd.zeroValue58
  i0 := by kernel_rfl
  i2 := by kernel_rfl
  i3 := by kernel_rfl
  i4 := by kernel_rfl
  i5 := by kernel_rfl
  i9 := by kernel_rfl
  i20 := by kernel_rfl
  i21 := by kernel_rfl
  i37 := by kernel_rfl
  i46 := by kernel_rfl
  i51 := by kernel_rfl
  i53 := by kernel_rfl
  i75 := by kernel_rfl
  i80 := by kernel_rfl
  i85 := by kernel_rfl
  i127 := by kernel_rfl
  i143 := by kernel_rfl
  i145 := by kernel_rfl
  i167 := by kernel_rfl
  i168 := by kernel_rfl
  i171 := by kernel_rfl
  i173 := by kernel_rfl
  i175 := by kernel_rfl
  i210 := by kernel_rfl
  i212 := by kernel_rfl
  i232 := by kernel_rfl
  i233 := by kernel_rfl
  m15 := by kernel_rfl
  m16 := by kernel_rfl
  m17 := by kernel_rfl
  m18 := by kernel_rfl
  m19 := by kernel_rfl
  c0 := by kernel_rfl
  c2 := by kernel_rfl
  c3 := by kernel_rfl
  c4 := by kernel_rfl
  c5 := by kernel_rfl
  c9 := by kernel_rfl
  c20 := by kernel_rfl
  c21 := by kernel_rfl
  c37 := by kernel_rfl
  c46 := by kernel_rfl
  c51 := by kernel_rfl
  c53 := by kernel_rfl
  c75 := by kernel_rfl
  c80 := by kernel_rfl
  c85 := by kernel_rfl
  c127 := by kernel_rfl
  c143 := by kernel_rfl
  c145 := by kernel_rfl
  c167 := by kernel_rfl
  c168 := by kernel_rfl
  c171 := by kernel_rfl
  c173 := by kernel_rfl
  c175 := by kernel_rfl
  c210 := by kernel_rfl
  c212 := by kernel_rfl
  c213 := by kernel_rfl
  c232 := by kernel_rfl
  c233 := by kernel_rfl
/-! ### strconv.ParseInt -/
noncomputable def strconv_ParseInt (s0 : ByteArray) (base1 : Int) (bitSize2 : Int) : Option (Int × Bool) := parseF s0 base1 bitSize2
set_option maxRecDepth 100000 in
theorem strconv_ParseInt.calls (s0 : ByteArray) (base1 : Int) (bitSize2 : Int) (w : World) (r : Int × Bool) (g_er : Gler w) (g_lo : Gllo w) (h : strconv_ParseInt s0 base1 bitSize2 = some r) :
    Calls Tryd.prog 46 #[(.string s0), (.int .i64 base1), (.int .i64 bitSize2)] w fun e w' => ∃ v, e = .returned v ∧ (∃ (ev0 : Value), ErrIs r.2 ev0 ∧ v = .tuple #[(.int .i64 r.1), ev0] ∧ Mem w [] [] w') := by
  rw [strconv_ParseInt] at h
  exact parse_calls lay_strconv_ParseInt g_lo.lo s0 base1 bitSize2 w r g_er.es g_er.er h

/-! ### impl.number -/
noncomputable def impl_number.k_3 (t_1 : Int × Bool) (q_2 : Bool) : Option (Int × Bool) := (if q_2 = true then some (0, false) else some (t_1.1, true))
noncomputable def impl_number (s0 : ByteArray) (most1 : Int) : Option (Int × Bool) := (strconv_ParseInt s0 10 64).bind fun t_1 => (if t_1.2 = true then impl_number.k_3 t_1 true else (impl_decimal t_1.1).bind fun t_4 => (if (!(t_4.toList == s0.toList)) = true then impl_number.k_3 t_1 true else (impl_within t_1.1 0 most1).bind fun t_5 => impl_number.k_3 t_1 (!t_5)))
set_option maxRecDepth 100000 in
theorem impl_number.calls (s0 : ByteArray) (most1 : Int) (w : World) (r : Int × Bool) (g_er : Gler w) (g_lo : Gllo w) (g_pw : Glpw w) (h : impl_number s0 most1 = some r) :
    Calls Tryd.prog 32 #[(.string s0), (.int .i64 most1)] w fun e w' => ∃ v, e = .returned v ∧ (v = .tuple #[(.int .i64 r.1), (.bool r.2)] ∧ Mem w [] [] w') := by
  rw [impl_number] at h
  refine enter (args := [(.string s0), (.int .i64 most1)]) Tryd.func32 rfl Tryd.ntmps32 (by kernel_rfl) (L := []) (W := []) (Mem.start w) ?_
  refine jc_seq ?_
  refine jc_region ?_
  refine jo_f [(0, 0), (0, 0)] (by kernel_rfl) ?_
  refine jo_end (by kernel_rfl) ?_
  refine jx_then ?_
  refine jc_seq ?_
  refine jc_region ?_
  refine jo_f [(0, 0)] (by kernel_rfl) ?_
  obtain ⟨t_1, ht_1, h⟩ := bd h
  refine toO (by kernel_rfl) (p_call 0 46 #[(.string s0), (.int .i64 10), (.int .i64 64)] (by kernel_rfl) (by kernel_rfl) (fun w hm => strconv_ParseInt.calls s0 10 64 w _ (g_er.keep hm) (g_lo.keep hm) ht_1) ?_)
  rintro w v w' hm ⟨ev_2, hev_3, rfl, hm'⟩
  refine ⟨_, hm.app hm', jkO ?_⟩
  clear hm hm'
  refine jo_f [(0, 0), (0, 0), (0, 0), (0, 0), (0, 0)] (by kernel_rfl) ?_
  refine jo_end (by kernel_rfl) ?_
  refine jx_then ?_
  refine jc_seq ?_
  refine jc_seq ?_
  refine jc_meet (fun (j : Bool) => match j with | q_2 => impl_number.k_3 t_1 q_2 = some r) (fun (j : Bool) => match j with | q_2 => [(4, [], (.int .i64 0)), (5, [], (.bool false)), (6, [], (.int .i64 t_1.1)), (26, [], (.bool q_2))]) (fun (j : Bool) => match j with | q_2 => []) ?_ ?_
  · refine jc_region ?_
    refine jo_f [(0, 0)] (by kernel_rfl) ?_
    refine toO (by kernel_rfl) (p_v 0 (by kernel_rfl) _ (fun w hm => err_ne (ev := ev_2) (b := t_1.2) (by kernel_rfl) hev_3) (jkO ?_))
    refine jo_f [(0, 0), (0, 1)] (by kernel_rfl) ?_
    refine jo_split 15 t_1.2 (by kernel_rfl) (fun hc_18 => ?_) (fun hc_18 => ?_)
    · replace h := ifT hc_18 h
      refine jo_f [(0, 3), (0, 3), (0, 3), (0, 4), (0, 0), (0, 3), (0, 3), (0, 3), (0, 3), (0, 4)] (by kernel_rfl) ?_
      refine jo_end (by kernel_rfl) ?_
      exact jx_meet true h (by kernel_rfl) [] (by kernel_rfl) (by kernel_rfl)
    · replace h := ifF hc_18 h
      obtain ⟨t_4, ht_19, h⟩ := bd h
      refine toO (by kernel_rfl) (p_call 2 23 #[(.int .i64 t_1.1)] (by kernel_rfl) (by kernel_rfl) (fun w hm => impl_decimal.calls t_1.1 w _ (g_pw.keep hm) ht_19) ?_)
      rintro w v w' hm ⟨rfl, hm'⟩
      refine ⟨_, hm.app hm', jkO ?_⟩
      clear hm hm'
      refine jo_f [(0, 2), (0, 2), (0, 5), (0, 0), (0, 1), (0, 1)] (by kernel_rfl) ?_
      refine jo_split 21 (!(t_4.toList == s0.toList)) (by kernel_rfl) (fun hc_20 => ?_) (fun hc_20 => ?_)
      · replace h := ifT hc_20 h
        refine jo_f [(0, 3), (0, 3), (0, 4)] (by kernel_rfl) ?_
        refine jo_end (by kernel_rfl) ?_
        exact jx_meet true h (by kernel_rfl) [] (by kernel_rfl) (by kernel_rfl)
      · replace h := ifF hc_20 h
        obtain ⟨t_5, ht_21, h⟩ := bd h
        refine toO (by kernel_rfl) (p_call 2 37 #[(.int .i64 t_1.1), (.int .i64 0), (.int .i64 most1)] (by kernel_rfl) (by kernel_rfl) (fun w hm => impl_within.calls t_1.1 0 most1 w _ ht_21) ?_)
        rintro w v w' hm ⟨rfl, hm'⟩
        refine ⟨_, hm.app hm', jkO ?_⟩
        clear hm hm'
        refine jo_f [(0, 2), (0, 5)] (by kernel_rfl) ?_
        refine jo_end (by kernel_rfl) ?_
        exact jx_meet (!t_5) h (by kernel_rfl) [] (by kernel_rfl) (by kernel_rfl)
  · rintro q_2 h
    replace h : impl_number.k_3 t_1 q_2 = some r := h
    rw [impl_number.k_3] at h
    refine jx_then ?_
    refine jc_cond q_2 (by kernel_rfl) (fun hc_17 => ?_) (fun hc_17 => ?_)
    · replace h := ifT hc_17 h
      refine jc_seq ?_
      refine jc_region ?_
      refine jo_f [(0, 0), (0, 0)] (by kernel_rfl) ?_
      refine jo_end (by kernel_rfl) ?_
      refine jx_then ?_
      refine jc_ret ?_
      refine jx_thenr ?_
      obtain rfl := Option.some.inj h
      exact jx_ret [] (.tuple #[(.int .i64 0), (.bool false)]) [] rfl (by kernel_rfl) (by kernel_rfl) (fun w hm => ⟨rfl, hm.pick [] (by kernel_rfl) (by kernel_rfl)⟩)
    · replace h := ifF hc_17 h
      refine jc_skip ?_
      refine jx_then ?_
      refine jc_seq ?_
      refine jc_region ?_
      refine jo_f [(0, 0), (0, 0), (0, 0)] (by kernel_rfl) ?_
      refine jo_end (by kernel_rfl) ?_
      refine jx_then ?_
      refine jc_ret ?_
      obtain rfl := Option.some.inj h
      exact jx_ret [] (.tuple #[(.int .i64 t_1.1), (.bool true)]) [] rfl (by kernel_rfl) (by kernel_rfl) (fun w hm => ⟨rfl, hm.pick [] (by kernel_rfl) (by kernel_rfl)⟩)

/-! ### impl.ReadActs -/
noncomputable def impl_ReadActs.k_12 (xs_1 : List GAct) (i_6 : Int) (a_11 : Arr 4 Int) : Option (((List GAct)) ⊕ (((List GAct) × Int))) := (ix a_11.1 0).bind fun x_13 => (ix a_11.1 1).bind fun x_14 => (ix a_11.1 2).bind fun x_15 => (ix a_11.1 3).bind fun x_16 => (if xs_1.length + ([(⟨(w8 i_6), x_13, x_14, x_15, x_16⟩ : GAct)] : List GAct).length ≤ 4294967296 then some (.inl (xs_1 ++ ([(⟨(w8 i_6), x_13, x_14, x_15, x_16⟩ : GAct)] : List GAct))) else none)
noncomputable def impl_ReadActs.l_19 (t_5 : (List ByteArray)) : ((Arr 4 Int) × Int) → Option (((Arr 4 Int) × Int) ⊕ (((List GAct) × Int) ⊕ (Arr 4 Int)))
  | (a_17, i_18) => (if (decide (i_18 < (((t_5.length - (1 : Int).toNat) : Nat) : Int))) = true then (ix (t_5.drop (1 : Int).toNat) i_18).bind fun x_21 => (impl_number x_21 1000000).bind fun t_22 => (if (!t_22.2) = true then some (.inr (.inl ([], 5))) else (ix a_17.1 i_18).bind fun x_23 => some (.inl ((Arr.set a_17 i_18 t_22.1), (w64 (i_18 + 1))))) else some (.inr (.inr a_17)))
noncomputable def impl_ReadActs.k_10 (xs_1 : List GAct) (t_5 : (List ByteArray)) (i_6 : Int) (a_7 : Arr 4 Int) (q_9 : Bool) : Option (((List GAct)) ⊕ (((List GAct) × Int))) := (if q_9 = true then some (.inr ([], 5)) else (if 0 ≤ (1 : Int) ∧ (1 : Int) ≤ (t_5.length : Int) then (loop (impl_ReadActs.l_19 t_5) (a_7, 0)).bind fun t_20 => match t_20 with | .inl p => some (.inr p) | .inr p => impl_ReadActs.k_12 xs_1 i_6 p else none))
noncomputable def impl_ReadActs.k_8 (xs_1 : List GAct) (t_5 : (List ByteArray)) (i_6 : Int) (a_7 : Arr 4 Int) : Option (((List GAct)) ⊕ (((List GAct) × Int))) := (if (decide (i_6 < 0)) = true then impl_ReadActs.k_10 xs_1 t_5 i_6 a_7 true else (impl_usedBy).bind fun t_24 => (ix t_24 i_6).bind fun x_25 => impl_ReadActs.k_10 xs_1 t_5 i_6 a_7 (((t_5.length : Int) != (w64 (x_25 + 1))) || ((xs_1.length : Int) == 60)))
noncomputable def impl_ReadActs.l_2 (y_3619 : ByteArray) : (List GAct) → Option (((List GAct)) ⊕ (((List GAct) × Int)))
  | xs_1 => (strings_TrimSuffix y_3619 (ByteArray.mk #[10])).bind fun t_4 => (strings_Split t_4 (ByteArray.mk #[32])).bind fun t_5 => (ix t_5 0).bind fun x_26 => (impl_actWords).bind fun t_27 => (slices_Index_string t_27 x_26).bind fun t_28 => impl_ReadActs.k_8 xs_1 t_5 t_28 (Arr.rep 4 0)
noncomputable def impl_ReadActs.k_29 (text0 : ByteArray) (xs_1 : List GAct) : Option ((List GAct) × Int) := (impl_ActsText xs_1).bind fun t_30 => (if (!(t_30.toList == text0.toList)) = true then some ([], 5) else some (xs_1, 0))
noncomputable def impl_ReadActs (text0 : ByteArray) : Option ((List GAct) × Int) := (if text0.size ≤ 4294967296 then (seqO impl_ReadActs.l_2 (linesL text0) ([] : List GAct)).bind fun t_3 => match t_3 with | .inl p => impl_ReadActs.k_29 text0 p | .inr p => some p else none)
set_option maxRecDepth 100000 in
set_option maxHeartbeats 8000000 in
theorem impl_ReadActs.calls (text0 : ByteArray) (w : World) (r : (List GAct) × Int) (g_er : Gler w) (g_lo : Gllo w) (g_ml : Glml w) (g_pw : Glpw w) (h : impl_ReadActs text0 = some r) :
    Calls Tryd.prog 11 #[(.string text0)] w fun e w' => ∃ v, e = .returned v ∧ (∃ (o0 : Option Nat) (c0 : Nat) (s0 : List Value) (n0 : Nat), r.1.length = n0 ∧ (o0 ≠ none → n0 ≤ c0 ∧ s0.length = (c0 - n0) * 5) ∧ (o0 = none → r.1 = [] ∧ c0 = 0) ∧ v = .tuple #[.slice (o0.map fun b => ⟨b, 0, none⟩) n0 c0, (.int .i64 r.2)] ∧ Mem w [] [⟨o0, 37, row encGAct r.1 s0⟩] w') := by
  rw [impl_ReadActs] at h
  refine enterM (args := [(.string text0)]) Tryd.func11 rfl Tryd.ntmps11 (by kernel_rfl) (L := []) (W := []) (Mem.start w) ?_
  refine jc_seq ?_
  refine jc_region ?_
  refine toO (by kernel_rfl) (p_a 0 [0] (by kernel_rfl) (fun b => by kernel_rfl) (fun b_1 => jkO ?_))
  refine toO (by kernel_rfl) (p_a 0 [0] (by kernel_rfl) (fun b => by kernel_rfl) (fun b_2 => jkO ?_))
  refine jo_end (by kernel_rfl) ?_
  refine jx_then ?_
  refine jc_seq ?_
  refine jc_region ?_
  refine toO (by kernel_rfl) (p_a 0 [0] (by kernel_rfl) (fun b => by kernel_rfl) (fun b_3 => jkO ?_))
  refine toO (by kernel_rfl) (p_a 0 [0] (by kernel_rfl) (fun b => by kernel_rfl) (fun b_4 => jkO ?_))
  refine toO (by kernel_rfl) (p_s 0 [3] (by kernel_rfl) (by kernel_rfl) (jkO ?_))
  refine jo_end (by kernel_rfl) ?_
  refine jx_then ?_
  refine jc_seq ?_
  refine jc_seq ?_
  refine jc_region ?_
  refine jo_f [(0, 0)] (by kernel_rfl) ?_
  refine toO (by kernel_rfl) (p_call 0 28 #[(.string text0)] (by kernel_rfl) (by kernel_rfl) (fun w hm => lines42.calls text0 w) ?_)
  rintro w v w' hm ⟨b_2414, rfl, hm'⟩
  refine ⟨_, hm.app (N := [⟨some b_2414, 9, [(.string text0)]⟩]) hm', jkO ?_⟩
  clear hm hm'
  refine jo_end (by kernel_rfl) ?_
  refine jx_then ?_
  refine jc_block ?_
  obtain ⟨hl_4826, h⟩ := ifS h
  obtain ⟨t_3, ht_4825, hr_4420⟩ := bd h
  refine jc_env [(0, [], (.string text0)), (2, [], (.pointer (some ⟨b_1, 0, none⟩))), (3, [], (.pointer (some ⟨b_2, 0, none⟩))), (4, [], (.pointer (some ⟨b_4, 0, none⟩))), (15, [], (.func (.func 42) #[] #[(.pointer (some ⟨b_2414, 0, none⟩))]))] (by kernel_rfl) ?_
  refine jc_range encL (fun (s : (List GAct)) (x : (Option Nat) × Nat × (List Value) × Nat) => match s, x with | xs_1, ⟨o_4414, cap_4415, sp_4416, n_4417⟩ => (xs_1.length = n_4417) ∧ ((o_4414 ≠ none → n_4417 ≤ cap_4415 ∧ sp_4416.length = (cap_4415 - n_4417) * 5)) ∧ ((o_4414 = none → xs_1 = [] ∧ cap_4415 = 0))) (fun (k_ : Nat) (s : (List GAct)) (x : (Option Nat) × Nat × (List Value) × Nat) => match s, x with | xs_1, ⟨o_4414, cap_4415, sp_4416, n_4417⟩ => [⟨some b_1, 25, [(.slice none 0 0)]⟩, ⟨some b_2, 2, [(.int .i64 0)]⟩, ⟨o_4414, 37, row encGAct xs_1 sp_4416⟩, ⟨some b_4, 25, [(.slice (o_4414.map fun b => ⟨b, 0, none⟩) n_4417 cap_4415)]⟩, ⟨some b_2414, 9, [(.string (lnRest text0 k_))]⟩]) (fun (y_3619 : ByteArray) => [(0, [], (.string text0)), (2, [], (.pointer (some ⟨b_1, 0, none⟩))), (3, [], (.pointer (some ⟨b_2, 0, none⟩))), (4, [], (.pointer (some ⟨b_4, 0, none⟩))), (5, [], (.string y_3619)), (15, [], (.func (.func 42) #[] #[(.pointer (some ⟨b_2414, 0, none⟩))])), (16, [], (.string y_3619))]) (linesH b_2414 9 text0) (linesSt b_2414 9 text0) ht_4825 ⟨(some b_3), 0, [], 0⟩ ⟨rfl, (fun _ => ⟨Nat.le_refl _, by simp⟩), (fun e => nomatch e)⟩ (by kernel_rfl) (enters_of Tryd.func42 (by kernel_rfl) rfl) (lines42.iter b_2414 text0 hl_4826) (fun _ => rfl) (fun _ => by kernel_rfl) [0, 1, 2, 3, 4] (by kernel_rfl) (by kernel_rfl) ?_ ?_ ?_ ?_ ?_
  · rintro k_ xs_1 ⟨o_4414, cap_4415, sp_4416, n_4417⟩ _ _ w b o _ hm hne
    exact lines_Hk hm hne 4 rfl
  · rintro k_ xs_1 ⟨o_4414, cap_4415, sp_4416, n_4417⟩ _ _ w w2 b o o2 _ _ hm ho hb hW hst
    exact lines_Stk 4 rfl rfl hm ho hb hW hst
  · rintro w1_ W1_ y_3619 _ xs_1 ⟨o_4414, cap_4415, sp_4416, n_4417⟩ Q_ hno_ hq_
    refine jr_region (by kernel_rfl) ?_
    refine jo_f [(0, 0)] (by kernel_rfl) ?_
    refine jo_end (by kernel_rfl) ?_
    exact jx_to [(0, [], (.string text0)), (2, [], (.pointer (some ⟨b_1, 0, none⟩))), (3, [], (.pointer (some ⟨b_2, 0, none⟩))), (4, [], (.pointer (some ⟨b_4, 0, none⟩))), (5, [], (.string y_3619)), (15, [], (.func (.func 42) #[] #[(.pointer (some ⟨b_2414, 0, none⟩))])), (16, [], (.string y_3619))] [0, 1, 2, 3, 4] (by kernel_rfl) (by kernel_rfl) (by kernel_rfl) hq_
  · rintro w1_ W1_ k_ xs_1 ⟨o_4414, cap_4415, sp_4416, n_4417⟩ y_3619 o_4421 hK_ ⟨rfl, hs_4418, ho_4419⟩ _ h
    rw [impl_ReadActs.l_2] at h
    refine jr_block ?_
    refine jr_seq ?_
    refine jr_region (by kernel_rfl) ?_
    refine jo_f [(0, 0)] (by kernel_rfl) ?_
    obtain ⟨t_4, ht_4619, h⟩ := bd h
    refine toO (by kernel_rfl) (p_call 0 30 #[(.string y_3619), (.string (ByteArray.mk #[10]))] (by kernel_rfl) (by kernel_rfl) (fun w hm => strings_TrimSuffix.calls y_3619 (ByteArray.mk #[10]) w _ ht_4619) ?_)
    rintro w v w' hm ⟨rfl, hm'⟩
    refine ⟨_, hm.app hm', jkO ?_⟩
    clear hm hm'
    obtain ⟨t_5, ht_4620, h⟩ := bd h
    refine toO (by kernel_rfl) (p_call 0 29 #[(.string t_4), (.string (ByteArray.mk #[32]))] (by kernel_rfl) (by kernel_rfl) (fun w hm => strings_Split.calls t_4 (ByteArray.mk #[32]) w _ (g_ml.keepB (hK_ rfl _ _ hm)) ht_4620) ?_)
    rintro w v w' hm ⟨o_4621, cap_4622, sp_4623, _, rfl, hs_4624, ho_4625, rfl, hm'⟩
    refine ⟨_, hm.app hm', jkO ?_⟩
    clear hm hm'
    refine jo_f [(0, 0)] (by kernel_rfl) ?_
    refine jo_end (by kernel_rfl) ?_
    refine jr_then ?_
    refine jr_seq ?_
    refine jr_meet (fun (j : Int × (Arr 4 Int) × Nat) => match j with | ⟨i_6, a_7, b_4645⟩ => impl_ReadActs.k_8 xs_1 t_5 i_6 a_7 = some o_4421) (fun (j : Int × (Arr 4 Int) × Nat) => match j with | ⟨i_6, a_7, b_4645⟩ => [(0, [], (.string text0)), (2, [], (.pointer (some ⟨b_1, 0, none⟩))), (3, [], (.pointer (some ⟨b_2, 0, none⟩))), (4, [], (.pointer (some ⟨b_4, 0, none⟩))), (5, [], (.string y_3619)), (6, [], (.slice (o_4621.map fun b => ⟨b, 0, none⟩) t_5.length cap_4622)), (7, [], (.int .i64 i_6)), (8, [], (.pointer (some ⟨b_4645, 0, none⟩)))]) (fun (j : Int × (Arr 4 Int) × Nat) => match j with | ⟨i_6, a_7, b_4645⟩ => [⟨some b_1, 25, [(.slice none 0 0)]⟩, ⟨some b_2, 2, [(.int .i64 0)]⟩, ⟨o_4414, 37, row encGAct xs_1 sp_4416⟩, ⟨some b_4, 25, [(.slice (o_4414.map fun b => ⟨b, 0, none⟩) xs_1.length cap_4415)]⟩, ⟨some b_2414, 9, [(.string (lnRest text0 (k_ + 1)))]⟩, ⟨o_4621, 9, row encStr t_5 sp_4623⟩, ⟨(some b_4645), 69, row encI64 a_7.1 []⟩]) ?_ ?_
    · refine jr_draw (by kernel_rfl) [⟨some b_1, 25, [(.slice none 0 0)]⟩, ⟨some b_2, 2, [(.int .i64 0)]⟩, ⟨o_4414, 37, row encGAct xs_1 sp_4416⟩, ⟨some b_4, 25, [(.slice (o_4414.map fun b => ⟨b, 0, none⟩) xs_1.length cap_4415)]⟩, ⟨some b_2414, 9, [(.string (lnRest text0 (k_ + 1)))]⟩, ⟨o_4621, 9, row encStr t_5 sp_4623⟩] 9 (by kernel_rfl) (by kernel_rfl) ?_
      refine jd_f [⟨1, 0, 0⟩, ⟨5, 0, 0⟩] 7 (by kernel_rfl) (by kernel_rfl) (fun w h => h.pick [0, 1, 2, 3, 4, 5] (by kernel_rfl) (by kernel_rfl)) (by kernel_rfl) (by kernel_rfl) ?_
      obtain ⟨x_26, hx_4801, h⟩ := bd h
      refine jd_v 2 0 (by kernel_rfl) (fun w h => h.pick [0, 1, 2, 3, 4, 5] (by kernel_rfl) (by kernel_rfl)) (by kernel_rfl) (by kernel_rfl) _ (fun w hm => idx_run (a := (o_4621.map fun b => ⟨b, 0, none⟩)) (len := t_5.length) (s := 1) (j := 0) (by kernel_rfl) (ix_some hx_4801).1 (ltn hx_4801 rfl) (spo ho_4625 hx_4801)) ?_
      refine jd_v 3 0 (by kernel_rfl) (fun w h => h.pick [0, 1, 2, 3, 4, 5] (by kernel_rfl) (by kernel_rfl)) (by kernel_rfl) (by kernel_rfl) _ (fun w hm => ld_run (b := aB (o_4621.map fun b => ⟨b, 0, none⟩)) (off := (aO (o_4621.map fun b => ⟨b, 0, none⟩) + (0 : Int).toNat * 1)) (s := 1) (agg := false) (vs := (encStr x_26)) (by kernel_rfl) (by kernel_rfl) (.inr rfl) ((hm.ownRow (hh := 5) (o := o_4621) (T := 9) (enc := encStr) (xs := t_5) (sp := sp_4623) (by kernel_rfl) (fun e => (ho_4625 e).1) encStr_len).at hx_4801)) ?_
      refine toD2 0 6 (by kernel_rfl) ?_ ?_
      · obtain ⟨t_27, ht_4802, h⟩ := bd h
        refine p_call 0 20 #[] (by kernel_rfl) (by kernel_rfl) (fun w hm => impl_actWords.calls w _ ht_4802) ?_
        rintro w v w' hm ⟨o_4803, cap_4804, sp_4805, _, rfl, hs_4806, ho_4807, rfl, hm'⟩
        refine ⟨_, hm.app hm', jkD (fun w h => h.pick [0, 1, 2, 3, 4, 5] (by kernel_rfl) (by kernel_rfl)) ?_⟩
        clear hm hm'
        refine toD2 4 6 (by kernel_rfl) ?_ ?_
        · obtain ⟨t_28, ht_4808, h⟩ := bd h
          refine p_call 0 31 #[(.slice (o_4803.map fun b => ⟨b, 0, none⟩) t_27.length cap_4804), (.string x_26)] (by kernel_rfl) (by kernel_rfl) (fun w hm => slices_Index_string.calls t_27 x_26 w _ (o_4803.map fun b => ⟨b, 0, none⟩) t_27.length cap_4804 (hm.ownRow (hh := 6) (o := o_4803) (T := 9) (enc := encStr) (xs := t_27) (sp := sp_4805) (by kernel_rfl) (fun e => (ho_4807 e).1) encStr_len) rfl ht_4808) ?_
          rintro w v w' hm ⟨rfl, hm'⟩
          refine ⟨_, hm.app hm', jkD (fun w h => h.pick [0, 1, 2, 3, 4, 5] (by kernel_rfl) (by kernel_rfl)) ?_⟩
          clear hm hm'
          refine toD 6 (by kernel_rfl) (p_a 0 [0] (by kernel_rfl) (fun b => by kernel_rfl) (fun b_4809 => jkD (fun w h => h.pick [0, 1, 2, 3, 4, 5] (by kernel_rfl) (by kernel_rfl)) ?_))
          refine jd_f [⟨7, 0, 0⟩] 1 (by kernel_rfl) (by kernel_rfl) (fun w h => h.pick [0, 1, 2, 3, 4, 5] (by kernel_rfl) (by kernel_rfl)) (by kernel_rfl) (by kernel_rfl) ?_
          refine toD 8 (by kernel_rfl) (p_sA 0 7 b_4809 4 1 69 encI64 (Arr.rep 4 0) (Arr.rep 4 0) (by kernel_rfl) (by kernel_rfl) (by kernel_rfl) encI64_len encI64_cell (by kernel_rfl) (jkD (fun w h => h.pick [0, 1, 2, 3, 4, 5] (by kernel_rfl) (by kernel_rfl)) ?_))
          refine jd_end (by kernel_rfl) ?_
          exact jx_meet ⟨t_28, (Arr.rep 4 0), b_4809⟩ h (by kernel_rfl) [0, 1, 2, 3, 4, 5, 7] (by kernel_rfl) (by kernel_rfl)
        · refine p_a 0 [0] (by kernel_rfl) (fun b => by kernel_rfl) (fun b_4810 => jkD (fun w h => h.pick [0, 1, 2, 3, 4, 5] (by kernel_rfl) (by kernel_rfl)) ?_)
          obtain ⟨t_28, ht_4811, h⟩ := bd h
          refine toD 4 (by kernel_rfl) (p_call 0 31 #[(.slice (o_4803.map fun b => ⟨b, 0, none⟩) t_27.length cap_4804), (.string x_26)] (by kernel_rfl) (by kernel_rfl) (fun w hm => slices_Index_string.calls t_27 x_26 w _ (o_4803.map fun b => ⟨b, 0, none⟩) t_27.length cap_4804 (hm.ownRow (hh := 6) (o := o_4803) (T := 9) (enc := encStr) (xs := t_27) (sp := sp_4805) (by kernel_rfl) (fun e => (ho_4807 e).1) encStr_len) rfl ht_4811) ?_)
          rintro w v w' hm ⟨rfl, hm'⟩
          refine ⟨_, hm.app hm', jkD (fun w h => h.pick [0, 1, 2, 3, 4, 5] (by kernel_rfl) (by kernel_rfl)) ?_⟩
          clear hm hm'
          refine jd_f [⟨7, 0, 0⟩] 1 (by kernel_rfl) (by kernel_rfl) (fun w h => h.pick [0, 1, 2, 3, 4, 5] (by kernel_rfl) (by kernel_rfl)) (by kernel_rfl) (by kernel_rfl) ?_
          refine toD 8 (by kernel_rfl) (p_sA 0 7 b_4810 4 1 69 encI64 (Arr.rep 4 0) (Arr.rep 4 0) (by kernel_rfl) (by kernel_rfl) (by kernel_rfl) encI64_len encI64_cell (by kernel_rfl) (jkD (fun w h => h.pick [0, 1, 2, 3, 4, 5] (by kernel_rfl) (by kernel_rfl)) ?_))
          refine jd_end (by kernel_rfl) ?_
          exact jx_meet ⟨t_28, (Arr.rep 4 0), b_4810⟩ h (by kernel_rfl) [0, 1, 2, 3, 4, 5, 7] (by kernel_rfl) (by kernel_rfl)
      · refine p_a 0 [0] (by kernel_rfl) (fun b => by kernel_rfl) (fun b_4812 => jkD (fun w h => h.pick [0, 1, 2, 3, 4, 5] (by kernel_rfl) (by kernel_rfl)) ?_)
        obtain ⟨t_27, ht_4813, h⟩ := bd h
        refine toD 0 (by kernel_rfl) (p_call 0 20 #[] (by kernel_rfl) (by kernel_rfl) (fun w hm => impl_actWords.calls w _ ht_4813) ?_)
        rintro w v w' hm ⟨o_4814, cap_4815, sp_4816, _, rfl, hs_4817, ho_4818, rfl, hm'⟩
        refine ⟨_, hm.app hm', jkD (fun w h => h.pick [0, 1, 2, 3, 4, 5] (by kernel_rfl) (by kernel_rfl)) ?_⟩
        clear hm hm'
        obtain ⟨t_28, ht_4819, h⟩ := bd h
        refine toD 4 (by kernel_rfl) (p_call 0 31 #[(.slice (o_4814.map fun b => ⟨b, 0, none⟩) t_27.length cap_4815), (.string x_26)] (by kernel_rfl) (by kernel_rfl) (fun w hm => slices_Index_string.calls t_27 x_26 w _ (o_4814.map fun b => ⟨b, 0, none⟩) t_27.length cap_4815 (hm.ownRow (hh := 7) (o := o_4814) (T := 9) (enc := encStr) (xs := t_27) (sp := sp_4816) (by kernel_rfl) (fun e => (ho_4818 e).1) encStr_len) rfl ht_4819) ?_)
        rintro w v w' hm ⟨rfl, hm'⟩
        refine ⟨_, hm.app hm', jkD (fun w h => h.pick [0, 1, 2, 3, 4, 5] (by kernel_rfl) (by kernel_rfl)) ?_⟩
        clear hm hm'
        refine jd_f [⟨7, 0, 0⟩] 1 (by kernel_rfl) (by kernel_rfl) (fun w h => h.pick [0, 1, 2, 3, 4, 5] (by kernel_rfl) (by kernel_rfl)) (by kernel_rfl) (by kernel_rfl) ?_
        refine toD 8 (by kernel_rfl) (p_sA 0 6 b_4812 4 1 69 encI64 (Arr.rep 4 0) (Arr.rep 4 0) (by kernel_rfl) (by kernel_rfl) (by kernel_rfl) encI64_len encI64_cell (by kernel_rfl) (jkD (fun w h => h.pick [0, 1, 2, 3, 4, 5] (by kernel_rfl) (by kernel_rfl)) ?_))
        refine jd_end (by kernel_rfl) ?_
        exact jx_meet ⟨t_28, (Arr.rep 4 0), b_4812⟩ h (by kernel_rfl) [0, 1, 2, 3, 4, 5, 6] (by kernel_rfl) (by kernel_rfl)
    · rintro ⟨i_6, a_7, b_4645⟩ h
      replace h : impl_ReadActs.k_8 xs_1 t_5 i_6 a_7 = some o_4421 := h
      rw [impl_ReadActs.k_8] at h
      refine jr_then ?_
      refine jr_seq ?_
      refine jr_seq ?_
      refine jr_meet (fun (j : Bool) => match j with | q_9 => impl_ReadActs.k_10 xs_1 t_5 i_6 a_7 q_9 = some o_4421) (fun (j : Bool) => match j with | q_9 => [(0, [], (.string text0)), (2, [], (.pointer (some ⟨b_1, 0, none⟩))), (3, [], (.pointer (some ⟨b_2, 0, none⟩))), (4, [], (.pointer (some ⟨b_4, 0, none⟩))), (5, [], (.string y_3619)), (6, [], (.slice (o_4621.map fun b => ⟨b, 0, none⟩) t_5.length cap_4622)), (7, [], (.int .i64 i_6)), (8, [], (.pointer (some ⟨b_4645, 0, none⟩))), (42, [], (.bool q_9))]) (fun (j : Bool) => match j with | q_9 => [⟨some b_1, 25, [(.slice none 0 0)]⟩, ⟨some b_2, 2, [(.int .i64 0)]⟩, ⟨o_4414, 37, row encGAct xs_1 sp_4416⟩, ⟨some b_4, 25, [(.slice (o_4414.map fun b => ⟨b, 0, none⟩) xs_1.length cap_4415)]⟩, ⟨some b_2414, 9, [(.string (lnRest text0 (k_ + 1)))]⟩, ⟨o_4621, 9, row encStr t_5 sp_4623⟩, ⟨(some b_4645), 69, row encI64 a_7.1 []⟩]) ?_ ?_
      · refine jr_region (by kernel_rfl) ?_
        refine jo_f [(0, 0), (0, 0), (0, 0), (0, 1), (0, 1)] (by kernel_rfl) ?_
        refine jo_split 28 (decide (i_6 < 0)) (by kernel_rfl) (fun hc_4793 => ?_) (fun hc_4793 => ?_)
        · replace h := ifT hc_4793 h
          refine jo_f [(0, 3), (0, 3), (0, 3), (0, 3), (0, 3), (0, 3), (0, 4), (0, 0), (0, 3), (0, 3), (0, 3), (0, 4)] (by kernel_rfl) ?_
          refine jo_end (by kernel_rfl) ?_
          exact jx_meet true h (by kernel_rfl) [0, 1, 2, 3, 4, 5, 6] (by kernel_rfl) (by kernel_rfl)
        · replace h := ifF hc_4793 h
          obtain ⟨t_24, ht_4794, h⟩ := bd h
          refine toO (by kernel_rfl) (p_call 2 22 #[] (by kernel_rfl) (by kernel_rfl) (fun w hm => impl_usedBy.calls w _ ht_4794) ?_)
          rintro w v w' hm ⟨o_4795, cap_4796, sp_4797, _, rfl, hs_4798, ho_4799, rfl, hm'⟩
          refine ⟨_, hm.app hm', jkO ?_⟩
          clear hm hm'
          refine jo_f [(0, 2)] (by kernel_rfl) ?_
          obtain ⟨x_25, hx_4800, h⟩ := bd h
          refine toO (by kernel_rfl) (p_idx 2 (o_4795.map fun b => ⟨b, 0, none⟩) t_24.length i_6 1 (by kernel_rfl) (by kernel_rfl) (ix_some hx_4800).1 (ltn hx_4800 rfl) (spo ho_4799 hx_4800) (jkO ?_))
          refine toO (by kernel_rfl) (p_ld 2 (aB (o_4795.map fun b => ⟨b, 0, none⟩)) (aO (o_4795.map fun b => ⟨b, 0, none⟩) + i_6.toNat * 1) false (encI64 x_25) (by kernel_rfl) (by kernel_rfl) (by kernel_rfl) (fun w hm => ((hm.ownRow (hh := 7) (o := o_4795) (T := 3) (enc := encI64) (xs := t_24) (sp := sp_4797) (by kernel_rfl) (fun e => (ho_4799 e).1) encI64_len).at hx_4800)) (jkO ?_))
          refine jo_f [(0, 2), (0, 2), (0, 5), (0, 0), (3, 1), (0, 1), (0, 1), (0, 0)] (by kernel_rfl) ?_
          refine jo_end (by kernel_rfl) ?_
          exact jx_meet (((t_5.length : Int) != (w64 (x_25 + 1))) || ((xs_1.length : Int) == 60)) h (by kernel_rfl) [0, 1, 2, 3, 4, 5, 6] (by kernel_rfl) (by kernel_rfl)
      · rintro q_9 h
        replace h : impl_ReadActs.k_10 xs_1 t_5 i_6 a_7 q_9 = some o_4421 := h
        rw [impl_ReadActs.k_10] at h
        refine jr_then ?_
        refine jr_cond q_9 (by kernel_rfl) (fun hc_4671 => ?_) (fun hc_4671 => ?_)
        · replace h := ifT hc_4671 h
          refine jr_seq ?_
          refine jr_region (by kernel_rfl) ?_
          refine toO (by kernel_rfl) (p_s 0 [0] (by kernel_rfl) (by kernel_rfl) (jkO ?_))
          refine toO (by kernel_rfl) (p_s 0 [1] (by kernel_rfl) (by kernel_rfl) (jkO ?_))
          refine jo_end (by kernel_rfl) ?_
          refine jr_then ?_
          refine jr_ret ?_
          refine jx_thenr ?_
          refine jx_inr ?_
          refine jr_leaver ([], 5) (Option.some.inj h).symm (fun e_4673 df_ w2_ W2_ htl_4672 => ?_)
          subst e_4673
          replace hr_4420 := hr_4420
          refine jx_inr ?_
          refine jx_thenr ?_
          obtain rfl := Option.some.inj hr_4420
          refine jx_ghost 37 encGAct ?_
          exact jx_retM htl_4672 [0, 1] (.tuple #[(.slice none 0 0), (.int .i64 5)]) [(b_1, b_1), (b_2, b_2)] rfl (by kernel_rfl) (by kernel_rfl) (fun w hm => ⟨none, 0, [], 0, rfl, (fun e => absurd rfl e), (fun _ => ⟨rfl, rfl⟩), rfl, hm.pick [7] (by kernel_rfl) (by kernel_rfl)⟩)
        · replace h := ifF hc_4671 h
          refine jr_skip ?_
          refine jr_then ?_
          refine jr_seq ?_
          refine jr_seq ?_
          refine jr_region (by kernel_rfl) ?_
          refine jo_f [(0, 0)] (by kernel_rfl) ?_
          obtain ⟨hg_4727, h⟩ := gd h
          refine toO (by kernel_rfl) (p_slL 0 (o_4621.map fun b => ⟨b, 0, none⟩) t_5.length cap_4622 1 1 (by kernel_rfl) (by kernel_rfl) hg_4727.1 (Int.le_trans hg_4727.2 (Int.ofNat_le.2 (Nat.le_of_eq rfl))) (jkO ?_))
          refine jo_f [(0, 0), (0, 0)] (by kernel_rfl) ?_
          refine jo_end (by kernel_rfl) ?_
          refine jr_then ?_
          refine jr_meet (fun (j : (Arr 4 Int)) => match j with | a_11 => impl_ReadActs.k_12 xs_1 i_6 a_11 = some o_4421) (fun (j : (Arr 4 Int)) => match j with | a_11 => [(0, [], (.string text0)), (2, [], (.pointer (some ⟨b_1, 0, none⟩))), (3, [], (.pointer (some ⟨b_2, 0, none⟩))), (4, [], (.pointer (some ⟨b_4, 0, none⟩))), (5, [], (.string y_3619)), (7, [], (.int .i64 i_6)), (8, [], (.pointer (some ⟨b_4645, 0, none⟩)))]) (fun (j : (Arr 4 Int)) => match j with | a_11 => [⟨some b_1, 25, [(.slice none 0 0)]⟩, ⟨some b_2, 2, [(.int .i64 0)]⟩, ⟨o_4414, 37, row encGAct xs_1 sp_4416⟩, ⟨some b_4, 25, [(.slice (o_4414.map fun b => ⟨b, 0, none⟩) xs_1.length cap_4415)]⟩, ⟨some b_2414, 9, [(.string (lnRest text0 (k_ + 1)))]⟩, ⟨o_4621, 9, row encStr t_5 sp_4623⟩, ⟨(some b_4645), 69, row encI64 a_11.1 []⟩]) ?_ ?_
          · refine jr_block ?_
            obtain ⟨t_20, ht_4792, hr_4779⟩ := bd h
            refine jr_loop (fun (s : (Arr 4 Int) × Int) (x : Unit) => match s, x with | ⟨a_17, i_18⟩, _ => True) (fun (s : (Arr 4 Int) × Int) (x : Unit) => match s, x with | ⟨a_17, i_18⟩, _ => [(0, [], (.string text0)), (2, [], (.pointer (some ⟨b_1, 0, none⟩))), (3, [], (.pointer (some ⟨b_2, 0, none⟩))), (4, [], (.pointer (some ⟨b_4, 0, none⟩))), (5, [], (.string y_3619)), (7, [], (.int .i64 i_6)), (8, [], (.pointer (some ⟨b_4645, 0, none⟩))), (44, [], (.slice (pa (o_4621.map fun b => ⟨b, 0, none⟩) (1 : Int).toNat cap_4622 1) (t_5.length - (1 : Int).toNat) (cap_4622 - (1 : Int).toNat))), (45, [], (.int .i64 (((t_5.length - (1 : Int).toNat) : Nat) : Int))), (46, [], (.int .i64 i_18))]) (fun (s : (Arr 4 Int) × Int) (x : Unit) => match s, x with | ⟨a_17, i_18⟩, _ => [⟨some b_1, 25, [(.slice none 0 0)]⟩, ⟨some b_2, 2, [(.int .i64 0)]⟩, ⟨o_4414, 37, row encGAct xs_1 sp_4416⟩, ⟨some b_4, 25, [(.slice (o_4414.map fun b => ⟨b, 0, none⟩) xs_1.length cap_4415)]⟩, ⟨some b_2414, 9, [(.string (lnRest text0 (k_ + 1)))]⟩, ⟨o_4621, 9, row encStr t_5 sp_4623⟩, ⟨(some b_4645), 69, row encI64 a_17.1 []⟩]) ht_4792 () trivial (by kernel_rfl) [0, 1, 2, 3, 4, 5, 6] (by kernel_rfl) (by kernel_rfl) ?_
            rintro ⟨a_17, i_18⟩ _ y_4780 _ h
            rw [impl_ReadActs.l_19] at h
            refine jr_seq ?_
            refine jr_region (by kernel_rfl) ?_
            refine jo_f [(0, 0)] (by kernel_rfl) ?_
            refine jo_end (by kernel_rfl) ?_
            refine jr_then ?_
            refine jr_seq ?_
            refine jr_cond (decide (i_18 < (((t_5.length - (1 : Int).toNat) : Nat) : Int))) (by kernel_rfl) (fun hc_4782 => ?_) (fun hc_4782 => ?_)
            · replace h := ifT hc_4782 h
              refine jr_skip ?_
              refine jr_then ?_
              refine jr_seq ?_
              refine jr_block ?_
              refine jr_seq ?_
              refine jr_region (by kernel_rfl) ?_
              refine jo_f [(0, 0)] (by kernel_rfl) ?_
              obtain ⟨x_21, hx_4783, h⟩ := bd h
              refine toO (by kernel_rfl) (p_idx 0 (pa (o_4621.map fun b => ⟨b, 0, none⟩) (1 : Int).toNat cap_4622 1) (t_5.length - (1 : Int).toNat) i_18 1 (by kernel_rfl) (by kernel_rfl) (ix_some hx_4783).1 (ltn hx_4783 (tl_len rfl 1)) (spo_tl (o := o_4621) (m := 1) ho_4625 hx_4783) (jkO ?_))
              refine toO (by kernel_rfl) (p_ld 0 (aB (pa (o_4621.map fun b => ⟨b, 0, none⟩) (1 : Int).toNat cap_4622 1)) (aO (pa (o_4621.map fun b => ⟨b, 0, none⟩) (1 : Int).toNat cap_4622 1) + i_18.toNat * 1) false (encStr x_21) (by kernel_rfl) (by kernel_rfl) (by kernel_rfl) (fun w hm => (((hm.ownRow (hh := 5) (o := o_4621) (T := 9) (enc := encStr) (xs := t_5) (sp := sp_4623) (by kernel_rfl) (fun e => (ho_4625 e).1) encStr_len).tl ((1 : Int).toNat) cap_4622 (cap_le rfl hs_4624 ho_4625)).at hx_4783)) (jkO ?_))
              refine jo_f [(0, 0), (0, 0)] (by kernel_rfl) ?_
              refine jo_end (by kernel_rfl) ?_
              refine jr_then ?_
              refine jr_seq ?_
              refine jr_region (by kernel_rfl) ?_
              refine jo_f [(0, 0)] (by kernel_rfl) ?_
              obtain ⟨t_22, ht_4784, h⟩ := bd h
              refine toO (by kernel_rfl) (p_call 0 32 #[(.string x_21), (.int .i64 1000000)] (by kernel_rfl) (by kernel_rfl) (fun w hm => impl_number.calls x_21 1000000 w _ (g_er.keepB (hK_ rfl _ _ hm)) (g_lo.keepB (hK_ rfl _ _ hm)) (g_pw.keepB (hK_ rfl _ _ hm)) ht_4784) ?_)
              rintro w v w' hm ⟨rfl, hm'⟩
              refine ⟨_, hm.app hm', jkO ?_⟩
              clear hm hm'
              refine jo_f [(0, 0), (0, 0), (0, 0), (0, 0), (0, 0)] (by kernel_rfl) ?_
              refine jo_end (by kernel_rfl) ?_
              refine jr_then ?_
              refine jr_seq ?_
              refine jr_seq ?_
              refine jr_region (by kernel_rfl) ?_
              refine jo_f [(0, 0), (0, 0)] (by kernel_rfl) ?_
              refine jo_end (by kernel_rfl) ?_
              refine jr_then ?_
              refine jr_cond (!t_22.2) (by kernel_rfl) (fun hc_4786 => ?_) (fun hc_4786 => ?_)
              · replace h := ifT hc_4786 h
                refine jr_seq ?_
                refine jr_region (by kernel_rfl) ?_
                refine toO (by kernel_rfl) (p_s 0 [0] (by kernel_rfl) (by kernel_rfl) (jkO ?_))
                refine toO (by kernel_rfl) (p_s 0 [1] (by kernel_rfl) (by kernel_rfl) (jkO ?_))
                refine jo_end (by kernel_rfl) ?_
                refine jr_then ?_
                refine jr_ret ?_
                refine jx_thenr ?_
                refine jx_inr ?_
                refine jx_thenr ?_
                refine jx_leaver (.inl ([], 5)) (Option.some.inj h).symm (fun e_4789 => ?_)
                subst e_4789
                refine jx_inr ?_
                refine jx_thenr ?_
                refine jx_thenr ?_
                refine jx_inr ?_
                refine jr_leaver ([], 5) (Option.some.inj hr_4779).symm (fun e_4788 df_ w2_ W2_ htl_4787 => ?_)
                subst e_4788
                replace hr_4420 := hr_4420
                refine jx_inr ?_
                refine jx_thenr ?_
                obtain rfl := Option.some.inj hr_4420
                refine jx_ghost 37 encGAct ?_
                exact jx_retM htl_4787 [0, 1] (.tuple #[(.slice none 0 0), (.int .i64 5)]) [(b_1, b_1), (b_2, b_2)] rfl (by kernel_rfl) (by kernel_rfl) (fun w hm => ⟨none, 0, [], 0, rfl, (fun e => absurd rfl e), (fun _ => ⟨rfl, rfl⟩), rfl, hm.pick [7] (by kernel_rfl) (by kernel_rfl)⟩)
              · replace h := ifF hc_4786 h
                refine jr_skip ?_
                refine jr_then ?_
                refine jr_region (by kernel_rfl) ?_
                refine jo_f [(0, 0), (0, 0)] (by kernel_rfl) ?_
                obtain ⟨x_23, hx_4790, h⟩ := bd h
                refine toO (by kernel_rfl) (p_idx 0 (some ⟨b_4645, 0, none⟩) 4 i_18 1 (by kernel_rfl) (by kernel_rfl) (ix_some hx_4790).1 (ltn hx_4790 a_17.2) rfl (jkO ?_))
                refine toO (by kernel_rfl) (p_str 0 6 b_4645 69 encI64 a_17.1 [] i_18 t_22.1 1 0 [(.int .i64 t_22.1)] (by kernel_rfl) (by kernel_rfl) (by kernel_rfl) encI64_len hx_4790 (by kernel_rfl) (by kernel_rfl) (jkO ?_))
                refine jo_end (by kernel_rfl) ?_
                refine jx_inn ?_
                refine jr_then ?_
                refine jr_region (by kernel_rfl) ?_
                refine jo_f [(0, 0), (0, 0)] (by kernel_rfl) ?_
                refine jo_end (by kernel_rfl) ?_
                exact jx_back ((Arr.set a_17 i_18 t_22.1), (w64 (i_18 + 1))) () (Option.some.inj h).symm trivial [0, 1, 2, 3, 4, 5, 6] (by kernel_rfl) (by kernel_rfl) (by kernel_rfl)
            · replace h := ifF hc_4782 h
              refine jr_exit ?_
              refine jx_thenx ?_
              refine jx_leave (.inr a_17) (Option.some.inj h).symm (fun e_4791 => ?_)
              subst e_4791
              refine jx_ine ?_
              exact jx_meet a_17 hr_4779 (by kernel_rfl) [0, 1, 2, 3, 4, 5, 6] (by kernel_rfl) (by kernel_rfl)
          · rintro a_11 h
            replace h : impl_ReadActs.k_12 xs_1 i_6 a_11 = some o_4421 := h
            rw [impl_ReadActs.k_12] at h
            refine jr_then ?_
            refine jr_region (by kernel_rfl) ?_
            refine jo_f [(3, 0), (0, 0), (0, 0)] (by kernel_rfl) ?_
            obtain ⟨x_13, hx_4754, h⟩ := bd h
            refine toO (by kernel_rfl) (p_idx 0 (some ⟨b_4645, 0, none⟩) 4 0 1 (by kernel_rfl) (by kernel_rfl) (ix_some hx_4754).1 (ltn hx_4754 a_11.2) rfl (jkO ?_))
            refine toO (by kernel_rfl) (p_ld 0 (aB (some ⟨b_4645, 0, none⟩)) (aO (some ⟨b_4645, 0, none⟩) + (0 : Int).toNat * 1) false (encI64 x_13) (by kernel_rfl) (by kernel_rfl) (by kernel_rfl) (fun w hm => ((hm.ownRow (hh := 6) (o := (some b_4645)) (T := 69) (enc := encI64) (xs := a_11.1) (sp := []) (by kernel_rfl) (fun e => nomatch e) encI64_len).at hx_4754)) (jkO ?_))
            obtain ⟨x_14, hx_4755, h⟩ := bd h
            refine toO (by kernel_rfl) (p_idx 0 (some ⟨b_4645, 0, none⟩) 4 1 1 (by kernel_rfl) (by kernel_rfl) (ix_some hx_4755).1 (ltn hx_4755 a_11.2) rfl (jkO ?_))
            refine toO (by kernel_rfl) (p_ld 0 (aB (some ⟨b_4645, 0, none⟩)) (aO (some ⟨b_4645, 0, none⟩) + (1 : Int).toNat * 1) false (encI64 x_14) (by kernel_rfl) (by kernel_rfl) (by kernel_rfl) (fun w hm => ((hm.ownRow (hh := 6) (o := (some b_4645)) (T := 69) (enc := encI64) (xs := a_11.1) (sp := []) (by kernel_rfl) (fun e => nomatch e) encI64_len).at hx_4755)) (jkO ?_))
            obtain ⟨x_15, hx_4756, h⟩ := bd h
            refine toO (by kernel_rfl) (p_idx 0 (some ⟨b_4645, 0, none⟩) 4 2 1 (by kernel_rfl) (by kernel_rfl) (ix_some hx_4756).1 (ltn hx_4756 a_11.2) rfl (jkO ?_))
            refine toO (by kernel_rfl) (p_ld 0 (aB (some ⟨b_4645, 0, none⟩)) (aO (some ⟨b_4645, 0, none⟩) + (2 : Int).toNat * 1) false (encI64 x_15) (by kernel_rfl) (by kernel_rfl) (by kernel_rfl) (fun w hm => ((hm.ownRow (hh := 6) (o := (some b_4645)) (T := 69) (enc := encI64) (xs := a_11.1) (sp := []) (by kernel_rfl) (fun e => nomatch e) encI64_len).at hx_4756)) (jkO ?_))
            obtain ⟨x_16, hx_4757, h⟩ := bd h
            refine toO (by kernel_rfl) (p_idx 0 (some ⟨b_4645, 0, none⟩) 4 3 1 (by kernel_rfl) (by kernel_rfl) (ix_some hx_4757).1 (ltn hx_4757 a_11.2) rfl (jkO ?_))
            refine toO (by kernel_rfl) (p_ld 0 (aB (some ⟨b_4645, 0, none⟩)) (aO (some ⟨b_4645, 0, none⟩) + (3 : Int).toNat * 1) false (encI64 x_16) (by kernel_rfl) (by kernel_rfl) (by kernel_rfl) (fun w hm => ((hm.ownRow (hh := 6) (o := (some b_4645)) (T := 69) (enc := encI64) (xs := a_11.1) (sp := []) (by kernel_rfl) (fun e => nomatch e) encI64_len).at hx_4757)) (jkO ?_))
            refine jo_f [(0, 0)] (by kernel_rfl) ?_
            refine toO (by kernel_rfl) (p_a 0 [0] (by kernel_rfl) (fun b => by kernel_rfl) (fun b_4758 => jkO ?_))
            obtain ⟨hg_4759, h⟩ := gd h
            refine toO (by kernel_rfl) (p_apn 0 2 o_4414 37 xs_1.length 1 cap_4415 5 40 (some ⟨b_4758, 0, none⟩) encGAct xs_1 ([(⟨(w8 i_6), x_13, x_14, x_15, x_16⟩ : GAct)] : List GAct) sp_4416 (.agg #[(.int .i8 0), (.int .i64 0), (.int .i64 0), (.int .i64 0), (.int .i64 0)]) rfl rfl (by kernel_rfl) (by kernel_rfl) (by kernel_rfl) encGAct_len encGAct_cell hs_4418 ho_4419 (fun w hm => (hm.ownRow (hh := 7) (o := (some b_4758)) (T := 37) (enc := encGAct) (xs := ([(⟨(w8 i_6), x_13, x_14, x_15, x_16⟩ : GAct)] : List GAct)) (sp := []) (by kernel_rfl) (fun e => nomatch e) encGAct_len)) hg_4759 (by kernel_rfl) (by kernel_rfl) (fun o_4760 cap_4761 sp_4762 hs_4763 ho_4764 => jkO ?_))
            refine toO (by kernel_rfl) (p_s 0 [3] (by kernel_rfl) (by kernel_rfl) (jkO ?_))
            refine jo_end (by kernel_rfl) ?_
            refine jx_inn ?_
            exact jr_back (xs_1 ++ ([(⟨(w8 i_6), x_13, x_14, x_15, x_16⟩ : GAct)] : List GAct)) ⟨o_4760, cap_4761, sp_4762, (xs_1 ++ ([(⟨(w8 i_6), x_13, x_14, x_15, x_16⟩ : GAct)] : List GAct)).length⟩ (Option.some.inj h).symm ⟨rfl, hs_4763, ho_4764⟩ [0, 1, 2, 3, 4] (by kernel_rfl) (by kernel_rfl)
  · rintro df_ w2_ W2_ htl_4820 xs_1 ⟨o_4414, cap_4415, sp_4416, n_4417⟩ hrs_ ⟨rfl, hs_4418, ho_4419⟩
    subst hrs_
    have h : impl_ReadActs.k_29 text0 xs_1 = some r := hr_4420
    rw [impl_ReadActs.k_29] at h
    refine jx_inn ?_
    refine jx_then ?_
    refine jc_seq ?_
    refine jc_seq ?_
    refine jc_region ?_
    refine jo_f [(3, 0)] (by kernel_rfl) ?_
    obtain ⟨t_30, ht_4823, h⟩ := bd h
    refine toO (by kernel_rfl) (p_call 0 8 #[(.slice (o_4414.map fun b => ⟨b, 0, none⟩) xs_1.length cap_4415)] (by kernel_rfl) (by kernel_rfl) (fun w hm => impl_ActsText.calls xs_1 w _ (g_lo.keepB (htl_4820.keep _ _ hm)) (g_pw.keepB (htl_4820.keep _ _ hm)) (o_4414.map fun b => ⟨b, 0, none⟩) xs_1.length cap_4415 (hm.ownRow (hh := 2) (o := o_4414) (T := 37) (enc := encGAct) (xs := xs_1) (sp := sp_4416) (by kernel_rfl) (fun e => (ho_4419 e).1) encGAct_len) rfl ht_4823) ?_)
    rintro w v w' hm ⟨rfl, hm'⟩
    refine ⟨_, hm.app hm', jkO ?_⟩
    clear hm hm'
    refine jo_f [(0, 0), (0, 0)] (by kernel_rfl) ?_
    refine jo_end (by kernel_rfl) ?_
    refine jx_then ?_
    refine jc_cond (!(t_30.toList == text0.toList)) (by kernel_rfl) (fun hc_4824 => ?_) (fun hc_4824 => ?_)
    · replace h := ifT hc_4824 h
      refine jc_seq ?_
      refine jc_region ?_
      refine toO (by kernel_rfl) (p_s 0 [0] (by kernel_rfl) (by kernel_rfl) (jkO ?_))
      refine toO (by kernel_rfl) (p_s 0 [1] (by kernel_rfl) (by kernel_rfl) (jkO ?_))
      refine jo_end (by kernel_rfl) ?_
      refine jx_then ?_
      refine jc_ret ?_
      refine jx_thenr ?_
      obtain rfl := Option.some.inj h
      refine jx_ghost 37 encGAct ?_
      exact jx_retM htl_4820 [0, 1] (.tuple #[(.slice none 0 0), (.int .i64 5)]) [(b_1, b_1), (b_2, b_2)] rfl (by kernel_rfl) (by kernel_rfl) (fun w hm => ⟨none, 0, [], 0, rfl, (fun e => absurd rfl e), (fun _ => ⟨rfl, rfl⟩), rfl, hm.pick [5] (by kernel_rfl) (by kernel_rfl)⟩)
    · replace h := ifF hc_4824 h
      refine jc_skip ?_
      refine jx_then ?_
      refine jc_seq ?_
      refine jc_region ?_
      refine jo_f [(3, 0)] (by kernel_rfl) ?_
      refine toO (by kernel_rfl) (p_s 0 [0] (by kernel_rfl) (by kernel_rfl) (jkO ?_))
      refine toO (by kernel_rfl) (p_s 0 [1] (by kernel_rfl) (by kernel_rfl) (jkO ?_))
      refine jo_end (by kernel_rfl) ?_
      refine jx_then ?_
      refine jc_ret ?_
      obtain rfl := Option.some.inj h
      exact jx_retM htl_4820 [0, 1] (.tuple #[(.slice (o_4414.map fun b => ⟨b, 0, none⟩) xs_1.length cap_4415), (.int .i64 0)]) [(b_1, b_1), (b_2, b_2)] rfl (by kernel_rfl) (by kernel_rfl) (fun w hm => ⟨o_4414, cap_4415, sp_4416, xs_1.length, rfl, hs_4418, ho_4419, rfl, hm.pick [2] (by kernel_rfl) (by kernel_rfl)⟩)

/-! ### laws.markActS -/
noncomputable def laws_markActS.k_3 (xs_1 : List GAct) (i_2 : Int) : Option (Int × (List GAct)) := some (i_2, xs_1)
noncomputable def laws_markActS.l_7 (a0 : List GAct) : ((List GAct) × Int × Int) → Option (((List GAct) × Int × Int) ⊕ (((List GAct) × Int)))
  | (xs_4, i_5, i_6) => (if (decide (i_6 < (a0.length : Int))) = true then (ix xs_4 i_6).bind fun x_9 => (ix (xs_4.set i_6.toNat (⟨(w8 i_5), x_9.fA, x_9.fB, x_9.fC, x_9.fD⟩ : GAct)) i_6).bind fun x_10 => (ix ((xs_4.set i_6.toNat (⟨(w8 i_5), x_9.fA, x_9.fB, x_9.fC, x_9.fD⟩ : GAct)).set i_6.toNat (⟨x_10.fKind, (w64 (i_5 + 1)), x_10.fB, x_10.fC, x_10.fD⟩ : GAct)) i_6).bind fun x_11 => (ix (((xs_4.set i_6.toNat (⟨(w8 i_5), x_9.fA, x_9.fB, x_9.fC, x_9.fD⟩ : GAct)).set i_6.toNat (⟨x_10.fKind, (w64 (i_5 + 1)), x_10.fB, x_10.fC, x_10.fD⟩ : GAct)).set i_6.toNat (⟨x_11.fKind, x_11.fA, (w64 ((w64 (i_5 + 1)) + 1)), x_11.fC, x_11.fD⟩ : GAct)) i_6).bind fun x_12 => (ix ((((xs_4.set i_6.toNat (⟨(w8 i_5), x_9.fA, x_9.fB, x_9.fC, x_9.fD⟩ : GAct)).set i_6.toNat (⟨x_10.fKind, (w64 (i_5 + 1)), x_10.fB, x_10.fC, x_10.fD⟩ : GAct)).set i_6.toNat (⟨x_11.fKind, x_11.fA, (w64 ((w64 (i_5 + 1)) + 1)), x_11.fC, x_11.fD⟩ : GAct)).set i_6.toNat (⟨x_12.fKind, x_12.fA, x_12.fB, (w64 ((w64 ((w64 (i_5 + 1)) + 1)) + 1)), x_12.fD⟩ : GAct)) i_6).bind fun x_13 => some (.inl ((((((xs_4.set i_6.toNat (⟨(w8 i_5), x_9.fA, x_9.fB, x_9.fC, x_9.fD⟩ : GAct)).set i_6.toNat (⟨x_10.fKind, (w64 (i_5 + 1)), x_10.fB, x_10.fC, x_10.fD⟩ : GAct)).set i_6.toNat (⟨x_11.fKind, x_11.fA, (w64 ((w64 (i_5 + 1)) + 1)), x_11.fC, x_11.fD⟩ : GAct)).set i_6.toNat (⟨x_12.fKind, x_12.fA, x_12.fB, (w64 ((w64 ((w64 (i_5 + 1)) + 1)) + 1)), x_12.fD⟩ : GAct)).set i_6.toNat (⟨x_13.fKind, x_13.fA, x_13.fB, x_13.fC, (w64 ((w64 ((w64 ((w64 (i_5 + 1)) + 1)) + 1)) + 1))⟩ : GAct)), (w64 ((w64 ((w64 ((w64 ((w64 (i_5 + 1)) + 1)) + 1)) + 1)) + 1)), (w64 (i_6 + 1)))) else some (.inr (xs_4, i_5)))
noncomputable def laws_markActS (a0 : List GAct) (k1 : Int) : Option (Int × (List GAct)) := (loop (laws_markActS.l_7 a0) (a0, k1, 0)).bind fun t_8 => laws_markActS.k_3 t_8.1 t_8.2
set_option maxRecDepth 100000 in
theorem laws_markActS.calls (a0 : List GAct) (k1 : Int) (w : World) (r : Int × (List GAct)) (a0_o : Option Nat) (a0_on : Nat) (a0_c : Nat) (a0_sp : List Value) (a0_hn : a0.length = a0_on) (a0_hs : a0_o ≠ none → a0_on ≤ a0_c ∧ a0_sp.length = (a0_c - a0_on) * 5) (a0_ho : a0_o = none → a0 = [] ∧ a0_c = 0) (hm0 : Mem w (bs [a0_o]) [⟨a0_o, 37, row encGAct a0 a0_sp⟩] w) (h : laws_markActS a0 k1 = some r) :
    Calls Tryd.prog 12 #[(.slice (a0_o.map fun b => ⟨b, 0, none⟩) a0_on a0_c), (.int .i64 k1)] w fun e w' => ∃ v, e = .returned v ∧ (r.2.length = a0_on ∧ (a0_o = none → r.2 = [] ∧ a0_c = 0) ∧ v = (.int .i64 r.1) ∧ Mem w (bs [a0_o]) [⟨a0_o, 37, row encGAct r.2 a0_sp⟩] w') := by
  subst a0_hn
  rw [laws_markActS] at h
  refine enter (args := [(.slice (a0_o.map fun b => ⟨b, 0, none⟩) a0.length a0_c), (.int .i64 k1)]) Tryd.func12 rfl Tryd.ntmps12 (by kernel_rfl) (L := [⟨a0_o, 37, row encGAct a0 a0_sp⟩]) (W := bs [a0_o]) hm0 ?_
  refine jc_seq ?_
  refine jc_region ?_
  refine jo_f [(0, 0)] (by kernel_rfl) ?_
  refine jo_end (by kernel_rfl) ?_
  refine jx_then ?_
  refine jc_seq ?_
  refine jc_seq ?_
  refine jc_region ?_
  refine jo_f [(0, 0)] (by kernel_rfl) ?_
  refine jo_end (by kernel_rfl) ?_
  refine jx_then ?_
  refine jc_meet (fun (j : (List GAct) × Int) => match j with | ⟨xs_1, i_2⟩ => laws_markActS.k_3 xs_1 i_2 = some r ∧ (xs_1.length = a0.length) ∧ ((a0_o = none → xs_1 = [] ∧ a0_c = 0))) (fun (j : (List GAct) × Int) => match j with | ⟨xs_1, i_2⟩ => [(1, [], (.int .i64 i_2)), (4, [], (.int .i64 0))]) (fun (j : (List GAct) × Int) => match j with | ⟨xs_1, i_2⟩ => [⟨a0_o, 37, row encGAct xs_1 a0_sp⟩]) ?_ ?_
  · refine jc_block ?_
    obtain ⟨t_8, ht_120, hr_110⟩ := bd h
    refine jc_loop (fun (s : (List GAct) × Int × Int) (x : Unit) => match s, x with | ⟨xs_4, i_5, i_6⟩, _ => (xs_4.length = a0.length) ∧ ((a0_o = none → xs_4 = [] ∧ a0_c = 0))) (fun (s : (List GAct) × Int × Int) (x : Unit) => match s, x with | ⟨xs_4, i_5, i_6⟩, _ => [(0, [], (.slice (a0_o.map fun b => ⟨b, 0, none⟩) a0.length a0_c)), (1, [], (.int .i64 i_5)), (4, [], (.int .i64 0)), (5, [], (.int .i64 i_6))]) (fun (s : (List GAct) × Int × Int) (x : Unit) => match s, x with | ⟨xs_4, i_5, i_6⟩, _ => [⟨a0_o, 37, row encGAct xs_4 a0_sp⟩]) ht_120 () ⟨rfl, a0_ho⟩ (by kernel_rfl) [0] (by kernel_rfl) (by kernel_rfl) ?_
    rintro ⟨xs_4, i_5, i_6⟩ _ y_111 ⟨hn_109, ho_108⟩ h
    rw [laws_markActS.l_7] at h
    refine jc_seq ?_
    refine jc_seq ?_
    refine jc_region ?_
    refine jo_f [(0, 0), (0, 0), (0, 0), (0, 0)] (by kernel_rfl) ?_
    refine jo_end (by kernel_rfl) ?_
    refine jx_then ?_
    refine jc_cond (decide (i_6 < (a0.length : Int))) (by kernel_rfl) (fun hc_113 => ?_) (fun hc_113 => ?_)
    · replace h := ifT hc_113 h
      refine jc_skip ?_
      refine jx_then ?_
      refine jc_seq ?_
      refine jc_block ?_
      refine jc_seq ?_
      refine jc_region ?_
      refine jo_f [(0, 0), (0, 0), (0, 0), (0, 0)] (by kernel_rfl) ?_
      obtain ⟨x_9, hx_114, h⟩ := bd h
      refine toO (by kernel_rfl) (p_idx 0 (a0_o.map fun b => ⟨b, 0, none⟩) a0.length i_6 5 (by kernel_rfl) (by kernel_rfl) (ix_some hx_114).1 (ltn hx_114 hn_109) (spo ho_108 hx_114) (jkO ?_))
      refine jo_f [(0, 0)] (by kernel_rfl) ?_
      refine toO (by kernel_rfl) (p_strO 0 0 a0_o 37 encGAct xs_4 a0_sp i_6 (⟨(w8 i_5), x_9.fA, x_9.fB, x_9.fC, x_9.fD⟩ : GAct) 5 0 [(.int .i8 (w8 i_5))] (by kernel_rfl) (by kernel_rfl) (by kernel_rfl) (fun e => (ho_108 e).1) encGAct_len hx_114 (by kernel_rfl) (by kernel_rfl) (jkO ?_))
      refine jo_end (by kernel_rfl) ?_
      refine jx_then ?_
      refine jc_seq ?_
      refine jc_region ?_
      refine jo_f [(0, 0), (0, 0), (0, 0)] (by kernel_rfl) ?_
      refine jo_end (by kernel_rfl) ?_
      refine jx_then ?_
      refine jc_seq ?_
      refine jc_region ?_
      refine jo_f [(0, 0), (0, 0), (0, 0)] (by kernel_rfl) ?_
      obtain ⟨x_10, hx_115, h⟩ := bd h
      refine toO (by kernel_rfl) (p_idx 0 (a0_o.map fun b => ⟨b, 0, none⟩) a0.length i_6 5 (by kernel_rfl) (by kernel_rfl) (ix_some hx_115).1 (ltn hx_115 (List.length_set.trans hn_109)) (spo (set_ho ho_108) hx_115) (jkO ?_))
      refine jo_f [(0, 0)] (by kernel_rfl) ?_
      refine toO (by kernel_rfl) (p_strO 0 0 a0_o 37 encGAct (xs_4.set i_6.toNat (⟨(w8 i_5), x_9.fA, x_9.fB, x_9.fC, x_9.fD⟩ : GAct)) a0_sp i_6 (⟨x_10.fKind, (w64 (i_5 + 1)), x_10.fB, x_10.fC, x_10.fD⟩ : GAct) 5 1 [(.int .i64 (w64 (i_5 + 1)))] (by kernel_rfl) (by kernel_rfl) (by kernel_rfl) (fun e => ((set_ho ho_108) e).1) encGAct_len hx_115 (by kernel_rfl) (by kernel_rfl) (jkO ?_))
      refine jo_end (by kernel_rfl) ?_
      refine jx_then ?_
      refine jc_seq ?_
      refine jc_region ?_
      refine jo_f [(0, 0), (0, 0), (0, 0)] (by kernel_rfl) ?_
      refine jo_end (by kernel_rfl) ?_
      refine jx_then ?_
      refine jc_seq ?_
      refine jc_region ?_
      refine jo_f [(0, 0), (0, 0), (0, 0)] (by kernel_rfl) ?_
      obtain ⟨x_11, hx_116, h⟩ := bd h
      refine toO (by kernel_rfl) (p_idx 0 (a0_o.map fun b => ⟨b, 0, none⟩) a0.length i_6 5 (by kernel_rfl) (by kernel_rfl) (ix_some hx_116).1 (ltn hx_116 (List.length_set.trans (List.length_set.trans hn_109))) (spo (set_ho (set_ho ho_108)) hx_116) (jkO ?_))
      refine jo_f [(0, 0)] (by kernel_rfl) ?_
      refine toO (by kernel_rfl) (p_strO 0 0 a0_o 37 encGAct ((xs_4.set i_6.toNat (⟨(w8 i_5), x_9.fA, x_9.fB, x_9.fC, x_9.fD⟩ : GAct)).set i_6.toNat (⟨x_10.fKind, (w64 (i_5 + 1)), x_10.fB, x_10.fC, x_10.fD⟩ : GAct)) a0_sp i_6 (⟨x_11.fKind, x_11.fA, (w64 ((w64 (i_5 + 1)) + 1)), x_11.fC, x_11.fD⟩ : GAct) 5 2 [(.int .i64 (w64 ((w64 (i_5 + 1)) + 1)))] (by kernel_rfl) (by kernel_rfl) (by kernel_rfl) (fun e => ((set_ho (set_ho ho_108)) e).1) encGAct_len hx_116 (by kernel_rfl) (by kernel_rfl) (jkO ?_))
      refine jo_end (by kernel_rfl) ?_
      refine jx_then ?_
      refine jc_seq ?_
      refine jc_region ?_
      refine jo_f [(0, 0), (0, 0), (0, 0)] (by kernel_rfl) ?_
      refine jo_end (by kernel_rfl) ?_
      refine jx_then ?_
      refine jc_seq ?_
      refine jc_region ?_
      refine jo_f [(0, 0), (0, 0), (0, 0)] (by kernel_rfl) ?_
      obtain ⟨x_12, hx_117, h⟩ := bd h
      refine toO (by kernel_rfl) (p_idx 0 (a0_o.map fun b => ⟨b, 0, none⟩) a0.length i_6 5 (by kernel_rfl) (by kernel_rfl) (ix_some hx_117).1 (ltn hx_117 (List.length_set.trans (List.length_set.trans (List.length_set.trans hn_109)))) (spo (set_ho (set_ho (set_ho ho_108))) hx_117) (jkO ?_))
      refine jo_f [(0, 0)] (by kernel_rfl) ?_
      refine toO (by kernel_rfl) (p_strO 0 0 a0_o 37 encGAct (((xs_4.set i_6.toNat (⟨(w8 i_5), x_9.fA, x_9.fB, x_9.fC, x_9.fD⟩ : GAct)).set i_6.toNat (⟨x_10.fKind, (w64 (i_5 + 1)), x_10.fB, x_10.fC, x_10.fD⟩ : GAct)).set i_6.toNat (⟨x_11.fKind, x_11.fA, (w64 ((w64 (i_5 + 1)) + 1)), x_11.fC, x_11.fD⟩ : GAct)) a0_sp i_6 (⟨x_12.fKind, x_12.fA, x_12.fB, (w64 ((w64 ((w64 (i_5 + 1)) + 1)) + 1)), x_12.fD⟩ : GAct) 5 3 [(.int .i64 (w64 ((w64 ((w64 (i_5 + 1)) + 1)) + 1)))] (by kernel_rfl) (by kernel_rfl) (by kernel_rfl) (fun e => ((set_ho (set_ho (set_ho ho_108))) e).1) encGAct_len hx_117 (by kernel_rfl) (by kernel_rfl) (jkO ?_))
      refine jo_end (by kernel_rfl) ?_
      refine jx_then ?_
      refine jc_seq ?_
      refine jc_region ?_
      refine jo_f [(0, 0), (0, 0), (0, 0)] (by kernel_rfl) ?_
      refine jo_end (by kernel_rfl) ?_
      refine jx_then ?_
      refine jc_seq ?_
      refine jc_region ?_
      refine jo_f [(0, 0), (0, 0), (0, 0)] (by kernel_rfl) ?_
      obtain ⟨x_13, hx_118, h⟩ := bd h
      refine toO (by kernel_rfl) (p_idx 0 (a0_o.map fun b => ⟨b, 0, none⟩) a0.length i_6 5 (by kernel_rfl) (by kernel_rfl) (ix_some hx_118).1 (ltn hx_118 (List.length_set.trans (List.length_set.trans (List.length_set.trans (List.length_set.trans hn_109))))) (spo (set_ho (set_ho (set_ho (set_ho ho_108)))) hx_118) (jkO ?_))
      refine jo_f [(0, 0)] (by kernel_rfl) ?_
      refine toO (by kernel_rfl) (p_strO 0 0 a0_o 37 encGAct ((((xs_4.set i_6.toNat (⟨(w8 i_5), x_9.fA, x_9.fB, x_9.fC, x_9.fD⟩ : GAct)).set i_6.toNat (⟨x_10.fKind, (w64 (i_5 + 1)), x_10.fB, x_10.fC, x_10.fD⟩ : GAct)).set i_6.toNat (⟨x_11.fKind, x_11.fA, (w64 ((w64 (i_5 + 1)) + 1)), x_11.fC, x_11.fD⟩ : GAct)).set i_6.toNat (⟨x_12.fKind, x_12.fA, x_12.fB, (w64 ((w64 ((w64 (i_5 + 1)) + 1)) + 1)), x_12.fD⟩ : GAct)) a0_sp i_6 (⟨x_13.fKind, x_13.fA, x_13.fB, x_13.fC, (w64 ((w64 ((w64 ((w64 (i_5 + 1)) + 1)) + 1)) + 1))⟩ : GAct) 5 4 [(.int .i64 (w64 ((w64 ((w64 ((w64 (i_5 + 1)) + 1)) + 1)) + 1)))] (by kernel_rfl) (by kernel_rfl) (by kernel_rfl) (fun e => ((set_ho (set_ho (set_ho (set_ho ho_108)))) e).1) encGAct_len hx_118 (by kernel_rfl) (by kernel_rfl) (jkO ?_))
      refine jo_end (by kernel_rfl) ?_
      refine jx_then ?_
      refine jc_region ?_
      refine jo_f [(0, 0), (0, 0), (0, 0)] (by kernel_rfl) ?_
      refine jo_end (by kernel_rfl) ?_
      refine jx_inn ?_
      refine jx_then ?_
      refine jc_region ?_
      refine jo_f [(0, 0), (0, 0), (0, 0)] (by kernel_rfl) ?_
      refine jo_end (by kernel_rfl) ?_
      exact jx_back ((((((xs_4.set i_6.toNat (⟨(w8 i_5), x_9.fA, x_9.fB, x_9.fC, x_9.fD⟩ : GAct)).set i_6.toNat (⟨x_10.fKind, (w64 (i_5 + 1)), x_10.fB, x_10.fC, x_10.fD⟩ : GAct)).set i_6.toNat (⟨x_11.fKind, x_11.fA, (w64 ((w64 (i_5 + 1)) + 1)), x_11.fC, x_11.fD⟩ : GAct)).set i_6.toNat (⟨x_12.fKind, x_12.fA, x_12.fB, (w64 ((w64 ((w64 (i_5 + 1)) + 1)) + 1)), x_12.fD⟩ : GAct)).set i_6.toNat (⟨x_13.fKind, x_13.fA, x_13.fB, x_13.fC, (w64 ((w64 ((w64 ((w64 (i_5 + 1)) + 1)) + 1)) + 1))⟩ : GAct)), (w64 ((w64 ((w64 ((w64 ((w64 (i_5 + 1)) + 1)) + 1)) + 1)) + 1)), (w64 (i_6 + 1))) () (Option.some.inj h).symm ⟨(List.length_set.trans (List.length_set.trans (List.length_set.trans (List.length_set.trans (List.length_set.trans hn_109))))), (set_ho (set_ho (set_ho (set_ho (set_ho ho_108)))))⟩ [0] (by kernel_rfl) (by kernel_rfl) (by kernel_rfl)
    · replace h := ifF hc_113 h
      refine jc_exit ?_
      refine jx_thenx ?_
      refine jx_leave (xs_4, i_5) (Option.some.inj h).symm (fun e_119 => ?_)
      subst e_119
      refine jx_ine ?_
      exact jx_meet ⟨xs_4, i_5⟩ ⟨hr_110, hn_109, ho_108⟩ (by kernel_rfl) [0] (by kernel_rfl) (by kernel_rfl)
  · rintro ⟨xs_1, i_2⟩ ⟨h, hn_91, ho_90⟩
    replace h : laws_markActS.k_3 xs_1 i_2 = some r := h
    rw [laws_markActS.k_3] at h
    refine jx_then ?_
    refine jc_seq ?_
    refine jc_region ?_
    refine jo_f [(0, 0), (0, 0)] (by kernel_rfl) ?_
    refine jo_end (by kernel_rfl) ?_
    refine jx_then ?_
    refine jc_ret ?_
    obtain rfl := Option.some.inj h
    exact jx_ret [] (.int .i64 i_2) [] rfl (by kernel_rfl) (by kernel_rfl) (fun w hm => ⟨hn_91, ho_90, rfl, hm.pick [0] (by kernel_rfl) (by kernel_rfl)⟩)

/-! ### laws.heldActS -/
noncomputable def laws_heldActS.k_2 (i_1 : Int) : Option (Int) := some i_1
noncomputable def laws_heldActS.l_5 (a0 : List GAct) : (Int × Int) → Option ((Int × Int) ⊕ (Int ⊕ Int))
  | (i_3, i_4) => (if (decide (i_4 < (a0.length : Int))) = true then (ix a0 i_4).bind fun x_7 => (if (x_7.fKind != (w8 i_3)) = true then some (.inr (.inl (-1))) else (ix a0 i_4).bind fun x_8 => (if (x_8.fA != (w64 (i_3 + 1))) = true then some (.inr (.inl (-1))) else (ix a0 i_4).bind fun x_9 => (if (x_9.fB != (w64 ((w64 (i_3 + 1)) + 1))) = true then some (.inr (.inl (-1))) else (ix a0 i_4).bind fun x_10 => (if (x_10.fC != (w64 ((w64 ((w64 (i_3 + 1)) + 1)) + 1))) = true then some (.inr (.inl (-1))) else (ix a0 i_4).bind fun x_11 => (if (x_11.fD != (w64 ((w64 ((w64 ((w64 (i_3 + 1)) + 1)) + 1)) + 1))) = true then some (.inr (.inl (-1))) else some (.inl ((w64 ((w64 ((w64 ((w64 ((w64 (i_3 + 1)) + 1)) + 1)) + 1)) + 1)), (w64 (i_4 + 1))))))))) else some (.inr (.inr i_3)))
noncomputable def laws_heldActS (a0 : List GAct) (k1 : Int) : Option (Int) := (loop (laws_heldActS.l_5 a0) (k1, 0)).bind fun t_6 => match t_6 with | .inl p => some p | .inr p => laws_heldActS.k_2 p
set_option maxRecDepth 100000 in
theorem laws_heldActS.calls (a0 : List GAct) (k1 : Int) (w : World) (r : Int) (a0_a : Option Addr) (a0_an : Nat) (a0_c : Nat) (a0_h : Rw w a0_a 5 encGAct a0) (a0_hn : a0.length = a0_an) (h : laws_heldActS a0 k1 = some r) :
    Calls Tryd.prog 13 #[(.slice a0_a a0_an a0_c), (.int .i64 k1)] w fun e w' => ∃ v, e = .returned v ∧ (v = (.int .i64 r) ∧ Mem w [] [] w') := by
  subst a0_hn
  rw [laws_heldActS] at h
  refine enter (args := [(.slice a0_a a0.length a0_c), (.int .i64 k1)]) Tryd.func13 rfl Tryd.ntmps13 (by kernel_rfl) (L := []) (W := []) (Mem.start w) ?_
  refine jc_seq ?_
  refine jc_region ?_
  refine jo_f [(0, 0)] (by kernel_rfl) ?_
  refine jo_end (by kernel_rfl) ?_
  refine jx_then ?_
  refine jc_seq ?_
  refine jc_seq ?_
  refine jc_region ?_
  refine jo_f [(0, 0)] (by kernel_rfl) ?_
  refine jo_end (by kernel_rfl) ?_
  refine jx_then ?_
  refine jc_meet (fun (j : Int) => match j with | i_1 => laws_heldActS.k_2 i_1 = some r) (fun (j : Int) => match j with | i_1 => [(1, [], (.int .i64 i_1)), (4, [], (.int .i64 0))]) (fun (j : Int) => match j with | i_1 => []) ?_ ?_
  · refine jc_block ?_
    obtain ⟨t_6, ht_276, hr_248⟩ := bd h
    refine jc_loop (fun (s : Int × Int) (x : Unit) => match s, x with | ⟨i_3, i_4⟩, _ => True) (fun (s : Int × Int) (x : Unit) => match s, x with | ⟨i_3, i_4⟩, _ => [(0, [], (.slice a0_a a0.length a0_c)), (1, [], (.int .i64 i_3)), (4, [], (.int .i64 0)), (5, [], (.int .i64 i_4))]) (fun (s : Int × Int) (x : Unit) => match s, x with | ⟨i_3, i_4⟩, _ => []) ht_276 () trivial (by kernel_rfl) [] (by kernel_rfl) (by kernel_rfl) ?_
    rintro ⟨i_3, i_4⟩ _ y_249 _ h
    rw [laws_heldActS.l_5] at h
    refine jc_seq ?_
    refine jc_seq ?_
    refine jc_region ?_
    refine jo_f [(0, 0), (0, 0), (0, 0), (0, 0)] (by kernel_rfl) ?_
    refine jo_end (by kernel_rfl) ?_
    refine jx_then ?_
    refine jc_cond (decide (i_4 < (a0.length : Int))) (by kernel_rfl) (fun hc_251 => ?_) (fun hc_251 => ?_)
    · replace h := ifT hc_251 h
      refine jc_skip ?_
      refine jx_then ?_
      refine jc_seq ?_
      refine jc_block ?_
      refine jc_seq ?_
      refine jc_seq ?_
      refine jc_region ?_
      refine jo_f [(0, 0), (0, 0)] (by kernel_rfl) ?_
      obtain ⟨x_7, hx_254, h⟩ := bd h
      refine toO (by kernel_rfl) (p_idx 0 a0_a a0.length i_4 5 (by kernel_rfl) (by kernel_rfl) (ix_some hx_254).1 (ltn hx_254 rfl) (a0_h.sp hx_254) (jkO ?_))
      refine jo_f [(0, 0)] (by kernel_rfl) ?_
      refine toO (by kernel_rfl) (p_ld 0 (aB a0_a) (aO a0_a + i_4.toNat * 5) false (((encGAct x_7).drop 0).take 1) (by kernel_rfl) (by kernel_rfl) (by kernel_rfl) (fun w hm => (((hm.exRow a0_h List.not_mem_nil).at hx_254).sub 0 1)) (jkO ?_))
      refine jo_f [(0, 0), (0, 0), (0, 0)] (by kernel_rfl) ?_
      refine jo_end (by kernel_rfl) ?_
      refine jx_then ?_
      refine jc_cond (x_7.fKind != (w8 i_3)) (by kernel_rfl) (fun hc_255 => ?_) (fun hc_255 => ?_)
      · replace h := ifT hc_255 h
        refine jc_seq ?_
        refine jc_region ?_
        refine jo_f [(0, 0)] (by kernel_rfl) ?_
        refine jo_end (by kernel_rfl) ?_
        refine jx_then ?_
        refine jc_ret ?_
        refine jx_thenr ?_
        refine jx_inr ?_
        refine jx_thenr ?_
        refine jx_leaver (.inl (-1)) (Option.some.inj h).symm (fun e_256 => ?_)
        subst e_256
        refine jx_inr ?_
        refine jx_thenr ?_
        refine jx_thenr ?_
        obtain rfl := Option.some.inj hr_248
        exact jx_ret [] (.int .i64 (-1)) [] rfl (by kernel_rfl) (by kernel_rfl) (fun w hm => ⟨rfl, hm.pick [] (by kernel_rfl) (by kernel_rfl)⟩)
      · replace h := ifF hc_255 h
        refine jc_skip ?_
        refine jx_then ?_
        refine jc_seq ?_
        refine jc_region ?_
        refine jo_f [(0, 0), (0, 0), (0, 0)] (by kernel_rfl) ?_
        refine jo_end (by kernel_rfl) ?_
        refine jx_then ?_
        refine jc_seq ?_
        refine jc_seq ?_
        refine jc_region ?_
        refine jo_f [(0, 0), (0, 0)] (by kernel_rfl) ?_
        obtain ⟨x_8, hx_259, h⟩ := bd h
        refine toO (by kernel_rfl) (p_idx 0 a0_a a0.length i_4 5 (by kernel_rfl) (by kernel_rfl) (ix_some hx_259).1 (ltn hx_259 rfl) (a0_h.sp hx_259) (jkO ?_))
        refine jo_f [(0, 0)] (by kernel_rfl) ?_
        refine toO (by kernel_rfl) (p_ld 0 (aB a0_a) (aO a0_a + i_4.toNat * 5 + 1) false (((encGAct x_8).drop 1).take 1) (by kernel_rfl) (by kernel_rfl) (by kernel_rfl) (fun w hm => (((hm.exRow a0_h List.not_mem_nil).at hx_259).sub 1 1)) (jkO ?_))
        refine jo_f [(0, 0), (0, 0)] (by kernel_rfl) ?_
        refine jo_end (by kernel_rfl) ?_
        refine jx_then ?_
        refine jc_cond (x_8.fA != (w64 (i_3 + 1))) (by kernel_rfl) (fun hc_260 => ?_) (fun hc_260 => ?_)
        · replace h := ifT hc_260 h
          refine jc_seq ?_
          refine jc_region ?_
          refine jo_f [(0, 0)] (by kernel_rfl) ?_
          refine jo_end (by kernel_rfl) ?_
          refine jx_then ?_
          refine jc_ret ?_
          refine jx_thenr ?_
          refine jx_inr ?_
          refine jx_thenr ?_
          refine jx_leaver (.inl (-1)) (Option.some.inj h).symm (fun e_261 => ?_)
          subst e_261
          refine jx_inr ?_
          refine jx_thenr ?_
          refine jx_thenr ?_
          obtain rfl := Option.some.inj hr_248
          exact jx_ret [] (.int .i64 (-1)) [] rfl (by kernel_rfl) (by kernel_rfl) (fun w hm => ⟨rfl, hm.pick [] (by kernel_rfl) (by kernel_rfl)⟩)
        · replace h := ifF hc_260 h
          refine jc_skip ?_
          refine jx_then ?_
          refine jc_seq ?_
          refine jc_region ?_
          refine jo_f [(0, 0), (0, 0), (0, 0)] (by kernel_rfl) ?_
          refine jo_end (by kernel_rfl) ?_
          refine jx_then ?_
          refine jc_seq ?_
          refine jc_seq ?_
          refine jc_region ?_
          refine jo_f [(0, 0), (0, 0)] (by kernel_rfl) ?_
          obtain ⟨x_9, hx_264, h⟩ := bd h
          refine toO (by kernel_rfl) (p_idx 0 a0_a a0.length i_4 5 (by kernel_rfl) (by kernel_rfl) (ix_some hx_264).1 (ltn hx_264 rfl) (a0_h.sp hx_264) (jkO ?_))
          refine jo_f [(0, 0)] (by kernel_rfl) ?_
          refine toO (by kernel_rfl) (p_ld 0 (aB a0_a) (aO a0_a + i_4.toNat * 5 + 2) false (((encGAct x_9).drop 2).take 1) (by kernel_rfl) (by kernel_rfl) (by kernel_rfl) (fun w hm => (((hm.exRow a0_h List.not_mem_nil).at hx_264).sub 2 1)) (jkO ?_))
          refine jo_f [(0, 0), (0, 0)] (by kernel_rfl) ?_
          refine jo_end (by kernel_rfl) ?_
          refine jx_then ?_
          refine jc_cond (x_9.fB != (w64 ((w64 (i_3 + 1)) + 1))) (by kernel_rfl) (fun hc_265 => ?_) (fun hc_265 => ?_)
          · replace h := ifT hc_265 h
            refine jc_seq ?_
            refine jc_region ?_
            refine jo_f [(0, 0)] (by kernel_rfl) ?_
            refine jo_end (by kernel_rfl) ?_
            refine jx_then ?_
            refine jc_ret ?_
            refine jx_thenr ?_
            refine jx_inr ?_
            refine jx_thenr ?_
            refine jx_leaver (.inl (-1)) (Option.some.inj h).symm (fun e_266 => ?_)
            subst e_266
            refine jx_inr ?_
            refine jx_thenr ?_
            refine jx_thenr ?_
            obtain rfl := Option.some.inj hr_248
            exact jx_ret [] (.int .i64 (-1)) [] rfl (by kernel_rfl) (by kernel_rfl) (fun w hm => ⟨rfl, hm.pick [] (by kernel_rfl) (by kernel_rfl)⟩)
          · replace h := ifF hc_265 h
            refine jc_skip ?_
            refine jx_then ?_
            refine jc_seq ?_
            refine jc_region ?_
            refine jo_f [(0, 0), (0, 0), (0, 0)] (by kernel_rfl) ?_
            refine jo_end (by kernel_rfl) ?_
            refine jx_then ?_
            refine jc_seq ?_
            refine jc_seq ?_
            refine jc_region ?_
            refine jo_f [(0, 0), (0, 0)] (by kernel_rfl) ?_
            obtain ⟨x_10, hx_269, h⟩ := bd h
            refine toO (by kernel_rfl) (p_idx 0 a0_a a0.length i_4 5 (by kernel_rfl) (by kernel_rfl) (ix_some hx_269).1 (ltn hx_269 rfl) (a0_h.sp hx_269) (jkO ?_))
            refine jo_f [(0, 0)] (by kernel_rfl) ?_
            refine toO (by kernel_rfl) (p_ld 0 (aB a0_a) (aO a0_a + i_4.toNat * 5 + 3) false (((encGAct x_10).drop 3).take 1) (by kernel_rfl) (by kernel_rfl) (by kernel_rfl) (fun w hm => (((hm.exRow a0_h List.not_mem_nil).at hx_269).sub 3 1)) (jkO ?_))
            refine jo_f [(0, 0), (0, 0)] (by kernel_rfl) ?_
            refine jo_end (by kernel_rfl) ?_
            refine jx_then ?_
            refine jc_cond (x_10.fC != (w64 ((w64 ((w64 (i_3 + 1)) + 1)) + 1))) (by kernel_rfl) (fun hc_270 => ?_) (fun hc_270 => ?_)
            · replace h := ifT hc_270 h
              refine jc_seq ?_
              refine jc_region ?_
              refine jo_f [(0, 0)] (by kernel_rfl) ?_
              refine jo_end (by kernel_rfl) ?_
              refine jx_then ?_
              refine jc_ret ?_
              refine jx_thenr ?_
              refine jx_inr ?_
              refine jx_thenr ?_
              refine jx_leaver (.inl (-1)) (Option.some.inj h).symm (fun e_271 => ?_)
              subst e_271
              refine jx_inr ?_
              refine jx_thenr ?_
              refine jx_thenr ?_
              obtain rfl := Option.some.inj hr_248
              exact jx_ret [] (.int .i64 (-1)) [] rfl (by kernel_rfl) (by kernel_rfl) (fun w hm => ⟨rfl, hm.pick [] (by kernel_rfl) (by kernel_rfl)⟩)
            · replace h := ifF hc_270 h
              refine jc_skip ?_
              refine jx_then ?_
              refine jc_seq ?_
              refine jc_region ?_
              refine jo_f [(0, 0), (0, 0), (0, 0)] (by kernel_rfl) ?_
              refine jo_end (by kernel_rfl) ?_
              refine jx_then ?_
              refine jc_seq ?_
              refine jc_seq ?_
              refine jc_region ?_
              refine jo_f [(0, 0), (0, 0)] (by kernel_rfl) ?_
              obtain ⟨x_11, hx_272, h⟩ := bd h
              refine toO (by kernel_rfl) (p_idx 0 a0_a a0.length i_4 5 (by kernel_rfl) (by kernel_rfl) (ix_some hx_272).1 (ltn hx_272 rfl) (a0_h.sp hx_272) (jkO ?_))
              refine jo_f [(0, 0)] (by kernel_rfl) ?_
              refine toO (by kernel_rfl) (p_ld 0 (aB a0_a) (aO a0_a + i_4.toNat * 5 + 4) false (((encGAct x_11).drop 4).take 1) (by kernel_rfl) (by kernel_rfl) (by kernel_rfl) (fun w hm => (((hm.exRow a0_h List.not_mem_nil).at hx_272).sub 4 1)) (jkO ?_))
              refine jo_f [(0, 0), (0, 0)] (by kernel_rfl) ?_
              refine jo_end (by kernel_rfl) ?_
              refine jx_then ?_
              refine jc_cond (x_11.fD != (w64 ((w64 ((w64 ((w64 (i_3 + 1)) + 1)) + 1)) + 1))) (by kernel_rfl) (fun hc_273 => ?_) (fun hc_273 => ?_)
              · replace h := ifT hc_273 h
                refine jc_seq ?_
                refine jc_region ?_
                refine jo_f [(0, 0)] (by kernel_rfl) ?_
                refine jo_end (by kernel_rfl) ?_
                refine jx_then ?_
                refine jc_ret ?_
                refine jx_thenr ?_
                refine jx_inr ?_
                refine jx_thenr ?_
                refine jx_leaver (.inl (-1)) (Option.some.inj h).symm (fun e_274 => ?_)
                subst e_274
                refine jx_inr ?_
                refine jx_thenr ?_
                refine jx_thenr ?_
                obtain rfl := Option.some.inj hr_248
                exact jx_ret [] (.int .i64 (-1)) [] rfl (by kernel_rfl) (by kernel_rfl) (fun w hm => ⟨rfl, hm.pick [] (by kernel_rfl) (by kernel_rfl)⟩)
              · replace h := ifF hc_273 h
                refine jc_skip ?_
                refine jx_then ?_
                refine jc_region ?_
                refine jo_f [(0, 0), (0, 0), (0, 0)] (by kernel_rfl) ?_
                refine jo_end (by kernel_rfl) ?_
                refine jx_inn ?_
                refine jx_then ?_
                refine jc_region ?_
                refine jo_f [(0, 0), (0, 0), (0, 0)] (by kernel_rfl) ?_
                refine jo_end (by kernel_rfl) ?_
                exact jx_back ((w64 ((w64 ((w64 ((w64 ((w64 (i_3 + 1)) + 1)) + 1)) + 1)) + 1)), (w64 (i_4 + 1))) () (Option.some.inj h).symm trivial [] (by kernel_rfl) (by kernel_rfl) (by kernel_rfl)
    · replace h := ifF hc_251 h
      refine jc_exit ?_
      refine jx_thenx ?_
      refine jx_leave (.inr i_3) (Option.some.inj h).symm (fun e_275 => ?_)
      subst e_275
      refine jx_ine ?_
      exact jx_meet i_3 hr_248 (by kernel_rfl) [] (by kernel_rfl) (by kernel_rfl)
  · rintro i_1 h
    replace h : laws_heldActS.k_2 i_1 = some r := h
    rw [laws_heldActS.k_2] at h
    refine jx_then ?_
    refine jc_seq ?_
    refine jc_region ?_
    refine jo_f [(0, 0), (0, 0)] (by kernel_rfl) ?_
    refine jo_end (by kernel_rfl) ?_
    refine jx_then ?_
    refine jc_ret ?_
    obtain rfl := Option.some.inj h
    exact jx_ret [] (.int .i64 i_1) [] rfl (by kernel_rfl) (by kernel_rfl) (fun w hm => ⟨rfl, hm.pick [] (by kernel_rfl) (by kernel_rfl)⟩)

/-! ### laws.FnExactReadActs -/
noncomputable def laws_FnExactReadActs (aText0 : ByteArray) : Option (Bool) := (if (decide ((aText0.size : Int) > 1048576)) = true then some true else (spec_ReadActs aText0).bind fun t_1 => (impl_ReadActs aText0).bind fun t_2 => (laws_eqActS t_2.1 t_1.1).bind fun t_3 => (if ((!t_3) || (t_2.2 != t_1.2)) = true then some false else (laws_markActS t_2.1 1).bind fun t_4 => (laws_heldActS t_4.2 1).bind fun t_5 => (if (decide (t_5 < 0)) = true then some false else (if (t_5 != t_4.1) = true then some false else (impl_ReadActs aText0).bind fun t_6 => (laws_eqActS t_6.1 t_1.1).bind fun t_7 => (if ((!t_7) || (t_6.2 != t_1.2)) = true then some false else (laws_heldActS t_4.2 1).bind fun t_8 => (if (decide (t_8 < 0)) = true then some false else (if (t_8 != t_4.1) = true then some false else some true)))))))
set_option maxRecDepth 100000 in
theorem laws_FnExactReadActs.calls (aText0 : ByteArray) (w : World) (r : Bool) (g_er : Gler w) (g_lo : Gllo w) (g_ml : Glml w) (g_pw : Glpw w) (h : laws_FnExactReadActs aText0 = some r) :
    Calls Tryd.prog 4 #[(.string aText0)] w fun e w' => ∃ v, e = .returned v ∧ (v = (.bool r) ∧ Mem w [] [] w') := by
  rw [laws_FnExactReadActs] at h
  refine enter (args := [(.string aText0)]) Tryd.func4 rfl Tryd.ntmps4 (by kernel_rfl) (L := []) (W := []) (Mem.start w) ?_
  refine jc_seq ?_
  refine jc_region ?_
  refine jo_f [(0, 0)] (by kernel_rfl) ?_
  refine jo_end (by kernel_rfl) ?_
  refine jx_then ?_
  refine jc_seq ?_
  refine jc_seq ?_
  refine jc_region ?_
  refine jo_f [(0, 0), (0, 0), (0, 0)] (by kernel_rfl) ?_
  refine jo_end (by kernel_rfl) ?_
  refine jx_then ?_
  refine jc_cond (decide ((aText0.size : Int) > 1048576)) (by kernel_rfl) (fun hc_2 => ?_) (fun hc_2 => ?_)
  · replace h := ifT hc_2 h
    refine jc_seq ?_
    refine jc_region ?_
    refine jo_f [(0, 0)] (by kernel_rfl) ?_
    refine jo_end (by kernel_rfl) ?_
    refine jx_then ?_
    refine jc_ret ?_
    refine jx_thenr ?_
    obtain rfl := Option.some.inj h
    exact jx_ret [] (.bool true) [] rfl (by kernel_rfl) (by kernel_rfl) (fun w hm => ⟨rfl, hm.pick [] (by kernel_rfl) (by kernel_rfl)⟩)
  · replace h := ifF hc_2 h
    refine jc_skip ?_
    refine jx_then ?_
    refine jc_seq ?_
    refine jc_region ?_
    refine jo_f [(0, 0)] (by kernel_rfl) ?_
    obtain ⟨t_1, ht_3, h⟩ := bd h
    refine toO (by kernel_rfl) (p_call 0 10 #[(.string aText0)] (by kernel_rfl) (by kernel_rfl) (fun w hm => spec_ReadActs.calls aText0 w _ ht_3) ?_)
    rintro w v w' hm ⟨o_4, cap_5, sp_6, _, rfl, hs_7, ho_8, rfl, hm'⟩
    refine ⟨_, hm.app hm', jkO ?_⟩
    clear hm hm'
    refine jo_f [(0, 0), (0, 0), (0, 0), (0, 0), (0, 0)] (by kernel_rfl) ?_
    refine jo_end (by kernel_rfl) ?_
    refine jx_then ?_
    refine jc_seq ?_
    refine jc_region ?_
    refine jo_f [(0, 0)] (by kernel_rfl) ?_
    obtain ⟨t_2, ht_9, h⟩ := bd h
    refine toO (by kernel_rfl) (p_call 0 11 #[(.string aText0)] (by kernel_rfl) (by kernel_rfl) (fun w hm => impl_ReadActs.calls aText0 w _ (g_er.keep hm) (g_lo.keep hm) (g_ml.keep hm) (g_pw.keep hm) ht_9) ?_)
    rintro w v w' hm ⟨o_10, cap_11, sp_12, _, rfl, hs_13, ho_14, rfl, hm'⟩
    refine ⟨_, hm.app hm', jkO ?_⟩
    clear hm hm'
    refine jo_f [(0, 0), (0, 0), (0, 0), (0, 0), (0, 0)] (by kernel_rfl) ?_
    refine jo_end (by kernel_rfl) ?_
    refine jx_then ?_
    refine jc_seq ?_
    refine jc_seq ?_
    refine jc_region ?_
    refine jo_f [(0, 0), (0, 0)] (by kernel_rfl) ?_
    obtain ⟨t_3, ht_19, h⟩ := bd h
    refine toO (by kernel_rfl) (p_call 0 9 #[(.slice (o_10.map fun b => ⟨b, 0, none⟩) t_2.1.length cap_11), (.slice (o_4.map fun b => ⟨b, 0, none⟩) t_1.1.length cap_5)] (by kernel_rfl) (by kernel_rfl) (fun w hm => laws_eqActS.calls t_2.1 t_1.1 w _ (o_10.map fun b => ⟨b, 0, none⟩) t_2.1.length cap_11 (hm.ownRow (hh := 1) (o := o_10) (T := 37) (enc := encGAct) (xs := t_2.1) (sp := sp_12) (by kernel_rfl) (fun e => (ho_14 e).1) encGAct_len) rfl (o_4.map fun b => ⟨b, 0, none⟩) t_1.1.length cap_5 (hm.ownRow (hh := 0) (o := o_4) (T := 37) (enc := encGAct) (xs := t_1.1) (sp := sp_6) (by kernel_rfl) (fun e => (ho_8 e).1) encGAct_len) rfl ht_19) ?_)
    rintro w v w' hm ⟨rfl, hm'⟩
    refine ⟨_, hm.app hm', jkO ?_⟩
    clear hm hm'
    refine jo_f [(0, 0), (0, 0), (0, 1), (0, 1), (0, 1), (0, 0)] (by kernel_rfl) ?_
    refine jo_end (by kernel_rfl) ?_
    refine jx_then ?_
    refine jc_cond ((!t_3) || (t_2.2 != t_1.2)) (by kernel_rfl) (fun hc_20 => ?_) (fun hc_20 => ?_)
    · replace h := ifT hc_20 h
      refine jc_seq ?_
      refine jc_region ?_
      refine jo_f [(0, 0)] (by kernel_rfl) ?_
      refine jo_end (by kernel_rfl) ?_
      refine jx_then ?_
      refine jc_ret ?_
      refine jx_thenr ?_
      obtain rfl := Option.some.inj h
      exact jx_ret [] (.bool false) [] rfl (by kernel_rfl) (by kernel_rfl) (fun w hm => ⟨rfl, hm.pick [] (by kernel_rfl) (by kernel_rfl)⟩)
    · replace h := ifF hc_20 h
      refine jc_skip ?_
      refine jx_then ?_
      refine jc_seq ?_
      refine jc_region ?_
      refine jo_f [(0, 0)] (by kernel_rfl) ?_
      refine jo_end (by kernel_rfl) ?_
      refine jx_then ?_
      refine jc_seq ?_
      refine jc_region ?_
      refine jo_f [(0, 0), (0, 0)] (by kernel_rfl) ?_
      obtain ⟨t_4, ht_21, h⟩ := bd h
      refine toO (by kernel_rfl) (p_call 0 12 #[(.slice (o_10.map fun b => ⟨b, 0, none⟩) t_2.1.length cap_11), (.int .i64 1)] (by kernel_rfl) (by kernel_rfl) (fun w hm => laws_markActS.calls t_2.1 1 w _ o_10 t_2.1.length cap_11 sp_12 rfl hs_13 ho_14 (hm.pass (N := [⟨o_10, 37, row encGAct t_2.1 sp_12⟩]) [1] (by kernel_rfl) (by kernel_rfl)) ht_21) ?_)
      rintro w v w' hm ⟨hn_22, ho_23, rfl, hm'⟩
      refine ⟨_, hm.appW (ps := [(1, ⟨o_10, 37, row encGAct t_4.2 sp_12⟩)]) (N := []) hm' (by kernel_rfl) (by kernel_rfl), jkO ?_⟩
      clear hm hm'
      refine jo_f [(0, 0)] (by kernel_rfl) ?_
      refine jo_end (by kernel_rfl) ?_
      refine jx_then ?_
      refine jc_seq ?_
      refine jc_region ?_
      refine jo_f [(0, 0)] (by kernel_rfl) ?_
      refine jo_end (by kernel_rfl) ?_
      refine jx_then ?_
      refine jc_seq ?_
      refine jc_region ?_
      refine jo_f [(0, 0), (0, 0)] (by kernel_rfl) ?_
      obtain ⟨t_5, ht_24, h⟩ := bd h
      refine toO (by kernel_rfl) (p_call 0 13 #[(.slice (o_10.map fun b => ⟨b, 0, none⟩) t_2.1.length cap_11), (.int .i64 1)] (by kernel_rfl) (by kernel_rfl) (fun w hm => laws_heldActS.calls t_4.2 1 w _ (o_10.map fun b => ⟨b, 0, none⟩) t_2.1.length cap_11 (hm.ownRow (hh := 1) (o := o_10) (T := 37) (enc := encGAct) (xs := t_4.2) (sp := sp_12) (by kernel_rfl) (fun e => (ho_23 e).1) encGAct_len) hn_22 ht_24) ?_)
      rintro w v w' hm ⟨rfl, hm'⟩
      refine ⟨_, hm.app hm', jkO ?_⟩
      clear hm hm'
      refine jo_f [(0, 0)] (by kernel_rfl) ?_
      refine jo_end (by kernel_rfl) ?_
      refine jx_then ?_
      refine jc_seq ?_
      refine jc_seq ?_
      refine jc_region ?_
      refine jo_f [(0, 0), (0, 0)] (by kernel_rfl) ?_
      refine jo_end (by kernel_rfl) ?_
      refine jx_then ?_
      refine jc_cond (decide (t_5 < 0)) (by kernel_rfl) (fun hc_26 => ?_) (fun hc_26 => ?_)
      · replace h := ifT hc_26 h
        refine jc_seq ?_
        refine jc_region ?_
        refine jo_f [(0, 0)] (by kernel_rfl) ?_
        refine jo_end (by kernel_rfl) ?_
        refine jx_then ?_
        refine jc_ret ?_
        refine jx_thenr ?_
        obtain rfl := Option.some.inj h
        exact jx_ret [] (.bool false) [] rfl (by kernel_rfl) (by kernel_rfl) (fun w hm => ⟨rfl, hm.pick [] (by kernel_rfl) (by kernel_rfl)⟩)
      · replace h := ifF hc_26 h
        refine jc_skip ?_
        refine jx_then ?_
        refine jc_seq ?_
        refine jc_seq ?_
        refine jc_region ?_
        refine jo_f [(0, 0), (0, 0), (0, 0)] (by kernel_rfl) ?_
        refine jo_end (by kernel_rfl) ?_
        refine jx_then ?_
        refine jc_cond (t_5 != t_4.1) (by kernel_rfl) (fun hc_28 => ?_) (fun hc_28 => ?_)
        · replace h := ifT hc_28 h
          refine jc_seq ?_
          refine jc_region ?_
          refine jo_f [(0, 0)] (by kernel_rfl) ?_
          refine jo_end (by kernel_rfl) ?_
          refine jx_then ?_
          refine jc_ret ?_
          refine jx_thenr ?_
          obtain rfl := Option.some.inj h
          exact jx_ret [] (.bool false) [] rfl (by kernel_rfl) (by kernel_rfl) (fun w hm => ⟨rfl, hm.pick [] (by kernel_rfl) (by kernel_rfl)⟩)
        · replace h := ifF hc_28 h
          refine jc_skip ?_
          refine jx_then ?_
          refine jc_seq ?_
          refine jc_region ?_
          refine jo_f [(0, 0)] (by kernel_rfl) ?_
          obtain ⟨t_6, ht_29, h⟩ := bd h
          refine toO (by kernel_rfl) (p_call 0 11 #[(.string aText0)] (by kernel_rfl) (by kernel_rfl) (fun w hm => impl_ReadActs.calls aText0 w _ (g_er.keep hm) (g_lo.keep hm) (g_ml.keep hm) (g_pw.keep hm) ht_29) ?_)
          rintro w v w' hm ⟨o_30, cap_31, sp_32, _, rfl, hs_33, ho_34, rfl, hm'⟩
          refine ⟨_, hm.app hm', jkO ?_⟩
          clear hm hm'
          refine jo_f [(0, 0), (0, 0), (0, 0), (0, 0), (0, 0)] (by kernel_rfl) ?_
          refine jo_end (by kernel_rfl) ?_
          refine jx_then ?_
          refine jc_seq ?_
          refine jc_seq ?_
          refine jc_region ?_
          refine jo_f [(0, 0), (0, 0)] (by kernel_rfl) ?_
          obtain ⟨t_7, ht_39, h⟩ := bd h
          refine toO (by kernel_rfl) (p_call 0 9 #[(.slice (o_30.map fun b => ⟨b, 0, none⟩) t_6.1.length cap_31), (.slice (o_4.map fun b => ⟨b, 0, none⟩) t_1.1.length cap_5)] (by kernel_rfl) (by kernel_rfl) (fun w hm => laws_eqActS.calls t_6.1 t_1.1 w _ (o_30.map fun b => ⟨b, 0, none⟩) t_6.1.length cap_31 (hm.ownRow (hh := 2) (o := o_30) (T := 37) (enc := encGAct) (xs := t_6.1) (sp := sp_32) (by kernel_rfl) (fun e => (ho_34 e).1) encGAct_len) rfl (o_4.map fun b => ⟨b, 0, none⟩) t_1.1.length cap_5 (hm.ownRow (hh := 0) (o := o_4) (T := 37) (enc := encGAct) (xs := t_1.1) (sp := sp_6) (by kernel_rfl) (fun e => (ho_8 e).1) encGAct_len) rfl ht_39) ?_)
          rintro w v w' hm ⟨rfl, hm'⟩
          refine ⟨_, hm.app hm', jkO ?_⟩
          clear hm hm'
          refine jo_f [(0, 0), (0, 0), (0, 1), (0, 1), (0, 1), (0, 0)] (by kernel_rfl) ?_
          refine jo_end (by kernel_rfl) ?_
          refine jx_then ?_
          refine jc_cond ((!t_7) || (t_6.2 != t_1.2)) (by kernel_rfl) (fun hc_40 => ?_) (fun hc_40 => ?_)
          · replace h := ifT hc_40 h
            refine jc_seq ?_
            refine jc_region ?_
            refine jo_f [(0, 0)] (by kernel_rfl) ?_
            refine jo_end (by kernel_rfl) ?_
            refine jx_then ?_
            refine jc_ret ?_
            refine jx_thenr ?_
            obtain rfl := Option.some.inj h
            exact jx_ret [] (.bool false) [] rfl (by kernel_rfl) (by kernel_rfl) (fun w hm => ⟨rfl, hm.pick [] (by kernel_rfl) (by kernel_rfl)⟩)
          · replace h := ifF hc_40 h
            refine jc_skip ?_
            refine jx_then ?_
            refine jc_seq ?_
            refine jc_region ?_
            refine jo_f [(0, 0)] (by kernel_rfl) ?_
            refine jo_end (by kernel_rfl) ?_
            refine jx_then ?_
            refine jc_seq ?_
            refine jc_region ?_
            refine jo_f [(0, 0), (0, 0)] (by kernel_rfl) ?_
            obtain ⟨t_8, ht_41, h⟩ := bd h
            refine toO (by kernel_rfl) (p_call 0 13 #[(.slice (o_10.map fun b => ⟨b, 0, none⟩) t_2.1.length cap_11), (.int .i64 1)] (by kernel_rfl) (by kernel_rfl) (fun w hm => laws_heldActS.calls t_4.2 1 w _ (o_10.map fun b => ⟨b, 0, none⟩) t_2.1.length cap_11 (hm.ownRow (hh := 1) (o := o_10) (T := 37) (enc := encGAct) (xs := t_4.2) (sp := sp_12) (by kernel_rfl) (fun e => (ho_23 e).1) encGAct_len) hn_22 ht_41) ?_)
            rintro w v w' hm ⟨rfl, hm'⟩
            refine ⟨_, hm.app hm', jkO ?_⟩
            clear hm hm'
            refine jo_f [(0, 0)] (by kernel_rfl) ?_
            refine jo_end (by kernel_rfl) ?_
            refine jx_then ?_
            refine jc_seq ?_
            refine jc_seq ?_
            refine jc_region ?_
            refine jo_f [(0, 0), (0, 0)] (by kernel_rfl) ?_
            refine jo_end (by kernel_rfl) ?_
            refine jx_then ?_
            refine jc_cond (decide (t_8 < 0)) (by kernel_rfl) (fun hc_43 => ?_) (fun hc_43 => ?_)
            · replace h := ifT hc_43 h
              refine jc_seq ?_
              refine jc_region ?_
              refine jo_f [(0, 0)] (by kernel_rfl) ?_
              refine jo_end (by kernel_rfl) ?_
              refine jx_then ?_
              refine jc_ret ?_
              refine jx_thenr ?_
              obtain rfl := Option.some.inj h
              exact jx_ret [] (.bool false) [] rfl (by kernel_rfl) (by kernel_rfl) (fun w hm => ⟨rfl, hm.pick [] (by kernel_rfl) (by kernel_rfl)⟩)
            · replace h := ifF hc_43 h
              refine jc_skip ?_
              refine jx_then ?_
              refine jc_seq ?_
              refine jc_seq ?_
              refine jc_region ?_
              refine jo_f [(0, 0), (0, 0), (0, 0)] (by kernel_rfl) ?_
              refine jo_end (by kernel_rfl) ?_
              refine jx_then ?_
              refine jc_cond (t_8 != t_4.1) (by kernel_rfl) (fun hc_44 => ?_) (fun hc_44 => ?_)
              · replace h := ifT hc_44 h
                refine jc_seq ?_
                refine jc_region ?_
                refine jo_f [(0, 0)] (by kernel_rfl) ?_
                refine jo_end (by kernel_rfl) ?_
                refine jx_then ?_
                refine jc_ret ?_
                refine jx_thenr ?_
                obtain rfl := Option.some.inj h
                exact jx_ret [] (.bool false) [] rfl (by kernel_rfl) (by kernel_rfl) (fun w hm => ⟨rfl, hm.pick [] (by kernel_rfl) (by kernel_rfl)⟩)
              · replace h := ifF hc_44 h
                refine jc_skip ?_
                refine jx_then ?_
                refine jc_seq ?_
                refine jc_region ?_
                refine jo_f [(0, 0)] (by kernel_rfl) ?_
                refine jo_end (by kernel_rfl) ?_
                refine jx_then ?_
                refine jc_ret ?_
                obtain rfl := Option.some.inj h
                exact jx_ret [] (.bool true) [] rfl (by kernel_rfl) (by kernel_rfl) (fun w hm => ⟨rfl, hm.pick [] (by kernel_rfl) (by kernel_rfl)⟩)
end Go.Proofs.YtplklknkkaeniaaDoor
