/- Functions of the program that the laws reach: a plain function each, and that the call comes to its answer if the plain function has one. Printed by a program. -/
import Derived.Test.YtbclghgbnnlbjaaT
import Derived.Test.YtbclghgbnnlbjaaTab
import Derived.Test.YtbclghgbnnlbjaaM0
import Derived.Test.YtbclghgbnnlbjaaM1
namespace Go.Proofs.Ytbclghgbnnlbjaa
open Eng
set_option linter.unusedVariables false

set_option linter.unusedSectionVars false
set_option maxRecDepth 100000
variable [dsW : DrwS]
noncomputable section
/-! ### spec.l05First -/
def spec_l05First.k_5 (i_4 : Int) : Option (Int) := some i_4
def spec_l05First.k_3 (list1 : List (Arr 96 Int)) (i_2 : Int) : Option (Int) := (if ((i_2 == 0) && ((list1.length : Int) == 0)) = true then spec_l05First.k_5 6 else spec_l05First.k_5 i_2)
def spec_l05First (f0 : GFrame) (list1 : List (Arr 96 Int)) (first2 : Int) : Option (Int) := (spec_l05Asked f0 list1).bind fun t_1 => (if (t_1 == 0) = true then (spec_l00In first2 (-1) (w64 ((list1.length : Int) - 1))).bind fun t_6 => (if (!t_6) = true then spec_l05First.k_3 list1 2 else spec_l05First.k_3 list1 t_1) else spec_l05First.k_3 list1 t_1)
theorem spec_l05First.calls (f0 : GFrame) (list1 : List (Arr 96 Int)) (first2 : Int) (w : World) (r : Int) {C_a : Option Addr} {C_an : Nat} (C_c : Nat) (C_h : Rw w C_a 2 encGHammer f0.fHammers) (C_hn : f0.fHammers.length = C_an) {D_a : Option Addr} {D_an : Nat} (D_c : Nat) (D_h : Rw w D_a 96 encA96U32 list1) (D_hn : list1.length = D_an) (A_b : Nat) (hm0 : Mem w (bs [some A_b]) [⟨some A_b, 34, [(.int .i16 f0.fSteps), (.slice C_a C_an C_c)]⟩] w) (C_ha : f0.fHammers ≠ [] → aB C_a ∉ bs [some A_b]) (D_ha : list1 ≠ [] → aB D_a ∉ bs [some A_b]) (h : spec_l05First f0 list1 first2 = some r) :
    Calls Try.prog 49 #[(.pointer (some ⟨A_b, 0, none⟩)), (.slice D_a D_an D_c), (.int .i64 first2)] w fun e w' => ∃ v, e = .returned v ∧ (v = (.int .i64 r) ∧ Mem w (bs [some A_b]) [⟨some A_b, 34, [(.int .i16 f0.fSteps), (.slice C_a C_an C_c)]⟩] w') := by
  subst C_hn D_hn
  rw [spec_l05First] at h
  refine enter (args := [(.pointer (some ⟨A_b, 0, none⟩)), (.slice D_a list1.length D_c), (.int .i64 first2)]) Try.func49 rfl Try.ntmps49 (by kernel_rfl) (L := [⟨some A_b, 34, [(.int .i16 f0.fSteps), (.slice C_a f0.fHammers.length C_c)]⟩]) (W := bs [some A_b]) hm0 ?_
  refine jc_seq (jc_region (qh [0] (qe (jx_then (jc_seq (jc_region (qh [0,0] ?_)))))))
  obtain ⟨t_1, ht_1, h⟩ := bd h
  refine tO (pc 0 (fun w hm => spec_l05Asked.calls f0 list1 w _ C_c (hm.exRowW C_h C_ha) rfl D_c (hm.exRowW D_h D_ha) rfl A_b (hm.pass (N := [⟨some A_b, 34, [(.int .i16 f0.fSteps), (.slice C_a f0.fHammers.length C_c)]⟩]) [0] (by kernel_rfl) (by kernel_rfl)) (hm.exApart (N := [⟨some A_b, 34, [(.int .i16 f0.fSteps), (.slice C_a f0.fHammers.length C_c)]⟩]) C_h C_ha [0] (by kernel_rfl)) (hm.exApart (N := [⟨some A_b, 34, [(.int .i16 f0.fSteps), (.slice C_a f0.fHammers.length C_c)]⟩]) D_h D_ha [0] (by kernel_rfl)) ht_1) ?_)
  rintro w v w' hm ⟨rfl, hm'⟩
  refine ⟨_, hm.appW (ps := [(0, ⟨some A_b, 34, [(.int .i16 f0.fSteps), (.slice C_a f0.fHammers.length C_c)]⟩)]) (N := []) hm' (by kernel_rfl) (by kernel_rfl), jkO ?_⟩
  clear hm hm'
  refine qh [0] (qe (jx_then (jc_seq (jc_meet (fun (j : Int) => match j with | i_2 => spec_l05First.k_3 list1 i_2 = some r) (fun (j : Int) => match j with | i_2 => [(1, [], (.slice D_a list1.length D_c)), (6, [], (.int .i64 0)), (7, [], (.int .i64 i_2))]) (fun (j : Int) => match j with | i_2 => [⟨some A_b, 34, [(.int .i16 f0.fSteps), (.slice C_a f0.fHammers.length C_c)]⟩]) ?_ ?_))))
  ·refine jc_seq (jc_region (qf [(0, 0), (0, 0), (0, 0), (0, 1), (0, 1), (0, 1), (0, 1)] (qp 13 h (fun h => ?_) (fun h => ?_))))
   ·obtain ⟨t_6, ht_9, h⟩ := bd h
    refine tO (pc 2 (fun w hm => spec_l00In.calls first2 (-1) (w64 ((list1.length : Int) - 1)) w _ ht_9) ?_)
    rintro w v w' hm ⟨rfl, hm'⟩
    refine ⟨_, hm.app hm', jkO ?_⟩
    clear hm hm'
    refine qf [(0, 2), (0, 4)] (qe (jx_then (qi h (fun h => ?_) (fun h => ?_))))
    ·exact jc_region (qh [0] (qe (qm 2 h [0])))
    ·exact jc_skip (qm t_1 h [0])
   ·exact qf [(0, 3), (0, 3), (0, 5)] (qe (jx_then (jc_cond false (by kernel_rfl) (fun hc_11 => nomatch hc_11) (fun hc_11 => (jc_skip (qm t_1 h [0]))))))
  ·rintro i_2 h
   replace h : spec_l05First.k_3 list1 i_2 = some r := h
   rw [spec_l05First.k_3] at h
   refine jx_then (jc_seq (jc_meet (fun (j : Int) => match j with | i_4 => spec_l05First.k_5 i_4 = some r) (fun (j : Int) => match j with | i_4 => [(6, [], (.int .i64 0)), (7, [], (.int .i64 i_4))]) (fun (j : Int) => match j with | i_4 => [⟨some A_b, 34, [(.int .i16 f0.fSteps), (.slice C_a f0.fHammers.length C_c)]⟩]) ?_ ?_))
   ·refine jc_seq (jc_region (qf [(0, 0), (0, 0), (0, 0), (0, 1), (0, 1), (0, 1), (0, 0)] (qe (jx_then (qi h (fun h => ?_) (fun h => ?_))))))
    ·exact jc_region (qh [0] (qe (qm 6 h [0])))
    ·exact jc_skip (qm i_2 h [0])
   ·rintro i_4 h
    replace h : spec_l05First.k_5 i_4 = some r := h
    rw [spec_l05First.k_5] at h
    refine jx_then (jc_seq (jc_region (qh [0,0] (qe (jx_then (jc_ret ?_))))))
    obtain rfl := Option.some.inj h
    exact qr [] (fun w hm => ⟨rfl, hm.pk [0]⟩)
/-! ### spec.TreeOf -/
def spec_TreeOf (f0 : GFrame) (list1 : List (Arr 96 Int)) : Option ((List (Arr 2 Int)) × Int × Int) := (spec_l05First f0 list1 (-1)).bind fun t_1 => (if (t_1 != 0) = true then some (([] : List (Arr 2 Int)), 0, t_1) else (spec_l05Table list1).bind fun t_2 => (spec_l05Tree t_2).bind fun t_3 => some (t_3.1, t_3.2, 0))
theorem spec_TreeOf.calls (f0 : GFrame) (list1 : List (Arr 96 Int)) (w : World) (r : (List (Arr 2 Int)) × Int × Int) {C_a : Option Addr} {C_an : Nat} (C_c : Nat) (C_h : Rw w C_a 2 encGHammer f0.fHammers) (C_hn : f0.fHammers.length = C_an) {D_a : Option Addr} {D_an : Nat} (D_c : Nat) (D_h : Rw w D_a 96 encA96U32 list1) (D_hn : list1.length = D_an) (h : spec_TreeOf f0 list1 = some r) :
    Calls Try.prog 12 #[(.agg #[(.int .i16 f0.fSteps), (.slice C_a C_an C_c)]), (.slice D_a D_an D_c)] w fun e w' => ∃ v, e = .returned v ∧ (∃ (o0 : Option Nat) (c0 : Nat) (s0 : List Value) (n0 : Nat), r.1.length = n0 ∧ (o0 ≠ none → n0 ≤ c0 ∧ s0.length = (c0 - n0) * 2) ∧ (o0 = none → r.1 = [] ∧ c0 = 0) ∧ v = .tuple #[.slice (o0.map fun b => ⟨b, 0, none⟩) n0 c0, (.int .i64 r.2.1), (.int .i64 r.2.2)] ∧ Mem w [] [⟨o0, 93, row encA2I64 r.1 s0⟩] w') := by
  subst C_hn D_hn
  rw [spec_TreeOf] at h
  refine enter (args := [(.agg #[(.int .i16 f0.fSteps), (.slice C_a f0.fHammers.length C_c)]), (.slice D_a list1.length D_c)]) Try.func12 rfl Try.ntmps12 (by kernel_rfl) (L := []) (W := []) (Mem.start w) ?_
  refine jc_seq (jc_region (tO (qa 0 (fun b_1 => jkO (qh [0,0,0] (qe (jx_then (jc_seq (jc_seq (jc_region (qh [0] ?_)))))))))))
  obtain ⟨t_1, ht_5, h⟩ := bd h
  refine tO (pc 0 (fun w hm => spec_l05First.calls f0 list1 (-1) w _ C_c (hm.xr C_h) rfl D_c (hm.xr D_h) rfl b_1 (hm.pass (N := [⟨some b_1, 34, [(.int .i16 f0.fSteps), (.slice C_a f0.fHammers.length C_c)]⟩]) [0] (by kernel_rfl) (by kernel_rfl)) (hm.exApart (N := [⟨some b_1, 34, [(.int .i16 f0.fSteps), (.slice C_a f0.fHammers.length C_c)]⟩]) C_h (fun _ => List.not_mem_nil) [0] (by kernel_rfl)) (hm.exApart (N := [⟨some b_1, 34, [(.int .i16 f0.fSteps), (.slice C_a f0.fHammers.length C_c)]⟩]) D_h (fun _ => List.not_mem_nil) [0] (by kernel_rfl)) ht_5) ?_)
  rintro w v w' hm ⟨rfl, hm'⟩
  refine ⟨_, hm.appW (ps := [(0, ⟨some b_1, 34, [(.int .i16 f0.fSteps), (.slice C_a f0.fHammers.length C_c)]⟩)]) (N := []) hm' (by kernel_rfl) (by kernel_rfl), jkO ?_⟩
  clear hm hm'
  refine qh [0] (qe (jx_then (jc_seq (jc_region (qh [0,0] (qe (jx_then (qi h (fun h => ?_) (fun h => ?_)))))))))
  ·refine jc_seq (jc_region (tO (qa 0 (fun b_7 => jkO (qh [0,0,0,0] (qe (jx_then (jc_ret (jx_thenr ?_)))))))))
   obtain rfl := Option.some.inj h
   exact qr [] (fun w hm => ⟨(some b_7), 0, [], 0, rfl, (fun _ => ⟨Nat.le_refl _, by simp⟩), (fun e => nomatch e), rfl, hm.pk [1]⟩)
  ·refine jc_skip (jx_then (jc_seq (jc_region (qh [0] ?_))))
   obtain ⟨t_2, ht_8, h⟩ := bd h
   refine tO (pc 0 (fun w hm => spec_l05Table.calls list1 w _ D_c (hm.xr D_h) rfl ht_8) ?_)
   rintro w v w' hm ⟨o_9, cap_10, sp_11, _, hh_14, hI_15, rfl, hs_12, ho_13, rfl, hm'⟩
   refine ⟨_, hm.app hm', jkO ?_⟩
   clear hm hm'
   obtain ⟨t_3, ht_16, h⟩ := bd h
   refine tO (pc 0 (fun w hm => spec_l05Tree.calls t_2 w _ cap_10 (hm.ow 1 o_9 49 hh_14 sp_11 (fun e => (ho_13 e).1) encHd_len) (hI_15.1.symm.trans rfl) (hm.cluPass (N := []) 2 hI_15 encI64_len []) ht_16) ?_)
   rintro w v w' hm ⟨o_17, cap_18, sp_19, _, rfl, hs_20, ho_21, rfl, hm'⟩
   refine ⟨_, hm.app hm', jkO ?_⟩
   clear hm hm'
   refine qh [0,0,0,0,0] (qe (jx_then (jc_seq (jc_region (qh [0,0,0,0,0] (qe (jx_then (jc_ret ?_))))))))
   obtain rfl := Option.some.inj h
   exact qr [] (fun w hm => ⟨o_17, cap_18, sp_19, t_3.1.length, rfl, hs_20, ho_21, rfl, hm.pk [3]⟩)
/-! ### impl.startCode -/
def impl_startCode (f0 : GFrame) (list1 : List (Arr 96 Int)) (first2 : Int) : Option (Int) := (impl_listCode f0 list1).bind fun t_1 => (impl_size_Drum list1).bind fun t_2 => (impl_within first2 (-1) (w64 (t_2 - 1))).bind fun t_3 => (impl_unless t_3 2).bind fun t_4 => (impl_unless (decide ((list1.length : Int) > 0)) 6).bind fun t_5 => (impl_firstOf ([t_1, t_4, t_5] : List Int)).bind fun t_6 => some t_6
theorem impl_startCode.calls (f0 : GFrame) (list1 : List (Arr 96 Int)) (first2 : Int) (w : World) (r : Int) {C_a : Option Addr} {C_an : Nat} (C_c : Nat) (C_h : Rw w C_a 2 encGHammer f0.fHammers) (C_hn : f0.fHammers.length = C_an) {D_a : Option Addr} {D_an : Nat} (D_c : Nat) (D_h : Rw w D_a 96 encA96U32 list1) (D_hn : list1.length = D_an) (h : impl_startCode f0 list1 first2 = some r) :
    Calls Try.prog 54 #[(.agg #[(.int .i16 f0.fSteps), (.slice C_a C_an C_c)]), (.slice D_a D_an D_c), (.int .i64 first2)] w fun e w' => ∃ v, e = .returned v ∧ (v = (.int .i64 r) ∧ Mem w [] [] w') := by
  subst C_hn D_hn
  rw [impl_startCode] at h
  refine enter (args := [(.agg #[(.int .i16 f0.fSteps), (.slice C_a f0.fHammers.length C_c)]), (.slice D_a list1.length D_c), (.int .i64 first2)]) Try.func54 rfl Try.ntmps54 (by kernel_rfl) (L := []) (W := []) (Mem.start w) ?_
  refine jc_seq (jc_region (tO (qa 0 (fun b_1 => jkO (qh [0] (qe (jx_then (jc_seq (jc_region (qh [0,0] ?_))))))))))
  obtain ⟨t_1, ht_2, h⟩ := bd h
  refine tO (pc 0 (fun w hm => impl_listCode.calls f0 list1 w _ C_c (hm.xr C_h) rfl D_c (hm.xr D_h) rfl ht_2) ?_)
  rintro w v w' hm ⟨rfl, hm'⟩
  refine ⟨_, hm.app hm', jkO ?_⟩
  clear hm hm'
  refine qh [0,0] ?_
  obtain ⟨t_2, ht_3, h⟩ := bd h
  refine tO (pc 0 (fun w hm => impl_size_Drum.calls list1 w _ D_c (hm.xr D_h) rfl ht_3) ?_)
  rintro w v w' hm ⟨rfl, hm'⟩
  refine ⟨_, hm.app hm', jkO ?_⟩
  clear hm hm'
  refine qh [0] ?_
  obtain ⟨t_3, ht_4, h⟩ := bd h
  refine tO (pc 0 (fun w hm => impl_within.calls first2 (-1) (w64 (t_2 - 1)) w _ ht_4) ?_)
  rintro w v w' hm ⟨rfl, hm'⟩
  refine ⟨_, hm.app hm', jkO ?_⟩
  clear hm hm'
  obtain ⟨t_4, ht_5, h⟩ := bd h
  refine tO (pc 0 (fun w hm => impl_unless.calls t_3 2 w _ ht_5) ?_)
  rintro w v w' hm ⟨rfl, hm'⟩
  refine ⟨_, hm.app hm', jkO ?_⟩
  clear hm hm'
  refine qh [0,0,0] ?_
  obtain ⟨t_5, ht_6, h⟩ := bd h
  refine tO (pc 0 (fun w hm => impl_unless.calls (decide ((list1.length : Int) > 0)) 6 w _ ht_6) ?_)
  rintro w v w' hm ⟨rfl, hm'⟩
  refine ⟨_, hm.app hm', jkO ?_⟩
  clear hm hm'
  refine tO (qa 0 (fun b_7 => jkO ?_))
  obtain ⟨t_6, ht_8, h⟩ := bd h
  refine tO (pc 0 (fun w hm => impl_firstOf.calls ([t_1, t_4, t_5] : List Int) w _ 3 (hm.ow 1 (some b_7) 2 ([t_1, t_4, t_5] : List Int) [] (fun e => nomatch e) encI64_len) rfl ht_8) ?_)
  rintro w v w' hm ⟨rfl, hm'⟩
  refine ⟨_, hm.app hm', jkO ?_⟩
  clear hm hm'
  refine qh [0] (qe (jx_then (jc_ret ?_)))
  obtain rfl := Option.some.inj h
  exact qr [] (fun w hm => ⟨rfl, hm.pk []⟩)
/-! ### impl.TreeOf -/
def impl_TreeOf.k_6 (xs_4 : List (Arr 2 Int)) (i_5 : Int) : Option ((List (Arr 2 Int)) × Int × Int) := some (xs_4, i_5, 0)
def impl_TreeOf.l_10 (list1 : List (Arr 96 Int)) (t_2 : (List (List Int))) (t_3 : (List (Arr 2 Int))) : ((List (Arr 2 Int)) × Int × Int) → Option (((List (Arr 2 Int)) × Int × Int) ⊕ (((List (Arr 2 Int)) × Int)))
  | (xs_7, i_8, i_9) => (if (decide (i_9 < (t_3.length : Int))) = true then (ix t_3 i_9).bind fun x_12 => (impl_joined (list1.length : Int) xs_7).bind fun t_13 => (ix x_12.1 0).bind fun x_14 => (ix t_13 x_14).bind fun x_15 => (ix x_12.1 1).bind fun x_16 => (ix t_13 x_16).bind fun x_17 => (if (x_15 != x_17) = true then (if xs_7.length + ([x_12] : List (Arr 2 Int)).length ≤ 4294967296 then (ix x_12.1 0).bind fun x_18 => (ix t_2 x_18).bind fun x_19 => (ix x_12.1 1).bind fun x_20 => (ix x_19 x_20).bind fun x_21 => some (.inl ((xs_7 ++ ([x_12] : List (Arr 2 Int))), (w64 (i_8 + x_21)), (w64 (i_9 + 1)))) else none) else some (.inl (xs_7, i_8, (w64 (i_9 + 1))))) else some (.inr (xs_7, i_8)))
def impl_TreeOf (f0 : GFrame) (list1 : List (Arr 96 Int)) : Option ((List (Arr 2 Int)) × Int × Int) := (impl_startCode f0 list1 (-1)).bind fun t_1 => (if (t_1 != 0) = true then some ([], 0, t_1) else (impl_costs list1).bind fun t_2 => (impl_pairsOf t_2).bind fun t_3 => (loop (impl_TreeOf.l_10 list1 t_2 t_3) (([] : List (Arr 2 Int)), 0, 0)).bind fun t_11 => impl_TreeOf.k_6 t_11.1 t_11.2)
theorem impl_TreeOf.calls (f0 : GFrame) (list1 : List (Arr 96 Int)) (w : World) (r : (List (Arr 2 Int)) × Int × Int) {C_a : Option Addr} {C_an : Nat} (C_c : Nat) (C_h : Rw w C_a 2 encGHammer f0.fHammers) (C_hn : f0.fHammers.length = C_an) {D_a : Option Addr} {D_an : Nat} (D_c : Nat) (D_h : Rw w D_a 96 encA96U32 list1) (D_hn : list1.length = D_an) (h : impl_TreeOf f0 list1 = some r) :
    Calls Try.prog 15 #[(.agg #[(.int .i16 f0.fSteps), (.slice C_a C_an C_c)]), (.slice D_a D_an D_c)] w fun e w' => ∃ v, e = .returned v ∧ (∃ (o0 : Option Nat) (c0 : Nat) (s0 : List Value) (n0 : Nat), r.1.length = n0 ∧ (o0 ≠ none → n0 ≤ c0 ∧ s0.length = (c0 - n0) * 2) ∧ (o0 = none → r.1 = [] ∧ c0 = 0) ∧ v = .tuple #[.slice (o0.map fun b => ⟨b, 0, none⟩) n0 c0, (.int .i64 r.2.1), (.int .i64 r.2.2)] ∧ Mem w [] [⟨o0, 93, row encA2I64 r.1 s0⟩] w') := by
  subst C_hn D_hn
  rw [impl_TreeOf] at h
  refine enter (args := [(.agg #[(.int .i16 f0.fSteps), (.slice C_a f0.fHammers.length C_c)]), (.slice D_a list1.length D_c)]) Try.func15 rfl Try.ntmps15 (by kernel_rfl) (L := []) (W := []) (Mem.start w) ?_
  refine jc_seq (jc_region (tO (qa 0 (fun b_1 => jkO (qh [0,0,0] (qe (jx_then (jc_seq (jc_seq (jc_region (qh [0,0] ?_)))))))))))
  obtain ⟨t_1, ht_4, h⟩ := bd h
  refine tO (pc 0 (fun w hm => impl_startCode.calls f0 list1 (-1) w _ C_c (hm.xr C_h) rfl D_c (hm.xr D_h) rfl ht_4) ?_)
  rintro w v w' hm ⟨rfl, hm'⟩
  refine ⟨_, hm.app hm', jkO ?_⟩
  clear hm hm'
  refine qh [0] (qe (jx_then (jc_seq (jc_region (qh [0,0] (qe (jx_then (qi h (fun h => ?_) (fun h => ?_)))))))))
  ·refine jc_seq (jc_region (qh [0,0,0,0] (qe (jx_then (jc_ret (jx_thenr ?_))))))
   obtain rfl := Option.some.inj h
   exact jx_ghost 93 encA2I64 (qr [] (fun w hm => ⟨none, 0, [], 0, rfl, (fun e => absurd rfl e), (fun _ => ⟨rfl, rfl⟩), rfl, hm.pk [1]⟩))
  ·refine jc_skip (jx_then (jc_seq (jc_region (qh [0] ?_))))
   obtain ⟨t_2, ht_6, h⟩ := bd h
   refine tO (pc 0 (fun w hm => impl_costs.calls list1 w _ D_c (hm.xr D_h) rfl ht_6) ?_)
   rintro w v w' hm ⟨o_7, cap_8, sp_9, _, hh_12, hI_13, rfl, hs_10, ho_11, rfl, hm'⟩
   refine ⟨_, hm.app hm', jkO ?_⟩
   clear hm hm'
   refine tO (qa 0 (fun b_14 => jkO (qh [0,0,0] (qe (jx_then (jc_seq (jc_seq (jc_region (qh [0] ?_)))))))))
   obtain ⟨t_3, ht_215, h⟩ := bd h
   refine tO (pc 0 (fun w hm => impl_pairsOf.calls t_2 w _ cap_8 (hm.ow 1 o_7 49 hh_12 sp_9 (fun e => (ho_11 e).1) encHd_len) (hI_13.1.symm.trans rfl) (hm.cluPass (N := []) 2 hI_13 encI64_len []) ht_215) ?_)
   rintro w v w' hm ⟨o_216, cap_217, sp_218, _, rfl, hs_219, ho_220, rfl, hm'⟩
   refine ⟨_, hm.app hm', jkO ?_⟩
   clear hm hm'
   refine qh [0,0] (qe (jx_then (jc_meet (fun (j : (List (Arr 2 Int)) × Int × (Option Nat) × Nat × (List Value) × Nat) => match j with | ⟨xs_4, i_5, o_315, cap_316, sp_317, n_318⟩ => impl_TreeOf.k_6 xs_4 i_5 = some r ∧ (xs_4.length = n_318) ∧ ((o_315 ≠ none → n_318 ≤ cap_316 ∧ sp_317.length = (cap_316 - n_318) * 2)) ∧ ((o_315 = none → xs_4 = [] ∧ cap_316 = 0))) (fun (j : (List (Arr 2 Int)) × Int × (Option Nat) × Nat × (List Value) × Nat) => match j with | ⟨xs_4, i_5, o_315, cap_316, sp_317, n_318⟩ => [(4, [], (.slice none 0 0)), (5, [], (.int .i64 0)), (6, [], (.int .i64 0)), (9, [], (.slice (o_315.map fun b => ⟨b, 0, none⟩) n_318 cap_316)), (10, [], (.int .i64 i_5))]) (fun (j : (List (Arr 2 Int)) × Int × (Option Nat) × Nat × (List Value) × Nat) => match j with | ⟨xs_4, i_5, o_315, cap_316, sp_317, n_318⟩ => [⟨some b_1, 34, [(.int .i16 f0.fSteps), (.slice C_a f0.fHammers.length C_c)]⟩, ⟨o_7, 49, row encHd hh_12 sp_9⟩, ⟨none, CLU, cluC encI64 hh_12 t_2⟩, ⟨o_315, 93, row encA2I64 xs_4 sp_317⟩, ⟨o_216, 93, row encA2I64 t_3 sp_218⟩]) ?_ ?_)))
   ·refine jc_block ?_
    obtain ⟨t_11, ht_414, hr_385⟩ := bd h
    refine jc_loop (fun (s : (List (Arr 2 Int)) × Int × Int) (x : (Option Nat) × Nat × (List Value) × Nat) => match s, x with | ⟨xs_7, i_8, i_9⟩, ⟨o_379, cap_380, sp_381, n_382⟩ => (xs_7.length = n_382) ∧ ((o_379 ≠ none → n_382 ≤ cap_380 ∧ sp_381.length = (cap_380 - n_382) * 2)) ∧ ((o_379 = none → xs_7 = [] ∧ cap_380 = 0))) (fun (s : (List (Arr 2 Int)) × Int × Int) (x : (Option Nat) × Nat × (List Value) × Nat) => match s, x with | ⟨xs_7, i_8, i_9⟩, ⟨o_379, cap_380, sp_381, n_382⟩ => [(1, [], (.slice D_a list1.length D_c)), (4, [], (.slice none 0 0)), (5, [], (.int .i64 0)), (6, [], (.int .i64 0)), (8, [], (.slice (o_7.map fun b => ⟨b, 0, none⟩) hh_12.length cap_8)), (9, [], (.slice (o_379.map fun b => ⟨b, 0, none⟩) n_382 cap_380)), (10, [], (.int .i64 i_8)), (24, [], (.slice (o_216.map fun b => ⟨b, 0, none⟩) t_3.length cap_217)), (25, [], (.int .i64 (t_3.length : Int))), (26, [], (.int .i64 i_9))]) (fun (s : (List (Arr 2 Int)) × Int × Int) (x : (Option Nat) × Nat × (List Value) × Nat) => match s, x with | ⟨xs_7, i_8, i_9⟩, ⟨o_379, cap_380, sp_381, n_382⟩ => [⟨some b_1, 34, [(.int .i16 f0.fSteps), (.slice C_a f0.fHammers.length C_c)]⟩, ⟨o_7, 49, row encHd hh_12 sp_9⟩, ⟨none, CLU, cluC encI64 hh_12 t_2⟩, ⟨o_379, 93, row encA2I64 xs_7 sp_381⟩, ⟨o_216, 93, row encA2I64 t_3 sp_218⟩]) ht_414 ⟨(some b_14), 0, [], 0⟩ ⟨rfl, (fun _ => ⟨Nat.le_refl _, by simp⟩), (fun e => nomatch e)⟩ (by kernel_rfl) [0, 1, 2, 3, 4] (by kernel_rfl) (by kernel_rfl) ?_
    rintro ⟨xs_7, i_8, i_9⟩ ⟨o_379, cap_380, sp_381, n_382⟩ y_386 ⟨rfl, hs_383, ho_384⟩ h
    rw [impl_TreeOf.l_10] at h
    refine jc_seq (jc_region (qh [0] (qe (jx_then (jc_seq (qi h (fun h => ?_) (fun h => ?_)))))))
    ·refine jc_skip (jx_then (jc_seq (jc_block (jc_seq (jc_region ?_)))))
     obtain ⟨x_12, hx_389, h⟩ := bd h
     refine tO (qx 0 (o_216.map fun b => ⟨b, 0, none⟩) 2 hx_389 rfl (spo ho_220 hx_389) (jkO (tO (p_ldx 0 (aB (o_216.map fun b => ⟨b, 0, none⟩)) (aO (o_216.map fun b => ⟨b, 0, none⟩) + i_9.toNat * 2) (encA2I64 x_12) 2 (by kernel_rfl) (by kernel_rfl) (encA2I64_len x_12) (fun w hm => ((hm.ow 4 o_216 93 t_3 sp_218 (fun e => (ho_220 e).1) encA2I64_len).at hx_389)) (jkO (tO (qa 0 (fun b_390 => jkO (tO (p_sA 0 5 b_390 2 1 93 encI64 (Arr.rep 2 0) x_12 (by kernel_rfl) (by kernel_rfl) (by kernel_rfl) encI64_len encI64_cell (by kernel_rfl) (jkO (qe (jx_then (jc_seq (jc_region (qh [0,0,0] ?_))))))))))))))))
     obtain ⟨t_13, ht_391, h⟩ := bd h
     refine tO (pc 0 (fun w hm => impl_joined.calls (list1.length : Int) xs_7 w _ cap_380 (hm.ow 3 o_379 93 xs_7 sp_381 (fun e => (ho_384 e).1) encA2I64_len) rfl ht_391) ?_)
     rintro w v w' hm ⟨o_392, cap_393, sp_394, _, rfl, hs_395, ho_396, rfl, hm'⟩
     refine ⟨_, hm.app hm', jkO ?_⟩
     clear hm hm'
     refine qh [0] (qe (jx_then (jc_seq (qg [⟨some b_1, 34, [(.int .i16 f0.fSteps), (.slice C_a f0.fHammers.length C_c)]⟩, ⟨o_7, 49, row encHd hh_12 sp_9⟩, ⟨none, CLU, cluC encI64 hh_12 t_2⟩, ⟨o_379, 93, row encA2I64 xs_7 sp_381⟩, ⟨o_216, 93, row encA2I64 t_3 sp_218⟩, ⟨(some b_390), 93, row encI64 x_12.1 []⟩, ⟨o_392, 2, row encI64 t_13 sp_394⟩] 11 (qd [⟨0, 0, 0⟩,⟨5, 0, 0⟩] 9 [0, 1, 2, 3, 4, 5, 6] ?_)))))
     obtain ⟨x_14, hx_397, h⟩ := bd h
     refine qv 1 0 [0, 1, 2, 3, 4, 5, 6] (fun w hm => idx_run (a := (some ⟨b_390, 0, none⟩)) (len := 2) (s := 1) (j := 0) (by kernel_rfl) (ix_some hx_397).1 (ltn hx_397 x_12.2) rfl) (qv 2 0 [0, 1, 2, 3, 4, 5, 6] (fun w hm => ld_run (b := aB (some ⟨b_390, 0, none⟩)) (off := (aO (some ⟨b_390, 0, none⟩) + (0 : Int).toNat * 1)) (s := 1) (agg := false) (vs := (encI64 x_14)) (by kernel_rfl) (by kernel_rfl) (.inr rfl) ((hm.ow 5 (some b_390) 93 x_12.1 [] (fun e => nomatch e) encI64_len).at hx_397)) ?_)
     obtain ⟨x_15, hx_398, h⟩ := bd h
     refine qv 3 0 [0, 1, 2, 3, 4, 5, 6] (fun w hm => idx_run (a := (o_392.map fun b => ⟨b, 0, none⟩)) (len := t_13.length) (s := 1) (j := x_14) (by kernel_rfl) (ix_some hx_398).1 (ltn hx_398 rfl) (spo ho_396 hx_398)) (qv 4 0 [0, 1, 2, 3, 4, 5, 6] (fun w hm => ld_run (b := aB (o_392.map fun b => ⟨b, 0, none⟩)) (off := (aO (o_392.map fun b => ⟨b, 0, none⟩) + x_14.toNat * 1)) (s := 1) (agg := false) (vs := (encI64 x_15)) (by kernel_rfl) (by kernel_rfl) (.inr rfl) ((hm.ow 6 o_392 2 t_13 sp_394 (fun e => (ho_396 e).1) encI64_len).at hx_398)) ?_)
     obtain ⟨x_16, hx_399, h⟩ := bd h
     refine qv 6 0 [0, 1, 2, 3, 4, 5, 6] (fun w hm => idx_run (a := (some ⟨b_390, 0, none⟩)) (len := 2) (s := 1) (j := 1) (by kernel_rfl) (ix_some hx_399).1 (ltn hx_399 x_12.2) rfl) (qv 7 0 [0, 1, 2, 3, 4, 5, 6] (fun w hm => ld_run (b := aB (some ⟨b_390, 0, none⟩)) (off := (aO (some ⟨b_390, 0, none⟩) + (1 : Int).toNat * 1)) (s := 1) (agg := false) (vs := (encI64 x_16)) (by kernel_rfl) (by kernel_rfl) (.inr rfl) ((hm.ow 5 (some b_390) 93 x_12.1 [] (fun e => nomatch e) encI64_len).at hx_399)) ?_)
     obtain ⟨x_17, hx_400, h⟩ := bd h
     refine qv 8 0 [0, 1, 2, 3, 4, 5, 6] (fun w hm => idx_run (a := (o_392.map fun b => ⟨b, 0, none⟩)) (len := t_13.length) (s := 1) (j := x_16) (by kernel_rfl) (ix_some hx_400).1 (ltn hx_400 rfl) (spo ho_396 hx_400)) (qv 9 0 [0, 1, 2, 3, 4, 5, 6] (fun w hm => ld_run (b := aB (o_392.map fun b => ⟨b, 0, none⟩)) (off := (aO (o_392.map fun b => ⟨b, 0, none⟩) + x_16.toNat * 1)) (s := 1) (agg := false) (vs := (encI64 x_17)) (by kernel_rfl) (by kernel_rfl) (.inr rfl) ((hm.ow 6 o_392 2 t_13 sp_394 (fun e => (ho_396 e).1) encI64_len).at hx_400)) (qd [⟨10, 0, 0⟩] 0 [0, 1, 2, 3, 4, 5, 6] (qz (jx_then (qi h (fun h => ?_) (fun h => ?_))))))
     ·refine jc_seq (jc_region (qh [0] (tO (p_ldA 0 5 b_390 2 1 93 encI64 x_12 (by kernel_rfl) (by kernel_rfl) (by kernel_rfl) encI64_len (by kernel_rfl) (jkO (tO (p_bs 0 93 2 1 encA2I64 [(.agg (row encI64 x_12.1 []).toArray)] [x_12] (by kernel_rfl) (by kernel_rfl) rfl (by kernel_rfl) (by kernel_rfl) encA2I64_len (fun b_402 => jkO ?_))))))))
      obtain ⟨hg_403, h⟩ := gd h
      refine tO (p_apn 0 3 o_379 93 xs_7.length 1 cap_380 2 16 (some ⟨b_402, 0, none⟩) encA2I64 xs_7 ([x_12] : List (Arr 2 Int)) sp_381 (.agg (row encI64 (Arr.rep 2 0).1 []).toArray) rfl rfl (by kernel_rfl) (by kernel_rfl) (by kernel_rfl) encA2I64_len encA2I64_cell hs_383 ho_384 (fun w hm => (hm.ow 7 (some b_402) 93 ([x_12] : List (Arr 2 Int)) [] (fun e => nomatch e) encA2I64_len)) hg_403 (by kernel_rfl) (by kernel_rfl) (fun o_404 cap_405 sp_406 hs_407 ho_408 => jkO (qh [0] (qe (jx_then (qg [⟨some b_1, 34, [(.int .i16 f0.fSteps), (.slice C_a f0.fHammers.length C_c)]⟩, ⟨o_7, 49, row encHd hh_12 sp_9⟩, ⟨none, CLU, cluC encI64 hh_12 t_2⟩, ⟨o_404, 93, row encA2I64 (xs_7 ++ ([x_12] : List (Arr 2 Int))) sp_406⟩, ⟨o_216, 93, row encA2I64 t_3 sp_218⟩, ⟨(some b_390), 93, row encI64 x_12.1 []⟩, ⟨o_392, 2, row encI64 t_13 sp_394⟩, ⟨(some b_402), 93, row encA2I64 ([x_12] : List (Arr 2 Int)) []⟩] 12 (qd [⟨0, 0, 0⟩,⟨1, 0, 0⟩] 10 [0, 1, 2, 3, 4, 5, 6, 7] ?_)))))))
      obtain ⟨x_18, hx_409, h⟩ := bd h
      refine qv 2 0 [0, 1, 2, 3, 4, 5, 6, 7] (fun w hm => idx_run (a := (some ⟨b_390, 0, none⟩)) (len := 2) (s := 1) (j := 0) (by kernel_rfl) (ix_some hx_409).1 (ltn hx_409 x_12.2) rfl) (qv 3 0 [0, 1, 2, 3, 4, 5, 6, 7] (fun w hm => ld_run (b := aB (some ⟨b_390, 0, none⟩)) (off := (aO (some ⟨b_390, 0, none⟩) + (0 : Int).toNat * 1)) (s := 1) (agg := false) (vs := (encI64 x_18)) (by kernel_rfl) (by kernel_rfl) (.inr rfl) ((hm.ow 5 (some b_390) 93 x_12.1 [] (fun e => nomatch e) encI64_len).at hx_409)) ?_)
      obtain ⟨x_19, hx_410, h⟩ := bd h
      refine qv 4 0 [0, 1, 2, 3, 4, 5, 6, 7] (fun w hm => idx_run (a := (o_7.map fun b => ⟨b, 0, none⟩)) (len := hh_12.length) (s := 1) (j := x_18) (by kernel_rfl) (ix_some hx_410).1 (ltn hx_410 (hI_13.1.symm.trans rfl)) (spo ho_11 (hI_13.ixh hx_410))) (qv 5 0 [0, 1, 2, 3, 4, 5, 6, 7] (fun w hm => ld_run (b := aB (o_7.map fun b => ⟨b, 0, none⟩)) (off := (aO (o_7.map fun b => ⟨b, 0, none⟩) + x_18.toNat * 1)) (s := 1) (agg := false) (vs := encHd (hd hh_12 x_18)) (by kernel_rfl) (by kernel_rfl) (.inr rfl) ((hm.ow 1 o_7 49 hh_12 sp_9 (fun e => (ho_11 e).1) encHd_len).at (hI_13.ixh hx_410))) ?_)
      obtain ⟨x_20, hx_411, h⟩ := bd h
      refine qv 6 0 [0, 1, 2, 3, 4, 5, 6, 7] (fun w hm => idx_run (a := (some ⟨b_390, 0, none⟩)) (len := 2) (s := 1) (j := 1) (by kernel_rfl) (ix_some hx_411).1 (ltn hx_411 x_12.2) rfl) (qv 7 0 [0, 1, 2, 3, 4, 5, 6, 7] (fun w hm => ld_run (b := aB (some ⟨b_390, 0, none⟩)) (off := (aO (some ⟨b_390, 0, none⟩) + (1 : Int).toNat * 1)) (s := 1) (agg := false) (vs := (encI64 x_20)) (by kernel_rfl) (by kernel_rfl) (.inr rfl) ((hm.ow 5 (some b_390) 93 x_12.1 [] (fun e => nomatch e) encI64_len).at hx_411)) ?_)
      obtain ⟨x_21, hx_412, h⟩ := bd h
      exact qv 8 0 [0, 1, 2, 3, 4, 5, 6, 7] (fun w hm => idx_run (a := (hd hh_12 x_18).a) (len := ((hd hh_12 x_18).n)) (s := 1) (j := x_20) (by kernel_rfl) (ix_some hx_412).1 (ltn hx_412 (hI_13.get hx_410).1) (hI_13.sp hx_410 hx_412)) (qv 9 0 [0, 1, 2, 3, 4, 5, 6, 7] (fun w hm => ld_run (b := aB (hd hh_12 x_18).a) (off := (aO (hd hh_12 x_18).a + x_20.toNat * 1)) (s := 1) (agg := false) (vs := (encI64 x_21)) (by kernel_rfl) (by kernel_rfl) (.inr rfl) (((hm.cluInn 2 hI_13 encI64_len).get hx_410).1.at hx_412)) (qd [⟨10, 0, 0⟩,⟨11, 0, 0⟩] 0 [0, 1, 2, 3, 4, 5, 6, 7] (qz (jx_inn (jx_then (jc_region (qh [0,0] (qe (qb ((xs_7 ++ ([x_12] : List (Arr 2 Int))), (w64 (i_8 + x_21)), (w64 (i_9 + 1))) ⟨o_404, cap_405, sp_406, (xs_7 ++ ([x_12] : List (Arr 2 Int))).length⟩ h ⟨rfl, hs_407, ho_408⟩ [0, 1, 2, 3, 4])))))))))
     ·exact jc_skip (jx_inn (jx_then (jc_region (qh [0,0] (qe (qb (xs_7, i_8, (w64 (i_9 + 1))) ⟨o_379, cap_380, sp_381, xs_7.length⟩ h ⟨rfl, hs_383, ho_384⟩ [0, 1, 2, 3, 4]))))))
    ·refine jc_exit (jx_thenx (jx_leave (xs_7, i_8) (Option.some.inj h).symm (fun e_413 => ?_)))
     subst e_413
     exact jx_ine (qm ⟨xs_7, i_8, o_379, cap_380, sp_381, xs_7.length⟩ ⟨hr_385, rfl, hs_383, ho_384⟩ [0, 1, 2, 3, 4])
   ·rintro ⟨xs_4, i_5, o_315, cap_316, sp_317, n_318⟩ ⟨h, rfl, hs_319, ho_320⟩
    replace h : impl_TreeOf.k_6 xs_4 i_5 = some r := h
    rw [impl_TreeOf.k_6] at h
    refine jx_then (jc_seq (jc_region (qh [0,0,0,0,0] (qe (jx_then (jc_ret ?_))))))
    obtain rfl := Option.some.inj h
    exact qr [] (fun w hm => ⟨o_315, cap_316, sp_317, xs_4.length, rfl, hs_319, ho_320, rfl, hm.pk [3]⟩)
/-! ### laws.markHammerS -/
def laws_markHammerS.k_3 (xs_1 : List GHammer) (i_2 : Int) : Option (Int × (List GHammer)) := some (i_2, xs_1)
def laws_markHammerS.l_7 (a0 : List GHammer) : ((List GHammer) × Int × Int) → Option (((List GHammer) × Int × Int) ⊕ (((List GHammer) × Int)))
  | (xs_4, i_5, i_6) => (if (decide (i_6 < (a0.length : Int))) = true then (ix xs_4 i_6).bind fun x_9 => (ix (xs_4.set i_6.toNat (⟨(w8 i_5), x_9.fReady⟩ : GHammer)) i_6).bind fun x_10 => some (.inl (((xs_4.set i_6.toNat (⟨(w8 i_5), x_9.fReady⟩ : GHammer)).set i_6.toNat (⟨x_10.fPitch, (w8 (w64 (i_5 + 1)))⟩ : GHammer)), (w64 ((w64 (i_5 + 1)) + 1)), (w64 (i_6 + 1)))) else some (.inr (xs_4, i_5)))
def laws_markHammerS (a0 : List GHammer) (k1 : Int) : Option (Int × (List GHammer)) := (loop (laws_markHammerS.l_7 a0) (a0, k1, 0)).bind fun t_8 => laws_markHammerS.k_3 t_8.1 t_8.2
theorem laws_markHammerS.calls (a0 : List GHammer) (k1 : Int) (w : World) (r : Int × (List GHammer)) (A_o : Option Nat) {A_on : Nat} {A_c : Nat} {A_sp : List Value} (A_hn : a0.length = A_on) (A_hs : A_o ≠ none → A_on ≤ A_c ∧ A_sp.length = (A_c - A_on) * 2) (A_ho : A_o = none → a0 = [] ∧ A_c = 0) (hm0 : Mem w (bs [A_o]) [⟨A_o, 128, row encGHammer a0 A_sp⟩] w) (h : laws_markHammerS a0 k1 = some r) :
    Calls Try.prog 61 #[(.slice (A_o.map fun b => ⟨b, 0, none⟩) A_on A_c), (.int .i64 k1)] w fun e w' => ∃ v, e = .returned v ∧ (r.2.length = A_on ∧ (A_o = none → r.2 = [] ∧ A_c = 0) ∧ v = (.int .i64 r.1) ∧ Mem w (bs [A_o]) [⟨A_o, 128, row encGHammer r.2 A_sp⟩] w') := by
  subst A_hn
  rw [laws_markHammerS] at h
  refine enter (args := [(.slice (A_o.map fun b => ⟨b, 0, none⟩) a0.length A_c), (.int .i64 k1)]) Try.func61 rfl Try.ntmps61 (by kernel_rfl) (L := [⟨A_o, 128, row encGHammer a0 A_sp⟩]) (W := bs [A_o]) hm0 ?_
  refine jc_seq (jc_region (qh [0] (qe (jx_then (jc_seq (jc_seq (jc_region (qh [0] (qe (jx_then (jc_meet (fun (j : (List GHammer) × Int) => match j with | ⟨xs_1, i_2⟩ => laws_markHammerS.k_3 xs_1 i_2 = some r ∧ (xs_1.length = a0.length) ∧ ((A_o = none → xs_1 = [] ∧ A_c = 0))) (fun (j : (List GHammer) × Int) => match j with | ⟨xs_1, i_2⟩ => [(1, [], (.int .i64 i_2)), (4, [], (.int .i64 0))]) (fun (j : (List GHammer) × Int) => match j with | ⟨xs_1, i_2⟩ => [⟨A_o, 128, row encGHammer xs_1 A_sp⟩]) ?_ ?_)))))))))))
  ·refine jc_block ?_
   obtain ⟨t_8, ht_84, hr_77⟩ := bd h
   refine jc_loop (fun (s : (List GHammer) × Int × Int) (x : Unit) => match s, x with | ⟨xs_4, i_5, i_6⟩, _ => (xs_4.length = a0.length) ∧ ((A_o = none → xs_4 = [] ∧ A_c = 0))) (fun (s : (List GHammer) × Int × Int) (x : Unit) => match s, x with | ⟨xs_4, i_5, i_6⟩, _ => [(0, [], (.slice (A_o.map fun b => ⟨b, 0, none⟩) a0.length A_c)), (1, [], (.int .i64 i_5)), (4, [], (.int .i64 0)), (5, [], (.int .i64 i_6))]) (fun (s : (List GHammer) × Int × Int) (x : Unit) => match s, x with | ⟨xs_4, i_5, i_6⟩, _ => [⟨A_o, 128, row encGHammer xs_4 A_sp⟩]) ht_84 () ⟨rfl, A_ho⟩ (by kernel_rfl) [0] (by kernel_rfl) (by kernel_rfl) ?_
   rintro ⟨xs_4, i_5, i_6⟩ _ y_78 ⟨hn_76, ho_75⟩ h
   rw [laws_markHammerS.l_7] at h
   refine jc_seq (jc_seq (jc_region (qh [0,0,0,0] (qe (jx_then (qi h (fun h => ?_) (fun h => ?_)))))))
   ·refine jc_skip (jx_then (jc_seq (jc_block (jc_seq (jc_region (qh [0,0,0,0] ?_))))))
    obtain ⟨x_9, hx_81, h⟩ := bd h
    refine tO (qx 0 (A_o.map fun b => ⟨b, 0, none⟩) 2 hx_81 hn_76 (spo ho_75 hx_81) (jkO (qh [0] (tO (p_strO 0 0 A_o 128 encGHammer xs_4 A_sp i_6 (⟨(w8 i_5), x_9.fReady⟩ : GHammer) 2 0 [(.int .i8 (w8 i_5))] (by kernel_rfl) (by kernel_rfl) (by kernel_rfl) (fun e => (ho_75 e).1) encGHammer_len hx_81 (by kernel_rfl) (by kernel_rfl) (jkO (qe (jx_then (jc_seq (jc_region (qh [0,0,0] (qe (jx_then (jc_seq (jc_region (qh [0,0,0,0] ?_))))))))))))))))
    obtain ⟨x_10, hx_82, h⟩ := bd h
    exact tO (qx 0 (A_o.map fun b => ⟨b, 0, none⟩) 2 hx_82 (List.length_set.trans hn_76) (spo (set_ho ho_75) hx_82) (jkO (qh [0] (tO (p_strO 0 0 A_o 128 encGHammer (xs_4.set i_6.toNat (⟨(w8 i_5), x_9.fReady⟩ : GHammer)) A_sp i_6 (⟨x_10.fPitch, (w8 (w64 (i_5 + 1)))⟩ : GHammer) 2 1 [(.int .i8 (w8 (w64 (i_5 + 1))))] (by kernel_rfl) (by kernel_rfl) (by kernel_rfl) (fun e => ((set_ho ho_75) e).1) encGHammer_len hx_82 (by kernel_rfl) (by kernel_rfl) (jkO (qe (jx_then (jc_region (qh [0,0,0] (qe (jx_inn (jx_then (jc_region (qh [0,0,0] (qe (qb (((xs_4.set i_6.toNat (⟨(w8 i_5), x_9.fReady⟩ : GHammer)).set i_6.toNat (⟨x_10.fPitch, (w8 (w64 (i_5 + 1)))⟩ : GHammer)), (w64 ((w64 (i_5 + 1)) + 1)), (w64 (i_6 + 1))) () h ⟨(List.length_set.trans (List.length_set.trans hn_76)), (set_ho (set_ho ho_75))⟩ [0])))))))))))))))))
   ·refine jc_exit (jx_thenx (jx_leave (xs_4, i_5) (Option.some.inj h).symm (fun e_83 => ?_)))
    subst e_83
    exact jx_ine (qm ⟨xs_4, i_5⟩ ⟨hr_77, hn_76, ho_75⟩ [0])
  ·rintro ⟨xs_1, i_2⟩ ⟨h, hn_64, ho_63⟩
   replace h : laws_markHammerS.k_3 xs_1 i_2 = some r := h
   rw [laws_markHammerS.k_3] at h
   refine jx_then (jc_seq (jc_region (qh [0,0] (qe (jx_then (jc_ret ?_))))))
   obtain rfl := Option.some.inj h
   exact qr [] (fun w hm => ⟨hn_64, ho_63, rfl, hm.pk [0]⟩)
/-! ### laws.markFrame -/
def laws_markFrame (a0 : GFrame) (k1 : Int) : Option (Int × (List GHammer)) := (laws_markHammerS a0.fHammers k1).bind fun t_1 => some (t_1.1, t_1.2)
theorem laws_markFrame.calls (a0 : GFrame) (k1 : Int) (w : World) (r : Int × (List GHammer)) (C_o : Option Nat) {C_on : Nat} {C_c : Nat} {C_sp : List Value} (C_hn : a0.fHammers.length = C_on) (C_hs : C_o ≠ none → C_on ≤ C_c ∧ C_sp.length = (C_c - C_on) * 2) (C_ho : C_o = none → a0.fHammers = [] ∧ C_c = 0) (hm0 : Mem w (bs [C_o]) [⟨C_o, 128, row encGHammer a0.fHammers C_sp⟩] w) (h : laws_markFrame a0 k1 = some r) :
    Calls Try.prog 19 #[(.agg #[(.int .i16 a0.fSteps), (.slice (C_o.map fun b => ⟨b, 0, none⟩) C_on C_c)]), (.int .i64 k1)] w fun e w' => ∃ v, e = .returned v ∧ (r.2.length = C_on ∧ (C_o = none → r.2 = [] ∧ C_c = 0) ∧ v = (.int .i64 r.1) ∧ Mem w (bs [C_o]) [⟨C_o, 128, row encGHammer r.2 C_sp⟩] w') := by
  subst C_hn
  rw [laws_markFrame] at h
  refine enter (args := [(.agg #[(.int .i16 a0.fSteps), (.slice (C_o.map fun b => ⟨b, 0, none⟩) a0.fHammers.length C_c)]), (.int .i64 k1)]) Try.func19 rfl Try.ntmps19 (by kernel_rfl) (L := [⟨C_o, 128, row encGHammer a0.fHammers C_sp⟩]) (W := bs [C_o]) hm0 ?_
  refine jc_seq (jc_region (tO (qa 0 (fun b_1 => jkO (qh [0] (qe (jx_then (jc_seq (jc_region (qh [0,1,0] ?_))))))))))
  obtain ⟨t_1, ht_2, h⟩ := bd h
  refine tO (pc 0 (fun w hm => laws_markHammerS.calls a0.fHammers k1 w _ C_o rfl C_hs C_ho (hm.pass (N := [⟨C_o, 128, row encGHammer a0.fHammers C_sp⟩]) [0] (by kernel_rfl) (by kernel_rfl)) ht_2) ?_)
  rintro w v w' hm ⟨hn_3, ho_4, rfl, hm'⟩
  refine ⟨_, hm.appW (ps := [(0, ⟨C_o, 128, row encGHammer t_1.2 C_sp⟩)]) (N := []) hm' (by kernel_rfl) (by kernel_rfl), jkO ?_⟩
  clear hm hm'
  refine qh [0] (qe (jx_then (jc_seq (jc_region (qh [0,0] (qe (jx_then (jc_ret ?_))))))))
  obtain rfl := Option.some.inj h
  exact qr [] (fun w hm => ⟨hn_3, ho_4, rfl, hm.pk [0]⟩)
/-! ### laws.markDrumS -/
def laws_markDrumS.k_3 (xs_1 : List (Arr 96 Int)) (i_2 : Int) : Option (Int × (List (Arr 96 Int))) := some (i_2, xs_1)
def laws_markDrumS.k_11 (i_6 : Int) (xs_9 : List (Arr 96 Int)) (i_10 : Int) : Option (((List (Arr 96 Int)) × Int × Int) ⊕ (((List (Arr 96 Int)) × Int))) := some (.inl (xs_9, i_10, (w64 (i_6 + 1))))
def laws_markDrumS.l_15 (i_6 : Int) : ((List (Arr 96 Int)) × Int × Int) → Option (((List (Arr 96 Int)) × Int × Int) ⊕ (((List (Arr 96 Int)) × Int)))
  | (xs_12, i_13, i_14) => (if (decide (i_14 < 96)) = true then (ix xs_12 i_6).bind fun x_17 => (ix x_17.1 i_14).bind fun x_18 => some (.inl ((xs_12.set i_6.toNat (Arr.set x_17 i_14 (u32 i_13))), (w64 (i_13 + 1)), (w64 (i_14 + 1)))) else some (.inr (xs_12, i_13)))
def laws_markDrumS.l_7 (a0 : List (Arr 96 Int)) : ((List (Arr 96 Int)) × Int × Int) → Option (((List (Arr 96 Int)) × Int × Int) ⊕ (((List (Arr 96 Int)) × Int)))
  | (xs_4, i_5, i_6) => (if (decide (i_6 < (a0.length : Int))) = true then (loop (laws_markDrumS.l_15 i_6) (xs_4, i_5, 0)).bind fun t_16 => laws_markDrumS.k_11 i_6 t_16.1 t_16.2 else some (.inr (xs_4, i_5)))
def laws_markDrumS (a0 : List (Arr 96 Int)) (k1 : Int) : Option (Int × (List (Arr 96 Int))) := (loop (laws_markDrumS.l_7 a0) (a0, k1, 0)).bind fun t_8 => laws_markDrumS.k_3 t_8.1 t_8.2
theorem laws_markDrumS.calls (a0 : List (Arr 96 Int)) (k1 : Int) (w : World) (r : Int × (List (Arr 96 Int))) (A_o : Option Nat) {A_on : Nat} {A_c : Nat} {A_sp : List Value} (A_hn : a0.length = A_on) (A_hs : A_o ≠ none → A_on ≤ A_c ∧ A_sp.length = (A_c - A_on) * 96) (A_ho : A_o = none → a0 = [] ∧ A_c = 0) (hm0 : Mem w (bs [A_o]) [⟨A_o, 89, row encA96U32 a0 A_sp⟩] w) (h : laws_markDrumS a0 k1 = some r) :
    Calls Try.prog 20 #[(.slice (A_o.map fun b => ⟨b, 0, none⟩) A_on A_c), (.int .i64 k1)] w fun e w' => ∃ v, e = .returned v ∧ (r.2.length = A_on ∧ (A_o = none → r.2 = [] ∧ A_c = 0) ∧ v = (.int .i64 r.1) ∧ Mem w (bs [A_o]) [⟨A_o, 89, row encA96U32 r.2 A_sp⟩] w') := by
  subst A_hn
  rw [laws_markDrumS] at h
  refine enter (args := [(.slice (A_o.map fun b => ⟨b, 0, none⟩) a0.length A_c), (.int .i64 k1)]) Try.func20 rfl Try.ntmps20 (by kernel_rfl) (L := [⟨A_o, 89, row encA96U32 a0 A_sp⟩]) (W := bs [A_o]) hm0 ?_
  refine jc_seq (jc_region (qh [0] (qe (jx_then (jc_seq (jc_seq (jc_region (qh [0] (qe (jx_then (jc_meet (fun (j : (List (Arr 96 Int)) × Int) => match j with | ⟨xs_1, i_2⟩ => laws_markDrumS.k_3 xs_1 i_2 = some r ∧ (xs_1.length = a0.length) ∧ ((A_o = none → xs_1 = [] ∧ A_c = 0))) (fun (j : (List (Arr 96 Int)) × Int) => match j with | ⟨xs_1, i_2⟩ => [(1, [], (.int .i64 i_2)), (4, [], (.int .i64 0))]) (fun (j : (List (Arr 96 Int)) × Int) => match j with | ⟨xs_1, i_2⟩ => [⟨A_o, 89, row encA96U32 xs_1 A_sp⟩]) ?_ ?_)))))))))))
  ·refine jc_block ?_
   obtain ⟨t_8, ht_564, hr_517⟩ := bd h
   refine jc_loop (fun (s : (List (Arr 96 Int)) × Int × Int) (x : Unit) => match s, x with | ⟨xs_4, i_5, i_6⟩, _ => (xs_4.length = a0.length) ∧ ((A_o = none → xs_4 = [] ∧ A_c = 0))) (fun (s : (List (Arr 96 Int)) × Int × Int) (x : Unit) => match s, x with | ⟨xs_4, i_5, i_6⟩, _ => [(0, [], (.slice (A_o.map fun b => ⟨b, 0, none⟩) a0.length A_c)), (1, [], (.int .i64 i_5)), (4, [], (.int .i64 0)), (5, [], (.int .i64 i_6))]) (fun (s : (List (Arr 96 Int)) × Int × Int) (x : Unit) => match s, x with | ⟨xs_4, i_5, i_6⟩, _ => [⟨A_o, 89, row encA96U32 xs_4 A_sp⟩]) ht_564 () ⟨rfl, A_ho⟩ (by kernel_rfl) [0] (by kernel_rfl) (by kernel_rfl) ?_
   rintro ⟨xs_4, i_5, i_6⟩ _ y_518 ⟨hn_516, ho_515⟩ h
   rw [laws_markDrumS.l_7] at h
   refine jc_seq (jc_seq (jc_region (qh [0,0,0,0] (qe (jx_then (qi h (fun h => ?_) (fun h => ?_)))))))
   ·refine jc_skip (jx_then (jc_seq (jc_block (jc_seq (jc_region (qh [0] (qe (jx_then (jc_meet (fun (j : (List (Arr 96 Int)) × Int) => match j with | ⟨xs_9, i_10⟩ => laws_markDrumS.k_11 i_6 xs_9 i_10 = some y_518 ∧ (xs_9.length = a0.length) ∧ ((A_o = none → xs_9 = [] ∧ A_c = 0))) (fun (j : (List (Arr 96 Int)) × Int) => match j with | ⟨xs_9, i_10⟩ => [(0, [], (.slice (A_o.map fun b => ⟨b, 0, none⟩) a0.length A_c)), (1, [], (.int .i64 i_10)), (4, [], (.int .i64 0)), (5, [], (.int .i64 i_6))]) (fun (j : (List (Arr 96 Int)) × Int) => match j with | ⟨xs_9, i_10⟩ => [⟨A_o, 89, row encA96U32 xs_9 A_sp⟩]) ?_ ?_)))))))))
    ·refine jc_block ?_
     obtain ⟨t_16, ht_562, hr_555⟩ := bd h
     refine jc_loop (fun (s : (List (Arr 96 Int)) × Int × Int) (x : Unit) => match s, x with | ⟨xs_12, i_13, i_14⟩, _ => (xs_12.length = a0.length) ∧ ((A_o = none → xs_12 = [] ∧ A_c = 0))) (fun (s : (List (Arr 96 Int)) × Int × Int) (x : Unit) => match s, x with | ⟨xs_12, i_13, i_14⟩, _ => [(0, [], (.slice (A_o.map fun b => ⟨b, 0, none⟩) a0.length A_c)), (1, [], (.int .i64 i_13)), (4, [], (.int .i64 0)), (5, [], (.int .i64 i_6)), (6, [], (.int .i64 i_14))]) (fun (s : (List (Arr 96 Int)) × Int × Int) (x : Unit) => match s, x with | ⟨xs_12, i_13, i_14⟩, _ => [⟨A_o, 89, row encA96U32 xs_12 A_sp⟩]) ht_562 () ⟨hn_516, ho_515⟩ (by kernel_rfl) [0] (by kernel_rfl) (by kernel_rfl) ?_
     rintro ⟨xs_12, i_13, i_14⟩ _ y_556 ⟨hn_554, ho_553⟩ h
     rw [laws_markDrumS.l_15] at h
     refine jc_seq (jc_seq (jc_region (qh [0,0] (qe (jx_then (qi h (fun h => ?_) (fun h => ?_)))))))
     ·refine jc_skip (jx_then (jc_seq (jc_block (jc_seq (jc_region (qh [0,0,0,0,0] ?_))))))
      obtain ⟨x_17, hx_559, h⟩ := bd h
      refine tO (qx 0 (A_o.map fun b => ⟨b, 0, none⟩) 96 hx_559 hn_554 (spo ho_553 hx_559) (jkO ?_))
      obtain ⟨x_18, hx_560, h⟩ := bd h
      exact tO (p_v 0 (by kernel_rfl) _ (fun w hm => idx_run (a := some ⟨aB (A_o.map fun b => ⟨b, 0, none⟩), aO (A_o.map fun b => ⟨b, 0, none⟩) + i_6.toNat * 96, none⟩) (len := 96) (s := 1) (j := i_14) (by kernel_rfl) (ix_some hx_560).1 (ltn hx_560 x_17.2) rfl) (jkO (tO (p_strA 0 0 A_o 89 encA96U32 encU32 xs_12 A_sp i_6 i_14 (u32 i_13) 96 1 [(.int .u32 (u32 i_13))] (by kernel_rfl) (by kernel_rfl) (by kernel_rfl) (fun e => (ho_553 e).1) encA96U32_len encU32_len hx_559 hx_560 (by kernel_rfl) (by kernel_rfl) (jkO (qe (jx_then (jc_region (qh [0,0,0] (qe (jx_inn (jx_then (jc_region (qh [0,0,0] (qe (qb ((xs_12.set i_6.toNat (Arr.set x_17 i_14 (u32 i_13))), (w64 (i_13 + 1)), (w64 (i_14 + 1))) () h ⟨(List.length_set.trans hn_554), (set_ho ho_553)⟩ [0]))))))))))))))))
     ·refine jc_exit (jx_thenx (jx_leave (xs_12, i_13) (Option.some.inj h).symm (fun e_561 => ?_)))
      subst e_561
      exact jx_ine (qm ⟨xs_12, i_13⟩ ⟨hr_555, hn_554, ho_553⟩ [0])
    ·rintro ⟨xs_9, i_10⟩ ⟨h, hn_542, ho_541⟩
     replace h : laws_markDrumS.k_11 i_6 xs_9 i_10 = some y_518 := h
     rw [laws_markDrumS.k_11] at h
     exact jx_inn (jx_then (jc_region (qh [0,0,0] (qe (qb (xs_9, i_10, (w64 (i_6 + 1))) () h ⟨hn_542, ho_541⟩ [0])))))
   ·refine jc_exit (jx_thenx (jx_leave (xs_4, i_5) (Option.some.inj h).symm (fun e_563 => ?_)))
    subst e_563
    exact jx_ine (qm ⟨xs_4, i_5⟩ ⟨hr_517, hn_516, ho_515⟩ [0])
  ·rintro ⟨xs_1, i_2⟩ ⟨h, hn_424, ho_423⟩
   replace h : laws_markDrumS.k_3 xs_1 i_2 = some r := h
   rw [laws_markDrumS.k_3] at h
   refine jx_then (jc_seq (jc_region (qh [0,0] (qe (jx_then (jc_ret ?_))))))
   obtain rfl := Option.some.inj h
   exact qr [] (fun w hm => ⟨hn_424, ho_423, rfl, hm.pk [0]⟩)
/-! ### laws.markInt64A2S -/
def laws_markInt64A2S.k_3 (xs_1 : List (Arr 2 Int)) (i_2 : Int) : Option (Int × (List (Arr 2 Int))) := some (i_2, xs_1)
def laws_markInt64A2S.k_11 (i_6 : Int) (xs_9 : List (Arr 2 Int)) (i_10 : Int) : Option (((List (Arr 2 Int)) × Int × Int) ⊕ (((List (Arr 2 Int)) × Int))) := some (.inl (xs_9, i_10, (w64 (i_6 + 1))))
def laws_markInt64A2S.l_15 (i_6 : Int) : ((List (Arr 2 Int)) × Int × Int) → Option (((List (Arr 2 Int)) × Int × Int) ⊕ (((List (Arr 2 Int)) × Int)))
  | (xs_12, i_13, i_14) => (if (decide (i_14 < 2)) = true then (ix xs_12 i_6).bind fun x_17 => (ix x_17.1 i_14).bind fun x_18 => some (.inl ((xs_12.set i_6.toNat (Arr.set x_17 i_14 i_13)), (w64 (i_13 + 1)), (w64 (i_14 + 1)))) else some (.inr (xs_12, i_13)))
def laws_markInt64A2S.l_7 (a0 : List (Arr 2 Int)) : ((List (Arr 2 Int)) × Int × Int) → Option (((List (Arr 2 Int)) × Int × Int) ⊕ (((List (Arr 2 Int)) × Int)))
  | (xs_4, i_5, i_6) => (if (decide (i_6 < (a0.length : Int))) = true then (loop (laws_markInt64A2S.l_15 i_6) (xs_4, i_5, 0)).bind fun t_16 => laws_markInt64A2S.k_11 i_6 t_16.1 t_16.2 else some (.inr (xs_4, i_5)))
def laws_markInt64A2S (a0 : List (Arr 2 Int)) (k1 : Int) : Option (Int × (List (Arr 2 Int))) := (loop (laws_markInt64A2S.l_7 a0) (a0, k1, 0)).bind fun t_8 => laws_markInt64A2S.k_3 t_8.1 t_8.2
theorem laws_markInt64A2S.calls (a0 : List (Arr 2 Int)) (k1 : Int) (w : World) (r : Int × (List (Arr 2 Int))) (A_o : Option Nat) {A_on : Nat} {A_c : Nat} {A_sp : List Value} (A_hn : a0.length = A_on) (A_hs : A_o ≠ none → A_on ≤ A_c ∧ A_sp.length = (A_c - A_on) * 2) (A_ho : A_o = none → a0 = [] ∧ A_c = 0) (hm0 : Mem w (bs [A_o]) [⟨A_o, 93, row encA2I64 a0 A_sp⟩] w) (h : laws_markInt64A2S a0 k1 = some r) :
    Calls Try.prog 21 #[(.slice (A_o.map fun b => ⟨b, 0, none⟩) A_on A_c), (.int .i64 k1)] w fun e w' => ∃ v, e = .returned v ∧ (r.2.length = A_on ∧ (A_o = none → r.2 = [] ∧ A_c = 0) ∧ v = (.int .i64 r.1) ∧ Mem w (bs [A_o]) [⟨A_o, 93, row encA2I64 r.2 A_sp⟩] w') := by
  subst A_hn
  rw [laws_markInt64A2S] at h
  refine enter (args := [(.slice (A_o.map fun b => ⟨b, 0, none⟩) a0.length A_c), (.int .i64 k1)]) Try.func21 rfl Try.ntmps21 (by kernel_rfl) (L := [⟨A_o, 93, row encA2I64 a0 A_sp⟩]) (W := bs [A_o]) hm0 ?_
  refine jc_seq (jc_region (qh [0] (qe (jx_then (jc_seq (jc_seq (jc_region (qh [0] (qe (jx_then (jc_meet (fun (j : (List (Arr 2 Int)) × Int) => match j with | ⟨xs_1, i_2⟩ => laws_markInt64A2S.k_3 xs_1 i_2 = some r ∧ (xs_1.length = a0.length) ∧ ((A_o = none → xs_1 = [] ∧ A_c = 0))) (fun (j : (List (Arr 2 Int)) × Int) => match j with | ⟨xs_1, i_2⟩ => [(1, [], (.int .i64 i_2)), (4, [], (.int .i64 0))]) (fun (j : (List (Arr 2 Int)) × Int) => match j with | ⟨xs_1, i_2⟩ => [⟨A_o, 93, row encA2I64 xs_1 A_sp⟩]) ?_ ?_)))))))))))
  ·refine jc_block ?_
   obtain ⟨t_8, ht_564, hr_517⟩ := bd h
   refine jc_loop (fun (s : (List (Arr 2 Int)) × Int × Int) (x : Unit) => match s, x with | ⟨xs_4, i_5, i_6⟩, _ => (xs_4.length = a0.length) ∧ ((A_o = none → xs_4 = [] ∧ A_c = 0))) (fun (s : (List (Arr 2 Int)) × Int × Int) (x : Unit) => match s, x with | ⟨xs_4, i_5, i_6⟩, _ => [(0, [], (.slice (A_o.map fun b => ⟨b, 0, none⟩) a0.length A_c)), (1, [], (.int .i64 i_5)), (4, [], (.int .i64 0)), (5, [], (.int .i64 i_6))]) (fun (s : (List (Arr 2 Int)) × Int × Int) (x : Unit) => match s, x with | ⟨xs_4, i_5, i_6⟩, _ => [⟨A_o, 93, row encA2I64 xs_4 A_sp⟩]) ht_564 () ⟨rfl, A_ho⟩ (by kernel_rfl) [0] (by kernel_rfl) (by kernel_rfl) ?_
   rintro ⟨xs_4, i_5, i_6⟩ _ y_518 ⟨hn_516, ho_515⟩ h
   rw [laws_markInt64A2S.l_7] at h
   refine jc_seq (jc_seq (jc_region (qh [0,0,0,0] (qe (jx_then (qi h (fun h => ?_) (fun h => ?_)))))))
   ·refine jc_skip (jx_then (jc_seq (jc_block (jc_seq (jc_region (qh [0] (qe (jx_then (jc_meet (fun (j : (List (Arr 2 Int)) × Int) => match j with | ⟨xs_9, i_10⟩ => laws_markInt64A2S.k_11 i_6 xs_9 i_10 = some y_518 ∧ (xs_9.length = a0.length) ∧ ((A_o = none → xs_9 = [] ∧ A_c = 0))) (fun (j : (List (Arr 2 Int)) × Int) => match j with | ⟨xs_9, i_10⟩ => [(0, [], (.slice (A_o.map fun b => ⟨b, 0, none⟩) a0.length A_c)), (1, [], (.int .i64 i_10)), (4, [], (.int .i64 0)), (5, [], (.int .i64 i_6))]) (fun (j : (List (Arr 2 Int)) × Int) => match j with | ⟨xs_9, i_10⟩ => [⟨A_o, 93, row encA2I64 xs_9 A_sp⟩]) ?_ ?_)))))))))
    ·refine jc_block ?_
     obtain ⟨t_16, ht_562, hr_555⟩ := bd h
     refine jc_loop (fun (s : (List (Arr 2 Int)) × Int × Int) (x : Unit) => match s, x with | ⟨xs_12, i_13, i_14⟩, _ => (xs_12.length = a0.length) ∧ ((A_o = none → xs_12 = [] ∧ A_c = 0))) (fun (s : (List (Arr 2 Int)) × Int × Int) (x : Unit) => match s, x with | ⟨xs_12, i_13, i_14⟩, _ => [(0, [], (.slice (A_o.map fun b => ⟨b, 0, none⟩) a0.length A_c)), (1, [], (.int .i64 i_13)), (4, [], (.int .i64 0)), (5, [], (.int .i64 i_6)), (6, [], (.int .i64 i_14))]) (fun (s : (List (Arr 2 Int)) × Int × Int) (x : Unit) => match s, x with | ⟨xs_12, i_13, i_14⟩, _ => [⟨A_o, 93, row encA2I64 xs_12 A_sp⟩]) ht_562 () ⟨hn_516, ho_515⟩ (by kernel_rfl) [0] (by kernel_rfl) (by kernel_rfl) ?_
     rintro ⟨xs_12, i_13, i_14⟩ _ y_556 ⟨hn_554, ho_553⟩ h
     rw [laws_markInt64A2S.l_15] at h
     refine jc_seq (jc_seq (jc_region (qh [0,0] (qe (jx_then (qi h (fun h => ?_) (fun h => ?_)))))))
     ·refine jc_skip (jx_then (jc_seq (jc_block (jc_seq (jc_region (qh [0,0,0,0] ?_))))))
      obtain ⟨x_17, hx_559, h⟩ := bd h
      refine tO (qx 0 (A_o.map fun b => ⟨b, 0, none⟩) 2 hx_559 hn_554 (spo ho_553 hx_559) (jkO ?_))
      obtain ⟨x_18, hx_560, h⟩ := bd h
      exact tO (p_v 0 (by kernel_rfl) _ (fun w hm => idx_run (a := some ⟨aB (A_o.map fun b => ⟨b, 0, none⟩), aO (A_o.map fun b => ⟨b, 0, none⟩) + i_6.toNat * 2, none⟩) (len := 2) (s := 1) (j := i_14) (by kernel_rfl) (ix_some hx_560).1 (ltn hx_560 x_17.2) rfl) (jkO (tO (p_strA 0 0 A_o 93 encA2I64 encI64 xs_12 A_sp i_6 i_14 i_13 2 1 [(.int .i64 i_13)] (by kernel_rfl) (by kernel_rfl) (by kernel_rfl) (fun e => (ho_553 e).1) encA2I64_len encI64_len hx_559 hx_560 (by kernel_rfl) (by kernel_rfl) (jkO (qe (jx_then (jc_region (qh [0,0,0] (qe (jx_inn (jx_then (jc_region (qh [0,0,0] (qe (qb ((xs_12.set i_6.toNat (Arr.set x_17 i_14 i_13)), (w64 (i_13 + 1)), (w64 (i_14 + 1))) () h ⟨(List.length_set.trans hn_554), (set_ho ho_553)⟩ [0]))))))))))))))))
     ·refine jc_exit (jx_thenx (jx_leave (xs_12, i_13) (Option.some.inj h).symm (fun e_561 => ?_)))
      subst e_561
      exact jx_ine (qm ⟨xs_12, i_13⟩ ⟨hr_555, hn_554, ho_553⟩ [0])
    ·rintro ⟨xs_9, i_10⟩ ⟨h, hn_542, ho_541⟩
     replace h : laws_markInt64A2S.k_11 i_6 xs_9 i_10 = some y_518 := h
     rw [laws_markInt64A2S.k_11] at h
     exact jx_inn (jx_then (jc_region (qh [0,0,0] (qe (qb (xs_9, i_10, (w64 (i_6 + 1))) () h ⟨hn_542, ho_541⟩ [0])))))
   ·refine jc_exit (jx_thenx (jx_leave (xs_4, i_5) (Option.some.inj h).symm (fun e_563 => ?_)))
    subst e_563
    exact jx_ine (qm ⟨xs_4, i_5⟩ ⟨hr_517, hn_516, ho_515⟩ [0])
  ·rintro ⟨xs_1, i_2⟩ ⟨h, hn_424, ho_423⟩
   replace h : laws_markInt64A2S.k_3 xs_1 i_2 = some r := h
   rw [laws_markInt64A2S.k_3] at h
   refine jx_then (jc_seq (jc_region (qh [0,0] (qe (jx_then (jc_ret ?_))))))
   obtain rfl := Option.some.inj h
   exact qr [] (fun w hm => ⟨hn_424, ho_423, rfl, hm.pk [0]⟩)
/-! ### laws.heldInt64A2S -/
def laws_heldInt64A2S.k_2 (i_1 : Int) : Option (Int) := some i_1
def laws_heldInt64A2S.k_8 (i_4 : Int) (i_7 : Int) : Option ((Int × Int) ⊕ (Int ⊕ Int)) := some (.inl (i_7, (w64 (i_4 + 1))))
def laws_heldInt64A2S.l_11 (a0 : List (Arr 2 Int)) (i_4 : Int) : (Int × Int) → Option ((Int × Int) ⊕ (Int ⊕ Int))
  | (i_9, i_10) => (if (decide (i_10 < 2)) = true then (ix a0 i_4).bind fun x_13 => (ix x_13.1 i_10).bind fun x_14 => (if (x_14 != i_9) = true then some (.inr (.inl (-1))) else some (.inl ((w64 (i_9 + 1)), (w64 (i_10 + 1))))) else some (.inr (.inr i_9)))
def laws_heldInt64A2S.l_5 (a0 : List (Arr 2 Int)) : (Int × Int) → Option ((Int × Int) ⊕ (Int ⊕ Int))
  | (i_3, i_4) => (if (decide (i_4 < (a0.length : Int))) = true then (loop (laws_heldInt64A2S.l_11 a0 i_4) (i_3, 0)).bind fun t_12 => match t_12 with | .inl p => some (.inr (.inl p)) | .inr p => laws_heldInt64A2S.k_8 i_4 p else some (.inr (.inr i_3)))
def laws_heldInt64A2S (a0 : List (Arr 2 Int)) (k1 : Int) : Option (Int) := (loop (laws_heldInt64A2S.l_5 a0) (k1, 0)).bind fun t_6 => match t_6 with | .inl p => some p | .inr p => laws_heldInt64A2S.k_2 p
theorem laws_heldInt64A2S.calls (a0 : List (Arr 2 Int)) (k1 : Int) (w : World) (r : Int) {A_a : Option Addr} {A_an : Nat} (A_c : Nat) (A_h : Rw w A_a 2 encA2I64 a0) (A_hn : a0.length = A_an) (h : laws_heldInt64A2S a0 k1 = some r) :
    Calls Try.prog 22 #[(.slice A_a A_an A_c), (.int .i64 k1)] w fun e w' => ∃ v, e = .returned v ∧ (v = (.int .i64 r) ∧ Mem w [] [] w') := by
  subst A_hn
  rw [laws_heldInt64A2S] at h
  refine enter (args := [(.slice A_a a0.length A_c), (.int .i64 k1)]) Try.func22 rfl Try.ntmps22 (by kernel_rfl) (L := []) (W := []) (Mem.start w) ?_
  refine jc_seq (jc_region (qh [0] (qe (jx_then (jc_seq (jc_seq (jc_region (qh [0] (qe (jx_then (jc_meet (fun (j : Int) => match j with | i_1 => laws_heldInt64A2S.k_2 i_1 = some r) (fun (j : Int) => match j with | i_1 => [(1, [], (.int .i64 i_1)), (4, [], (.int .i64 0))]) (fun (j : Int) => match j with | i_1 => []) ?_ ?_)))))))))))
  ·refine jc_block ?_
   obtain ⟨t_6, ht_524, hr_478⟩ := bd h
   refine jc_loop (fun (s : Int × Int) (x : Unit) => match s, x with | ⟨i_3, i_4⟩, _ => True) (fun (s : Int × Int) (x : Unit) => match s, x with | ⟨i_3, i_4⟩, _ => [(0, [], (.slice A_a a0.length A_c)), (1, [], (.int .i64 i_3)), (4, [], (.int .i64 0)), (5, [], (.int .i64 i_4))]) (fun (s : Int × Int) (x : Unit) => match s, x with | ⟨i_3, i_4⟩, _ => []) ht_524 () trivial (by kernel_rfl) [] (by kernel_rfl) (by kernel_rfl) ?_
   rintro ⟨i_3, i_4⟩ _ y_479 _ h
   rw [laws_heldInt64A2S.l_5] at h
   refine jc_seq (jc_seq (jc_region (qh [0,0,0,0] (qe (jx_then (qi h (fun h => ?_) (fun h => ?_)))))))
   ·refine jc_skip (jx_then (jc_seq (jc_block (jc_seq (jc_region (qh [0] (qe (jx_then (jc_meet (fun (j : Int) => match j with | i_7 => laws_heldInt64A2S.k_8 i_4 i_7 = some y_479) (fun (j : Int) => match j with | i_7 => [(0, [], (.slice A_a a0.length A_c)), (1, [], (.int .i64 i_7)), (4, [], (.int .i64 0)), (5, [], (.int .i64 i_4))]) (fun (j : Int) => match j with | i_7 => []) ?_ ?_)))))))))
    ·refine jc_block ?_
     obtain ⟨t_12, ht_522, hr_512⟩ := bd h
     refine jc_loop (fun (s : Int × Int) (x : Unit) => match s, x with | ⟨i_9, i_10⟩, _ => True) (fun (s : Int × Int) (x : Unit) => match s, x with | ⟨i_9, i_10⟩, _ => [(0, [], (.slice A_a a0.length A_c)), (1, [], (.int .i64 i_9)), (4, [], (.int .i64 0)), (5, [], (.int .i64 i_4)), (6, [], (.int .i64 i_10))]) (fun (s : Int × Int) (x : Unit) => match s, x with | ⟨i_9, i_10⟩, _ => []) ht_522 () trivial (by kernel_rfl) [] (by kernel_rfl) (by kernel_rfl) ?_
     rintro ⟨i_9, i_10⟩ _ y_513 _ h
     rw [laws_heldInt64A2S.l_11] at h
     refine jc_seq (jc_seq (jc_region (qh [0,0] (qe (jx_then (qi h (fun h => ?_) (fun h => ?_)))))))
     ·refine jc_skip (jx_then (jc_seq (jc_block (jc_seq (jc_seq (jc_region (qh [0,0,0] ?_)))))))
      obtain ⟨x_13, hx_516, h⟩ := bd h
      refine tO (qx 0 A_a 2 hx_516 rfl (A_h.sp hx_516) (jkO ?_))
      obtain ⟨x_14, hx_517, h⟩ := bd h
      refine tO (p_v 0 (by kernel_rfl) _ (fun w hm => idx_run (a := some ⟨aB A_a, aO A_a + i_4.toNat * 2, none⟩) (len := 2) (s := 1) (j := i_10) (by kernel_rfl) (ix_some hx_517).1 (ltn hx_517 x_13.2) rfl) (jkO (tO (ql 0 false (fun w hm => (at_arr encI64_len ((hm.xr A_h).at hx_516) hx_517)) (jkO (qh [0,0] (qe (jx_then (qi h (fun h => ?_) (fun h => ?_))))))))))
      ·refine jc_seq (jc_region (qh [0] (qe (jx_then (jc_ret (jx_thenr (jx_inr (jx_thenr (jx_leaver (.inl (-1)) (Option.some.inj h).symm (fun e_520 => ?_))))))))))
       subst e_520
       refine jx_inr (jx_thenr (jx_inr (jx_thenr (jx_leaver (.inl (-1)) (Option.some.inj hr_512).symm (fun e_519 => ?_)))))
       subst e_519
       refine jx_inr (jx_thenr (jx_thenr ?_))
       obtain rfl := Option.some.inj hr_478
       exact qr [] (fun w hm => ⟨rfl, hm.pk []⟩)
      ·exact jc_skip (jx_then (jc_region (qh [0,0,0] (qe (jx_inn (jx_then (jc_region (qh [0,0,0] (qe (qb ((w64 (i_9 + 1)), (w64 (i_10 + 1))) () h trivial []))))))))))
     ·refine jc_exit (jx_thenx (jx_leave (.inr i_9) (Option.some.inj h).symm (fun e_521 => ?_)))
      subst e_521
      exact jx_ine (qm i_9 hr_512 [])
    ·rintro i_7 h
     replace h : laws_heldInt64A2S.k_8 i_4 i_7 = some y_479 := h
     rw [laws_heldInt64A2S.k_8] at h
     exact jx_inn (jx_then (jc_region (qh [0,0,0] (qe (qb (i_7, (w64 (i_4 + 1))) () h trivial [])))))
   ·refine jc_exit (jx_thenx (jx_leave (.inr i_3) (Option.some.inj h).symm (fun e_523 => ?_)))
    subst e_523
    exact jx_ine (qm i_3 hr_478 [])
  ·rintro i_1 h
   replace h : laws_heldInt64A2S.k_2 i_1 = some r := h
   rw [laws_heldInt64A2S.k_2] at h
   refine jx_then (jc_seq (jc_region (qh [0,0] (qe (jx_then (jc_ret ?_))))))
   obtain rfl := Option.some.inj h
   exact qr [] (fun w hm => ⟨rfl, hm.pk []⟩)
/-! ### laws.FnExactTreeOf -/
def laws_FnExactTreeOf.k_17 (aF0 : GFrame) (aList1 : List (Arr 96 Int)) (t_5 : (List (Arr 2 Int)) × Int × Int) (t_8 : (List (Arr 2 Int)) × Int × Int) (q_16 : Bool) : Option (Bool) := (if q_16 = true then some false else (laws_markInt64A2S t_8.1 1).bind fun t_18 => (laws_heldInt64A2S t_18.2 1).bind fun t_19 => (if (decide (t_19 < 0)) = true then some false else (if (t_19 != t_18.1) = true then some false else (laws_toFrame aF0).bind fun t_20 => (laws_toDrumS aList1).bind fun t_21 => (impl_TreeOf t_20 t_21).bind fun t_22 => (laws_eqInt64A2S t_22.1 t_5.1).bind fun t_23 => (if (((!t_23) || (t_22.2.1 != t_5.2.1)) || (t_22.2.2 != t_5.2.2)) = true then some false else (laws_heldInt64A2S t_18.2 1).bind fun t_24 => (if (decide (t_24 < 0)) = true then some false else (if (t_24 != t_18.1) = true then some false else some true))))))
def laws_FnExactTreeOf (aF0 : GFrame) (aList1 : List (Arr 96 Int)) : Option (Bool) := (laws_szFrame aF0 1048576).bind fun t_1 => (if (decide (t_1 < 0)) = true then some true else (laws_szDrumS aList1 t_1).bind fun t_2 => (if (decide (t_2 < 0)) = true then some true else (laws_toFrame aF0).bind fun t_3 => (laws_toDrumS aList1).bind fun t_4 => (spec_TreeOf t_3 t_4).bind fun t_5 => (laws_toFrame aF0).bind fun t_6 => (laws_toDrumS aList1).bind fun t_7 => (impl_TreeOf t_6 t_7).bind fun t_8 => (laws_eqInt64A2S t_8.1 t_5.1).bind fun t_9 => (if (((!t_9) || (t_8.2.1 != t_5.2.1)) || (t_8.2.2 != t_5.2.2)) = true then some false else (laws_toFrame aF0).bind fun t_10 => (laws_eqFrame t_6 t_10).bind fun t_11 => (if (!t_11) = true then some false else (laws_toDrumS aList1).bind fun t_12 => (laws_eqDrumS t_7 t_12).bind fun t_13 => (if (!t_13) = true then some false else (laws_markFrame t_6 1).bind fun t_14 => (laws_markDrumS t_7 t_14.1).bind fun t_15 => (if (decide (t_15.1 < 0)) = true then laws_FnExactTreeOf.k_17 aF0 aList1 t_5 t_8 true else (laws_eqInt64A2S t_8.1 t_5.1).bind fun t_25 => laws_FnExactTreeOf.k_17 aF0 aList1 t_5 t_8 (((!t_25) || (t_8.2.1 != t_5.2.1)) || (t_8.2.2 != t_5.2.2))))))))
set_option maxHeartbeats 8000000 in
theorem laws_FnExactTreeOf.calls (aF0 : GFrame) (aList1 : List (Arr 96 Int)) (w : World) (r : Bool) {C_a : Option Addr} {C_an : Nat} (C_c : Nat) (C_h : Rw w C_a 2 encGHammer aF0.fHammers) (C_hn : aF0.fHammers.length = C_an) {D_a : Option Addr} {D_an : Nat} (D_c : Nat) (D_h : Rw w D_a 96 encA96U32 aList1) (D_hn : aList1.length = D_an) (h : laws_FnExactTreeOf aF0 aList1 = some r) :
    Calls Try.prog 3 #[(.agg #[(.int .i16 aF0.fSteps), (.slice C_a C_an C_c)]), (.slice D_a D_an D_c)] w fun e w' => ∃ v, e = .returned v ∧ (v = (.bool r) ∧ Mem w [] [] w') := by
  subst C_hn D_hn
  rw [laws_FnExactTreeOf] at h
  refine enter (args := [(.agg #[(.int .i16 aF0.fSteps), (.slice C_a aF0.fHammers.length C_c)]), (.slice D_a aList1.length D_c)]) Try.func3 rfl Try.ntmps3 (by kernel_rfl) (L := []) (W := []) (Mem.start w) ?_
  refine jc_seq (jc_region (tO (qa 0 (fun b_1 => jkO (qh [0] (qe (jx_then (jc_seq (jc_region (qh [0] (qe (jx_then (jc_seq (jc_region (qh [0,0] ?_)))))))))))))))
  obtain ⟨t_1, ht_2, h⟩ := bd h
  refine tO (pc 0 (fun w hm => laws_szFrame.calls aF0 1048576 w _ C_c (hm.xr C_h) rfl ht_2) ?_)
  rintro w v w' hm ⟨rfl, hm'⟩
  refine ⟨_, hm.app hm', jkO ?_⟩
  clear hm hm'
  refine qh [0] (qe (jx_then (jc_seq (jc_seq (jc_region (qh [0,0] (qe (jx_then (qi h (fun h => ?_) (fun h => ?_))))))))))
  ·refine jc_seq (jc_region (qh [0] (qe (jx_then (jc_ret (jx_thenr ?_))))))
   obtain rfl := Option.some.inj h
   exact qr [] (fun w hm => ⟨rfl, hm.pk []⟩)
  ·refine jc_skip (jx_then (jc_seq (jc_region (qh [0,0] ?_))))
   obtain ⟨t_2, ht_5, h⟩ := bd h
   refine tO (pc 0 (fun w hm => laws_szDrumS.calls aList1 t_1 w _ D_c (hm.xr D_h) rfl ht_5) ?_)
   rintro w v w' hm ⟨rfl, hm'⟩
   refine ⟨_, hm.app hm', jkO ?_⟩
   clear hm hm'
   refine qh [0] (qe (jx_then (jc_seq (jc_seq (jc_region (qh [0,0] (qe (jx_then (qi h (fun h => ?_) (fun h => ?_))))))))))
   ·refine jc_seq (jc_region (qh [0] (qe (jx_then (jc_ret (jx_thenr ?_))))))
    obtain rfl := Option.some.inj h
    exact qr [] (fun w hm => ⟨rfl, hm.pk []⟩)
   ·refine jc_skip (jx_then (jc_seq (jc_region (qh [0] ?_))))
    obtain ⟨t_3, ht_8, h⟩ := bd h
    refine tO (pc 0 (fun w hm => laws_toFrame.calls aF0 w _ C_c (hm.xr C_h) rfl ht_8) ?_)
    rintro w v w' hm ⟨o_9, cap_10, sp_11, _, rfl, hs_12, ho_13, rfl, hm'⟩
    refine ⟨_, hm.app hm', jkO ?_⟩
    clear hm hm'
    refine qh [0] ?_
    obtain ⟨t_4, ht_14, h⟩ := bd h
    refine tO (pc 0 (fun w hm => laws_toDrumS.calls aList1 w _ D_c (hm.xr D_h) rfl ht_14) ?_)
    rintro w v w' hm ⟨o_15, cap_16, sp_17, _, rfl, hs_18, ho_19, rfl, hm'⟩
    refine ⟨_, hm.app hm', jkO ?_⟩
    clear hm hm'
    obtain ⟨t_5, ht_20, h⟩ := bd h
    refine tO (pc 0 (fun w hm => spec_TreeOf.calls t_3 t_4 w _ cap_10 (hm.ow 1 o_9 128 t_3.fHammers sp_11 (fun e => (ho_13 e).1) encGHammer_len) rfl cap_16 (hm.ow 2 o_15 89 t_4 sp_17 (fun e => (ho_19 e).1) encA96U32_len) rfl ht_20) ?_)
    rintro w v w' hm ⟨o_21, cap_22, sp_23, _, rfl, hs_24, ho_25, rfl, hm'⟩
    refine ⟨_, hm.app hm', jkO ?_⟩
    clear hm hm'
    refine qh [0,0,0,0,0,0,0] (qe (jx_then (jc_seq (jc_region (qh [0] ?_)))))
    obtain ⟨t_6, ht_26, h⟩ := bd h
    refine tO (pc 0 (fun w hm => laws_toFrame.calls aF0 w _ C_c (hm.xr C_h) rfl ht_26) ?_)
    rintro w v w' hm ⟨o_27, cap_28, sp_29, _, rfl, hs_30, ho_31, rfl, hm'⟩
    refine ⟨_, hm.app hm', jkO ?_⟩
    clear hm hm'
    refine tO (qa 0 (fun b_32 => jkO (tO (qs 0 [5] (jkO (qe (jx_then (jc_seq (jc_region (qh [0] ?_))))))))))
    obtain ⟨t_7, ht_33, h⟩ := bd h
    refine tO (pc 0 (fun w hm => laws_toDrumS.calls aList1 w _ D_c (hm.xr D_h) rfl ht_33) ?_)
    rintro w v w' hm ⟨o_34, cap_35, sp_36, _, rfl, hs_37, ho_38, rfl, hm'⟩
    refine ⟨_, hm.app hm', jkO ?_⟩
    clear hm hm'
    refine qh [0] (qe (jx_then (jc_seq (jc_region (qh [5,0] ?_)))))
    obtain ⟨t_8, ht_39, h⟩ := bd h
    refine tO (pc 0 (fun w hm => impl_TreeOf.calls t_6 t_7 w _ cap_28 (hm.ow 4 o_27 128 t_6.fHammers sp_29 (fun e => (ho_31 e).1) encGHammer_len) rfl cap_35 (hm.ow 6 o_34 89 t_7 sp_36 (fun e => (ho_38 e).1) encA96U32_len) rfl ht_39) ?_)
    rintro w v w' hm ⟨o_40, cap_41, sp_42, _, rfl, hs_43, ho_44, rfl, hm'⟩
    refine ⟨_, hm.app hm', jkO ?_⟩
    clear hm hm'
    refine qh [0,0,0,0,0,0,0] (qe (jx_then (jc_seq (jc_seq (jc_region (qh [0,0] ?_))))))
    obtain ⟨t_9, ht_49, h⟩ := bd h
    refine tO (pc 0 (fun w hm => laws_eqInt64A2S.calls t_8.1 t_5.1 w _ cap_41 (hm.ow 7 o_40 93 t_8.1 sp_42 (fun e => (ho_44 e).1) encA2I64_len) rfl cap_22 (hm.ow 3 o_21 93 t_5.1 sp_23 (fun e => (ho_25 e).1) encA2I64_len) rfl ht_49) ?_)
    rintro w v w' hm ⟨rfl, hm'⟩
    refine ⟨_, hm.app hm', jkO ?_⟩
    clear hm hm'
    refine qf [(0, 0), (0, 0), (0, 1), (0, 1), (0, 1), (0, 0), (0, 0), (0, 1), (0, 1), (0, 1), (0, 0)] (qe (jx_then (qi h (fun h => ?_) (fun h => ?_))))
    ·refine jc_seq (jc_region (qh [0] (qe (jx_then (jc_ret (jx_thenr ?_))))))
     obtain rfl := Option.some.inj h
     exact qr [] (fun w hm => ⟨rfl, hm.pk []⟩)
    ·refine jc_skip (jx_then (jc_seq (jc_seq (qg [⟨some b_1, 25, [(.int .i16 aF0.fSteps), (.slice C_a aF0.fHammers.length C_c)]⟩, ⟨o_9, 128, row encGHammer t_3.fHammers sp_11⟩, ⟨o_15, 89, row encA96U32 t_4 sp_17⟩, ⟨o_21, 93, row encA2I64 t_5.1 sp_23⟩, ⟨o_27, 128, row encGHammer t_6.fHammers sp_29⟩, ⟨some b_32, 34, [(.int .i16 t_6.fSteps), (.slice (o_27.map fun b => ⟨b, 0, none⟩) t_6.fHammers.length cap_28)]⟩, ⟨o_34, 89, row encA96U32 t_7 sp_36⟩, ⟨o_40, 93, row encA2I64 t_8.1 sp_42⟩] 5 (qd [⟨0, 5, 0⟩,⟨1, 0, 0⟩] 3 [0, 1, 2, 3, 4, 5, 6, 7] ?_)))))
     obtain ⟨t_10, ht_73, h⟩ := bd h
     refine tD 2 (pc 0 (fun w hm => laws_toFrame.calls aF0 w _ C_c (hm.xr C_h) rfl ht_73) ?_)
     rintro w v w' hm ⟨o_74, cap_75, sp_76, _, rfl, hs_77, ho_78, rfl, hm'⟩
     refine ⟨_, hm.app hm', kD [0, 1, 2, 3, 4, 5, 6, 7] ?_⟩
     clear hm hm'
     obtain ⟨t_11, ht_79, h⟩ := bd h
     refine tD 3 (pc 0 (fun w hm => laws_eqFrame.calls t_6 t_10 w _ cap_28 (hm.ow 4 o_27 128 t_6.fHammers sp_29 (fun e => (ho_31 e).1) encGHammer_len) rfl cap_75 (hm.ow 8 o_74 128 t_10.fHammers sp_76 (fun e => (ho_78 e).1) encGHammer_len) rfl ht_79) ?_)
     rintro w v w' hm ⟨rfl, hm'⟩
     refine ⟨_, hm.app hm', kD [0, 1, 2, 3, 4, 5, 6, 7] ?_⟩
     clear hm hm'
     refine qd [⟨4, 0, 0⟩] 0 [0, 1, 2, 3, 4, 5, 6, 7] (qz (jx_then (qi h (fun h => ?_) (fun h => ?_))))
     ·refine jc_seq (jc_region (qh [0] (qe (jx_then (jc_ret (jx_thenr ?_))))))
      obtain rfl := Option.some.inj h
      exact qr [] (fun w hm => ⟨rfl, hm.pk []⟩)
     ·refine jc_skip (jx_then (jc_seq (jc_seq (jc_region (qh [0,0] ?_)))))
      obtain ⟨t_12, ht_89, h⟩ := bd h
      refine tO (pc 0 (fun w hm => laws_toDrumS.calls aList1 w _ D_c (hm.xr D_h) rfl ht_89) ?_)
      rintro w v w' hm ⟨o_90, cap_91, sp_92, _, rfl, hs_93, ho_94, rfl, hm'⟩
      refine ⟨_, hm.app hm', jkO ?_⟩
      clear hm hm'
      obtain ⟨t_13, ht_95, h⟩ := bd h
      refine tO (pc 0 (fun w hm => laws_eqDrumS.calls t_7 t_12 w _ cap_35 (hm.ow 6 o_34 89 t_7 sp_36 (fun e => (ho_38 e).1) encA96U32_len) rfl cap_91 (hm.ow 9 o_90 89 t_12 sp_92 (fun e => (ho_94 e).1) encA96U32_len) rfl ht_95) ?_)
      rintro w v w' hm ⟨rfl, hm'⟩
      refine ⟨_, hm.app hm', jkO ?_⟩
      clear hm hm'
      refine qh [0] (qe (jx_then (qi h (fun h => ?_) (fun h => ?_))))
      ·refine jc_seq (jc_region (qh [0] (qe (jx_then (jc_ret (jx_thenr ?_))))))
       obtain rfl := Option.some.inj h
       exact qr [] (fun w hm => ⟨rfl, hm.pk []⟩)
      ·refine jc_skip (jx_then (jc_seq (jc_region (qh [0] (qe (jx_then (jc_seq (jc_region (qh [5,0] ?_)))))))))
       obtain ⟨t_14, ht_97, h⟩ := bd h
       refine tO (pc 0 (fun w hm => laws_markFrame.calls t_6 1 w _ o_27 rfl hs_30 ho_31 (hm.pass (N := [⟨o_27, 128, row encGHammer t_6.fHammers sp_29⟩]) [4] (by kernel_rfl) (by kernel_rfl)) ht_97) ?_)
       rintro w v w' hm ⟨hn_98, ho_99, rfl, hm'⟩
       refine ⟨_, hm.appW (ps := [(4, ⟨o_27, 128, row encGHammer t_14.2 sp_29⟩)]) (N := []) hm' (by kernel_rfl) (by kernel_rfl), jkO ?_⟩
       clear hm hm'
       refine qh [0] (qe (jx_then (jc_seq (jc_region (qh [0,0] ?_)))))
       obtain ⟨t_15, ht_100, h⟩ := bd h
       refine tO (pc 0 (fun w hm => laws_markDrumS.calls t_7 t_14.1 w _ o_34 rfl hs_37 ho_38 (hm.pass (N := [⟨o_34, 89, row encA96U32 t_7 sp_36⟩]) [6] (by kernel_rfl) (by kernel_rfl)) ht_100) ?_)
       rintro w v w' hm ⟨hn_101, ho_102, rfl, hm'⟩
       refine ⟨_, hm.appW (ps := [(6, ⟨o_34, 89, row encA96U32 t_15.2 sp_36⟩)]) (N := []) hm' (by kernel_rfl) (by kernel_rfl), jkO ?_⟩
       clear hm hm'
       refine qh [0] (qe (jx_then (jc_seq (jc_seq (jc_meet (fun (j : Bool) => match j with | q_16 => laws_FnExactTreeOf.k_17 aF0 aList1 t_5 t_8 q_16 = some r) (fun (j : Bool) => match j with | q_16 => [(1, [], (.slice D_a aList1.length D_c)), (2, [], (.pointer (some ⟨b_1, 0, none⟩))), (4, [], (.bool false)), (6, [], (.slice (o_21.map fun b => ⟨b, 0, none⟩) t_5.1.length cap_22)), (7, [], (.int .i64 t_5.2.1)), (8, [], (.int .i64 t_5.2.2)), (11, [], (.slice (o_40.map fun b => ⟨b, 0, none⟩) t_8.1.length cap_41)), (97, [], (.bool q_16))]) (fun (j : Bool) => match j with | q_16 => [⟨some b_1, 25, [(.int .i16 aF0.fSteps), (.slice C_a aF0.fHammers.length C_c)]⟩, ⟨o_9, 128, row encGHammer t_3.fHammers sp_11⟩, ⟨o_15, 89, row encA96U32 t_4 sp_17⟩, ⟨o_21, 93, row encA2I64 t_5.1 sp_23⟩, ⟨o_27, 128, row encGHammer t_14.2 sp_29⟩, ⟨some b_32, 34, [(.int .i16 t_6.fSteps), (.slice (o_27.map fun b => ⟨b, 0, none⟩) t_6.fHammers.length cap_28)]⟩, ⟨o_34, 89, row encA96U32 t_15.2 sp_36⟩, ⟨o_40, 93, row encA2I64 t_8.1 sp_42⟩, ⟨o_74, 128, row encGHammer t_10.fHammers sp_76⟩, ⟨o_90, 89, row encA96U32 t_12 sp_92⟩]) ?_ ?_)))))
       ·refine jc_region (qf [(0, 0), (0, 0), (0, 0), (0, 1), (0, 1)] (qp 82 h (fun h => ?_) (fun h => ?_)))
        ·exact qf [(0, 3), (0, 3), (0, 4), (0, 0), (0, 3), (0, 3), (0, 3), (0, 4), (0, 0), (0, 3), (0, 3), (0, 3), (0, 4)] (qe (qm true h [0, 1, 2, 3, 4, 5, 6, 7, 8, 9]))
        ·obtain ⟨t_25, ht_148, h⟩ := bd h
         refine tO (pc 2 (fun w hm => laws_eqInt64A2S.calls t_8.1 t_5.1 w _ cap_41 (hm.ow 7 o_40 93 t_8.1 sp_42 (fun e => (ho_44 e).1) encA2I64_len) rfl cap_22 (hm.ow 3 o_21 93 t_5.1 sp_23 (fun e => (ho_25 e).1) encA2I64_len) rfl ht_148) ?_)
         rintro w v w' hm ⟨rfl, hm'⟩
         refine ⟨_, hm.app hm', jkO ?_⟩
         clear hm hm'
         exact qf [(0, 2), (0, 5), (0, 0), (0, 1), (0, 1), (0, 1), (0, 0), (0, 0), (0, 1), (0, 1), (0, 1), (0, 0)] (qe (qm (((!t_25) || (t_8.2.1 != t_5.2.1)) || (t_8.2.2 != t_5.2.2)) h [0, 1, 2, 3, 4, 5, 6, 7, 8, 9]))
       ·rintro q_16 h
        replace h : laws_FnExactTreeOf.k_17 aF0 aList1 t_5 t_8 q_16 = some r := h
        rw [laws_FnExactTreeOf.k_17] at h
        refine jx_then (qi h (fun h => ?_) (fun h => ?_))
        ·refine jc_seq (jc_region (qh [0] (qe (jx_then (jc_ret (jx_thenr ?_))))))
         obtain rfl := Option.some.inj h
         exact qr [] (fun w hm => ⟨rfl, hm.pk []⟩)
        ·refine jc_skip (jx_then (jc_seq (jc_region (qh [0] (qe (jx_then (jc_seq (jc_region (qh [0,0] ?_)))))))))
         obtain ⟨t_18, ht_111, h⟩ := bd h
         refine tO (pc 0 (fun w hm => laws_markInt64A2S.calls t_8.1 1 w _ o_40 rfl hs_43 ho_44 (hm.pass (N := [⟨o_40, 93, row encA2I64 t_8.1 sp_42⟩]) [7] (by kernel_rfl) (by kernel_rfl)) ht_111) ?_)
         rintro w v w' hm ⟨hn_112, ho_113, rfl, hm'⟩
         refine ⟨_, hm.appW (ps := [(7, ⟨o_40, 93, row encA2I64 t_18.2 sp_42⟩)]) (N := []) hm' (by kernel_rfl) (by kernel_rfl), jkO ?_⟩
         clear hm hm'
         refine qh [0] (qe (jx_then (jc_seq (jc_region (qh [0] (qe (jx_then (jc_seq (jc_region (qh [0,0] ?_))))))))))
         obtain ⟨t_19, ht_114, h⟩ := bd h
         refine tO (pc 0 (fun w hm => laws_heldInt64A2S.calls t_18.2 1 w _ cap_41 (hm.ow 7 o_40 93 t_18.2 sp_42 (fun e => (ho_113 e).1) encA2I64_len) hn_112 ht_114) ?_)
         rintro w v w' hm ⟨rfl, hm'⟩
         refine ⟨_, hm.app hm', jkO ?_⟩
         clear hm hm'
         refine qh [0] (qe (jx_then (jc_seq (jc_seq (jc_region (qh [0,0] (qe (jx_then (qi h (fun h => ?_) (fun h => ?_))))))))))
         ·refine jc_seq (jc_region (qh [0] (qe (jx_then (jc_ret (jx_thenr ?_))))))
          obtain rfl := Option.some.inj h
          exact qr [] (fun w hm => ⟨rfl, hm.pk []⟩)
         ·refine jc_skip (jx_then (jc_seq (jc_seq (jc_region (qh [0,0,0] (qe (jx_then (qi h (fun h => ?_) (fun h => ?_)))))))))
          ·refine jc_seq (jc_region (qh [0] (qe (jx_then (jc_ret (jx_thenr ?_))))))
           obtain rfl := Option.some.inj h
           exact qr [] (fun w hm => ⟨rfl, hm.pk []⟩)
          ·refine jc_skip (jx_then (jc_seq (jc_region (qh [0] ?_))))
           obtain ⟨t_20, ht_119, h⟩ := bd h
           refine tO (pc 0 (fun w hm => laws_toFrame.calls aF0 w _ C_c (hm.xr C_h) rfl ht_119) ?_)
           rintro w v w' hm ⟨o_120, cap_121, sp_122, _, rfl, hs_123, ho_124, rfl, hm'⟩
           refine ⟨_, hm.app hm', jkO ?_⟩
           clear hm hm'
           refine qh [0] ?_
           obtain ⟨t_21, ht_125, h⟩ := bd h
           refine tO (pc 0 (fun w hm => laws_toDrumS.calls aList1 w _ D_c (hm.xr D_h) rfl ht_125) ?_)
           rintro w v w' hm ⟨o_126, cap_127, sp_128, _, rfl, hs_129, ho_130, rfl, hm'⟩
           refine ⟨_, hm.app hm', jkO ?_⟩
           clear hm hm'
           obtain ⟨t_22, ht_131, h⟩ := bd h
           refine tO (pc 0 (fun w hm => impl_TreeOf.calls t_20 t_21 w _ cap_121 (hm.ow 10 o_120 128 t_20.fHammers sp_122 (fun e => (ho_124 e).1) encGHammer_len) rfl cap_127 (hm.ow 11 o_126 89 t_21 sp_128 (fun e => (ho_130 e).1) encA96U32_len) rfl ht_131) ?_)
           rintro w v w' hm ⟨o_132, cap_133, sp_134, _, rfl, hs_135, ho_136, rfl, hm'⟩
           refine ⟨_, hm.app hm', jkO ?_⟩
           clear hm hm'
           refine qh [0,0,0,0,0,0,0] (qe (jx_then (jc_seq (jc_seq (jc_region (qh [0,0] ?_))))))
           obtain ⟨t_23, ht_141, h⟩ := bd h
           refine tO (pc 0 (fun w hm => laws_eqInt64A2S.calls t_22.1 t_5.1 w _ cap_133 (hm.ow 12 o_132 93 t_22.1 sp_134 (fun e => (ho_136 e).1) encA2I64_len) rfl cap_22 (hm.ow 3 o_21 93 t_5.1 sp_23 (fun e => (ho_25 e).1) encA2I64_len) rfl ht_141) ?_)
           rintro w v w' hm ⟨rfl, hm'⟩
           refine ⟨_, hm.app hm', jkO ?_⟩
           clear hm hm'
           refine qf [(0, 0), (0, 0), (0, 1), (0, 1), (0, 1), (0, 0), (0, 0), (0, 1), (0, 1), (0, 1), (0, 0)] (qe (jx_then (qi h (fun h => ?_) (fun h => ?_))))
           ·refine jc_seq (jc_region (qh [0] (qe (jx_then (jc_ret (jx_thenr ?_))))))
            obtain rfl := Option.some.inj h
            exact qr [] (fun w hm => ⟨rfl, hm.pk []⟩)
           ·refine jc_skip (jx_then (jc_seq (jc_region (qh [0] (qe (jx_then (jc_seq (jc_region (qh [0,0] ?_)))))))))
            obtain ⟨t_24, ht_143, h⟩ := bd h
            refine tO (pc 0 (fun w hm => laws_heldInt64A2S.calls t_18.2 1 w _ cap_41 (hm.ow 7 o_40 93 t_18.2 sp_42 (fun e => (ho_113 e).1) encA2I64_len) hn_112 ht_143) ?_)
            rintro w v w' hm ⟨rfl, hm'⟩
            refine ⟨_, hm.app hm', jkO ?_⟩
            clear hm hm'
            refine qh [0] (qe (jx_then (jc_seq (jc_seq (jc_region (qh [0,0] (qe (jx_then (qi h (fun h => ?_) (fun h => ?_))))))))))
            ·refine jc_seq (jc_region (qh [0] (qe (jx_then (jc_ret (jx_thenr ?_))))))
             obtain rfl := Option.some.inj h
             exact qr [] (fun w hm => ⟨rfl, hm.pk []⟩)
            ·refine jc_skip (jx_then (jc_seq (jc_seq (jc_region (qh [0,0,0] (qe (jx_then (qi h (fun h => ?_) (fun h => ?_)))))))))
             ·refine jc_seq (jc_region (qh [0] (qe (jx_then (jc_ret (jx_thenr ?_))))))
              obtain rfl := Option.some.inj h
              exact qr [] (fun w hm => ⟨rfl, hm.pk []⟩)
             ·refine jc_skip (jx_then (jc_seq (jc_region (qh [0] (qe (jx_then (jc_ret ?_)))))))
              obtain rfl := Option.some.inj h
              exact qr [] (fun w hm => ⟨rfl, hm.pk []⟩)
end

end Go.Proofs.Ytbclghgbnnlbjaa
