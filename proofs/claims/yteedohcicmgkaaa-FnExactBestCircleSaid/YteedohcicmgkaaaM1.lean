/- Functions of the program that the laws reach: a plain function each, and that the call comes to its answer if the plain function has one. Printed by a program. -/
import Derived.Test.YteedohcicmgkaaaT
import Derived.Test.YteedohcicmgkaaaTab
import Derived.Test.YteedohcicmgkaaaM0
namespace Go.Proofs.Yteedohcicmgkaaa
open Eng
set_option linter.unusedVariables false

set_option linter.unusedSectionVars false
set_option maxRecDepth 100000
variable [dsW : DrwS]
noncomputable section
/-! ### spec.BestOrder -/
def spec_BestOrder.k_7 (xs_5 : List Int) (i_6 : Int) : Option ((List Int) × Int × Int) := some (xs_5, i_6, 0)
def spec_BestOrder.l_11 (list1 : List (Arr 96 Int)) (t_2 : (List (List Int))) : ((List Int) × Int × Int) → Option (((List Int) × Int × Int) ⊕ (((List Int) × Int)))
  | (xs_8, i_9, i_10) => (if (decide (i_10 < (list1.length : Int))) = true then (spec_l05Best t_2 i_10 false).bind fun t_13 => (if (decide (t_13.2 < i_9)) = true then some (.inl (t_13.1, t_13.2, (w64 (i_10 + 1)))) else some (.inl (xs_8, i_9, (w64 (i_10 + 1))))) else some (.inr (xs_8, i_9)))
def spec_BestOrder (f0 : GFrame) (list1 : List (Arr 96 Int)) (first2 : Int) : Option ((List Int) × Int × Int) := (spec_l05First f0 list1 first2).bind fun t_1 => (if (t_1 != 0) = true then some (([] : List Int), 0, t_1) else (spec_l05Table list1).bind fun t_2 => (if (decide (first2 ≥ 0)) = true then (spec_l05Best t_2 first2 false).bind fun t_3 => some (t_3.1, t_3.2, 0) else (spec_l05Best t_2 0 false).bind fun t_4 => (loop (spec_BestOrder.l_11 list1 t_2) (t_4.1, t_4.2, 1)).bind fun t_12 => spec_BestOrder.k_7 t_12.1 t_12.2))
theorem spec_BestOrder.calls (f0 : GFrame) (list1 : List (Arr 96 Int)) (first2 : Int) (w : World) (r : (List Int) × Int × Int) {C_a : Option Addr} {C_an : Nat} (C_c : Nat) (C_h : Rw w C_a 2 encGHammer f0.fHammers) (C_hn : f0.fHammers.length = C_an) {D_a : Option Addr} {D_an : Nat} (D_c : Nat) (D_h : Rw w D_a 96 encA96U32 list1) (D_hn : list1.length = D_an) (h : spec_BestOrder f0 list1 first2 = some r) :
    Calls Try.prog 23 #[(.agg #[(.int .i16 f0.fSteps), (.slice C_a C_an C_c)]), (.slice D_a D_an D_c), (.int .i64 first2)] w fun e w' => ∃ v, e = .returned v ∧ (∃ (o0 : Option Nat) (c0 : Nat) (s0 : List Value) (n0 : Nat), r.1.length = n0 ∧ (o0 ≠ none → n0 ≤ c0 ∧ s0.length = (c0 - n0) * 1) ∧ (o0 = none → r.1 = [] ∧ c0 = 0) ∧ v = .tuple #[.slice (o0.map fun b => ⟨b, 0, none⟩) n0 c0, (.int .i64 r.2.1), (.int .i64 r.2.2)] ∧ Mem w [] [⟨o0, 2, row encI64 r.1 s0⟩] w') := by
  subst C_hn D_hn
  rw [spec_BestOrder] at h
  refine enter (args := [(.agg #[(.int .i16 f0.fSteps), (.slice C_a f0.fHammers.length C_c)]), (.slice D_a list1.length D_c), (.int .i64 first2)]) Try.func23 rfl Try.ntmps23 (by kernel_rfl) (L := []) (W := []) (Mem.start w) ?_
  refine jc_seq (jc_region (tO (qa 0 (fun b_1 => jkO (qh [0,0,0] (qe (jx_then (jc_seq (jc_seq (jc_region (qh [0,0] ?_)))))))))))
  obtain ⟨t_1, ht_5, h⟩ := bd h
  refine tO (pc 0 (fun w hm => spec_l05First.calls f0 list1 first2 w _ C_c (hm.xr C_h) rfl D_c (hm.xr D_h) rfl b_1 (hm.pass (N := [⟨some b_1, 34, [(.int .i16 f0.fSteps), (.slice C_a f0.fHammers.length C_c)]⟩]) [0] (by kernel_rfl) (by kernel_rfl)) (hm.exApart (N := [⟨some b_1, 34, [(.int .i16 f0.fSteps), (.slice C_a f0.fHammers.length C_c)]⟩]) C_h (fun _ => List.not_mem_nil) [0] (by kernel_rfl)) (hm.exApart (N := [⟨some b_1, 34, [(.int .i16 f0.fSteps), (.slice C_a f0.fHammers.length C_c)]⟩]) D_h (fun _ => List.not_mem_nil) [0] (by kernel_rfl)) ht_5) ?_)
  rintro w v w' hm ⟨rfl, hm'⟩
  refine ⟨_, hm.appW (ps := [(0, ⟨some b_1, 34, [(.int .i16 f0.fSteps), (.slice C_a f0.fHammers.length C_c)]⟩)]) (N := []) hm' (by kernel_rfl) (by kernel_rfl), jkO ?_⟩
  clear hm hm'
  refine qh [0] (qe (jx_then (jc_seq (jc_region (qh [0,0] (qe (jx_then (qi h (fun h => ?_) (fun h => ?_)))))))))
  ·refine jc_seq (jc_region (tO (qa 0 (fun b_7 => jkO (qh [0,0,0,0] (qe (jx_then (jc_ret (jx_thenr ?_)))))))))
   obtain rfl := Option.some.inj h
   exact qr [] (fun w hm => ⟨(some b_7), 0, [], 0, rfl, (fun _ => ⟨Nat.le_refl _, by simp⟩), (fun e => nomatch e), rfl, hm.pk [1]⟩)
  ·refine jc_skip (jx_then (jc_seq (jc_region (qh [0] ?_))))
   obtain ⟨t_2, ht_8, h⟩ := bd h
   refine tO (pc 0 (fun w hm => spec_l05Table.calls list1 w _ D_c (hm.xr D_h) rfl ht_8) ?_)
   rintro w v w' hm ⟨o_9, cap_10, sp_11, _, hh_14, hI_15, rfl, hs_12, ho_13, rfl, hm'⟩
   refine ⟨_, hm.app hm', jkO ?_⟩
   clear hm hm'
   refine qh [0] (qe (jx_then (jc_seq (jc_seq (jc_region (qh [0,0] (qe (jx_then (qi h (fun h => ?_) (fun h => ?_))))))))))
   ·refine jc_seq (jc_region (qh [0,0] ?_))
    obtain ⟨t_3, ht_24, h⟩ := bd h
    refine tO (pc 0 (fun w hm => spec_l05Best.calls t_2 first2 false w _ cap_10 (hm.ow 1 o_9 29 hh_14 sp_11 (fun e => (ho_13 e).1) encHd_len) (hI_15.1.symm.trans rfl) (hm.cluPass (N := []) 2 hI_15 encI64_len []) ht_24) ?_)
    rintro w v w' hm ⟨o_25, cap_26, sp_27, _, rfl, hs_28, ho_29, rfl, hm'⟩
    refine ⟨_, hm.app hm', jkO ?_⟩
    clear hm hm'
    refine qh [0,0,0,0,0] (qe (jx_then (jc_seq (jc_region (qh [0,0,0,0,0] (qe (jx_then (jc_ret (jx_thenr ?_)))))))))
    obtain rfl := Option.some.inj h
    exact qr [] (fun w hm => ⟨o_25, cap_26, sp_27, t_3.1.length, rfl, hs_28, ho_29, rfl, hm.pk [3]⟩)
   ·refine jc_skip (jx_then (jc_seq (jc_region (qh [0] ?_))))
    obtain ⟨t_4, ht_30, h⟩ := bd h
    refine tO (pc 0 (fun w hm => spec_l05Best.calls t_2 0 false w _ cap_10 (hm.ow 1 o_9 29 hh_14 sp_11 (fun e => (ho_13 e).1) encHd_len) (hI_15.1.symm.trans rfl) (hm.cluPass (N := []) 2 hI_15 encI64_len []) ht_30) ?_)
    rintro w v w' hm ⟨o_31, cap_32, sp_33, _, rfl, hs_34, ho_35, rfl, hm'⟩
    refine ⟨_, hm.app hm', jkO ?_⟩
    clear hm hm'
    refine qh [0,0,0,0,0] (qe (jx_then (jc_seq (jc_seq (jc_region (qh [0] (qe (jx_then (jc_meet (fun (j : (List Int) × Int × (Option Nat) × Nat × (List Value) × Nat) => match j with | ⟨xs_5, i_6, o_171, cap_172, sp_173, n_174⟩ => spec_BestOrder.k_7 xs_5 i_6 = some r ∧ (xs_5.length = n_174) ∧ ((o_171 ≠ none → n_174 ≤ cap_172 ∧ sp_173.length = (cap_172 - n_174) * 1)) ∧ ((o_171 = none → xs_5 = [] ∧ cap_172 = 0))) (fun (j : (List Int) × Int × (Option Nat) × Nat × (List Value) × Nat) => match j with | ⟨xs_5, i_6, o_171, cap_172, sp_173, n_174⟩ => [(6, [], (.slice none 0 0)), (7, [], (.int .i64 0)), (8, [], (.int .i64 0)), (13, [], (.slice (o_171.map fun b => ⟨b, 0, none⟩) n_174 cap_172)), (14, [], (.int .i64 i_6))]) (fun (j : (List Int) × Int × (Option Nat) × Nat × (List Value) × Nat) => match j with | ⟨xs_5, i_6, o_171, cap_172, sp_173, n_174⟩ => [⟨some b_1, 34, [(.int .i16 f0.fSteps), (.slice C_a f0.fHammers.length C_c)]⟩, ⟨o_9, 29, row encHd hh_14 sp_11⟩, ⟨none, CLU, cluC encI64 hh_14 t_2⟩, ⟨none, 0, []⟩, ⟨o_171, 2, row encI64 xs_5 sp_173⟩]) ?_ ?_)))))))))
    ·refine jc_block ?_
     obtain ⟨t_12, ht_219, hr_207⟩ := bd h
     refine jc_ghost 0 (fun (_ : Unit) => ([] : List Value)) (jc_loop (fun (s : (List Int) × Int × Int) (x : (Option Nat) × Nat × (List Value) × Nat) => match s, x with | ⟨xs_8, i_9, i_10⟩, ⟨o_201, cap_202, sp_203, n_204⟩ => (xs_8.length = n_204) ∧ ((o_201 ≠ none → n_204 ≤ cap_202 ∧ sp_203.length = (cap_202 - n_204) * 1)) ∧ ((o_201 = none → xs_8 = [] ∧ cap_202 = 0))) (fun (s : (List Int) × Int × Int) (x : (Option Nat) × Nat × (List Value) × Nat) => match s, x with | ⟨xs_8, i_9, i_10⟩, ⟨o_201, cap_202, sp_203, n_204⟩ => [(1, [], (.slice D_a list1.length D_c)), (6, [], (.slice none 0 0)), (7, [], (.int .i64 0)), (8, [], (.int .i64 0)), (10, [], (.slice (o_9.map fun b => ⟨b, 0, none⟩) hh_14.length cap_10)), (13, [], (.slice (o_201.map fun b => ⟨b, 0, none⟩) n_204 cap_202)), (14, [], (.int .i64 i_9)), (15, [], (.int .i64 i_10))]) (fun (s : (List Int) × Int × Int) (x : (Option Nat) × Nat × (List Value) × Nat) => match s, x with | ⟨xs_8, i_9, i_10⟩, ⟨o_201, cap_202, sp_203, n_204⟩ => [⟨some b_1, 34, [(.int .i16 f0.fSteps), (.slice C_a f0.fHammers.length C_c)]⟩, ⟨o_9, 29, row encHd hh_14 sp_11⟩, ⟨none, CLU, cluC encI64 hh_14 t_2⟩, ⟨none, 0, []⟩, ⟨o_201, 2, row encI64 xs_8 sp_203⟩]) ht_219 ⟨o_31, cap_32, sp_33, t_4.1.length⟩ ⟨rfl, hs_34, ho_35⟩ (by kernel_rfl) [0, 1, 2, 4, 3] (by kernel_rfl) (by kernel_rfl) ?_)
     rintro ⟨xs_8, i_9, i_10⟩ ⟨o_201, cap_202, sp_203, n_204⟩ y_208 ⟨rfl, hs_205, ho_206⟩ h
     rw [spec_BestOrder.l_11] at h
     refine jc_seq (jc_seq (jc_region (qh [0,0,0,0] (qe (jx_then (qi h (fun h => ?_) (fun h => ?_)))))))
     ·refine jc_skip (jx_then (jc_seq (jc_block (jc_seq (jc_region (qh [0,0] ?_))))))
      obtain ⟨t_13, ht_211, h⟩ := bd h
      refine tO (pc 0 (fun w hm => spec_l05Best.calls t_2 i_10 false w _ cap_10 (hm.ow 1 o_9 29 hh_14 sp_11 (fun e => (ho_13 e).1) encHd_len) (hI_15.1.symm.trans rfl) (hm.cluPass (N := []) 2 hI_15 encI64_len []) ht_211) ?_)
      rintro w v w' hm ⟨o_212, cap_213, sp_214, _, rfl, hs_215, ho_216, rfl, hm'⟩
      refine ⟨_, hm.app hm', jkO ?_⟩
      clear hm hm'
      refine qh [0,0,0,0,0] (qe (jx_then (jc_seq (jc_region (qh [0,0,0] (qe (jx_then (qi h (fun h => ?_) (fun h => ?_)))))))))
      ·exact jc_seq (jc_region (qh [0,0] (qe (jx_then (jc_region (qh [0,0] (qe (jx_inn (jx_then (jc_region (qh [0,0,0] (qe (qb (t_13.1, t_13.2, (w64 (i_10 + 1))) ⟨o_212, cap_213, sp_214, t_13.1.length⟩ h ⟨rfl, hs_215, ho_216⟩ [0, 1, 2, 3, 5])))))))))))))
      ·exact jc_skip (jx_inn (jx_then (jc_region (qh [0,0,0] (qe (qb (xs_8, i_9, (w64 (i_10 + 1))) ⟨o_201, cap_202, sp_203, xs_8.length⟩ h ⟨rfl, hs_205, ho_206⟩ [0, 1, 2, 3, 4]))))))
     ·refine jc_exit (jx_thenx (jx_leave (xs_8, i_9) (Option.some.inj h).symm (fun e_218 => ?_)))
      subst e_218
      exact jx_ine (qm ⟨xs_8, i_9, o_201, cap_202, sp_203, xs_8.length⟩ ⟨hr_207, rfl, hs_205, ho_206⟩ [0, 1, 2, 3, 4])
    ·rintro ⟨xs_5, i_6, o_171, cap_172, sp_173, n_174⟩ ⟨h, rfl, hs_175, ho_176⟩
     replace h : spec_BestOrder.k_7 xs_5 i_6 = some r := h
     rw [spec_BestOrder.k_7] at h
     refine jx_then (jc_seq (jc_region (qh [0,0,0,0,0] (qe (jx_then (jc_ret ?_))))))
     obtain rfl := Option.some.inj h
     exact qr [] (fun w hm => ⟨o_171, cap_172, sp_173, xs_5.length, rfl, hs_175, ho_176, rfl, hm.pk [4]⟩)
/-! ### impl.BestOrder$1 -/
def impl_BestOrder_1 (order0 : List Int) (p1 : List (List Int)) (p2 : Int) (p3 : List Int) : Option (Int × (List Int)) := (impl_orderCost p1 order0).bind fun t_1 => (if ((decide (p2 < 0)) || (decide (t_1 < p2))) = true then some (t_1, order0) else some (p2, p3))
theorem impl_BestOrder_1.calls (order0 : List Int) (p1 : List (List Int)) (p2 : Int) (p3 : List Int) (w : World) (r : Int × (List Int)) {A_a : Option Addr} {A_an : Nat} (A_c : Nat) (A_h : Rw w A_a 1 encI64 order0) (A_hn : order0.length = A_an) {B_a : Option Addr} {B_an : Nat} (B_c : Nat) {B_hs : List Hd} (B_h : Rw w B_a 1 encHd B_hs) (B_hn : p1.length = B_an) {D_a : Option Addr} {D_an : Nat} (D_c : Nat) (D_hn : p3.length = D_an) (B_b : Nat) (C_b : Nat) (D_b : Nat) (hm0 : Mem w (bs [some B_b, some C_b, some D_b]) [⟨some B_b, 83, [(.slice B_a B_an B_c)]⟩, ⟨some C_b, 2, [(.int .i64 p2)]⟩, ⟨some D_b, 29, [(.slice D_a D_an D_c)]⟩] w) (A_ha : order0 ≠ [] → aB A_a ∉ bs [some B_b, some C_b, some D_b]) (B_ha : B_hs ≠ [] → aB B_a ∉ bs [some B_b, some C_b, some D_b]) (B_i : Inn w (bs [some B_b, some C_b, some D_b]) 1 encI64 B_hs p1) (h : impl_BestOrder_1 order0 p1 p2 p3 = some r) :
    Calls Try.prog 63 #[(.slice A_a A_an A_c), (.pointer (some ⟨B_b, 0, none⟩)), (.pointer (some ⟨C_b, 0, none⟩)), (.pointer (some ⟨D_b, 0, none⟩))] w fun e w' => ∃ v, e = .returned v ∧ (∃ (lo : Option Nat) (la : Option Addr) (lc : Nat) (lsp : List Value) (ln : Nat), r.2.length = ln ∧ LsB lo la lc lsp ln r.2 1 [(D_a, D_c, p3), (A_a, A_c, order0)] ∧ v = .tuple #[] ∧ Mem w (bs [some B_b, some C_b, some D_b]) [⟨some B_b, 83, [(.slice B_a B_an B_c)]⟩, ⟨some C_b, 2, [(.int .i64 r.1)]⟩, ⟨some D_b, 29, [(.slice la ln lc)]⟩, ⟨lo, 2, row encI64 r.2 lsp⟩] w') := by
  subst A_hn B_hn D_hn
  rw [impl_BestOrder_1] at h
  refine enter (args := [(.slice A_a order0.length A_c), (.pointer (some ⟨B_b, 0, none⟩)), (.pointer (some ⟨C_b, 0, none⟩)), (.pointer (some ⟨D_b, 0, none⟩))]) Try.func63 rfl Try.ntmps63 (by kernel_rfl) (L := [⟨some B_b, 83, [(.slice B_a p1.length B_c)]⟩, ⟨some C_b, 2, [(.int .i64 p2)]⟩, ⟨some D_b, 29, [(.slice D_a p3.length D_c)]⟩]) (W := bs [some B_b, some C_b, some D_b]) hm0 ?_
  refine jc_ghostX 2 encI64 p3 ?_
  refine jc_seq (jc_region (qh [0,0] ?_))
  obtain ⟨t_1, ht_1, h⟩ := bd h
  refine tO (pc 0 (fun w hm => impl_orderCost.calls p1 order0 w _ B_c (hm.exRowW B_h B_ha) rfl (hm.innPass (N := []) B_i [] (by kernel_rfl)) A_c (hm.exRowW A_h A_ha) rfl ht_1) ?_)
  rintro w v w' hm ⟨rfl, hm'⟩
  refine ⟨_, hm.app hm', jkO ?_⟩
  clear hm hm'
  refine qh [0] (qe (jx_then (jc_seq (jc_region (qf [(1, 0), (0, 0), (0, 0), (0, 1), (1, 1), (0, 1), (0, 0)] (qe (jx_then (qi h (fun h => ?_) (fun h => ?_)))))))))
  ·refine jc_region (qh [0,0] (tO (qs 0 [2] (jk_lsN 3 2 encI64 order0 (jkO (tO (qs 0 [1] (jkO (qe (jx_fall ?_))))))))))
   obtain rfl := Option.some.inj h
   exact qr [] (fun w hm => ⟨(none : Option Nat), A_a, A_c, [], order0.length, rfl, ls1, rfl, hm.pk [0, 1, 2, 3]⟩)
  ·refine jc_skip (jx_fall ?_)
   obtain rfl := Option.some.inj h
   exact qr [] (fun w hm => ⟨(none : Option Nat), D_a, D_c, [], p3.length, rfl, ls0, rfl, hm.pk [0, 1, 2, 3]⟩)
/-! ### impl.orders -/
def impl_orders_at_impl_BestOrder_1.k_6 (xs_3 : List Int) (i_5 : Int) : Option (Int × (List Int)) := some (i_5, xs_3)
def impl_orders_at_impl_BestOrder_1.l_11 (self_ : Int → (List Int) → (List (List Int)) → Int → (List Int) → Option (Int × (List Int))) (n0 : Int) (order1 : List Int) (g2c0 : List (List Int)) : ((List Int) × Int × Int) → Option (((List Int) × Int × Int) ⊕ (((List Int) × Int)))
  | (xs_7, i_9, i_10) => (if (decide (i_10 < n0)) = true then (slices_Contains_int64 order1 i_10).bind fun t_13 => (if (!t_13) = true then (slices_Clone_int64 order1).bind fun t_14 => (if t_14.length + ([i_10] : List Int).length ≤ 4294967296 then (self_ n0 (t_14 ++ ([i_10] : List Int)) g2c0 i_9 xs_7).bind fun t_15 => some (.inl (t_15.2, t_15.1, (w64 (i_10 + 1)))) else none) else some (.inl (xs_7, i_9, (w64 (i_10 + 1))))) else some (.inr (xs_7, i_9)))
def impl_orders_at_impl_BestOrder_1.step (self_ : Int → (List Int) → (List (List Int)) → Int → (List Int) → Option (Int × (List Int))) (n0 : Int) (order1 : List Int) (g2c0 : List (List Int)) (g2c1 : Int) (g2c2 : List Int) : Option (Int × (List Int)) := (if ((order1.length : Int) == n0) = true then (impl_BestOrder_1 order1 g2c0 g2c1 g2c2).bind fun t_1 => some (t_1.1, t_1.2) else (loop (impl_orders_at_impl_BestOrder_1.l_11 self_ n0 order1 g2c0) (g2c2, g2c1, 0)).bind fun t_12 => impl_orders_at_impl_BestOrder_1.k_6 t_12.1 t_12.2)
def impl_orders_at_impl_BestOrder_1.rec_ : Nat → Int → (List Int) → (List (List Int)) → Int → (List Int) → Option (Int × (List Int))
  | 0 => fun n0 order1 g2c0 g2c1 g2c2 => none
  | fu + 1 => impl_orders_at_impl_BestOrder_1.step (impl_orders_at_impl_BestOrder_1.rec_ fu)
def impl_orders_at_impl_BestOrder_1 (n0 : Int) (order1 : List Int) (g2c0 : List (List Int)) (g2c1 : Int) (g2c2 : List Int) : Option (Int × (List Int)) := impl_orders_at_impl_BestOrder_1.rec_ 16 n0 order1 g2c0 g2c1 g2c2
theorem impl_orders_at_impl_BestOrder_1.step_calls (self_ : Int → (List Int) → (List (List Int)) → Int → (List Int) → Option (Int × (List Int))) (hself : ∀ (n0 : Int) (order1 : List Int) (g2c0 : List (List Int)) (g2c1 : Int) (g2c2 : List Int) (w : World) (r : Int × (List Int)) {B_a : Option Addr} {B_an : Nat} (B_c : Nat) (B_h : Rw w B_a 1 encI64 order1) (B_hn : order1.length = B_an) {C_a : Option Addr} {C_an : Nat} (C_c : Nat) {C_hs : List Hd} (C_h : Rw w C_a 1 encHd C_hs) (C_hn : g2c0.length = C_an) {E_a : Option Addr} {E_an : Nat} (E_c : Nat) (E_hn : g2c2.length = E_an) (C_b : Nat) (D_b : Nat) (E_b : Nat) (hm0 : Mem w (bs [some C_b, some D_b, some E_b]) [⟨some C_b, 83, [(.slice C_a C_an C_c)]⟩, ⟨some D_b, 2, [(.int .i64 g2c1)]⟩, ⟨some E_b, 29, [(.slice E_a E_an E_c)]⟩] w) (B_ha : order1 ≠ [] → aB B_a ∉ bs [some C_b, some D_b, some E_b]) (C_ha : C_hs ≠ [] → aB C_a ∉ bs [some C_b, some D_b, some E_b]) (C_i : Inn w (bs [some C_b, some D_b, some E_b]) 1 encI64 C_hs g2c0) (h : self_ n0 order1 g2c0 g2c1 g2c2 = some r),
    Calls Try.prog 56 #[(.int .i64 n0), (.slice B_a B_an B_c), (.func (.func 63) #[] #[(.pointer (some ⟨C_b, 0, none⟩)), (.pointer (some ⟨D_b, 0, none⟩)), (.pointer (some ⟨E_b, 0, none⟩))])] w fun e w' => ∃ v, e = .returned v ∧ (∃ (lo : Option Nat) (la : Option Addr) (lc : Nat) (lsp : List Value) (ln : Nat), r.2.length = ln ∧ LsB lo la lc lsp ln r.2 1 [(E_a, E_c, g2c2), (B_a, B_c, order1)] ∧ v = .tuple #[] ∧ Mem w (bs [some C_b, some D_b, some E_b]) [⟨some C_b, 83, [(.slice C_a C_an C_c)]⟩, ⟨some D_b, 2, [(.int .i64 r.1)]⟩, ⟨some E_b, 29, [(.slice la ln lc)]⟩, ⟨lo, 2, row encI64 r.2 lsp⟩] w')) (n0 : Int) (order1 : List Int) (g2c0 : List (List Int)) (g2c1 : Int) (g2c2 : List Int) (w : World) (r : Int × (List Int)) {B_a : Option Addr} {B_an : Nat} (B_c : Nat) (B_h : Rw w B_a 1 encI64 order1) (B_hn : order1.length = B_an) {C_a : Option Addr} {C_an : Nat} (C_c : Nat) {C_hs : List Hd} (C_h : Rw w C_a 1 encHd C_hs) (C_hn : g2c0.length = C_an) {E_a : Option Addr} {E_an : Nat} (E_c : Nat) (E_hn : g2c2.length = E_an) (C_b : Nat) (D_b : Nat) (E_b : Nat) (hm0 : Mem w (bs [some C_b, some D_b, some E_b]) [⟨some C_b, 83, [(.slice C_a C_an C_c)]⟩, ⟨some D_b, 2, [(.int .i64 g2c1)]⟩, ⟨some E_b, 29, [(.slice E_a E_an E_c)]⟩] w) (B_ha : order1 ≠ [] → aB B_a ∉ bs [some C_b, some D_b, some E_b]) (C_ha : C_hs ≠ [] → aB C_a ∉ bs [some C_b, some D_b, some E_b]) (C_i : Inn w (bs [some C_b, some D_b, some E_b]) 1 encI64 C_hs g2c0) (h : impl_orders_at_impl_BestOrder_1.step self_ n0 order1 g2c0 g2c1 g2c2 = some r) :
    Calls Try.prog 56 #[(.int .i64 n0), (.slice B_a B_an B_c), (.func (.func 63) #[] #[(.pointer (some ⟨C_b, 0, none⟩)), (.pointer (some ⟨D_b, 0, none⟩)), (.pointer (some ⟨E_b, 0, none⟩))])] w fun e w' => ∃ v, e = .returned v ∧ (∃ (lo : Option Nat) (la : Option Addr) (lc : Nat) (lsp : List Value) (ln : Nat), r.2.length = ln ∧ LsB lo la lc lsp ln r.2 1 [(E_a, E_c, g2c2), (B_a, B_c, order1)] ∧ v = .tuple #[] ∧ Mem w (bs [some C_b, some D_b, some E_b]) [⟨some C_b, 83, [(.slice C_a C_an C_c)]⟩, ⟨some D_b, 2, [(.int .i64 r.1)]⟩, ⟨some E_b, 29, [(.slice la ln lc)]⟩, ⟨lo, 2, row encI64 r.2 lsp⟩] w') := by
  subst B_hn C_hn E_hn
  rw [impl_orders_at_impl_BestOrder_1.step] at h
  refine enter (args := [(.int .i64 n0), (.slice B_a order1.length B_c), (.func (.func 63) #[] #[(.pointer (some ⟨C_b, 0, none⟩)), (.pointer (some ⟨D_b, 0, none⟩)), (.pointer (some ⟨E_b, 0, none⟩))])]) Try.func56 rfl Try.ntmps56 (by kernel_rfl) (L := [⟨some C_b, 83, [(.slice C_a g2c0.length C_c)]⟩, ⟨some D_b, 2, [(.int .i64 g2c1)]⟩, ⟨some E_b, 29, [(.slice E_a g2c2.length E_c)]⟩]) (W := bs [some C_b, some D_b, some E_b]) hm0 ?_
  refine jc_ghostX 2 encI64 g2c2 ?_
  refine jc_seq (jc_seq (jc_region (qh [0,0,0,0] (qe (jx_then (qi h (fun h => ?_) (fun h => ?_)))))))
  ·refine jc_seq (jc_region (qh [0,0] ?_))
   obtain ⟨t_1, ht_12, h⟩ := bd h
   refine tO (pc 0 (fun w hm => impl_BestOrder_1.calls order1 g2c0 g2c1 g2c2 w _ B_c (hm.exRowW B_h B_ha) rfl C_c (hm.exRowW C_h C_ha) rfl E_c rfl C_b D_b E_b (hm.pass (N := [⟨some C_b, 83, [(.slice C_a g2c0.length C_c)]⟩, ⟨some D_b, 2, [(.int .i64 g2c1)]⟩, ⟨some E_b, 29, [(.slice E_a g2c2.length E_c)]⟩]) [0, 1, 2] (by kernel_rfl) (by kernel_rfl)) (hm.exApart (N := [⟨some C_b, 83, [(.slice C_a g2c0.length C_c)]⟩, ⟨some D_b, 2, [(.int .i64 g2c1)]⟩, ⟨some E_b, 29, [(.slice E_a g2c2.length E_c)]⟩]) B_h B_ha [0, 1, 2] (by kernel_rfl)) (hm.exApart (N := [⟨some C_b, 83, [(.slice C_a g2c0.length C_c)]⟩, ⟨some D_b, 2, [(.int .i64 g2c1)]⟩, ⟨some E_b, 29, [(.slice E_a g2c2.length E_c)]⟩]) C_h C_ha [0, 1, 2] (by kernel_rfl)) (hm.innPass (N := [⟨some C_b, 83, [(.slice C_a g2c0.length C_c)]⟩, ⟨some D_b, 2, [(.int .i64 g2c1)]⟩, ⟨some E_b, 29, [(.slice E_a g2c2.length E_c)]⟩]) C_i [0, 1, 2] (by kernel_rfl)) ht_12) ?_)
   rintro w v w' hm ⟨o_13, a_2, cap_14, sp_15, _, rfl, hl_16, rfl, hm'⟩
   obtain ⟨o_17, sp_18, hl_19, hM_20⟩ := Mem.ls2 (T := 2) (enc := encI64) (o1 := (none : Option Nat)) (sp1 := []) (xs1 := g2c2) (o := o_13) (sp := sp_15) (xs := t_1.2) (F := [(E_a, E_c, g2c2), (B_a, B_c, order1)]) (hm.appW (ps := [(0, ⟨some C_b, 83, [(.slice C_a g2c0.length C_c)]⟩), (1, ⟨some D_b, 2, [(.int .i64 t_1.1)]⟩), (2, ⟨some E_b, 29, [(.slice a_2 t_1.2.length cap_14)]⟩)]) (N := [⟨o_13, 2, row encI64 t_1.2 sp_15⟩]) hm' (by kernel_rfl) (by kernel_rfl)) 3 4 (by kernel_rfl) (by kernel_rfl) (by kernel_rfl) ls0 rfl (.inl (List.mem_cons_of_mem _ List.mem_cons_self)) rfl hl_16
   refine ⟨_, Mem.pick hM_20 (N := [⟨some C_b, 83, [(.slice C_a g2c0.length C_c)]⟩, ⟨some D_b, 2, [(.int .i64 t_1.1)]⟩, ⟨some E_b, 29, [(.slice a_2 t_1.2.length cap_14)]⟩, ⟨o_17, 2, row encI64 t_1.2 sp_18⟩]) [0, 1, 2, 3] (by kernel_rfl) (by kernel_rfl), jkO ?_⟩
   clear hm hm' hM_20
   refine qe (jx_then (jc_ret (jx_thenr ?_)))
   obtain rfl := Option.some.inj h
   exact qr [] (fun w hm => ⟨o_17, a_2, cap_14, sp_18, t_1.2.length, rfl, hl_19, rfl, hm.pk [0, 1, 2, 3]⟩)
  ·refine jc_skip (jx_then (jc_seq (jc_region (qh [0,0] (qe (jx_then (jc_meet (fun (j : (List Int) × Int × (Option Nat) × (Option Addr) × Nat × (List Value) × Nat) => match j with | ⟨xs_3, i_5, o_113, a_4, cap_114, sp_115, n_116⟩ => impl_orders_at_impl_BestOrder_1.k_6 xs_3 i_5 = some r ∧ (xs_3.length = n_116) ∧ (LsB o_113 a_4 cap_114 sp_115 n_116 xs_3 1 [(E_a, E_c, g2c2), (B_a, B_c, order1)])) (fun (j : (List Int) × Int × (Option Nat) × (Option Addr) × Nat × (List Value) × Nat) => match j with | ⟨xs_3, i_5, o_113, a_4, cap_114, sp_115, n_116⟩ => []) (fun (j : (List Int) × Int × (Option Nat) × (Option Addr) × Nat × (List Value) × Nat) => match j with | ⟨xs_3, i_5, o_113, a_4, cap_114, sp_115, n_116⟩ => [⟨some C_b, 83, [(.slice C_a g2c0.length C_c)]⟩, ⟨some D_b, 2, [(.int .i64 i_5)]⟩, ⟨some E_b, 29, [(.slice a_4 n_116 cap_114)]⟩, ⟨o_113, 2, row encI64 xs_3 sp_115⟩]) ?_ ?_)))))))
   ·refine jc_block ?_
    obtain ⟨t_12, ht_209, hr_180⟩ := bd h
    refine jc_loop (fun (s : (List Int) × Int × Int) (x : (Option Nat) × (Option Addr) × Nat × (List Value) × Nat) => match s, x with | ⟨xs_7, i_9, i_10⟩, ⟨o_175, a_8, cap_176, sp_177, n_178⟩ => (xs_7.length = n_178) ∧ (LsB o_175 a_8 cap_176 sp_177 n_178 xs_7 1 [(E_a, E_c, g2c2), (B_a, B_c, order1)])) (fun (s : (List Int) × Int × Int) (x : (Option Nat) × (Option Addr) × Nat × (List Value) × Nat) => match s, x with | ⟨xs_7, i_9, i_10⟩, ⟨o_175, a_8, cap_176, sp_177, n_178⟩ => [(0, [], (.int .i64 n0)), (1, [], (.slice B_a order1.length B_c)), (2, [], (.func (.func 63) #[] #[(.pointer (some ⟨C_b, 0, none⟩)), (.pointer (some ⟨D_b, 0, none⟩)), (.pointer (some ⟨E_b, 0, none⟩))])), (14, [], (.int .i64 n0)), (15, [], (.int .i64 i_10))]) (fun (s : (List Int) × Int × Int) (x : (Option Nat) × (Option Addr) × Nat × (List Value) × Nat) => match s, x with | ⟨xs_7, i_9, i_10⟩, ⟨o_175, a_8, cap_176, sp_177, n_178⟩ => [⟨some C_b, 83, [(.slice C_a g2c0.length C_c)]⟩, ⟨some D_b, 2, [(.int .i64 i_9)]⟩, ⟨some E_b, 29, [(.slice a_8 n_178 cap_176)]⟩, ⟨o_175, 2, row encI64 xs_7 sp_177⟩]) ht_209 ⟨(none : Option Nat), E_a, E_c, [], g2c2.length⟩ ⟨rfl, ls0⟩ (by kernel_rfl) [0, 1, 2, 3] (by kernel_rfl) (by kernel_rfl) ?_
    rintro ⟨xs_7, i_9, i_10⟩ ⟨o_175, a_8, cap_176, sp_177, n_178⟩ y_181 ⟨rfl, hl_179⟩ h
    rw [impl_orders_at_impl_BestOrder_1.l_11] at h
    refine jc_seq (jc_region (qh [0] (qe (jx_then (jc_seq (qi h (fun h => ?_) (fun h => ?_)))))))
    ·refine jc_skip (jx_then (jc_seq (jc_block (jc_seq (jc_region (qh [0,0] (qe (jx_then (jc_seq (jc_region (qh [0,0] ?_)))))))))))
     obtain ⟨t_13, ht_184, h⟩ := bd h
     refine tO (pc 0 (fun w hm => slices_Contains_int64.calls order1 i_10 w _ B_c (hm.exRowW B_h B_ha) rfl ht_184) ?_)
     rintro w v w' hm ⟨rfl, hm'⟩
     refine ⟨_, hm.app hm', jkO ?_⟩
     clear hm hm'
     refine qh [0] (qe (jx_then (qi h (fun h => ?_) (fun h => ?_))))
     ·refine jc_region (qh [0,0] ?_)
      obtain ⟨t_14, ht_186, h⟩ := bd h
      refine tO (pc 0 (fun w hm => slices_Clone_int64.calls order1 w _ B_c (hm.exRowW B_h B_ha) rfl ht_186) ?_)
      rintro w v w' hm ⟨o_187, cap_188, sp_189, _, rfl, hs_190, ho_191, rfl, hm'⟩
      refine ⟨_, hm.app hm', jkO ?_⟩
      clear hm hm'
      refine qh [0] (tO (qa 0 (fun b_192 => jkO ?_)))
      obtain ⟨hg_193, h⟩ := gd h
      refine tO (p_apn 0 4 o_187 2 t_14.length 1 cap_188 1 8 (some ⟨b_192, 0, none⟩) encI64 t_14 ([i_10] : List Int) sp_189 (.int .i64 0) rfl rfl (by kernel_rfl) (by kernel_rfl) (by kernel_rfl) encI64_len encI64_cell hs_190 ho_191 (fun w hm => (hm.ow 5 (some b_192) 2 ([i_10] : List Int) [] (fun e => nomatch e) encI64_len)) hg_193 (by kernel_rfl) (by kernel_rfl) (fun o_194 cap_195 sp_196 hs_197 ho_198 => jkO (qh [0] ?_)))
      obtain ⟨t_15, ht_199, h⟩ := bd h
      refine tO (pc 0 (fun w hm => hself n0 (t_14 ++ ([i_10] : List Int)) g2c0 i_9 xs_7 w _ cap_195 (hm.ow 4 o_194 2 (t_14 ++ ([i_10] : List Int)) sp_196 (fun e => (ho_198 e).1) encI64_len) rfl C_c (hm.exRowW C_h C_ha) rfl cap_176 rfl C_b D_b E_b (hm.pass (N := [⟨some C_b, 83, [(.slice C_a g2c0.length C_c)]⟩, ⟨some D_b, 2, [(.int .i64 i_9)]⟩, ⟨some E_b, 29, [(.slice a_8 xs_7.length cap_176)]⟩]) [0, 1, 2] (by kernel_rfl) (by kernel_rfl)) (hm.ownApart (S := Int) (N := [⟨some C_b, 83, [(.slice C_a g2c0.length C_c)]⟩, ⟨some D_b, 2, [(.int .i64 i_9)]⟩, ⟨some E_b, 29, [(.slice a_8 xs_7.length cap_176)]⟩]) (hh := 4) (o := o_194) (T := 2) (cs := row encI64 (t_14 ++ ([i_10] : List Int)) sp_196) (xs := (t_14 ++ ([i_10] : List Int))) (by kernel_rfl) (fun e => (ho_198 e).1) [0, 1, 2] (by kernel_rfl) (by kernel_rfl)) (hm.exApart (N := [⟨some C_b, 83, [(.slice C_a g2c0.length C_c)]⟩, ⟨some D_b, 2, [(.int .i64 i_9)]⟩, ⟨some E_b, 29, [(.slice a_8 xs_7.length cap_176)]⟩]) C_h C_ha [0, 1, 2] (by kernel_rfl)) (hm.innPass (N := [⟨some C_b, 83, [(.slice C_a g2c0.length C_c)]⟩, ⟨some D_b, 2, [(.int .i64 i_9)]⟩, ⟨some E_b, 29, [(.slice a_8 xs_7.length cap_176)]⟩]) C_i [0, 1, 2] (by kernel_rfl)) ht_199) ?_)
      rintro w v w' hm ⟨o_200, a_16, cap_201, sp_202, _, rfl, hl_203, rfl, hm'⟩
      obtain ⟨o_204, sp_205, hl_206, hM_207⟩ := Mem.ls3 (T := 2) (enc := encI64) (o1 := o_175) (sp1 := sp_177) (xs1 := xs_7) (o := o_200) (sp := sp_202) (xs := t_15.2) (F := [(E_a, E_c, g2c2), (B_a, B_c, order1)]) (o2 := o_194) (sp2 := sp_196) (xs2 := (t_14 ++ ([i_10] : List Int))) (hm.appW (ps := [(0, ⟨some C_b, 83, [(.slice C_a g2c0.length C_c)]⟩), (1, ⟨some D_b, 2, [(.int .i64 t_15.1)]⟩), (2, ⟨some E_b, 29, [(.slice a_16 t_15.2.length cap_201)]⟩)]) (N := [⟨o_200, 2, row encI64 t_15.2 sp_202⟩]) hm' (by kernel_rfl) (by kernel_rfl)) 3 4 6 (by kernel_rfl) (by kernel_rfl) (by kernel_rfl) (by kernel_rfl) hl_179 rfl hs_197 ho_198 rfl rfl hl_203
      refine ⟨_, Mem.pick hM_207 (N := [⟨some C_b, 83, [(.slice C_a g2c0.length C_c)]⟩, ⟨some D_b, 2, [(.int .i64 t_15.1)]⟩, ⟨some E_b, 29, [(.slice a_16 t_15.2.length cap_201)]⟩, ⟨o_204, 2, row encI64 t_15.2 sp_205⟩, ⟨none, 0, []⟩, ⟨(some b_192), 2, row encI64 ([i_10] : List Int) []⟩]) [0, 1, 2, 3, 4, 5] (by kernel_rfl) (by kernel_rfl), jkO ?_⟩
      clear hm hm' hM_207
      exact qe (jx_inn (jx_then (jc_region (qh [0,0] (qe (qb (t_15.2, t_15.1, (w64 (i_10 + 1))) ⟨o_204, a_16, cap_201, sp_205, t_15.2.length⟩ h ⟨rfl, hl_206⟩ [0, 1, 2, 3]))))))
     ·exact jc_skip (jx_inn (jx_then (jc_region (qh [0,0] (qe (qb (xs_7, i_9, (w64 (i_10 + 1))) ⟨o_175, a_8, cap_176, sp_177, xs_7.length⟩ h ⟨rfl, hl_179⟩ [0, 1, 2, 3]))))))
    ·refine jc_exit (jx_thenx (jx_leave (xs_7, i_9) (Option.some.inj h).symm (fun e_208 => ?_)))
     subst e_208
     exact jx_ine (qm ⟨xs_7, i_9, o_175, a_8, cap_176, sp_177, xs_7.length⟩ ⟨hr_180, rfl, hl_179⟩ [0, 1, 2, 3])
   ·rintro ⟨xs_3, i_5, o_113, a_4, cap_114, sp_115, n_116⟩ ⟨h, rfl, hl_117⟩
    replace h : impl_orders_at_impl_BestOrder_1.k_6 xs_3 i_5 = some r := h
    rw [impl_orders_at_impl_BestOrder_1.k_6] at h
    refine jx_fall ?_
    obtain rfl := Option.some.inj h
    exact qr [] (fun w hm => ⟨o_113, a_4, cap_114, sp_115, xs_3.length, rfl, hl_117, rfl, hm.pk [0, 1, 2, 3]⟩)
theorem impl_orders_at_impl_BestOrder_1.rec_calls (fu : Nat) : ∀ (n0 : Int) (order1 : List Int) (g2c0 : List (List Int)) (g2c1 : Int) (g2c2 : List Int) (w : World) (r : Int × (List Int)) {B_a : Option Addr} {B_an : Nat} (B_c : Nat) (B_h : Rw w B_a 1 encI64 order1) (B_hn : order1.length = B_an) {C_a : Option Addr} {C_an : Nat} (C_c : Nat) {C_hs : List Hd} (C_h : Rw w C_a 1 encHd C_hs) (C_hn : g2c0.length = C_an) {E_a : Option Addr} {E_an : Nat} (E_c : Nat) (E_hn : g2c2.length = E_an) (C_b : Nat) (D_b : Nat) (E_b : Nat) (hm0 : Mem w (bs [some C_b, some D_b, some E_b]) [⟨some C_b, 83, [(.slice C_a C_an C_c)]⟩, ⟨some D_b, 2, [(.int .i64 g2c1)]⟩, ⟨some E_b, 29, [(.slice E_a E_an E_c)]⟩] w) (B_ha : order1 ≠ [] → aB B_a ∉ bs [some C_b, some D_b, some E_b]) (C_ha : C_hs ≠ [] → aB C_a ∉ bs [some C_b, some D_b, some E_b]) (C_i : Inn w (bs [some C_b, some D_b, some E_b]) 1 encI64 C_hs g2c0) (h : impl_orders_at_impl_BestOrder_1.rec_ fu n0 order1 g2c0 g2c1 g2c2 = some r),
    Calls Try.prog 56 #[(.int .i64 n0), (.slice B_a B_an B_c), (.func (.func 63) #[] #[(.pointer (some ⟨C_b, 0, none⟩)), (.pointer (some ⟨D_b, 0, none⟩)), (.pointer (some ⟨E_b, 0, none⟩))])] w fun e w' => ∃ v, e = .returned v ∧ (∃ (lo : Option Nat) (la : Option Addr) (lc : Nat) (lsp : List Value) (ln : Nat), r.2.length = ln ∧ LsB lo la lc lsp ln r.2 1 [(E_a, E_c, g2c2), (B_a, B_c, order1)] ∧ v = .tuple #[] ∧ Mem w (bs [some C_b, some D_b, some E_b]) [⟨some C_b, 83, [(.slice C_a C_an C_c)]⟩, ⟨some D_b, 2, [(.int .i64 r.1)]⟩, ⟨some E_b, 29, [(.slice la ln lc)]⟩, ⟨lo, 2, row encI64 r.2 lsp⟩] w') := by
  induction fu with
  | zero => intros; rename_i h; cases h
  | succ fu ih => exact @impl_orders_at_impl_BestOrder_1.step_calls _ (impl_orders_at_impl_BestOrder_1.rec_ fu) @ih
theorem impl_orders_at_impl_BestOrder_1.calls (n0 : Int) (order1 : List Int) (g2c0 : List (List Int)) (g2c1 : Int) (g2c2 : List Int) (w : World) (r : Int × (List Int)) {B_a : Option Addr} {B_an : Nat} (B_c : Nat) (B_h : Rw w B_a 1 encI64 order1) (B_hn : order1.length = B_an) {C_a : Option Addr} {C_an : Nat} (C_c : Nat) {C_hs : List Hd} (C_h : Rw w C_a 1 encHd C_hs) (C_hn : g2c0.length = C_an) {E_a : Option Addr} {E_an : Nat} (E_c : Nat) (E_hn : g2c2.length = E_an) (C_b : Nat) (D_b : Nat) (E_b : Nat) (hm0 : Mem w (bs [some C_b, some D_b, some E_b]) [⟨some C_b, 83, [(.slice C_a C_an C_c)]⟩, ⟨some D_b, 2, [(.int .i64 g2c1)]⟩, ⟨some E_b, 29, [(.slice E_a E_an E_c)]⟩] w) (B_ha : order1 ≠ [] → aB B_a ∉ bs [some C_b, some D_b, some E_b]) (C_ha : C_hs ≠ [] → aB C_a ∉ bs [some C_b, some D_b, some E_b]) (C_i : Inn w (bs [some C_b, some D_b, some E_b]) 1 encI64 C_hs g2c0) (h : impl_orders_at_impl_BestOrder_1 n0 order1 g2c0 g2c1 g2c2 = some r) :
    Calls Try.prog 56 #[(.int .i64 n0), (.slice B_a B_an B_c), (.func (.func 63) #[] #[(.pointer (some ⟨C_b, 0, none⟩)), (.pointer (some ⟨D_b, 0, none⟩)), (.pointer (some ⟨E_b, 0, none⟩))])] w fun e w' => ∃ v, e = .returned v ∧ (∃ (lo : Option Nat) (la : Option Addr) (lc : Nat) (lsp : List Value) (ln : Nat), r.2.length = ln ∧ LsB lo la lc lsp ln r.2 1 [(E_a, E_c, g2c2), (B_a, B_c, order1)] ∧ v = .tuple #[] ∧ Mem w (bs [some C_b, some D_b, some E_b]) [⟨some C_b, 83, [(.slice C_a C_an C_c)]⟩, ⟨some D_b, 2, [(.int .i64 r.1)]⟩, ⟨some E_b, 29, [(.slice la ln lc)]⟩, ⟨lo, 2, row encI64 r.2 lsp⟩] w') :=
  impl_orders_at_impl_BestOrder_1.rec_calls 16 n0 order1 g2c0 g2c1 g2c2 w r B_c B_h B_hn C_c C_h C_hn E_c E_hn C_b D_b E_b hm0 B_ha C_ha C_i h
/-! ### impl.BestOrder -/
def impl_BestOrder (f0 : GFrame) (list1 : List (Arr 96 Int)) (first2 : Int) : Option ((List Int) × Int × Int) := (impl_startCode f0 list1 first2).bind fun t_1 => (if (t_1 != 0) = true then some ([], 0, t_1) else (impl_costs list1).bind fun t_2 => (impl_begun first2).bind fun t_3 => (impl_orders_at_impl_BestOrder_1 (list1.length : Int) t_3 t_2 (-1) ([] : List Int)).bind fun t_4 => some (t_4.2, t_4.1, 0))
theorem impl_BestOrder.calls (f0 : GFrame) (list1 : List (Arr 96 Int)) (first2 : Int) (w : World) (r : (List Int) × Int × Int) {C_a : Option Addr} {C_an : Nat} (C_c : Nat) (C_h : Rw w C_a 2 encGHammer f0.fHammers) (C_hn : f0.fHammers.length = C_an) {D_a : Option Addr} {D_an : Nat} (D_c : Nat) (D_h : Rw w D_a 96 encA96U32 list1) (D_hn : list1.length = D_an) (h : impl_BestOrder f0 list1 first2 = some r) :
    Calls Try.prog 24 #[(.agg #[(.int .i16 f0.fSteps), (.slice C_a C_an C_c)]), (.slice D_a D_an D_c), (.int .i64 first2)] w fun e w' => ∃ v, e = .returned v ∧ (∃ (o0 : Option Nat) (c0 : Nat) (s0 : List Value) (n0 : Nat), r.1.length = n0 ∧ (o0 ≠ none → n0 ≤ c0 ∧ s0.length = (c0 - n0) * 1) ∧ (o0 = none → r.1 = [] ∧ c0 = 0) ∧ v = .tuple #[.slice (o0.map fun b => ⟨b, 0, none⟩) n0 c0, (.int .i64 r.2.1), (.int .i64 r.2.2)] ∧ Mem w [] [⟨o0, 2, row encI64 r.1 s0⟩] w') := by
  subst C_hn D_hn
  rw [impl_BestOrder] at h
  refine enter (args := [(.agg #[(.int .i16 f0.fSteps), (.slice C_a f0.fHammers.length C_c)]), (.slice D_a list1.length D_c), (.int .i64 first2)]) Try.func24 rfl Try.ntmps24 (by kernel_rfl) (L := []) (W := []) (Mem.start w) ?_
  refine jc_seq (jc_region (tO (qa 0 (fun b_1 => jkO (qh [0,0,0] (qe (jx_then (jc_seq (jc_seq (jc_region (qh [0,0,0] ?_)))))))))))
  obtain ⟨t_1, ht_4, h⟩ := bd h
  refine tO (pc 0 (fun w hm => impl_startCode.calls f0 list1 first2 w _ C_c (hm.xr C_h) rfl D_c (hm.xr D_h) rfl ht_4) ?_)
  rintro w v w' hm ⟨rfl, hm'⟩
  refine ⟨_, hm.app hm', jkO ?_⟩
  clear hm hm'
  refine qh [0] (qe (jx_then (jc_seq (jc_region (qh [0,0] (qe (jx_then (qi h (fun h => ?_) (fun h => ?_)))))))))
  ·refine jc_seq (jc_region (qh [0,0,0,0] (qe (jx_then (jc_ret (jx_thenr ?_))))))
   obtain rfl := Option.some.inj h
   exact jx_ghost 2 encI64 (qr [] (fun w hm => ⟨none, 0, [], 0, rfl, (fun e => absurd rfl e), (fun _ => ⟨rfl, rfl⟩), rfl, hm.pk [1]⟩))
  ·refine jc_skip (jx_then (jc_seq (jc_region (qh [0] ?_))))
   obtain ⟨t_2, ht_6, h⟩ := bd h
   refine tO (pc 0 (fun w hm => impl_costs.calls list1 w _ D_c (hm.xr D_h) rfl ht_6) ?_)
   rintro w v w' hm ⟨o_7, cap_8, sp_9, _, hh_12, hI_13, rfl, hs_10, ho_11, rfl, hm'⟩
   refine ⟨_, hm.app hm', jkO ?_⟩
   clear hm hm'
   refine tO (qa 0 (fun b_14 => jk_ghost 29 encHd (jk_clu encI64 (jkO (tO (qa 0 (fun b_15 => jkO (tO (qa 0 (fun b_16 => jkO (tO (qs 0 [3] (jkO (tO (qs 0 [6] (jkO (tO (qs 0 [7] (jkO (qe (jx_then (jc_seq (jc_region (qh [0,0,0] ?_))))))))))))))))))))))))
   obtain ⟨t_3, ht_17, h⟩ := bd h
   refine tO (pc 0 (fun w hm => impl_begun.calls first2 w _ ht_17) ?_)
   rintro w v w' hm ⟨o_18, cap_19, sp_20, _, rfl, hs_21, ho_22, rfl, hm'⟩
   refine ⟨_, hm.app hm', jkO ?_⟩
   clear hm hm'
   refine qh [0] ?_
   obtain ⟨t_4, ht_23, h⟩ := bd h
   refine tO (jp_ghost 2 encI64 (pc 0 (fun w hm => impl_orders_at_impl_BestOrder_1.calls (list1.length : Int) t_3 t_2 (-1) ([] : List Int) w _ cap_19 (hm.ow 8 o_18 2 t_3 sp_20 (fun e => (ho_22 e).1) encI64_len) rfl cap_8 (hm.ow 1 o_7 29 hh_12 sp_9 (fun e => (ho_11 e).1) encHd_len) (hI_13.1.symm.trans rfl) 0 rfl b_14 b_16 b_15 (hm.pass (N := [⟨some b_14, 83, [(.slice (o_7.map fun b => ⟨b, 0, none⟩) hh_12.length cap_8)]⟩, ⟨some b_16, 2, [(.int .i64 (-1))]⟩, ⟨some b_15, 29, [(.slice ((none : Option Nat).map fun b => ⟨b, 0, none⟩) 0 0)]⟩]) [3, 7, 6] (by kernel_rfl) (by kernel_rfl)) (hm.ownApart (S := Int) (N := [⟨some b_14, 83, [(.slice (o_7.map fun b => ⟨b, 0, none⟩) hh_12.length cap_8)]⟩, ⟨some b_16, 2, [(.int .i64 (-1))]⟩, ⟨some b_15, 29, [(.slice ((none : Option Nat).map fun b => ⟨b, 0, none⟩) 0 0)]⟩]) (hh := 8) (o := o_18) (T := 2) (cs := row encI64 t_3 sp_20) (xs := t_3) (by kernel_rfl) (fun e => (ho_22 e).1) [3, 7, 6] (by kernel_rfl) (by kernel_rfl)) (hm.ownApart (S := Hd) (N := [⟨some b_14, 83, [(.slice (o_7.map fun b => ⟨b, 0, none⟩) hh_12.length cap_8)]⟩, ⟨some b_16, 2, [(.int .i64 (-1))]⟩, ⟨some b_15, 29, [(.slice ((none : Option Nat).map fun b => ⟨b, 0, none⟩) 0 0)]⟩]) (hh := 1) (o := o_7) (T := 29) (cs := row encHd hh_12 sp_9) (xs := hh_12) (by kernel_rfl) (fun e => (ho_11 e).1) [3, 7, 6] (by kernel_rfl) (by kernel_rfl)) (hm.cluPass (N := [⟨some b_14, 83, [(.slice (o_7.map fun b => ⟨b, 0, none⟩) hh_12.length cap_8)]⟩, ⟨some b_16, 2, [(.int .i64 (-1))]⟩, ⟨some b_15, 29, [(.slice ((none : Option Nat).map fun b => ⟨b, 0, none⟩) 0 0)]⟩]) 2 hI_13 encI64_len [3, 7, 6]) ht_23) ?_))
   rintro w v w' hm ⟨o_24, a_5, cap_25, sp_26, _, rfl, hl_27, rfl, hm'⟩
   obtain ⟨o_28, sp_29, hl_30, hM_31⟩ := Mem.ls3 (T := 2) (enc := encI64) (o1 := (none : Option Nat)) (sp1 := []) (xs1 := ([] : List Int)) (o := o_24) (sp := sp_26) (xs := t_4.2) (F := []) (o2 := o_18) (sp2 := sp_20) (xs2 := t_3) (hm.appW (ps := [(3, ⟨some b_14, 83, [(.slice (o_7.map fun b => ⟨b, 0, none⟩) hh_12.length cap_8)]⟩), (7, ⟨some b_16, 2, [(.int .i64 t_4.1)]⟩), (6, ⟨some b_15, 29, [(.slice a_5 t_4.2.length cap_25)]⟩)]) (N := [⟨o_24, 2, row encI64 t_4.2 sp_26⟩]) hm' (by kernel_rfl) (by kernel_rfl)) 9 8 10 (by kernel_rfl) (by kernel_rfl) (by kernel_rfl) (by kernel_rfl) (lsO (fun e => absurd rfl e) (fun _ => ⟨rfl, rfl⟩)) rfl hs_21 ho_22 rfl rfl hl_27
   obtain ⟨rfl, hs_32, ho_33⟩ := hl_30.own
   refine ⟨_, Mem.pick hM_31 (N := [⟨some b_1, 34, [(.int .i16 f0.fSteps), (.slice C_a f0.fHammers.length C_c)]⟩, ⟨o_7, 29, row encHd hh_12 sp_9⟩, ⟨none, CLU, cluC encI64 hh_12 t_2⟩, ⟨some b_14, 83, [(.slice (o_7.map fun b => ⟨b, 0, none⟩) hh_12.length cap_8)]⟩, ⟨(none : Option Nat), 29, row encHd ([] : List Hd) []⟩, ⟨none, CLU, cluC encI64 ([] : List Hd) ([] : List (List Int))⟩, ⟨some b_15, 29, [(.slice (o_28.map fun b => ⟨b, 0, none⟩) t_4.2.length cap_25)]⟩, ⟨some b_16, 2, [(.int .i64 t_4.1)]⟩, ⟨none, 0, []⟩, ⟨o_28, 2, row encI64 t_4.2 sp_29⟩]) [0, 1, 2, 3, 4, 5, 6, 7, 8, 9] (by kernel_rfl) (by kernel_rfl), jkO ?_⟩
   clear hm hm' hM_31
   refine qe (jx_then (jc_seq (qg [⟨some b_1, 34, [(.int .i16 f0.fSteps), (.slice C_a f0.fHammers.length C_c)]⟩, ⟨o_7, 29, row encHd hh_12 sp_9⟩, ⟨none, CLU, cluC encI64 hh_12 t_2⟩, ⟨some b_14, 83, [(.slice (o_7.map fun b => ⟨b, 0, none⟩) hh_12.length cap_8)]⟩, ⟨(none : Option Nat), 29, row encHd ([] : List Hd) []⟩, ⟨none, CLU, cluC encI64 ([] : List Hd) ([] : List (List Int))⟩, ⟨some b_15, 29, [(.slice (o_28.map fun b => ⟨b, 0, none⟩) t_4.2.length cap_25)]⟩, ⟨some b_16, 2, [(.int .i64 t_4.1)]⟩, ⟨none, 0, []⟩, ⟨o_28, 2, row encI64 t_4.2 sp_29⟩] 5 (qd [⟨0, 6, 0⟩,⟨1, 7, 0⟩,⟨2, 0, 0⟩,⟨3, 0, 0⟩,⟨4, 0, 0⟩] 0 [0, 1, 2, 3, 4, 5, 6, 7, 8, 9] (qz (jx_then (jc_ret ?_)))))))
   obtain rfl := Option.some.inj h
   exact qr [] (fun w hm => ⟨o_28, cap_25, sp_29, t_4.2.length, rfl, hs_32, ho_33, rfl, hm.pk [9]⟩)
/-! ### laws.FnExactBestOrder -/
def laws_FnExactBestOrder.k_17 (aF0 : GFrame) (aList1 : List (Arr 96 Int)) (aFirst2 : Int) (t_5 : (List Int) × Int × Int) (t_8 : (List Int) × Int × Int) (q_16 : Bool) : Option (Bool) := (if q_16 = true then some false else (laws_markInt64S t_8.1 1).bind fun t_18 => (laws_heldInt64S t_18.2 1).bind fun t_19 => (if (decide (t_19 < 0)) = true then some false else (if (t_19 != t_18.1) = true then some false else (laws_toFrame aF0).bind fun t_20 => (laws_toDrumS aList1).bind fun t_21 => (impl_BestOrder t_20 t_21 aFirst2).bind fun t_22 => (laws_eqInt64S t_22.1 t_5.1).bind fun t_23 => (if (((!t_23) || (t_22.2.1 != t_5.2.1)) || (t_22.2.2 != t_5.2.2)) = true then some false else (laws_heldInt64S t_18.2 1).bind fun t_24 => (if (decide (t_24 < 0)) = true then some false else (if (t_24 != t_18.1) = true then some false else some true))))))
def laws_FnExactBestOrder (aF0 : GFrame) (aList1 : List (Arr 96 Int)) (aFirst2 : Int) : Option (Bool) := (laws_szFrame aF0 1048576).bind fun t_1 => (if (decide (t_1 < 0)) = true then some true else (laws_szDrumS aList1 t_1).bind fun t_2 => (if (decide (t_2 < 0)) = true then some true else (laws_toFrame aF0).bind fun t_3 => (laws_toDrumS aList1).bind fun t_4 => (spec_BestOrder t_3 t_4 aFirst2).bind fun t_5 => (laws_toFrame aF0).bind fun t_6 => (laws_toDrumS aList1).bind fun t_7 => (impl_BestOrder t_6 t_7 aFirst2).bind fun t_8 => (laws_eqInt64S t_8.1 t_5.1).bind fun t_9 => (if (((!t_9) || (t_8.2.1 != t_5.2.1)) || (t_8.2.2 != t_5.2.2)) = true then some false else (laws_toFrame aF0).bind fun t_10 => (laws_eqFrame t_6 t_10).bind fun t_11 => (if (!t_11) = true then some false else (laws_toDrumS aList1).bind fun t_12 => (laws_eqDrumS t_7 t_12).bind fun t_13 => (if (!t_13) = true then some false else (laws_markFrame t_6 1).bind fun t_14 => (laws_markDrumS t_7 t_14.1).bind fun t_15 => (if (decide (t_15.1 < 0)) = true then laws_FnExactBestOrder.k_17 aF0 aList1 aFirst2 t_5 t_8 true else (laws_eqInt64S t_8.1 t_5.1).bind fun t_25 => laws_FnExactBestOrder.k_17 aF0 aList1 aFirst2 t_5 t_8 (((!t_25) || (t_8.2.1 != t_5.2.1)) || (t_8.2.2 != t_5.2.2))))))))
set_option maxHeartbeats 8000000 in
theorem laws_FnExactBestOrder.calls (aF0 : GFrame) (aList1 : List (Arr 96 Int)) (aFirst2 : Int) (w : World) (r : Bool) {C_a : Option Addr} {C_an : Nat} (C_c : Nat) (C_h : Rw w C_a 2 encGHammer aF0.fHammers) (C_hn : aF0.fHammers.length = C_an) {D_a : Option Addr} {D_an : Nat} (D_c : Nat) (D_h : Rw w D_a 96 encA96U32 aList1) (D_hn : aList1.length = D_an) (h : laws_FnExactBestOrder aF0 aList1 aFirst2 = some r) :
    Calls Try.prog 4 #[(.agg #[(.int .i16 aF0.fSteps), (.slice C_a C_an C_c)]), (.slice D_a D_an D_c), (.int .i64 aFirst2)] w fun e w' => ∃ v, e = .returned v ∧ (v = (.bool r) ∧ Mem w [] [] w') := by
  subst C_hn D_hn
  rw [laws_FnExactBestOrder] at h
  refine enter (args := [(.agg #[(.int .i16 aF0.fSteps), (.slice C_a aF0.fHammers.length C_c)]), (.slice D_a aList1.length D_c), (.int .i64 aFirst2)]) Try.func4 rfl Try.ntmps4 (by kernel_rfl) (L := []) (W := []) (Mem.start w) ?_
  refine jc_seq (jc_region (tO (qa 0 (fun b_1 => jkO (qh [0] (qe (jx_then (jc_seq (jc_region (qh [0] (qe (jx_then (jc_seq (jc_region (qh [0,0] ?_)))))))))))))))
  obtain ⟨t_1, ht_2, h⟩ := bd h
  refine tO (pc 0 (fun w hm => laws_szFrame.calls aF0 1048576 w _ C_c (hm.xr C_h) rfl ht_2) ?_)
  rintro w v w' hm ⟨rfl, hm'⟩
  refine ⟨_, hm.app hm', jkO ?_⟩
  clear hm hm'
  refine qh [0] (qe (jx_then (jc_seq (jc_seq (jc_region (qh [0,0] (qe (jx_then (qi h (fun h => ?_) (fun h => ?_))))))))))
  ·refine jc_seq (jc_region (qh [0] (qe (jx_then (jc_ret (jx_thenr ?_))))))
   obtain rfl := Option.some.inj h
   exact qr [] (fun w hm => ⟨rfl, hm.pk []⟩)
  ·refine jc_skip (jx_then (jc_seq (jc_region (qh [0,0] ?_))))
   obtain ⟨t_2, ht_5, h⟩ := bd h
   refine tO (pc 0 (fun w hm => laws_szDrumS.calls aList1 t_1 w _ D_c (hm.xr D_h) rfl ht_5) ?_)
   rintro w v w' hm ⟨rfl, hm'⟩
   refine ⟨_, hm.app hm', jkO ?_⟩
   clear hm hm'
   refine qh [0] (qe (jx_then (jc_seq (jc_seq (jc_region (qh [0,0] (qe (jx_then (qi h (fun h => ?_) (fun h => ?_))))))))))
   ·refine jc_seq (jc_region (qh [0] (qe (jx_then (jc_ret (jx_thenr ?_))))))
    obtain rfl := Option.some.inj h
    exact qr [] (fun w hm => ⟨rfl, hm.pk []⟩)
   ·refine jc_skip (jx_then (jc_seq (jc_region (qh [0] ?_))))
    obtain ⟨t_3, ht_8, h⟩ := bd h
    refine tO (pc 0 (fun w hm => laws_toFrame.calls aF0 w _ C_c (hm.xr C_h) rfl ht_8) ?_)
    rintro w v w' hm ⟨o_9, cap_10, sp_11, _, rfl, hs_12, ho_13, rfl, hm'⟩
    refine ⟨_, hm.app hm', jkO ?_⟩
    clear hm hm'
    refine qh [0] ?_
    obtain ⟨t_4, ht_14, h⟩ := bd h
    refine tO (pc 0 (fun w hm => laws_toDrumS.calls aList1 w _ D_c (hm.xr D_h) rfl ht_14) ?_)
    rintro w v w' hm ⟨o_15, cap_16, sp_17, _, rfl, hs_18, ho_19, rfl, hm'⟩
    refine ⟨_, hm.app hm', jkO ?_⟩
    clear hm hm'
    refine qh [0] ?_
    obtain ⟨t_5, ht_20, h⟩ := bd h
    refine tO (pc 0 (fun w hm => spec_BestOrder.calls t_3 t_4 aFirst2 w _ cap_10 (hm.ow 1 o_9 110 t_3.fHammers sp_11 (fun e => (ho_13 e).1) encGHammer_len) rfl cap_16 (hm.ow 2 o_15 88 t_4 sp_17 (fun e => (ho_19 e).1) encA96U32_len) rfl ht_20) ?_)
    rintro w v w' hm ⟨o_21, cap_22, sp_23, _, rfl, hs_24, ho_25, rfl, hm'⟩
    refine ⟨_, hm.app hm', jkO ?_⟩
    clear hm hm'
    refine qh [0,0,0,0,0,0,0] (qe (jx_then (jc_seq (jc_region (qh [0] ?_)))))
    obtain ⟨t_6, ht_26, h⟩ := bd h
    refine tO (pc 0 (fun w hm => laws_toFrame.calls aF0 w _ C_c (hm.xr C_h) rfl ht_26) ?_)
    rintro w v w' hm ⟨o_27, cap_28, sp_29, _, rfl, hs_30, ho_31, rfl, hm'⟩
    refine ⟨_, hm.app hm', jkO ?_⟩
    clear hm hm'
    refine tO (qa 0 (fun b_32 => jkO (tO (qs 0 [5] (jkO (qe (jx_then (jc_seq (jc_region (qh [0] ?_))))))))))
    obtain ⟨t_7, ht_33, h⟩ := bd h
    refine tO (pc 0 (fun w hm => laws_toDrumS.calls aList1 w _ D_c (hm.xr D_h) rfl ht_33) ?_)
    rintro w v w' hm ⟨o_34, cap_35, sp_36, _, rfl, hs_37, ho_38, rfl, hm'⟩
    refine ⟨_, hm.app hm', jkO ?_⟩
    clear hm hm'
    refine qh [0] (qe (jx_then (jc_seq (jc_region (qh [5,0,0] ?_)))))
    obtain ⟨t_8, ht_39, h⟩ := bd h
    refine tO (pc 0 (fun w hm => impl_BestOrder.calls t_6 t_7 aFirst2 w _ cap_28 (hm.ow 4 o_27 110 t_6.fHammers sp_29 (fun e => (ho_31 e).1) encGHammer_len) rfl cap_35 (hm.ow 6 o_34 88 t_7 sp_36 (fun e => (ho_38 e).1) encA96U32_len) rfl ht_39) ?_)
    rintro w v w' hm ⟨o_40, cap_41, sp_42, _, rfl, hs_43, ho_44, rfl, hm'⟩
    refine ⟨_, hm.app hm', jkO ?_⟩
    clear hm hm'
    refine qh [0,0,0,0,0,0,0] (qe (jx_then (jc_seq (jc_seq (jc_region (qh [0,0] ?_))))))
    obtain ⟨t_9, ht_49, h⟩ := bd h
    refine tO (pc 0 (fun w hm => laws_eqInt64S.calls t_8.1 t_5.1 w _ cap_41 (hm.ow 7 o_40 2 t_8.1 sp_42 (fun e => (ho_44 e).1) encI64_len) rfl cap_22 (hm.ow 3 o_21 2 t_5.1 sp_23 (fun e => (ho_25 e).1) encI64_len) rfl ht_49) ?_)
    rintro w v w' hm ⟨rfl, hm'⟩
    refine ⟨_, hm.app hm', jkO ?_⟩
    clear hm hm'
    refine qf [(0, 0), (0, 0), (0, 1), (0, 1), (0, 1), (0, 0), (0, 0), (0, 1), (0, 1), (0, 1), (0, 0)] (qe (jx_then (qi h (fun h => ?_) (fun h => ?_))))
    ·refine jc_seq (jc_region (qh [0] (qe (jx_then (jc_ret (jx_thenr ?_))))))
     obtain rfl := Option.some.inj h
     exact qr [] (fun w hm => ⟨rfl, hm.pk []⟩)
    ·refine jc_skip (jx_then (jc_seq (jc_seq (qg [⟨some b_1, 25, [(.int .i16 aF0.fSteps), (.slice C_a aF0.fHammers.length C_c)]⟩, ⟨o_9, 110, row encGHammer t_3.fHammers sp_11⟩, ⟨o_15, 88, row encA96U32 t_4 sp_17⟩, ⟨o_21, 2, row encI64 t_5.1 sp_23⟩, ⟨o_27, 110, row encGHammer t_6.fHammers sp_29⟩, ⟨some b_32, 34, [(.int .i16 t_6.fSteps), (.slice (o_27.map fun b => ⟨b, 0, none⟩) t_6.fHammers.length cap_28)]⟩, ⟨o_34, 88, row encA96U32 t_7 sp_36⟩, ⟨o_40, 2, row encI64 t_8.1 sp_42⟩] 5 (qd [⟨0, 5, 0⟩,⟨1, 0, 0⟩] 3 [0, 1, 2, 3, 4, 5, 6, 7] ?_)))))
     obtain ⟨t_10, ht_73, h⟩ := bd h
     refine tD 2 (pc 0 (fun w hm => laws_toFrame.calls aF0 w _ C_c (hm.xr C_h) rfl ht_73) ?_)
     rintro w v w' hm ⟨o_74, cap_75, sp_76, _, rfl, hs_77, ho_78, rfl, hm'⟩
     refine ⟨_, hm.app hm', kD [0, 1, 2, 3, 4, 5, 6, 7] ?_⟩
     clear hm hm'
     obtain ⟨t_11, ht_79, h⟩ := bd h
     refine tD 3 (pc 0 (fun w hm => laws_eqFrame.calls t_6 t_10 w _ cap_28 (hm.ow 4 o_27 110 t_6.fHammers sp_29 (fun e => (ho_31 e).1) encGHammer_len) rfl cap_75 (hm.ow 8 o_74 110 t_10.fHammers sp_76 (fun e => (ho_78 e).1) encGHammer_len) rfl ht_79) ?_)
     rintro w v w' hm ⟨rfl, hm'⟩
     refine ⟨_, hm.app hm', kD [0, 1, 2, 3, 4, 5, 6, 7] ?_⟩
     clear hm hm'
     refine qd [⟨4, 0, 0⟩] 0 [0, 1, 2, 3, 4, 5, 6, 7] (qz (jx_then (qi h (fun h => ?_) (fun h => ?_))))
     ·refine jc_seq (jc_region (qh [0] (qe (jx_then (jc_ret (jx_thenr ?_))))))
      obtain rfl := Option.some.inj h
      exact qr [] (fun w hm => ⟨rfl, hm.pk []⟩)
     ·refine jc_skip (jx_then (jc_seq (jc_seq (jc_region (qh [0,0] ?_)))))
      obtain ⟨t_12, ht_89, h⟩ := bd h
      refine tO (pc 0 (fun w hm => laws_toDrumS.calls aList1 w _ D_c (hm.xr D_h) rfl ht_89) ?_)
      rintro w v w' hm ⟨o_90, cap_91, sp_92, _, rfl, hs_93, ho_94, rfl, hm'⟩
      refine ⟨_, hm.app hm', jkO ?_⟩
      clear hm hm'
      obtain ⟨t_13, ht_95, h⟩ := bd h
      refine tO (pc 0 (fun w hm => laws_eqDrumS.calls t_7 t_12 w _ cap_35 (hm.ow 6 o_34 88 t_7 sp_36 (fun e => (ho_38 e).1) encA96U32_len) rfl cap_91 (hm.ow 9 o_90 88 t_12 sp_92 (fun e => (ho_94 e).1) encA96U32_len) rfl ht_95) ?_)
      rintro w v w' hm ⟨rfl, hm'⟩
      refine ⟨_, hm.app hm', jkO ?_⟩
      clear hm hm'
      refine qh [0] (qe (jx_then (qi h (fun h => ?_) (fun h => ?_))))
      ·refine jc_seq (jc_region (qh [0] (qe (jx_then (jc_ret (jx_thenr ?_))))))
       obtain rfl := Option.some.inj h
       exact qr [] (fun w hm => ⟨rfl, hm.pk []⟩)
      ·refine jc_skip (jx_then (jc_seq (jc_region (qh [0] (qe (jx_then (jc_seq (jc_region (qh [5,0] ?_)))))))))
       obtain ⟨t_14, ht_97, h⟩ := bd h
       refine tO (pc 0 (fun w hm => laws_markFrame.calls t_6 1 w _ o_27 rfl hs_30 ho_31 (hm.pass (N := [⟨o_27, 110, row encGHammer t_6.fHammers sp_29⟩]) [4] (by kernel_rfl) (by kernel_rfl)) ht_97) ?_)
       rintro w v w' hm ⟨hn_98, ho_99, rfl, hm'⟩
       refine ⟨_, hm.appW (ps := [(4, ⟨o_27, 110, row encGHammer t_14.2 sp_29⟩)]) (N := []) hm' (by kernel_rfl) (by kernel_rfl), jkO ?_⟩
       clear hm hm'
       refine qh [0] (qe (jx_then (jc_seq (jc_region (qh [0,0] ?_)))))
       obtain ⟨t_15, ht_100, h⟩ := bd h
       refine tO (pc 0 (fun w hm => laws_markDrumS.calls t_7 t_14.1 w _ o_34 rfl hs_37 ho_38 (hm.pass (N := [⟨o_34, 88, row encA96U32 t_7 sp_36⟩]) [6] (by kernel_rfl) (by kernel_rfl)) ht_100) ?_)
       rintro w v w' hm ⟨hn_101, ho_102, rfl, hm'⟩
       refine ⟨_, hm.appW (ps := [(6, ⟨o_34, 88, row encA96U32 t_15.2 sp_36⟩)]) (N := []) hm' (by kernel_rfl) (by kernel_rfl), jkO ?_⟩
       clear hm hm'
       refine qh [0] (qe (jx_then (jc_seq (jc_seq (jc_meet (fun (j : Bool) => match j with | q_16 => laws_FnExactBestOrder.k_17 aF0 aList1 aFirst2 t_5 t_8 q_16 = some r) (fun (j : Bool) => match j with | q_16 => [(1, [], (.slice D_a aList1.length D_c)), (2, [], (.int .i64 aFirst2)), (3, [], (.pointer (some ⟨b_1, 0, none⟩))), (6, [], (.bool false)), (8, [], (.slice (o_21.map fun b => ⟨b, 0, none⟩) t_5.1.length cap_22)), (9, [], (.int .i64 t_5.2.1)), (10, [], (.int .i64 t_5.2.2)), (13, [], (.slice (o_40.map fun b => ⟨b, 0, none⟩) t_8.1.length cap_41)), (101, [], (.bool q_16))]) (fun (j : Bool) => match j with | q_16 => [⟨some b_1, 25, [(.int .i16 aF0.fSteps), (.slice C_a aF0.fHammers.length C_c)]⟩, ⟨o_9, 110, row encGHammer t_3.fHammers sp_11⟩, ⟨o_15, 88, row encA96U32 t_4 sp_17⟩, ⟨o_21, 2, row encI64 t_5.1 sp_23⟩, ⟨o_27, 110, row encGHammer t_14.2 sp_29⟩, ⟨some b_32, 34, [(.int .i16 t_6.fSteps), (.slice (o_27.map fun b => ⟨b, 0, none⟩) t_6.fHammers.length cap_28)]⟩, ⟨o_34, 88, row encA96U32 t_15.2 sp_36⟩, ⟨o_40, 2, row encI64 t_8.1 sp_42⟩, ⟨o_74, 110, row encGHammer t_10.fHammers sp_76⟩, ⟨o_90, 88, row encA96U32 t_12 sp_92⟩]) ?_ ?_)))))
       ·refine jc_region (qf [(0, 0), (0, 0), (0, 0), (0, 1), (0, 1)] (qp 86 h (fun h => ?_) (fun h => ?_)))
        ·exact qf [(0, 3), (0, 3), (0, 4), (0, 0), (0, 3), (0, 3), (0, 3), (0, 4), (0, 0), (0, 3), (0, 3), (0, 3), (0, 4)] (qe (qm true h [0, 1, 2, 3, 4, 5, 6, 7, 8, 9]))
        ·obtain ⟨t_25, ht_148, h⟩ := bd h
         refine tO (pc 2 (fun w hm => laws_eqInt64S.calls t_8.1 t_5.1 w _ cap_41 (hm.ow 7 o_40 2 t_8.1 sp_42 (fun e => (ho_44 e).1) encI64_len) rfl cap_22 (hm.ow 3 o_21 2 t_5.1 sp_23 (fun e => (ho_25 e).1) encI64_len) rfl ht_148) ?_)
         rintro w v w' hm ⟨rfl, hm'⟩
         refine ⟨_, hm.app hm', jkO ?_⟩
         clear hm hm'
         exact qf [(0, 2), (0, 5), (0, 0), (0, 1), (0, 1), (0, 1), (0, 0), (0, 0), (0, 1), (0, 1), (0, 1), (0, 0)] (qe (qm (((!t_25) || (t_8.2.1 != t_5.2.1)) || (t_8.2.2 != t_5.2.2)) h [0, 1, 2, 3, 4, 5, 6, 7, 8, 9]))
       ·rintro q_16 h
        replace h : laws_FnExactBestOrder.k_17 aF0 aList1 aFirst2 t_5 t_8 q_16 = some r := h
        rw [laws_FnExactBestOrder.k_17] at h
        refine jx_then (qi h (fun h => ?_) (fun h => ?_))
        ·refine jc_seq (jc_region (qh [0] (qe (jx_then (jc_ret (jx_thenr ?_))))))
         obtain rfl := Option.some.inj h
         exact qr [] (fun w hm => ⟨rfl, hm.pk []⟩)
        ·refine jc_skip (jx_then (jc_seq (jc_region (qh [0] (qe (jx_then (jc_seq (jc_region (qh [0,0] ?_)))))))))
         obtain ⟨t_18, ht_111, h⟩ := bd h
         refine tO (pc 0 (fun w hm => laws_markInt64S.calls t_8.1 1 w _ o_40 rfl hs_43 ho_44 (hm.pass (N := [⟨o_40, 2, row encI64 t_8.1 sp_42⟩]) [7] (by kernel_rfl) (by kernel_rfl)) ht_111) ?_)
         rintro w v w' hm ⟨hn_112, ho_113, rfl, hm'⟩
         refine ⟨_, hm.appW (ps := [(7, ⟨o_40, 2, row encI64 t_18.2 sp_42⟩)]) (N := []) hm' (by kernel_rfl) (by kernel_rfl), jkO ?_⟩
         clear hm hm'
         refine qh [0] (qe (jx_then (jc_seq (jc_region (qh [0] (qe (jx_then (jc_seq (jc_region (qh [0,0] ?_))))))))))
         obtain ⟨t_19, ht_114, h⟩ := bd h
         refine tO (pc 0 (fun w hm => laws_heldInt64S.calls t_18.2 1 w _ cap_41 (hm.ow 7 o_40 2 t_18.2 sp_42 (fun e => (ho_113 e).1) encI64_len) hn_112 ht_114) ?_)
         rintro w v w' hm ⟨rfl, hm'⟩
         refine ⟨_, hm.app hm', jkO ?_⟩
         clear hm hm'
         refine qh [0] (qe (jx_then (jc_seq (jc_seq (jc_region (qh [0,0] (qe (jx_then (qi h (fun h => ?_) (fun h => ?_))))))))))
         ·refine jc_seq (jc_region (qh [0] (qe (jx_then (jc_ret (jx_thenr ?_))))))
          obtain rfl := Option.some.inj h
          exact qr [] (fun w hm => ⟨rfl, hm.pk []⟩)
         ·refine jc_skip (jx_then (jc_seq (jc_seq (jc_region (qh [0,0,0] (qe (jx_then (qi h (fun h => ?_) (fun h => ?_)))))))))
          ·refine jc_seq (jc_region (qh [0] (qe (jx_then (jc_ret (jx_thenr ?_))))))
           obtain rfl := Option.some.inj h
           exact qr [] (fun w hm => ⟨rfl, hm.pk []⟩)
          ·refine jc_skip (jx_then (jc_seq (jc_region (qh [0] ?_))))
           obtain ⟨t_20, ht_119, h⟩ := bd h
           refine tO (pc 0 (fun w hm => laws_toFrame.calls aF0 w _ C_c (hm.xr C_h) rfl ht_119) ?_)
           rintro w v w' hm ⟨o_120, cap_121, sp_122, _, rfl, hs_123, ho_124, rfl, hm'⟩
           refine ⟨_, hm.app hm', jkO ?_⟩
           clear hm hm'
           refine qh [0] ?_
           obtain ⟨t_21, ht_125, h⟩ := bd h
           refine tO (pc 0 (fun w hm => laws_toDrumS.calls aList1 w _ D_c (hm.xr D_h) rfl ht_125) ?_)
           rintro w v w' hm ⟨o_126, cap_127, sp_128, _, rfl, hs_129, ho_130, rfl, hm'⟩
           refine ⟨_, hm.app hm', jkO ?_⟩
           clear hm hm'
           refine qh [0] ?_
           obtain ⟨t_22, ht_131, h⟩ := bd h
           refine tO (pc 0 (fun w hm => impl_BestOrder.calls t_20 t_21 aFirst2 w _ cap_121 (hm.ow 10 o_120 110 t_20.fHammers sp_122 (fun e => (ho_124 e).1) encGHammer_len) rfl cap_127 (hm.ow 11 o_126 88 t_21 sp_128 (fun e => (ho_130 e).1) encA96U32_len) rfl ht_131) ?_)
           rintro w v w' hm ⟨o_132, cap_133, sp_134, _, rfl, hs_135, ho_136, rfl, hm'⟩
           refine ⟨_, hm.app hm', jkO ?_⟩
           clear hm hm'
           refine qh [0,0,0,0,0,0,0] (qe (jx_then (jc_seq (jc_seq (jc_region (qh [0,0] ?_))))))
           obtain ⟨t_23, ht_141, h⟩ := bd h
           refine tO (pc 0 (fun w hm => laws_eqInt64S.calls t_22.1 t_5.1 w _ cap_133 (hm.ow 12 o_132 2 t_22.1 sp_134 (fun e => (ho_136 e).1) encI64_len) rfl cap_22 (hm.ow 3 o_21 2 t_5.1 sp_23 (fun e => (ho_25 e).1) encI64_len) rfl ht_141) ?_)
           rintro w v w' hm ⟨rfl, hm'⟩
           refine ⟨_, hm.app hm', jkO ?_⟩
           clear hm hm'
           refine qf [(0, 0), (0, 0), (0, 1), (0, 1), (0, 1), (0, 0), (0, 0), (0, 1), (0, 1), (0, 1), (0, 0)] (qe (jx_then (qi h (fun h => ?_) (fun h => ?_))))
           ·refine jc_seq (jc_region (qh [0] (qe (jx_then (jc_ret (jx_thenr ?_))))))
            obtain rfl := Option.some.inj h
            exact qr [] (fun w hm => ⟨rfl, hm.pk []⟩)
           ·refine jc_skip (jx_then (jc_seq (jc_region (qh [0] (qe (jx_then (jc_seq (jc_region (qh [0,0] ?_)))))))))
            obtain ⟨t_24, ht_143, h⟩ := bd h
            refine tO (pc 0 (fun w hm => laws_heldInt64S.calls t_18.2 1 w _ cap_41 (hm.ow 7 o_40 2 t_18.2 sp_42 (fun e => (ho_113 e).1) encI64_len) hn_112 ht_143) ?_)
            rintro w v w' hm ⟨rfl, hm'⟩
            refine ⟨_, hm.app hm', jkO ?_⟩
            clear hm hm'
            refine qh [0] (qe (jx_then (jc_seq (jc_seq (jc_region (qh [0,0] (qe (jx_then (qi h (fun h => ?_) (fun h => ?_))))))))))
            ·refine jc_seq (jc_region (qh [0] (qe (jx_then (jc_ret (jx_thenr ?_))))))
             obtain rfl := Option.some.inj h
             exact qr [] (fun w hm => ⟨rfl, hm.pk []⟩)
            ·refine jc_skip (jx_then (jc_seq (jc_seq (jc_region (qh [0,0,0] (qe (jx_then (qi h (fun h => ?_) (fun h => ?_)))))))))
             ·refine jc_seq (jc_region (qh [0] (qe (jx_then (jc_ret (jx_thenr ?_))))))
              obtain rfl := Option.some.inj h
              exact qr [] (fun w hm => ⟨rfl, hm.pk []⟩)
             ·refine jc_skip (jx_then (jc_seq (jc_region (qh [0] (qe (jx_then (jc_ret ?_)))))))
              obtain rfl := Option.some.inj h
              exact qr [] (fun w hm => ⟨rfl, hm.pk []⟩)
end

end Go.Proofs.Yteedohcicmgkaaa
