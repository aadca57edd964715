/- Functions of the program that the laws reach: a plain function each, and that the call comes to its answer if the plain function has one. Printed by a program. -/
import Derived.Test.YtbclghgbnnlbjaaT
import Derived.Test.YtbclghgbnnlbjaaTab
import Derived.Test.YtbclghgbnnlbjaaM0
import Derived.Test.YtbclghgbnnlbjaaM1
namespace Go.Proofs.Ytbclghgbnnlbjaa
open Eng
set_option linter.unusedVariables false

set_option linter.unusedSectionVars false
set_option maxRecDepth 100000
variable [dsW : DrwS]
noncomputable section
/-! ### laws.szInt64A2S -/
def laws_szInt64A2S (a0 : List (Arr 2 Int)) (left1 : Int) : Option (Int) := (if (decide ((w64 (left1 - (a0.length : Int))) < 0)) = true then some (-1) else some (w64 (left1 - (a0.length : Int))))
theorem laws_szInt64A2S.calls (a0 : List (Arr 2 Int)) (left1 : Int) (w : World) (r : Int) {A_a : Option Addr} {A_an : Nat} (A_c : Nat) (A_h : Rw w A_a 2 encA2I64 a0) (A_hn : a0.length = A_an) (h : laws_szInt64A2S a0 left1 = some r) :
    Calls Try.prog 23 #[(.slice A_a A_an A_c), (.int .i64 left1)] w fun e w' => ∃ v, e = .returned v ∧ (v = (.int .i64 r) ∧ Mem w [] [] w') := by
  subst A_hn
  rw [laws_szInt64A2S] at h
  refine enter (args := [(.slice A_a a0.length A_c), (.int .i64 left1)]) Try.func23 rfl Try.ntmps23 (by kernel_rfl) (L := []) (W := []) (Mem.start w) ?_
  refine jc_seq (jc_region (qh [0] (qe (jx_then (jc_seq (jc_region (qh [0,0,0,0,0] (qe (jx_then (jc_seq (jc_seq (jc_region (qh [0,0] (qe (jx_then (qi h (fun h => ?_) (fun h => ?_)))))))))))))))))
  ·refine jc_seq (jc_region (qh [0] (qe (jx_then (jc_ret (jx_thenr ?_))))))
   obtain rfl := Option.some.inj h
   exact qr [] (fun w hm => ⟨rfl, hm.pk []⟩)
  ·refine jc_skip (jx_then (jc_seq (jc_region (qh [0,0] (qe (jx_then (jc_ret ?_)))))))
   obtain rfl := Option.some.inj h
   exact qr [] (fun w hm => ⟨rfl, hm.pk []⟩)
/-! ### laws.toInt64A2 -/
def laws_toInt64A2.k_2 (a_1 : Arr 2 Int) : Option ((Arr 2 Int)) := some a_1
def laws_toInt64A2.l_5 (a0 : Arr 2 Int) : ((Arr 2 Int) × Int) → Option (((Arr 2 Int) × Int) ⊕ ((Arr 2 Int)))
  | (a_3, i_4) => (if (decide (i_4 < 2)) = true then (ix a0.1 i_4).bind fun x_7 => (ix a_3.1 i_4).bind fun x_8 => some (.inl ((Arr.set a_3 i_4 x_7), (w64 (i_4 + 1)))) else some (.inr a_3))
def laws_toInt64A2 (a0 : Arr 2 Int) : Option ((Arr 2 Int)) := (loop (laws_toInt64A2.l_5 a0) ((Arr.rep 2 0), 0)).bind fun t_6 => laws_toInt64A2.k_2 t_6
theorem laws_toInt64A2.calls (a0 : Arr 2 Int) (w : World) (r : (Arr 2 Int)) (h : laws_toInt64A2 a0 = some r) :
    Calls Try.prog 64 #[(.agg (row encI64 a0.1 []).toArray)] w fun e w' => ∃ v, e = .returned v ∧ (v = (.agg (row encI64 r.1 []).toArray) ∧ Mem w [] [] w') := by
  rw [laws_toInt64A2] at h
  refine enter (args := [(.agg (row encI64 a0.1 []).toArray)]) Try.func64 rfl Try.ntmps64 (by kernel_rfl) (L := []) (W := []) (Mem.start w) ?_
  refine jc_seq (jc_region (tO (qa 0 (fun b_1 => jkO (tO (qa 0 (fun b_2 => jkO (qe (jx_then (jc_seq (jc_region (tO (qa 0 (fun b_3 => jkO (qe (jx_then (jc_seq (jc_seq (jc_region (qh [0] (qe (jx_then (jc_meet (fun (j : (Arr 2 Int)) => match j with | a_1 => laws_toInt64A2.k_2 a_1 = some r) (fun (j : (Arr 2 Int)) => match j with | a_1 => [(2, [], (.pointer (some ⟨b_2, 0, none⟩))), (3, [], (.pointer (some ⟨b_3, 0, none⟩)))]) (fun (j : (Arr 2 Int)) => match j with | a_1 => [⟨(some b_1), 93, row encI64 a0.1 []⟩, ⟨(some b_2), 93, row encI64 ((Arr.rep 2 0).1) []⟩, ⟨(some b_3), 93, row encI64 a_1.1 []⟩]) ?_ ?_)))))))))))))))))))))))
  ·refine jc_block ?_
   obtain ⟨t_6, ht_67, hr_60⟩ := bd h
   refine jc_loop (fun (s : (Arr 2 Int) × Int) (x : Unit) => match s, x with | ⟨a_3, i_4⟩, _ => True) (fun (s : (Arr 2 Int) × Int) (x : Unit) => match s, x with | ⟨a_3, i_4⟩, _ => [(1, [], (.pointer (some ⟨b_1, 0, none⟩))), (2, [], (.pointer (some ⟨b_2, 0, none⟩))), (3, [], (.pointer (some ⟨b_3, 0, none⟩))), (4, [], (.int .i64 i_4))]) (fun (s : (Arr 2 Int) × Int) (x : Unit) => match s, x with | ⟨a_3, i_4⟩, _ => [⟨(some b_1), 93, row encI64 a0.1 []⟩, ⟨(some b_2), 93, row encI64 ((Arr.rep 2 0).1) []⟩, ⟨(some b_3), 93, row encI64 a_3.1 []⟩]) ht_67 () trivial (by kernel_rfl) [0, 1, 2] (by kernel_rfl) (by kernel_rfl) ?_
   rintro ⟨a_3, i_4⟩ _ y_61 _ h
   rw [laws_toInt64A2.l_5] at h
   refine jc_seq (jc_seq (jc_region (qh [0,0] (qe (jx_then (qi h (fun h => ?_) (fun h => ?_)))))))
   ·refine jc_skip (jx_then (jc_seq (jc_block (jc_region (qh [0,0] ?_)))))
    obtain ⟨x_7, hx_64, h⟩ := bd h
    refine tO (qx 0 (some ⟨b_1, 0, none⟩) 1 hx_64 a0.2 rfl (jkO (tO (ql 0 false (fun w hm => ((hm.ow 0 (some b_1) 93 a0.1 [] (fun e => nomatch e) encI64_len).at hx_64)) (jkO ?_)))))
    obtain ⟨x_8, hx_65, h⟩ := bd h
    exact tO (qx 0 (some ⟨b_3, 0, none⟩) 1 hx_65 a_3.2 rfl (jkO (tO (p_str 0 2 b_3 93 encI64 a_3.1 [] i_4 x_7 1 0 [(.int .i64 x_7)] (by kernel_rfl) (by kernel_rfl) (by kernel_rfl) encI64_len hx_65 (by kernel_rfl) (by kernel_rfl) (jkO (qe (jx_inn (jx_then (jc_region (qh [0,0,0] (qe (qb ((Arr.set a_3 i_4 x_7), (w64 (i_4 + 1))) () h trivial [0, 1, 2]))))))))))))
   ·refine jc_exit (jx_thenx (jx_leave a_3 (Option.some.inj h).symm (fun e_66 => ?_)))
    subst e_66
    exact jx_ine (qm a_3 hr_60 [0, 1, 2])
  ·rintro a_1 h
   replace h : laws_toInt64A2.k_2 a_1 = some r := h
   rw [laws_toInt64A2.k_2] at h
   refine jx_then (jc_seq (jc_region (tO (p_ldA 0 2 b_3 2 1 93 encI64 a_1 (by kernel_rfl) (by kernel_rfl) (by kernel_rfl) encI64_len (by kernel_rfl) (jkO (tO (p_sA 0 1 b_2 2 1 93 encI64 (Arr.rep 2 0) a_1 (by kernel_rfl) (by kernel_rfl) (by kernel_rfl) encI64_len encI64_cell (by kernel_rfl) (jkO (qe (jx_then (jc_ret ?_)))))))))))
   obtain rfl := Option.some.inj h
   exact jx_retV rfl (rq_arr (b := b_2) (T' := 93) (hh := 1) (mm := 1) encI64 a_1 (by kernel_rfl) (by kernel_rfl) encI64_len (by kernel_rfl) rq_nil) (fun w hm => ⟨rfl, hm.pk []⟩)
/-! ### laws.toInt64A2S -/
def laws_toInt64A2S.k_2 (xs_1 : List (Arr 2 Int)) : Option ((List (Arr 2 Int))) := some xs_1
def laws_toInt64A2S.l_5 (a0 : List (Arr 2 Int)) : ((List (Arr 2 Int)) × Int) → Option (((List (Arr 2 Int)) × Int) ⊕ ((List (Arr 2 Int))))
  | (xs_3, i_4) => (if (decide (i_4 < (a0.length : Int))) = true then (ix a0 i_4).bind fun x_7 => (laws_toInt64A2 x_7).bind fun t_8 => (ix xs_3 i_4).bind fun x_9 => some (.inl ((xs_3.set i_4.toNat t_8), (w64 (i_4 + 1)))) else some (.inr xs_3))
def laws_toInt64A2S (a0 : List (Arr 2 Int)) : Option ((List (Arr 2 Int))) := (if 0 ≤ (a0.length : Int) ∧ (a0.length : Int) ≤ 8796093022208 then (loop (laws_toInt64A2S.l_5 a0) ((List.replicate (a0.length : Int).toNat (Arr.rep 2 0)), 0)).bind fun t_6 => laws_toInt64A2S.k_2 t_6 else none)
theorem laws_toInt64A2S.calls (a0 : List (Arr 2 Int)) (w : World) (r : (List (Arr 2 Int))) {A_a : Option Addr} {A_an : Nat} (A_c : Nat) (A_h : Rw w A_a 2 encA2I64 a0) (A_hn : a0.length = A_an) (h : laws_toInt64A2S a0 = some r) :
    Calls Try.prog 25 #[(.slice A_a A_an A_c)] w fun e w' => ∃ v, e = .returned v ∧ (∃ (o0 : Option Nat) (c0 : Nat) (s0 : List Value) (n0 : Nat), r.length = n0 ∧ (o0 ≠ none → n0 ≤ c0 ∧ s0.length = (c0 - n0) * 2) ∧ (o0 = none → r = [] ∧ c0 = 0) ∧ v = .slice (o0.map fun b => ⟨b, 0, none⟩) n0 c0 ∧ Mem w [] [⟨o0, 93, row encA2I64 r s0⟩] w') := by
  subst A_hn
  rw [laws_toInt64A2S] at h
  refine enter (args := [(.slice A_a a0.length A_c)]) Try.func25 rfl Try.ntmps25 (by kernel_rfl) (L := []) (W := []) (Mem.start w) ?_
  refine jc_seq (jc_region (qh [0] (qe (jx_then (jc_seq (jc_region (qh [0,0] ?_)))))))
  obtain ⟨hg_88, h⟩ := gd h
  refine tO (p_mk 0 93 (a0.length : Int) 2 16 encA2I64 (Arr.rep 2 0) (by kernel_rfl) (by kernel_rfl) hg_88.1 (by omega) (by kernel_rfl) (fun b_1 => jkO (qh [0] (qe (jx_then (jc_seq (jc_seq (jc_region (qh [0] (qe (jx_then (jc_meet (fun (j : (List (Arr 2 Int))) => match j with | xs_1 => laws_toInt64A2S.k_2 xs_1 = some r ∧ (xs_1.length = (a0.length : Int).toNat)) (fun (j : (List (Arr 2 Int))) => match j with | xs_1 => [(2, [], (.slice none 0 0)), (3, [], (.slice (some ⟨b_1, 0, none⟩) ((a0.length : Int).toNat) ((a0.length : Int).toNat)))]) (fun (j : (List (Arr 2 Int))) => match j with | xs_1 => [⟨(some b_1), 93, row encA2I64 xs_1 []⟩]) ?_ ?_))))))))))))
  ·refine jc_block ?_
   obtain ⟨t_6, ht_87, hr_79⟩ := bd h
   refine jc_loop (fun (s : (List (Arr 2 Int)) × Int) (x : Unit) => match s, x with | ⟨xs_3, i_4⟩, _ => (xs_3.length = (a0.length : Int).toNat)) (fun (s : (List (Arr 2 Int)) × Int) (x : Unit) => match s, x with | ⟨xs_3, i_4⟩, _ => [(0, [], (.slice A_a a0.length A_c)), (2, [], (.slice none 0 0)), (3, [], (.slice (some ⟨b_1, 0, none⟩) ((a0.length : Int).toNat) ((a0.length : Int).toNat))), (4, [], (.int .i64 i_4))]) (fun (s : (List (Arr 2 Int)) × Int) (x : Unit) => match s, x with | ⟨xs_3, i_4⟩, _ => [⟨(some b_1), 93, row encA2I64 xs_3 []⟩]) ht_87 () List.length_replicate (by kernel_rfl) [0] (by kernel_rfl) (by kernel_rfl) ?_
   rintro ⟨xs_3, i_4⟩ _ y_80 hn_78 h
   rw [laws_toInt64A2S.l_5] at h
   refine jc_seq (jc_seq (jc_region (qh [0,0,0,0] (qe (jx_then (qi h (fun h => ?_) (fun h => ?_)))))))
   ·refine jc_skip (jx_then (jc_seq (jc_block (jc_region (qh [0,0,0,0] ?_)))))
    obtain ⟨x_7, hx_83, h⟩ := bd h
    refine tO (qx 0 A_a 2 hx_83 rfl (A_h.sp hx_83) (jkO (tO (p_ldx 0 (aB A_a) (aO A_a + i_4.toNat * 2) (encA2I64 x_7) 2 (by kernel_rfl) (by kernel_rfl) (encA2I64_len x_7) (fun w hm => ((hm.xr A_h).at hx_83)) (jkO ?_)))))
    obtain ⟨t_8, ht_84, h⟩ := bd h
    refine tO (pc 0 (fun w hm => laws_toInt64A2.calls x_7 w _ ht_84) ?_)
    rintro w v w' hm ⟨rfl, hm'⟩
    refine ⟨_, hm.app hm', jkO ?_⟩
    clear hm hm'
    obtain ⟨x_9, hx_85, h⟩ := bd h
    exact tO (qx 0 (some ⟨b_1, 0, none⟩) 2 hx_85 hn_78 rfl (jkO (tO (p_strW 0 0 b_1 93 encA2I64 xs_3 [] i_4 t_8 2 (by kernel_rfl) (by kernel_rfl) (by kernel_rfl) encA2I64_len encA2I64_cell hx_85 (jkO (qe (jx_inn (jx_then (jc_region (qh [0,0,0] (qe (qb ((xs_3.set i_4.toNat t_8), (w64 (i_4 + 1))) () h (List.length_set.trans hn_78) [0]))))))))))))
   ·refine jc_exit (jx_thenx (jx_leave xs_3 (Option.some.inj h).symm (fun e_86 => ?_)))
    subst e_86
    exact jx_ine (qm xs_3 ⟨hr_79, hn_78⟩ [0])
  ·rintro xs_1 ⟨h, hn_66⟩
   replace h : laws_toInt64A2S.k_2 xs_1 = some r := h
   rw [laws_toInt64A2S.k_2] at h
   refine jx_then (jc_seq (jc_region (qh [0,0] (qe (jx_then (jc_ret ?_))))))
   obtain rfl := Option.some.inj h
   exact qr [] (fun w hm => ⟨(some b_1), ((a0.length : Int).toNat), [], ((a0.length : Int).toNat), hn_66, (fun _ => ⟨Nat.le_refl _, by simp⟩), (fun e => nomatch e), rfl, hm.pk [0]⟩)
/-! ### spec.CheckTree -/
def spec_CheckTree.k_7 (t_4 : (List (List Int))) (xs_5 : List Int) (i_6 : Int) : Option (Bool × Int) := (spec_l05Tree t_4).bind fun t_8 => some ((i_6 == t_8.2), 0)
def spec_CheckTree.k_25 (i_10 : Int) (i_11 : Int) (x_21 : Int) (xs_24 : List Int) : Option (((List Int) × Int × Int) ⊕ ((Bool × Int) ⊕ ((List Int) × Int))) := some (.inl (xs_24, (w64 (i_10 + x_21)), (w64 (i_11 + 1))))
def spec_CheckTree.l_28 (list1 : List (Arr 96 Int)) (x_22 : Int) (x_23 : Int) : ((List Int) × Int) → Option (((List Int) × Int) ⊕ ((List Int)))
  | (xs_26, i_27) => (if (decide (i_27 < (list1.length : Int))) = true then (ix xs_26 i_27).bind fun x_30 => (if (x_30 == x_22) = true then (ix xs_26 i_27).bind fun x_31 => some (.inl ((xs_26.set i_27.toNat x_23), (w64 (i_27 + 1)))) else some (.inl (xs_26, (w64 (i_27 + 1))))) else some (.inr xs_26))
def spec_CheckTree.k_19 (list1 : List (Arr 96 Int)) (t_4 : (List (List Int))) (xs_9 : List Int) (i_10 : Int) (i_11 : Int) (x_15 : Int) (x_17 : Int) (q_18 : Bool) : Option (((List Int) × Int × Int) ⊕ ((Bool × Int) ⊕ ((List Int) × Int))) := (if q_18 = true then some (.inr (.inl (false, 0))) else (ix t_4 x_15).bind fun x_20 => (ix x_20 x_17).bind fun x_21 => (ix xs_9 x_17).bind fun x_22 => (ix xs_9 x_15).bind fun x_23 => (loop (spec_CheckTree.l_28 list1 x_22 x_23) (xs_9, 0)).bind fun t_29 => spec_CheckTree.k_25 i_10 i_11 x_21 t_29)
def spec_CheckTree.l_12 (list1 : List (Arr 96 Int)) (tree2 : List (Arr 2 Int)) (t_4 : (List (List Int))) : ((List Int) × Int × Int) → Option (((List Int) × Int × Int) ⊕ ((Bool × Int) ⊕ ((List Int) × Int)))
  | (xs_9, i_10, i_11) => (if (decide (i_11 < (tree2.length : Int))) = true then (ix tree2 i_11).bind fun x_14 => (ix x_14.1 0).bind fun x_15 => (ix tree2 i_11).bind fun x_16 => (ix x_16.1 1).bind fun x_17 => (spec_l00In x_15 0 (w64 ((list1.length : Int) - 1))).bind fun t_32 => (if (!t_32) = true then spec_CheckTree.k_19 list1 t_4 xs_9 i_10 i_11 x_15 x_17 true else (spec_l00In x_17 (w64 (x_15 + 1)) (w64 ((list1.length : Int) - 1))).bind fun t_33 => (if (!t_33) = true then spec_CheckTree.k_19 list1 t_4 xs_9 i_10 i_11 x_15 x_17 true else (ix xs_9 x_15).bind fun x_34 => (ix xs_9 x_17).bind fun x_35 => spec_CheckTree.k_19 list1 t_4 xs_9 i_10 i_11 x_15 x_17 (x_34 == x_35))) else some (.inr (.inr (xs_9, i_10))))
def spec_CheckTree.k_3 (list1 : List (Arr 96 Int)) (tree2 : List (Arr 2 Int)) (xs_2 : List Int) : Option (Bool × Int) := (spec_l05Table list1).bind fun t_4 => (loop (spec_CheckTree.l_12 list1 tree2 t_4) (xs_2, 0, 0)).bind fun t_13 => match t_13 with | .inl p => some p | .inr p => spec_CheckTree.k_7 t_4 p.1 p.2
def spec_CheckTree.l_38 (list1 : List (Arr 96 Int)) : ((List Int) × Int) → Option (((List Int) × Int) ⊕ ((List Int)))
  | (xs_36, i_37) => (if (decide (i_37 < (list1.length : Int))) = true then (if xs_36.length + ([i_37] : List Int).length ≤ 4294967296 then some (.inl ((xs_36 ++ ([i_37] : List Int)), (w64 (i_37 + 1)))) else none) else some (.inr xs_36))
def spec_CheckTree (f0 : GFrame) (list1 : List (Arr 96 Int)) (tree2 : List (Arr 2 Int)) : Option (Bool × Int) := (spec_l05Asked f0 list1).bind fun t_1 => (if (t_1 != 0) = true then some (false, t_1) else (if ((w64 ((tree2.length : Int) + 1)) != (list1.length : Int)) = true then some (false, 0) else (loop (spec_CheckTree.l_38 list1) (([] : List Int), 0)).bind fun t_39 => spec_CheckTree.k_3 list1 tree2 t_39))
set_option maxHeartbeats 8000000 in
theorem spec_CheckTree.calls (f0 : GFrame) (list1 : List (Arr 96 Int)) (tree2 : List (Arr 2 Int)) (w : World) (r : Bool × Int) {C_a : Option Addr} {C_an : Nat} (C_c : Nat) (C_h : Rw w C_a 2 encGHammer f0.fHammers) (C_hn : f0.fHammers.length = C_an) {D_a : Option Addr} {D_an : Nat} (D_c : Nat) (D_h : Rw w D_a 96 encA96U32 list1) (D_hn : list1.length = D_an) {E_a : Option Addr} {E_an : Nat} (E_c : Nat) (E_h : Rw w E_a 2 encA2I64 tree2) (E_hn : tree2.length = E_an) (h : spec_CheckTree f0 list1 tree2 = some r) :
    Calls Try.prog 24 #[(.agg #[(.int .i16 f0.fSteps), (.slice C_a C_an C_c)]), (.slice D_a D_an D_c), (.slice E_a E_an E_c)] w fun e w' => ∃ v, e = .returned v ∧ (v = .tuple #[(.bool r.1), (.int .i64 r.2)] ∧ Mem w [] [] w') := by
  subst C_hn D_hn E_hn
  rw [spec_CheckTree] at h
  refine enter (args := [(.agg #[(.int .i16 f0.fSteps), (.slice C_a f0.fHammers.length C_c)]), (.slice D_a list1.length D_c), (.slice E_a tree2.length E_c)]) Try.func24 rfl Try.ntmps24 (by kernel_rfl) (L := []) (W := []) (Mem.start w) ?_
  refine jc_seq (jc_region (tO (qa 0 (fun b_1 => jkO (qh [0,0] (qe (jx_then (jc_seq (jc_seq (jc_region (qh [0] ?_)))))))))))
  obtain ⟨t_1, ht_4, h⟩ := bd h
  refine tO (pc 0 (fun w hm => spec_l05Asked.calls f0 list1 w _ C_c (hm.xr C_h) rfl D_c (hm.xr D_h) rfl b_1 (hm.pass (N := [⟨some b_1, 34, [(.int .i16 f0.fSteps), (.slice C_a f0.fHammers.length C_c)]⟩]) [0] (by kernel_rfl) (by kernel_rfl)) (hm.exApart (N := [⟨some b_1, 34, [(.int .i16 f0.fSteps), (.slice C_a f0.fHammers.length C_c)]⟩]) C_h (fun _ => List.not_mem_nil) [0] (by kernel_rfl)) (hm.exApart (N := [⟨some b_1, 34, [(.int .i16 f0.fSteps), (.slice C_a f0.fHammers.length C_c)]⟩]) D_h (fun _ => List.not_mem_nil) [0] (by kernel_rfl)) ht_4) ?_)
  rintro w v w' hm ⟨rfl, hm'⟩
  refine ⟨_, hm.appW (ps := [(0, ⟨some b_1, 34, [(.int .i16 f0.fSteps), (.slice C_a f0.fHammers.length C_c)]⟩)]) (N := []) hm' (by kernel_rfl) (by kernel_rfl), jkO ?_⟩
  clear hm hm'
  refine qh [0] (qe (jx_then (jc_seq (jc_region (qh [0,0] (qe (jx_then (qi h (fun h => ?_) (fun h => ?_)))))))))
  ·refine jc_seq (jc_region (qh [0,0,0] (qe (jx_then (jc_ret (jx_thenr ?_))))))
   obtain rfl := Option.some.inj h
   exact qr [] (fun w hm => ⟨rfl, hm.pk []⟩)
  ·refine jc_skip (jx_then (jc_seq (jc_region (qh [0,0,0] (qe (jx_then (jc_seq (jc_seq (jc_region (qh [0,0,0,0,0] (qe (jx_then (qi h (fun h => ?_) (fun h => ?_))))))))))))))
   ·refine jc_seq (jc_region (qh [0,0] (qe (jx_then (jc_ret (jx_thenr ?_))))))
    obtain rfl := Option.some.inj h
    exact qr [] (fun w hm => ⟨rfl, hm.pk []⟩)
   ·refine jc_skip (jx_then (jc_seq (jc_region (tO (qa 0 (fun b_8 => jkO (qh [0] (qe (jx_then (jc_seq (jc_seq (jc_region (qh [0] (qe (jx_then (jc_meet (fun (j : (List Int) × (Option Nat) × Nat × (List Value) × Nat) => match j with | ⟨xs_2, o_144, cap_145, sp_146, n_147⟩ => spec_CheckTree.k_3 list1 tree2 xs_2 = some r ∧ (xs_2.length = n_147) ∧ ((o_144 ≠ none → n_147 ≤ cap_145 ∧ sp_146.length = (cap_145 - n_147) * 1)) ∧ ((o_144 = none → xs_2 = [] ∧ cap_145 = 0))) (fun (j : (List Int) × (Option Nat) × Nat × (List Value) × Nat) => match j with | ⟨xs_2, o_144, cap_145, sp_146, n_147⟩ => [(1, [], (.slice D_a list1.length D_c)), (2, [], (.slice E_a tree2.length E_c)), (6, [], (.bool false)), (7, [], (.int .i64 0)), (9, [], (.int .i64 (list1.length : Int))), (10, [], (.slice (o_144.map fun b => ⟨b, 0, none⟩) n_147 cap_145))]) (fun (j : (List Int) × (Option Nat) × Nat × (List Value) × Nat) => match j with | ⟨xs_2, o_144, cap_145, sp_146, n_147⟩ => [⟨some b_1, 34, [(.int .i16 f0.fSteps), (.slice C_a f0.fHammers.length C_c)]⟩, ⟨o_144, 3, row encI64 xs_2 sp_146⟩]) ?_ ?_))))))))))))))))
    ·refine jc_block ?_
     obtain ⟨t_39, ht_1254, hr_1242⟩ := bd h
     refine jc_loop (fun (s : (List Int) × Int) (x : (Option Nat) × Nat × (List Value) × Nat) => match s, x with | ⟨xs_36, i_37⟩, ⟨o_1236, cap_1237, sp_1238, n_1239⟩ => (xs_36.length = n_1239) ∧ ((o_1236 ≠ none → n_1239 ≤ cap_1237 ∧ sp_1238.length = (cap_1237 - n_1239) * 1)) ∧ ((o_1236 = none → xs_36 = [] ∧ cap_1237 = 0))) (fun (s : (List Int) × Int) (x : (Option Nat) × Nat × (List Value) × Nat) => match s, x with | ⟨xs_36, i_37⟩, ⟨o_1236, cap_1237, sp_1238, n_1239⟩ => [(1, [], (.slice D_a list1.length D_c)), (2, [], (.slice E_a tree2.length E_c)), (6, [], (.bool false)), (7, [], (.int .i64 0)), (9, [], (.int .i64 (list1.length : Int))), (10, [], (.slice (o_1236.map fun b => ⟨b, 0, none⟩) n_1239 cap_1237)), (11, [], (.int .i64 i_37))]) (fun (s : (List Int) × Int) (x : (Option Nat) × Nat × (List Value) × Nat) => match s, x with | ⟨xs_36, i_37⟩, ⟨o_1236, cap_1237, sp_1238, n_1239⟩ => [⟨some b_1, 34, [(.int .i16 f0.fSteps), (.slice C_a f0.fHammers.length C_c)]⟩, ⟨o_1236, 3, row encI64 xs_36 sp_1238⟩]) ht_1254 ⟨(some b_8), 0, [], 0⟩ ⟨rfl, (fun _ => ⟨Nat.le_refl _, by simp⟩), (fun e => nomatch e)⟩ (by kernel_rfl) [0, 1] (by kernel_rfl) (by kernel_rfl) ?_
     rintro ⟨xs_36, i_37⟩ ⟨o_1236, cap_1237, sp_1238, n_1239⟩ y_1243 ⟨rfl, hs_1240, ho_1241⟩ h
     rw [spec_CheckTree.l_38] at h
     refine jc_seq (jc_seq (jc_region (qh [0,0,0] (qe (jx_then (qi h (fun h => ?_) (fun h => ?_)))))))
     ·refine jc_skip (jx_then (jc_seq (jc_block (jc_region (qh [0,0] (tO (qa 0 (fun b_1246 => jkO ?_))))))))
      obtain ⟨hg_1247, h⟩ := gd h
      exact tO (p_apn 0 1 o_1236 3 xs_36.length 1 cap_1237 1 8 (some ⟨b_1246, 0, none⟩) encI64 xs_36 ([i_37] : List Int) sp_1238 (.int .i64 0) rfl rfl (by kernel_rfl) (by kernel_rfl) (by kernel_rfl) encI64_len encI64_cell hs_1240 ho_1241 (fun w hm => (hm.ow 2 (some b_1246) 3 ([i_37] : List Int) [] (fun e => nomatch e) encI64_len)) hg_1247 (by kernel_rfl) (by kernel_rfl) (fun o_1248 cap_1249 sp_1250 hs_1251 ho_1252 => jkO (qh [0] (qe (jx_inn (jx_then (jc_region (qh [0,0,0] (qe (qb ((xs_36 ++ ([i_37] : List Int)), (w64 (i_37 + 1))) ⟨o_1248, cap_1249, sp_1250, (xs_36 ++ ([i_37] : List Int)).length⟩ h ⟨rfl, hs_1251, ho_1252⟩ [0, 1]))))))))))
     ·refine jc_exit (jx_thenx (jx_leave xs_36 (Option.some.inj h).symm (fun e_1253 => ?_)))
      subst e_1253
      exact jx_ine (qm ⟨xs_36, o_1236, cap_1237, sp_1238, xs_36.length⟩ ⟨hr_1242, rfl, hs_1240, ho_1241⟩ [0, 1])
    ·rintro ⟨xs_2, o_144, cap_145, sp_146, n_147⟩ ⟨h, rfl, hs_148, ho_149⟩
     replace h : spec_CheckTree.k_3 list1 tree2 xs_2 = some r := h
     rw [spec_CheckTree.k_3] at h
     refine jx_then (jc_seq (jc_region (qh [0] ?_)))
     obtain ⟨t_4, ht_150, h⟩ := bd h
     refine tO (pc 0 (fun w hm => spec_l05Table.calls list1 w _ D_c (hm.xr D_h) rfl ht_150) ?_)
     rintro w v w' hm ⟨o_151, cap_152, sp_153, _, hh_156, hI_157, rfl, hs_154, ho_155, rfl, hm'⟩
     refine ⟨_, hm.app hm', jkO ?_⟩
     clear hm hm'
     refine qh [0] (qe (jx_then (jc_seq (jc_region (qh [0] (qe (jx_then (jc_seq (jc_seq (jc_region (qh [0] (qe (jx_then (jc_meet (fun (j : (List Int) × Int) => match j with | ⟨xs_5, i_6⟩ => spec_CheckTree.k_7 t_4 xs_5 i_6 = some r ∧ (xs_5.length = xs_2.length) ∧ ((o_144 = none → xs_5 = [] ∧ cap_145 = 0))) (fun (j : (List Int) × Int) => match j with | ⟨xs_5, i_6⟩ => [(6, [], (.bool false)), (7, [], (.int .i64 0)), (12, [], (.slice (o_151.map fun b => ⟨b, 0, none⟩) hh_156.length cap_152)), (13, [], (.int .i64 i_6))]) (fun (j : (List Int) × Int) => match j with | ⟨xs_5, i_6⟩ => [⟨some b_1, 34, [(.int .i16 f0.fSteps), (.slice C_a f0.fHammers.length C_c)]⟩, ⟨o_144, 3, row encI64 xs_5 sp_146⟩, ⟨o_151, 49, row encHd hh_156 sp_153⟩, ⟨none, CLU, cluC encI64 hh_156 t_4⟩]) ?_ ?_))))))))))))))
     ·refine jc_block ?_
      obtain ⟨t_13, ht_1211, hr_1123⟩ := bd h
      refine jc_loop (fun (s : (List Int) × Int × Int) (x : Unit) => match s, x with | ⟨xs_9, i_10, i_11⟩, _ => (xs_9.length = xs_2.length) ∧ ((o_144 = none → xs_9 = [] ∧ cap_145 = 0))) (fun (s : (List Int) × Int × Int) (x : Unit) => match s, x with | ⟨xs_9, i_10, i_11⟩, _ => [(2, [], (.slice E_a tree2.length E_c)), (6, [], (.bool false)), (7, [], (.int .i64 0)), (9, [], (.int .i64 (list1.length : Int))), (10, [], (.slice (o_144.map fun b => ⟨b, 0, none⟩) xs_2.length cap_145)), (12, [], (.slice (o_151.map fun b => ⟨b, 0, none⟩) hh_156.length cap_152)), (13, [], (.int .i64 i_10)), (14, [], (.int .i64 i_11))]) (fun (s : (List Int) × Int × Int) (x : Unit) => match s, x with | ⟨xs_9, i_10, i_11⟩, _ => [⟨some b_1, 34, [(.int .i16 f0.fSteps), (.slice C_a f0.fHammers.length C_c)]⟩, ⟨o_144, 3, row encI64 xs_9 sp_146⟩, ⟨o_151, 49, row encHd hh_156 sp_153⟩, ⟨none, CLU, cluC encI64 hh_156 t_4⟩]) ht_1211 () ⟨rfl, ho_149⟩ (by kernel_rfl) [0, 1, 2, 3] (by kernel_rfl) (by kernel_rfl) ?_
      rintro ⟨xs_9, i_10, i_11⟩ _ y_1124 ⟨hn_1122, ho_1121⟩ h
      rw [spec_CheckTree.l_12] at h
      refine jc_seq (jc_seq (jc_region (qh [0,0,0,0] (qe (jx_then (qi h (fun h => ?_) (fun h => ?_)))))))
      ·refine jc_skip (jx_then (jc_seq (jc_block (jc_seq (jc_region (qh [0,0] ?_))))))
       obtain ⟨x_14, hx_1127, h⟩ := bd h
       refine tO (qx 0 E_a 2 hx_1127 rfl (E_h.sp hx_1127) (jkO ?_))
       obtain ⟨x_15, hx_1128, h⟩ := bd h
       refine tO (p_v 0 (by kernel_rfl) _ (fun w hm => idx_run (a := some ⟨aB E_a, aO E_a + i_11.toNat * 2, none⟩) (len := 2) (s := 1) (j := 0) (by kernel_rfl) (ix_some hx_1128).1 (ltn hx_1128 x_14.2) rfl) (jkO (tO (ql 0 false (fun w hm => (at_arr encI64_len ((hm.xr E_h).at hx_1127) hx_1128)) (jkO (qh [0] (qe (jx_then (jc_seq (jc_region (qh [0,0] ?_)))))))))))
       obtain ⟨x_16, hx_1129, h⟩ := bd h
       refine tO (qx 0 E_a 2 hx_1129 rfl (E_h.sp hx_1129) (jkO ?_))
       obtain ⟨x_17, hx_1130, h⟩ := bd h
       refine tO (p_v 0 (by kernel_rfl) _ (fun w hm => idx_run (a := some ⟨aB E_a, aO E_a + i_11.toNat * 2, none⟩) (len := 2) (s := 1) (j := 1) (by kernel_rfl) (ix_some hx_1130).1 (ltn hx_1130 x_16.2) rfl) (jkO (tO (ql 0 false (fun w hm => (at_arr encI64_len ((hm.xr E_h).at hx_1129) hx_1130)) (jkO (qh [0] (qe (jx_then (jc_seq (jc_seq (jc_meet (fun (j : Bool) => match j with | q_18 => spec_CheckTree.k_19 list1 t_4 xs_9 i_10 i_11 x_15 x_17 q_18 = some y_1124) (fun (j : Bool) => match j with | q_18 => [(2, [], (.slice E_a tree2.length E_c)), (6, [], (.bool false)), (7, [], (.int .i64 0)), (9, [], (.int .i64 (list1.length : Int))), (10, [], (.slice (o_144.map fun b => ⟨b, 0, none⟩) xs_2.length cap_145)), (12, [], (.slice (o_151.map fun b => ⟨b, 0, none⟩) hh_156.length cap_152)), (13, [], (.int .i64 i_10)), (14, [], (.int .i64 i_11)), (15, [], (.int .i64 x_15)), (16, [], (.int .i64 x_17)), (86, [], (.bool q_18))]) (fun (j : Bool) => match j with | q_18 => [⟨some b_1, 34, [(.int .i16 f0.fSteps), (.slice C_a f0.fHammers.length C_c)]⟩, ⟨o_144, 3, row encI64 xs_9 sp_146⟩, ⟨o_151, 49, row encHd hh_156 sp_153⟩, ⟨none, CLU, cluC encI64 hh_156 t_4⟩]) ?_ ?_)))))))))))
       ·refine qg [⟨some b_1, 34, [(.int .i16 f0.fSteps), (.slice C_a f0.fHammers.length C_c)]⟩, ⟨o_144, 3, row encI64 xs_9 sp_146⟩, ⟨o_151, 49, row encHd hh_156 sp_153⟩, ⟨none, CLU, cluC encI64 hh_156 t_4⟩] 25 (qd [⟨0, 0, 0⟩,⟨1, 0, 0⟩,⟨2, 0, 0⟩] 22 [0, 1, 2, 3] ?_)
        obtain ⟨t_32, ht_1204, h⟩ := bd h
        refine tD 3 (pc 0 (fun w hm => spec_l00In.calls x_15 0 (w64 ((list1.length : Int) - 1)) w _ ht_1204) ?_)
        rintro w v w' hm ⟨rfl, hm'⟩
        refine ⟨_, hm.app hm', kD [0, 1, 2, 3] ?_⟩
        clear hm hm'
        refine qd [⟨4, 0, 0⟩,⟨5, 0, 0⟩,⟨6, 0, 1⟩,⟨7, 0, 1⟩,⟨8, 0, 1⟩,⟨9, 0, 1⟩,⟨10, 0, 1⟩] 14 [0, 1, 2, 3] (jd_split 67 (!t_32) (by kernel_rfl) (fun hc_1205 => ?_) (fun hc_1205 => ?_))
        ·replace h := ifT hc_1205 h
         exact qd [⟨11, 0, 3⟩,⟨12, 0, 3⟩,⟨13, 0, 4⟩,⟨14, 0, 0⟩,⟨15, 0, 3⟩,⟨16, 0, 3⟩,⟨17, 0, 3⟩,⟨18, 0, 3⟩,⟨19, 0, 3⟩,⟨20, 0, 3⟩,⟨21, 0, 3⟩,⟨22, 0, 3⟩,⟨23, 0, 3⟩,⟨24, 0, 4⟩] 0 [0, 1, 2, 3] (qz (qm true h [0, 1, 2, 3]))
        ·replace h := ifF hc_1205 h
         obtain ⟨t_33, ht_1206, h⟩ := bd h
         refine tD 11 (pc 2 (fun w hm => spec_l00In.calls x_17 (w64 (x_15 + 1)) (w64 ((list1.length : Int) - 1)) w _ ht_1206) ?_)
         rintro w v w' hm ⟨rfl, hm'⟩
         refine ⟨_, hm.app hm', kD [0, 1, 2, 3] ?_⟩
         clear hm hm'
         refine qd [⟨12, 0, 2⟩,⟨13, 0, 5⟩,⟨14, 0, 0⟩,⟨15, 0, 1⟩,⟨16, 0, 1⟩,⟨19, 0, 1⟩,⟨20, 0, 1⟩] 6 [0, 1, 2, 3] (jd_split 76 (!t_33) (by kernel_rfl) (fun hc_1207 => ?_) (fun hc_1207 => ?_))
         ·replace h := ifT hc_1207 h
          exact qd [⟨17, 0, 3⟩,⟨18, 0, 3⟩,⟨21, 0, 3⟩,⟨22, 0, 3⟩,⟨23, 0, 3⟩,⟨24, 0, 4⟩] 0 [0, 1, 2, 3] (qz (qm true h [0, 1, 2, 3]))
         ·replace h := ifF hc_1207 h
          obtain ⟨x_34, hx_1208, h⟩ := bd h
          refine qv 17 2 [0, 1, 2, 3] (fun w hm => idx_run (a := (o_144.map fun b => ⟨b, 0, none⟩)) (len := xs_2.length) (s := 1) (j := x_15) (by kernel_rfl) (ix_some hx_1208).1 (ltn hx_1208 hn_1122) (spo ho_1121 hx_1208)) (qv 18 2 [0, 1, 2, 3] (fun w hm => ld_run (b := aB (o_144.map fun b => ⟨b, 0, none⟩)) (off := (aO (o_144.map fun b => ⟨b, 0, none⟩) + x_15.toNat * 1)) (s := 1) (agg := false) (vs := (encI64 x_34)) (by kernel_rfl) (by kernel_rfl) (.inr rfl) ((hm.ow 1 o_144 3 xs_9 sp_146 (fun e => (ho_1121 e).1) encI64_len).at hx_1208)) ?_)
          obtain ⟨x_35, hx_1209, h⟩ := bd h
          exact qv 21 2 [0, 1, 2, 3] (fun w hm => idx_run (a := (o_144.map fun b => ⟨b, 0, none⟩)) (len := xs_2.length) (s := 1) (j := x_17) (by kernel_rfl) (ix_some hx_1209).1 (ltn hx_1209 hn_1122) (spo ho_1121 hx_1209)) (qv 22 2 [0, 1, 2, 3] (fun w hm => ld_run (b := aB (o_144.map fun b => ⟨b, 0, none⟩)) (off := (aO (o_144.map fun b => ⟨b, 0, none⟩) + x_17.toNat * 1)) (s := 1) (agg := false) (vs := (encI64 x_35)) (by kernel_rfl) (by kernel_rfl) (.inr rfl) ((hm.ow 1 o_144 3 xs_9 sp_146 (fun e => (ho_1121 e).1) encI64_len).at hx_1209)) (qd [⟨23, 0, 2⟩,⟨24, 0, 5⟩] 0 [0, 1, 2, 3] (qz (qm (x_34 == x_35) h [0, 1, 2, 3]))))
       ·rintro q_18 h
        replace h : spec_CheckTree.k_19 list1 t_4 xs_9 i_10 i_11 x_15 x_17 q_18 = some y_1124 := h
        rw [spec_CheckTree.k_19] at h
        refine jx_then (qi h (fun h => ?_) (fun h => ?_))
        ·refine jc_seq (jc_region (qh [0,0] (qe (jx_then (jc_ret (jx_thenr (jx_inr (jx_thenr (jx_leaver (.inl (false, 0)) (Option.some.inj h).symm (fun e_1151 => ?_))))))))))
         subst e_1151
         refine jx_inr (jx_thenr (jx_thenr ?_))
         obtain rfl := Option.some.inj hr_1123
         exact qr [] (fun w hm => ⟨rfl, hm.pk []⟩)
        ·refine jc_skip (jx_then (jc_seq (jc_region (qh [0,0,0] ?_))))
         obtain ⟨x_20, hx_1152, h⟩ := bd h
         refine tO (qx 0 (o_151.map fun b => ⟨b, 0, none⟩) 1 hx_1152 (hI_157.1.symm.trans rfl) (spo ho_155 (hI_157.ixh hx_1152)) (jkO (tO (ql 0 false (fun w hm => ((hm.ow 2 o_151 49 hh_156 sp_153 (fun e => (ho_155 e).1) encHd_len).at (hI_157.ixh hx_1152))) (jkO (qh [0] ?_))))))
         obtain ⟨x_21, hx_1153, h⟩ := bd h
         refine tO (qx 0 (hd hh_156 x_15).a 1 hx_1153 (hI_157.get hx_1152).1 (hI_157.sp hx_1152 hx_1153) (jkO (tO (ql 0 false (fun w hm => (((hm.cluInn 3 hI_157 encI64_len).get hx_1152).1.at hx_1153)) (jkO (qh [0,0] (qe (jx_then (jc_seq (jc_region (qh [0,0] ?_)))))))))))
         obtain ⟨x_22, hx_1154, h⟩ := bd h
         refine tO (qx 0 (o_144.map fun b => ⟨b, 0, none⟩) 1 hx_1154 hn_1122 (spo ho_1121 hx_1154) (jkO (tO (ql 0 false (fun w hm => ((hm.ow 1 o_144 3 xs_9 sp_146 (fun e => (ho_1121 e).1) encI64_len).at hx_1154)) (jkO (qh [0] (qe (jx_then (jc_seq (jc_region (qh [0,0] ?_)))))))))))
         obtain ⟨x_23, hx_1155, h⟩ := bd h
         refine tO (qx 0 (o_144.map fun b => ⟨b, 0, none⟩) 1 hx_1155 hn_1122 (spo ho_1121 hx_1155) (jkO (tO (ql 0 false (fun w hm => ((hm.ow 1 o_144 3 xs_9 sp_146 (fun e => (ho_1121 e).1) encI64_len).at hx_1155)) (jkO (qh [0] (qe (jx_then (jc_seq (jc_region (qh [0] (qe (jx_then (jc_meet (fun (j : (List Int)) => match j with | xs_24 => spec_CheckTree.k_25 i_10 i_11 x_21 xs_24 = some y_1124 ∧ (xs_24.length = xs_2.length) ∧ ((o_144 = none → xs_24 = [] ∧ cap_145 = 0))) (fun (j : (List Int)) => match j with | xs_24 => [(2, [], (.slice E_a tree2.length E_c)), (6, [], (.bool false)), (7, [], (.int .i64 0)), (9, [], (.int .i64 (list1.length : Int))), (10, [], (.slice (o_144.map fun b => ⟨b, 0, none⟩) xs_2.length cap_145)), (12, [], (.slice (o_151.map fun b => ⟨b, 0, none⟩) hh_156.length cap_152)), (13, [], (.int .i64 (w64 (i_10 + x_21)))), (14, [], (.int .i64 i_11))]) (fun (j : (List Int)) => match j with | xs_24 => [⟨some b_1, 34, [(.int .i16 f0.fSteps), (.slice C_a f0.fHammers.length C_c)]⟩, ⟨o_144, 3, row encI64 xs_24 sp_146⟩, ⟨o_151, 49, row encHd hh_156 sp_153⟩, ⟨none, CLU, cluC encI64 hh_156 t_4⟩]) ?_ ?_))))))))))))))
         ·refine jc_block ?_
          obtain ⟨t_29, ht_1203, hr_1195⟩ := bd h
          refine jc_loop (fun (s : (List Int) × Int) (x : Unit) => match s, x with | ⟨xs_26, i_27⟩, _ => (xs_26.length = xs_2.length) ∧ ((o_144 = none → xs_26 = [] ∧ cap_145 = 0))) (fun (s : (List Int) × Int) (x : Unit) => match s, x with | ⟨xs_26, i_27⟩, _ => [(2, [], (.slice E_a tree2.length E_c)), (6, [], (.bool false)), (7, [], (.int .i64 0)), (9, [], (.int .i64 (list1.length : Int))), (10, [], (.slice (o_144.map fun b => ⟨b, 0, none⟩) xs_2.length cap_145)), (12, [], (.slice (o_151.map fun b => ⟨b, 0, none⟩) hh_156.length cap_152)), (13, [], (.int .i64 (w64 (i_10 + x_21)))), (14, [], (.int .i64 i_11)), (17, [], (.int .i64 x_22)), (18, [], (.int .i64 x_23)), (19, [], (.int .i64 i_27))]) (fun (s : (List Int) × Int) (x : Unit) => match s, x with | ⟨xs_26, i_27⟩, _ => [⟨some b_1, 34, [(.int .i16 f0.fSteps), (.slice C_a f0.fHammers.length C_c)]⟩, ⟨o_144, 3, row encI64 xs_26 sp_146⟩, ⟨o_151, 49, row encHd hh_156 sp_153⟩, ⟨none, CLU, cluC encI64 hh_156 t_4⟩]) ht_1203 () ⟨hn_1122, ho_1121⟩ (by kernel_rfl) [0, 1, 2, 3] (by kernel_rfl) (by kernel_rfl) ?_
          rintro ⟨xs_26, i_27⟩ _ y_1196 ⟨hn_1194, ho_1193⟩ h
          rw [spec_CheckTree.l_28] at h
          refine jc_seq (jc_seq (jc_region (qh [0,0,0] (qe (jx_then (qi h (fun h => ?_) (fun h => ?_)))))))
          ·refine jc_skip (jx_then (jc_seq (jc_block (jc_seq (jc_region (qh [0,0] ?_))))))
           obtain ⟨x_30, hx_1199, h⟩ := bd h
           refine tO (qx 0 (o_144.map fun b => ⟨b, 0, none⟩) 1 hx_1199 hn_1194 (spo ho_1193 hx_1199) (jkO (tO (ql 0 false (fun w hm => ((hm.ow 1 o_144 3 xs_26 sp_146 (fun e => (ho_1193 e).1) encI64_len).at hx_1199)) (jkO (qh [0,0] (qe (jx_then (qi h (fun h => ?_) (fun h => ?_))))))))))
           ·refine jc_region (qh [0,0,0] ?_)
            obtain ⟨x_31, hx_1201, h⟩ := bd h
            exact tO (qx 0 (o_144.map fun b => ⟨b, 0, none⟩) 1 hx_1201 hn_1194 (spo ho_1193 hx_1201) (jkO (tO (p_strO 0 1 o_144 3 encI64 xs_26 sp_146 i_27 x_23 1 0 [(.int .i64 x_23)] (by kernel_rfl) (by kernel_rfl) (by kernel_rfl) (fun e => (ho_1193 e).1) encI64_len hx_1201 (by kernel_rfl) (by kernel_rfl) (jkO (qe (jx_inn (jx_then (jc_region (qh [0,0,0] (qe (qb ((xs_26.set i_27.toNat x_23), (w64 (i_27 + 1))) () h ⟨(List.length_set.trans hn_1194), (set_ho ho_1193)⟩ [0, 1, 2, 3]))))))))))))
           ·exact jc_skip (jx_inn (jx_then (jc_region (qh [0,0,0] (qe (qb (xs_26, (w64 (i_27 + 1))) () h ⟨hn_1194, ho_1193⟩ [0, 1, 2, 3]))))))
          ·refine jc_exit (jx_thenx (jx_leave xs_26 (Option.some.inj h).symm (fun e_1202 => ?_)))
           subst e_1202
           exact jx_ine (qm xs_26 ⟨hr_1195, hn_1194, ho_1193⟩ [0, 1, 2, 3])
         ·rintro xs_24 ⟨h, hn_1180, ho_1179⟩
          replace h : spec_CheckTree.k_25 i_10 i_11 x_21 xs_24 = some y_1124 := h
          rw [spec_CheckTree.k_25] at h
          exact jx_inn (jx_then (jc_region (qh [0,0,0] (qe (qb (xs_24, (w64 (i_10 + x_21)), (w64 (i_11 + 1))) () h ⟨hn_1180, ho_1179⟩ [0, 1, 2, 3])))))
      ·refine jc_exit (jx_thenx (jx_leave (.inr (xs_9, i_10)) (Option.some.inj h).symm (fun e_1210 => ?_)))
       subst e_1210
       exact jx_ine (qm ⟨xs_9, i_10⟩ ⟨hr_1123, hn_1122, ho_1121⟩ [0, 1, 2, 3])
     ·rintro ⟨xs_5, i_6⟩ ⟨h, hn_944, ho_943⟩
      replace h : spec_CheckTree.k_7 t_4 xs_5 i_6 = some r := h
      rw [spec_CheckTree.k_7] at h
      refine jx_then (jc_seq (jc_region (qh [0] ?_)))
      obtain ⟨t_8, ht_945, h⟩ := bd h
      refine tO (pc 0 (fun w hm => spec_l05Tree.calls t_4 w _ cap_152 (hm.ow 2 o_151 49 hh_156 sp_153 (fun e => (ho_155 e).1) encHd_len) (hI_157.1.symm.trans rfl) (hm.cluPass (N := []) 3 hI_157 encI64_len []) ht_945) ?_)
      rintro w v w' hm ⟨o_946, cap_947, sp_948, _, rfl, hs_949, ho_950, rfl, hm'⟩
      refine ⟨_, hm.app hm', jkO ?_⟩
      clear hm hm'
      refine qh [0,0,0,0,0] (qe (jx_then (jc_seq (jc_region (qh [0,0,0,0,0] (qe (jx_then (jc_ret ?_))))))))
      obtain rfl := Option.some.inj h
      exact qr [] (fun w hm => ⟨rfl, hm.pk []⟩)
/-! ### impl.size[[2]int64] -/
def impl_size_2int64 (list0 : List (Arr 2 Int)) : Option (Int) := some (list0.length : Int)
theorem impl_size_2int64.calls (list0 : List (Arr 2 Int)) (w : World) (r : Int) {A_a : Option Addr} {A_an : Nat} (A_c : Nat) (A_h : Rw w A_a 2 encA2I64 list0) (A_hn : list0.length = A_an) (h : impl_size_2int64 list0 = some r) :
    Calls Try.prog 67 #[(.slice A_a A_an A_c)] w fun e w' => ∃ v, e = .returned v ∧ (v = (.int .i64 r) ∧ Mem w [] [] w') := by
  subst A_hn
  rw [impl_size_2int64] at h
  refine enter (args := [(.slice A_a list0.length A_c)]) Try.func67 rfl Try.ntmps67 (by kernel_rfl) (L := []) (W := []) (Mem.start w) ?_
  refine jc_seq (jc_region (qh [0] (qe (jx_then (jc_seq (jc_region (qh [0,0,0] (qe (jx_then (jc_ret ?_))))))))))
  obtain rfl := Option.some.inj h
  exact qr [] (fun w hm => ⟨rfl, hm.pk []⟩)
/-! ### impl.CheckTree$1 -/
def impl_CheckTree_1 (p0 : Arr 2 Int) (p1 : Int) : Option (Bool) := (ix p0.1 0).bind fun x_1 => (ix p0.1 1).bind fun x_2 => (impl_within x_1 0 (w64 (x_2 - 1))).bind fun t_3 => (if (!t_3) = true then some true else (ix p0.1 1).bind fun x_4 => (impl_within x_4 0 (w64 (p1 - 1))).bind fun t_5 => some (!t_5))
theorem impl_CheckTree_1.calls (p0 : Arr 2 Int) (p1 : Int) (w : World) (r : Bool) (B_b : Nat) (hm0 : Mem w (bs [some B_b]) [⟨some B_b, 2, [(.int .i64 p1)]⟩] w) (h : impl_CheckTree_1 p0 p1 = some r) :
    Calls Try.prog 69 #[(.agg (row encI64 p0.1 []).toArray), (.pointer (some ⟨B_b, 0, none⟩))] w fun e w' => ∃ v, e = .returned v ∧ (v = (.bool r) ∧ Mem w (bs [some B_b]) [⟨some B_b, 2, [(.int .i64 p1)]⟩] w') := by
  rw [impl_CheckTree_1] at h
  refine enter (args := [(.agg (row encI64 p0.1 []).toArray), (.pointer (some ⟨B_b, 0, none⟩))]) Try.func69 rfl Try.ntmps69 (by kernel_rfl) (L := [⟨some B_b, 2, [(.int .i64 p1)]⟩]) (W := bs [some B_b]) hm0 ?_
  refine jc_seq (jc_region (tO (qa 0 (fun b_1 => jkO (qh [0] (qe (jx_then (jc_seq (jc_region ?_)))))))))
  obtain ⟨x_1, hx_2, h⟩ := bd h
  refine tO (qx 0 (some ⟨b_1, 0, none⟩) 1 hx_2 p0.2 rfl (jkO (tO (ql 0 false (fun w hm => ((hm.ow 1 (some b_1) 93 p0.1 [] (fun e => nomatch e) encI64_len).at hx_2)) (jkO ?_)))))
  obtain ⟨x_2, hx_3, h⟩ := bd h
  refine tO (qx 0 (some ⟨b_1, 0, none⟩) 1 hx_3 p0.2 rfl (jkO (tO (ql 0 false (fun w hm => ((hm.ow 1 (some b_1) 93 p0.1 [] (fun e => nomatch e) encI64_len).at hx_3)) (jkO (qh [0] ?_))))))
  obtain ⟨t_3, ht_4, h⟩ := bd h
  refine tO (pc 0 (fun w hm => impl_within.calls x_1 0 (w64 (x_2 - 1)) w _ ht_4) ?_)
  rintro w v w' hm ⟨rfl, hm'⟩
  refine ⟨_, hm.app hm', jkO ?_⟩
  clear hm hm'
  refine qh [0,0] (qp 11 h (fun h => ?_) (fun h => ?_))
  ·refine qf [(0, 3), (0, 3), (0, 3), (0, 3), (0, 3), (0, 3), (0, 4), (0, 0)] (qe (jx_then (jc_ret ?_)))
   obtain rfl := Option.some.inj h
   exact qr [] (fun w hm => ⟨rfl, hm.pk [0]⟩)
  ·obtain ⟨x_4, hx_6, h⟩ := bd h
   refine tO (qx 2 (some ⟨b_1, 0, none⟩) 1 hx_6 p0.2 rfl (jkO (tO (ql 2 false (fun w hm => ((hm.ow 1 (some b_1) 93 p0.1 [] (fun e => nomatch e) encI64_len).at hx_6)) (jkO (qf [(0, 2), (0, 2)] ?_))))))
   obtain ⟨t_5, ht_7, h⟩ := bd h
   refine tO (pc 2 (fun w hm => impl_within.calls x_4 0 (w64 (p1 - 1)) w _ ht_7) ?_)
   rintro w v w' hm ⟨rfl, hm'⟩
   refine ⟨_, hm.app hm', jkO ?_⟩
   clear hm hm'
   refine qf [(0, 2), (0, 5), (0, 0)] (qe (jx_then (jc_ret ?_)))
   obtain rfl := Option.some.inj h
   exact qr [] (fun w hm => ⟨rfl, hm.pk [0]⟩)
/-! ### slices.IndexFunc[[][2]int64,[2]int64] -/
def slices_IndexFunc_2int64_at_impl_CheckTree_1.k_1 : Option (Int) := some (-1)
def slices_IndexFunc_2int64_at_impl_CheckTree_1.l_3 (s0 : List (Arr 2 Int)) (g1c0 : Int) : Int → Option ((Int) ⊕ (Int ⊕ Unit))
  | i_2 => (if (decide (i_2 < (s0.length : Int))) = true then (ix s0 i_2).bind fun x_5 => (impl_CheckTree_1 x_5 g1c0).bind fun t_6 => (if t_6 = true then some (.inr (.inl i_2)) else some (.inl (w64 (i_2 + 1)))) else some (.inr (.inr ())))
def slices_IndexFunc_2int64_at_impl_CheckTree_1 (s0 : List (Arr 2 Int)) (g1c0 : Int) : Option (Int) := (loop (slices_IndexFunc_2int64_at_impl_CheckTree_1.l_3 s0 g1c0) 0).bind fun t_4 => match t_4 with | .inl p => some p | .inr p => slices_IndexFunc_2int64_at_impl_CheckTree_1.k_1
theorem slices_IndexFunc_2int64_at_impl_CheckTree_1.calls (s0 : List (Arr 2 Int)) (g1c0 : Int) (w : World) (r : Int) {A_a : Option Addr} {A_an : Nat} (A_c : Nat) (A_h : Rw w A_a 2 encA2I64 s0) (A_hn : s0.length = A_an) (B_b : Nat) (hm0 : Mem w (bs [some B_b]) [⟨some B_b, 2, [(.int .i64 g1c0)]⟩] w) (A_ha : s0 ≠ [] → aB A_a ∉ bs [some B_b]) (h : slices_IndexFunc_2int64_at_impl_CheckTree_1 s0 g1c0 = some r) :
    Calls Try.prog 113 #[(.slice A_a A_an A_c), (.func (.func 69) #[] #[(.pointer (some ⟨B_b, 0, none⟩))])] w fun e w' => ∃ v, e = .returned v ∧ (v = (.int .i64 r) ∧ Mem w (bs [some B_b]) [⟨some B_b, 2, [(.int .i64 g1c0)]⟩] w') := by
  subst A_hn
  rw [slices_IndexFunc_2int64_at_impl_CheckTree_1] at h
  refine enter (args := [(.slice A_a s0.length A_c), (.func (.func 69) #[] #[(.pointer (some ⟨B_b, 0, none⟩))])]) Try.func113 rfl Try.ntmps113 (by kernel_rfl) (L := [⟨some B_b, 2, [(.int .i64 g1c0)]⟩]) (W := bs [some B_b]) hm0 ?_
  refine jc_seq (jc_region (qh [0] (qe (jx_then (jc_seq (jc_seq (jc_region (qh [0,0,0] (qe (jx_then (jc_meet (fun (_ : Unit) => slices_IndexFunc_2int64_at_impl_CheckTree_1.k_1 = some r) (fun (_ : Unit) => [(4, [], (.int .i64 0))]) (fun (_ : Unit) => [⟨some B_b, 2, [(.int .i64 g1c0)]⟩]) ?_ ?_)))))))))))
  ·refine jc_block ?_
   obtain ⟨t_4, ht_40, hr_31⟩ := bd h
   refine jc_loop (fun (s : Int) (x : Unit) => match s, x with | i_2, _ => True) (fun (s : Int) (x : Unit) => match s, x with | i_2, _ => [(0, [], (.slice A_a s0.length A_c)), (1, [], (.func (.func 69) #[] #[(.pointer (some ⟨B_b, 0, none⟩))])), (4, [], (.int .i64 0)), (7, [], (.int .i64 (s0.length : Int))), (8, [], (.int .i64 i_2))]) (fun (s : Int) (x : Unit) => match s, x with | i_2, _ => [⟨some B_b, 2, [(.int .i64 g1c0)]⟩]) ht_40 () trivial (by kernel_rfl) [0] (by kernel_rfl) (by kernel_rfl) ?_
   rintro i_2 _ y_32 _ h
   rw [slices_IndexFunc_2int64_at_impl_CheckTree_1.l_3] at h
   refine jc_seq (jc_region (qh [0] (qe (jx_then (jc_seq (qi h (fun h => ?_) (fun h => ?_)))))))
   ·refine jc_skip (jx_then (jc_seq (jc_block (jc_seq (jc_region (qh [0,0] (qe (jx_then (jc_seq (jc_region (qh [0,0,0] ?_)))))))))))
    obtain ⟨x_5, hx_35, h⟩ := bd h
    refine tO (qx 0 A_a 2 hx_35 rfl (A_h.sp hx_35) (jkO (tO (p_ldx 0 (aB A_a) (aO A_a + i_2.toNat * 2) (encA2I64 x_5) 2 (by kernel_rfl) (by kernel_rfl) (encA2I64_len x_5) (fun w hm => ((hm.exRowW A_h A_ha).at hx_35)) (jkO ?_)))))
    obtain ⟨t_6, ht_36, h⟩ := bd h
    refine tO (pc 0 (fun w hm => impl_CheckTree_1.calls x_5 g1c0 w _ B_b (hm.pass (N := [⟨some B_b, 2, [(.int .i64 g1c0)]⟩]) [0] (by kernel_rfl) (by kernel_rfl)) ht_36) ?_)
    rintro w v w' hm ⟨rfl, hm'⟩
    refine ⟨_, hm.appW (ps := [(0, ⟨some B_b, 2, [(.int .i64 g1c0)]⟩)]) (N := []) hm' (by kernel_rfl) (by kernel_rfl), jkO ?_⟩
    clear hm hm'
    refine qe (jx_then (qi h (fun h => ?_) (fun h => ?_)))
    ·refine jc_seq (jc_region (qh [0,0] (qe (jx_then (jc_ret (jx_inr (jx_thenr (jx_leaver (.inl i_2) (Option.some.inj h).symm (fun e_38 => ?_)))))))))
     subst e_38
     refine jx_inr (jx_thenr (jx_thenr ?_))
     obtain rfl := Option.some.inj hr_31
     exact qr [] (fun w hm => ⟨rfl, hm.pk [0]⟩)
    ·exact jc_skip (jx_inn (jx_then (jc_region (qh [0,0] (qe (qb (w64 (i_2 + 1)) () h trivial [0]))))))
   ·refine jc_exit (jx_thenx (jx_leave (.inr ()) (Option.some.inj h).symm (fun e_39 => ?_)))
    subst e_39
    exact jx_ine (qm () hr_31 [0])
  ·rintro _ h
   replace h : slices_IndexFunc_2int64_at_impl_CheckTree_1.k_1 = some r := h
   rw [slices_IndexFunc_2int64_at_impl_CheckTree_1.k_1] at h
   refine jx_then (jc_seq (jc_region (qh [0] (qe (jx_then (jc_ret ?_))))))
   obtain rfl := Option.some.inj h
   exact qr [] (fun w hm => ⟨rfl, hm.pk [0]⟩)
/-! ### slices.ContainsFunc[[][2]int64,[2]int64] -/
def slices_ContainsFunc_2int64_at_impl_CheckTree_1 (s0 : List (Arr 2 Int)) (g1c0 : Int) : Option (Bool) := (slices_IndexFunc_2int64_at_impl_CheckTree_1 s0 g1c0).bind fun t_1 => some (decide (t_1 ≥ 0))
theorem slices_ContainsFunc_2int64_at_impl_CheckTree_1.calls (s0 : List (Arr 2 Int)) (g1c0 : Int) (w : World) (r : Bool) {A_a : Option Addr} {A_an : Nat} (A_c : Nat) (A_h : Rw w A_a 2 encA2I64 s0) (A_hn : s0.length = A_an) (B_b : Nat) (hm0 : Mem w (bs [some B_b]) [⟨some B_b, 2, [(.int .i64 g1c0)]⟩] w) (A_ha : s0 ≠ [] → aB A_a ∉ bs [some B_b]) (h : slices_ContainsFunc_2int64_at_impl_CheckTree_1 s0 g1c0 = some r) :
    Calls Try.prog 68 #[(.slice A_a A_an A_c), (.func (.func 69) #[] #[(.pointer (some ⟨B_b, 0, none⟩))])] w fun e w' => ∃ v, e = .returned v ∧ (v = (.bool r) ∧ Mem w (bs [some B_b]) [⟨some B_b, 2, [(.int .i64 g1c0)]⟩] w') := by
  subst A_hn
  rw [slices_ContainsFunc_2int64_at_impl_CheckTree_1] at h
  refine enter (args := [(.slice A_a s0.length A_c), (.func (.func 69) #[] #[(.pointer (some ⟨B_b, 0, none⟩))])]) Try.func68 rfl Try.ntmps68 (by kernel_rfl) (L := [⟨some B_b, 2, [(.int .i64 g1c0)]⟩]) (W := bs [some B_b]) hm0 ?_
  refine jc_seq (jc_region (qh [0] (qe (jx_then (jc_seq (jc_region (qh [0,0] ?_)))))))
  obtain ⟨t_1, ht_1, h⟩ := bd h
  refine tO (pc 0 (fun w hm => slices_IndexFunc_2int64_at_impl_CheckTree_1.calls s0 g1c0 w _ A_c (hm.exRowW A_h A_ha) rfl B_b (hm.pass (N := [⟨some B_b, 2, [(.int .i64 g1c0)]⟩]) [0] (by kernel_rfl) (by kernel_rfl)) (hm.exApart (N := [⟨some B_b, 2, [(.int .i64 g1c0)]⟩]) A_h A_ha [0] (by kernel_rfl)) ht_1) ?_)
  rintro w v w' hm ⟨rfl, hm'⟩
  refine ⟨_, hm.appW (ps := [(0, ⟨some B_b, 2, [(.int .i64 g1c0)]⟩)]) (N := []) hm' (by kernel_rfl) (by kernel_rfl), jkO ?_⟩
  clear hm hm'
  refine qh [0,0] (qe (jx_then (jc_ret ?_)))
  obtain rfl := Option.some.inj h
  exact qr [] (fun w hm => ⟨rfl, hm.pk [0]⟩)
/-! ### impl.CheckTree$2 -/
def impl_CheckTree_2 (i0 : Int) : Option (Bool) := some (i0 != 0)
theorem impl_CheckTree_2.calls (i0 : Int) (w : World) (r : Bool) (h : impl_CheckTree_2 i0 = some r) :
    Calls Try.prog 72 #[(.int .i64 i0)] w fun e w' => ∃ v, e = .returned v ∧ (v = (.bool r) ∧ Mem w [] [] w') := by
  rw [impl_CheckTree_2] at h
  refine enter (args := [(.int .i64 i0)]) Try.func72 rfl Try.ntmps72 (by kernel_rfl) (L := []) (W := []) (Mem.start w) ?_
  refine jc_seq (jc_region (qh [0] (qe (jx_then (jc_seq (jc_region (qh [0,0,0] (qe (jx_then (jc_ret ?_))))))))))
  obtain rfl := Option.some.inj h
  exact qr [] (fun w hm => ⟨rfl, hm.pk []⟩)
/-! ### slices.IndexFunc[[]int64,int64] -/
def slices_IndexFunc_int64_at_impl_CheckTree_2.k_1 : Option (Int) := some (-1)
def slices_IndexFunc_int64_at_impl_CheckTree_2.l_3 (s0 : List Int) : Int → Option ((Int) ⊕ (Int ⊕ Unit))
  | i_2 => (if (decide (i_2 < (s0.length : Int))) = true then (ix s0 i_2).bind fun x_5 => (impl_CheckTree_2 x_5).bind fun t_6 => (if t_6 = true then some (.inr (.inl i_2)) else some (.inl (w64 (i_2 + 1)))) else some (.inr (.inr ())))
def slices_IndexFunc_int64_at_impl_CheckTree_2 (s0 : List Int) : Option (Int) := (loop (slices_IndexFunc_int64_at_impl_CheckTree_2.l_3 s0) 0).bind fun t_4 => match t_4 with | .inl p => some p | .inr p => slices_IndexFunc_int64_at_impl_CheckTree_2.k_1
theorem slices_IndexFunc_int64_at_impl_CheckTree_2.calls (s0 : List Int) (w : World) (r : Int) {A_a : Option Addr} {A_an : Nat} (A_c : Nat) (A_h : Rw w A_a 1 encI64 s0) (A_hn : s0.length = A_an) (h : slices_IndexFunc_int64_at_impl_CheckTree_2 s0 = some r) :
    Calls Try.prog 114 #[(.slice A_a A_an A_c), (.func (.func 72) #[] #[])] w fun e w' => ∃ v, e = .returned v ∧ (v = (.int .i64 r) ∧ Mem w [] [] w') := by
  subst A_hn
  rw [slices_IndexFunc_int64_at_impl_CheckTree_2] at h
  refine enter (args := [(.slice A_a s0.length A_c), (.func (.func 72) #[] #[])]) Try.func114 rfl Try.ntmps114 (by kernel_rfl) (L := []) (W := []) (Mem.start w) ?_
  refine jc_seq (jc_region (qh [0] (qe (jx_then (jc_seq (jc_seq (jc_region (qh [0,0,0] (qe (jx_then (jc_meet (fun (_ : Unit) => slices_IndexFunc_int64_at_impl_CheckTree_2.k_1 = some r) (fun (_ : Unit) => [(4, [], (.int .i64 0))]) (fun (_ : Unit) => []) ?_ ?_)))))))))))
  ·refine jc_block ?_
   obtain ⟨t_4, ht_40, hr_31⟩ := bd h
   refine jc_loop (fun (s : Int) (x : Unit) => match s, x with | i_2, _ => True) (fun (s : Int) (x : Unit) => match s, x with | i_2, _ => [(0, [], (.slice A_a s0.length A_c)), (1, [], (.func (.func 72) #[] #[])), (4, [], (.int .i64 0)), (7, [], (.int .i64 (s0.length : Int))), (8, [], (.int .i64 i_2))]) (fun (s : Int) (x : Unit) => match s, x with | i_2, _ => []) ht_40 () trivial (by kernel_rfl) [] (by kernel_rfl) (by kernel_rfl) ?_
   rintro i_2 _ y_32 _ h
   rw [slices_IndexFunc_int64_at_impl_CheckTree_2.l_3] at h
   refine jc_seq (jc_region (qh [0] (qe (jx_then (jc_seq (qi h (fun h => ?_) (fun h => ?_)))))))
   ·refine jc_skip (jx_then (jc_seq (jc_block (jc_seq (jc_region (qh [0,0] (qe (jx_then (jc_seq (jc_region (qh [0,0,0] ?_)))))))))))
    obtain ⟨x_5, hx_35, h⟩ := bd h
    refine tO (qx 0 A_a 1 hx_35 rfl (A_h.sp hx_35) (jkO (tO (ql 0 false (fun w hm => ((hm.xr A_h).at hx_35)) (jkO ?_)))))
    obtain ⟨t_6, ht_36, h⟩ := bd h
    refine tO (pc 0 (fun w hm => impl_CheckTree_2.calls x_5 w _ ht_36) ?_)
    rintro w v w' hm ⟨rfl, hm'⟩
    refine ⟨_, hm.app hm', jkO ?_⟩
    clear hm hm'
    refine qe (jx_then (qi h (fun h => ?_) (fun h => ?_)))
    ·refine jc_seq (jc_region (qh [0,0] (qe (jx_then (jc_ret (jx_inr (jx_thenr (jx_leaver (.inl i_2) (Option.some.inj h).symm (fun e_38 => ?_)))))))))
     subst e_38
     refine jx_inr (jx_thenr (jx_thenr ?_))
     obtain rfl := Option.some.inj hr_31
     exact qr [] (fun w hm => ⟨rfl, hm.pk []⟩)
    ·exact jc_skip (jx_inn (jx_then (jc_region (qh [0,0] (qe (qb (w64 (i_2 + 1)) () h trivial []))))))
   ·refine jc_exit (jx_thenx (jx_leave (.inr ()) (Option.some.inj h).symm (fun e_39 => ?_)))
    subst e_39
    exact jx_ine (qm () hr_31 [])
  ·rintro _ h
   replace h : slices_IndexFunc_int64_at_impl_CheckTree_2.k_1 = some r := h
   rw [slices_IndexFunc_int64_at_impl_CheckTree_2.k_1] at h
   refine jx_then (jc_seq (jc_region (qh [0] (qe (jx_then (jc_ret ?_))))))
   obtain rfl := Option.some.inj h
   exact qr [] (fun w hm => ⟨rfl, hm.pk []⟩)
/-! ### slices.ContainsFunc[[]int64,int64] -/
def slices_ContainsFunc_int64_at_impl_CheckTree_2 (s0 : List Int) : Option (Bool) := (slices_IndexFunc_int64_at_impl_CheckTree_2 s0).bind fun t_1 => some (decide (t_1 ≥ 0))
theorem slices_ContainsFunc_int64_at_impl_CheckTree_2.calls (s0 : List Int) (w : World) (r : Bool) {A_a : Option Addr} {A_an : Nat} (A_c : Nat) (A_h : Rw w A_a 1 encI64 s0) (A_hn : s0.length = A_an) (h : slices_ContainsFunc_int64_at_impl_CheckTree_2 s0 = some r) :
    Calls Try.prog 71 #[(.slice A_a A_an A_c), (.func (.func 72) #[] #[])] w fun e w' => ∃ v, e = .returned v ∧ (v = (.bool r) ∧ Mem w [] [] w') := by
  subst A_hn
  rw [slices_ContainsFunc_int64_at_impl_CheckTree_2] at h
  refine enter (args := [(.slice A_a s0.length A_c), (.func (.func 72) #[] #[])]) Try.func71 rfl Try.ntmps71 (by kernel_rfl) (L := []) (W := []) (Mem.start w) ?_
  refine jc_seq (jc_region (qh [0] (qe (jx_then (jc_seq (jc_region (qh [0,0] ?_)))))))
  obtain ⟨t_1, ht_1, h⟩ := bd h
  refine tO (pc 0 (fun w hm => slices_IndexFunc_int64_at_impl_CheckTree_2.calls s0 w _ A_c (hm.xr A_h) rfl ht_1) ?_)
  rintro w v w' hm ⟨rfl, hm'⟩
  refine ⟨_, hm.app hm', jkO ?_⟩
  clear hm hm'
  refine qh [0,0] (qe (jx_then (jc_ret ?_)))
  obtain rfl := Option.some.inj h
  exact qr [] (fun w hm => ⟨rfl, hm.pk []⟩)
/-! ### slices.Clone[[][2]int64,[2]int64] -/
def slices_Clone_2int64 (s0 : List (Arr 2 Int)) : Option ((List (Arr 2 Int))) := (if ([] : List (Arr 2 Int)).length + s0.length ≤ 4294967296 then some (([] : List (Arr 2 Int)) ++ s0) else none)
theorem slices_Clone_2int64.calls (s0 : List (Arr 2 Int)) (w : World) (r : (List (Arr 2 Int))) {A_a : Option Addr} {A_an : Nat} (A_c : Nat) (A_h : Rw w A_a 2 encA2I64 s0) (A_hn : s0.length = A_an) (h : slices_Clone_2int64 s0 = some r) :
    Calls Try.prog 74 #[(.slice A_a A_an A_c)] w fun e w' => ∃ v, e = .returned v ∧ (∃ (o0 : Option Nat) (c0 : Nat) (s0 : List Value) (n0 : Nat), r.length = n0 ∧ (o0 ≠ none → n0 ≤ c0 ∧ s0.length = (c0 - n0) * 2) ∧ (o0 = none → r = [] ∧ c0 = 0) ∧ v = .slice (o0.map fun b => ⟨b, 0, none⟩) n0 c0 ∧ Mem w [] [⟨o0, 93, row encA2I64 r s0⟩] w') := by
  subst A_hn
  rw [slices_Clone_2int64] at h
  refine enter (args := [(.slice A_a s0.length A_c)]) Try.func74 rfl Try.ntmps74 (by kernel_rfl) (L := []) (W := []) (Mem.start w) ?_
  refine jc_seq (jc_region (qh [0] (qe (jx_then (jc_seq (jc_seq (jc_region (qh [0] ?_))))))))
  by_cases hn_4 : A_a = none
  ·have hx0 : s0 = [] := (nil_of A_h hn_4)
   replace h : some [] = some r := by simpa [hx0] using h
   refine tO (p_nil 0 A_a true true (by kernel_rfl) (by kernel_rfl) (by rw [hn_4]; rfl) (jkO (qe (jx_then (jc_cond true (by kernel_rfl) (fun hc_5 => (jc_seq (jc_region (qh [0] (qe (jx_then (jc_ret (jx_thenr ?_)))))))) (fun hc_5 => nomatch hc_5))))))
   obtain rfl := Option.some.inj h
   exact jx_ghost 93 encA2I64 (qr [] (fun w hm => ⟨none, 0, [], 0, rfl, (fun e => absurd rfl e), (fun _ => ⟨rfl, rfl⟩), rfl, hm.pk [0]⟩))
  ·refine tO (p_nil 0 A_a true false (by kernel_rfl) (by kernel_rfl) (by rw [Option.isNone_eq_false_iff.2 (Option.ne_none_iff_isSome.1 hn_4)]; rfl) (jkO (qe (jx_then (jc_cond false (by kernel_rfl) (fun hc_6 => nomatch hc_6) (fun hc_6 => (jc_skip (jx_then (jc_seq (jc_region (tO (qa 0 (fun b_7 => jkO (qh [0] ?_))))))))))))))
   obtain ⟨hg_8, h⟩ := gd h
   refine tO (p_apn 0 0 (some b_7) 93 0 s0.length 0 2 16 A_a encA2I64 ([] : List (Arr 2 Int)) s0 [] (.agg (row encI64 (Arr.rep 2 0).1 []).toArray) rfl rfl (by kernel_rfl) (by kernel_rfl) (by kernel_rfl) encA2I64_len encA2I64_cell (fun _ => ⟨Nat.le_refl _, by simp⟩) (fun e => nomatch e) (fun w hm => (hm.xr A_h)) hg_8 (by kernel_rfl) (by kernel_rfl) (fun o_9 cap_10 sp_11 hs_12 ho_13 => jkO (qh [0] (qe (jx_then (jc_ret ?_))))))
   obtain rfl := Option.some.inj h
   exact qr [] (fun w hm => ⟨o_9, cap_10, sp_11, ((([] : List (Arr 2 Int)) ++ s0).length), rfl, hs_12, ho_13, rfl, hm.pk [0]⟩)
/-! ### slices.Delete[[][2]int64,[2]int64] -/
def slices_Delete_2int64 (s0 : List (Arr 2 Int)) (i1 : Int) (j2 : Int) : Option ((List (Arr 2 Int))) := (if 0 ≤ i1 ∧ i1 ≤ j2 ∧ j2 ≤ (s0.length : Int) ∧ (s0.length : Int) ≤ (s0.length : Int) then (if (i1 == j2) = true then some s0 else (if 0 ≤ i1 ∧ i1 ≤ (s0.length : Int) then (if 0 ≤ j2 ∧ j2 ≤ (s0.length : Int) then (if i1.toNat + (s0.drop j2.toNat).length ≤ s0.length then some (s0.take i1.toNat ++ (s0.drop j2.toNat)) else none) else none) else none)) else none)
theorem slices_Delete_2int64.calls (s0 : List (Arr 2 Int)) (i1 : Int) (j2 : Int) (w : World) (r : (List (Arr 2 Int))) (A_o : Option Nat) {A_on : Nat} {A_c : Nat} {A_sp : List Value} (A_hn : s0.length = A_on) (A_hs : A_o ≠ none → A_on ≤ A_c ∧ A_sp.length = (A_c - A_on) * 2) (A_ho : A_o = none → s0 = [] ∧ A_c = 0) (hm0 : Mem w (bs [A_o]) [⟨A_o, 93, row encA2I64 s0 A_sp⟩] w) (h : slices_Delete_2int64 s0 i1 j2 = some r) :
    Calls Try.prog 73 #[(.slice (A_o.map fun b => ⟨b, 0, none⟩) A_on A_c), (.int .i64 i1), (.int .i64 j2)] w fun e w' => ∃ v, e = .returned v ∧ (∃ (o0 : Option Nat) (c0 : Nat) (s0 : List Value) (n0 : Nat), r.length = n0 ∧ (o0 ≠ none → n0 ≤ c0 ∧ s0.length = (c0 - n0) * 2) ∧ (o0 = none → r = [] ∧ c0 = 0) ∧ v = .slice (o0.map fun b => ⟨b, 0, none⟩) n0 c0 ∧ Mem w (bs [A_o]) [⟨o0, 93, row encA2I64 r s0⟩] w') := by
  subst A_hn
  rw [slices_Delete_2int64] at h
  refine enter (args := [(.slice (A_o.map fun b => ⟨b, 0, none⟩) s0.length A_c), (.int .i64 i1), (.int .i64 j2)]) Try.func73 rfl Try.ntmps73 (by kernel_rfl) (L := [⟨A_o, 93, row encA2I64 s0 A_sp⟩]) (W := bs [A_o]) hm0 ?_
  refine jc_seq (jc_region (qh [0] (qe (jx_then (jc_seq (jc_region (qh [0,0,0,0,0] ?_)))))))
  obtain ⟨hg_1, h⟩ := gd h
  refine tO (p_slM 0 (A_o.map fun b => ⟨b, 0, none⟩) s0.length A_c 2 i1 j2 (s0.length : Int) (by kernel_rfl) (by kernel_rfl) hg_1.1 hg_1.2.1 hg_1.2.2.1 (Int.le_trans hg_1.2.2.2 (Int.ofNat_le.2 (cap_le rfl A_hs A_ho))) (jkO (qe (jx_then (jc_seq (jc_seq (jc_region (qh [0,0,0] (qe (jx_then (qi h (fun h => ?_) (fun h => ?_))))))))))))
  ·refine jc_seq (jc_region (qh [0,0] (qe (jx_then (jc_ret (jx_thenr ?_))))))
   obtain rfl := Option.some.inj h
   exact qr [] (fun w hm => ⟨A_o, A_c, A_sp, s0.length, rfl, A_hs, A_ho, rfl, hm.pk [0]⟩)
  ·refine jc_skip (jx_then (jc_seq (jc_region (qh [0,0,0] (qe (jx_then (jc_seq (qg [] 8 (qd [⟨0, 0, 0⟩,⟨1, 0, 0⟩,⟨3, 0, 0⟩,⟨4, 0, 0⟩] 4 [] ?_)))))))))
   obtain ⟨hg_6, h⟩ := gd h
   refine qv 2 0 [] (fun w hm => slH_run (a := (A_o.map fun b => ⟨b, 0, none⟩)) (len := s0.length) (cap := A_c) (size := 2) (h := i1) (by kernel_rfl) hg_6.1 (Int.le_trans hg_6.2 (Int.ofNat_le.2 (cap_le rfl A_hs A_ho)))) ?_
   obtain ⟨hg_7, h⟩ := gd h
   refine qv 5 0 [] (fun w hm => slL_run (a := (A_o.map fun b => ⟨b, 0, none⟩)) (len := s0.length) (cap := A_c) (size := 2) (l := j2) (by kernel_rfl) hg_7.1 (Int.le_trans hg_7.2 (Int.ofNat_le.2 (Nat.le_of_eq rfl)))) ?_
   obtain ⟨hg_8, h⟩ := gd h
   refine tD 6 (p_apN 0 0 A_o 93 i1.toNat s0.length (s0.length - j2.toNat) A_c 2 16 (pa (A_o.map fun b => ⟨b, 0, none⟩) j2.toNat A_c 2) encA2I64 s0 (s0.drop j2.toNat) A_sp hg_8 rfl (tl_len rfl j2) (by kernel_rfl) (by kernel_rfl) (by kernel_rfl) encA2I64_len encA2I64_cell A_hs A_ho (fun w hm => ((hm.ow 0 A_o 93 s0 A_sp (fun e => (A_ho e).1) encA2I64_len).tl j2.toNat A_c (cap_le rfl A_hs A_ho))) (fun sp_11 hs_12 ho_13 => kD [] (qd [⟨7, 0, 0⟩] 0 [] (qz (jx_then (jc_seq (jc_region (qh [0,0,0,0] (tO (p_slLH 0 (A_o.map fun b => ⟨b, 0, none⟩) ((s0.take i1.toNat ++ (s0.drop j2.toNat)).length) A_c 2 (((s0.take i1.toNat ++ (s0.drop j2.toNat)).length) : Int) (s0.length : Int) (by kernel_rfl) (by kernel_rfl) (by omega) (Int.ofNat_le.2 (Nat.le_trans (apn_le hg_8) (Nat.le_of_eq rfl))) (Int.ofNat_le.2 (show s0.length ≤ A_c by have := (cap_le rfl A_hs A_ho); have : s0.length = s0.length := rfl; omega)) (jkO (tO (p_clr 0 0 A_o 93 ((((s0.take i1.toNat ++ (s0.drop j2.toNat)).length) : Int).toNat) ((s0.take i1.toNat ++ (s0.drop j2.toNat)).length) ((s0.length : Int).toNat - (((s0.take i1.toNat ++ (s0.drop j2.toNat)).length) : Int).toNat) A_c 2 (encA2I64 (Arr.rep 2 0)) encA2I64 (s0.take i1.toNat ++ (s0.drop j2.toNat)) sp_11 rfl (by omega) (by kernel_rfl) (by kernel_rfl) (by kernel_rfl) encA2I64_len (by kernel_rfl) hs_12 ho_13 (by have := (show s0.length ≤ A_c by have := (cap_le rfl A_hs A_ho); have : s0.length = s0.length := rfl; omega); have := (Nat.le_trans (apn_le hg_8) (Nat.le_of_eq rfl)); omega) (fun sp_15 hl_16 => jkO (qe (jx_then (jc_seq (jc_region (qh [0,0] (qe (jx_then (jc_ret ?_))))))))))))))))))))))
   obtain rfl := Option.some.inj h
   exact qr [] (fun w hm => ⟨A_o, A_c, sp_15, ((s0.take i1.toNat ++ (s0.drop j2.toNat)).length), rfl, (fun e => ⟨(hs_12 e).1, hl_16.trans (hs_12 e).2⟩), ho_13, rfl, hm.pk [0]⟩)
/-! ### impl.CheckTree -/
def impl_CheckTree.k_8 : Option (Bool × Int) := some (true, 0)
def impl_CheckTree.k_17 (i_9 : Int) : Option ((Int) ⊕ ((Bool × Int) ⊕ Unit)) := some (.inl (w64 (i_9 + 1)))
def impl_CheckTree.k_23 (i_18 : Int) (q_22 : Bool) : Option ((Int) ⊕ ((Bool × Int) ⊕ Unit)) := (if q_22 = true then some (.inr (.inl (false, 0))) else some (.inl (w64 (i_18 + 1))))
def impl_CheckTree.l_19 (t_5 : (List (List Int))) (x_12 : Arr 2 Int) (t_15 : (List Int)) (t_16 : (List (Arr 2 Int))) : Int → Option ((Int) ⊕ ((Bool × Int) ⊕ Unit))
  | i_18 => (if (decide (i_18 < (t_16.length : Int))) = true then (ix t_16 i_18).bind fun x_21 => (ix x_21.1 0).bind fun x_24 => (ix t_15 x_24).bind fun x_25 => (ix x_21.1 1).bind fun x_26 => (ix t_15 x_26).bind fun x_27 => (if (x_25 != x_27) = true then (ix x_21.1 0).bind fun x_28 => (ix t_5 x_28).bind fun x_29 => (ix x_21.1 1).bind fun x_30 => (ix x_29 x_30).bind fun x_31 => (ix x_12.1 0).bind fun x_32 => (ix t_5 x_32).bind fun x_33 => (ix x_12.1 1).bind fun x_34 => (ix x_33 x_34).bind fun x_35 => impl_CheckTree.k_23 i_18 (decide (x_31 < x_35)) else impl_CheckTree.k_23 i_18 false) else some (.inr (.inr ())))
def impl_CheckTree.l_10 (list1 : List (Arr 96 Int)) (tree2 : List (Arr 2 Int)) (t_5 : (List (List Int))) : Int → Option ((Int) ⊕ ((Bool × Int) ⊕ Unit))
  | i_9 => (if (decide (i_9 < (tree2.length : Int))) = true then (ix tree2 i_9).bind fun x_12 => (slices_Clone_2int64 tree2).bind fun t_13 => (slices_Delete_2int64 t_13 i_9 (w64 (i_9 + 1))).bind fun t_14 => (impl_joined (list1.length : Int) t_14).bind fun t_15 => (impl_pairsOf t_5).bind fun t_16 => (loop (impl_CheckTree.l_19 t_5 x_12 t_15 t_16) 0).bind fun t_20 => match t_20 with | .inl p => some (.inr (.inl p)) | .inr p => impl_CheckTree.k_17 i_9 else some (.inr (.inr ())))
def impl_CheckTree.k_4 (list1 : List (Arr 96 Int)) (tree2 : List (Arr 2 Int)) (q_3 : Bool) : Option (Bool × Int) := (if q_3 = true then some (false, 0) else (impl_costs list1).bind fun t_5 => (impl_joined (list1.length : Int) tree2).bind fun t_6 => (slices_ContainsFunc_int64_at_impl_CheckTree_2 t_6).bind fun t_7 => (if t_7 = true then some (false, 0) else (loop (impl_CheckTree.l_10 list1 tree2 t_5) 0).bind fun t_11 => match t_11 with | .inl p => some p | .inr p => impl_CheckTree.k_8))
def impl_CheckTree (f0 : GFrame) (list1 : List (Arr 96 Int)) (tree2 : List (Arr 2 Int)) : Option (Bool × Int) := (impl_listCode f0 list1).bind fun t_1 => (if (t_1 != 0) = true then some (false, t_1) else (impl_size_Drum list1).bind fun t_2 => (impl_size_2int64 tree2).bind fun t_36 => (if (t_36 != (w64 (t_2 - 1))) = true then impl_CheckTree.k_4 list1 tree2 true else (slices_ContainsFunc_2int64_at_impl_CheckTree_1 tree2 t_2).bind fun t_37 => impl_CheckTree.k_4 list1 tree2 t_37))
set_option maxHeartbeats 8000000 in
theorem impl_CheckTree.calls (f0 : GFrame) (list1 : List (Arr 96 Int)) (tree2 : List (Arr 2 Int)) (w : World) (r : Bool × Int) {C_a : Option Addr} {C_an : Nat} (C_c : Nat) (C_h : Rw w C_a 2 encGHammer f0.fHammers) (C_hn : f0.fHammers.length = C_an) {D_a : Option Addr} {D_an : Nat} (D_c : Nat) (D_h : Rw w D_a 96 encA96U32 list1) (D_hn : list1.length = D_an) {E_a : Option Addr} {E_an : Nat} (E_c : Nat) (E_h : Rw w E_a 2 encA2I64 tree2) (E_hn : tree2.length = E_an) (h : impl_CheckTree f0 list1 tree2 = some r) :
    Calls Try.prog 26 #[(.agg #[(.int .i16 f0.fSteps), (.slice C_a C_an C_c)]), (.slice D_a D_an D_c), (.slice E_a E_an E_c)] w fun e w' => ∃ v, e = .returned v ∧ (v = .tuple #[(.bool r.1), (.int .i64 r.2)] ∧ Mem w [] [] w') := by
  subst C_hn D_hn E_hn
  rw [impl_CheckTree] at h
  refine enter (args := [(.agg #[(.int .i16 f0.fSteps), (.slice C_a f0.fHammers.length C_c)]), (.slice D_a list1.length D_c), (.slice E_a tree2.length E_c)]) Try.func26 rfl Try.ntmps26 (by kernel_rfl) (L := []) (W := []) (Mem.start w) ?_
  refine jc_seq (jc_region (tO (qa 0 (fun b_1 => jkO (qh [0,0] (qe (jx_then (jc_seq (jc_seq (jc_region (qh [0,0] ?_)))))))))))
  obtain ⟨t_1, ht_4, h⟩ := bd h
  refine tO (pc 0 (fun w hm => impl_listCode.calls f0 list1 w _ C_c (hm.xr C_h) rfl D_c (hm.xr D_h) rfl ht_4) ?_)
  rintro w v w' hm ⟨rfl, hm'⟩
  refine ⟨_, hm.app hm', jkO ?_⟩
  clear hm hm'
  refine qh [0] (qe (jx_then (jc_seq (jc_region (qh [0,0] (qe (jx_then (qi h (fun h => ?_) (fun h => ?_)))))))))
  ·refine jc_seq (jc_region (qh [0,0,0] (qe (jx_then (jc_ret (jx_thenr ?_))))))
   obtain rfl := Option.some.inj h
   exact qr [] (fun w hm => ⟨rfl, hm.pk []⟩)
  ·refine jc_skip (jx_then (jc_seq (jc_region (qh [0] ?_))))
   obtain ⟨t_2, ht_6, h⟩ := bd h
   refine tO (pc 0 (fun w hm => impl_size_Drum.calls list1 w _ D_c (hm.xr D_h) rfl ht_6) ?_)
   rintro w v w' hm ⟨rfl, hm'⟩
   refine ⟨_, hm.app hm', jkO ?_⟩
   clear hm hm'
   refine tO (qa 0 (fun b_7 => jkO (tO (qs 0 [1] (jkO (qe (jx_then (jc_seq (jc_seq (jc_meet (fun (j : Bool) => match j with | q_3 => impl_CheckTree.k_4 list1 tree2 q_3 = some r) (fun (j : Bool) => match j with | q_3 => [(1, [], (.slice D_a list1.length D_c)), (2, [], (.slice E_a tree2.length E_c)), (6, [], (.bool false)), (7, [], (.int .i64 0)), (33, [], (.bool q_3))]) (fun (j : Bool) => match j with | q_3 => [⟨some b_1, 34, [(.int .i16 f0.fSteps), (.slice C_a f0.fHammers.length C_c)]⟩, ⟨some b_7, 2, [(.int .i64 t_2)]⟩]) ?_ ?_))))))))))
   ·refine qg [⟨some b_1, 34, [(.int .i16 f0.fSteps), (.slice C_a f0.fHammers.length C_c)]⟩, ⟨some b_7, 2, [(.int .i64 t_2)]⟩] 10 (qd [⟨0, 0, 0⟩,⟨2, 1, 0⟩,⟨3, 0, 0⟩] 7 [0, 1] ?_)
    obtain ⟨t_36, ht_2751, h⟩ := bd h
    refine tD 1 (pc 0 (fun w hm => impl_size_2int64.calls tree2 w _ E_c (hm.xr E_h) rfl ht_2751) ?_)
    rintro w v w' hm ⟨rfl, hm'⟩
    refine ⟨_, hm.app hm', kD [0, 1] ?_⟩
    clear hm hm'
    refine qd [⟨4, 0, 0⟩,⟨5, 0, 0⟩,⟨6, 0, 1⟩,⟨7, 0, 1⟩] 2 [0, 1] (jd_split 29 (t_36 != (w64 (t_2 - 1))) (by kernel_rfl) (fun hc_2752 => ?_) (fun hc_2752 => ?_))
    ·replace h := ifT hc_2752 h
     exact qd [⟨8, 0, 3⟩,⟨9, 0, 4⟩] 0 [0, 1] (qz (qm true h [0, 1]))
    ·replace h := ifF hc_2752 h
     obtain ⟨t_37, ht_2753, h⟩ := bd h
     refine tD 8 (pc 2 (fun w hm => slices_ContainsFunc_2int64_at_impl_CheckTree_1.calls tree2 t_2 w _ E_c (hm.xr E_h) rfl b_7 (hm.pass (N := [⟨some b_7, 2, [(.int .i64 t_2)]⟩]) [1] (by kernel_rfl) (by kernel_rfl)) (hm.exApart (N := [⟨some b_7, 2, [(.int .i64 t_2)]⟩]) E_h (fun _ => List.not_mem_nil) [1] (by kernel_rfl)) ht_2753) ?_)
     rintro w v w' hm ⟨rfl, hm'⟩
     refine ⟨_, hm.appW (ps := [(1, ⟨some b_7, 2, [(.int .i64 t_2)]⟩)]) (N := []) hm' (by kernel_rfl) (by kernel_rfl), kD [0, 1] ?_⟩
     clear hm hm'
     exact qd [⟨9, 0, 5⟩] 0 [0, 1] (qz (qm t_37 h [0, 1]))
   ·rintro q_3 h
    replace h : impl_CheckTree.k_4 list1 tree2 q_3 = some r := h
    rw [impl_CheckTree.k_4] at h
    refine jx_then (qi h (fun h => ?_) (fun h => ?_))
    ·refine jc_seq (jc_region (qh [0,0] (qe (jx_then (jc_ret (jx_thenr ?_))))))
     obtain rfl := Option.some.inj h
     exact qr [] (fun w hm => ⟨rfl, hm.pk []⟩)
    ·refine jc_skip (jx_then (jc_seq (jc_region (qh [0] ?_))))
     obtain ⟨t_5, ht_19, h⟩ := bd h
     refine tO (pc 0 (fun w hm => impl_costs.calls list1 w _ D_c (hm.xr D_h) rfl ht_19) ?_)
     rintro w v w' hm ⟨o_20, cap_21, sp_22, _, hh_25, hI_26, rfl, hs_23, ho_24, rfl, hm'⟩
     refine ⟨_, hm.app hm', jkO ?_⟩
     clear hm hm'
     refine qh [0] (qe (jx_then (jc_seq (jc_seq (jc_region (qh [0,0,0] ?_))))))
     obtain ⟨t_6, ht_35, h⟩ := bd h
     refine tO (pc 0 (fun w hm => impl_joined.calls (list1.length : Int) tree2 w _ E_c (hm.xr E_h) rfl ht_35) ?_)
     rintro w v w' hm ⟨o_36, cap_37, sp_38, _, rfl, hs_39, ho_40, rfl, hm'⟩
     refine ⟨_, hm.app hm', jkO ?_⟩
     clear hm hm'
     obtain ⟨t_7, ht_41, h⟩ := bd h
     refine tO (pc 0 (fun w hm => slices_ContainsFunc_int64_at_impl_CheckTree_2.calls t_6 w _ cap_37 (hm.ow 4 o_36 2 t_6 sp_38 (fun e => (ho_40 e).1) encI64_len) rfl ht_41) ?_)
     rintro w v w' hm ⟨rfl, hm'⟩
     refine ⟨_, hm.app hm', jkO ?_⟩
     clear hm hm'
     refine qe (jx_then (qi h (fun h => ?_) (fun h => ?_)))
     ·refine jc_seq (jc_region (qh [0,0] (qe (jx_then (jc_ret (jx_thenr ?_))))))
      obtain rfl := Option.some.inj h
      exact qr [] (fun w hm => ⟨rfl, hm.pk []⟩)
     ·refine jc_skip (jx_then (jc_seq (jc_seq (jc_region (qh [0,0,0] (qe (jx_then (jc_meet (fun (_ : Unit) => impl_CheckTree.k_8 = some r) (fun (_ : Unit) => [(6, [], (.bool false)), (7, [], (.int .i64 0))]) (fun (_ : Unit) => [⟨some b_1, 34, [(.int .i16 f0.fSteps), (.slice C_a f0.fHammers.length C_c)]⟩, ⟨some b_7, 2, [(.int .i64 t_2)]⟩, ⟨o_20, 49, row encHd hh_25 sp_22⟩, ⟨none, CLU, cluC encI64 hh_25 t_5⟩, ⟨o_36, 2, row encI64 t_6 sp_38⟩]) ?_ ?_))))))))
      ·refine jc_block ?_
       obtain ⟨t_11, ht_2750, hr_2522⟩ := bd h
       refine jc_loop (fun (s : Int) (x : Unit) => match s, x with | i_9, _ => True) (fun (s : Int) (x : Unit) => match s, x with | i_9, _ => [(1, [], (.slice D_a list1.length D_c)), (2, [], (.slice E_a tree2.length E_c)), (6, [], (.bool false)), (7, [], (.int .i64 0)), (10, [], (.slice (o_20.map fun b => ⟨b, 0, none⟩) hh_25.length cap_21)), (41, [], (.slice E_a tree2.length E_c)), (42, [], (.int .i64 (tree2.length : Int))), (43, [], (.int .i64 i_9))]) (fun (s : Int) (x : Unit) => match s, x with | i_9, _ => [⟨some b_1, 34, [(.int .i16 f0.fSteps), (.slice C_a f0.fHammers.length C_c)]⟩, ⟨some b_7, 2, [(.int .i64 t_2)]⟩, ⟨o_20, 49, row encHd hh_25 sp_22⟩, ⟨none, CLU, cluC encI64 hh_25 t_5⟩, ⟨o_36, 2, row encI64 t_6 sp_38⟩]) ht_2750 () trivial (by kernel_rfl) [0, 1, 2, 3, 4] (by kernel_rfl) (by kernel_rfl) ?_
       rintro i_9 _ y_2523 _ h
       rw [impl_CheckTree.l_10] at h
       refine jc_seq (jc_region (qh [0] (qe (jx_then (jc_seq (qi h (fun h => ?_) (fun h => ?_)))))))
       ·refine jc_skip (jx_then (jc_seq (jc_block (jc_seq (jc_region (qh [0] ?_))))))
        obtain ⟨x_12, hx_2526, h⟩ := bd h
        refine tO (qx 0 E_a 2 hx_2526 rfl (E_h.sp hx_2526) (jkO (tO (p_ldx 0 (aB E_a) (aO E_a + i_9.toNat * 2) (encA2I64 x_12) 2 (by kernel_rfl) (by kernel_rfl) (encA2I64_len x_12) (fun w hm => ((hm.xr E_h).at hx_2526)) (jkO (tO (qa 0 (fun b_2527 => jkO (qh [0] (tO (p_sA 0 5 b_2527 2 1 93 encI64 (Arr.rep 2 0) x_12 (by kernel_rfl) (by kernel_rfl) (by kernel_rfl) encI64_len encI64_cell (by kernel_rfl) (jkO (qe (jx_then (jc_seq (jc_region (qh [0,0,0] ?_)))))))))))))))))
        obtain ⟨t_13, ht_2528, h⟩ := bd h
        refine tO (pc 0 (fun w hm => slices_Clone_2int64.calls tree2 w _ E_c (hm.xr E_h) rfl ht_2528) ?_)
        rintro w v w' hm ⟨o_2529, cap_2530, sp_2531, _, rfl, hs_2532, ho_2533, rfl, hm'⟩
        refine ⟨_, hm.app hm', jkO ?_⟩
        clear hm hm'
        refine qh [0,0,0] ?_
        obtain ⟨t_14, ht_2534, h⟩ := bd h
        refine tO (pc 0 (fun w hm => slices_Delete_2int64.calls t_13 i_9 (w64 (i_9 + 1)) w _ o_2529 rfl hs_2532 ho_2533 (hm.pass (N := [⟨o_2529, 93, row encA2I64 t_13 sp_2531⟩]) [6] (by kernel_rfl) (by kernel_rfl)) ht_2534) ?_)
        rintro w v w' hm ⟨o_2535, cap_2536, sp_2537, _, rfl, hs_2538, ho_2539, rfl, hm'⟩
        refine ⟨_, hm.appP (ps := []) (ds := [6]) (N := [⟨o_2535, 93, row encA2I64 t_14 sp_2537⟩]) hm' [0] (by kernel_rfl) (by kernel_rfl) (by kernel_rfl), jkO ?_⟩
        clear hm hm'
        obtain ⟨t_15, ht_2540, h⟩ := bd h
        refine tO (pc 0 (fun w hm => impl_joined.calls (list1.length : Int) t_14 w _ cap_2536 (hm.ow 7 o_2535 93 t_14 sp_2537 (fun e => (ho_2539 e).1) encA2I64_len) rfl ht_2540) ?_)
        rintro w v w' hm ⟨o_2541, cap_2542, sp_2543, _, rfl, hs_2544, ho_2545, rfl, hm'⟩
        refine ⟨_, hm.app hm', jkO ?_⟩
        clear hm hm'
        refine qh [0] (qe (jx_then (jc_seq (jc_region (qh [0] ?_)))))
        obtain ⟨t_16, ht_2546, h⟩ := bd h
        refine tO (pc 0 (fun w hm => impl_pairsOf.calls t_5 w _ cap_21 (hm.ow 2 o_20 49 hh_25 sp_22 (fun e => (ho_24 e).1) encHd_len) (hI_26.1.symm.trans rfl) (hm.cluPass (N := []) 3 hI_26 encI64_len []) ht_2546) ?_)
        rintro w v w' hm ⟨o_2547, cap_2548, sp_2549, _, rfl, hs_2550, ho_2551, rfl, hm'⟩
        refine ⟨_, hm.app hm', jkO ?_⟩
        clear hm hm'
        refine qh [0,0] (qe (jx_then (jc_meet (fun (_ : Unit) => impl_CheckTree.k_17 i_9 = some y_2523) (fun (_ : Unit) => [(1, [], (.slice D_a list1.length D_c)), (2, [], (.slice E_a tree2.length E_c)), (6, [], (.bool false)), (7, [], (.int .i64 0)), (10, [], (.slice (o_20.map fun b => ⟨b, 0, none⟩) hh_25.length cap_21)), (41, [], (.slice E_a tree2.length E_c)), (42, [], (.int .i64 (tree2.length : Int))), (43, [], (.int .i64 i_9))]) (fun (_ : Unit) => [⟨some b_1, 34, [(.int .i16 f0.fSteps), (.slice C_a f0.fHammers.length C_c)]⟩, ⟨some b_7, 2, [(.int .i64 t_2)]⟩, ⟨o_20, 49, row encHd hh_25 sp_22⟩, ⟨none, CLU, cluC encI64 hh_25 t_5⟩, ⟨o_36, 2, row encI64 t_6 sp_38⟩, ⟨(some b_2527), 93, row encI64 x_12.1 []⟩, ⟨none, 0, []⟩, ⟨o_2535, 93, row encA2I64 t_14 sp_2537⟩, ⟨o_2541, 2, row encI64 t_15 sp_2543⟩, ⟨o_2547, 93, row encA2I64 t_16 sp_2549⟩]) ?_ ?_)))
        ·refine jc_block ?_
         obtain ⟨t_20, ht_2748, hr_2712⟩ := bd h
         refine jc_loop (fun (s : Int) (x : Unit) => match s, x with | i_18, _ => True) (fun (s : Int) (x : Unit) => match s, x with | i_18, _ => [(1, [], (.slice D_a list1.length D_c)), (2, [], (.slice E_a tree2.length E_c)), (6, [], (.bool false)), (7, [], (.int .i64 0)), (10, [], (.slice (o_20.map fun b => ⟨b, 0, none⟩) hh_25.length cap_21)), (12, [], (.pointer (some ⟨b_2527, 0, none⟩))), (13, [], (.slice (o_2541.map fun b => ⟨b, 0, none⟩) t_15.length cap_2542)), (41, [], (.slice E_a tree2.length E_c)), (42, [], (.int .i64 (tree2.length : Int))), (43, [], (.int .i64 i_9)), (58, [], (.slice (o_2547.map fun b => ⟨b, 0, none⟩) t_16.length cap_2548)), (59, [], (.int .i64 (t_16.length : Int))), (60, [], (.int .i64 i_18))]) (fun (s : Int) (x : Unit) => match s, x with | i_18, _ => [⟨some b_1, 34, [(.int .i16 f0.fSteps), (.slice C_a f0.fHammers.length C_c)]⟩, ⟨some b_7, 2, [(.int .i64 t_2)]⟩, ⟨o_20, 49, row encHd hh_25 sp_22⟩, ⟨none, CLU, cluC encI64 hh_25 t_5⟩, ⟨o_36, 2, row encI64 t_6 sp_38⟩, ⟨(some b_2527), 93, row encI64 x_12.1 []⟩, ⟨none, 0, []⟩, ⟨o_2535, 93, row encA2I64 t_14 sp_2537⟩, ⟨o_2541, 2, row encI64 t_15 sp_2543⟩, ⟨o_2547, 93, row encA2I64 t_16 sp_2549⟩]) ht_2748 () trivial (by kernel_rfl) [0, 1, 2, 3, 4, 5, 6, 7, 8, 9] (by kernel_rfl) (by kernel_rfl) ?_
         rintro i_18 _ y_2713 _ h
         rw [impl_CheckTree.l_19] at h
         refine jc_seq (jc_region (qh [0] (qe (jx_then (jc_seq (qi h (fun h => ?_) (fun h => ?_)))))))
         ·refine jc_skip (jx_then (jc_seq (jc_block (jc_seq (jc_region ?_)))))
          obtain ⟨x_21, hx_2716, h⟩ := bd h
          refine tO (qx 0 (o_2547.map fun b => ⟨b, 0, none⟩) 2 hx_2716 rfl (spo ho_2551 hx_2716) (jkO (tO (p_ldx 0 (aB (o_2547.map fun b => ⟨b, 0, none⟩)) (aO (o_2547.map fun b => ⟨b, 0, none⟩) + i_18.toNat * 2) (encA2I64 x_21) 2 (by kernel_rfl) (by kernel_rfl) (encA2I64_len x_21) (fun w hm => ((hm.ow 9 o_2547 93 t_16 sp_2549 (fun e => (ho_2551 e).1) encA2I64_len).at hx_2716)) (jkO (tO (qa 0 (fun b_2717 => jkO (tO (p_sA 0 10 b_2717 2 1 93 encI64 (Arr.rep 2 0) x_21 (by kernel_rfl) (by kernel_rfl) (by kernel_rfl) encI64_len encI64_cell (by kernel_rfl) (jkO (qe (jx_then (jc_seq (jc_meet (fun (j : Bool) => match j with | q_22 => impl_CheckTree.k_23 i_18 q_22 = some y_2713) (fun (j : Bool) => match j with | q_22 => [(1, [], (.slice D_a list1.length D_c)), (2, [], (.slice E_a tree2.length E_c)), (6, [], (.bool false)), (7, [], (.int .i64 0)), (10, [], (.slice (o_20.map fun b => ⟨b, 0, none⟩) hh_25.length cap_21)), (12, [], (.pointer (some ⟨b_2527, 0, none⟩))), (13, [], (.slice (o_2541.map fun b => ⟨b, 0, none⟩) t_15.length cap_2542)), (41, [], (.slice E_a tree2.length E_c)), (42, [], (.int .i64 (tree2.length : Int))), (43, [], (.int .i64 i_9)), (58, [], (.slice (o_2547.map fun b => ⟨b, 0, none⟩) t_16.length cap_2548)), (59, [], (.int .i64 (t_16.length : Int))), (60, [], (.int .i64 i_18)), (95, [], (.bool q_22))]) (fun (j : Bool) => match j with | q_22 => [⟨some b_1, 34, [(.int .i16 f0.fSteps), (.slice C_a f0.fHammers.length C_c)]⟩, ⟨some b_7, 2, [(.int .i64 t_2)]⟩, ⟨o_20, 49, row encHd hh_25 sp_22⟩, ⟨none, CLU, cluC encI64 hh_25 t_5⟩, ⟨o_36, 2, row encI64 t_6 sp_38⟩, ⟨(some b_2527), 93, row encI64 x_12.1 []⟩, ⟨none, 0, []⟩, ⟨o_2535, 93, row encA2I64 t_14 sp_2537⟩, ⟨o_2541, 2, row encI64 t_15 sp_2543⟩, ⟨o_2547, 93, row encA2I64 t_16 sp_2549⟩, ⟨(some b_2717), 93, row encI64 x_21.1 []⟩]) ?_ ?_)))))))))))))))
          ·refine qg [⟨some b_1, 34, [(.int .i16 f0.fSteps), (.slice C_a f0.fHammers.length C_c)]⟩, ⟨some b_7, 2, [(.int .i64 t_2)]⟩, ⟨o_20, 49, row encHd hh_25 sp_22⟩, ⟨none, CLU, cluC encI64 hh_25 t_5⟩, ⟨o_36, 2, row encI64 t_6 sp_38⟩, ⟨(some b_2527), 93, row encI64 x_12.1 []⟩, ⟨none, 0, []⟩, ⟨o_2535, 93, row encA2I64 t_14 sp_2537⟩, ⟨o_2541, 2, row encI64 t_15 sp_2543⟩, ⟨o_2547, 93, row encA2I64 t_16 sp_2549⟩, ⟨(some b_2717), 93, row encI64 x_21.1 []⟩] 32 (qd [⟨0, 0, 0⟩,⟨5, 0, 0⟩] 30 [0, 1, 2, 3, 4, 5, 6, 7, 8, 9, 10] ?_)
           obtain ⟨x_24, hx_2734, h⟩ := bd h
           refine qv 1 0 [0, 1, 2, 3, 4, 5, 6, 7, 8, 9, 10] (fun w hm => idx_run (a := (some ⟨b_2717, 0, none⟩)) (len := 2) (s := 1) (j := 0) (by kernel_rfl) (ix_some hx_2734).1 (ltn hx_2734 x_21.2) rfl) (qv 2 0 [0, 1, 2, 3, 4, 5, 6, 7, 8, 9, 10] (fun w hm => ld_run (b := aB (some ⟨b_2717, 0, none⟩)) (off := (aO (some ⟨b_2717, 0, none⟩) + (0 : Int).toNat * 1)) (s := 1) (agg := false) (vs := (encI64 x_24)) (by kernel_rfl) (by kernel_rfl) (.inr rfl) ((hm.ow 10 (some b_2717) 93 x_21.1 [] (fun e => nomatch e) encI64_len).at hx_2734)) ?_)
           obtain ⟨x_25, hx_2735, h⟩ := bd h
           refine qv 3 0 [0, 1, 2, 3, 4, 5, 6, 7, 8, 9, 10] (fun w hm => idx_run (a := (o_2541.map fun b => ⟨b, 0, none⟩)) (len := t_15.length) (s := 1) (j := x_24) (by kernel_rfl) (ix_some hx_2735).1 (ltn hx_2735 rfl) (spo ho_2545 hx_2735)) (qv 4 0 [0, 1, 2, 3, 4, 5, 6, 7, 8, 9, 10] (fun w hm => ld_run (b := aB (o_2541.map fun b => ⟨b, 0, none⟩)) (off := (aO (o_2541.map fun b => ⟨b, 0, none⟩) + x_24.toNat * 1)) (s := 1) (agg := false) (vs := (encI64 x_25)) (by kernel_rfl) (by kernel_rfl) (.inr rfl) ((hm.ow 8 o_2541 2 t_15 sp_2543 (fun e => (ho_2545 e).1) encI64_len).at hx_2735)) ?_)
           obtain ⟨x_26, hx_2736, h⟩ := bd h
           refine qv 6 0 [0, 1, 2, 3, 4, 5, 6, 7, 8, 9, 10] (fun w hm => idx_run (a := (some ⟨b_2717, 0, none⟩)) (len := 2) (s := 1) (j := 1) (by kernel_rfl) (ix_some hx_2736).1 (ltn hx_2736 x_21.2) rfl) (qv 7 0 [0, 1, 2, 3, 4, 5, 6, 7, 8, 9, 10] (fun w hm => ld_run (b := aB (some ⟨b_2717, 0, none⟩)) (off := (aO (some ⟨b_2717, 0, none⟩) + (1 : Int).toNat * 1)) (s := 1) (agg := false) (vs := (encI64 x_26)) (by kernel_rfl) (by kernel_rfl) (.inr rfl) ((hm.ow 10 (some b_2717) 93 x_21.1 [] (fun e => nomatch e) encI64_len).at hx_2736)) ?_)
           obtain ⟨x_27, hx_2737, h⟩ := bd h
           refine qv 8 0 [0, 1, 2, 3, 4, 5, 6, 7, 8, 9, 10] (fun w hm => idx_run (a := (o_2541.map fun b => ⟨b, 0, none⟩)) (len := t_15.length) (s := 1) (j := x_26) (by kernel_rfl) (ix_some hx_2737).1 (ltn hx_2737 rfl) (spo ho_2545 hx_2737)) (qv 9 0 [0, 1, 2, 3, 4, 5, 6, 7, 8, 9, 10] (fun w hm => ld_run (b := aB (o_2541.map fun b => ⟨b, 0, none⟩)) (off := (aO (o_2541.map fun b => ⟨b, 0, none⟩) + x_26.toNat * 1)) (s := 1) (agg := false) (vs := (encI64 x_27)) (by kernel_rfl) (by kernel_rfl) (.inr rfl) ((hm.ow 8 o_2541 2 t_15 sp_2543 (fun e => (ho_2545 e).1) encI64_len).at hx_2737)) (qd [⟨10, 0, 0⟩,⟨11, 0, 0⟩,⟨12, 0, 1⟩,⟨21, 0, 1⟩] 18 [0, 1, 2, 3, 4, 5, 6, 7, 8, 9, 10] (jd_split 75 (x_25 != x_27) (by kernel_rfl) (fun hc_2738 => ?_) (fun hc_2738 => ?_))))
           ·replace h := ifT hc_2738 h
            obtain ⟨x_28, hx_2739, h⟩ := bd h
            refine qv 13 2 [0, 1, 2, 3, 4, 5, 6, 7, 8, 9, 10] (fun w hm => idx_run (a := (some ⟨b_2717, 0, none⟩)) (len := 2) (s := 1) (j := 0) (by kernel_rfl) (ix_some hx_2739).1 (ltn hx_2739 x_21.2) rfl) (qv 14 2 [0, 1, 2, 3, 4, 5, 6, 7, 8, 9, 10] (fun w hm => ld_run (b := aB (some ⟨b_2717, 0, none⟩)) (off := (aO (some ⟨b_2717, 0, none⟩) + (0 : Int).toNat * 1)) (s := 1) (agg := false) (vs := (encI64 x_28)) (by kernel_rfl) (by kernel_rfl) (.inr rfl) ((hm.ow 10 (some b_2717) 93 x_21.1 [] (fun e => nomatch e) encI64_len).at hx_2739)) ?_)
            obtain ⟨x_29, hx_2740, h⟩ := bd h
            refine qv 15 2 [0, 1, 2, 3, 4, 5, 6, 7, 8, 9, 10] (fun w hm => idx_run (a := (o_20.map fun b => ⟨b, 0, none⟩)) (len := hh_25.length) (s := 1) (j := x_28) (by kernel_rfl) (ix_some hx_2740).1 (ltn hx_2740 (hI_26.1.symm.trans rfl)) (spo ho_24 (hI_26.ixh hx_2740))) (qv 16 2 [0, 1, 2, 3, 4, 5, 6, 7, 8, 9, 10] (fun w hm => ld_run (b := aB (o_20.map fun b => ⟨b, 0, none⟩)) (off := (aO (o_20.map fun b => ⟨b, 0, none⟩) + x_28.toNat * 1)) (s := 1) (agg := false) (vs := encHd (hd hh_25 x_28)) (by kernel_rfl) (by kernel_rfl) (.inr rfl) ((hm.ow 2 o_20 49 hh_25 sp_22 (fun e => (ho_24 e).1) encHd_len).at (hI_26.ixh hx_2740))) ?_)
            obtain ⟨x_30, hx_2741, h⟩ := bd h
            refine qv 17 2 [0, 1, 2, 3, 4, 5, 6, 7, 8, 9, 10] (fun w hm => idx_run (a := (some ⟨b_2717, 0, none⟩)) (len := 2) (s := 1) (j := 1) (by kernel_rfl) (ix_some hx_2741).1 (ltn hx_2741 x_21.2) rfl) (qv 18 2 [0, 1, 2, 3, 4, 5, 6, 7, 8, 9, 10] (fun w hm => ld_run (b := aB (some ⟨b_2717, 0, none⟩)) (off := (aO (some ⟨b_2717, 0, none⟩) + (1 : Int).toNat * 1)) (s := 1) (agg := false) (vs := (encI64 x_30)) (by kernel_rfl) (by kernel_rfl) (.inr rfl) ((hm.ow 10 (some b_2717) 93 x_21.1 [] (fun e => nomatch e) encI64_len).at hx_2741)) ?_)
            obtain ⟨x_31, hx_2742, h⟩ := bd h
            refine qv 19 2 [0, 1, 2, 3, 4, 5, 6, 7, 8, 9, 10] (fun w hm => idx_run (a := (hd hh_25 x_28).a) (len := ((hd hh_25 x_28).n)) (s := 1) (j := x_30) (by kernel_rfl) (ix_some hx_2742).1 (ltn hx_2742 (hI_26.get hx_2740).1) (hI_26.sp hx_2740 hx_2742)) (qv 20 2 [0, 1, 2, 3, 4, 5, 6, 7, 8, 9, 10] (fun w hm => ld_run (b := aB (hd hh_25 x_28).a) (off := (aO (hd hh_25 x_28).a + x_30.toNat * 1)) (s := 1) (agg := false) (vs := (encI64 x_31)) (by kernel_rfl) (by kernel_rfl) (.inr rfl) (((hm.cluInn 3 hI_26 encI64_len).get hx_2740).1.at hx_2742)) ?_)
            obtain ⟨x_32, hx_2743, h⟩ := bd h
            refine qv 22 2 [0, 1, 2, 3, 4, 5, 6, 7, 8, 9, 10] (fun w hm => idx_run (a := (some ⟨b_2527, 0, none⟩)) (len := 2) (s := 1) (j := 0) (by kernel_rfl) (ix_some hx_2743).1 (ltn hx_2743 x_12.2) rfl) (qv 23 2 [0, 1, 2, 3, 4, 5, 6, 7, 8, 9, 10] (fun w hm => ld_run (b := aB (some ⟨b_2527, 0, none⟩)) (off := (aO (some ⟨b_2527, 0, none⟩) + (0 : Int).toNat * 1)) (s := 1) (agg := false) (vs := (encI64 x_32)) (by kernel_rfl) (by kernel_rfl) (.inr rfl) ((hm.ow 5 (some b_2527) 93 x_12.1 [] (fun e => nomatch e) encI64_len).at hx_2743)) ?_)
            obtain ⟨x_33, hx_2744, h⟩ := bd h
            refine qv 24 2 [0, 1, 2, 3, 4, 5, 6, 7, 8, 9, 10] (fun w hm => idx_run (a := (o_20.map fun b => ⟨b, 0, none⟩)) (len := hh_25.length) (s := 1) (j := x_32) (by kernel_rfl) (ix_some hx_2744).1 (ltn hx_2744 (hI_26.1.symm.trans rfl)) (spo ho_24 (hI_26.ixh hx_2744))) (qv 25 2 [0, 1, 2, 3, 4, 5, 6, 7, 8, 9, 10] (fun w hm => ld_run (b := aB (o_20.map fun b => ⟨b, 0, none⟩)) (off := (aO (o_20.map fun b => ⟨b, 0, none⟩) + x_32.toNat * 1)) (s := 1) (agg := false) (vs := encHd (hd hh_25 x_32)) (by kernel_rfl) (by kernel_rfl) (.inr rfl) ((hm.ow 2 o_20 49 hh_25 sp_22 (fun e => (ho_24 e).1) encHd_len).at (hI_26.ixh hx_2744))) ?_)
            obtain ⟨x_34, hx_2745, h⟩ := bd h
            refine qv 26 2 [0, 1, 2, 3, 4, 5, 6, 7, 8, 9, 10] (fun w hm => idx_run (a := (some ⟨b_2527, 0, none⟩)) (len := 2) (s := 1) (j := 1) (by kernel_rfl) (ix_some hx_2745).1 (ltn hx_2745 x_12.2) rfl) (qv 27 2 [0, 1, 2, 3, 4, 5, 6, 7, 8, 9, 10] (fun w hm => ld_run (b := aB (some ⟨b_2527, 0, none⟩)) (off := (aO (some ⟨b_2527, 0, none⟩) + (1 : Int).toNat * 1)) (s := 1) (agg := false) (vs := (encI64 x_34)) (by kernel_rfl) (by kernel_rfl) (.inr rfl) ((hm.ow 5 (some b_2527) 93 x_12.1 [] (fun e => nomatch e) encI64_len).at hx_2745)) ?_)
            obtain ⟨x_35, hx_2746, h⟩ := bd h
            exact qv 28 2 [0, 1, 2, 3, 4, 5, 6, 7, 8, 9, 10] (fun w hm => idx_run (a := (hd hh_25 x_32).a) (len := ((hd hh_25 x_32).n)) (s := 1) (j := x_34) (by kernel_rfl) (ix_some hx_2746).1 (ltn hx_2746 (hI_26.get hx_2744).1) (hI_26.sp hx_2744 hx_2746)) (qv 29 2 [0, 1, 2, 3, 4, 5, 6, 7, 8, 9, 10] (fun w hm => ld_run (b := aB (hd hh_25 x_32).a) (off := (aO (hd hh_25 x_32).a + x_34.toNat * 1)) (s := 1) (agg := false) (vs := (encI64 x_35)) (by kernel_rfl) (by kernel_rfl) (.inr rfl) (((hm.cluInn 3 hI_26 encI64_len).get hx_2744).1.at hx_2746)) (qd [⟨30, 0, 2⟩,⟨31, 0, 4⟩] 0 [0, 1, 2, 3, 4, 5, 6, 7, 8, 9, 10] (qz (qm (decide (x_31 < x_35)) h [0, 1, 2, 3, 4, 5, 6, 7, 8, 9, 10]))))
           ·replace h := ifF hc_2738 h
            exact qd [⟨13, 0, 3⟩,⟨14, 0, 3⟩,⟨15, 0, 3⟩,⟨16, 0, 3⟩,⟨17, 0, 3⟩,⟨18, 0, 3⟩,⟨19, 0, 3⟩,⟨20, 0, 3⟩,⟨22, 0, 3⟩,⟨23, 0, 3⟩,⟨24, 0, 3⟩,⟨25, 0, 3⟩,⟨26, 0, 3⟩,⟨27, 0, 3⟩,⟨28, 0, 3⟩,⟨29, 0, 3⟩,⟨30, 0, 3⟩,⟨31, 0, 5⟩] 0 [0, 1, 2, 3, 4, 5, 6, 7, 8, 9, 10] (qz (qm false h [0, 1, 2, 3, 4, 5, 6, 7, 8, 9, 10]))
          ·rintro q_22 h
           replace h : impl_CheckTree.k_23 i_18 q_22 = some y_2713 := h
           rw [impl_CheckTree.k_23] at h
           refine jx_then (qi h (fun h => ?_) (fun h => ?_))
           ·refine jc_seq (jc_region (qh [0,0] (qe (jx_then (jc_ret (jx_inr (jx_thenr (jx_leaver (.inl (false, 0)) (Option.some.inj h).symm (fun e_2733 => ?_)))))))))
            subst e_2733
            refine jx_inr (jx_thenr (jx_inr (jx_thenr (jx_leaver (.inl (false, 0)) (Option.some.inj hr_2712).symm (fun e_2732 => ?_)))))
            subst e_2732
            refine jx_inr (jx_thenr (jx_thenr ?_))
            obtain rfl := Option.some.inj hr_2522
            exact qr [] (fun w hm => ⟨rfl, hm.pk []⟩)
           ·exact jc_skip (jx_inn (jx_then (jc_region (qh [0,0] (qe (qb (w64 (i_18 + 1)) () h trivial [0, 1, 2, 3, 4, 5, 6, 7, 8, 9]))))))
         ·refine jc_exit (jx_thenx (jx_leave (.inr ()) (Option.some.inj h).symm (fun e_2747 => ?_)))
          subst e_2747
          exact jx_ine (qm () hr_2712 [0, 1, 2, 3, 4, 5, 6, 7, 8, 9])
        ·rintro _ h
         replace h : impl_CheckTree.k_17 i_9 = some y_2523 := h
         rw [impl_CheckTree.k_17] at h
         exact jx_inn (jx_then (jc_region (qh [0,0] (qe (qb (w64 (i_9 + 1)) () h trivial [0, 1, 2, 3, 4])))))
       ·refine jc_exit (jx_thenx (jx_leave (.inr ()) (Option.some.inj h).symm (fun e_2749 => ?_)))
        subst e_2749
        exact jx_ine (qm () hr_2522 [0, 1, 2, 3, 4])
      ·rintro _ h
       replace h : impl_CheckTree.k_8 = some r := h
       rw [impl_CheckTree.k_8] at h
       refine jx_then (jc_seq (jc_region (qh [0,0] (qe (jx_then (jc_ret ?_))))))
       obtain rfl := Option.some.inj h
       exact qr [] (fun w hm => ⟨rfl, hm.pk []⟩)
/-! ### laws.FnExactCheckTree -/
def laws_FnExactCheckTree (aF0 : GFrame) (aList1 : List (Arr 96 Int)) (aTree2 : List (Arr 2 Int)) : Option (Bool) := (laws_szFrame aF0 1048576).bind fun t_1 => (if (decide (t_1 < 0)) = true then some true else (laws_szDrumS aList1 t_1).bind fun t_2 => (if (decide (t_2 < 0)) = true then some true else (laws_szInt64A2S aTree2 t_2).bind fun t_3 => (if (decide (t_3 < 0)) = true then some true else (laws_toFrame aF0).bind fun t_4 => (laws_toDrumS aList1).bind fun t_5 => (laws_toInt64A2S aTree2).bind fun t_6 => (spec_CheckTree t_4 t_5 t_6).bind fun t_7 => (laws_toFrame aF0).bind fun t_8 => (laws_toDrumS aList1).bind fun t_9 => (laws_toInt64A2S aTree2).bind fun t_10 => (impl_CheckTree t_8 t_9 t_10).bind fun t_11 => (if ((t_11.1 != t_7.1) || (t_11.2 != t_7.2)) = true then some false else (laws_toFrame aF0).bind fun t_12 => (laws_eqFrame t_8 t_12).bind fun t_13 => (if (!t_13) = true then some false else (laws_toDrumS aList1).bind fun t_14 => (laws_eqDrumS t_9 t_14).bind fun t_15 => (if (!t_15) = true then some false else (laws_toInt64A2S aTree2).bind fun t_16 => (laws_eqInt64A2S t_10 t_16).bind fun t_17 => (if (!t_17) = true then some false else some true)))))))
set_option maxHeartbeats 8000000 in
theorem laws_FnExactCheckTree.calls (aF0 : GFrame) (aList1 : List (Arr 96 Int)) (aTree2 : List (Arr 2 Int)) (w : World) (r : Bool) {C_a : Option Addr} {C_an : Nat} (C_c : Nat) (C_h : Rw w C_a 2 encGHammer aF0.fHammers) (C_hn : aF0.fHammers.length = C_an) {D_a : Option Addr} {D_an : Nat} (D_c : Nat) (D_h : Rw w D_a 96 encA96U32 aList1) (D_hn : aList1.length = D_an) {E_a : Option Addr} {E_an : Nat} (E_c : Nat) (E_h : Rw w E_a 2 encA2I64 aTree2) (E_hn : aTree2.length = E_an) (h : laws_FnExactCheckTree aF0 aList1 aTree2 = some r) :
    Calls Try.prog 4 #[(.agg #[(.int .i16 aF0.fSteps), (.slice C_a C_an C_c)]), (.slice D_a D_an D_c), (.slice E_a E_an E_c)] w fun e w' => ∃ v, e = .returned v ∧ (v = (.bool r) ∧ Mem w [] [] w') := by
  subst C_hn D_hn E_hn
  rw [laws_FnExactCheckTree] at h
  refine enter (args := [(.agg #[(.int .i16 aF0.fSteps), (.slice C_a aF0.fHammers.length C_c)]), (.slice D_a aList1.length D_c), (.slice E_a aTree2.length E_c)]) Try.func4 rfl Try.ntmps4 (by kernel_rfl) (L := []) (W := []) (Mem.start w) ?_
  refine jc_seq (jc_region (tO (qa 0 (fun b_1 => jkO (qh [0] (qe (jx_then (jc_seq (jc_region (qh [0] (qe (jx_then (jc_seq (jc_region (qh [0,0] ?_)))))))))))))))
  obtain ⟨t_1, ht_2, h⟩ := bd h
  refine tO (pc 0 (fun w hm => laws_szFrame.calls aF0 1048576 w _ C_c (hm.xr C_h) rfl ht_2) ?_)
  rintro w v w' hm ⟨rfl, hm'⟩
  refine ⟨_, hm.app hm', jkO ?_⟩
  clear hm hm'
  refine qh [0] (qe (jx_then (jc_seq (jc_seq (jc_region (qh [0,0] (qe (jx_then (qi h (fun h => ?_) (fun h => ?_))))))))))
  ·refine jc_seq (jc_region (qh [0] (qe (jx_then (jc_ret (jx_thenr ?_))))))
   obtain rfl := Option.some.inj h
   exact qr [] (fun w hm => ⟨rfl, hm.pk []⟩)
  ·refine jc_skip (jx_then (jc_seq (jc_region (qh [0,0] ?_))))
   obtain ⟨t_2, ht_5, h⟩ := bd h
   refine tO (pc 0 (fun w hm => laws_szDrumS.calls aList1 t_1 w _ D_c (hm.xr D_h) rfl ht_5) ?_)
   rintro w v w' hm ⟨rfl, hm'⟩
   refine ⟨_, hm.app hm', jkO ?_⟩
   clear hm hm'
   refine qh [0] (qe (jx_then (jc_seq (jc_seq (jc_region (qh [0,0] (qe (jx_then (qi h (fun h => ?_) (fun h => ?_))))))))))
   ·refine jc_seq (jc_region (qh [0] (qe (jx_then (jc_ret (jx_thenr ?_))))))
    obtain rfl := Option.some.inj h
    exact qr [] (fun w hm => ⟨rfl, hm.pk []⟩)
   ·refine jc_skip (jx_then (jc_seq (jc_region (qh [0,0] ?_))))
    obtain ⟨t_3, ht_8, h⟩ := bd h
    refine tO (pc 0 (fun w hm => laws_szInt64A2S.calls aTree2 t_2 w _ E_c (hm.xr E_h) rfl ht_8) ?_)
    rintro w v w' hm ⟨rfl, hm'⟩
    refine ⟨_, hm.app hm', jkO ?_⟩
    clear hm hm'
    refine qh [0] (qe (jx_then (jc_seq (jc_seq (jc_region (qh [0,0] (qe (jx_then (qi h (fun h => ?_) (fun h => ?_))))))))))
    ·refine jc_seq (jc_region (qh [0] (qe (jx_then (jc_ret (jx_thenr ?_))))))
     obtain rfl := Option.some.inj h
     exact qr [] (fun w hm => ⟨rfl, hm.pk []⟩)
    ·refine jc_skip (jx_then (jc_seq (jc_region (qh [0] ?_))))
     obtain ⟨t_4, ht_11, h⟩ := bd h
     refine tO (pc 0 (fun w hm => laws_toFrame.calls aF0 w _ C_c (hm.xr C_h) rfl ht_11) ?_)
     rintro w v w' hm ⟨o_12, cap_13, sp_14, _, rfl, hs_15, ho_16, rfl, hm'⟩
     refine ⟨_, hm.app hm', jkO ?_⟩
     clear hm hm'
     refine qh [0] ?_
     obtain ⟨t_5, ht_17, h⟩ := bd h
     refine tO (pc 0 (fun w hm => laws_toDrumS.calls aList1 w _ D_c (hm.xr D_h) rfl ht_17) ?_)
     rintro w v w' hm ⟨o_18, cap_19, sp_20, _, rfl, hs_21, ho_22, rfl, hm'⟩
     refine ⟨_, hm.app hm', jkO ?_⟩
     clear hm hm'
     refine qh [0] ?_
     obtain ⟨t_6, ht_23, h⟩ := bd h
     refine tO (pc 0 (fun w hm => laws_toInt64A2S.calls aTree2 w _ E_c (hm.xr E_h) rfl ht_23) ?_)
     rintro w v w' hm ⟨o_24, cap_25, sp_26, _, rfl, hs_27, ho_28, rfl, hm'⟩
     refine ⟨_, hm.app hm', jkO ?_⟩
     clear hm hm'
     obtain ⟨t_7, ht_29, h⟩ := bd h
     refine tO (pc 0 (fun w hm => spec_CheckTree.calls t_4 t_5 t_6 w _ cap_13 (hm.ow 1 o_12 128 t_4.fHammers sp_14 (fun e => (ho_16 e).1) encGHammer_len) rfl cap_19 (hm.ow 2 o_18 89 t_5 sp_20 (fun e => (ho_22 e).1) encA96U32_len) rfl cap_25 (hm.ow 3 o_24 93 t_6 sp_26 (fun e => (ho_28 e).1) encA2I64_len) rfl ht_29) ?_)
     rintro w v w' hm ⟨rfl, hm'⟩
     refine ⟨_, hm.app hm', jkO ?_⟩
     clear hm hm'
     refine qh [0,0,0,0,0] (qe (jx_then (jc_seq (jc_region (qh [0] ?_)))))
     obtain ⟨t_8, ht_30, h⟩ := bd h
     refine tO (pc 0 (fun w hm => laws_toFrame.calls aF0 w _ C_c (hm.xr C_h) rfl ht_30) ?_)
     rintro w v w' hm ⟨o_31, cap_32, sp_33, _, rfl, hs_34, ho_35, rfl, hm'⟩
     refine ⟨_, hm.app hm', jkO ?_⟩
     clear hm hm'
     refine tO (qa 0 (fun b_36 => jkO (tO (qs 0 [5] (jkO (qe (jx_then (jc_seq (jc_region (qh [0] ?_))))))))))
     obtain ⟨t_9, ht_37, h⟩ := bd h
     refine tO (pc 0 (fun w hm => laws_toDrumS.calls aList1 w _ D_c (hm.xr D_h) rfl ht_37) ?_)
     rintro w v w' hm ⟨o_38, cap_39, sp_40, _, rfl, hs_41, ho_42, rfl, hm'⟩
     refine ⟨_, hm.app hm', jkO ?_⟩
     clear hm hm'
     refine qh [0] (qe (jx_then (jc_seq (jc_region (qh [0] ?_)))))
     obtain ⟨t_10, ht_43, h⟩ := bd h
     refine tO (pc 0 (fun w hm => laws_toInt64A2S.calls aTree2 w _ E_c (hm.xr E_h) rfl ht_43) ?_)
     rintro w v w' hm ⟨o_44, cap_45, sp_46, _, rfl, hs_47, ho_48, rfl, hm'⟩
     refine ⟨_, hm.app hm', jkO ?_⟩
     clear hm hm'
     refine qh [0] (qe (jx_then (jc_seq (jc_region (qh [5,0,0] ?_)))))
     obtain ⟨t_11, ht_49, h⟩ := bd h
     refine tO (pc 0 (fun w hm => impl_CheckTree.calls t_8 t_9 t_10 w _ cap_32 (hm.ow 4 o_31 128 t_8.fHammers sp_33 (fun e => (ho_35 e).1) encGHammer_len) rfl cap_39 (hm.ow 6 o_38 89 t_9 sp_40 (fun e => (ho_42 e).1) encA96U32_len) rfl cap_45 (hm.ow 7 o_44 93 t_10 sp_46 (fun e => (ho_48 e).1) encA2I64_len) rfl ht_49) ?_)
     rintro w v w' hm ⟨rfl, hm'⟩
     refine ⟨_, hm.app hm', jkO ?_⟩
     clear hm hm'
     refine qh [0,0,0,0,0] (qe (jx_then (jc_seq (jc_seq (jc_region (qf [(0, 0), (0, 0), (0, 0), (0, 0), (0, 1), (0, 1), (0, 1), (0, 0)] (qe (jx_then (qi h (fun h => ?_) (fun h => ?_))))))))))
     ·refine jc_seq (jc_region (qh [0] (qe (jx_then (jc_ret (jx_thenr ?_))))))
      obtain rfl := Option.some.inj h
      exact qr [] (fun w hm => ⟨rfl, hm.pk []⟩)
     ·refine jc_skip (jx_then (jc_seq (jc_seq (qg [⟨some b_1, 25, [(.int .i16 aF0.fSteps), (.slice C_a aF0.fHammers.length C_c)]⟩, ⟨o_12, 128, row encGHammer t_4.fHammers sp_14⟩, ⟨o_18, 89, row encA96U32 t_5 sp_20⟩, ⟨o_24, 93, row encA2I64 t_6 sp_26⟩, ⟨o_31, 128, row encGHammer t_8.fHammers sp_33⟩, ⟨some b_36, 34, [(.int .i16 t_8.fSteps), (.slice (o_31.map fun b => ⟨b, 0, none⟩) t_8.fHammers.length cap_32)]⟩, ⟨o_38, 89, row encA96U32 t_9 sp_40⟩, ⟨o_44, 93, row encA2I64 t_10 sp_46⟩] 5 (qd [⟨0, 5, 0⟩,⟨1, 0, 0⟩] 3 [0, 1, 2, 3, 4, 5, 6, 7] ?_)))))
      obtain ⟨t_12, ht_74, h⟩ := bd h
      refine tD 2 (pc 0 (fun w hm => laws_toFrame.calls aF0 w _ C_c (hm.xr C_h) rfl ht_74) ?_)
      rintro w v w' hm ⟨o_75, cap_76, sp_77, _, rfl, hs_78, ho_79, rfl, hm'⟩
      refine ⟨_, hm.app hm', kD [0, 1, 2, 3, 4, 5, 6, 7] ?_⟩
      clear hm hm'
      obtain ⟨t_13, ht_80, h⟩ := bd h
      refine tD 3 (pc 0 (fun w hm => laws_eqFrame.calls t_8 t_12 w _ cap_32 (hm.ow 4 o_31 128 t_8.fHammers sp_33 (fun e => (ho_35 e).1) encGHammer_len) rfl cap_76 (hm.ow 8 o_75 128 t_12.fHammers sp_77 (fun e => (ho_79 e).1) encGHammer_len) rfl ht_80) ?_)
      rintro w v w' hm ⟨rfl, hm'⟩
      refine ⟨_, hm.app hm', kD [0, 1, 2, 3, 4, 5, 6, 7] ?_⟩
      clear hm hm'
      refine qd [⟨4, 0, 0⟩] 0 [0, 1, 2, 3, 4, 5, 6, 7] (qz (jx_then (qi h (fun h => ?_) (fun h => ?_))))
      ·refine jc_seq (jc_region (qh [0] (qe (jx_then (jc_ret (jx_thenr ?_))))))
       obtain rfl := Option.some.inj h
       exact qr [] (fun w hm => ⟨rfl, hm.pk []⟩)
      ·refine jc_skip (jx_then (jc_seq (jc_seq (jc_region (qh [0,0] ?_)))))
       obtain ⟨t_14, ht_90, h⟩ := bd h
       refine tO (pc 0 (fun w hm => laws_toDrumS.calls aList1 w _ D_c (hm.xr D_h) rfl ht_90) ?_)
       rintro w v w' hm ⟨o_91, cap_92, sp_93, _, rfl, hs_94, ho_95, rfl, hm'⟩
       refine ⟨_, hm.app hm', jkO ?_⟩
       clear hm hm'
       obtain ⟨t_15, ht_96, h⟩ := bd h
       refine tO (pc 0 (fun w hm => laws_eqDrumS.calls t_9 t_14 w _ cap_39 (hm.ow 6 o_38 89 t_9 sp_40 (fun e => (ho_42 e).1) encA96U32_len) rfl cap_92 (hm.ow 9 o_91 89 t_14 sp_93 (fun e => (ho_95 e).1) encA96U32_len) rfl ht_96) ?_)
       rintro w v w' hm ⟨rfl, hm'⟩
       refine ⟨_, hm.app hm', jkO ?_⟩
       clear hm hm'
       refine qh [0] (qe (jx_then (qi h (fun h => ?_) (fun h => ?_))))
       ·refine jc_seq (jc_region (qh [0] (qe (jx_then (jc_ret (jx_thenr ?_))))))
        obtain rfl := Option.some.inj h
        exact qr [] (fun w hm => ⟨rfl, hm.pk []⟩)
       ·refine jc_skip (jx_then (jc_seq (jc_seq (jc_region (qh [0,0] ?_)))))
        obtain ⟨t_16, ht_98, h⟩ := bd h
        refine tO (pc 0 (fun w hm => laws_toInt64A2S.calls aTree2 w _ E_c (hm.xr E_h) rfl ht_98) ?_)
        rintro w v w' hm ⟨o_99, cap_100, sp_101, _, rfl, hs_102, ho_103, rfl, hm'⟩
        refine ⟨_, hm.app hm', jkO ?_⟩
        clear hm hm'
        obtain ⟨t_17, ht_104, h⟩ := bd h
        refine tO (pc 0 (fun w hm => laws_eqInt64A2S.calls t_10 t_16 w _ cap_45 (hm.ow 7 o_44 93 t_10 sp_46 (fun e => (ho_48 e).1) encA2I64_len) rfl cap_100 (hm.ow 10 o_99 93 t_16 sp_101 (fun e => (ho_103 e).1) encA2I64_len) rfl ht_104) ?_)
        rintro w v w' hm ⟨rfl, hm'⟩
        refine ⟨_, hm.app hm', jkO ?_⟩
        clear hm hm'
        refine qh [0] (qe (jx_then (qi h (fun h => ?_) (fun h => ?_))))
        ·refine jc_seq (jc_region (qh [0] (qe (jx_then (jc_ret (jx_thenr ?_))))))
         obtain rfl := Option.some.inj h
         exact qr [] (fun w hm => ⟨rfl, hm.pk []⟩)
        ·refine jc_skip (jx_then (jc_seq (jc_region (qh [0] (qe (jx_then (jc_ret ?_)))))))
         obtain rfl := Option.some.inj h
         exact qr [] (fun w hm => ⟨rfl, hm.pk []⟩)
end

end Go.Proofs.Ytbclghgbnnlbjaa
