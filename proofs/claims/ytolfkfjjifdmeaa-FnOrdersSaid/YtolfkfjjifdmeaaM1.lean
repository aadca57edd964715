/- Functions of the program that the laws reach: a plain function each, and that the call comes to its answer if the plain function has one. Printed by a program. -/
import Derived.Test.YtolfkfjjifdmeaaT
import Derived.Test.YtolfkfjjifdmeaaTab
import Derived.Test.YtolfkfjjifdmeaaM0
namespace Go.Proofs.Ytolfkfjjifdmeaa
open Eng
set_option linter.unusedVariables false

set_option linter.unusedSectionVars false
set_option maxRecDepth 100000
variable [dsW : DrwS]
noncomputable section
/-! ### spec.l05Best -/
def spec_l05Best.k_4 (t_2 : Int × (List (List Int))) (xt_1676 : List (List Int)) (xs_3 : List Int) : Option ((List Int) × Int) := some (xs_3, t_2.1)
def spec_l05Best.k_15 (xt_2507 : List (List Int)) (xs_11 : List Int) (i_12 : Int) (i_13 : Int) (i_14 : Int) : Option (((List (List Int)) × (List Int) × Int × Int × Int) ⊕ (((List (List Int)) × (List Int)))) := some (.inl (xt_2507, xs_11, i_12, i_13, i_14))
def spec_l05Best.l_17 (table0 : List (List Int)) (circle2 : Bool) (xs_5 : List Int) (i_6 : Int) (i_7 : Int) (i_8 : Int) : ((List (List Int)) × Int) → Option (((List (List Int)) × Int) ⊕ (((List (List Int)) × (List Int) × Int × Int × Int)))
  | (xt_2557, i_16) => (if (decide (i_16 < (table0.length : Int))) = true then (if 0 ≤ (u64 i_16) then (if ((Int.tmod (bShr .i64 i_6 (u64 i_16)) 2) == 0) = true then some (.inl (xt_2557, (w64 (i_16 + 1)))) else (if 0 ≤ (u64 i_16) then (spec_l05Rest table0 i_16 (bXor .i64 i_6 (bShl .i64 1 (u64 i_16))) circle2 xt_2557).bind fun t_19 => (ix table0 i_7).bind fun x_20 => (ix x_20 i_16).bind fun x_21 => (if ((w64 (x_21 + t_19.1)) == i_8) = true then (if xs_5.length + ([i_16] : List Int).length ≤ 4294967296 then (if 0 ≤ (u64 i_16) then some (.inr (t_19.2, (xs_5 ++ ([i_16] : List Int)), (bXor .i64 i_6 (bShl .i64 1 (u64 i_16))), i_16, t_19.1)) else none) else none) else some (.inl (t_19.2, (w64 (i_16 + 1))))) else none)) else none) else some (.inr (xt_2557, xs_5, i_6, i_7, i_8)))
def spec_l05Best.l_9 (table0 : List (List Int)) (circle2 : Bool) : ((List (List Int)) × (List Int) × Int × Int × Int) → Option (((List (List Int)) × (List Int) × Int × Int × Int) ⊕ (((List (List Int)) × (List Int))))
  | (xt_2280, xs_5, i_6, i_7, i_8) => (if (i_6 != 0) = true then (loop (spec_l05Best.l_17 table0 circle2 xs_5 i_6 i_7 i_8) (xt_2280, 0)).bind fun t_18 => spec_l05Best.k_15 t_18.1 t_18.2.1 t_18.2.2.1 t_18.2.2.2.1 t_18.2.2.2.2 else some (.inr (xt_2280, xs_5)))
def spec_l05Best.k_1 (table0 : List (List Int)) (first1 : Int) (circle2 : Bool) (xt_759 : List (List Int)) : Option ((List Int) × Int) := (if 0 ≤ (u64 (table0.length : Int)) then (if 0 ≤ (u64 first1) then (spec_l05Rest table0 first1 (bXor .i64 (w64 ((bShl .i64 1 (u64 (table0.length : Int))) - 1)) (bShl .i64 1 (u64 first1))) circle2 xt_759).bind fun t_2 => (loop (spec_l05Best.l_9 table0 circle2) (t_2.2, ([first1] : List Int), (bXor .i64 (w64 ((bShl .i64 1 (u64 (table0.length : Int))) - 1)) (bShl .i64 1 (u64 first1))), first1, t_2.1)).bind fun t_10 => spec_l05Best.k_4 t_2 t_10.1 t_10.2 else none) else none)
def spec_l05Best.k_26 (xt_2746 : List (List Int)) (i_22 : Int) (xs_25 : List Int) : Option (((List (List Int)) × Int) ⊕ ((List (List Int)))) := (if xt_2746.length + 1 ≤ 4294967296 then some (.inl ((xt_2746 ++ [xs_25]), (w64 (i_22 + 1)))) else none)
def spec_l05Best.l_29 (table0 : List (List Int)) : ((List Int) × Int) → Option (((List Int) × Int) ⊕ ((List Int)))
  | (xs_27, i_28) => (if (decide (i_28 < (((bShl .i64 1 (u64 (table0.length : Int))).toNat) : Int))) = true then (ix xs_27 i_28).bind fun x_31 => some (.inl ((xs_27.set i_28.toNat (-1)), (w64 (i_28 + 1)))) else some (.inr xs_27))
def spec_l05Best.l_23 (table0 : List (List Int)) : ((List (List Int)) × Int) → Option (((List (List Int)) × Int) ⊕ ((List (List Int))))
  | (xt_2746, i_22) => (if (decide (i_22 < (table0.length : Int))) = true then (if 0 ≤ (u64 (table0.length : Int)) then (if 0 ≤ (bShl .i64 1 (u64 (table0.length : Int))) ∧ (bShl .i64 1 (u64 (table0.length : Int))) ≤ 17592186044416 then (loop (spec_l05Best.l_29 table0) ((List.replicate (bShl .i64 1 (u64 (table0.length : Int))).toNat 0), 0)).bind fun t_30 => spec_l05Best.k_26 xt_2746 i_22 t_30 else none) else none) else some (.inr xt_2746))
def spec_l05Best (table0 : List (List Int)) (first1 : Int) (circle2 : Bool) : Option ((List Int) × Int) := (loop (spec_l05Best.l_23 table0) (([] : List (List Int)), 0)).bind fun t_24 => spec_l05Best.k_1 table0 first1 circle2 t_24
set_option maxHeartbeats 8000000 in
theorem spec_l05Best.calls (table0 : List (List Int)) (first1 : Int) (circle2 : Bool) (w : World) (r : (List Int) × Int) {A_a : Option Addr} {A_an : Nat} (A_c : Nat) {A_hs : List Hd} (A_h : Rw w A_a 1 encHd A_hs) (A_hn : table0.length = A_an) (A_i : Inn w [] 1 encI64 A_hs table0) (h : spec_l05Best table0 first1 circle2 = some r) :
    Calls Try.prog 39 #[(.slice A_a A_an A_c), (.int .i64 first1), (.bool circle2)] w fun e w' => ∃ v, e = .returned v ∧ (∃ (o0 : Option Nat) (c0 : Nat) (s0 : List Value) (n0 : Nat), r.1.length = n0 ∧ (o0 ≠ none → n0 ≤ c0 ∧ s0.length = (c0 - n0) * 1) ∧ (o0 = none → r.1 = [] ∧ c0 = 0) ∧ v = .tuple #[.slice (o0.map fun b => ⟨b, 0, none⟩) n0 c0, (.int .i64 r.2)] ∧ Mem w [] [⟨o0, 2, row encI64 r.1 s0⟩] w') := by
  subst A_hn
  rw [spec_l05Best] at h
  refine enter (args := [(.slice A_a table0.length A_c), (.int .i64 first1), (.bool circle2)]) Try.func39 rfl Try.ntmps39 (by kernel_rfl) (L := []) (W := []) (Mem.start w) ?_
  refine jc_seq (jc_region (qh [0,0] (qe (jx_then (jc_seq (jc_region (qh [0,0,0] (qe (jx_then (jc_seq (jc_region (tO (qa 0 (fun b_1 => jk_clu encI64 (jkO (qh [0] (qe (jx_then (jc_seq (jc_seq (jc_region (qh [0] (qe (jx_then (jc_meet (fun (j : (List (List Int)) × (List Hd) × (Option Nat) × Nat × (List Value) × Nat) => match j with | ⟨xt_759, hh_760, o_761, cap_762, sp_763, n_764⟩ => spec_l05Best.k_1 table0 first1 circle2 xt_759 = some r ∧ (hh_760.length = n_764) ∧ ((o_761 ≠ none → n_764 ≤ cap_762 ∧ sp_763.length = (cap_762 - n_764) * 1)) ∧ ((o_761 = none → hh_760 = [] ∧ cap_762 = 0)) ∧ (InP hh_760 xt_759) ∧ (Dst hh_760)) (fun (j : (List (List Int)) × (List Hd) × (Option Nat) × Nat × (List Value) × Nat) => match j with | ⟨xt_759, hh_760, o_761, cap_762, sp_763, n_764⟩ => [(0, [], (.slice A_a table0.length A_c)), (1, [], (.int .i64 first1)), (2, [], (.bool circle2)), (6, [], (.slice none 0 0)), (7, [], (.int .i64 0)), (8, [], (.int .i64 (table0.length : Int))), (9, [], (.slice (o_761.map fun b => ⟨b, 0, none⟩) n_764 cap_762))]) (fun (j : (List (List Int)) × (List Hd) × (Option Nat) × Nat × (List Value) × Nat) => match j with | ⟨xt_759, hh_760, o_761, cap_762, sp_763, n_764⟩ => [⟨o_761, 34, row encHd hh_760 sp_763⟩, ⟨none, CLU, cluC encI64 hh_760 xt_759⟩]) ?_ ?_)))))))))))))))))))))))))
  ·refine jc_block ?_
   obtain ⟨t_24, ht_2834, hr_2756⟩ := bd h
   refine jc_loop (fun (s : (List (List Int)) × Int) (x : (List Hd) × (Option Nat) × Nat × (List Value) × Nat) => match s, x with | ⟨xt_2746, i_22⟩, ⟨hh_2747, o_2748, cap_2749, sp_2750, n_2751⟩ => (hh_2747.length = n_2751) ∧ ((o_2748 ≠ none → n_2751 ≤ cap_2749 ∧ sp_2750.length = (cap_2749 - n_2751) * 1)) ∧ ((o_2748 = none → hh_2747 = [] ∧ cap_2749 = 0)) ∧ (InP hh_2747 xt_2746) ∧ (Dst hh_2747)) (fun (s : (List (List Int)) × Int) (x : (List Hd) × (Option Nat) × Nat × (List Value) × Nat) => match s, x with | ⟨xt_2746, i_22⟩, ⟨hh_2747, o_2748, cap_2749, sp_2750, n_2751⟩ => [(0, [], (.slice A_a table0.length A_c)), (1, [], (.int .i64 first1)), (2, [], (.bool circle2)), (6, [], (.slice none 0 0)), (7, [], (.int .i64 0)), (8, [], (.int .i64 (table0.length : Int))), (9, [], (.slice (o_2748.map fun b => ⟨b, 0, none⟩) n_2751 cap_2749)), (10, [], (.int .i64 i_22))]) (fun (s : (List (List Int)) × Int) (x : (List Hd) × (Option Nat) × Nat × (List Value) × Nat) => match s, x with | ⟨xt_2746, i_22⟩, ⟨hh_2747, o_2748, cap_2749, sp_2750, n_2751⟩ => [⟨o_2748, 34, row encHd hh_2747 sp_2750⟩, ⟨none, CLU, cluC encI64 hh_2747 xt_2746⟩]) ht_2834 ⟨([] : List Hd), (some b_1), 0, [], 0⟩ ⟨rfl, (fun _ => ⟨Nat.le_refl _, by simp⟩), (fun e => nomatch e), InP.nil, Dst.nil⟩ (by kernel_rfl) [0, 1] (by kernel_rfl) (by kernel_rfl) ?_
   rintro ⟨xt_2746, i_22⟩ ⟨hh_2747, o_2748, cap_2749, sp_2750, n_2751⟩ y_2757 ⟨rfl, hs_2752, ho_2753, hI_2754, hD_2755⟩ h
   rw [spec_l05Best.l_23] at h
   refine jc_seq (jc_seq (jc_region (qh [0,0,0] (qe (jx_then (qi h (fun h => ?_) (fun h => ?_)))))))
   ·refine jc_skip (jx_then (jc_seq (jc_block (jc_seq (jc_region (qh [0,0] ?_))))))
    obtain ⟨hg_2760, h⟩ := gd h
    refine tO (p_shl 0 .i64 1 .u64 (u64 (table0.length : Int)) (by kernel_rfl) (by kernel_rfl) hg_2760 (jkO ?_))
    obtain ⟨hg_2832, h⟩ := gd h
    refine tO (p_mk 0 2 (bShl .i64 1 (u64 (table0.length : Int))) 1 8 encI64 0 (by kernel_rfl) (by kernel_rfl) hg_2832.1 (by omega) (by kernel_rfl) (fun b_2761 => jkO (qh [0] (qe (jx_then (jc_seq (jc_seq (jc_region (qh [0] (qe (jx_then (jc_meet (fun (j : (List Int)) => match j with | xs_25 => spec_l05Best.k_26 xt_2746 i_22 xs_25 = some y_2757 ∧ (xs_25.length = (bShl .i64 1 (u64 (table0.length : Int))).toNat)) (fun (j : (List Int)) => match j with | xs_25 => [(0, [], (.slice A_a table0.length A_c)), (1, [], (.int .i64 first1)), (2, [], (.bool circle2)), (6, [], (.slice none 0 0)), (7, [], (.int .i64 0)), (8, [], (.int .i64 (table0.length : Int))), (9, [], (.slice (o_2748.map fun b => ⟨b, 0, none⟩) hh_2747.length cap_2749)), (10, [], (.int .i64 i_22)), (11, [], (.slice (some ⟨b_2761, 0, none⟩) ((bShl .i64 1 (u64 (table0.length : Int))).toNat) ((bShl .i64 1 (u64 (table0.length : Int))).toNat)))]) (fun (j : (List Int)) => match j with | xs_25 => [⟨o_2748, 34, row encHd hh_2747 sp_2750⟩, ⟨none, CLU, cluC encI64 hh_2747 xt_2746⟩, ⟨(some b_2761), 2, row encI64 xs_25 []⟩]) ?_ ?_))))))))))))
    ·refine jc_block ?_
     obtain ⟨t_30, ht_2831, hr_2825⟩ := bd h
     refine jc_loop (fun (s : (List Int) × Int) (x : Unit) => match s, x with | ⟨xs_27, i_28⟩, _ => (xs_27.length = (bShl .i64 1 (u64 (table0.length : Int))).toNat)) (fun (s : (List Int) × Int) (x : Unit) => match s, x with | ⟨xs_27, i_28⟩, _ => [(0, [], (.slice A_a table0.length A_c)), (1, [], (.int .i64 first1)), (2, [], (.bool circle2)), (6, [], (.slice none 0 0)), (7, [], (.int .i64 0)), (8, [], (.int .i64 (table0.length : Int))), (9, [], (.slice (o_2748.map fun b => ⟨b, 0, none⟩) hh_2747.length cap_2749)), (10, [], (.int .i64 i_22)), (11, [], (.slice (some ⟨b_2761, 0, none⟩) ((bShl .i64 1 (u64 (table0.length : Int))).toNat) ((bShl .i64 1 (u64 (table0.length : Int))).toNat))), (12, [], (.int .i64 i_28))]) (fun (s : (List Int) × Int) (x : Unit) => match s, x with | ⟨xs_27, i_28⟩, _ => [⟨o_2748, 34, row encHd hh_2747 sp_2750⟩, ⟨none, CLU, cluC encI64 hh_2747 xt_2746⟩, ⟨(some b_2761), 2, row encI64 xs_27 []⟩]) ht_2831 () List.length_replicate (by kernel_rfl) [0, 1, 2] (by kernel_rfl) (by kernel_rfl) ?_
     rintro ⟨xs_27, i_28⟩ _ y_2826 hn_2824 h
     rw [spec_l05Best.l_29] at h
     refine jc_seq (jc_seq (jc_region (qh [0,0,0,0] (qe (jx_then (qi h (fun h => ?_) (fun h => ?_)))))))
     ·refine jc_skip (jx_then (jc_seq (jc_block (jc_region (qh [0,0] ?_)))))
      obtain ⟨x_31, hx_2829, h⟩ := bd h
      exact tO (qx 0 (some ⟨b_2761, 0, none⟩) 1 hx_2829 hn_2824 rfl (jkO (tO (p_str 0 2 b_2761 2 encI64 xs_27 [] i_28 (-1) 1 0 [(.int .i64 (-1))] (by kernel_rfl) (by kernel_rfl) (by kernel_rfl) encI64_len hx_2829 (by kernel_rfl) (by kernel_rfl) (jkO (qe (jx_inn (jx_then (jc_region (qh [0,0,0] (qe (qb ((xs_27.set i_28.toNat (-1)), (w64 (i_28 + 1))) () h (List.length_set.trans hn_2824) [0, 1, 2]))))))))))))
     ·refine jc_exit (jx_thenx (jx_leave xs_27 (Option.some.inj h).symm (fun e_2830 => ?_)))
      subst e_2830
      exact jx_ine (qm xs_27 ⟨hr_2825, hn_2824⟩ [0, 1, 2])
    ·rintro xs_25 ⟨h, hn_2808⟩
     replace h : spec_l05Best.k_26 xt_2746 i_22 xs_25 = some y_2757 := h
     rw [spec_l05Best.k_26] at h
     refine jx_then (jc_region (qh [0,0] (tO (qa 0 (fun b_2809 => jkO ?_)))))
     obtain ⟨hg_2810, h⟩ := gd h
     exact tO (p_apn 0 0 o_2748 34 hh_2747.length 1 cap_2749 1 24 (some ⟨b_2809, 0, none⟩) encHd hh_2747 [(Hd.mk (some ⟨b_2761, 0, none⟩) ((bShl .i64 1 (u64 (table0.length : Int))).toNat) ((bShl .i64 1 (u64 (table0.length : Int))).toNat))] sp_2750 (.slice none 0 0) rfl rfl (by kernel_rfl) (by kernel_rfl) (by kernel_rfl) encHd_len encHd_cell hs_2752 ho_2753 (fun w hm => (hm.ow 3 (some b_2809) 34 ([(Hd.mk (some ⟨b_2761, 0, none⟩) ((bShl .i64 1 (u64 (table0.length : Int))).toNat) ((bShl .i64 1 (u64 (table0.length : Int))).toNat))]) [] (fun e => nomatch e) encHd_len)) (tabbig hI_2754 hg_2810) (by kernel_rfl) (by kernel_rfl) (fun o_2811 cap_2812 sp_2813 hs_2814 ho_2815 => jk_frzD (enc := encI64) (hs := hh_2747) (xss := xt_2746) (o := (some b_2761)) (T := 2) (xs := xs_25) (sp := []) 1 2 ((bShl .i64 1 (u64 (table0.length : Int))).toNat) ((bShl .i64 1 (u64 (table0.length : Int))).toNat) hI_2754 hD_2755 (fun hD_2816 => jkO (qh [0] (qe (jx_inn (jx_then (jc_region (qh [0,0,0] (qe (qb ((xt_2746 ++ [xs_25]), (w64 (i_22 + 1))) ⟨(hh_2747 ++ [(Hd.mk (some ⟨b_2761, 0, none⟩) ((bShl .i64 1 (u64 (table0.length : Int))).toNat) ((bShl .i64 1 (u64 (table0.length : Int))).toNat))]), o_2811, cap_2812, sp_2813, (hh_2747 ++ [(Hd.mk (some ⟨b_2761, 0, none⟩) ((bShl .i64 1 (u64 (table0.length : Int))).toNat) ((bShl .i64 1 (u64 (table0.length : Int))).toNat))]).length⟩ h ⟨rfl, hs_2814, ho_2815, (hI_2754.snoc (o := (some b_2761)) hn_2808 (fun e => nomatch e)), hD_2816⟩ [0, 1])))))))))))
   ·refine jc_exit (jx_thenx (jx_leave xt_2746 (Option.some.inj h).symm (fun e_2833 => ?_)))
    subst e_2833
    exact jx_ine (qm ⟨xt_2746, hh_2747, o_2748, cap_2749, sp_2750, hh_2747.length⟩ ⟨hr_2756, rfl, hs_2752, ho_2753, hI_2754, hD_2755⟩ [0, 1])
  ·rintro ⟨xt_759, hh_760, o_761, cap_762, sp_763, n_764⟩ ⟨h, rfl, hs_765, ho_766, hI_767, hD_768⟩
   replace h : spec_l05Best.k_1 table0 first1 circle2 xt_759 = some r := h
   rw [spec_l05Best.k_1] at h
   refine jx_then (jc_seq (jc_region (qh [0,0] ?_)))
   obtain ⟨hg_769, h⟩ := gd h
   refine tO (p_shl 0 .i64 1 .u64 (u64 (table0.length : Int)) (by kernel_rfl) (by kernel_rfl) hg_769 (jkO (qh [0,0,0] ?_)))
   obtain ⟨hg_770, h⟩ := gd h
   refine tO (p_shl 0 .i64 1 .u64 (u64 first1) (by kernel_rfl) (by kernel_rfl) hg_770 (jkO (qh [0,0] (qe (jx_then (jc_seq (jc_region (qh [0,0,0,0,0] ?_))))))))
   obtain ⟨t_2, ht_771, h⟩ := bd h
   refine tO (pc 0 (fun w hm => spec_l05Rest.calls table0 first1 (bXor .i64 (w64 ((bShl .i64 1 (u64 (table0.length : Int))) - 1)) (bShl .i64 1 (u64 first1))) circle2 xt_759 w _ A_c (hm.xr A_h) rfl cap_762 (hm.ow 0 o_761 34 hh_760 sp_763 (fun e => (ho_766 e).1) encHd_len) (hI_767.1.symm.trans rfl) hI_767 hD_768 (hm.cluM 1 hI_767) (hm.exApartM (enc := encI64) 1 hI_767 A_h (fun _ => List.not_mem_nil)) (hm.innPassM (enc := encI64) 1 hI_767 A_i) (hm.ownApartM (enc := encI64) (R := Hd) (hh := 0) (o := o_761) (T := 34) (cs := row encHd hh_760 sp_763) (xs := hh_760) 1 hI_767 (by kernel_rfl) (fun e => (ho_766 e).1)) ht_771) ?_)
   rintro w v w' hm ⟨hI_772, rfl, hm'⟩
   refine ⟨_, hm.appC 1 hI_767 hm', jkO ?_⟩
   clear hm hm'
   refine qh [0] (qe (jx_then (jc_seq (jc_region (qh [0] (tO (qa 0 (fun b_773 => jkO (qh [0] (qe (jx_then (jc_seq (jc_region (qh [0,0] (qe (jx_then (jc_seq (jc_region (qh [0,0] (qe (jx_then (jc_seq (jc_meet (fun (j : (List (List Int)) × (List Int) × (Option Nat) × Nat × (List Value) × Nat) => match j with | ⟨xt_1676, xs_3, o_1678, cap_1679, sp_1680, n_1681⟩ => spec_l05Best.k_4 t_2 xt_1676 xs_3 = some r ∧ (InP hh_760 xt_1676) ∧ (xs_3.length = n_1681) ∧ ((o_1678 ≠ none → n_1681 ≤ cap_1679 ∧ sp_1680.length = (cap_1679 - n_1681) * 1)) ∧ ((o_1678 = none → xs_3 = [] ∧ cap_1679 = 0))) (fun (j : (List (List Int)) × (List Int) × (Option Nat) × Nat × (List Value) × Nat) => match j with | ⟨xt_1676, xs_3, o_1678, cap_1679, sp_1680, n_1681⟩ => [(6, [], (.slice none 0 0)), (7, [], (.int .i64 0)), (14, [], (.int .i64 t_2.1)), (15, [], (.slice (o_1678.map fun b => ⟨b, 0, none⟩) n_1681 cap_1679))]) (fun (j : (List (List Int)) × (List Int) × (Option Nat) × Nat × (List Value) × Nat) => match j with | ⟨xt_1676, xs_3, o_1678, cap_1679, sp_1680, n_1681⟩ => [⟨o_761, 34, row encHd hh_760 sp_763⟩, ⟨none, CLU, cluC encI64 hh_760 xt_1676⟩, ⟨o_1678, 2, row encI64 xs_3 sp_1680⟩]) ?_ ?_)))))))))))))))))))))))
   ·refine jc_block ?_
    obtain ⟨t_10, ht_2585, hr_2288⟩ := bd h
    refine jc_loop (fun (s : (List (List Int)) × (List Int) × Int × Int × Int) (x : (Option Nat) × Nat × (List Value) × Nat) => match s, x with | ⟨xt_2280, xs_5, i_6, i_7, i_8⟩, ⟨o_2282, cap_2283, sp_2284, n_2285⟩ => (InP hh_760 xt_2280) ∧ (xs_5.length = n_2285) ∧ ((o_2282 ≠ none → n_2285 ≤ cap_2283 ∧ sp_2284.length = (cap_2283 - n_2285) * 1)) ∧ ((o_2282 = none → xs_5 = [] ∧ cap_2283 = 0))) (fun (s : (List (List Int)) × (List Int) × Int × Int × Int) (x : (Option Nat) × Nat × (List Value) × Nat) => match s, x with | ⟨xt_2280, xs_5, i_6, i_7, i_8⟩, ⟨o_2282, cap_2283, sp_2284, n_2285⟩ => [(0, [], (.slice A_a table0.length A_c)), (2, [], (.bool circle2)), (6, [], (.slice none 0 0)), (7, [], (.int .i64 0)), (8, [], (.int .i64 (table0.length : Int))), (9, [], (.slice (o_761.map fun b => ⟨b, 0, none⟩) hh_760.length cap_762)), (13, [], (.int .i64 i_6)), (14, [], (.int .i64 t_2.1)), (15, [], (.slice (o_2282.map fun b => ⟨b, 0, none⟩) n_2285 cap_2283)), (16, [], (.int .i64 i_7)), (17, [], (.int .i64 i_8))]) (fun (s : (List (List Int)) × (List Int) × Int × Int × Int) (x : (Option Nat) × Nat × (List Value) × Nat) => match s, x with | ⟨xt_2280, xs_5, i_6, i_7, i_8⟩, ⟨o_2282, cap_2283, sp_2284, n_2285⟩ => [⟨o_761, 34, row encHd hh_760 sp_763⟩, ⟨none, CLU, cluC encI64 hh_760 xt_2280⟩, ⟨o_2282, 2, row encI64 xs_5 sp_2284⟩]) ht_2585 ⟨(some b_773), 1, [], 1⟩ ⟨hI_772, rfl, (fun _ => ⟨Nat.le_refl _, by simp⟩), (fun e => nomatch e)⟩ (by kernel_rfl) [0, 1, 2] (by kernel_rfl) (by kernel_rfl) ?_
    rintro ⟨xt_2280, xs_5, i_6, i_7, i_8⟩ ⟨o_2282, cap_2283, sp_2284, n_2285⟩ y_2289 ⟨hI_2281, rfl, hs_2286, ho_2287⟩ h
    rw [spec_l05Best.l_9] at h
    refine jc_seq (jc_seq (jc_region (qh [0,0] (qe (jx_then (qi h (fun h => ?_) (fun h => ?_)))))))
    ·refine jc_skip (jx_then (jc_block (jc_seq (jc_region (qh [0] (qe (jx_then (jc_meet (fun (j : (List (List Int)) × (List Int) × Int × Int × Int × (Option Nat) × Nat × (List Value) × Nat) => match j with | ⟨xt_2507, xs_11, i_12, i_13, i_14, o_2509, cap_2510, sp_2511, n_2512⟩ => spec_l05Best.k_15 xt_2507 xs_11 i_12 i_13 i_14 = some y_2289 ∧ (InP hh_760 xt_2507) ∧ (xs_11.length = n_2512) ∧ ((o_2509 ≠ none → n_2512 ≤ cap_2510 ∧ sp_2511.length = (cap_2510 - n_2512) * 1)) ∧ ((o_2509 = none → xs_11 = [] ∧ cap_2510 = 0))) (fun (j : (List (List Int)) × (List Int) × Int × Int × Int × (Option Nat) × Nat × (List Value) × Nat) => match j with | ⟨xt_2507, xs_11, i_12, i_13, i_14, o_2509, cap_2510, sp_2511, n_2512⟩ => [(0, [], (.slice A_a table0.length A_c)), (2, [], (.bool circle2)), (6, [], (.slice none 0 0)), (7, [], (.int .i64 0)), (8, [], (.int .i64 (table0.length : Int))), (9, [], (.slice (o_761.map fun b => ⟨b, 0, none⟩) hh_760.length cap_762)), (13, [], (.int .i64 i_12)), (14, [], (.int .i64 t_2.1)), (15, [], (.slice (o_2509.map fun b => ⟨b, 0, none⟩) n_2512 cap_2510)), (16, [], (.int .i64 i_13)), (17, [], (.int .i64 i_14))]) (fun (j : (List (List Int)) × (List Int) × Int × Int × Int × (Option Nat) × Nat × (List Value) × Nat) => match j with | ⟨xt_2507, xs_11, i_12, i_13, i_14, o_2509, cap_2510, sp_2511, n_2512⟩ => [⟨o_761, 34, row encHd hh_760 sp_763⟩, ⟨none, CLU, cluC encI64 hh_760 xt_2507⟩, ⟨o_2509, 2, row encI64 xs_11 sp_2511⟩]) ?_ ?_))))))))
     ·refine jc_block ?_
      obtain ⟨t_18, ht_2583, hr_2559⟩ := bd h
      refine jc_loop (fun (s : (List (List Int)) × Int) (x : Unit) => match s, x with | ⟨xt_2557, i_16⟩, _ => (InP hh_760 xt_2557)) (fun (s : (List (List Int)) × Int) (x : Unit) => match s, x with | ⟨xt_2557, i_16⟩, _ => [(0, [], (.slice A_a table0.length A_c)), (2, [], (.bool circle2)), (6, [], (.slice none 0 0)), (7, [], (.int .i64 0)), (8, [], (.int .i64 (table0.length : Int))), (9, [], (.slice (o_761.map fun b => ⟨b, 0, none⟩) hh_760.length cap_762)), (13, [], (.int .i64 i_6)), (14, [], (.int .i64 t_2.1)), (15, [], (.slice (o_2282.map fun b => ⟨b, 0, none⟩) xs_5.length cap_2283)), (16, [], (.int .i64 i_7)), (17, [], (.int .i64 i_8)), (18, [], (.int .i64 i_16))]) (fun (s : (List (List Int)) × Int) (x : Unit) => match s, x with | ⟨xt_2557, i_16⟩, _ => [⟨o_761, 34, row encHd hh_760 sp_763⟩, ⟨none, CLU, cluC encI64 hh_760 xt_2557⟩, ⟨o_2282, 2, row encI64 xs_5 sp_2284⟩]) ht_2583 () hI_2281 (by kernel_rfl) [0, 1, 2] (by kernel_rfl) (by kernel_rfl) ?_
      rintro ⟨xt_2557, i_16⟩ _ y_2560 hI_2558 h
      rw [spec_l05Best.l_17] at h
      refine jc_seq (jc_seq (jc_region (qh [0,0,0] (qe (jx_then (qi h (fun h => ?_) (fun h => ?_)))))))
      ·refine jc_skip (jx_then (jc_seq (jc_block (jc_seq (jc_seq (jc_region (qh [0,0,0] ?_)))))))
       obtain ⟨hg_2565, h⟩ := gd h
       refine tO (p_shr 0 .i64 i_6 .u64 (u64 i_16) (by kernel_rfl) (by kernel_rfl) hg_2565 (jkO (qh [0,0] (qe (jx_then (qi h (fun h => ?_) (fun h => ?_)))))))
       ·exact jc_exit (jx_thenx (jx_ine (jx_then (jc_region (qh [0,0,0] (qe (qb (xt_2557, (w64 (i_16 + 1))) () h hI_2558 [0, 1, 2])))))))
       ·refine jc_skip (jx_then (jc_seq (jc_region (qh [0,0,0,0,0] ?_))))
        obtain ⟨hg_2567, h⟩ := gd h
        refine tO (p_shl 0 .i64 1 .u64 (u64 i_16) (by kernel_rfl) (by kernel_rfl) hg_2567 (jkO (qh [0,0,0] ?_)))
        obtain ⟨t_19, ht_2568, h⟩ := bd h
        refine tO (pc 0 (fun w hm => spec_l05Rest.calls table0 i_16 (bXor .i64 i_6 (bShl .i64 1 (u64 i_16))) circle2 xt_2557 w _ A_c (hm.xr A_h) rfl cap_762 (hm.ow 0 o_761 34 hh_760 sp_763 (fun e => (ho_766 e).1) encHd_len) (hI_2558.1.symm.trans rfl) hI_2558 hD_768 (hm.cluM 1 hI_2558) (hm.exApartM (enc := encI64) 1 hI_2558 A_h (fun _ => List.not_mem_nil)) (hm.innPassM (enc := encI64) 1 hI_2558 A_i) (hm.ownApartM (enc := encI64) (R := Hd) (hh := 0) (o := o_761) (T := 34) (cs := row encHd hh_760 sp_763) (xs := hh_760) 1 hI_2558 (by kernel_rfl) (fun e => (ho_766 e).1)) ht_2568) ?_)
        rintro w v w' hm ⟨hI_2569, rfl, hm'⟩
        refine ⟨_, hm.appC 1 hI_2558 hm', jkO ?_⟩
        clear hm hm'
        refine qh [0] (qe (jx_then (jc_seq (jc_region (qh [0,0] ?_)))))
        obtain ⟨x_20, hx_2570, h⟩ := bd h
        refine tO (qx 0 A_a 1 hx_2570 rfl (A_h.sp (A_i.ixh hx_2570)) (jkO (tO (ql 0 false (fun w hm => ((hm.xr A_h).at (A_i.ixh hx_2570))) (jkO (qh [0] ?_))))))
        obtain ⟨x_21, hx_2571, h⟩ := bd h
        refine tO (qx 0 (hd A_hs i_7).a 1 hx_2571 (A_i.get hx_2570).2.1 ((A_i.get hx_2570).1.sp hx_2571) (jkO (tO (ql 0 false (fun w hm => ((hm.exRow (A_i.get hx_2570).1 List.not_mem_nil).at hx_2571)) (jkO (qh [0,0,0,0] (qe (jx_then (qi h (fun h => ?_) (fun h => ?_))))))))))
        ·refine jc_seq (jc_region (qh [0,0] (tO (qa 0 (fun b_2573 => jkO ?_)))))
         obtain ⟨hg_2574, h⟩ := gd h
         refine tO (p_apn 0 2 o_2282 2 xs_5.length 1 cap_2283 1 8 (some ⟨b_2573, 0, none⟩) encI64 xs_5 ([i_16] : List Int) sp_2284 (.int .i64 0) rfl rfl (by kernel_rfl) (by kernel_rfl) (by kernel_rfl) encI64_len encI64_cell hs_2286 ho_2287 (fun w hm => (hm.ow 3 (some b_2573) 2 ([i_16] : List Int) [] (fun e => nomatch e) encI64_len)) hg_2574 (by kernel_rfl) (by kernel_rfl) (fun o_2575 cap_2576 sp_2577 hs_2578 ho_2579 => jkO (qh [0] (qe (jx_then (jc_seq (jc_region (qh [0,0,0] ?_))))))))
         obtain ⟨hg_2580, h⟩ := gd h
         refine tO (p_shl 0 .i64 1 .u64 (u64 i_16) (by kernel_rfl) (by kernel_rfl) hg_2580 (jkO (qh [0,0] (qe (jx_then (jc_seq (jc_region (qh [0,0] (qe (jx_then (jc_seq (jc_region (qh [0,0] (qe (jx_then (jc_exit (jx_inx rfl (jx_thenx (jx_leave (t_19.2, (xs_5 ++ ([i_16] : List Int)), (bXor .i64 i_6 (bShl .i64 1 (u64 i_16))), i_16, t_19.1) (Option.some.inj h).symm (fun e_2581 => ?_))))))))))))))))))))
         subst e_2581
         exact jx_ine (qm ⟨t_19.2, (xs_5 ++ ([i_16] : List Int)), (bXor .i64 i_6 (bShl .i64 1 (u64 i_16))), i_16, t_19.1, o_2575, cap_2576, sp_2577, (xs_5 ++ ([i_16] : List Int)).length⟩ ⟨hr_2559, hI_2569, rfl, hs_2578, ho_2579⟩ [0, 1, 2])
        ·exact jc_skip (jx_inn (jx_then (jc_region (qh [0,0,0] (qe (qb (t_19.2, (w64 (i_16 + 1))) () h hI_2569 [0, 1, 2]))))))
      ·refine jc_exit (jx_thenx (jx_leave (xt_2557, xs_5, i_6, i_7, i_8) (Option.some.inj h).symm (fun e_2582 => ?_)))
       subst e_2582
       exact jx_ine (qm ⟨xt_2557, xs_5, i_6, i_7, i_8, o_2282, cap_2283, sp_2284, xs_5.length⟩ ⟨hr_2559, hI_2558, rfl, hs_2286, ho_2287⟩ [0, 1, 2])
     ·rintro ⟨xt_2507, xs_11, i_12, i_13, i_14, o_2509, cap_2510, sp_2511, n_2512⟩ ⟨h, hI_2508, rfl, hs_2513, ho_2514⟩
      replace h : spec_l05Best.k_15 xt_2507 xs_11 i_12 i_13 i_14 = some y_2289 := h
      rw [spec_l05Best.k_15] at h
      exact jx_inn (qb (xt_2507, xs_11, i_12, i_13, i_14) ⟨o_2509, cap_2510, sp_2511, xs_11.length⟩ h ⟨hI_2508, rfl, hs_2513, ho_2514⟩ [0, 1, 2])
    ·refine jc_exit (jx_thenx (jx_leave (xt_2280, xs_5) (Option.some.inj h).symm (fun e_2584 => ?_)))
     subst e_2584
     exact jx_ine (qm ⟨xt_2280, xs_5, o_2282, cap_2283, sp_2284, xs_5.length⟩ ⟨hr_2288, hI_2281, rfl, hs_2286, ho_2287⟩ [0, 1, 2])
   ·rintro ⟨xt_1676, xs_3, o_1678, cap_1679, sp_1680, n_1681⟩ ⟨h, hI_1677, rfl, hs_1682, ho_1683⟩
    replace h : spec_l05Best.k_4 t_2 xt_1676 xs_3 = some r := h
    rw [spec_l05Best.k_4] at h
    refine jx_then (jc_seq (jc_region (qh [0,0,0,0] (qe (jx_then (jc_ret ?_))))))
    obtain rfl := Option.some.inj h
    exact qr [] (fun w hm => ⟨o_1678, cap_1679, sp_1680, xs_3.length, rfl, hs_1682, ho_1683, rfl, hm.pk [2]⟩)
/-! ### spec.BestOrder -/
def spec_BestOrder.k_7 (xs_5 : List Int) (i_6 : Int) : Option ((List Int) × Int × Int) := some (xs_5, i_6, 0)
def spec_BestOrder.l_11 (list1 : List (Arr 96 Int)) (t_2 : (List (List Int))) : ((List Int) × Int × Int) → Option (((List Int) × Int × Int) ⊕ (((List Int) × Int)))
  | (xs_8, i_9, i_10) => (if (decide (i_10 < (list1.length : Int))) = true then (spec_l05Best t_2 i_10 false).bind fun t_13 => (if (decide (t_13.2 < i_9)) = true then some (.inl (t_13.1, t_13.2, (w64 (i_10 + 1)))) else some (.inl (xs_8, i_9, (w64 (i_10 + 1))))) else some (.inr (xs_8, i_9)))
def spec_BestOrder (f0 : GFrame) (list1 : List (Arr 96 Int)) (first2 : Int) : Option ((List Int) × Int × Int) := (spec_l05First f0 list1 first2).bind fun t_1 => (if (t_1 != 0) = true then some (([] : List Int), 0, t_1) else (spec_l05Table list1).bind fun t_2 => (if (decide (first2 ≥ 0)) = true then (spec_l05Best t_2 first2 false).bind fun t_3 => some (t_3.1, t_3.2, 0) else (spec_l05Best t_2 0 false).bind fun t_4 => (loop (spec_BestOrder.l_11 list1 t_2) (t_4.1, t_4.2, 1)).bind fun t_12 => spec_BestOrder.k_7 t_12.1 t_12.2))
theorem spec_BestOrder.calls (f0 : GFrame) (list1 : List (Arr 96 Int)) (first2 : Int) (w : World) (r : (List Int) × Int × Int) {C_a : Option Addr} {C_an : Nat} (C_c : Nat) (C_h : Rw w C_a 2 encGHammer f0.fHammers) (C_hn : f0.fHammers.length = C_an) {D_a : Option Addr} {D_an : Nat} (D_c : Nat) (D_h : Rw w D_a 96 encA96U32 list1) (D_hn : list1.length = D_an) (h : spec_BestOrder f0 list1 first2 = some r) :
    Calls Try.prog 10 #[(.agg #[(.int .i16 f0.fSteps), (.slice C_a C_an C_c)]), (.slice D_a D_an D_c), (.int .i64 first2)] w fun e w' => ∃ v, e = .returned v ∧ (∃ (o0 : Option Nat) (c0 : Nat) (s0 : List Value) (n0 : Nat), r.1.length = n0 ∧ (o0 ≠ none → n0 ≤ c0 ∧ s0.length = (c0 - n0) * 1) ∧ (o0 = none → r.1 = [] ∧ c0 = 0) ∧ v = .tuple #[.slice (o0.map fun b => ⟨b, 0, none⟩) n0 c0, (.int .i64 r.2.1), (.int .i64 r.2.2)] ∧ Mem w [] [⟨o0, 2, row encI64 r.1 s0⟩] w') := by
  subst C_hn D_hn
  rw [spec_BestOrder] at h
  refine enter (args := [(.agg #[(.int .i16 f0.fSteps), (.slice C_a f0.fHammers.length C_c)]), (.slice D_a list1.length D_c), (.int .i64 first2)]) Try.func10 rfl Try.ntmps10 (by kernel_rfl) (L := []) (W := []) (Mem.start w) ?_
  refine jc_seq (jc_region (tO (qa 0 (fun b_1 => jkO (qh [0,0,0] (qe (jx_then (jc_seq (jc_seq (jc_region (qh [0,0] ?_)))))))))))
  obtain ⟨t_1, ht_5, h⟩ := bd h
  refine tO (pc 0 (fun w hm => spec_l05First.calls f0 list1 first2 w _ C_c (hm.xr C_h) rfl D_c (hm.xr D_h) rfl b_1 (hm.pass (N := [⟨some b_1, 27, [(.int .i16 f0.fSteps), (.slice C_a f0.fHammers.length C_c)]⟩]) [0] (by kernel_rfl) (by kernel_rfl)) (hm.exApart (N := [⟨some b_1, 27, [(.int .i16 f0.fSteps), (.slice C_a f0.fHammers.length C_c)]⟩]) C_h (fun _ => List.not_mem_nil) [0] (by kernel_rfl)) (hm.exApart (N := [⟨some b_1, 27, [(.int .i16 f0.fSteps), (.slice C_a f0.fHammers.length C_c)]⟩]) D_h (fun _ => List.not_mem_nil) [0] (by kernel_rfl)) ht_5) ?_)
  rintro w v w' hm ⟨rfl, hm'⟩
  refine ⟨_, hm.appW (ps := [(0, ⟨some b_1, 27, [(.int .i16 f0.fSteps), (.slice C_a f0.fHammers.length C_c)]⟩)]) (N := []) hm' (by kernel_rfl) (by kernel_rfl), jkO ?_⟩
  clear hm hm'
  refine qh [0] (qe (jx_then (jc_seq (jc_region (qh [0,0] (qe (jx_then (qi h (fun h => ?_) (fun h => ?_)))))))))
  ·refine jc_seq (jc_region (tO (qa 0 (fun b_7 => jkO (qh [0,0,0,0] (qe (jx_then (jc_ret (jx_thenr ?_)))))))))
   obtain rfl := Option.some.inj h
   exact qr [] (fun w hm => ⟨(some b_7), 0, [], 0, rfl, (fun _ => ⟨Nat.le_refl _, by simp⟩), (fun e => nomatch e), rfl, hm.pk [1]⟩)
  ·refine jc_skip (jx_then (jc_seq (jc_region (qh [0] ?_))))
   obtain ⟨t_2, ht_8, h⟩ := bd h
   refine tO (pc 0 (fun w hm => spec_l05Table.calls list1 w _ D_c (hm.xr D_h) rfl ht_8) ?_)
   rintro w v w' hm ⟨o_9, cap_10, sp_11, _, hh_14, hI_15, rfl, hs_12, ho_13, rfl, hm'⟩
   refine ⟨_, hm.app hm', jkO ?_⟩
   clear hm hm'
   refine qh [0] (qe (jx_then (jc_seq (jc_seq (jc_region (qh [0,0] (qe (jx_then (qi h (fun h => ?_) (fun h => ?_))))))))))
   ·refine jc_seq (jc_region (qh [0,0] ?_))
    obtain ⟨t_3, ht_24, h⟩ := bd h
    refine tO (pc 0 (fun w hm => spec_l05Best.calls t_2 first2 false w _ cap_10 (hm.ow 1 o_9 34 hh_14 sp_11 (fun e => (ho_13 e).1) encHd_len) (hI_15.1.symm.trans rfl) (hm.cluPass (N := []) 2 hI_15 encI64_len []) ht_24) ?_)
    rintro w v w' hm ⟨o_25, cap_26, sp_27, _, rfl, hs_28, ho_29, rfl, hm'⟩
    refine ⟨_, hm.app hm', jkO ?_⟩
    clear hm hm'
    refine qh [0,0,0,0,0] (qe (jx_then (jc_seq (jc_region (qh [0,0,0,0,0] (qe (jx_then (jc_ret (jx_thenr ?_)))))))))
    obtain rfl := Option.some.inj h
    exact qr [] (fun w hm => ⟨o_25, cap_26, sp_27, t_3.1.length, rfl, hs_28, ho_29, rfl, hm.pk [3]⟩)
   ·refine jc_skip (jx_then (jc_seq (jc_region (qh [0] ?_))))
    obtain ⟨t_4, ht_30, h⟩ := bd h
    refine tO (pc 0 (fun w hm => spec_l05Best.calls t_2 0 false w _ cap_10 (hm.ow 1 o_9 34 hh_14 sp_11 (fun e => (ho_13 e).1) encHd_len) (hI_15.1.symm.trans rfl) (hm.cluPass (N := []) 2 hI_15 encI64_len []) ht_30) ?_)
    rintro w v w' hm ⟨o_31, cap_32, sp_33, _, rfl, hs_34, ho_35, rfl, hm'⟩
    refine ⟨_, hm.app hm', jkO ?_⟩
    clear hm hm'
    refine qh [0,0,0,0,0] (qe (jx_then (jc_seq (jc_seq (jc_region (qh [0] (qe (jx_then (jc_meet (fun (j : (List Int) × Int × (Option Nat) × Nat × (List Value) × Nat) => match j with | ⟨xs_5, i_6, o_171, cap_172, sp_173, n_174⟩ => spec_BestOrder.k_7 xs_5 i_6 = some r ∧ (xs_5.length = n_174) ∧ ((o_171 ≠ none → n_174 ≤ cap_172 ∧ sp_173.length = (cap_172 - n_174) * 1)) ∧ ((o_171 = none → xs_5 = [] ∧ cap_172 = 0))) (fun (j : (List Int) × Int × (Option Nat) × Nat × (List Value) × Nat) => match j with | ⟨xs_5, i_6, o_171, cap_172, sp_173, n_174⟩ => [(6, [], (.slice none 0 0)), (7, [], (.int .i64 0)), (8, [], (.int .i64 0)), (13, [], (.slice (o_171.map fun b => ⟨b, 0, none⟩) n_174 cap_172)), (14, [], (.int .i64 i_6))]) (fun (j : (List Int) × Int × (Option Nat) × Nat × (List Value) × Nat) => match j with | ⟨xs_5, i_6, o_171, cap_172, sp_173, n_174⟩ => [⟨some b_1, 27, [(.int .i16 f0.fSteps), (.slice C_a f0.fHammers.length C_c)]⟩, ⟨o_9, 34, row encHd hh_14 sp_11⟩, ⟨none, CLU, cluC encI64 hh_14 t_2⟩, ⟨none, 0, []⟩, ⟨o_171, 2, row encI64 xs_5 sp_173⟩]) ?_ ?_)))))))))
    ·refine jc_block ?_
     obtain ⟨t_12, ht_219, hr_207⟩ := bd h
     refine jc_ghost 0 (fun (_ : Unit) => ([] : List Value)) (jc_loop (fun (s : (List Int) × Int × Int) (x : (Option Nat) × Nat × (List Value) × Nat) => match s, x with | ⟨xs_8, i_9, i_10⟩, ⟨o_201, cap_202, sp_203, n_204⟩ => (xs_8.length = n_204) ∧ ((o_201 ≠ none → n_204 ≤ cap_202 ∧ sp_203.length = (cap_202 - n_204) * 1)) ∧ ((o_201 = none → xs_8 = [] ∧ cap_202 = 0))) (fun (s : (List Int) × Int × Int) (x : (Option Nat) × Nat × (List Value) × Nat) => match s, x with | ⟨xs_8, i_9, i_10⟩, ⟨o_201, cap_202, sp_203, n_204⟩ => [(1, [], (.slice D_a list1.length D_c)), (6, [], (.slice none 0 0)), (7, [], (.int .i64 0)), (8, [], (.int .i64 0)), (10, [], (.slice (o_9.map fun b => ⟨b, 0, none⟩) hh_14.length cap_10)), (13, [], (.slice (o_201.map fun b => ⟨b, 0, none⟩) n_204 cap_202)), (14, [], (.int .i64 i_9)), (15, [], (.int .i64 i_10))]) (fun (s : (List Int) × Int × Int) (x : (Option Nat) × Nat × (List Value) × Nat) => match s, x with | ⟨xs_8, i_9, i_10⟩, ⟨o_201, cap_202, sp_203, n_204⟩ => [⟨some b_1, 27, [(.int .i16 f0.fSteps), (.slice C_a f0.fHammers.length C_c)]⟩, ⟨o_9, 34, row encHd hh_14 sp_11⟩, ⟨none, CLU, cluC encI64 hh_14 t_2⟩, ⟨none, 0, []⟩, ⟨o_201, 2, row encI64 xs_8 sp_203⟩]) ht_219 ⟨o_31, cap_32, sp_33, t_4.1.length⟩ ⟨rfl, hs_34, ho_35⟩ (by kernel_rfl) [0, 1, 2, 4, 3] (by kernel_rfl) (by kernel_rfl) ?_)
     rintro ⟨xs_8, i_9, i_10⟩ ⟨o_201, cap_202, sp_203, n_204⟩ y_208 ⟨rfl, hs_205, ho_206⟩ h
     rw [spec_BestOrder.l_11] at h
     refine jc_seq (jc_seq (jc_region (qh [0,0,0,0] (qe (jx_then (qi h (fun h => ?_) (fun h => ?_)))))))
     ·refine jc_skip (jx_then (jc_seq (jc_block (jc_seq (jc_region (qh [0,0] ?_))))))
      obtain ⟨t_13, ht_211, h⟩ := bd h
      refine tO (pc 0 (fun w hm => spec_l05Best.calls t_2 i_10 false w _ cap_10 (hm.ow 1 o_9 34 hh_14 sp_11 (fun e => (ho_13 e).1) encHd_len) (hI_15.1.symm.trans rfl) (hm.cluPass (N := []) 2 hI_15 encI64_len []) ht_211) ?_)
      rintro w v w' hm ⟨o_212, cap_213, sp_214, _, rfl, hs_215, ho_216, rfl, hm'⟩
      refine ⟨_, hm.app hm', jkO ?_⟩
      clear hm hm'
      refine qh [0,0,0,0,0] (qe (jx_then (jc_seq (jc_region (qh [0,0,0] (qe (jx_then (qi h (fun h => ?_) (fun h => ?_)))))))))
      ·exact jc_seq (jc_region (qh [0,0] (qe (jx_then (jc_region (qh [0,0] (qe (jx_inn (jx_then (jc_region (qh [0,0,0] (qe (qb (t_13.1, t_13.2, (w64 (i_10 + 1))) ⟨o_212, cap_213, sp_214, t_13.1.length⟩ h ⟨rfl, hs_215, ho_216⟩ [0, 1, 2, 3, 5])))))))))))))
      ·exact jc_skip (jx_inn (jx_then (jc_region (qh [0,0,0] (qe (qb (xs_8, i_9, (w64 (i_10 + 1))) ⟨o_201, cap_202, sp_203, xs_8.length⟩ h ⟨rfl, hs_205, ho_206⟩ [0, 1, 2, 3, 4]))))))
     ·refine jc_exit (jx_thenx (jx_leave (xs_8, i_9) (Option.some.inj h).symm (fun e_218 => ?_)))
      subst e_218
      exact jx_ine (qm ⟨xs_8, i_9, o_201, cap_202, sp_203, xs_8.length⟩ ⟨hr_207, rfl, hs_205, ho_206⟩ [0, 1, 2, 3, 4])
    ·rintro ⟨xs_5, i_6, o_171, cap_172, sp_173, n_174⟩ ⟨h, rfl, hs_175, ho_176⟩
     replace h : spec_BestOrder.k_7 xs_5 i_6 = some r := h
     rw [spec_BestOrder.k_7] at h
     refine jx_then (jc_seq (jc_region (qh [0,0,0,0,0] (qe (jx_then (jc_ret ?_))))))
     obtain rfl := Option.some.inj h
     exact qr [] (fun w hm => ⟨o_171, cap_172, sp_173, xs_5.length, rfl, hs_175, ho_176, rfl, hm.pk [4]⟩)
/-! ### impl.BestCircle$1 -/
def impl_BestCircle_1 (order0 : List Int) (p1 : List (List Int)) (p2 : Int) (p3 : List Int) : Option (Int × (List Int)) := (ix order0 (w64 ((order0.length : Int) - 1))).bind fun x_1 => (ix p1 x_1).bind fun x_2 => (ix x_2 0).bind fun x_3 => (impl_orderCost p1 order0).bind fun t_4 => (if ((decide (p2 < 0)) || (decide ((w64 (t_4 + x_3)) < p2))) = true then some ((w64 (t_4 + x_3)), order0) else some (p2, p3))
theorem impl_BestCircle_1.calls (order0 : List Int) (p1 : List (List Int)) (p2 : Int) (p3 : List Int) (w : World) (r : Int × (List Int)) {A_a : Option Addr} {A_an : Nat} (A_c : Nat) (A_h : Rw w A_a 1 encI64 order0) (A_hn : order0.length = A_an) {B_a : Option Addr} {B_an : Nat} (B_c : Nat) {B_hs : List Hd} (B_h : Rw w B_a 1 encHd B_hs) (B_hn : p1.length = B_an) {D_a : Option Addr} {D_an : Nat} (D_c : Nat) (D_hn : p3.length = D_an) (B_b : Nat) (C_b : Nat) (D_b : Nat) (hm0 : Mem w (bs [some B_b, some C_b, some D_b]) [⟨some B_b, 31, [(.slice B_a B_an B_c)]⟩, ⟨some C_b, 2, [(.int .i64 p2)]⟩, ⟨some D_b, 34, [(.slice D_a D_an D_c)]⟩] w) (A_ha : order0 ≠ [] → aB A_a ∉ bs [some B_b, some C_b, some D_b]) (B_ha : B_hs ≠ [] → aB B_a ∉ bs [some B_b, some C_b, some D_b]) (B_i : Inn w (bs [some B_b, some C_b, some D_b]) 1 encI64 B_hs p1) (h : impl_BestCircle_1 order0 p1 p2 p3 = some r) :
    Calls Try.prog 40 #[(.slice A_a A_an A_c), (.pointer (some ⟨B_b, 0, none⟩)), (.pointer (some ⟨C_b, 0, none⟩)), (.pointer (some ⟨D_b, 0, none⟩))] w fun e w' => ∃ v, e = .returned v ∧ (∃ (lo : Option Nat) (la : Option Addr) (lc : Nat) (lsp : List Value) (ln : Nat), r.2.length = ln ∧ LsB lo la lc lsp ln r.2 1 [(D_a, D_c, p3), (A_a, A_c, order0)] ∧ v = .tuple #[] ∧ Mem w (bs [some B_b, some C_b, some D_b]) [⟨some B_b, 31, [(.slice B_a B_an B_c)]⟩, ⟨some C_b, 2, [(.int .i64 r.1)]⟩, ⟨some D_b, 34, [(.slice la ln lc)]⟩, ⟨lo, 2, row encI64 r.2 lsp⟩] w') := by
  subst A_hn B_hn D_hn
  rw [impl_BestCircle_1] at h
  refine enter (args := [(.slice A_a order0.length A_c), (.pointer (some ⟨B_b, 0, none⟩)), (.pointer (some ⟨C_b, 0, none⟩)), (.pointer (some ⟨D_b, 0, none⟩))]) Try.func40 rfl Try.ntmps40 (by kernel_rfl) (L := [⟨some B_b, 31, [(.slice B_a p1.length B_c)]⟩, ⟨some C_b, 2, [(.int .i64 p2)]⟩, ⟨some D_b, 34, [(.slice D_a p3.length D_c)]⟩]) (W := bs [some B_b, some C_b, some D_b]) hm0 ?_
  refine jc_ghostX 2 encI64 p3 ?_
  refine jc_seq (qg [⟨some B_b, 31, [(.slice B_a p1.length B_c)]⟩, ⟨some C_b, 2, [(.int .i64 p2)]⟩, ⟨some D_b, 34, [(.slice D_a p3.length D_c)]⟩, ⟨(none : Option Nat), 2, row encI64 p3 []⟩] 16 (qd [⟨0, 0, 0⟩,⟨1, 0, 0⟩,⟨3, 0, 0⟩,⟨4, 0, 0⟩,⟨5, 0, 0⟩,⟨6, 0, 0⟩,⟨7, 0, 0⟩] 9 [0, 1, 2, 3] ?_))
  obtain ⟨x_1, hx_1, h⟩ := bd h
  refine qv 8 0 [0, 1, 2, 3] (fun w hm => idx_run (a := A_a) (len := order0.length) (s := 1) (j := (w64 ((order0.length : Int) - 1))) (by kernel_rfl) (ix_some hx_1).1 (ltn hx_1 rfl) (A_h.sp hx_1)) (qv 9 0 [0, 1, 2, 3] (fun w hm => ld_run (b := aB A_a) (off := (aO A_a + (w64 ((order0.length : Int) - 1)).toNat * 1)) (s := 1) (agg := false) (vs := (encI64 x_1)) (by kernel_rfl) (by kernel_rfl) (.inr rfl) ((hm.exRowW A_h A_ha).at hx_1)) ?_)
  obtain ⟨x_2, hx_2, h⟩ := bd h
  refine qv 10 0 [0, 1, 2, 3] (fun w hm => idx_run (a := B_a) (len := p1.length) (s := 1) (j := x_1) (by kernel_rfl) (ix_some hx_2).1 (ltn hx_2 rfl) (B_h.sp (B_i.ixh hx_2))) (qv 11 0 [0, 1, 2, 3] (fun w hm => ld_run (b := aB B_a) (off := (aO B_a + x_1.toNat * 1)) (s := 1) (agg := false) (vs := encHd (hd B_hs x_1)) (by kernel_rfl) (by kernel_rfl) (.inr rfl) ((hm.exRowW B_h B_ha).at (B_i.ixh hx_2))) ?_)
  obtain ⟨x_3, hx_3, h⟩ := bd h
  refine qv 12 0 [0, 1, 2, 3] (fun w hm => idx_run (a := (hd B_hs x_1).a) (len := ((hd B_hs x_1).n)) (s := 1) (j := 0) (by kernel_rfl) (ix_some hx_3).1 (ltn hx_3 (B_i.get hx_2).2.1) ((B_i.get hx_2).1.sp hx_3)) (qv 13 0 [0, 1, 2, 3] (fun w hm => ld_run (b := aB (hd B_hs x_1).a) (off := (aO (hd B_hs x_1).a + (0 : Int).toNat * 1)) (s := 1) (agg := false) (vs := (encI64 x_3)) (by kernel_rfl) (by kernel_rfl) (.inr rfl) ((hm.exRowW (B_i.get hx_2).1 (B_i.get hx_2).2.2).at hx_3)) ?_)
  obtain ⟨t_4, ht_4, h⟩ := bd h
  refine tD 2 (pc 0 (fun w hm => impl_orderCost.calls p1 order0 w _ B_c (hm.exRowW B_h B_ha) rfl (hm.innPass (N := []) B_i [] (by kernel_rfl)) A_c (hm.exRowW A_h A_ha) rfl ht_4) ?_)
  rintro w v w' hm ⟨rfl, hm'⟩
  refine ⟨_, hm.app hm', kD [0, 1, 2, 3] ?_⟩
  clear hm hm'
  refine qd [⟨14, 0, 0⟩,⟨15, 0, 0⟩] 0 [0, 1, 2, 3] (qz (jx_then (jc_seq (jc_region (qf [(1, 0), (0, 0), (0, 0), (0, 1), (1, 1), (0, 1), (0, 0)] (qe (jx_then (qi h (fun h => ?_) (fun h => ?_)))))))))
  ·refine jc_region (qh [0,0] (tO (qs 0 [2] (jk_lsN 3 2 encI64 order0 (jkO (tO (qs 0 [1] (jkO (qe (jx_fall ?_))))))))))
   obtain rfl := Option.some.inj h
   exact qr [] (fun w hm => ⟨(none : Option Nat), A_a, A_c, [], order0.length, rfl, ls1, rfl, hm.pk [0, 1, 2, 3]⟩)
  ·refine jc_skip (jx_fall ?_)
   obtain rfl := Option.some.inj h
   exact qr [] (fun w hm => ⟨(none : Option Nat), D_a, D_c, [], p3.length, rfl, ls0, rfl, hm.pk [0, 1, 2, 3]⟩)
/-! ### impl.orders -/
def impl_orders_at_impl_BestCircle_1.k_6 (xs_3 : List Int) (i_5 : Int) : Option (Int × (List Int)) := some (i_5, xs_3)
def impl_orders_at_impl_BestCircle_1.l_11 (self_ : Int → (List Int) → (List (List Int)) → Int → (List Int) → Option (Int × (List Int))) (n0 : Int) (order1 : List Int) (g2c0 : List (List Int)) : ((List Int) × Int × Int) → Option (((List Int) × Int × Int) ⊕ (((List Int) × Int)))
  | (xs_7, i_9, i_10) => (if (decide (i_10 < n0)) = true then (slices_Contains_int64 order1 i_10).bind fun t_13 => (if (!t_13) = true then (slices_Clone_int64 order1).bind fun t_14 => (if t_14.length + ([i_10] : List Int).length ≤ 4294967296 then (self_ n0 (t_14 ++ ([i_10] : List Int)) g2c0 i_9 xs_7).bind fun t_15 => some (.inl (t_15.2, t_15.1, (w64 (i_10 + 1)))) else none) else some (.inl (xs_7, i_9, (w64 (i_10 + 1))))) else some (.inr (xs_7, i_9)))
def impl_orders_at_impl_BestCircle_1.step (self_ : Int → (List Int) → (List (List Int)) → Int → (List Int) → Option (Int × (List Int))) (n0 : Int) (order1 : List Int) (g2c0 : List (List Int)) (g2c1 : Int) (g2c2 : List Int) : Option (Int × (List Int)) := (if ((order1.length : Int) == n0) = true then (impl_BestCircle_1 order1 g2c0 g2c1 g2c2).bind fun t_1 => some (t_1.1, t_1.2) else (loop (impl_orders_at_impl_BestCircle_1.l_11 self_ n0 order1 g2c0) (g2c2, g2c1, 0)).bind fun t_12 => impl_orders_at_impl_BestCircle_1.k_6 t_12.1 t_12.2)
def impl_orders_at_impl_BestCircle_1.rec_ : Nat → Int → (List Int) → (List (List Int)) → Int → (List Int) → Option (Int × (List Int))
  | 0 => fun n0 order1 g2c0 g2c1 g2c2 => none
  | fu + 1 => impl_orders_at_impl_BestCircle_1.step (impl_orders_at_impl_BestCircle_1.rec_ fu)
def impl_orders_at_impl_BestCircle_1 (n0 : Int) (order1 : List Int) (g2c0 : List (List Int)) (g2c1 : Int) (g2c2 : List Int) : Option (Int × (List Int)) := impl_orders_at_impl_BestCircle_1.rec_ 16 n0 order1 g2c0 g2c1 g2c2
theorem impl_orders_at_impl_BestCircle_1.step_calls (self_ : Int → (List Int) → (List (List Int)) → Int → (List Int) → Option (Int × (List Int))) (hself : ∀ (n0 : Int) (order1 : List Int) (g2c0 : List (List Int)) (g2c1 : Int) (g2c2 : List Int) (w : World) (r : Int × (List Int)) {B_a : Option Addr} {B_an : Nat} (B_c : Nat) (B_h : Rw w B_a 1 encI64 order1) (B_hn : order1.length = B_an) {C_a : Option Addr} {C_an : Nat} (C_c : Nat) {C_hs : List Hd} (C_h : Rw w C_a 1 encHd C_hs) (C_hn : g2c0.length = C_an) {E_a : Option Addr} {E_an : Nat} (E_c : Nat) (E_hn : g2c2.length = E_an) (C_b : Nat) (D_b : Nat) (E_b : Nat) (hm0 : Mem w (bs [some C_b, some D_b, some E_b]) [⟨some C_b, 31, [(.slice C_a C_an C_c)]⟩, ⟨some D_b, 2, [(.int .i64 g2c1)]⟩, ⟨some E_b, 34, [(.slice E_a E_an E_c)]⟩] w) (B_ha : order1 ≠ [] → aB B_a ∉ bs [some C_b, some D_b, some E_b]) (C_ha : C_hs ≠ [] → aB C_a ∉ bs [some C_b, some D_b, some E_b]) (C_i : Inn w (bs [some C_b, some D_b, some E_b]) 1 encI64 C_hs g2c0) (h : self_ n0 order1 g2c0 g2c1 g2c2 = some r),
    Calls Try.prog 34 #[(.int .i64 n0), (.slice B_a B_an B_c), (.func (.func 40) #[] #[(.pointer (some ⟨C_b, 0, none⟩)), (.pointer (some ⟨D_b, 0, none⟩)), (.pointer (some ⟨E_b, 0, none⟩))])] w fun e w' => ∃ v, e = .returned v ∧ (∃ (lo : Option Nat) (la : Option Addr) (lc : Nat) (lsp : List Value) (ln : Nat), r.2.length = ln ∧ LsB lo la lc lsp ln r.2 1 [(E_a, E_c, g2c2), (B_a, B_c, order1)] ∧ v = .tuple #[] ∧ Mem w (bs [some C_b, some D_b, some E_b]) [⟨some C_b, 31, [(.slice C_a C_an C_c)]⟩, ⟨some D_b, 2, [(.int .i64 r.1)]⟩, ⟨some E_b, 34, [(.slice la ln lc)]⟩, ⟨lo, 2, row encI64 r.2 lsp⟩] w')) (n0 : Int) (order1 : List Int) (g2c0 : List (List Int)) (g2c1 : Int) (g2c2 : List Int) (w : World) (r : Int × (List Int)) {B_a : Option Addr} {B_an : Nat} (B_c : Nat) (B_h : Rw w B_a 1 encI64 order1) (B_hn : order1.length = B_an) {C_a : Option Addr} {C_an : Nat} (C_c : Nat) {C_hs : List Hd} (C_h : Rw w C_a 1 encHd C_hs) (C_hn : g2c0.length = C_an) {E_a : Option Addr} {E_an : Nat} (E_c : Nat) (E_hn : g2c2.length = E_an) (C_b : Nat) (D_b : Nat) (E_b : Nat) (hm0 : Mem w (bs [some C_b, some D_b, some E_b]) [⟨some C_b, 31, [(.slice C_a C_an C_c)]⟩, ⟨some D_b, 2, [(.int .i64 g2c1)]⟩, ⟨some E_b, 34, [(.slice E_a E_an E_c)]⟩] w) (B_ha : order1 ≠ [] → aB B_a ∉ bs [some C_b, some D_b, some E_b]) (C_ha : C_hs ≠ [] → aB C_a ∉ bs [some C_b, some D_b, some E_b]) (C_i : Inn w (bs [some C_b, some D_b, some E_b]) 1 encI64 C_hs g2c0) (h : impl_orders_at_impl_BestCircle_1.step self_ n0 order1 g2c0 g2c1 g2c2 = some r) :
    Calls Try.prog 34 #[(.int .i64 n0), (.slice B_a B_an B_c), (.func (.func 40) #[] #[(.pointer (some ⟨C_b, 0, none⟩)), (.pointer (some ⟨D_b, 0, none⟩)), (.pointer (some ⟨E_b, 0, none⟩))])] w fun e w' => ∃ v, e = .returned v ∧ (∃ (lo : Option Nat) (la : Option Addr) (lc : Nat) (lsp : List Value) (ln : Nat), r.2.length = ln ∧ LsB lo la lc lsp ln r.2 1 [(E_a, E_c, g2c2), (B_a, B_c, order1)] ∧ v = .tuple #[] ∧ Mem w (bs [some C_b, some D_b, some E_b]) [⟨some C_b, 31, [(.slice C_a C_an C_c)]⟩, ⟨some D_b, 2, [(.int .i64 r.1)]⟩, ⟨some E_b, 34, [(.slice la ln lc)]⟩, ⟨lo, 2, row encI64 r.2 lsp⟩] w') := by
  subst B_hn C_hn E_hn
  rw [impl_orders_at_impl_BestCircle_1.step] at h
  refine enter (args := [(.int .i64 n0), (.slice B_a order1.length B_c), (.func (.func 40) #[] #[(.pointer (some ⟨C_b, 0, none⟩)), (.pointer (some ⟨D_b, 0, none⟩)), (.pointer (some ⟨E_b, 0, none⟩))])]) Try.func34 rfl Try.ntmps34 (by kernel_rfl) (L := [⟨some C_b, 31, [(.slice C_a g2c0.length C_c)]⟩, ⟨some D_b, 2, [(.int .i64 g2c1)]⟩, ⟨some E_b, 34, [(.slice E_a g2c2.length E_c)]⟩]) (W := bs [some C_b, some D_b, some E_b]) hm0 ?_
  refine jc_ghostX 2 encI64 g2c2 ?_
  refine jc_seq (jc_seq (jc_region (qh [0,0,0,0] (qe (jx_then (qi h (fun h => ?_) (fun h => ?_)))))))
  ·refine jc_seq (jc_region (qh [0,0] ?_))
   obtain ⟨t_1, ht_12, h⟩ := bd h
   refine tO (pc 0 (fun w hm => impl_BestCircle_1.calls order1 g2c0 g2c1 g2c2 w _ B_c (hm.exRowW B_h B_ha) rfl C_c (hm.exRowW C_h C_ha) rfl E_c rfl C_b D_b E_b (hm.pass (N := [⟨some C_b, 31, [(.slice C_a g2c0.length C_c)]⟩, ⟨some D_b, 2, [(.int .i64 g2c1)]⟩, ⟨some E_b, 34, [(.slice E_a g2c2.length E_c)]⟩]) [0, 1, 2] (by kernel_rfl) (by kernel_rfl)) (hm.exApart (N := [⟨some C_b, 31, [(.slice C_a g2c0.length C_c)]⟩, ⟨some D_b, 2, [(.int .i64 g2c1)]⟩, ⟨some E_b, 34, [(.slice E_a g2c2.length E_c)]⟩]) B_h B_ha [0, 1, 2] (by kernel_rfl)) (hm.exApart (N := [⟨some C_b, 31, [(.slice C_a g2c0.length C_c)]⟩, ⟨some D_b, 2, [(.int .i64 g2c1)]⟩, ⟨some E_b, 34, [(.slice E_a g2c2.length E_c)]⟩]) C_h C_ha [0, 1, 2] (by kernel_rfl)) (hm.innPass (N := [⟨some C_b, 31, [(.slice C_a g2c0.length C_c)]⟩, ⟨some D_b, 2, [(.int .i64 g2c1)]⟩, ⟨some E_b, 34, [(.slice E_a g2c2.length E_c)]⟩]) C_i [0, 1, 2] (by kernel_rfl)) ht_12) ?_)
   rintro w v w' hm ⟨o_13, a_2, cap_14, sp_15, _, rfl, hl_16, rfl, hm'⟩
   obtain ⟨o_17, sp_18, hl_19, hM_20⟩ := Mem.ls2 (T := 2) (enc := encI64) (o1 := (none : Option Nat)) (sp1 := []) (xs1 := g2c2) (o := o_13) (sp := sp_15) (xs := t_1.2) (F := [(E_a, E_c, g2c2), (B_a, B_c, order1)]) (hm.appW (ps := [(0, ⟨some C_b, 31, [(.slice C_a g2c0.length C_c)]⟩), (1, ⟨some D_b, 2, [(.int .i64 t_1.1)]⟩), (2, ⟨some E_b, 34, [(.slice a_2 t_1.2.length cap_14)]⟩)]) (N := [⟨o_13, 2, row encI64 t_1.2 sp_15⟩]) hm' (by kernel_rfl) (by kernel_rfl)) 3 4 (by kernel_rfl) (by kernel_rfl) (by kernel_rfl) ls0 rfl (.inl (List.mem_cons_of_mem _ List.mem_cons_self)) rfl hl_16
   refine ⟨_, Mem.pick hM_20 (N := [⟨some C_b, 31, [(.slice C_a g2c0.length C_c)]⟩, ⟨some D_b, 2, [(.int .i64 t_1.1)]⟩, ⟨some E_b, 34, [(.slice a_2 t_1.2.length cap_14)]⟩, ⟨o_17, 2, row encI64 t_1.2 sp_18⟩]) [0, 1, 2, 3] (by kernel_rfl) (by kernel_rfl), jkO ?_⟩
   clear hm hm' hM_20
   refine qe (jx_then (jc_ret (jx_thenr ?_)))
   obtain rfl := Option.some.inj h
   exact qr [] (fun w hm => ⟨o_17, a_2, cap_14, sp_18, t_1.2.length, rfl, hl_19, rfl, hm.pk [0, 1, 2, 3]⟩)
  ·refine jc_skip (jx_then (jc_seq (jc_region (qh [0,0] (qe (jx_then (jc_meet (fun (j : (List Int) × Int × (Option Nat) × (Option Addr) × Nat × (List Value) × Nat) => match j with | ⟨xs_3, i_5, o_113, a_4, cap_114, sp_115, n_116⟩ => impl_orders_at_impl_BestCircle_1.k_6 xs_3 i_5 = some r ∧ (xs_3.length = n_116) ∧ (LsB o_113 a_4 cap_114 sp_115 n_116 xs_3 1 [(E_a, E_c, g2c2), (B_a, B_c, order1)])) (fun (j : (List Int) × Int × (Option Nat) × (Option Addr) × Nat × (List Value) × Nat) => match j with | ⟨xs_3, i_5, o_113, a_4, cap_114, sp_115, n_116⟩ => []) (fun (j : (List Int) × Int × (Option Nat) × (Option Addr) × Nat × (List Value) × Nat) => match j with | ⟨xs_3, i_5, o_113, a_4, cap_114, sp_115, n_116⟩ => [⟨some C_b, 31, [(.slice C_a g2c0.length C_c)]⟩, ⟨some D_b, 2, [(.int .i64 i_5)]⟩, ⟨some E_b, 34, [(.slice a_4 n_116 cap_114)]⟩, ⟨o_113, 2, row encI64 xs_3 sp_115⟩]) ?_ ?_)))))))
   ·refine jc_block ?_
    obtain ⟨t_12, ht_209, hr_180⟩ := bd h
    refine jc_loop (fun (s : (List Int) × Int × Int) (x : (Option Nat) × (Option Addr) × Nat × (List Value) × Nat) => match s, x with | ⟨xs_7, i_9, i_10⟩, ⟨o_175, a_8, cap_176, sp_177, n_178⟩ => (xs_7.length = n_178) ∧ (LsB o_175 a_8 cap_176 sp_177 n_178 xs_7 1 [(E_a, E_c, g2c2), (B_a, B_c, order1)])) (fun (s : (List Int) × Int × Int) (x : (Option Nat) × (Option Addr) × Nat × (List Value) × Nat) => match s, x with | ⟨xs_7, i_9, i_10⟩, ⟨o_175, a_8, cap_176, sp_177, n_178⟩ => [(0, [], (.int .i64 n0)), (1, [], (.slice B_a order1.length B_c)), (2, [], (.func (.func 40) #[] #[(.pointer (some ⟨C_b, 0, none⟩)), (.pointer (some ⟨D_b, 0, none⟩)), (.pointer (some ⟨E_b, 0, none⟩))])), (14, [], (.int .i64 n0)), (15, [], (.int .i64 i_10))]) (fun (s : (List Int) × Int × Int) (x : (Option Nat) × (Option Addr) × Nat × (List Value) × Nat) => match s, x with | ⟨xs_7, i_9, i_10⟩, ⟨o_175, a_8, cap_176, sp_177, n_178⟩ => [⟨some C_b, 31, [(.slice C_a g2c0.length C_c)]⟩, ⟨some D_b, 2, [(.int .i64 i_9)]⟩, ⟨some E_b, 34, [(.slice a_8 n_178 cap_176)]⟩, ⟨o_175, 2, row encI64 xs_7 sp_177⟩]) ht_209 ⟨(none : Option Nat), E_a, E_c, [], g2c2.length⟩ ⟨rfl, ls0⟩ (by kernel_rfl) [0, 1, 2, 3] (by kernel_rfl) (by kernel_rfl) ?_
    rintro ⟨xs_7, i_9, i_10⟩ ⟨o_175, a_8, cap_176, sp_177, n_178⟩ y_181 ⟨rfl, hl_179⟩ h
    rw [impl_orders_at_impl_BestCircle_1.l_11] at h
    refine jc_seq (jc_region (qh [0] (qe (jx_then (jc_seq (qi h (fun h => ?_) (fun h => ?_)))))))
    ·refine jc_skip (jx_then (jc_seq (jc_block (jc_seq (jc_region (qh [0,0] (qe (jx_then (jc_seq (jc_region (qh [0,0] ?_)))))))))))
     obtain ⟨t_13, ht_184, h⟩ := bd h
     refine tO (pc 0 (fun w hm => slices_Contains_int64.calls order1 i_10 w _ B_c (hm.exRowW B_h B_ha) rfl ht_184) ?_)
     rintro w v w' hm ⟨rfl, hm'⟩
     refine ⟨_, hm.app hm', jkO ?_⟩
     clear hm hm'
     refine qh [0] (qe (jx_then (qi h (fun h => ?_) (fun h => ?_))))
     ·refine jc_region (qh [0,0] ?_)
      obtain ⟨t_14, ht_186, h⟩ := bd h
      refine tO (pc 0 (fun w hm => slices_Clone_int64.calls order1 w _ B_c (hm.exRowW B_h B_ha) rfl ht_186) ?_)
      rintro w v w' hm ⟨o_187, cap_188, sp_189, _, rfl, hs_190, ho_191, rfl, hm'⟩
      refine ⟨_, hm.app hm', jkO ?_⟩
      clear hm hm'
      refine qh [0] (tO (qa 0 (fun b_192 => jkO ?_)))
      obtain ⟨hg_193, h⟩ := gd h
      refine tO (p_apn 0 4 o_187 2 t_14.length 1 cap_188 1 8 (some ⟨b_192, 0, none⟩) encI64 t_14 ([i_10] : List Int) sp_189 (.int .i64 0) rfl rfl (by kernel_rfl) (by kernel_rfl) (by kernel_rfl) encI64_len encI64_cell hs_190 ho_191 (fun w hm => (hm.ow 5 (some b_192) 2 ([i_10] : List Int) [] (fun e => nomatch e) encI64_len)) hg_193 (by kernel_rfl) (by kernel_rfl) (fun o_194 cap_195 sp_196 hs_197 ho_198 => jkO (qh [0] ?_)))
      obtain ⟨t_15, ht_199, h⟩ := bd h
      refine tO (pc 0 (fun w hm => hself n0 (t_14 ++ ([i_10] : List Int)) g2c0 i_9 xs_7 w _ cap_195 (hm.ow 4 o_194 2 (t_14 ++ ([i_10] : List Int)) sp_196 (fun e => (ho_198 e).1) encI64_len) rfl C_c (hm.exRowW C_h C_ha) rfl cap_176 rfl C_b D_b E_b (hm.pass (N := [⟨some C_b, 31, [(.slice C_a g2c0.length C_c)]⟩, ⟨some D_b, 2, [(.int .i64 i_9)]⟩, ⟨some E_b, 34, [(.slice a_8 xs_7.length cap_176)]⟩]) [0, 1, 2] (by kernel_rfl) (by kernel_rfl)) (hm.ownApart (S := Int) (N := [⟨some C_b, 31, [(.slice C_a g2c0.length C_c)]⟩, ⟨some D_b, 2, [(.int .i64 i_9)]⟩, ⟨some E_b, 34, [(.slice a_8 xs_7.length cap_176)]⟩]) (hh := 4) (o := o_194) (T := 2) (cs := row encI64 (t_14 ++ ([i_10] : List Int)) sp_196) (xs := (t_14 ++ ([i_10] : List Int))) (by kernel_rfl) (fun e => (ho_198 e).1) [0, 1, 2] (by kernel_rfl) (by kernel_rfl)) (hm.exApart (N := [⟨some C_b, 31, [(.slice C_a g2c0.length C_c)]⟩, ⟨some D_b, 2, [(.int .i64 i_9)]⟩, ⟨some E_b, 34, [(.slice a_8 xs_7.length cap_176)]⟩]) C_h C_ha [0, 1, 2] (by kernel_rfl)) (hm.innPass (N := [⟨some C_b, 31, [(.slice C_a g2c0.length C_c)]⟩, ⟨some D_b, 2, [(.int .i64 i_9)]⟩, ⟨some E_b, 34, [(.slice a_8 xs_7.length cap_176)]⟩]) C_i [0, 1, 2] (by kernel_rfl)) ht_199) ?_)
      rintro w v w' hm ⟨o_200, a_16, cap_201, sp_202, _, rfl, hl_203, rfl, hm'⟩
      obtain ⟨o_204, sp_205, hl_206, hM_207⟩ := Mem.ls3 (T := 2) (enc := encI64) (o1 := o_175) (sp1 := sp_177) (xs1 := xs_7) (o := o_200) (sp := sp_202) (xs := t_15.2) (F := [(E_a, E_c, g2c2), (B_a, B_c, order1)]) (o2 := o_194) (sp2 := sp_196) (xs2 := (t_14 ++ ([i_10] : List Int))) (hm.appW (ps := [(0, ⟨some C_b, 31, [(.slice C_a g2c0.length C_c)]⟩), (1, ⟨some D_b, 2, [(.int .i64 t_15.1)]⟩), (2, ⟨some E_b, 34, [(.slice a_16 t_15.2.length cap_201)]⟩)]) (N := [⟨o_200, 2, row encI64 t_15.2 sp_202⟩]) hm' (by kernel_rfl) (by kernel_rfl)) 3 4 6 (by kernel_rfl) (by kernel_rfl) (by kernel_rfl) (by kernel_rfl) hl_179 rfl hs_197 ho_198 rfl rfl hl_203
      refine ⟨_, Mem.pick hM_207 (N := [⟨some C_b, 31, [(.slice C_a g2c0.length C_c)]⟩, ⟨some D_b, 2, [(.int .i64 t_15.1)]⟩, ⟨some E_b, 34, [(.slice a_16 t_15.2.length cap_201)]⟩, ⟨o_204, 2, row encI64 t_15.2 sp_205⟩, ⟨none, 0, []⟩, ⟨(some b_192), 2, row encI64 ([i_10] : List Int) []⟩]) [0, 1, 2, 3, 4, 5] (by kernel_rfl) (by kernel_rfl), jkO ?_⟩
      clear hm hm' hM_207
      exact qe (jx_inn (jx_then (jc_region (qh [0,0] (qe (qb (t_15.2, t_15.1, (w64 (i_10 + 1))) ⟨o_204, a_16, cap_201, sp_205, t_15.2.length⟩ h ⟨rfl, hl_206⟩ [0, 1, 2, 3]))))))
     ·exact jc_skip (jx_inn (jx_then (jc_region (qh [0,0] (qe (qb (xs_7, i_9, (w64 (i_10 + 1))) ⟨o_175, a_8, cap_176, sp_177, xs_7.length⟩ h ⟨rfl, hl_179⟩ [0, 1, 2, 3]))))))
    ·refine jc_exit (jx_thenx (jx_leave (xs_7, i_9) (Option.some.inj h).symm (fun e_208 => ?_)))
     subst e_208
     exact jx_ine (qm ⟨xs_7, i_9, o_175, a_8, cap_176, sp_177, xs_7.length⟩ ⟨hr_180, rfl, hl_179⟩ [0, 1, 2, 3])
   ·rintro ⟨xs_3, i_5, o_113, a_4, cap_114, sp_115, n_116⟩ ⟨h, rfl, hl_117⟩
    replace h : impl_orders_at_impl_BestCircle_1.k_6 xs_3 i_5 = some r := h
    rw [impl_orders_at_impl_BestCircle_1.k_6] at h
    refine jx_fall ?_
    obtain rfl := Option.some.inj h
    exact qr [] (fun w hm => ⟨o_113, a_4, cap_114, sp_115, xs_3.length, rfl, hl_117, rfl, hm.pk [0, 1, 2, 3]⟩)
theorem impl_orders_at_impl_BestCircle_1.rec_calls (fu : Nat) : ∀ (n0 : Int) (order1 : List Int) (g2c0 : List (List Int)) (g2c1 : Int) (g2c2 : List Int) (w : World) (r : Int × (List Int)) {B_a : Option Addr} {B_an : Nat} (B_c : Nat) (B_h : Rw w B_a 1 encI64 order1) (B_hn : order1.length = B_an) {C_a : Option Addr} {C_an : Nat} (C_c : Nat) {C_hs : List Hd} (C_h : Rw w C_a 1 encHd C_hs) (C_hn : g2c0.length = C_an) {E_a : Option Addr} {E_an : Nat} (E_c : Nat) (E_hn : g2c2.length = E_an) (C_b : Nat) (D_b : Nat) (E_b : Nat) (hm0 : Mem w (bs [some C_b, some D_b, some E_b]) [⟨some C_b, 31, [(.slice C_a C_an C_c)]⟩, ⟨some D_b, 2, [(.int .i64 g2c1)]⟩, ⟨some E_b, 34, [(.slice E_a E_an E_c)]⟩] w) (B_ha : order1 ≠ [] → aB B_a ∉ bs [some C_b, some D_b, some E_b]) (C_ha : C_hs ≠ [] → aB C_a ∉ bs [some C_b, some D_b, some E_b]) (C_i : Inn w (bs [some C_b, some D_b, some E_b]) 1 encI64 C_hs g2c0) (h : impl_orders_at_impl_BestCircle_1.rec_ fu n0 order1 g2c0 g2c1 g2c2 = some r),
    Calls Try.prog 34 #[(.int .i64 n0), (.slice B_a B_an B_c), (.func (.func 40) #[] #[(.pointer (some ⟨C_b, 0, none⟩)), (.pointer (some ⟨D_b, 0, none⟩)), (.pointer (some ⟨E_b, 0, none⟩))])] w fun e w' => ∃ v, e = .returned v ∧ (∃ (lo : Option Nat) (la : Option Addr) (lc : Nat) (lsp : List Value) (ln : Nat), r.2.length = ln ∧ LsB lo la lc lsp ln r.2 1 [(E_a, E_c, g2c2), (B_a, B_c, order1)] ∧ v = .tuple #[] ∧ Mem w (bs [some C_b, some D_b, some E_b]) [⟨some C_b, 31, [(.slice C_a C_an C_c)]⟩, ⟨some D_b, 2, [(.int .i64 r.1)]⟩, ⟨some E_b, 34, [(.slice la ln lc)]⟩, ⟨lo, 2, row encI64 r.2 lsp⟩] w') := by
  induction fu with
  | zero => intros; rename_i h; cases h
  | succ fu ih => exact @impl_orders_at_impl_BestCircle_1.step_calls _ (impl_orders_at_impl_BestCircle_1.rec_ fu) @ih
theorem impl_orders_at_impl_BestCircle_1.calls (n0 : Int) (order1 : List Int) (g2c0 : List (List Int)) (g2c1 : Int) (g2c2 : List Int) (w : World) (r : Int × (List Int)) {B_a : Option Addr} {B_an : Nat} (B_c : Nat) (B_h : Rw w B_a 1 encI64 order1) (B_hn : order1.length = B_an) {C_a : Option Addr} {C_an : Nat} (C_c : Nat) {C_hs : List Hd} (C_h : Rw w C_a 1 encHd C_hs) (C_hn : g2c0.length = C_an) {E_a : Option Addr} {E_an : Nat} (E_c : Nat) (E_hn : g2c2.length = E_an) (C_b : Nat) (D_b : Nat) (E_b : Nat) (hm0 : Mem w (bs [some C_b, some D_b, some E_b]) [⟨some C_b, 31, [(.slice C_a C_an C_c)]⟩, ⟨some D_b, 2, [(.int .i64 g2c1)]⟩, ⟨some E_b, 34, [(.slice E_a E_an E_c)]⟩] w) (B_ha : order1 ≠ [] → aB B_a ∉ bs [some C_b, some D_b, some E_b]) (C_ha : C_hs ≠ [] → aB C_a ∉ bs [some C_b, some D_b, some E_b]) (C_i : Inn w (bs [some C_b, some D_b, some E_b]) 1 encI64 C_hs g2c0) (h : impl_orders_at_impl_BestCircle_1 n0 order1 g2c0 g2c1 g2c2 = some r) :
    Calls Try.prog 34 #[(.int .i64 n0), (.slice B_a B_an B_c), (.func (.func 40) #[] #[(.pointer (some ⟨C_b, 0, none⟩)), (.pointer (some ⟨D_b, 0, none⟩)), (.pointer (some ⟨E_b, 0, none⟩))])] w fun e w' => ∃ v, e = .returned v ∧ (∃ (lo : Option Nat) (la : Option Addr) (lc : Nat) (lsp : List Value) (ln : Nat), r.2.length = ln ∧ LsB lo la lc lsp ln r.2 1 [(E_a, E_c, g2c2), (B_a, B_c, order1)] ∧ v = .tuple #[] ∧ Mem w (bs [some C_b, some D_b, some E_b]) [⟨some C_b, 31, [(.slice C_a C_an C_c)]⟩, ⟨some D_b, 2, [(.int .i64 r.1)]⟩, ⟨some E_b, 34, [(.slice la ln lc)]⟩, ⟨lo, 2, row encI64 r.2 lsp⟩] w') :=
  impl_orders_at_impl_BestCircle_1.rec_calls 16 n0 order1 g2c0 g2c1 g2c2 w r B_c B_h B_hn C_c C_h C_hn E_c E_hn C_b D_b E_b hm0 B_ha C_ha C_i h
/-! ### impl.BestCircle -/
def impl_BestCircle (f0 : GFrame) (list1 : List (Arr 96 Int)) : Option ((List Int) × Int × Int) := (impl_startCode f0 list1 (-1)).bind fun t_1 => (if (t_1 != 0) = true then some ([], 0, t_1) else (impl_costs list1).bind fun t_2 => (impl_begun 0).bind fun t_3 => (impl_orders_at_impl_BestCircle_1 (list1.length : Int) t_3 t_2 (-1) ([] : List Int)).bind fun t_4 => some (t_4.2, t_4.1, 0))
theorem impl_BestCircle.calls (f0 : GFrame) (list1 : List (Arr 96 Int)) (w : World) (r : (List Int) × Int × Int) {C_a : Option Addr} {C_an : Nat} (C_c : Nat) (C_h : Rw w C_a 2 encGHammer f0.fHammers) (C_hn : f0.fHammers.length = C_an) {D_a : Option Addr} {D_an : Nat} (D_c : Nat) (D_h : Rw w D_a 96 encA96U32 list1) (D_hn : list1.length = D_an) (h : impl_BestCircle f0 list1 = some r) :
    Calls Try.prog 11 #[(.agg #[(.int .i16 f0.fSteps), (.slice C_a C_an C_c)]), (.slice D_a D_an D_c)] w fun e w' => ∃ v, e = .returned v ∧ (∃ (o0 : Option Nat) (c0 : Nat) (s0 : List Value) (n0 : Nat), r.1.length = n0 ∧ (o0 ≠ none → n0 ≤ c0 ∧ s0.length = (c0 - n0) * 1) ∧ (o0 = none → r.1 = [] ∧ c0 = 0) ∧ v = .tuple #[.slice (o0.map fun b => ⟨b, 0, none⟩) n0 c0, (.int .i64 r.2.1), (.int .i64 r.2.2)] ∧ Mem w [] [⟨o0, 2, row encI64 r.1 s0⟩] w') := by
  subst C_hn D_hn
  rw [impl_BestCircle] at h
  refine enter (args := [(.agg #[(.int .i16 f0.fSteps), (.slice C_a f0.fHammers.length C_c)]), (.slice D_a list1.length D_c)]) Try.func11 rfl Try.ntmps11 (by kernel_rfl) (L := []) (W := []) (Mem.start w) ?_
  refine jc_seq (jc_region (tO (qa 0 (fun b_1 => jkO (qh [0,0,0] (qe (jx_then (jc_seq (jc_seq (jc_region (qh [0,0] ?_)))))))))))
  obtain ⟨t_1, ht_4, h⟩ := bd h
  refine tO (pc 0 (fun w hm => impl_startCode.calls f0 list1 (-1) w _ C_c (hm.xr C_h) rfl D_c (hm.xr D_h) rfl ht_4) ?_)
  rintro w v w' hm ⟨rfl, hm'⟩
  refine ⟨_, hm.app hm', jkO ?_⟩
  clear hm hm'
  refine qh [0] (qe (jx_then (jc_seq (jc_region (qh [0,0] (qe (jx_then (qi h (fun h => ?_) (fun h => ?_)))))))))
  ·refine jc_seq (jc_region (qh [0,0,0,0] (qe (jx_then (jc_ret (jx_thenr ?_))))))
   obtain rfl := Option.some.inj h
   exact jx_ghost 2 encI64 (qr [] (fun w hm => ⟨none, 0, [], 0, rfl, (fun e => absurd rfl e), (fun _ => ⟨rfl, rfl⟩), rfl, hm.pk [1]⟩))
  ·refine jc_skip (jx_then (jc_seq (jc_region (qh [0] ?_))))
   obtain ⟨t_2, ht_6, h⟩ := bd h
   refine tO (pc 0 (fun w hm => impl_costs.calls list1 w _ D_c (hm.xr D_h) rfl ht_6) ?_)
   rintro w v w' hm ⟨o_7, cap_8, sp_9, _, hh_12, hI_13, rfl, hs_10, ho_11, rfl, hm'⟩
   refine ⟨_, hm.app hm', jkO ?_⟩
   clear hm hm'
   refine tO (qa 0 (fun b_14 => jk_ghost 34 encHd (jk_clu encI64 (jkO (tO (qa 0 (fun b_15 => jkO (tO (qa 0 (fun b_16 => jkO (tO (qs 0 [3] (jkO (tO (qs 0 [6] (jkO (tO (qs 0 [7] (jkO (qe (jx_then (jc_seq (jc_region (qh [0,0] ?_))))))))))))))))))))))))
   obtain ⟨t_3, ht_17, h⟩ := bd h
   refine tO (pc 0 (fun w hm => impl_begun.calls 0 w _ ht_17) ?_)
   rintro w v w' hm ⟨o_18, cap_19, sp_20, _, rfl, hs_21, ho_22, rfl, hm'⟩
   refine ⟨_, hm.app hm', jkO ?_⟩
   clear hm hm'
   refine qh [0] ?_
   obtain ⟨t_4, ht_23, h⟩ := bd h
   refine tO (jp_ghost 2 encI64 (pc 0 (fun w hm => impl_orders_at_impl_BestCircle_1.calls (list1.length : Int) t_3 t_2 (-1) ([] : List Int) w _ cap_19 (hm.ow 8 o_18 2 t_3 sp_20 (fun e => (ho_22 e).1) encI64_len) rfl cap_8 (hm.ow 1 o_7 34 hh_12 sp_9 (fun e => (ho_11 e).1) encHd_len) (hI_13.1.symm.trans rfl) 0 rfl b_14 b_16 b_15 (hm.pass (N := [⟨some b_14, 31, [(.slice (o_7.map fun b => ⟨b, 0, none⟩) hh_12.length cap_8)]⟩, ⟨some b_16, 2, [(.int .i64 (-1))]⟩, ⟨some b_15, 34, [(.slice ((none : Option Nat).map fun b => ⟨b, 0, none⟩) 0 0)]⟩]) [3, 7, 6] (by kernel_rfl) (by kernel_rfl)) (hm.ownApart (S := Int) (N := [⟨some b_14, 31, [(.slice (o_7.map fun b => ⟨b, 0, none⟩) hh_12.length cap_8)]⟩, ⟨some b_16, 2, [(.int .i64 (-1))]⟩, ⟨some b_15, 34, [(.slice ((none : Option Nat).map fun b => ⟨b, 0, none⟩) 0 0)]⟩]) (hh := 8) (o := o_18) (T := 2) (cs := row encI64 t_3 sp_20) (xs := t_3) (by kernel_rfl) (fun e => (ho_22 e).1) [3, 7, 6] (by kernel_rfl) (by kernel_rfl)) (hm.ownApart (S := Hd) (N := [⟨some b_14, 31, [(.slice (o_7.map fun b => ⟨b, 0, none⟩) hh_12.length cap_8)]⟩, ⟨some b_16, 2, [(.int .i64 (-1))]⟩, ⟨some b_15, 34, [(.slice ((none : Option Nat).map fun b => ⟨b, 0, none⟩) 0 0)]⟩]) (hh := 1) (o := o_7) (T := 34) (cs := row encHd hh_12 sp_9) (xs := hh_12) (by kernel_rfl) (fun e => (ho_11 e).1) [3, 7, 6] (by kernel_rfl) (by kernel_rfl)) (hm.cluPass (N := [⟨some b_14, 31, [(.slice (o_7.map fun b => ⟨b, 0, none⟩) hh_12.length cap_8)]⟩, ⟨some b_16, 2, [(.int .i64 (-1))]⟩, ⟨some b_15, 34, [(.slice ((none : Option Nat).map fun b => ⟨b, 0, none⟩) 0 0)]⟩]) 2 hI_13 encI64_len [3, 7, 6]) ht_23) ?_))
   rintro w v w' hm ⟨o_24, a_5, cap_25, sp_26, _, rfl, hl_27, rfl, hm'⟩
   obtain ⟨o_28, sp_29, hl_30, hM_31⟩ := Mem.ls3 (T := 2) (enc := encI64) (o1 := (none : Option Nat)) (sp1 := []) (xs1 := ([] : List Int)) (o := o_24) (sp := sp_26) (xs := t_4.2) (F := []) (o2 := o_18) (sp2 := sp_20) (xs2 := t_3) (hm.appW (ps := [(3, ⟨some b_14, 31, [(.slice (o_7.map fun b => ⟨b, 0, none⟩) hh_12.length cap_8)]⟩), (7, ⟨some b_16, 2, [(.int .i64 t_4.1)]⟩), (6, ⟨some b_15, 34, [(.slice a_5 t_4.2.length cap_25)]⟩)]) (N := [⟨o_24, 2, row encI64 t_4.2 sp_26⟩]) hm' (by kernel_rfl) (by kernel_rfl)) 9 8 10 (by kernel_rfl) (by kernel_rfl) (by kernel_rfl) (by kernel_rfl) (lsO (fun e => absurd rfl e) (fun _ => ⟨rfl, rfl⟩)) rfl hs_21 ho_22 rfl rfl hl_27
   obtain ⟨rfl, hs_32, ho_33⟩ := hl_30.own
   refine ⟨_, Mem.pick hM_31 (N := [⟨some b_1, 27, [(.int .i16 f0.fSteps), (.slice C_a f0.fHammers.length C_c)]⟩, ⟨o_7, 34, row encHd hh_12 sp_9⟩, ⟨none, CLU, cluC encI64 hh_12 t_2⟩, ⟨some b_14, 31, [(.slice (o_7.map fun b => ⟨b, 0, none⟩) hh_12.length cap_8)]⟩, ⟨(none : Option Nat), 34, row encHd ([] : List Hd) []⟩, ⟨none, CLU, cluC encI64 ([] : List Hd) ([] : List (List Int))⟩, ⟨some b_15, 34, [(.slice (o_28.map fun b => ⟨b, 0, none⟩) t_4.2.length cap_25)]⟩, ⟨some b_16, 2, [(.int .i64 t_4.1)]⟩, ⟨none, 0, []⟩, ⟨o_28, 2, row encI64 t_4.2 sp_29⟩]) [0, 1, 2, 3, 4, 5, 6, 7, 8, 9] (by kernel_rfl) (by kernel_rfl), jkO ?_⟩
   clear hm hm' hM_31
   refine qe (jx_then (jc_seq (qg [⟨some b_1, 27, [(.int .i16 f0.fSteps), (.slice C_a f0.fHammers.length C_c)]⟩, ⟨o_7, 34, row encHd hh_12 sp_9⟩, ⟨none, CLU, cluC encI64 hh_12 t_2⟩, ⟨some b_14, 31, [(.slice (o_7.map fun b => ⟨b, 0, none⟩) hh_12.length cap_8)]⟩, ⟨(none : Option Nat), 34, row encHd ([] : List Hd) []⟩, ⟨none, CLU, cluC encI64 ([] : List Hd) ([] : List (List Int))⟩, ⟨some b_15, 34, [(.slice (o_28.map fun b => ⟨b, 0, none⟩) t_4.2.length cap_25)]⟩, ⟨some b_16, 2, [(.int .i64 t_4.1)]⟩, ⟨none, 0, []⟩, ⟨o_28, 2, row encI64 t_4.2 sp_29⟩] 5 (qd [⟨0, 6, 0⟩,⟨1, 7, 0⟩,⟨2, 0, 0⟩,⟨3, 0, 0⟩,⟨4, 0, 0⟩] 0 [0, 1, 2, 3, 4, 5, 6, 7, 8, 9] (qz (jx_then (jc_ret ?_)))))))
   obtain rfl := Option.some.inj h
   exact qr [] (fun w hm => ⟨o_28, cap_25, sp_29, t_4.2.length, rfl, hs_32, ho_33, rfl, hm.pk [9]⟩)
/-! ### spec.BestCircle -/
def spec_BestCircle (f0 : GFrame) (list1 : List (Arr 96 Int)) : Option ((List Int) × Int × Int) := (spec_l05First f0 list1 (-1)).bind fun t_1 => (if (t_1 != 0) = true then some (([] : List Int), 0, t_1) else (spec_l05Table list1).bind fun t_2 => (spec_l05Best t_2 0 true).bind fun t_3 => some (t_3.1, t_3.2, 0))
theorem spec_BestCircle.calls (f0 : GFrame) (list1 : List (Arr 96 Int)) (w : World) (r : (List Int) × Int × Int) {C_a : Option Addr} {C_an : Nat} (C_c : Nat) (C_h : Rw w C_a 2 encGHammer f0.fHammers) (C_hn : f0.fHammers.length = C_an) {D_a : Option Addr} {D_an : Nat} (D_c : Nat) (D_h : Rw w D_a 96 encA96U32 list1) (D_hn : list1.length = D_an) (h : spec_BestCircle f0 list1 = some r) :
    Calls Try.prog 12 #[(.agg #[(.int .i16 f0.fSteps), (.slice C_a C_an C_c)]), (.slice D_a D_an D_c)] w fun e w' => ∃ v, e = .returned v ∧ (∃ (o0 : Option Nat) (c0 : Nat) (s0 : List Value) (n0 : Nat), r.1.length = n0 ∧ (o0 ≠ none → n0 ≤ c0 ∧ s0.length = (c0 - n0) * 1) ∧ (o0 = none → r.1 = [] ∧ c0 = 0) ∧ v = .tuple #[.slice (o0.map fun b => ⟨b, 0, none⟩) n0 c0, (.int .i64 r.2.1), (.int .i64 r.2.2)] ∧ Mem w [] [⟨o0, 2, row encI64 r.1 s0⟩] w') := by
  subst C_hn D_hn
  rw [spec_BestCircle] at h
  refine enter (args := [(.agg #[(.int .i16 f0.fSteps), (.slice C_a f0.fHammers.length C_c)]), (.slice D_a list1.length D_c)]) Try.func12 rfl Try.ntmps12 (by kernel_rfl) (L := []) (W := []) (Mem.start w) ?_
  refine jc_seq (jc_region (tO (qa 0 (fun b_1 => jkO (qh [0,0,0] (qe (jx_then (jc_seq (jc_seq (jc_region (qh [0] ?_)))))))))))
  obtain ⟨t_1, ht_5, h⟩ := bd h
  refine tO (pc 0 (fun w hm => spec_l05First.calls f0 list1 (-1) w _ C_c (hm.xr C_h) rfl D_c (hm.xr D_h) rfl b_1 (hm.pass (N := [⟨some b_1, 27, [(.int .i16 f0.fSteps), (.slice C_a f0.fHammers.length C_c)]⟩]) [0] (by kernel_rfl) (by kernel_rfl)) (hm.exApart (N := [⟨some b_1, 27, [(.int .i16 f0.fSteps), (.slice C_a f0.fHammers.length C_c)]⟩]) C_h (fun _ => List.not_mem_nil) [0] (by kernel_rfl)) (hm.exApart (N := [⟨some b_1, 27, [(.int .i16 f0.fSteps), (.slice C_a f0.fHammers.length C_c)]⟩]) D_h (fun _ => List.not_mem_nil) [0] (by kernel_rfl)) ht_5) ?_)
  rintro w v w' hm ⟨rfl, hm'⟩
  refine ⟨_, hm.appW (ps := [(0, ⟨some b_1, 27, [(.int .i16 f0.fSteps), (.slice C_a f0.fHammers.length C_c)]⟩)]) (N := []) hm' (by kernel_rfl) (by kernel_rfl), jkO ?_⟩
  clear hm hm'
  refine qh [0] (qe (jx_then (jc_seq (jc_region (qh [0,0] (qe (jx_then (qi h (fun h => ?_) (fun h => ?_)))))))))
  ·refine jc_seq (jc_region (tO (qa 0 (fun b_7 => jkO (qh [0,0,0,0] (qe (jx_then (jc_ret (jx_thenr ?_)))))))))
   obtain rfl := Option.some.inj h
   exact qr [] (fun w hm => ⟨(some b_7), 0, [], 0, rfl, (fun _ => ⟨Nat.le_refl _, by simp⟩), (fun e => nomatch e), rfl, hm.pk [1]⟩)
  ·refine jc_skip (jx_then (jc_seq (jc_region (qh [0] ?_))))
   obtain ⟨t_2, ht_8, h⟩ := bd h
   refine tO (pc 0 (fun w hm => spec_l05Table.calls list1 w _ D_c (hm.xr D_h) rfl ht_8) ?_)
   rintro w v w' hm ⟨o_9, cap_10, sp_11, _, hh_14, hI_15, rfl, hs_12, ho_13, rfl, hm'⟩
   refine ⟨_, hm.app hm', jkO ?_⟩
   clear hm hm'
   obtain ⟨t_3, ht_16, h⟩ := bd h
   refine tO (pc 0 (fun w hm => spec_l05Best.calls t_2 0 true w _ cap_10 (hm.ow 1 o_9 34 hh_14 sp_11 (fun e => (ho_13 e).1) encHd_len) (hI_15.1.symm.trans rfl) (hm.cluPass (N := []) 2 hI_15 encI64_len []) ht_16) ?_)
   rintro w v w' hm ⟨o_17, cap_18, sp_19, _, rfl, hs_20, ho_21, rfl, hm'⟩
   refine ⟨_, hm.app hm', jkO ?_⟩
   clear hm hm'
   refine qh [0,0,0,0,0] (qe (jx_then (jc_seq (jc_region (qh [0,0,0,0,0] (qe (jx_then (jc_ret ?_))))))))
   obtain rfl := Option.some.inj h
   exact qr [] (fun w hm => ⟨o_17, cap_18, sp_19, t_3.1.length, rfl, hs_20, ho_21, rfl, hm.pk [3]⟩)
/-! ### impl.size[[]int64] -/
def impl_size_int64 (list0 : List (List Int)) : Option (Int) := some (list0.length : Int)
theorem impl_size_int64.calls (list0 : List (List Int)) (w : World) (r : Int) {A_a : Option Addr} {A_an : Nat} (A_c : Nat) {A_hs : List Hd} (A_h : Rw w A_a 1 encHd A_hs) (A_hn : list0.length = A_an) (A_i : Inn w [] 1 encI64 A_hs list0) (h : impl_size_int64 list0 = some r) :
    Calls Try.prog 70 #[(.slice A_a A_an A_c)] w fun e w' => ∃ v, e = .returned v ∧ (v = (.int .i64 r) ∧ Mem w [] [] w') := by
  subst A_hn
  rw [impl_size_int64] at h
  refine enter (args := [(.slice A_a list0.length A_c)]) Try.func70 rfl Try.ntmps70 (by kernel_rfl) (L := []) (W := []) (Mem.start w) ?_
  refine jc_seq (jc_region (qh [0] (qe (jx_then (jc_seq (jc_region (qh [0,0,0] (qe (jx_then (jc_ret ?_))))))))))
  obtain rfl := Option.some.inj h
  exact qr [] (fun w hm => ⟨rfl, hm.pk []⟩)
/-! ### cmp.isNaN[int64] -/
def cmp_isNaN_int64 (x0 : Int) : Option (Bool) := some (x0 != x0)
theorem cmp_isNaN_int64.calls (x0 : Int) (w : World) (r : Bool) (h : cmp_isNaN_int64 x0 = some r) :
    Calls Try.prog 87 #[(.int .i64 x0)] w fun e w' => ∃ v, e = .returned v ∧ (v = (.bool r) ∧ Mem w [] [] w') := by
  rw [cmp_isNaN_int64] at h
  refine enter (args := [(.int .i64 x0)]) Try.func87 rfl Try.ntmps87 (by kernel_rfl) (L := []) (W := []) (Mem.start w) ?_
  refine jc_seq (jc_region (qh [0] (qe (jx_then (jc_seq (jc_region (qh [0,0,0,0] (qe (jx_then (jc_ret ?_))))))))))
  obtain rfl := Option.some.inj h
  exact qr [] (fun w hm => ⟨rfl, hm.pk []⟩)
/-! ### cmp.Compare[int64] -/
def cmp_Compare_int64 (x0 : Int) (y1 : Int) : Option (Int) := (cmp_isNaN_int64 x0).bind fun t_1 => (cmp_isNaN_int64 y1).bind fun t_2 => (if t_1 = true then (if t_2 = true then some 0 else some (-1)) else (if t_2 = true then some 1 else (if (decide (x0 < y1)) = true then some (-1) else (if (decide (x0 > y1)) = true then some 1 else some 0))))
theorem cmp_Compare_int64.calls (x0 : Int) (y1 : Int) (w : World) (r : Int) (h : cmp_Compare_int64 x0 y1 = some r) :
    Calls Try.prog 73 #[(.int .i64 x0), (.int .i64 y1)] w fun e w' => ∃ v, e = .returned v ∧ (v = (.int .i64 r) ∧ Mem w [] [] w') := by
  rw [cmp_Compare_int64] at h
  refine enter (args := [(.int .i64 x0), (.int .i64 y1)]) Try.func73 rfl Try.ntmps73 (by kernel_rfl) (L := []) (W := []) (Mem.start w) ?_
  refine jc_seq (jc_region (qh [0] (qe (jx_then (jc_seq (jc_region (qh [0] ?_)))))))
  obtain ⟨t_1, ht_1, h⟩ := bd h
  refine tO (pc 0 (fun w hm => cmp_isNaN_int64.calls x0 w _ ht_1) ?_)
  rintro w v w' hm ⟨rfl, hm'⟩
  refine ⟨_, hm.app hm', jkO ?_⟩
  clear hm hm'
  refine qh [0] (qe (jx_then (jc_seq (jc_region (qh [0] ?_)))))
  obtain ⟨t_2, ht_2, h⟩ := bd h
  refine tO (pc 0 (fun w hm => cmp_isNaN_int64.calls y1 w _ ht_2) ?_)
  rintro w v w' hm ⟨rfl, hm'⟩
  refine ⟨_, hm.app hm', jkO ?_⟩
  clear hm hm'
  refine qh [0] (qe (jx_then (jc_seq (jc_seq (jc_region (qh [0] (qe (jx_then (qi h (fun h => ?_) (fun h => ?_))))))))))
  ·refine jc_seq (jc_seq (jc_region (qh [0] (qe (jx_then (qi h (fun h => ?_) (fun h => ?_)))))))
   ·refine jc_seq (jc_region (qh [0] (qe (jx_then (jc_ret (jx_thenr (jx_thenr ?_)))))))
    obtain rfl := Option.some.inj h
    exact qr [] (fun w hm => ⟨rfl, hm.pk []⟩)
   ·refine jc_skip (jx_then (jc_seq (jc_region (qh [0] (qe (jx_then (jc_ret (jx_thenr ?_))))))))
    obtain rfl := Option.some.inj h
    exact qr [] (fun w hm => ⟨rfl, hm.pk []⟩)
  ·refine jc_skip (jx_then (jc_seq (jc_seq (jc_region (qh [0] (qe (jx_then (qi h (fun h => ?_) (fun h => ?_)))))))))
   ·refine jc_seq (jc_region (qh [0] (qe (jx_then (jc_ret (jx_thenr ?_))))))
    obtain rfl := Option.some.inj h
    exact qr [] (fun w hm => ⟨rfl, hm.pk []⟩)
   ·refine jc_skip (jx_then (jc_seq (jc_seq (jc_region (qh [0,0,0] (qe (jx_then (qi h (fun h => ?_) (fun h => ?_)))))))))
    ·refine jc_seq (jc_region (qh [0] (qe (jx_then (jc_ret (jx_thenr ?_))))))
     obtain rfl := Option.some.inj h
     exact qr [] (fun w hm => ⟨rfl, hm.pk []⟩)
    ·refine jc_skip (jx_then (jc_seq (jc_seq (jc_region (qh [0,0,0] (qe (jx_then (qi h (fun h => ?_) (fun h => ?_)))))))))
     ·refine jc_seq (jc_region (qh [0] (qe (jx_then (jc_ret (jx_thenr ?_))))))
      obtain rfl := Option.some.inj h
      exact qr [] (fun w hm => ⟨rfl, hm.pk []⟩)
     ·refine jc_skip (jx_then (jc_seq (jc_region (qh [0] (qe (jx_then (jc_ret ?_)))))))
      obtain rfl := Option.some.inj h
      exact qr [] (fun w hm => ⟨rfl, hm.pk []⟩)
/-! ### impl.pairsOf$1 -/
def impl_pairsOf_1 (a0 : Arr 2 Int) (b1 : Arr 2 Int) (p2 : List (List Int)) : Option (Int) := (ix a0.1 0).bind fun x_1 => (ix p2 x_1).bind fun x_2 => (ix a0.1 1).bind fun x_3 => (ix x_2 x_3).bind fun x_4 => (ix b1.1 0).bind fun x_5 => (ix p2 x_5).bind fun x_6 => (ix b1.1 1).bind fun x_7 => (ix x_6 x_7).bind fun x_8 => (cmp_Compare_int64 x_4 x_8).bind fun t_9 => some t_9
theorem impl_pairsOf_1.calls (a0 : Arr 2 Int) (b1 : Arr 2 Int) (p2 : List (List Int)) (w : World) (r : Int) {C_a : Option Addr} {C_an : Nat} (C_c : Nat) {C_hs : List Hd} (C_h : Rw w C_a 1 encHd C_hs) (C_hn : p2.length = C_an) (C_b : Nat) (hm0 : Mem w (bs [some C_b]) [⟨some C_b, 31, [(.slice C_a C_an C_c)]⟩] w) (C_ha : C_hs ≠ [] → aB C_a ∉ bs [some C_b]) (C_i : Inn w (bs [some C_b]) 1 encI64 C_hs p2) (h : impl_pairsOf_1 a0 b1 p2 = some r) :
    Calls Try.prog 72 #[(.agg (row encI64 a0.1 []).toArray), (.agg (row encI64 b1.1 []).toArray), (.pointer (some ⟨C_b, 0, none⟩))] w fun e w' => ∃ v, e = .returned v ∧ (v = (.int .i64 r) ∧ Mem w (bs [some C_b]) [⟨some C_b, 31, [(.slice C_a C_an C_c)]⟩] w') := by
  subst C_hn
  rw [impl_pairsOf_1] at h
  refine enter (args := [(.agg (row encI64 a0.1 []).toArray), (.agg (row encI64 b1.1 []).toArray), (.pointer (some ⟨C_b, 0, none⟩))]) Try.func72 rfl Try.ntmps72 (by kernel_rfl) (L := [⟨some C_b, 31, [(.slice C_a p2.length C_c)]⟩]) (W := bs [some C_b]) hm0 ?_
  refine jc_seq (jc_region (tO (qa 0 (fun b_1 => jkO (tO (qa 0 (fun b_2 => jkO (qh [0] (qe (jx_then (jc_seq (qg [⟨some C_b, 31, [(.slice C_a p2.length C_c)]⟩, ⟨(some b_1), 51, row encI64 a0.1 []⟩, ⟨(some b_2), 51, row encI64 b1.1 []⟩] 20 (qd [⟨0, 0, 0⟩,⟨9, 0, 0⟩] 18 [0, 1, 2] ?_)))))))))))))
  obtain ⟨x_1, hx_3, h⟩ := bd h
  refine qv 1 0 [0, 1, 2] (fun w hm => idx_run (a := (some ⟨b_1, 0, none⟩)) (len := 2) (s := 1) (j := 0) (by kernel_rfl) (ix_some hx_3).1 (ltn hx_3 a0.2) rfl) (qv 2 0 [0, 1, 2] (fun w hm => ld_run (b := aB (some ⟨b_1, 0, none⟩)) (off := (aO (some ⟨b_1, 0, none⟩) + (0 : Int).toNat * 1)) (s := 1) (agg := false) (vs := (encI64 x_1)) (by kernel_rfl) (by kernel_rfl) (.inr rfl) ((hm.ow 1 (some b_1) 51 a0.1 [] (fun e => nomatch e) encI64_len).at hx_3)) ?_)
  obtain ⟨x_2, hx_4, h⟩ := bd h
  refine qv 3 0 [0, 1, 2] (fun w hm => idx_run (a := C_a) (len := p2.length) (s := 1) (j := x_1) (by kernel_rfl) (ix_some hx_4).1 (ltn hx_4 rfl) (C_h.sp (C_i.ixh hx_4))) (qv 4 0 [0, 1, 2] (fun w hm => ld_run (b := aB C_a) (off := (aO C_a + x_1.toNat * 1)) (s := 1) (agg := false) (vs := encHd (hd C_hs x_1)) (by kernel_rfl) (by kernel_rfl) (.inr rfl) ((hm.exRowW C_h C_ha).at (C_i.ixh hx_4))) ?_)
  obtain ⟨x_3, hx_5, h⟩ := bd h
  refine qv 5 0 [0, 1, 2] (fun w hm => idx_run (a := (some ⟨b_1, 0, none⟩)) (len := 2) (s := 1) (j := 1) (by kernel_rfl) (ix_some hx_5).1 (ltn hx_5 a0.2) rfl) (qv 6 0 [0, 1, 2] (fun w hm => ld_run (b := aB (some ⟨b_1, 0, none⟩)) (off := (aO (some ⟨b_1, 0, none⟩) + (1 : Int).toNat * 1)) (s := 1) (agg := false) (vs := (encI64 x_3)) (by kernel_rfl) (by kernel_rfl) (.inr rfl) ((hm.ow 1 (some b_1) 51 a0.1 [] (fun e => nomatch e) encI64_len).at hx_5)) ?_)
  obtain ⟨x_4, hx_6, h⟩ := bd h
  refine qv 7 0 [0, 1, 2] (fun w hm => idx_run (a := (hd C_hs x_1).a) (len := ((hd C_hs x_1).n)) (s := 1) (j := x_3) (by kernel_rfl) (ix_some hx_6).1 (ltn hx_6 (C_i.get hx_4).2.1) ((C_i.get hx_4).1.sp hx_6)) (qv 8 0 [0, 1, 2] (fun w hm => ld_run (b := aB (hd C_hs x_1).a) (off := (aO (hd C_hs x_1).a + x_3.toNat * 1)) (s := 1) (agg := false) (vs := (encI64 x_4)) (by kernel_rfl) (by kernel_rfl) (.inr rfl) ((hm.exRowW (C_i.get hx_4).1 (C_i.get hx_4).2.2).at hx_6)) ?_)
  obtain ⟨x_5, hx_7, h⟩ := bd h
  refine qv 10 0 [0, 1, 2] (fun w hm => idx_run (a := (some ⟨b_2, 0, none⟩)) (len := 2) (s := 1) (j := 0) (by kernel_rfl) (ix_some hx_7).1 (ltn hx_7 b1.2) rfl) (qv 11 0 [0, 1, 2] (fun w hm => ld_run (b := aB (some ⟨b_2, 0, none⟩)) (off := (aO (some ⟨b_2, 0, none⟩) + (0 : Int).toNat * 1)) (s := 1) (agg := false) (vs := (encI64 x_5)) (by kernel_rfl) (by kernel_rfl) (.inr rfl) ((hm.ow 2 (some b_2) 51 b1.1 [] (fun e => nomatch e) encI64_len).at hx_7)) ?_)
  obtain ⟨x_6, hx_8, h⟩ := bd h
  refine qv 12 0 [0, 1, 2] (fun w hm => idx_run (a := C_a) (len := p2.length) (s := 1) (j := x_5) (by kernel_rfl) (ix_some hx_8).1 (ltn hx_8 rfl) (C_h.sp (C_i.ixh hx_8))) (qv 13 0 [0, 1, 2] (fun w hm => ld_run (b := aB C_a) (off := (aO C_a + x_5.toNat * 1)) (s := 1) (agg := false) (vs := encHd (hd C_hs x_5)) (by kernel_rfl) (by kernel_rfl) (.inr rfl) ((hm.exRowW C_h C_ha).at (C_i.ixh hx_8))) ?_)
  obtain ⟨x_7, hx_9, h⟩ := bd h
  refine qv 14 0 [0, 1, 2] (fun w hm => idx_run (a := (some ⟨b_2, 0, none⟩)) (len := 2) (s := 1) (j := 1) (by kernel_rfl) (ix_some hx_9).1 (ltn hx_9 b1.2) rfl) (qv 15 0 [0, 1, 2] (fun w hm => ld_run (b := aB (some ⟨b_2, 0, none⟩)) (off := (aO (some ⟨b_2, 0, none⟩) + (1 : Int).toNat * 1)) (s := 1) (agg := false) (vs := (encI64 x_7)) (by kernel_rfl) (by kernel_rfl) (.inr rfl) ((hm.ow 2 (some b_2) 51 b1.1 [] (fun e => nomatch e) encI64_len).at hx_9)) ?_)
  obtain ⟨x_8, hx_10, h⟩ := bd h
  refine qv 16 0 [0, 1, 2] (fun w hm => idx_run (a := (hd C_hs x_5).a) (len := ((hd C_hs x_5).n)) (s := 1) (j := x_7) (by kernel_rfl) (ix_some hx_10).1 (ltn hx_10 (C_i.get hx_8).2.1) ((C_i.get hx_8).1.sp hx_10)) (qv 17 0 [0, 1, 2] (fun w hm => ld_run (b := aB (hd C_hs x_5).a) (off := (aO (hd C_hs x_5).a + x_7.toNat * 1)) (s := 1) (agg := false) (vs := (encI64 x_8)) (by kernel_rfl) (by kernel_rfl) (.inr rfl) ((hm.exRowW (C_i.get hx_8).1 (C_i.get hx_8).2.2).at hx_10)) ?_)
  obtain ⟨t_9, ht_11, h⟩ := bd h
  refine tD 18 (pc 0 (fun w hm => cmp_Compare_int64.calls x_4 x_8 w _ ht_11) ?_)
  rintro w v w' hm ⟨rfl, hm'⟩
  refine ⟨_, hm.app hm', kD [0, 1, 2] ?_⟩
  clear hm hm'
  refine qd [⟨19, 0, 0⟩] 0 [0, 1, 2] (qz (jx_then (jc_ret ?_)))
  obtain rfl := Option.some.inj h
  exact qr [] (fun w hm => ⟨rfl, hm.pk [0]⟩)
/-! ### slices.insertionSortCmpFunc[[2]int64] -/
def slices_insertionSortCmpFunc_2int64_at_impl_pairsOf_1.k_2 (xs_1 : List (Arr 2 Int)) : Option ((List (Arr 2 Int))) := some xs_1
def slices_insertionSortCmpFunc_2int64_at_impl_pairsOf_1.k_8 (i_4 : Int) (xs_7 : List (Arr 2 Int)) : Option (((List (Arr 2 Int)) × Int) ⊕ ((List (Arr 2 Int)))) := some (.inl (xs_7, (w64 (i_4 + 1))))
def slices_insertionSortCmpFunc_2int64_at_impl_pairsOf_1.l_11 (a1 : Int) (g3c0 : List (List Int)) : ((List (Arr 2 Int)) × Int) → Option (((List (Arr 2 Int)) × Int) ⊕ ((List (Arr 2 Int))))
  | (xs_9, i_10) => (if (decide (i_10 > a1)) = true then (ix xs_9 i_10).bind fun x_13 => (ix xs_9 (w64 (i_10 - 1))).bind fun x_14 => (impl_pairsOf_1 x_13 x_14 g3c0).bind fun t_15 => (if (decide (t_15 < 0)) = true then (ix xs_9 (w64 (i_10 - 1))).bind fun x_16 => (ix xs_9 i_10).bind fun x_17 => (ix xs_9 i_10).bind fun x_18 => (ix (xs_9.set i_10.toNat x_16) (w64 (i_10 - 1))).bind fun x_19 => some (.inl (((xs_9.set i_10.toNat x_16).set (w64 (i_10 - 1)).toNat x_17), (w64 (i_10 - 1)))) else some (.inr xs_9)) else some (.inr xs_9))
def slices_insertionSortCmpFunc_2int64_at_impl_pairsOf_1.l_5 (a1 : Int) (b2 : Int) (g3c0 : List (List Int)) : ((List (Arr 2 Int)) × Int) → Option (((List (Arr 2 Int)) × Int) ⊕ ((List (Arr 2 Int))))
  | (xs_3, i_4) => (if (decide (i_4 < b2)) = true then (loop (slices_insertionSortCmpFunc_2int64_at_impl_pairsOf_1.l_11 a1 g3c0) (xs_3, i_4)).bind fun t_12 => slices_insertionSortCmpFunc_2int64_at_impl_pairsOf_1.k_8 i_4 t_12 else some (.inr xs_3))
def slices_insertionSortCmpFunc_2int64_at_impl_pairsOf_1 (data0 : List (Arr 2 Int)) (a1 : Int) (b2 : Int) (g3c0 : List (List Int)) : Option ((List (Arr 2 Int))) := (loop (slices_insertionSortCmpFunc_2int64_at_impl_pairsOf_1.l_5 a1 b2 g3c0) (data0, (w64 (a1 + 1)))).bind fun t_6 => slices_insertionSortCmpFunc_2int64_at_impl_pairsOf_1.k_2 t_6
theorem slices_insertionSortCmpFunc_2int64_at_impl_pairsOf_1.calls (data0 : List (Arr 2 Int)) (a1 : Int) (b2 : Int) (g3c0 : List (List Int)) (w : World) (r : (List (Arr 2 Int))) {D_a : Option Addr} {D_an : Nat} (D_c : Nat) {D_hs : List Hd} (D_h : Rw w D_a 1 encHd D_hs) (D_hn : g3c0.length = D_an) (A_o : Option Nat) {A_on : Nat} {A_c : Nat} {A_sp : List Value} (A_hn : data0.length = A_on) (A_hs : A_o ≠ none → A_on ≤ A_c ∧ A_sp.length = (A_c - A_on) * 2) (A_ho : A_o = none → data0 = [] ∧ A_c = 0) (D_b : Nat) (hm0 : Mem w (bs [A_o, some D_b]) [⟨A_o, 51, row encA2I64 data0 A_sp⟩, ⟨some D_b, 31, [(.slice D_a D_an D_c)]⟩] w) (D_ha : D_hs ≠ [] → aB D_a ∉ bs [A_o, some D_b]) (D_i : Inn w (bs [A_o, some D_b]) 1 encI64 D_hs g3c0) (h : slices_insertionSortCmpFunc_2int64_at_impl_pairsOf_1 data0 a1 b2 g3c0 = some r) :
    Calls Try.prog 95 #[(.slice (A_o.map fun b => ⟨b, 0, none⟩) A_on A_c), (.int .i64 a1), (.int .i64 b2), (.func (.func 72) #[] #[(.pointer (some ⟨D_b, 0, none⟩))])] w fun e w' => ∃ v, e = .returned v ∧ (r.length = A_on ∧ (A_o = none → r = [] ∧ A_c = 0) ∧ v = .tuple #[] ∧ Mem w (bs [A_o, some D_b]) [⟨A_o, 51, row encA2I64 r A_sp⟩, ⟨some D_b, 31, [(.slice D_a D_an D_c)]⟩] w') := by
  subst D_hn A_hn
  rw [slices_insertionSortCmpFunc_2int64_at_impl_pairsOf_1] at h
  refine enter (args := [(.slice (A_o.map fun b => ⟨b, 0, none⟩) data0.length A_c), (.int .i64 a1), (.int .i64 b2), (.func (.func 72) #[] #[(.pointer (some ⟨D_b, 0, none⟩))])]) Try.func95 rfl Try.ntmps95 (by kernel_rfl) (L := [⟨A_o, 51, row encA2I64 data0 A_sp⟩, ⟨some D_b, 31, [(.slice D_a g3c0.length D_c)]⟩]) (W := bs [A_o, some D_b]) hm0 ?_
  refine jc_seq (jc_region (qh [0,0,0] (qe (jx_then (jc_meet (fun (j : (List (Arr 2 Int))) => match j with | xs_1 => slices_insertionSortCmpFunc_2int64_at_impl_pairsOf_1.k_2 xs_1 = some r ∧ (xs_1.length = data0.length) ∧ ((A_o = none → xs_1 = [] ∧ A_c = 0))) (fun (j : (List (Arr 2 Int))) => match j with | xs_1 => []) (fun (j : (List (Arr 2 Int))) => match j with | xs_1 => [⟨A_o, 51, row encA2I64 xs_1 A_sp⟩, ⟨some D_b, 31, [(.slice D_a g3c0.length D_c)]⟩]) ?_ ?_)))))
  ·refine jc_block ?_
   obtain ⟨t_6, ht_906, hr_755⟩ := bd h
   refine jc_loop (fun (s : (List (Arr 2 Int)) × Int) (x : Unit) => match s, x with | ⟨xs_3, i_4⟩, _ => (xs_3.length = data0.length) ∧ ((A_o = none → xs_3 = [] ∧ A_c = 0))) (fun (s : (List (Arr 2 Int)) × Int) (x : Unit) => match s, x with | ⟨xs_3, i_4⟩, _ => [(0, [], (.slice (A_o.map fun b => ⟨b, 0, none⟩) data0.length A_c)), (1, [], (.int .i64 a1)), (2, [], (.int .i64 b2)), (3, [], (.func (.func 72) #[] #[(.pointer (some ⟨D_b, 0, none⟩))])), (8, [], (.int .i64 i_4))]) (fun (s : (List (Arr 2 Int)) × Int) (x : Unit) => match s, x with | ⟨xs_3, i_4⟩, _ => [⟨A_o, 51, row encA2I64 xs_3 A_sp⟩, ⟨some D_b, 31, [(.slice D_a g3c0.length D_c)]⟩]) ht_906 () ⟨rfl, A_ho⟩ (by kernel_rfl) [0, 1] (by kernel_rfl) (by kernel_rfl) ?_
   rintro ⟨xs_3, i_4⟩ _ y_756 ⟨hn_754, ho_753⟩ h
   rw [slices_insertionSortCmpFunc_2int64_at_impl_pairsOf_1.l_5] at h
   refine jc_seq (jc_seq (jc_region (qh [0,0,0] (qe (jx_then (qi h (fun h => ?_) (fun h => ?_)))))))
   ·refine jc_skip (jx_then (jc_seq (jc_block (jc_seq (jc_region (qh [0,0] (qe (jx_then (jc_meet (fun (j : (List (Arr 2 Int))) => match j with | xs_7 => slices_insertionSortCmpFunc_2int64_at_impl_pairsOf_1.k_8 i_4 xs_7 = some y_756 ∧ (xs_7.length = data0.length) ∧ ((A_o = none → xs_7 = [] ∧ A_c = 0))) (fun (j : (List (Arr 2 Int))) => match j with | xs_7 => [(0, [], (.slice (A_o.map fun b => ⟨b, 0, none⟩) data0.length A_c)), (1, [], (.int .i64 a1)), (2, [], (.int .i64 b2)), (3, [], (.func (.func 72) #[] #[(.pointer (some ⟨D_b, 0, none⟩))])), (8, [], (.int .i64 i_4))]) (fun (j : (List (Arr 2 Int))) => match j with | xs_7 => [⟨A_o, 51, row encA2I64 xs_7 A_sp⟩, ⟨some D_b, 31, [(.slice D_a g3c0.length D_c)]⟩]) ?_ ?_)))))))))
    ·refine jc_block ?_
     obtain ⟨t_12, ht_904, hr_879⟩ := bd h
     refine jc_loop (fun (s : (List (Arr 2 Int)) × Int) (x : Unit) => match s, x with | ⟨xs_9, i_10⟩, _ => (xs_9.length = data0.length) ∧ ((A_o = none → xs_9 = [] ∧ A_c = 0))) (fun (s : (List (Arr 2 Int)) × Int) (x : Unit) => match s, x with | ⟨xs_9, i_10⟩, _ => [(0, [], (.slice (A_o.map fun b => ⟨b, 0, none⟩) data0.length A_c)), (1, [], (.int .i64 a1)), (2, [], (.int .i64 b2)), (3, [], (.func (.func 72) #[] #[(.pointer (some ⟨D_b, 0, none⟩))])), (8, [], (.int .i64 i_4)), (9, [], (.int .i64 i_10))]) (fun (s : (List (Arr 2 Int)) × Int) (x : Unit) => match s, x with | ⟨xs_9, i_10⟩, _ => [⟨A_o, 51, row encA2I64 xs_9 A_sp⟩, ⟨some D_b, 31, [(.slice D_a g3c0.length D_c)]⟩]) ht_904 () ⟨hn_754, ho_753⟩ (by kernel_rfl) [0, 1] (by kernel_rfl) (by kernel_rfl) ?_
     rintro ⟨xs_9, i_10⟩ _ y_880 ⟨hn_878, ho_877⟩ h
     rw [slices_insertionSortCmpFunc_2int64_at_impl_pairsOf_1.l_11] at h
     refine jc_seq (jc_seq (qg [⟨A_o, 51, row encA2I64 xs_9 A_sp⟩, ⟨some D_b, 31, [(.slice D_a g3c0.length D_c)]⟩] 17 (qd [⟨0, 0, 0⟩,⟨1, 0, 0⟩,⟨2, 0, 0⟩,⟨3, 0, 0⟩,⟨4, 0, 1⟩,⟨5, 0, 1⟩,⟨6, 0, 1⟩,⟨9, 0, 1⟩,⟨10, 0, 1⟩,⟨11, 0, 1⟩] 7 [0, 1] (jd_split 21 (decide (i_10 > a1)) (by kernel_rfl) (fun hc_887 => ?_) (fun hc_887 => ?_)))))
     ·replace h := ifT hc_887 h
      obtain ⟨x_13, hx_888, h⟩ := bd h
      refine qv 7 2 [0, 1] (fun w hm => idx_run (a := (A_o.map fun b => ⟨b, 0, none⟩)) (len := data0.length) (s := 2) (j := i_10) (by kernel_rfl) (ix_some hx_888).1 (ltn hx_888 hn_878) (spo ho_877 hx_888)) (qv 8 2 [0, 1] (fun w hm => ld_run (b := aB (A_o.map fun b => ⟨b, 0, none⟩)) (off := (aO (A_o.map fun b => ⟨b, 0, none⟩) + i_10.toNat * 2)) (s := 2) (agg := true) (vs := (encA2I64 x_13)) (by kernel_rfl) (encA2I64_len x_13) (.inl rfl) ((hm.ow 0 A_o 51 xs_9 A_sp (fun e => (ho_877 e).1) encA2I64_len).at hx_888)) ?_)
      obtain ⟨x_14, hx_889, h⟩ := bd h
      refine qv 12 2 [0, 1] (fun w hm => idx_run (a := (A_o.map fun b => ⟨b, 0, none⟩)) (len := data0.length) (s := 2) (j := (w64 (i_10 - 1))) (by kernel_rfl) (ix_some hx_889).1 (ltn hx_889 hn_878) (spo ho_877 hx_889)) (qv 13 2 [0, 1] (fun w hm => ld_run (b := aB (A_o.map fun b => ⟨b, 0, none⟩)) (off := (aO (A_o.map fun b => ⟨b, 0, none⟩) + (w64 (i_10 - 1)).toNat * 2)) (s := 2) (agg := true) (vs := (encA2I64 x_14)) (by kernel_rfl) (encA2I64_len x_14) (.inl rfl) ((hm.ow 0 A_o 51 xs_9 A_sp (fun e => (ho_877 e).1) encA2I64_len).at hx_889)) ?_)
      obtain ⟨t_15, ht_890, h⟩ := bd h
      refine tD 14 (pc 2 (fun w hm => impl_pairsOf_1.calls x_13 x_14 g3c0 w _ D_c (hm.exRowW D_h D_ha) rfl D_b (hm.pass (N := [⟨some D_b, 31, [(.slice D_a g3c0.length D_c)]⟩]) [1] (by kernel_rfl) (by kernel_rfl)) (hm.exApart (N := [⟨some D_b, 31, [(.slice D_a g3c0.length D_c)]⟩]) D_h D_ha [1] (by kernel_rfl)) (hm.innPass (N := [⟨some D_b, 31, [(.slice D_a g3c0.length D_c)]⟩]) D_i [1] (by kernel_rfl)) ht_890) ?_)
      rintro w v w' hm ⟨rfl, hm'⟩
      refine ⟨_, hm.appW (ps := [(1, ⟨some D_b, 31, [(.slice D_a g3c0.length D_c)]⟩)]) (N := []) hm' (by kernel_rfl) (by kernel_rfl), kD [0, 1] ?_⟩
      clear hm hm'
      refine qd [⟨15, 0, 2⟩,⟨16, 0, 4⟩] 0 [0, 1] (qz (jx_then (qi h (fun h => ?_) (fun h => ?_))))
      ·refine jc_skip (jx_then (jc_seq (jc_block (qg [⟨some D_b, 31, [(.slice D_a g3c0.length D_c)]⟩] 18 (qd [⟨0, 0, 0⟩,⟨1, 0, 0⟩,⟨2, 0, 0⟩,⟨3, 0, 0⟩,⟨4, 0, 0⟩,⟨5, 0, 0⟩,⟨6, 0, 0⟩,⟨7, 0, 0⟩,⟨10, 0, 0⟩,⟨11, 0, 0⟩] 8 [1] ?_)))))
       obtain ⟨x_16, hx_895, h⟩ := bd h
       refine qv 8 0 [1] (fun w hm => idx_run (a := (A_o.map fun b => ⟨b, 0, none⟩)) (len := data0.length) (s := 2) (j := (w64 (i_10 - 1))) (by kernel_rfl) (ix_some hx_895).1 (ltn hx_895 hn_878) (spo ho_877 hx_895)) ?_
       obtain ⟨x_17, hx_896, h⟩ := bd h
       refine qv 12 0 [1] (fun w hm => idx_run (a := (A_o.map fun b => ⟨b, 0, none⟩)) (len := data0.length) (s := 2) (j := i_10) (by kernel_rfl) (ix_some hx_896).1 (ltn hx_896 hn_878) (spo ho_877 hx_896)) (toD2 9 13 (by kernel_rfl) ?_ ?_)
       ·refine p_ldx 0 (aB (A_o.map fun b => ⟨b, 0, none⟩)) (aO (A_o.map fun b => ⟨b, 0, none⟩) + (w64 (i_10 - 1)).toNat * 2) (encA2I64 x_16) 2 (by kernel_rfl) (by kernel_rfl) (encA2I64_len x_16) (fun w hm => ((hm.ow 0 A_o 51 xs_9 A_sp (fun e => (ho_877 e).1) encA2I64_len).at hx_895)) (kD [1] (tD 13 (p_ldx 0 (aB (A_o.map fun b => ⟨b, 0, none⟩)) (aO (A_o.map fun b => ⟨b, 0, none⟩) + i_10.toNat * 2) (encA2I64 x_17) 2 (by kernel_rfl) (by kernel_rfl) (encA2I64_len x_17) (fun w hm => ((hm.ow 0 A_o 51 xs_9 A_sp (fun e => (ho_877 e).1) encA2I64_len).at hx_896)) (kD [1] ?_))))
        obtain ⟨x_18, hx_897, h⟩ := bd h
        refine qv 14 0 [1] (fun w hm => idx_run (a := (A_o.map fun b => ⟨b, 0, none⟩)) (len := data0.length) (s := 2) (j := i_10) (by kernel_rfl) (ix_some hx_897).1 (ltn hx_897 hn_878) (spo ho_877 hx_897)) (tD 15 (p_strWO 0 0 A_o 51 encA2I64 xs_9 A_sp i_10 x_16 2 (by kernel_rfl) (by kernel_rfl) (by kernel_rfl) (fun e => (ho_877 e).1) encA2I64_len encA2I64_cell hx_897 (kD [1] ?_)))
        obtain ⟨x_19, hx_898, h⟩ := bd h
        exact qv 16 0 [1] (fun w hm => idx_run (a := (A_o.map fun b => ⟨b, 0, none⟩)) (len := data0.length) (s := 2) (j := (w64 (i_10 - 1))) (by kernel_rfl) (ix_some hx_898).1 (ltn hx_898 (List.length_set.trans hn_878)) (spo (set_ho ho_877) hx_898)) (tD 17 (p_strWO 0 0 A_o 51 encA2I64 (xs_9.set i_10.toNat x_16) A_sp (w64 (i_10 - 1)) x_17 2 (by kernel_rfl) (by kernel_rfl) (by kernel_rfl) (fun e => ((set_ho ho_877) e).1) encA2I64_len encA2I64_cell hx_898 (kD [1] (qz (jx_inn (jx_then (jc_region (qh [0,0,0] (qe (qb (((xs_9.set i_10.toNat x_16).set (w64 (i_10 - 1)).toNat x_17), (w64 (i_10 - 1))) () h ⟨(List.length_set.trans (List.length_set.trans hn_878)), (set_ho (set_ho ho_877))⟩ [0, 1]))))))))))
       ·refine p_ldx 0 (aB (A_o.map fun b => ⟨b, 0, none⟩)) (aO (A_o.map fun b => ⟨b, 0, none⟩) + i_10.toNat * 2) (encA2I64 x_17) 2 (by kernel_rfl) (by kernel_rfl) (encA2I64_len x_17) (fun w hm => ((hm.ow 0 A_o 51 xs_9 A_sp (fun e => (ho_877 e).1) encA2I64_len).at hx_896)) (kD [1] (tD 9 (p_ldx 0 (aB (A_o.map fun b => ⟨b, 0, none⟩)) (aO (A_o.map fun b => ⟨b, 0, none⟩) + (w64 (i_10 - 1)).toNat * 2) (encA2I64 x_16) 2 (by kernel_rfl) (by kernel_rfl) (encA2I64_len x_16) (fun w hm => ((hm.ow 0 A_o 51 xs_9 A_sp (fun e => (ho_877 e).1) encA2I64_len).at hx_895)) (kD [1] ?_))))
        obtain ⟨x_18, hx_899, h⟩ := bd h
        refine qv 14 0 [1] (fun w hm => idx_run (a := (A_o.map fun b => ⟨b, 0, none⟩)) (len := data0.length) (s := 2) (j := i_10) (by kernel_rfl) (ix_some hx_899).1 (ltn hx_899 hn_878) (spo ho_877 hx_899)) (tD 15 (p_strWO 0 0 A_o 51 encA2I64 xs_9 A_sp i_10 x_16 2 (by kernel_rfl) (by kernel_rfl) (by kernel_rfl) (fun e => (ho_877 e).1) encA2I64_len encA2I64_cell hx_899 (kD [1] ?_)))
        obtain ⟨x_19, hx_900, h⟩ := bd h
        exact qv 16 0 [1] (fun w hm => idx_run (a := (A_o.map fun b => ⟨b, 0, none⟩)) (len := data0.length) (s := 2) (j := (w64 (i_10 - 1))) (by kernel_rfl) (ix_some hx_900).1 (ltn hx_900 (List.length_set.trans hn_878)) (spo (set_ho ho_877) hx_900)) (tD 17 (p_strWO 0 0 A_o 51 encA2I64 (xs_9.set i_10.toNat x_16) A_sp (w64 (i_10 - 1)) x_17 2 (by kernel_rfl) (by kernel_rfl) (by kernel_rfl) (fun e => ((set_ho ho_877) e).1) encA2I64_len encA2I64_cell hx_900 (kD [1] (qz (jx_inn (jx_then (jc_region (qh [0,0,0] (qe (qb (((xs_9.set i_10.toNat x_16).set (w64 (i_10 - 1)).toNat x_17), (w64 (i_10 - 1))) () h ⟨(List.length_set.trans (List.length_set.trans hn_878)), (set_ho (set_ho ho_877))⟩ [0, 1]))))))))))
      ·refine jc_exit (jx_thenx (jx_leave xs_9 (Option.some.inj h).symm (fun e_901 => ?_)))
       subst e_901
       exact jx_ine (qm xs_9 ⟨hr_879, hn_878, ho_877⟩ [0, 1])
     ·replace h := ifF hc_887 h
      refine qd [⟨7, 0, 3⟩,⟨8, 0, 3⟩,⟨12, 0, 3⟩,⟨13, 0, 3⟩,⟨14, 0, 3⟩,⟨15, 0, 3⟩,⟨16, 0, 5⟩] 0 [0, 1] (qz (jx_then (jc_cond false (by kernel_rfl) (fun hc_902 => nomatch hc_902) (fun hc_902 => (jc_exit (jx_thenx (jx_leave xs_9 (Option.some.inj h).symm (fun e_903 => ?_))))))))
      subst e_903
      exact jx_ine (qm xs_9 ⟨hr_879, hn_878, ho_877⟩ [0, 1])
    ·rintro xs_7 ⟨h, hn_832, ho_831⟩
     replace h : slices_insertionSortCmpFunc_2int64_at_impl_pairsOf_1.k_8 i_4 xs_7 = some y_756 := h
     rw [slices_insertionSortCmpFunc_2int64_at_impl_pairsOf_1.k_8] at h
     exact jx_inn (jx_then (jc_region (qh [0,0,0] (qe (qb (xs_7, (w64 (i_4 + 1))) () h ⟨hn_832, ho_831⟩ [0, 1])))))
   ·refine jc_exit (jx_thenx (jx_leave xs_3 (Option.some.inj h).symm (fun e_905 => ?_)))
    subst e_905
    exact jx_ine (qm xs_3 ⟨hr_755, hn_754, ho_753⟩ [0, 1])
  ·rintro xs_1 ⟨h, hn_454, ho_453⟩
   replace h : slices_insertionSortCmpFunc_2int64_at_impl_pairsOf_1.k_2 xs_1 = some r := h
   rw [slices_insertionSortCmpFunc_2int64_at_impl_pairsOf_1.k_2] at h
   refine jx_fall ?_
   obtain rfl := Option.some.inj h
   exact qr [] (fun w hm => ⟨hn_454, ho_453, rfl, hm.pk [0, 1]⟩)
/-! ### slices.swapRangeCmpFunc[[2]int64] -/
def slices_swapRangeCmpFunc_2int64_at_impl_pairsOf_1.k_2 (xs_1 : List (Arr 2 Int)) : Option ((List (Arr 2 Int))) := some xs_1
def slices_swapRangeCmpFunc_2int64_at_impl_pairsOf_1.l_5 (a1 : Int) (b2 : Int) (n3 : Int) : ((List (Arr 2 Int)) × Int) → Option (((List (Arr 2 Int)) × Int) ⊕ ((List (Arr 2 Int))))
  | (xs_3, i_4) => (if (decide (i_4 < n3)) = true then (ix xs_3 (w64 (b2 + i_4))).bind fun x_7 => (ix xs_3 (w64 (a1 + i_4))).bind fun x_8 => (ix xs_3 (w64 (a1 + i_4))).bind fun x_9 => (ix (xs_3.set (w64 (a1 + i_4)).toNat x_7) (w64 (b2 + i_4))).bind fun x_10 => some (.inl (((xs_3.set (w64 (a1 + i_4)).toNat x_7).set (w64 (b2 + i_4)).toNat x_8), (w64 (i_4 + 1)))) else some (.inr xs_3))
def slices_swapRangeCmpFunc_2int64_at_impl_pairsOf_1 (data0 : List (Arr 2 Int)) (a1 : Int) (b2 : Int) (n3 : Int) (g4c0 : List (List Int)) : Option ((List (Arr 2 Int))) := (loop (slices_swapRangeCmpFunc_2int64_at_impl_pairsOf_1.l_5 a1 b2 n3) (data0, 0)).bind fun t_6 => slices_swapRangeCmpFunc_2int64_at_impl_pairsOf_1.k_2 t_6
theorem slices_swapRangeCmpFunc_2int64_at_impl_pairsOf_1.calls (data0 : List (Arr 2 Int)) (a1 : Int) (b2 : Int) (n3 : Int) (g4c0 : List (List Int)) (w : World) (r : (List (Arr 2 Int))) {E_a : Option Addr} {E_an : Nat} (E_c : Nat) {E_hs : List Hd} (E_h : Rw w E_a 1 encHd E_hs) (E_hn : g4c0.length = E_an) (A_o : Option Nat) {A_on : Nat} {A_c : Nat} {A_sp : List Value} (A_hn : data0.length = A_on) (A_hs : A_o ≠ none → A_on ≤ A_c ∧ A_sp.length = (A_c - A_on) * 2) (A_ho : A_o = none → data0 = [] ∧ A_c = 0) (E_b : Nat) (hm0 : Mem w (bs [A_o, some E_b]) [⟨A_o, 51, row encA2I64 data0 A_sp⟩, ⟨some E_b, 31, [(.slice E_a E_an E_c)]⟩] w) (E_ha : E_hs ≠ [] → aB E_a ∉ bs [A_o, some E_b]) (E_i : Inn w (bs [A_o, some E_b]) 1 encI64 E_hs g4c0) (h : slices_swapRangeCmpFunc_2int64_at_impl_pairsOf_1 data0 a1 b2 n3 g4c0 = some r) :
    Calls Try.prog 100 #[(.slice (A_o.map fun b => ⟨b, 0, none⟩) A_on A_c), (.int .i64 a1), (.int .i64 b2), (.int .i64 n3), (.func (.func 72) #[] #[(.pointer (some ⟨E_b, 0, none⟩))])] w fun e w' => ∃ v, e = .returned v ∧ (r.length = A_on ∧ (A_o = none → r = [] ∧ A_c = 0) ∧ v = .tuple #[] ∧ Mem w (bs [A_o, some E_b]) [⟨A_o, 51, row encA2I64 r A_sp⟩, ⟨some E_b, 31, [(.slice E_a E_an E_c)]⟩] w') := by
  subst E_hn A_hn
  rw [slices_swapRangeCmpFunc_2int64_at_impl_pairsOf_1] at h
  refine enter (args := [(.slice (A_o.map fun b => ⟨b, 0, none⟩) data0.length A_c), (.int .i64 a1), (.int .i64 b2), (.int .i64 n3), (.func (.func 72) #[] #[(.pointer (some ⟨E_b, 0, none⟩))])]) Try.func100 rfl Try.ntmps100 (by kernel_rfl) (L := [⟨A_o, 51, row encA2I64 data0 A_sp⟩, ⟨some E_b, 31, [(.slice E_a g4c0.length E_c)]⟩]) (W := bs [A_o, some E_b]) hm0 ?_
  refine jc_seq (jc_region (qh [0] (qe (jx_then (jc_meet (fun (j : (List (Arr 2 Int))) => match j with | xs_1 => slices_swapRangeCmpFunc_2int64_at_impl_pairsOf_1.k_2 xs_1 = some r ∧ (xs_1.length = data0.length) ∧ ((A_o = none → xs_1 = [] ∧ A_c = 0))) (fun (j : (List (Arr 2 Int))) => match j with | xs_1 => []) (fun (j : (List (Arr 2 Int))) => match j with | xs_1 => [⟨A_o, 51, row encA2I64 xs_1 A_sp⟩, ⟨some E_b, 31, [(.slice E_a g4c0.length E_c)]⟩]) ?_ ?_)))))
  ·refine jc_block ?_
   obtain ⟨t_6, ht_84, hr_70⟩ := bd h
   refine jc_loop (fun (s : (List (Arr 2 Int)) × Int) (x : Unit) => match s, x with | ⟨xs_3, i_4⟩, _ => (xs_3.length = data0.length) ∧ ((A_o = none → xs_3 = [] ∧ A_c = 0))) (fun (s : (List (Arr 2 Int)) × Int) (x : Unit) => match s, x with | ⟨xs_3, i_4⟩, _ => [(0, [], (.slice (A_o.map fun b => ⟨b, 0, none⟩) data0.length A_c)), (1, [], (.int .i64 a1)), (2, [], (.int .i64 b2)), (3, [], (.int .i64 n3)), (10, [], (.int .i64 i_4))]) (fun (s : (List (Arr 2 Int)) × Int) (x : Unit) => match s, x with | ⟨xs_3, i_4⟩, _ => [⟨A_o, 51, row encA2I64 xs_3 A_sp⟩, ⟨some E_b, 31, [(.slice E_a g4c0.length E_c)]⟩]) ht_84 () ⟨rfl, A_ho⟩ (by kernel_rfl) [0, 1] (by kernel_rfl) (by kernel_rfl) ?_
   rintro ⟨xs_3, i_4⟩ _ y_71 ⟨hn_69, ho_68⟩ h
   rw [slices_swapRangeCmpFunc_2int64_at_impl_pairsOf_1.l_5] at h
   refine jc_seq (jc_seq (jc_region (qh [0,0,0] (qe (jx_then (qi h (fun h => ?_) (fun h => ?_)))))))
   ·refine jc_skip (jx_then (jc_seq (jc_block (qg [⟨some E_b, 31, [(.slice E_a g4c0.length E_c)]⟩] 24 (qd [⟨0, 0, 0⟩,⟨1, 0, 0⟩,⟨2, 0, 0⟩,⟨3, 0, 0⟩,⟨4, 0, 0⟩,⟨5, 0, 0⟩,⟨6, 0, 0⟩,⟨7, 0, 0⟩,⟨8, 0, 0⟩,⟨9, 0, 0⟩,⟨10, 0, 0⟩,⟨11, 0, 0⟩,⟨14, 0, 0⟩,⟨15, 0, 0⟩,⟨16, 0, 0⟩,⟨17, 0, 0⟩] 8 [1] ?_)))))
    obtain ⟨x_7, hx_77, h⟩ := bd h
    refine qv 12 0 [1] (fun w hm => idx_run (a := (A_o.map fun b => ⟨b, 0, none⟩)) (len := data0.length) (s := 2) (j := (w64 (b2 + i_4))) (by kernel_rfl) (ix_some hx_77).1 (ltn hx_77 hn_69) (spo ho_68 hx_77)) ?_
    obtain ⟨x_8, hx_78, h⟩ := bd h
    refine qv 18 0 [1] (fun w hm => idx_run (a := (A_o.map fun b => ⟨b, 0, none⟩)) (len := data0.length) (s := 2) (j := (w64 (a1 + i_4))) (by kernel_rfl) (ix_some hx_78).1 (ltn hx_78 hn_69) (spo ho_68 hx_78)) (toD2 13 19 (by kernel_rfl) ?_ ?_)
    ·refine p_ldx 0 (aB (A_o.map fun b => ⟨b, 0, none⟩)) (aO (A_o.map fun b => ⟨b, 0, none⟩) + (w64 (b2 + i_4)).toNat * 2) (encA2I64 x_7) 2 (by kernel_rfl) (by kernel_rfl) (encA2I64_len x_7) (fun w hm => ((hm.ow 0 A_o 51 xs_3 A_sp (fun e => (ho_68 e).1) encA2I64_len).at hx_77)) (kD [1] (tD 19 (p_ldx 0 (aB (A_o.map fun b => ⟨b, 0, none⟩)) (aO (A_o.map fun b => ⟨b, 0, none⟩) + (w64 (a1 + i_4)).toNat * 2) (encA2I64 x_8) 2 (by kernel_rfl) (by kernel_rfl) (encA2I64_len x_8) (fun w hm => ((hm.ow 0 A_o 51 xs_3 A_sp (fun e => (ho_68 e).1) encA2I64_len).at hx_78)) (kD [1] ?_))))
     obtain ⟨x_9, hx_79, h⟩ := bd h
     refine qv 20 0 [1] (fun w hm => idx_run (a := (A_o.map fun b => ⟨b, 0, none⟩)) (len := data0.length) (s := 2) (j := (w64 (a1 + i_4))) (by kernel_rfl) (ix_some hx_79).1 (ltn hx_79 hn_69) (spo ho_68 hx_79)) (tD 21 (p_strWO 0 0 A_o 51 encA2I64 xs_3 A_sp (w64 (a1 + i_4)) x_7 2 (by kernel_rfl) (by kernel_rfl) (by kernel_rfl) (fun e => (ho_68 e).1) encA2I64_len encA2I64_cell hx_79 (kD [1] ?_)))
     obtain ⟨x_10, hx_80, h⟩ := bd h
     exact qv 22 0 [1] (fun w hm => idx_run (a := (A_o.map fun b => ⟨b, 0, none⟩)) (len := data0.length) (s := 2) (j := (w64 (b2 + i_4))) (by kernel_rfl) (ix_some hx_80).1 (ltn hx_80 (List.length_set.trans hn_69)) (spo (set_ho ho_68) hx_80)) (tD 23 (p_strWO 0 0 A_o 51 encA2I64 (xs_3.set (w64 (a1 + i_4)).toNat x_7) A_sp (w64 (b2 + i_4)) x_8 2 (by kernel_rfl) (by kernel_rfl) (by kernel_rfl) (fun e => ((set_ho ho_68) e).1) encA2I64_len encA2I64_cell hx_80 (kD [1] (qz (jx_inn (jx_then (jc_region (qh [0,0,0] (qe (qb (((xs_3.set (w64 (a1 + i_4)).toNat x_7).set (w64 (b2 + i_4)).toNat x_8), (w64 (i_4 + 1))) () h ⟨(List.length_set.trans (List.length_set.trans hn_69)), (set_ho (set_ho ho_68))⟩ [0, 1]))))))))))
    ·refine p_ldx 0 (aB (A_o.map fun b => ⟨b, 0, none⟩)) (aO (A_o.map fun b => ⟨b, 0, none⟩) + (w64 (a1 + i_4)).toNat * 2) (encA2I64 x_8) 2 (by kernel_rfl) (by kernel_rfl) (encA2I64_len x_8) (fun w hm => ((hm.ow 0 A_o 51 xs_3 A_sp (fun e => (ho_68 e).1) encA2I64_len).at hx_78)) (kD [1] (tD 13 (p_ldx 0 (aB (A_o.map fun b => ⟨b, 0, none⟩)) (aO (A_o.map fun b => ⟨b, 0, none⟩) + (w64 (b2 + i_4)).toNat * 2) (encA2I64 x_7) 2 (by kernel_rfl) (by kernel_rfl) (encA2I64_len x_7) (fun w hm => ((hm.ow 0 A_o 51 xs_3 A_sp (fun e => (ho_68 e).1) encA2I64_len).at hx_77)) (kD [1] ?_))))
     obtain ⟨x_9, hx_81, h⟩ := bd h
     refine qv 20 0 [1] (fun w hm => idx_run (a := (A_o.map fun b => ⟨b, 0, none⟩)) (len := data0.length) (s := 2) (j := (w64 (a1 + i_4))) (by kernel_rfl) (ix_some hx_81).1 (ltn hx_81 hn_69) (spo ho_68 hx_81)) (tD 21 (p_strWO 0 0 A_o 51 encA2I64 xs_3 A_sp (w64 (a1 + i_4)) x_7 2 (by kernel_rfl) (by kernel_rfl) (by kernel_rfl) (fun e => (ho_68 e).1) encA2I64_len encA2I64_cell hx_81 (kD [1] ?_)))
     obtain ⟨x_10, hx_82, h⟩ := bd h
     exact qv 22 0 [1] (fun w hm => idx_run (a := (A_o.map fun b => ⟨b, 0, none⟩)) (len := data0.length) (s := 2) (j := (w64 (b2 + i_4))) (by kernel_rfl) (ix_some hx_82).1 (ltn hx_82 (List.length_set.trans hn_69)) (spo (set_ho ho_68) hx_82)) (tD 23 (p_strWO 0 0 A_o 51 encA2I64 (xs_3.set (w64 (a1 + i_4)).toNat x_7) A_sp (w64 (b2 + i_4)) x_8 2 (by kernel_rfl) (by kernel_rfl) (by kernel_rfl) (fun e => ((set_ho ho_68) e).1) encA2I64_len encA2I64_cell hx_82 (kD [1] (qz (jx_inn (jx_then (jc_region (qh [0,0,0] (qe (qb (((xs_3.set (w64 (a1 + i_4)).toNat x_7).set (w64 (b2 + i_4)).toNat x_8), (w64 (i_4 + 1))) () h ⟨(List.length_set.trans (List.length_set.trans hn_69)), (set_ho (set_ho ho_68))⟩ [0, 1]))))))))))
   ·refine jc_exit (jx_thenx (jx_leave xs_3 (Option.some.inj h).symm (fun e_83 => ?_)))
    subst e_83
    exact jx_ine (qm xs_3 ⟨hr_70, hn_69, ho_68⟩ [0, 1])
  ·rintro xs_1 ⟨h, hn_43, ho_42⟩
   replace h : slices_swapRangeCmpFunc_2int64_at_impl_pairsOf_1.k_2 xs_1 = some r := h
   rw [slices_swapRangeCmpFunc_2int64_at_impl_pairsOf_1.k_2] at h
   refine jx_fall ?_
   obtain rfl := Option.some.inj h
   exact qr [] (fun w hm => ⟨hn_43, ho_42, rfl, hm.pk [0, 1]⟩)
/-! ### slices.rotateCmpFunc[[2]int64] -/
def slices_rotateCmpFunc_2int64_at_impl_pairsOf_1.k_3 (m2 : Int) (g4c0 : List (List Int)) (xs_1 : List (Arr 2 Int)) (i_2 : Int) : Option ((List (Arr 2 Int))) := (slices_swapRangeCmpFunc_2int64_at_impl_pairsOf_1 xs_1 (w64 (m2 - i_2)) m2 i_2 g4c0).bind fun t_4 => some t_4
def slices_rotateCmpFunc_2int64_at_impl_pairsOf_1.k_13 (xs_10 : List (Arr 2 Int)) (i_11 : Int) (i_12 : Int) : Option (((List (Arr 2 Int)) × Int × Int) ⊕ (((List (Arr 2 Int)) × Int))) := some (.inl (xs_10, i_11, i_12))
def slices_rotateCmpFunc_2int64_at_impl_pairsOf_1.l_8 (m2 : Int) (g4c0 : List (List Int)) : ((List (Arr 2 Int)) × Int × Int) → Option (((List (Arr 2 Int)) × Int × Int) ⊕ (((List (Arr 2 Int)) × Int)))
  | (xs_5, i_6, i_7) => (if (i_6 != i_7) = true then (if (decide (i_6 > i_7)) = true then (slices_swapRangeCmpFunc_2int64_at_impl_pairsOf_1 xs_5 (w64 (m2 - i_6)) m2 i_7 g4c0).bind fun t_14 => slices_rotateCmpFunc_2int64_at_impl_pairsOf_1.k_13 t_14 (w64 (i_6 - i_7)) i_7 else (slices_swapRangeCmpFunc_2int64_at_impl_pairsOf_1 xs_5 (w64 (m2 - i_6)) (w64 ((w64 (m2 + i_7)) - i_6)) i_6 g4c0).bind fun t_15 => slices_rotateCmpFunc_2int64_at_impl_pairsOf_1.k_13 t_15 i_6 (w64 (i_7 - i_6))) else some (.inr (xs_5, i_6)))
def slices_rotateCmpFunc_2int64_at_impl_pairsOf_1 (data0 : List (Arr 2 Int)) (a1 : Int) (m2 : Int) (b3 : Int) (g4c0 : List (List Int)) : Option ((List (Arr 2 Int))) := (loop (slices_rotateCmpFunc_2int64_at_impl_pairsOf_1.l_8 m2 g4c0) (data0, (w64 (m2 - a1)), (w64 (b3 - m2)))).bind fun t_9 => slices_rotateCmpFunc_2int64_at_impl_pairsOf_1.k_3 m2 g4c0 t_9.1 t_9.2
theorem slices_rotateCmpFunc_2int64_at_impl_pairsOf_1.calls (data0 : List (Arr 2 Int)) (a1 : Int) (m2 : Int) (b3 : Int) (g4c0 : List (List Int)) (w : World) (r : (List (Arr 2 Int))) {E_a : Option Addr} {E_an : Nat} (E_c : Nat) {E_hs : List Hd} (E_h : Rw w E_a 1 encHd E_hs) (E_hn : g4c0.length = E_an) (A_o : Option Nat) {A_on : Nat} {A_c : Nat} {A_sp : List Value} (A_hn : data0.length = A_on) (A_hs : A_o ≠ none → A_on ≤ A_c ∧ A_sp.length = (A_c - A_on) * 2) (A_ho : A_o = none → data0 = [] ∧ A_c = 0) (E_b : Nat) (hm0 : Mem w (bs [A_o, some E_b]) [⟨A_o, 51, row encA2I64 data0 A_sp⟩, ⟨some E_b, 31, [(.slice E_a E_an E_c)]⟩] w) (E_ha : E_hs ≠ [] → aB E_a ∉ bs [A_o, some E_b]) (E_i : Inn w (bs [A_o, some E_b]) 1 encI64 E_hs g4c0) (h : slices_rotateCmpFunc_2int64_at_impl_pairsOf_1 data0 a1 m2 b3 g4c0 = some r) :
    Calls Try.prog 99 #[(.slice (A_o.map fun b => ⟨b, 0, none⟩) A_on A_c), (.int .i64 a1), (.int .i64 m2), (.int .i64 b3), (.func (.func 72) #[] #[(.pointer (some ⟨E_b, 0, none⟩))])] w fun e w' => ∃ v, e = .returned v ∧ (r.length = A_on ∧ (A_o = none → r = [] ∧ A_c = 0) ∧ v = .tuple #[] ∧ Mem w (bs [A_o, some E_b]) [⟨A_o, 51, row encA2I64 r A_sp⟩, ⟨some E_b, 31, [(.slice E_a E_an E_c)]⟩] w') := by
  subst E_hn A_hn
  rw [slices_rotateCmpFunc_2int64_at_impl_pairsOf_1] at h
  refine enter (args := [(.slice (A_o.map fun b => ⟨b, 0, none⟩) data0.length A_c), (.int .i64 a1), (.int .i64 m2), (.int .i64 b3), (.func (.func 72) #[] #[(.pointer (some ⟨E_b, 0, none⟩))])]) Try.func99 rfl Try.ntmps99 (by kernel_rfl) (L := [⟨A_o, 51, row encA2I64 data0 A_sp⟩, ⟨some E_b, 31, [(.slice E_a g4c0.length E_c)]⟩]) (W := bs [A_o, some E_b]) hm0 ?_
  refine jc_seq (jc_region (qh [0,0,0,0] (qe (jx_then (jc_seq (jc_region (qh [0,0,0,0] (qe (jx_then (jc_seq (jc_meet (fun (j : (List (Arr 2 Int)) × Int) => match j with | ⟨xs_1, i_2⟩ => slices_rotateCmpFunc_2int64_at_impl_pairsOf_1.k_3 m2 g4c0 xs_1 i_2 = some r ∧ (xs_1.length = data0.length) ∧ ((A_o = none → xs_1 = [] ∧ A_c = 0))) (fun (j : (List (Arr 2 Int)) × Int) => match j with | ⟨xs_1, i_2⟩ => [(0, [], (.slice (A_o.map fun b => ⟨b, 0, none⟩) data0.length A_c)), (2, [], (.int .i64 m2)), (4, [], (.func (.func 72) #[] #[(.pointer (some ⟨E_b, 0, none⟩))])), (10, [], (.int .i64 i_2))]) (fun (j : (List (Arr 2 Int)) × Int) => match j with | ⟨xs_1, i_2⟩ => [⟨A_o, 51, row encA2I64 xs_1 A_sp⟩, ⟨some E_b, 31, [(.slice E_a g4c0.length E_c)]⟩]) ?_ ?_)))))))))))
  ·refine jc_block ?_
   obtain ⟨t_9, ht_129, hr_108⟩ := bd h
   refine jc_loop (fun (s : (List (Arr 2 Int)) × Int × Int) (x : Unit) => match s, x with | ⟨xs_5, i_6, i_7⟩, _ => (xs_5.length = data0.length) ∧ ((A_o = none → xs_5 = [] ∧ A_c = 0))) (fun (s : (List (Arr 2 Int)) × Int × Int) (x : Unit) => match s, x with | ⟨xs_5, i_6, i_7⟩, _ => [(0, [], (.slice (A_o.map fun b => ⟨b, 0, none⟩) data0.length A_c)), (2, [], (.int .i64 m2)), (4, [], (.func (.func 72) #[] #[(.pointer (some ⟨E_b, 0, none⟩))])), (10, [], (.int .i64 i_6)), (11, [], (.int .i64 i_7))]) (fun (s : (List (Arr 2 Int)) × Int × Int) (x : Unit) => match s, x with | ⟨xs_5, i_6, i_7⟩, _ => [⟨A_o, 51, row encA2I64 xs_5 A_sp⟩, ⟨some E_b, 31, [(.slice E_a g4c0.length E_c)]⟩]) ht_129 () ⟨rfl, A_ho⟩ (by kernel_rfl) [0, 1] (by kernel_rfl) (by kernel_rfl) ?_
   rintro ⟨xs_5, i_6, i_7⟩ _ y_109 ⟨hn_107, ho_106⟩ h
   rw [slices_rotateCmpFunc_2int64_at_impl_pairsOf_1.l_8] at h
   refine jc_seq (jc_seq (jc_region (qh [0,0,0] (qe (jx_then (qi h (fun h => ?_) (fun h => ?_)))))))
   ·refine jc_skip (jx_then (jc_meet (fun (j : (List (Arr 2 Int)) × Int × Int) => match j with | ⟨xs_10, i_11, i_12⟩ => slices_rotateCmpFunc_2int64_at_impl_pairsOf_1.k_13 xs_10 i_11 i_12 = some y_109 ∧ (xs_10.length = data0.length) ∧ ((A_o = none → xs_10 = [] ∧ A_c = 0))) (fun (j : (List (Arr 2 Int)) × Int × Int) => match j with | ⟨xs_10, i_11, i_12⟩ => [(0, [], (.slice (A_o.map fun b => ⟨b, 0, none⟩) data0.length A_c)), (2, [], (.int .i64 m2)), (4, [], (.func (.func 72) #[] #[(.pointer (some ⟨E_b, 0, none⟩))])), (10, [], (.int .i64 i_11)), (11, [], (.int .i64 i_12))]) (fun (j : (List (Arr 2 Int)) × Int × Int) => match j with | ⟨xs_10, i_11, i_12⟩ => [⟨A_o, 51, row encA2I64 xs_10 A_sp⟩, ⟨some E_b, 31, [(.slice E_a g4c0.length E_c)]⟩]) ?_ ?_))
    ·refine jc_block (jc_seq (jc_region (qh [0,0,0] (qe (jx_then (qi h (fun h => ?_) (fun h => ?_)))))))
     ·refine jc_seq (jc_region (qh [0,0,0,0,0,0,0] ?_))
      obtain ⟨t_14, ht_122, h⟩ := bd h
      refine tO (pc 0 (fun w hm => slices_swapRangeCmpFunc_2int64_at_impl_pairsOf_1.calls xs_5 (w64 (m2 - i_6)) m2 i_7 g4c0 w _ E_c (hm.exRowW E_h E_ha) rfl A_o hn_107 A_hs ho_106 E_b (hm.pass (N := [⟨A_o, 51, row encA2I64 xs_5 A_sp⟩, ⟨some E_b, 31, [(.slice E_a g4c0.length E_c)]⟩]) [0, 1] (by kernel_rfl) (by kernel_rfl)) (hm.exApart (N := [⟨A_o, 51, row encA2I64 xs_5 A_sp⟩, ⟨some E_b, 31, [(.slice E_a g4c0.length E_c)]⟩]) E_h E_ha [0, 1] (by kernel_rfl)) (hm.innPass (N := [⟨A_o, 51, row encA2I64 xs_5 A_sp⟩, ⟨some E_b, 31, [(.slice E_a g4c0.length E_c)]⟩]) E_i [0, 1] (by kernel_rfl)) ht_122) ?_)
      rintro w v w' hm ⟨hn_123, ho_124, rfl, hm'⟩
      refine ⟨_, hm.appW (ps := [(0, ⟨A_o, 51, row encA2I64 t_14 A_sp⟩), (1, ⟨some E_b, 31, [(.slice E_a g4c0.length E_c)]⟩)]) (N := []) hm' (by kernel_rfl) (by kernel_rfl), jkO ?_⟩
      clear hm hm'
      exact qe (jx_then (jc_region (qh [0,0,0,0] (qe (jx_inn (qm ⟨t_14, (w64 (i_6 - i_7)), i_7⟩ ⟨h, hn_123, ho_124⟩ [0, 1]))))))
     ·refine jc_seq (jc_region (qh [0,0,0,0,0,0,0,0,0,0,0] ?_))
      obtain ⟨t_15, ht_125, h⟩ := bd h
      refine tO (pc 0 (fun w hm => slices_swapRangeCmpFunc_2int64_at_impl_pairsOf_1.calls xs_5 (w64 (m2 - i_6)) (w64 ((w64 (m2 + i_7)) - i_6)) i_6 g4c0 w _ E_c (hm.exRowW E_h E_ha) rfl A_o hn_107 A_hs ho_106 E_b (hm.pass (N := [⟨A_o, 51, row encA2I64 xs_5 A_sp⟩, ⟨some E_b, 31, [(.slice E_a g4c0.length E_c)]⟩]) [0, 1] (by kernel_rfl) (by kernel_rfl)) (hm.exApart (N := [⟨A_o, 51, row encA2I64 xs_5 A_sp⟩, ⟨some E_b, 31, [(.slice E_a g4c0.length E_c)]⟩]) E_h E_ha [0, 1] (by kernel_rfl)) (hm.innPass (N := [⟨A_o, 51, row encA2I64 xs_5 A_sp⟩, ⟨some E_b, 31, [(.slice E_a g4c0.length E_c)]⟩]) E_i [0, 1] (by kernel_rfl)) ht_125) ?_)
      rintro w v w' hm ⟨hn_126, ho_127, rfl, hm'⟩
      refine ⟨_, hm.appW (ps := [(0, ⟨A_o, 51, row encA2I64 t_15 A_sp⟩), (1, ⟨some E_b, 31, [(.slice E_a g4c0.length E_c)]⟩)]) (N := []) hm' (by kernel_rfl) (by kernel_rfl), jkO ?_⟩
      clear hm hm'
      exact qe (jx_then (jc_region (qh [0,0,0,0] (qe (jx_inn (qm ⟨t_15, i_6, (w64 (i_7 - i_6))⟩ ⟨h, hn_126, ho_127⟩ [0, 1]))))))
    ·rintro ⟨xs_10, i_11, i_12⟩ ⟨h, hn_120, ho_119⟩
     replace h : slices_rotateCmpFunc_2int64_at_impl_pairsOf_1.k_13 xs_10 i_11 i_12 = some y_109 := h
     rw [slices_rotateCmpFunc_2int64_at_impl_pairsOf_1.k_13] at h
     exact qb (xs_10, i_11, i_12) () h ⟨hn_120, ho_119⟩ [0, 1]
   ·refine jc_exit (jx_thenx (jx_leave (xs_5, i_6) (Option.some.inj h).symm (fun e_128 => ?_)))
    subst e_128
    exact jx_ine (qm ⟨xs_5, i_6⟩ ⟨hr_108, hn_107, ho_106⟩ [0, 1])
  ·rintro ⟨xs_1, i_2⟩ ⟨h, hn_64, ho_63⟩
   replace h : slices_rotateCmpFunc_2int64_at_impl_pairsOf_1.k_3 m2 g4c0 xs_1 i_2 = some r := h
   rw [slices_rotateCmpFunc_2int64_at_impl_pairsOf_1.k_3] at h
   refine jx_then (jc_region (qh [0,0,0,0,0,0,0] ?_))
   obtain ⟨t_4, ht_65, h⟩ := bd h
   refine tO (pc 0 (fun w hm => slices_swapRangeCmpFunc_2int64_at_impl_pairsOf_1.calls xs_1 (w64 (m2 - i_2)) m2 i_2 g4c0 w _ E_c (hm.exRowW E_h E_ha) rfl A_o hn_64 A_hs ho_63 E_b (hm.pass (N := [⟨A_o, 51, row encA2I64 xs_1 A_sp⟩, ⟨some E_b, 31, [(.slice E_a g4c0.length E_c)]⟩]) [0, 1] (by kernel_rfl) (by kernel_rfl)) (hm.exApart (N := [⟨A_o, 51, row encA2I64 xs_1 A_sp⟩, ⟨some E_b, 31, [(.slice E_a g4c0.length E_c)]⟩]) E_h E_ha [0, 1] (by kernel_rfl)) (hm.innPass (N := [⟨A_o, 51, row encA2I64 xs_1 A_sp⟩, ⟨some E_b, 31, [(.slice E_a g4c0.length E_c)]⟩]) E_i [0, 1] (by kernel_rfl)) ht_65) ?_)
   rintro w v w' hm ⟨hn_66, ho_67, rfl, hm'⟩
   refine ⟨_, hm.appW (ps := [(0, ⟨A_o, 51, row encA2I64 t_4 A_sp⟩), (1, ⟨some E_b, 31, [(.slice E_a g4c0.length E_c)]⟩)]) (N := []) hm' (by kernel_rfl) (by kernel_rfl), jkO ?_⟩
   clear hm hm'
   refine qe (jx_fall ?_)
   obtain rfl := Option.some.inj h
   exact qr [] (fun w hm => ⟨hn_66, ho_67, rfl, hm.pk [0, 1]⟩)
/-! ### slices.symMergeCmpFunc[[2]int64] -/
def slices_symMergeCmpFunc_2int64_at_impl_pairsOf_1.k_4 (xs_3 : List (Arr 2 Int)) : Option ((List (Arr 2 Int))) := some xs_3
def slices_symMergeCmpFunc_2int64_at_impl_pairsOf_1.l_7 (i_1 : Int) : ((List (Arr 2 Int)) × Int) → Option (((List (Arr 2 Int)) × Int) ⊕ ((List (Arr 2 Int))))
  | (xs_5, i_6) => (if (decide (i_6 < (w64 (i_1 - 1)))) = true then (ix xs_5 (w64 (i_6 + 1))).bind fun x_9 => (ix xs_5 i_6).bind fun x_10 => (ix xs_5 i_6).bind fun x_11 => (ix (xs_5.set i_6.toNat x_9) (w64 (i_6 + 1))).bind fun x_12 => some (.inl (((xs_5.set i_6.toNat x_9).set (w64 (i_6 + 1)).toNat x_10), (w64 (i_6 + 1)))) else some (.inr xs_5))
def slices_symMergeCmpFunc_2int64_at_impl_pairsOf_1.k_2 (data0 : List (Arr 2 Int)) (a1 : Int) (i_1 : Int) : Option ((List (Arr 2 Int))) := (loop (slices_symMergeCmpFunc_2int64_at_impl_pairsOf_1.l_7 i_1) (data0, a1)).bind fun t_8 => slices_symMergeCmpFunc_2int64_at_impl_pairsOf_1.k_4 t_8
def slices_symMergeCmpFunc_2int64_at_impl_pairsOf_1.k_19 (i_17 : Int) (i_18 : Int) : Option ((Int × Int) ⊕ (Int)) := some (.inl (i_17, i_18))
def slices_symMergeCmpFunc_2int64_at_impl_pairsOf_1.l_15 (data0 : List (Arr 2 Int)) (a1 : Int) (g4c0 : List (List Int)) : (Int × Int) → Option ((Int × Int) ⊕ (Int))
  | (i_13, i_14) => (if (decide (i_13 < i_14)) = true then (ix data0 (w64 (bShr .u64 (u64 (w64 (i_13 + i_14))) 1))).bind fun x_20 => (ix data0 a1).bind fun x_21 => (impl_pairsOf_1 x_20 x_21 g4c0).bind fun t_22 => (if (decide (t_22 < 0)) = true then slices_symMergeCmpFunc_2int64_at_impl_pairsOf_1.k_19 (w64 ((w64 (bShr .u64 (u64 (w64 (i_13 + i_14))) 1)) + 1)) i_14 else slices_symMergeCmpFunc_2int64_at_impl_pairsOf_1.k_19 i_13 (w64 (bShr .u64 (u64 (w64 (i_13 + i_14))) 1))) else some (.inr i_13))
def slices_symMergeCmpFunc_2int64_at_impl_pairsOf_1.k_26 (xs_25 : List (Arr 2 Int)) : Option ((List (Arr 2 Int))) := some xs_25
def slices_symMergeCmpFunc_2int64_at_impl_pairsOf_1.l_29 (i_23 : Int) : ((List (Arr 2 Int)) × Int) → Option (((List (Arr 2 Int)) × Int) ⊕ ((List (Arr 2 Int))))
  | (xs_27, i_28) => (if (decide (i_28 > i_23)) = true then (ix xs_27 (w64 (i_28 - 1))).bind fun x_31 => (ix xs_27 i_28).bind fun x_32 => (ix xs_27 i_28).bind fun x_33 => (ix (xs_27.set i_28.toNat x_31) (w64 (i_28 - 1))).bind fun x_34 => some (.inl (((xs_27.set i_28.toNat x_31).set (w64 (i_28 - 1)).toNat x_32), (w64 (i_28 - 1)))) else some (.inr xs_27))
def slices_symMergeCmpFunc_2int64_at_impl_pairsOf_1.k_24 (data0 : List (Arr 2 Int)) (m2 : Int) (i_23 : Int) : Option ((List (Arr 2 Int))) := (loop (slices_symMergeCmpFunc_2int64_at_impl_pairsOf_1.l_29 i_23) (data0, m2)).bind fun t_30 => slices_symMergeCmpFunc_2int64_at_impl_pairsOf_1.k_26 t_30
def slices_symMergeCmpFunc_2int64_at_impl_pairsOf_1.k_41 (i_39 : Int) (i_40 : Int) : Option ((Int × Int) ⊕ (Int)) := some (.inl (i_39, i_40))
def slices_symMergeCmpFunc_2int64_at_impl_pairsOf_1.l_37 (data0 : List (Arr 2 Int)) (m2 : Int) (g4c0 : List (List Int)) : (Int × Int) → Option ((Int × Int) ⊕ (Int))
  | (i_35, i_36) => (if (decide (i_35 < i_36)) = true then (ix data0 m2).bind fun x_42 => (ix data0 (w64 (bShr .u64 (u64 (w64 (i_35 + i_36))) 1))).bind fun x_43 => (impl_pairsOf_1 x_42 x_43 g4c0).bind fun t_44 => (if (!(decide (t_44 < 0))) = true then slices_symMergeCmpFunc_2int64_at_impl_pairsOf_1.k_41 (w64 ((w64 (bShr .u64 (u64 (w64 (i_35 + i_36))) 1)) + 1)) i_36 else slices_symMergeCmpFunc_2int64_at_impl_pairsOf_1.k_41 i_35 (w64 (bShr .u64 (u64 (w64 (i_35 + i_36))) 1))) else some (.inr i_35))
def slices_symMergeCmpFunc_2int64_at_impl_pairsOf_1.k_53 (self_ : (List (Arr 2 Int)) → Int → Int → Int → (List (List Int)) → Option ((List (Arr 2 Int)))) (a1 : Int) (m2 : Int) (b3 : Int) (g4c0 : List (List Int)) (i_48 : Int) (xs_52 : List (Arr 2 Int)) : Option ((List (Arr 2 Int))) := (if ((decide ((w64 (bShr .u64 (u64 (w64 (a1 + b3))) 1)) < (w64 ((w64 ((w64 (bShr .u64 (u64 (w64 (a1 + b3))) 1)) + m2)) - i_48)))) && (decide ((w64 ((w64 ((w64 (bShr .u64 (u64 (w64 (a1 + b3))) 1)) + m2)) - i_48)) < b3))) = true then (self_ xs_52 (w64 (bShr .u64 (u64 (w64 (a1 + b3))) 1)) (w64 ((w64 ((w64 (bShr .u64 (u64 (w64 (a1 + b3))) 1)) + m2)) - i_48)) b3 g4c0).bind fun t_54 => some t_54 else some xs_52)
def slices_symMergeCmpFunc_2int64_at_impl_pairsOf_1.k_51 (self_ : (List (Arr 2 Int)) → Int → Int → Int → (List (List Int)) → Option ((List (Arr 2 Int)))) (a1 : Int) (m2 : Int) (b3 : Int) (g4c0 : List (List Int)) (i_48 : Int) (xs_50 : List (Arr 2 Int)) : Option ((List (Arr 2 Int))) := (if ((decide (a1 < i_48)) && (decide (i_48 < (w64 (bShr .u64 (u64 (w64 (a1 + b3))) 1))))) = true then (self_ xs_50 a1 i_48 (w64 (bShr .u64 (u64 (w64 (a1 + b3))) 1)) g4c0).bind fun t_55 => slices_symMergeCmpFunc_2int64_at_impl_pairsOf_1.k_53 self_ a1 m2 b3 g4c0 i_48 t_55 else slices_symMergeCmpFunc_2int64_at_impl_pairsOf_1.k_53 self_ a1 m2 b3 g4c0 i_48 xs_50)
def slices_symMergeCmpFunc_2int64_at_impl_pairsOf_1.k_49 (self_ : (List (Arr 2 Int)) → Int → Int → Int → (List (List Int)) → Option ((List (Arr 2 Int)))) (data0 : List (Arr 2 Int)) (a1 : Int) (m2 : Int) (b3 : Int) (g4c0 : List (List Int)) (i_48 : Int) : Option ((List (Arr 2 Int))) := (if ((decide (i_48 < m2)) && (decide (m2 < (w64 ((w64 ((w64 (bShr .u64 (u64 (w64 (a1 + b3))) 1)) + m2)) - i_48))))) = true then (slices_rotateCmpFunc_2int64_at_impl_pairsOf_1 data0 i_48 m2 (w64 ((w64 ((w64 (bShr .u64 (u64 (w64 (a1 + b3))) 1)) + m2)) - i_48)) g4c0).bind fun t_56 => slices_symMergeCmpFunc_2int64_at_impl_pairsOf_1.k_51 self_ a1 m2 b3 g4c0 i_48 t_56 else slices_symMergeCmpFunc_2int64_at_impl_pairsOf_1.k_51 self_ a1 m2 b3 g4c0 i_48 data0)
def slices_symMergeCmpFunc_2int64_at_impl_pairsOf_1.k_63 (i_61 : Int) (i_62 : Int) : Option ((Int × Int) ⊕ (Int)) := some (.inl (i_61, i_62))
def slices_symMergeCmpFunc_2int64_at_impl_pairsOf_1.l_59 (data0 : List (Arr 2 Int)) (a1 : Int) (m2 : Int) (b3 : Int) (g4c0 : List (List Int)) : (Int × Int) → Option ((Int × Int) ⊕ (Int))
  | (i_57, i_58) => (if (decide (i_57 < i_58)) = true then (ix data0 (w64 ((w64 ((w64 ((w64 (bShr .u64 (u64 (w64 (a1 + b3))) 1)) + m2)) - 1)) - (w64 (bShr .u64 (u64 (w64 (i_57 + i_58))) 1))))).bind fun x_64 => (ix data0 (w64 (bShr .u64 (u64 (w64 (i_57 + i_58))) 1))).bind fun x_65 => (impl_pairsOf_1 x_64 x_65 g4c0).bind fun t_66 => (if (!(decide (t_66 < 0))) = true then slices_symMergeCmpFunc_2int64_at_impl_pairsOf_1.k_63 (w64 ((w64 (bShr .u64 (u64 (w64 (i_57 + i_58))) 1)) + 1)) i_58 else slices_symMergeCmpFunc_2int64_at_impl_pairsOf_1.k_63 i_57 (w64 (bShr .u64 (u64 (w64 (i_57 + i_58))) 1))) else some (.inr i_57))
def slices_symMergeCmpFunc_2int64_at_impl_pairsOf_1.k_47 (self_ : (List (Arr 2 Int)) → Int → Int → Int → (List (List Int)) → Option ((List (Arr 2 Int)))) (data0 : List (Arr 2 Int)) (a1 : Int) (m2 : Int) (b3 : Int) (g4c0 : List (List Int)) (i_45 : Int) (i_46 : Int) : Option ((List (Arr 2 Int))) := (loop (slices_symMergeCmpFunc_2int64_at_impl_pairsOf_1.l_59 data0 a1 m2 b3 g4c0) (i_45, i_46)).bind fun t_60 => slices_symMergeCmpFunc_2int64_at_impl_pairsOf_1.k_49 self_ data0 a1 m2 b3 g4c0 t_60
def slices_symMergeCmpFunc_2int64_at_impl_pairsOf_1.step (self_ : (List (Arr 2 Int)) → Int → Int → Int → (List (List Int)) → Option ((List (Arr 2 Int)))) (data0 : List (Arr 2 Int)) (a1 : Int) (m2 : Int) (b3 : Int) (g4c0 : List (List Int)) : Option ((List (Arr 2 Int))) := (if ((w64 (m2 - a1)) == 1) = true then (loop (slices_symMergeCmpFunc_2int64_at_impl_pairsOf_1.l_15 data0 a1 g4c0) (m2, b3)).bind fun t_16 => slices_symMergeCmpFunc_2int64_at_impl_pairsOf_1.k_2 data0 a1 t_16 else (if ((w64 (b3 - m2)) == 1) = true then (loop (slices_symMergeCmpFunc_2int64_at_impl_pairsOf_1.l_37 data0 m2 g4c0) (a1, m2)).bind fun t_38 => slices_symMergeCmpFunc_2int64_at_impl_pairsOf_1.k_24 data0 m2 t_38 else (if (decide (m2 > (w64 (bShr .u64 (u64 (w64 (a1 + b3))) 1)))) = true then slices_symMergeCmpFunc_2int64_at_impl_pairsOf_1.k_47 self_ data0 a1 m2 b3 g4c0 (w64 ((w64 ((w64 (bShr .u64 (u64 (w64 (a1 + b3))) 1)) + m2)) - b3)) (w64 (bShr .u64 (u64 (w64 (a1 + b3))) 1)) else slices_symMergeCmpFunc_2int64_at_impl_pairsOf_1.k_47 self_ data0 a1 m2 b3 g4c0 a1 m2)))
def slices_symMergeCmpFunc_2int64_at_impl_pairsOf_1.rec_ : Nat → (List (Arr 2 Int)) → Int → Int → Int → (List (List Int)) → Option ((List (Arr 2 Int)))
  | 0 => fun data0 a1 m2 b3 g4c0 => none
  | fu + 1 => slices_symMergeCmpFunc_2int64_at_impl_pairsOf_1.step (slices_symMergeCmpFunc_2int64_at_impl_pairsOf_1.rec_ fu)
def slices_symMergeCmpFunc_2int64_at_impl_pairsOf_1 (data0 : List (Arr 2 Int)) (a1 : Int) (m2 : Int) (b3 : Int) (g4c0 : List (List Int)) : Option ((List (Arr 2 Int))) := slices_symMergeCmpFunc_2int64_at_impl_pairsOf_1.rec_ 200 data0 a1 m2 b3 g4c0
set_option maxHeartbeats 8000000 in
theorem slices_symMergeCmpFunc_2int64_at_impl_pairsOf_1.step_calls (self_ : (List (Arr 2 Int)) → Int → Int → Int → (List (List Int)) → Option ((List (Arr 2 Int)))) (hself : ∀ (data0 : List (Arr 2 Int)) (a1 : Int) (m2 : Int) (b3 : Int) (g4c0 : List (List Int)) (w : World) (r : (List (Arr 2 Int))) {E_a : Option Addr} {E_an : Nat} (E_c : Nat) {E_hs : List Hd} (E_h : Rw w E_a 1 encHd E_hs) (E_hn : g4c0.length = E_an) (A_o : Option Nat) {A_on : Nat} {A_c : Nat} {A_sp : List Value} (A_hn : data0.length = A_on) (A_hs : A_o ≠ none → A_on ≤ A_c ∧ A_sp.length = (A_c - A_on) * 2) (A_ho : A_o = none → data0 = [] ∧ A_c = 0) (E_b : Nat) (hm0 : Mem w (bs [A_o, some E_b]) [⟨A_o, 51, row encA2I64 data0 A_sp⟩, ⟨some E_b, 31, [(.slice E_a E_an E_c)]⟩] w) (E_ha : E_hs ≠ [] → aB E_a ∉ bs [A_o, some E_b]) (E_i : Inn w (bs [A_o, some E_b]) 1 encI64 E_hs g4c0) (h : self_ data0 a1 m2 b3 g4c0 = some r),
    Calls Try.prog 96 #[(.slice (A_o.map fun b => ⟨b, 0, none⟩) A_on A_c), (.int .i64 a1), (.int .i64 m2), (.int .i64 b3), (.func (.func 72) #[] #[(.pointer (some ⟨E_b, 0, none⟩))])] w fun e w' => ∃ v, e = .returned v ∧ (r.length = A_on ∧ (A_o = none → r = [] ∧ A_c = 0) ∧ v = .tuple #[] ∧ Mem w (bs [A_o, some E_b]) [⟨A_o, 51, row encA2I64 r A_sp⟩, ⟨some E_b, 31, [(.slice E_a E_an E_c)]⟩] w')) (data0 : List (Arr 2 Int)) (a1 : Int) (m2 : Int) (b3 : Int) (g4c0 : List (List Int)) (w : World) (r : (List (Arr 2 Int))) {E_a : Option Addr} {E_an : Nat} (E_c : Nat) {E_hs : List Hd} (E_h : Rw w E_a 1 encHd E_hs) (E_hn : g4c0.length = E_an) (A_o : Option Nat) {A_on : Nat} {A_c : Nat} {A_sp : List Value} (A_hn : data0.length = A_on) (A_hs : A_o ≠ none → A_on ≤ A_c ∧ A_sp.length = (A_c - A_on) * 2) (A_ho : A_o = none → data0 = [] ∧ A_c = 0) (E_b : Nat) (hm0 : Mem w (bs [A_o, some E_b]) [⟨A_o, 51, row encA2I64 data0 A_sp⟩, ⟨some E_b, 31, [(.slice E_a E_an E_c)]⟩] w) (E_ha : E_hs ≠ [] → aB E_a ∉ bs [A_o, some E_b]) (E_i : Inn w (bs [A_o, some E_b]) 1 encI64 E_hs g4c0) (h : slices_symMergeCmpFunc_2int64_at_impl_pairsOf_1.step self_ data0 a1 m2 b3 g4c0 = some r) :
    Calls Try.prog 96 #[(.slice (A_o.map fun b => ⟨b, 0, none⟩) A_on A_c), (.int .i64 a1), (.int .i64 m2), (.int .i64 b3), (.func (.func 72) #[] #[(.pointer (some ⟨E_b, 0, none⟩))])] w fun e w' => ∃ v, e = .returned v ∧ (r.length = A_on ∧ (A_o = none → r = [] ∧ A_c = 0) ∧ v = .tuple #[] ∧ Mem w (bs [A_o, some E_b]) [⟨A_o, 51, row encA2I64 r A_sp⟩, ⟨some E_b, 31, [(.slice E_a E_an E_c)]⟩] w') := by
  subst E_hn A_hn
  rw [slices_symMergeCmpFunc_2int64_at_impl_pairsOf_1.step] at h
  refine enter (args := [(.slice (A_o.map fun b => ⟨b, 0, none⟩) data0.length A_c), (.int .i64 a1), (.int .i64 m2), (.int .i64 b3), (.func (.func 72) #[] #[(.pointer (some ⟨E_b, 0, none⟩))])]) Try.func96 rfl Try.ntmps96 (by kernel_rfl) (L := [⟨A_o, 51, row encA2I64 data0 A_sp⟩, ⟨some E_b, 31, [(.slice E_a g4c0.length E_c)]⟩]) (W := bs [A_o, some E_b]) hm0 ?_
  refine jc_seq (jc_seq (jc_region (qh [0,0,0,0] (qe (jx_then (qi h (fun h => ?_) (fun h => ?_)))))))
  ·refine jc_seq (jc_region (qh [0,0] (qe (jx_then (jc_seq (jc_region (qh [0,0] (qe (jx_then (jc_seq (jc_meet (fun (j : Int) => match j with | i_1 => slices_symMergeCmpFunc_2int64_at_impl_pairsOf_1.k_2 data0 a1 i_1 = some r) (fun (j : Int) => match j with | i_1 => [(0, [], (.slice (A_o.map fun b => ⟨b, 0, none⟩) data0.length A_c)), (1, [], (.int .i64 a1)), (2, [], (.int .i64 m2)), (3, [], (.int .i64 b3)), (4, [], (.func (.func 72) #[] #[(.pointer (some ⟨E_b, 0, none⟩))])), (10, [], (.int .i64 i_1))]) (fun (j : Int) => match j with | i_1 => [⟨A_o, 51, row encA2I64 data0 A_sp⟩, ⟨some E_b, 31, [(.slice E_a g4c0.length E_c)]⟩]) ?_ ?_)))))))))))
   ·refine jc_block ?_
    obtain ⟨t_16, ht_306, hr_293⟩ := bd h
    refine jc_loop (fun (s : Int × Int) (x : Unit) => match s, x with | ⟨i_13, i_14⟩, _ => True) (fun (s : Int × Int) (x : Unit) => match s, x with | ⟨i_13, i_14⟩, _ => [(0, [], (.slice (A_o.map fun b => ⟨b, 0, none⟩) data0.length A_c)), (1, [], (.int .i64 a1)), (2, [], (.int .i64 m2)), (3, [], (.int .i64 b3)), (4, [], (.func (.func 72) #[] #[(.pointer (some ⟨E_b, 0, none⟩))])), (10, [], (.int .i64 i_13)), (11, [], (.int .i64 i_14))]) (fun (s : Int × Int) (x : Unit) => match s, x with | ⟨i_13, i_14⟩, _ => [⟨A_o, 51, row encA2I64 data0 A_sp⟩, ⟨some E_b, 31, [(.slice E_a g4c0.length E_c)]⟩]) ht_306 () trivial (by kernel_rfl) [0, 1] (by kernel_rfl) (by kernel_rfl) ?_
    rintro ⟨i_13, i_14⟩ _ y_294 _ h
    rw [slices_symMergeCmpFunc_2int64_at_impl_pairsOf_1.l_15] at h
    refine jc_seq (jc_seq (jc_region (qh [0,0,0] (qe (jx_then (qi h (fun h => ?_) (fun h => ?_)))))))
    ·refine jc_skip (jx_then (jc_meet (fun (j : Int × Int) => match j with | ⟨i_17, i_18⟩ => slices_symMergeCmpFunc_2int64_at_impl_pairsOf_1.k_19 i_17 i_18 = some y_294) (fun (j : Int × Int) => match j with | ⟨i_17, i_18⟩ => [(0, [], (.slice (A_o.map fun b => ⟨b, 0, none⟩) data0.length A_c)), (1, [], (.int .i64 a1)), (2, [], (.int .i64 m2)), (3, [], (.int .i64 b3)), (4, [], (.func (.func 72) #[] #[(.pointer (some ⟨E_b, 0, none⟩))])), (10, [], (.int .i64 i_17)), (11, [], (.int .i64 i_18))]) (fun (j : Int × Int) => match j with | ⟨i_17, i_18⟩ => [⟨A_o, 51, row encA2I64 data0 A_sp⟩, ⟨some E_b, 31, [(.slice E_a g4c0.length E_c)]⟩]) ?_ ?_))
     ·refine jc_block (jc_seq (jc_region (qh [0,0,0,0,0,0,0] (qe (jx_then (jc_seq (qg [⟨A_o, 51, row encA2I64 data0 A_sp⟩, ⟨some E_b, 31, [(.slice E_a g4c0.length E_c)]⟩] 11 (qd [⟨0, 0, 0⟩,⟨1, 0, 0⟩,⟨2, 0, 0⟩,⟨5, 0, 0⟩,⟨6, 0, 0⟩] 6 [0, 1] ?_))))))))
      obtain ⟨x_20, hx_301, h⟩ := bd h
      refine qv 3 0 [0, 1] (fun w hm => idx_run (a := (A_o.map fun b => ⟨b, 0, none⟩)) (len := data0.length) (s := 2) (j := (w64 (bShr .u64 (u64 (w64 (i_13 + i_14))) 1))) (by kernel_rfl) (ix_some hx_301).1 (ltn hx_301 rfl) (spo A_ho hx_301)) (qv 4 0 [0, 1] (fun w hm => ld_run (b := aB (A_o.map fun b => ⟨b, 0, none⟩)) (off := (aO (A_o.map fun b => ⟨b, 0, none⟩) + (w64 (bShr .u64 (u64 (w64 (i_13 + i_14))) 1)).toNat * 2)) (s := 2) (agg := true) (vs := (encA2I64 x_20)) (by kernel_rfl) (encA2I64_len x_20) (.inl rfl) ((hm.ow 0 A_o 51 data0 A_sp (fun e => (A_ho e).1) encA2I64_len).at hx_301)) ?_)
      obtain ⟨x_21, hx_302, h⟩ := bd h
      refine qv 7 0 [0, 1] (fun w hm => idx_run (a := (A_o.map fun b => ⟨b, 0, none⟩)) (len := data0.length) (s := 2) (j := a1) (by kernel_rfl) (ix_some hx_302).1 (ltn hx_302 rfl) (spo A_ho hx_302)) (qv 8 0 [0, 1] (fun w hm => ld_run (b := aB (A_o.map fun b => ⟨b, 0, none⟩)) (off := (aO (A_o.map fun b => ⟨b, 0, none⟩) + a1.toNat * 2)) (s := 2) (agg := true) (vs := (encA2I64 x_21)) (by kernel_rfl) (encA2I64_len x_21) (.inl rfl) ((hm.ow 0 A_o 51 data0 A_sp (fun e => (A_ho e).1) encA2I64_len).at hx_302)) ?_)
      obtain ⟨t_22, ht_303, h⟩ := bd h
      refine tD 9 (pc 0 (fun w hm => impl_pairsOf_1.calls x_20 x_21 g4c0 w _ E_c (hm.exRowW E_h E_ha) rfl E_b (hm.pass (N := [⟨some E_b, 31, [(.slice E_a g4c0.length E_c)]⟩]) [1] (by kernel_rfl) (by kernel_rfl)) (hm.exApart (N := [⟨some E_b, 31, [(.slice E_a g4c0.length E_c)]⟩]) E_h E_ha [1] (by kernel_rfl)) (hm.innPass (N := [⟨some E_b, 31, [(.slice E_a g4c0.length E_c)]⟩]) E_i [1] (by kernel_rfl)) ht_303) ?_)
      rintro w v w' hm ⟨rfl, hm'⟩
      refine ⟨_, hm.appW (ps := [(1, ⟨some E_b, 31, [(.slice E_a g4c0.length E_c)]⟩)]) (N := []) hm' (by kernel_rfl) (by kernel_rfl), kD [0, 1] ?_⟩
      clear hm hm'
      refine qd [⟨10, 0, 0⟩] 0 [0, 1] (qz (jx_then (qi h (fun h => ?_) (fun h => ?_))))
      ·exact jc_region (qh [0,0,0] (qe (jx_inn (qm ⟨(w64 ((w64 (bShr .u64 (u64 (w64 (i_13 + i_14))) 1)) + 1)), i_14⟩ h [0, 1]))))
      ·exact jc_region (qh [0,0] (qe (jx_inn (qm ⟨i_13, (w64 (bShr .u64 (u64 (w64 (i_13 + i_14))) 1))⟩ h [0, 1]))))
     ·rintro ⟨i_17, i_18⟩ h
      replace h : slices_symMergeCmpFunc_2int64_at_impl_pairsOf_1.k_19 i_17 i_18 = some y_294 := h
      rw [slices_symMergeCmpFunc_2int64_at_impl_pairsOf_1.k_19] at h
      exact qb (i_17, i_18) () h trivial [0, 1]
    ·refine jc_exit (jx_thenx (jx_leave i_13 (Option.some.inj h).symm (fun e_305 => ?_)))
     subst e_305
     exact jx_ine (qm i_13 hr_293 [0, 1])
   ·rintro i_1 h
    replace h : slices_symMergeCmpFunc_2int64_at_impl_pairsOf_1.k_2 data0 a1 i_1 = some r := h
    rw [slices_symMergeCmpFunc_2int64_at_impl_pairsOf_1.k_2] at h
    refine jx_then (jc_seq (jc_seq (jc_region (qh [0,0] (qe (jx_then (jc_meet (fun (j : (List (Arr 2 Int))) => match j with | xs_3 => slices_symMergeCmpFunc_2int64_at_impl_pairsOf_1.k_4 xs_3 = some r ∧ (xs_3.length = data0.length) ∧ ((A_o = none → xs_3 = [] ∧ A_c = 0))) (fun (j : (List (Arr 2 Int))) => match j with | xs_3 => [(0, [], (.slice (A_o.map fun b => ⟨b, 0, none⟩) data0.length A_c)), (1, [], (.int .i64 a1)), (2, [], (.int .i64 m2)), (3, [], (.int .i64 b3)), (4, [], (.func (.func 72) #[] #[(.pointer (some ⟨E_b, 0, none⟩))]))]) (fun (j : (List (Arr 2 Int))) => match j with | xs_3 => [⟨A_o, 51, row encA2I64 xs_3 A_sp⟩, ⟨some E_b, 31, [(.slice E_a g4c0.length E_c)]⟩]) ?_ ?_)))))))
    ·refine jc_block ?_
     obtain ⟨t_8, ht_272, hr_258⟩ := bd h
     refine jc_loop (fun (s : (List (Arr 2 Int)) × Int) (x : Unit) => match s, x with | ⟨xs_5, i_6⟩, _ => (xs_5.length = data0.length) ∧ ((A_o = none → xs_5 = [] ∧ A_c = 0))) (fun (s : (List (Arr 2 Int)) × Int) (x : Unit) => match s, x with | ⟨xs_5, i_6⟩, _ => [(0, [], (.slice (A_o.map fun b => ⟨b, 0, none⟩) data0.length A_c)), (1, [], (.int .i64 a1)), (2, [], (.int .i64 m2)), (3, [], (.int .i64 b3)), (4, [], (.func (.func 72) #[] #[(.pointer (some ⟨E_b, 0, none⟩))])), (10, [], (.int .i64 i_1)), (13, [], (.int .i64 i_6))]) (fun (s : (List (Arr 2 Int)) × Int) (x : Unit) => match s, x with | ⟨xs_5, i_6⟩, _ => [⟨A_o, 51, row encA2I64 xs_5 A_sp⟩, ⟨some E_b, 31, [(.slice E_a g4c0.length E_c)]⟩]) ht_272 () ⟨rfl, A_ho⟩ (by kernel_rfl) [0, 1] (by kernel_rfl) (by kernel_rfl) ?_
     rintro ⟨xs_5, i_6⟩ _ y_259 ⟨hn_257, ho_256⟩ h
     rw [slices_symMergeCmpFunc_2int64_at_impl_pairsOf_1.l_7] at h
     refine jc_seq (jc_seq (jc_region (qh [0,0,0,0] (qe (jx_then (qi h (fun h => ?_) (fun h => ?_)))))))
     ·refine jc_skip (jx_then (jc_seq (jc_block (qg [⟨some E_b, 31, [(.slice E_a g4c0.length E_c)]⟩] 18 (qd [⟨0, 0, 0⟩,⟨1, 0, 0⟩,⟨2, 0, 0⟩,⟨3, 0, 0⟩,⟨4, 0, 0⟩,⟨5, 0, 0⟩,⟨6, 0, 0⟩,⟨7, 0, 0⟩,⟨10, 0, 0⟩,⟨11, 0, 0⟩] 8 [1] ?_)))))
      obtain ⟨x_9, hx_265, h⟩ := bd h
      refine qv 8 0 [1] (fun w hm => idx_run (a := (A_o.map fun b => ⟨b, 0, none⟩)) (len := data0.length) (s := 2) (j := (w64 (i_6 + 1))) (by kernel_rfl) (ix_some hx_265).1 (ltn hx_265 hn_257) (spo ho_256 hx_265)) ?_
      obtain ⟨x_10, hx_266, h⟩ := bd h
      refine qv 12 0 [1] (fun w hm => idx_run (a := (A_o.map fun b => ⟨b, 0, none⟩)) (len := data0.length) (s := 2) (j := i_6) (by kernel_rfl) (ix_some hx_266).1 (ltn hx_266 hn_257) (spo ho_256 hx_266)) (toD2 9 13 (by kernel_rfl) ?_ ?_)
      ·refine p_ldx 0 (aB (A_o.map fun b => ⟨b, 0, none⟩)) (aO (A_o.map fun b => ⟨b, 0, none⟩) + (w64 (i_6 + 1)).toNat * 2) (encA2I64 x_9) 2 (by kernel_rfl) (by kernel_rfl) (encA2I64_len x_9) (fun w hm => ((hm.ow 0 A_o 51 xs_5 A_sp (fun e => (ho_256 e).1) encA2I64_len).at hx_265)) (kD [1] (tD 13 (p_ldx 0 (aB (A_o.map fun b => ⟨b, 0, none⟩)) (aO (A_o.map fun b => ⟨b, 0, none⟩) + i_6.toNat * 2) (encA2I64 x_10) 2 (by kernel_rfl) (by kernel_rfl) (encA2I64_len x_10) (fun w hm => ((hm.ow 0 A_o 51 xs_5 A_sp (fun e => (ho_256 e).1) encA2I64_len).at hx_266)) (kD [1] ?_))))
       obtain ⟨x_11, hx_267, h⟩ := bd h
       refine qv 14 0 [1] (fun w hm => idx_run (a := (A_o.map fun b => ⟨b, 0, none⟩)) (len := data0.length) (s := 2) (j := i_6) (by kernel_rfl) (ix_some hx_267).1 (ltn hx_267 hn_257) (spo ho_256 hx_267)) (tD 15 (p_strWO 0 0 A_o 51 encA2I64 xs_5 A_sp i_6 x_9 2 (by kernel_rfl) (by kernel_rfl) (by kernel_rfl) (fun e => (ho_256 e).1) encA2I64_len encA2I64_cell hx_267 (kD [1] ?_)))
       obtain ⟨x_12, hx_268, h⟩ := bd h
       exact qv 16 0 [1] (fun w hm => idx_run (a := (A_o.map fun b => ⟨b, 0, none⟩)) (len := data0.length) (s := 2) (j := (w64 (i_6 + 1))) (by kernel_rfl) (ix_some hx_268).1 (ltn hx_268 (List.length_set.trans hn_257)) (spo (set_ho ho_256) hx_268)) (tD 17 (p_strWO 0 0 A_o 51 encA2I64 (xs_5.set i_6.toNat x_9) A_sp (w64 (i_6 + 1)) x_10 2 (by kernel_rfl) (by kernel_rfl) (by kernel_rfl) (fun e => ((set_ho ho_256) e).1) encA2I64_len encA2I64_cell hx_268 (kD [1] (qz (jx_inn (jx_then (jc_region (qh [0,0,0] (qe (qb (((xs_5.set i_6.toNat x_9).set (w64 (i_6 + 1)).toNat x_10), (w64 (i_6 + 1))) () h ⟨(List.length_set.trans (List.length_set.trans hn_257)), (set_ho (set_ho ho_256))⟩ [0, 1]))))))))))
      ·refine p_ldx 0 (aB (A_o.map fun b => ⟨b, 0, none⟩)) (aO (A_o.map fun b => ⟨b, 0, none⟩) + i_6.toNat * 2) (encA2I64 x_10) 2 (by kernel_rfl) (by kernel_rfl) (encA2I64_len x_10) (fun w hm => ((hm.ow 0 A_o 51 xs_5 A_sp (fun e => (ho_256 e).1) encA2I64_len).at hx_266)) (kD [1] (tD 9 (p_ldx 0 (aB (A_o.map fun b => ⟨b, 0, none⟩)) (aO (A_o.map fun b => ⟨b, 0, none⟩) + (w64 (i_6 + 1)).toNat * 2) (encA2I64 x_9) 2 (by kernel_rfl) (by kernel_rfl) (encA2I64_len x_9) (fun w hm => ((hm.ow 0 A_o 51 xs_5 A_sp (fun e => (ho_256 e).1) encA2I64_len).at hx_265)) (kD [1] ?_))))
       obtain ⟨x_11, hx_269, h⟩ := bd h
       refine qv 14 0 [1] (fun w hm => idx_run (a := (A_o.map fun b => ⟨b, 0, none⟩)) (len := data0.length) (s := 2) (j := i_6) (by kernel_rfl) (ix_some hx_269).1 (ltn hx_269 hn_257) (spo ho_256 hx_269)) (tD 15 (p_strWO 0 0 A_o 51 encA2I64 xs_5 A_sp i_6 x_9 2 (by kernel_rfl) (by kernel_rfl) (by kernel_rfl) (fun e => (ho_256 e).1) encA2I64_len encA2I64_cell hx_269 (kD [1] ?_)))
       obtain ⟨x_12, hx_270, h⟩ := bd h
       exact qv 16 0 [1] (fun w hm => idx_run (a := (A_o.map fun b => ⟨b, 0, none⟩)) (len := data0.length) (s := 2) (j := (w64 (i_6 + 1))) (by kernel_rfl) (ix_some hx_270).1 (ltn hx_270 (List.length_set.trans hn_257)) (spo (set_ho ho_256) hx_270)) (tD 17 (p_strWO 0 0 A_o 51 encA2I64 (xs_5.set i_6.toNat x_9) A_sp (w64 (i_6 + 1)) x_10 2 (by kernel_rfl) (by kernel_rfl) (by kernel_rfl) (fun e => ((set_ho ho_256) e).1) encA2I64_len encA2I64_cell hx_270 (kD [1] (qz (jx_inn (jx_then (jc_region (qh [0,0,0] (qe (qb (((xs_5.set i_6.toNat x_9).set (w64 (i_6 + 1)).toNat x_10), (w64 (i_6 + 1))) () h ⟨(List.length_set.trans (List.length_set.trans hn_257)), (set_ho (set_ho ho_256))⟩ [0, 1]))))))))))
     ·refine jc_exit (jx_thenx (jx_leave xs_5 (Option.some.inj h).symm (fun e_271 => ?_)))
      subst e_271
      exact jx_ine (qm xs_5 ⟨hr_258, hn_257, ho_256⟩ [0, 1])
    ·rintro xs_3 ⟨h, hn_231, ho_230⟩
     replace h : slices_symMergeCmpFunc_2int64_at_impl_pairsOf_1.k_4 xs_3 = some r := h
     rw [slices_symMergeCmpFunc_2int64_at_impl_pairsOf_1.k_4] at h
     refine jx_then (jc_ret (jx_thenr ?_))
     obtain rfl := Option.some.inj h
     exact qr [] (fun w hm => ⟨hn_231, ho_230, rfl, hm.pk [0, 1]⟩)
  ·refine jc_skip (jx_then (jc_seq (jc_seq (jc_region (qh [0,0,0,0] (qe (jx_then (qi h (fun h => ?_) (fun h => ?_)))))))))
   ·refine jc_seq (jc_region (qh [0,0] (qe (jx_then (jc_seq (jc_region (qh [0,0] (qe (jx_then (jc_seq (jc_meet (fun (j : Int) => match j with | i_23 => slices_symMergeCmpFunc_2int64_at_impl_pairsOf_1.k_24 data0 m2 i_23 = some r) (fun (j : Int) => match j with | i_23 => [(0, [], (.slice (A_o.map fun b => ⟨b, 0, none⟩) data0.length A_c)), (1, [], (.int .i64 a1)), (2, [], (.int .i64 m2)), (3, [], (.int .i64 b3)), (4, [], (.func (.func 72) #[] #[(.pointer (some ⟨E_b, 0, none⟩))])), (14, [], (.int .i64 i_23))]) (fun (j : Int) => match j with | i_23 => [⟨A_o, 51, row encA2I64 data0 A_sp⟩, ⟨some E_b, 31, [(.slice E_a g4c0.length E_c)]⟩]) ?_ ?_)))))))))))
    ·refine jc_block ?_
     obtain ⟨t_38, ht_612, hr_599⟩ := bd h
     refine jc_loop (fun (s : Int × Int) (x : Unit) => match s, x with | ⟨i_35, i_36⟩, _ => True) (fun (s : Int × Int) (x : Unit) => match s, x with | ⟨i_35, i_36⟩, _ => [(0, [], (.slice (A_o.map fun b => ⟨b, 0, none⟩) data0.length A_c)), (1, [], (.int .i64 a1)), (2, [], (.int .i64 m2)), (3, [], (.int .i64 b3)), (4, [], (.func (.func 72) #[] #[(.pointer (some ⟨E_b, 0, none⟩))])), (14, [], (.int .i64 i_35)), (15, [], (.int .i64 i_36))]) (fun (s : Int × Int) (x : Unit) => match s, x with | ⟨i_35, i_36⟩, _ => [⟨A_o, 51, row encA2I64 data0 A_sp⟩, ⟨some E_b, 31, [(.slice E_a g4c0.length E_c)]⟩]) ht_612 () trivial (by kernel_rfl) [0, 1] (by kernel_rfl) (by kernel_rfl) ?_
     rintro ⟨i_35, i_36⟩ _ y_600 _ h
     rw [slices_symMergeCmpFunc_2int64_at_impl_pairsOf_1.l_37] at h
     refine jc_seq (jc_seq (jc_region (qh [0,0,0] (qe (jx_then (qi h (fun h => ?_) (fun h => ?_)))))))
     ·refine jc_skip (jx_then (jc_meet (fun (j : Int × Int) => match j with | ⟨i_39, i_40⟩ => slices_symMergeCmpFunc_2int64_at_impl_pairsOf_1.k_41 i_39 i_40 = some y_600) (fun (j : Int × Int) => match j with | ⟨i_39, i_40⟩ => [(0, [], (.slice (A_o.map fun b => ⟨b, 0, none⟩) data0.length A_c)), (1, [], (.int .i64 a1)), (2, [], (.int .i64 m2)), (3, [], (.int .i64 b3)), (4, [], (.func (.func 72) #[] #[(.pointer (some ⟨E_b, 0, none⟩))])), (14, [], (.int .i64 i_39)), (15, [], (.int .i64 i_40))]) (fun (j : Int × Int) => match j with | ⟨i_39, i_40⟩ => [⟨A_o, 51, row encA2I64 data0 A_sp⟩, ⟨some E_b, 31, [(.slice E_a g4c0.length E_c)]⟩]) ?_ ?_))
      ·refine jc_block (jc_seq (jc_region (qh [0,0,0,0,0,0,0] (qe (jx_then (jc_seq (qg [⟨A_o, 51, row encA2I64 data0 A_sp⟩, ⟨some E_b, 31, [(.slice E_a g4c0.length E_c)]⟩] 12 (qd [⟨0, 0, 0⟩,⟨1, 0, 0⟩,⟨2, 0, 0⟩,⟨5, 0, 0⟩,⟨6, 0, 0⟩] 7 [0, 1] ?_))))))))
       obtain ⟨x_42, hx_607, h⟩ := bd h
       refine qv 3 0 [0, 1] (fun w hm => idx_run (a := (A_o.map fun b => ⟨b, 0, none⟩)) (len := data0.length) (s := 2) (j := m2) (by kernel_rfl) (ix_some hx_607).1 (ltn hx_607 rfl) (spo A_ho hx_607)) (qv 4 0 [0, 1] (fun w hm => ld_run (b := aB (A_o.map fun b => ⟨b, 0, none⟩)) (off := (aO (A_o.map fun b => ⟨b, 0, none⟩) + m2.toNat * 2)) (s := 2) (agg := true) (vs := (encA2I64 x_42)) (by kernel_rfl) (encA2I64_len x_42) (.inl rfl) ((hm.ow 0 A_o 51 data0 A_sp (fun e => (A_ho e).1) encA2I64_len).at hx_607)) ?_)
       obtain ⟨x_43, hx_608, h⟩ := bd h
       refine qv 7 0 [0, 1] (fun w hm => idx_run (a := (A_o.map fun b => ⟨b, 0, none⟩)) (len := data0.length) (s := 2) (j := (w64 (bShr .u64 (u64 (w64 (i_35 + i_36))) 1))) (by kernel_rfl) (ix_some hx_608).1 (ltn hx_608 rfl) (spo A_ho hx_608)) (qv 8 0 [0, 1] (fun w hm => ld_run (b := aB (A_o.map fun b => ⟨b, 0, none⟩)) (off := (aO (A_o.map fun b => ⟨b, 0, none⟩) + (w64 (bShr .u64 (u64 (w64 (i_35 + i_36))) 1)).toNat * 2)) (s := 2) (agg := true) (vs := (encA2I64 x_43)) (by kernel_rfl) (encA2I64_len x_43) (.inl rfl) ((hm.ow 0 A_o 51 data0 A_sp (fun e => (A_ho e).1) encA2I64_len).at hx_608)) ?_)
       obtain ⟨t_44, ht_609, h⟩ := bd h
       refine tD 9 (pc 0 (fun w hm => impl_pairsOf_1.calls x_42 x_43 g4c0 w _ E_c (hm.exRowW E_h E_ha) rfl E_b (hm.pass (N := [⟨some E_b, 31, [(.slice E_a g4c0.length E_c)]⟩]) [1] (by kernel_rfl) (by kernel_rfl)) (hm.exApart (N := [⟨some E_b, 31, [(.slice E_a g4c0.length E_c)]⟩]) E_h E_ha [1] (by kernel_rfl)) (hm.innPass (N := [⟨some E_b, 31, [(.slice E_a g4c0.length E_c)]⟩]) E_i [1] (by kernel_rfl)) ht_609) ?_)
       rintro w v w' hm ⟨rfl, hm'⟩
       refine ⟨_, hm.appW (ps := [(1, ⟨some E_b, 31, [(.slice E_a g4c0.length E_c)]⟩)]) (N := []) hm' (by kernel_rfl) (by kernel_rfl), kD [0, 1] ?_⟩
       clear hm hm'
       refine qd [⟨10, 0, 0⟩,⟨11, 0, 0⟩] 0 [0, 1] (qz (jx_then (qi h (fun h => ?_) (fun h => ?_))))
       ·exact jc_region (qh [0,0,0] (qe (jx_inn (qm ⟨(w64 ((w64 (bShr .u64 (u64 (w64 (i_35 + i_36))) 1)) + 1)), i_36⟩ h [0, 1]))))
       ·exact jc_region (qh [0,0] (qe (jx_inn (qm ⟨i_35, (w64 (bShr .u64 (u64 (w64 (i_35 + i_36))) 1))⟩ h [0, 1]))))
      ·rintro ⟨i_39, i_40⟩ h
       replace h : slices_symMergeCmpFunc_2int64_at_impl_pairsOf_1.k_41 i_39 i_40 = some y_600 := h
       rw [slices_symMergeCmpFunc_2int64_at_impl_pairsOf_1.k_41] at h
       exact qb (i_39, i_40) () h trivial [0, 1]
     ·refine jc_exit (jx_thenx (jx_leave i_35 (Option.some.inj h).symm (fun e_611 => ?_)))
      subst e_611
      exact jx_ine (qm i_35 hr_599 [0, 1])
    ·rintro i_23 h
     replace h : slices_symMergeCmpFunc_2int64_at_impl_pairsOf_1.k_24 data0 m2 i_23 = some r := h
     rw [slices_symMergeCmpFunc_2int64_at_impl_pairsOf_1.k_24] at h
     refine jx_then (jc_seq (jc_seq (jc_region (qh [0,0] (qe (jx_then (jc_meet (fun (j : (List (Arr 2 Int))) => match j with | xs_25 => slices_symMergeCmpFunc_2int64_at_impl_pairsOf_1.k_26 xs_25 = some r ∧ (xs_25.length = data0.length) ∧ ((A_o = none → xs_25 = [] ∧ A_c = 0))) (fun (j : (List (Arr 2 Int))) => match j with | xs_25 => [(0, [], (.slice (A_o.map fun b => ⟨b, 0, none⟩) data0.length A_c)), (1, [], (.int .i64 a1)), (2, [], (.int .i64 m2)), (3, [], (.int .i64 b3)), (4, [], (.func (.func 72) #[] #[(.pointer (some ⟨E_b, 0, none⟩))]))]) (fun (j : (List (Arr 2 Int))) => match j with | xs_25 => [⟨A_o, 51, row encA2I64 xs_25 A_sp⟩, ⟨some E_b, 31, [(.slice E_a g4c0.length E_c)]⟩]) ?_ ?_)))))))
     ·refine jc_block ?_
      obtain ⟨t_30, ht_578, hr_564⟩ := bd h
      refine jc_loop (fun (s : (List (Arr 2 Int)) × Int) (x : Unit) => match s, x with | ⟨xs_27, i_28⟩, _ => (xs_27.length = data0.length) ∧ ((A_o = none → xs_27 = [] ∧ A_c = 0))) (fun (s : (List (Arr 2 Int)) × Int) (x : Unit) => match s, x with | ⟨xs_27, i_28⟩, _ => [(0, [], (.slice (A_o.map fun b => ⟨b, 0, none⟩) data0.length A_c)), (1, [], (.int .i64 a1)), (2, [], (.int .i64 m2)), (3, [], (.int .i64 b3)), (4, [], (.func (.func 72) #[] #[(.pointer (some ⟨E_b, 0, none⟩))])), (14, [], (.int .i64 i_23)), (17, [], (.int .i64 i_28))]) (fun (s : (List (Arr 2 Int)) × Int) (x : Unit) => match s, x with | ⟨xs_27, i_28⟩, _ => [⟨A_o, 51, row encA2I64 xs_27 A_sp⟩, ⟨some E_b, 31, [(.slice E_a g4c0.length E_c)]⟩]) ht_578 () ⟨rfl, A_ho⟩ (by kernel_rfl) [0, 1] (by kernel_rfl) (by kernel_rfl) ?_
      rintro ⟨xs_27, i_28⟩ _ y_565 ⟨hn_563, ho_562⟩ h
      rw [slices_symMergeCmpFunc_2int64_at_impl_pairsOf_1.l_29] at h
      refine jc_seq (jc_seq (jc_region (qh [0,0,0] (qe (jx_then (qi h (fun h => ?_) (fun h => ?_)))))))
      ·refine jc_skip (jx_then (jc_seq (jc_block (qg [⟨some E_b, 31, [(.slice E_a g4c0.length E_c)]⟩] 18 (qd [⟨0, 0, 0⟩,⟨1, 0, 0⟩,⟨2, 0, 0⟩,⟨3, 0, 0⟩,⟨4, 0, 0⟩,⟨5, 0, 0⟩,⟨6, 0, 0⟩,⟨7, 0, 0⟩,⟨10, 0, 0⟩,⟨11, 0, 0⟩] 8 [1] ?_)))))
       obtain ⟨x_31, hx_571, h⟩ := bd h
       refine qv 8 0 [1] (fun w hm => idx_run (a := (A_o.map fun b => ⟨b, 0, none⟩)) (len := data0.length) (s := 2) (j := (w64 (i_28 - 1))) (by kernel_rfl) (ix_some hx_571).1 (ltn hx_571 hn_563) (spo ho_562 hx_571)) ?_
       obtain ⟨x_32, hx_572, h⟩ := bd h
       refine qv 12 0 [1] (fun w hm => idx_run (a := (A_o.map fun b => ⟨b, 0, none⟩)) (len := data0.length) (s := 2) (j := i_28) (by kernel_rfl) (ix_some hx_572).1 (ltn hx_572 hn_563) (spo ho_562 hx_572)) (toD2 9 13 (by kernel_rfl) ?_ ?_)
       ·refine p_ldx 0 (aB (A_o.map fun b => ⟨b, 0, none⟩)) (aO (A_o.map fun b => ⟨b, 0, none⟩) + (w64 (i_28 - 1)).toNat * 2) (encA2I64 x_31) 2 (by kernel_rfl) (by kernel_rfl) (encA2I64_len x_31) (fun w hm => ((hm.ow 0 A_o 51 xs_27 A_sp (fun e => (ho_562 e).1) encA2I64_len).at hx_571)) (kD [1] (tD 13 (p_ldx 0 (aB (A_o.map fun b => ⟨b, 0, none⟩)) (aO (A_o.map fun b => ⟨b, 0, none⟩) + i_28.toNat * 2) (encA2I64 x_32) 2 (by kernel_rfl) (by kernel_rfl) (encA2I64_len x_32) (fun w hm => ((hm.ow 0 A_o 51 xs_27 A_sp (fun e => (ho_562 e).1) encA2I64_len).at hx_572)) (kD [1] ?_))))
        obtain ⟨x_33, hx_573, h⟩ := bd h
        refine qv 14 0 [1] (fun w hm => idx_run (a := (A_o.map fun b => ⟨b, 0, none⟩)) (len := data0.length) (s := 2) (j := i_28) (by kernel_rfl) (ix_some hx_573).1 (ltn hx_573 hn_563) (spo ho_562 hx_573)) (tD 15 (p_strWO 0 0 A_o 51 encA2I64 xs_27 A_sp i_28 x_31 2 (by kernel_rfl) (by kernel_rfl) (by kernel_rfl) (fun e => (ho_562 e).1) encA2I64_len encA2I64_cell hx_573 (kD [1] ?_)))
        obtain ⟨x_34, hx_574, h⟩ := bd h
        exact qv 16 0 [1] (fun w hm => idx_run (a := (A_o.map fun b => ⟨b, 0, none⟩)) (len := data0.length) (s := 2) (j := (w64 (i_28 - 1))) (by kernel_rfl) (ix_some hx_574).1 (ltn hx_574 (List.length_set.trans hn_563)) (spo (set_ho ho_562) hx_574)) (tD 17 (p_strWO 0 0 A_o 51 encA2I64 (xs_27.set i_28.toNat x_31) A_sp (w64 (i_28 - 1)) x_32 2 (by kernel_rfl) (by kernel_rfl) (by kernel_rfl) (fun e => ((set_ho ho_562) e).1) encA2I64_len encA2I64_cell hx_574 (kD [1] (qz (jx_inn (jx_then (jc_region (qh [0,0,0] (qe (qb (((xs_27.set i_28.toNat x_31).set (w64 (i_28 - 1)).toNat x_32), (w64 (i_28 - 1))) () h ⟨(List.length_set.trans (List.length_set.trans hn_563)), (set_ho (set_ho ho_562))⟩ [0, 1]))))))))))
       ·refine p_ldx 0 (aB (A_o.map fun b => ⟨b, 0, none⟩)) (aO (A_o.map fun b => ⟨b, 0, none⟩) + i_28.toNat * 2) (encA2I64 x_32) 2 (by kernel_rfl) (by kernel_rfl) (encA2I64_len x_32) (fun w hm => ((hm.ow 0 A_o 51 xs_27 A_sp (fun e => (ho_562 e).1) encA2I64_len).at hx_572)) (kD [1] (tD 9 (p_ldx 0 (aB (A_o.map fun b => ⟨b, 0, none⟩)) (aO (A_o.map fun b => ⟨b, 0, none⟩) + (w64 (i_28 - 1)).toNat * 2) (encA2I64 x_31) 2 (by kernel_rfl) (by kernel_rfl) (encA2I64_len x_31) (fun w hm => ((hm.ow 0 A_o 51 xs_27 A_sp (fun e => (ho_562 e).1) encA2I64_len).at hx_571)) (kD [1] ?_))))
        obtain ⟨x_33, hx_575, h⟩ := bd h
        refine qv 14 0 [1] (fun w hm => idx_run (a := (A_o.map fun b => ⟨b, 0, none⟩)) (len := data0.length) (s := 2) (j := i_28) (by kernel_rfl) (ix_some hx_575).1 (ltn hx_575 hn_563) (spo ho_562 hx_575)) (tD 15 (p_strWO 0 0 A_o 51 encA2I64 xs_27 A_sp i_28 x_31 2 (by kernel_rfl) (by kernel_rfl) (by kernel_rfl) (fun e => (ho_562 e).1) encA2I64_len encA2I64_cell hx_575 (kD [1] ?_)))
        obtain ⟨x_34, hx_576, h⟩ := bd h
        exact qv 16 0 [1] (fun w hm => idx_run (a := (A_o.map fun b => ⟨b, 0, none⟩)) (len := data0.length) (s := 2) (j := (w64 (i_28 - 1))) (by kernel_rfl) (ix_some hx_576).1 (ltn hx_576 (List.length_set.trans hn_563)) (spo (set_ho ho_562) hx_576)) (tD 17 (p_strWO 0 0 A_o 51 encA2I64 (xs_27.set i_28.toNat x_31) A_sp (w64 (i_28 - 1)) x_32 2 (by kernel_rfl) (by kernel_rfl) (by kernel_rfl) (fun e => ((set_ho ho_562) e).1) encA2I64_len encA2I64_cell hx_576 (kD [1] (qz (jx_inn (jx_then (jc_region (qh [0,0,0] (qe (qb (((xs_27.set i_28.toNat x_31).set (w64 (i_28 - 1)).toNat x_32), (w64 (i_28 - 1))) () h ⟨(List.length_set.trans (List.length_set.trans hn_563)), (set_ho (set_ho ho_562))⟩ [0, 1]))))))))))
      ·refine jc_exit (jx_thenx (jx_leave xs_27 (Option.some.inj h).symm (fun e_577 => ?_)))
       subst e_577
       exact jx_ine (qm xs_27 ⟨hr_564, hn_563, ho_562⟩ [0, 1])
     ·rintro xs_25 ⟨h, hn_537, ho_536⟩
      replace h : slices_symMergeCmpFunc_2int64_at_impl_pairsOf_1.k_26 xs_25 = some r := h
      rw [slices_symMergeCmpFunc_2int64_at_impl_pairsOf_1.k_26] at h
      refine jx_then (jc_ret (jx_thenr ?_))
      obtain rfl := Option.some.inj h
      exact qr [] (fun w hm => ⟨hn_537, ho_536, rfl, hm.pk [0, 1]⟩)
   ·refine jc_skip (jx_then (jc_seq (jc_region (qh [0,0,0,0,0,0,0] (qe (jx_then (jc_seq (jc_region (qh [0,0,0,0] (qe (jx_then (jc_seq (jc_region (qh [0,0] (qe (jx_then (jc_seq (jc_meet (fun (j : Int × Int) => match j with | ⟨i_45, i_46⟩ => slices_symMergeCmpFunc_2int64_at_impl_pairsOf_1.k_47 self_ data0 a1 m2 b3 g4c0 i_45 i_46 = some r) (fun (j : Int × Int) => match j with | ⟨i_45, i_46⟩ => [(0, [], (.slice (A_o.map fun b => ⟨b, 0, none⟩) data0.length A_c)), (1, [], (.int .i64 a1)), (2, [], (.int .i64 m2)), (3, [], (.int .i64 b3)), (4, [], (.func (.func 72) #[] #[(.pointer (some ⟨E_b, 0, none⟩))])), (18, [], (.int .i64 (w64 (bShr .u64 (u64 (w64 (a1 + b3))) 1)))), (19, [], (.int .i64 (w64 ((w64 (bShr .u64 (u64 (w64 (a1 + b3))) 1)) + m2)))), (20, [], (.int .i64 i_45)), (21, [], (.int .i64 i_46))]) (fun (j : Int × Int) => match j with | ⟨i_45, i_46⟩ => [⟨A_o, 51, row encA2I64 data0 A_sp⟩, ⟨some E_b, 31, [(.slice E_a g4c0.length E_c)]⟩]) ?_ ?_))))))))))))))))))
    ·refine jc_seq (jc_region (qh [0,0,0] (qe (jx_then (qi h (fun h => ?_) (fun h => ?_))))))
     ·exact jc_seq (jc_region (qh [0,0,0,0] (qe (jx_then (jc_region (qh [0,0] (qe (qm ⟨(w64 ((w64 ((w64 (bShr .u64 (u64 (w64 (a1 + b3))) 1)) + m2)) - b3)), (w64 (bShr .u64 (u64 (w64 (a1 + b3))) 1))⟩ h [0, 1]))))))))
     ·exact jc_seq (jc_region (qh [0,0] (qe (jx_then (jc_region (qh [0,0] (qe (qm ⟨a1, m2⟩ h [0, 1]))))))))
    ·rintro ⟨i_45, i_46⟩ h
     replace h : slices_symMergeCmpFunc_2int64_at_impl_pairsOf_1.k_47 self_ data0 a1 m2 b3 g4c0 i_45 i_46 = some r := h
     rw [slices_symMergeCmpFunc_2int64_at_impl_pairsOf_1.k_47] at h
     refine jx_then (jc_seq (jc_region (qh [0,0,0] (qe (jx_then (jc_seq (jc_meet (fun (j : Int) => match j with | i_48 => slices_symMergeCmpFunc_2int64_at_impl_pairsOf_1.k_49 self_ data0 a1 m2 b3 g4c0 i_48 = some r) (fun (j : Int) => match j with | i_48 => [(0, [], (.slice (A_o.map fun b => ⟨b, 0, none⟩) data0.length A_c)), (1, [], (.int .i64 a1)), (2, [], (.int .i64 m2)), (3, [], (.int .i64 b3)), (4, [], (.func (.func 72) #[] #[(.pointer (some ⟨E_b, 0, none⟩))])), (18, [], (.int .i64 (w64 (bShr .u64 (u64 (w64 (a1 + b3))) 1)))), (19, [], (.int .i64 (w64 ((w64 (bShr .u64 (u64 (w64 (a1 + b3))) 1)) + m2)))), (20, [], (.int .i64 i_48))]) (fun (j : Int) => match j with | i_48 => [⟨A_o, 51, row encA2I64 data0 A_sp⟩, ⟨some E_b, 31, [(.slice E_a g4c0.length E_c)]⟩]) ?_ ?_)))))))
     ·refine jc_block ?_
      obtain ⟨t_60, ht_705, hr_692⟩ := bd h
      refine jc_loop (fun (s : Int × Int) (x : Unit) => match s, x with | ⟨i_57, i_58⟩, _ => True) (fun (s : Int × Int) (x : Unit) => match s, x with | ⟨i_57, i_58⟩, _ => [(0, [], (.slice (A_o.map fun b => ⟨b, 0, none⟩) data0.length A_c)), (1, [], (.int .i64 a1)), (2, [], (.int .i64 m2)), (3, [], (.int .i64 b3)), (4, [], (.func (.func 72) #[] #[(.pointer (some ⟨E_b, 0, none⟩))])), (18, [], (.int .i64 (w64 (bShr .u64 (u64 (w64 (a1 + b3))) 1)))), (19, [], (.int .i64 (w64 ((w64 (bShr .u64 (u64 (w64 (a1 + b3))) 1)) + m2)))), (20, [], (.int .i64 i_57)), (21, [], (.int .i64 i_58)), (22, [], (.int .i64 (w64 ((w64 ((w64 (bShr .u64 (u64 (w64 (a1 + b3))) 1)) + m2)) - 1))))]) (fun (s : Int × Int) (x : Unit) => match s, x with | ⟨i_57, i_58⟩, _ => [⟨A_o, 51, row encA2I64 data0 A_sp⟩, ⟨some E_b, 31, [(.slice E_a g4c0.length E_c)]⟩]) ht_705 () trivial (by kernel_rfl) [0, 1] (by kernel_rfl) (by kernel_rfl) ?_
      rintro ⟨i_57, i_58⟩ _ y_693 _ h
      rw [slices_symMergeCmpFunc_2int64_at_impl_pairsOf_1.l_59] at h
      refine jc_seq (jc_seq (jc_region (qh [0,0,0] (qe (jx_then (qi h (fun h => ?_) (fun h => ?_)))))))
      ·refine jc_skip (jx_then (jc_meet (fun (j : Int × Int) => match j with | ⟨i_61, i_62⟩ => slices_symMergeCmpFunc_2int64_at_impl_pairsOf_1.k_63 i_61 i_62 = some y_693) (fun (j : Int × Int) => match j with | ⟨i_61, i_62⟩ => [(0, [], (.slice (A_o.map fun b => ⟨b, 0, none⟩) data0.length A_c)), (1, [], (.int .i64 a1)), (2, [], (.int .i64 m2)), (3, [], (.int .i64 b3)), (4, [], (.func (.func 72) #[] #[(.pointer (some ⟨E_b, 0, none⟩))])), (18, [], (.int .i64 (w64 (bShr .u64 (u64 (w64 (a1 + b3))) 1)))), (19, [], (.int .i64 (w64 ((w64 (bShr .u64 (u64 (w64 (a1 + b3))) 1)) + m2)))), (20, [], (.int .i64 i_61)), (21, [], (.int .i64 i_62)), (22, [], (.int .i64 (w64 ((w64 ((w64 (bShr .u64 (u64 (w64 (a1 + b3))) 1)) + m2)) - 1))))]) (fun (j : Int × Int) => match j with | ⟨i_61, i_62⟩ => [⟨A_o, 51, row encA2I64 data0 A_sp⟩, ⟨some E_b, 31, [(.slice E_a g4c0.length E_c)]⟩]) ?_ ?_))
       ·refine jc_block (jc_seq (jc_region (qh [0,0,0,0,0,0,0] (qe (jx_then (jc_seq (qg [⟨A_o, 51, row encA2I64 data0 A_sp⟩, ⟨some E_b, 31, [(.slice E_a g4c0.length E_c)]⟩] 14 (qd [⟨0, 0, 0⟩,⟨1, 0, 0⟩,⟨2, 0, 0⟩,⟨3, 0, 0⟩,⟨4, 0, 0⟩,⟨7, 0, 0⟩,⟨8, 0, 0⟩] 7 [0, 1] ?_))))))))
        obtain ⟨x_64, hx_700, h⟩ := bd h
        refine qv 5 0 [0, 1] (fun w hm => idx_run (a := (A_o.map fun b => ⟨b, 0, none⟩)) (len := data0.length) (s := 2) (j := (w64 ((w64 ((w64 ((w64 (bShr .u64 (u64 (w64 (a1 + b3))) 1)) + m2)) - 1)) - (w64 (bShr .u64 (u64 (w64 (i_57 + i_58))) 1))))) (by kernel_rfl) (ix_some hx_700).1 (ltn hx_700 rfl) (spo A_ho hx_700)) (qv 6 0 [0, 1] (fun w hm => ld_run (b := aB (A_o.map fun b => ⟨b, 0, none⟩)) (off := (aO (A_o.map fun b => ⟨b, 0, none⟩) + (w64 ((w64 ((w64 ((w64 (bShr .u64 (u64 (w64 (a1 + b3))) 1)) + m2)) - 1)) - (w64 (bShr .u64 (u64 (w64 (i_57 + i_58))) 1)))).toNat * 2)) (s := 2) (agg := true) (vs := (encA2I64 x_64)) (by kernel_rfl) (encA2I64_len x_64) (.inl rfl) ((hm.ow 0 A_o 51 data0 A_sp (fun e => (A_ho e).1) encA2I64_len).at hx_700)) ?_)
        obtain ⟨x_65, hx_701, h⟩ := bd h
        refine qv 9 0 [0, 1] (fun w hm => idx_run (a := (A_o.map fun b => ⟨b, 0, none⟩)) (len := data0.length) (s := 2) (j := (w64 (bShr .u64 (u64 (w64 (i_57 + i_58))) 1))) (by kernel_rfl) (ix_some hx_701).1 (ltn hx_701 rfl) (spo A_ho hx_701)) (qv 10 0 [0, 1] (fun w hm => ld_run (b := aB (A_o.map fun b => ⟨b, 0, none⟩)) (off := (aO (A_o.map fun b => ⟨b, 0, none⟩) + (w64 (bShr .u64 (u64 (w64 (i_57 + i_58))) 1)).toNat * 2)) (s := 2) (agg := true) (vs := (encA2I64 x_65)) (by kernel_rfl) (encA2I64_len x_65) (.inl rfl) ((hm.ow 0 A_o 51 data0 A_sp (fun e => (A_ho e).1) encA2I64_len).at hx_701)) ?_)
        obtain ⟨t_66, ht_702, h⟩ := bd h
        refine tD 11 (pc 0 (fun w hm => impl_pairsOf_1.calls x_64 x_65 g4c0 w _ E_c (hm.exRowW E_h E_ha) rfl E_b (hm.pass (N := [⟨some E_b, 31, [(.slice E_a g4c0.length E_c)]⟩]) [1] (by kernel_rfl) (by kernel_rfl)) (hm.exApart (N := [⟨some E_b, 31, [(.slice E_a g4c0.length E_c)]⟩]) E_h E_ha [1] (by kernel_rfl)) (hm.innPass (N := [⟨some E_b, 31, [(.slice E_a g4c0.length E_c)]⟩]) E_i [1] (by kernel_rfl)) ht_702) ?_)
        rintro w v w' hm ⟨rfl, hm'⟩
        refine ⟨_, hm.appW (ps := [(1, ⟨some E_b, 31, [(.slice E_a g4c0.length E_c)]⟩)]) (N := []) hm' (by kernel_rfl) (by kernel_rfl), kD [0, 1] ?_⟩
        clear hm hm'
        refine qd [⟨12, 0, 0⟩,⟨13, 0, 0⟩] 0 [0, 1] (qz (jx_then (qi h (fun h => ?_) (fun h => ?_))))
        ·exact jc_region (qh [0,0,0] (qe (jx_inn (qm ⟨(w64 ((w64 (bShr .u64 (u64 (w64 (i_57 + i_58))) 1)) + 1)), i_58⟩ h [0, 1]))))
        ·exact jc_region (qh [0,0] (qe (jx_inn (qm ⟨i_57, (w64 (bShr .u64 (u64 (w64 (i_57 + i_58))) 1))⟩ h [0, 1]))))
       ·rintro ⟨i_61, i_62⟩ h
        replace h : slices_symMergeCmpFunc_2int64_at_impl_pairsOf_1.k_63 i_61 i_62 = some y_693 := h
        rw [slices_symMergeCmpFunc_2int64_at_impl_pairsOf_1.k_63] at h
        exact qb (i_61, i_62) () h trivial [0, 1]
      ·refine jc_exit (jx_thenx (jx_leave i_57 (Option.some.inj h).symm (fun e_704 => ?_)))
       subst e_704
       exact jx_ine (qm i_57 hr_692 [0, 1])
     ·rintro i_48 h
      replace h : slices_symMergeCmpFunc_2int64_at_impl_pairsOf_1.k_49 self_ data0 a1 m2 b3 g4c0 i_48 = some r := h
      rw [slices_symMergeCmpFunc_2int64_at_impl_pairsOf_1.k_49] at h
      refine jx_then (jc_seq (jc_region (qh [0,0,0,0] (qe (jx_then (jc_seq (jc_meet (fun (j : (List (Arr 2 Int))) => match j with | xs_50 => slices_symMergeCmpFunc_2int64_at_impl_pairsOf_1.k_51 self_ a1 m2 b3 g4c0 i_48 xs_50 = some r ∧ (xs_50.length = data0.length) ∧ ((A_o = none → xs_50 = [] ∧ A_c = 0))) (fun (j : (List (Arr 2 Int))) => match j with | xs_50 => [(0, [], (.slice (A_o.map fun b => ⟨b, 0, none⟩) data0.length A_c)), (1, [], (.int .i64 a1)), (3, [], (.int .i64 b3)), (4, [], (.func (.func 72) #[] #[(.pointer (some ⟨E_b, 0, none⟩))])), (18, [], (.int .i64 (w64 (bShr .u64 (u64 (w64 (a1 + b3))) 1)))), (20, [], (.int .i64 i_48)), (24, [], (.int .i64 (w64 ((w64 ((w64 (bShr .u64 (u64 (w64 (a1 + b3))) 1)) + m2)) - i_48))))]) (fun (j : (List (Arr 2 Int))) => match j with | xs_50 => [⟨A_o, 51, row encA2I64 xs_50 A_sp⟩, ⟨some E_b, 31, [(.slice E_a g4c0.length E_c)]⟩]) ?_ ?_)))))))
      ·refine jc_seq (jc_region (qf [(0, 0), (0, 0), (0, 0), (0, 0), (0, 1), (0, 1), (0, 1), (0, 0)] (qe (jx_then (qi h (fun h => ?_) (fun h => ?_))))))
       ·refine jc_region (qh [0,0,0,0,0] ?_)
        obtain ⟨t_56, ht_669, h⟩ := bd h
        refine tO (pc 0 (fun w hm => slices_rotateCmpFunc_2int64_at_impl_pairsOf_1.calls data0 i_48 m2 (w64 ((w64 ((w64 (bShr .u64 (u64 (w64 (a1 + b3))) 1)) + m2)) - i_48)) g4c0 w _ E_c (hm.exRowW E_h E_ha) rfl A_o rfl A_hs A_ho E_b (hm.pass (N := [⟨A_o, 51, row encA2I64 data0 A_sp⟩, ⟨some E_b, 31, [(.slice E_a g4c0.length E_c)]⟩]) [0, 1] (by kernel_rfl) (by kernel_rfl)) (hm.exApart (N := [⟨A_o, 51, row encA2I64 data0 A_sp⟩, ⟨some E_b, 31, [(.slice E_a g4c0.length E_c)]⟩]) E_h E_ha [0, 1] (by kernel_rfl)) (hm.innPass (N := [⟨A_o, 51, row encA2I64 data0 A_sp⟩, ⟨some E_b, 31, [(.slice E_a g4c0.length E_c)]⟩]) E_i [0, 1] (by kernel_rfl)) ht_669) ?_)
        rintro w v w' hm ⟨hn_670, ho_671, rfl, hm'⟩
        refine ⟨_, hm.appW (ps := [(0, ⟨A_o, 51, row encA2I64 t_56 A_sp⟩), (1, ⟨some E_b, 31, [(.slice E_a g4c0.length E_c)]⟩)]) (N := []) hm' (by kernel_rfl) (by kernel_rfl), jkO ?_⟩
        clear hm hm'
        exact qe (qm t_56 ⟨h, hn_670, ho_671⟩ [0, 1])
       ·exact jc_skip (qm data0 ⟨h, rfl, A_ho⟩ [0, 1])
      ·rintro xs_50 ⟨h, hn_653, ho_652⟩
       replace h : slices_symMergeCmpFunc_2int64_at_impl_pairsOf_1.k_51 self_ a1 m2 b3 g4c0 i_48 xs_50 = some r := h
       rw [slices_symMergeCmpFunc_2int64_at_impl_pairsOf_1.k_51] at h
       refine jx_then (jc_seq (jc_meet (fun (j : (List (Arr 2 Int))) => match j with | xs_52 => slices_symMergeCmpFunc_2int64_at_impl_pairsOf_1.k_53 self_ a1 m2 b3 g4c0 i_48 xs_52 = some r ∧ (xs_52.length = data0.length) ∧ ((A_o = none → xs_52 = [] ∧ A_c = 0))) (fun (j : (List (Arr 2 Int))) => match j with | xs_52 => [(0, [], (.slice (A_o.map fun b => ⟨b, 0, none⟩) data0.length A_c)), (3, [], (.int .i64 b3)), (4, [], (.func (.func 72) #[] #[(.pointer (some ⟨E_b, 0, none⟩))])), (18, [], (.int .i64 (w64 (bShr .u64 (u64 (w64 (a1 + b3))) 1)))), (24, [], (.int .i64 (w64 ((w64 ((w64 (bShr .u64 (u64 (w64 (a1 + b3))) 1)) + m2)) - i_48))))]) (fun (j : (List (Arr 2 Int))) => match j with | xs_52 => [⟨A_o, 51, row encA2I64 xs_52 A_sp⟩, ⟨some E_b, 31, [(.slice E_a g4c0.length E_c)]⟩]) ?_ ?_))
       ·refine jc_seq (jc_region (qf [(0, 0), (0, 0), (0, 0), (0, 0), (0, 1), (0, 1), (0, 1), (0, 0)] (qe (jx_then (qi h (fun h => ?_) (fun h => ?_))))))
        ·refine jc_region (qh [0,0,0,0,0] ?_)
         obtain ⟨t_55, ht_665, h⟩ := bd h
         refine tO (pc 0 (fun w hm => hself xs_50 a1 i_48 (w64 (bShr .u64 (u64 (w64 (a1 + b3))) 1)) g4c0 w _ E_c (hm.exRowW E_h E_ha) rfl A_o hn_653 A_hs ho_652 E_b (hm.pass (N := [⟨A_o, 51, row encA2I64 xs_50 A_sp⟩, ⟨some E_b, 31, [(.slice E_a g4c0.length E_c)]⟩]) [0, 1] (by kernel_rfl) (by kernel_rfl)) (hm.exApart (N := [⟨A_o, 51, row encA2I64 xs_50 A_sp⟩, ⟨some E_b, 31, [(.slice E_a g4c0.length E_c)]⟩]) E_h E_ha [0, 1] (by kernel_rfl)) (hm.innPass (N := [⟨A_o, 51, row encA2I64 xs_50 A_sp⟩, ⟨some E_b, 31, [(.slice E_a g4c0.length E_c)]⟩]) E_i [0, 1] (by kernel_rfl)) ht_665) ?_)
         rintro w v w' hm ⟨hn_666, ho_667, rfl, hm'⟩
         refine ⟨_, hm.appW (ps := [(0, ⟨A_o, 51, row encA2I64 t_55 A_sp⟩), (1, ⟨some E_b, 31, [(.slice E_a g4c0.length E_c)]⟩)]) (N := []) hm' (by kernel_rfl) (by kernel_rfl), jkO ?_⟩
         clear hm hm'
         exact qe (qm t_55 ⟨h, hn_666, ho_667⟩ [0, 1])
        ·exact jc_skip (qm xs_50 ⟨h, hn_653, ho_652⟩ [0, 1])
       ·rintro xs_52 ⟨h, hn_659, ho_658⟩
        replace h : slices_symMergeCmpFunc_2int64_at_impl_pairsOf_1.k_53 self_ a1 m2 b3 g4c0 i_48 xs_52 = some r := h
        rw [slices_symMergeCmpFunc_2int64_at_impl_pairsOf_1.k_53] at h
        refine jx_then (jc_seq (jc_region (qf [(0, 0), (0, 0), (0, 0), (0, 0), (0, 1), (0, 1), (0, 1), (0, 0)] (qe (jx_then (qi h (fun h => ?_) (fun h => ?_)))))))
        ·refine jc_region (qh [0,0,0,0,0] ?_)
         obtain ⟨t_54, ht_661, h⟩ := bd h
         refine tO (pc 0 (fun w hm => hself xs_52 (w64 (bShr .u64 (u64 (w64 (a1 + b3))) 1)) (w64 ((w64 ((w64 (bShr .u64 (u64 (w64 (a1 + b3))) 1)) + m2)) - i_48)) b3 g4c0 w _ E_c (hm.exRowW E_h E_ha) rfl A_o hn_659 A_hs ho_658 E_b (hm.pass (N := [⟨A_o, 51, row encA2I64 xs_52 A_sp⟩, ⟨some E_b, 31, [(.slice E_a g4c0.length E_c)]⟩]) [0, 1] (by kernel_rfl) (by kernel_rfl)) (hm.exApart (N := [⟨A_o, 51, row encA2I64 xs_52 A_sp⟩, ⟨some E_b, 31, [(.slice E_a g4c0.length E_c)]⟩]) E_h E_ha [0, 1] (by kernel_rfl)) (hm.innPass (N := [⟨A_o, 51, row encA2I64 xs_52 A_sp⟩, ⟨some E_b, 31, [(.slice E_a g4c0.length E_c)]⟩]) E_i [0, 1] (by kernel_rfl)) ht_661) ?_)
         rintro w v w' hm ⟨hn_662, ho_663, rfl, hm'⟩
         refine ⟨_, hm.appW (ps := [(0, ⟨A_o, 51, row encA2I64 t_54 A_sp⟩), (1, ⟨some E_b, 31, [(.slice E_a g4c0.length E_c)]⟩)]) (N := []) hm' (by kernel_rfl) (by kernel_rfl), jkO ?_⟩
         clear hm hm'
         refine qe (jx_fall ?_)
         obtain rfl := Option.some.inj h
         exact qr [] (fun w hm => ⟨hn_662, ho_663, rfl, hm.pk [0, 1]⟩)
        ·refine jc_skip (jx_fall ?_)
         obtain rfl := Option.some.inj h
         exact qr [] (fun w hm => ⟨hn_659, ho_658, rfl, hm.pk [0, 1]⟩)
theorem slices_symMergeCmpFunc_2int64_at_impl_pairsOf_1.rec_calls (fu : Nat) : ∀ (data0 : List (Arr 2 Int)) (a1 : Int) (m2 : Int) (b3 : Int) (g4c0 : List (List Int)) (w : World) (r : (List (Arr 2 Int))) {E_a : Option Addr} {E_an : Nat} (E_c : Nat) {E_hs : List Hd} (E_h : Rw w E_a 1 encHd E_hs) (E_hn : g4c0.length = E_an) (A_o : Option Nat) {A_on : Nat} {A_c : Nat} {A_sp : List Value} (A_hn : data0.length = A_on) (A_hs : A_o ≠ none → A_on ≤ A_c ∧ A_sp.length = (A_c - A_on) * 2) (A_ho : A_o = none → data0 = [] ∧ A_c = 0) (E_b : Nat) (hm0 : Mem w (bs [A_o, some E_b]) [⟨A_o, 51, row encA2I64 data0 A_sp⟩, ⟨some E_b, 31, [(.slice E_a E_an E_c)]⟩] w) (E_ha : E_hs ≠ [] → aB E_a ∉ bs [A_o, some E_b]) (E_i : Inn w (bs [A_o, some E_b]) 1 encI64 E_hs g4c0) (h : slices_symMergeCmpFunc_2int64_at_impl_pairsOf_1.rec_ fu data0 a1 m2 b3 g4c0 = some r),
    Calls Try.prog 96 #[(.slice (A_o.map fun b => ⟨b, 0, none⟩) A_on A_c), (.int .i64 a1), (.int .i64 m2), (.int .i64 b3), (.func (.func 72) #[] #[(.pointer (some ⟨E_b, 0, none⟩))])] w fun e w' => ∃ v, e = .returned v ∧ (r.length = A_on ∧ (A_o = none → r = [] ∧ A_c = 0) ∧ v = .tuple #[] ∧ Mem w (bs [A_o, some E_b]) [⟨A_o, 51, row encA2I64 r A_sp⟩, ⟨some E_b, 31, [(.slice E_a E_an E_c)]⟩] w') := by
  induction fu with
  | zero => intros; rename_i h; cases h
  | succ fu ih => exact @slices_symMergeCmpFunc_2int64_at_impl_pairsOf_1.step_calls _ (slices_symMergeCmpFunc_2int64_at_impl_pairsOf_1.rec_ fu) @ih
theorem slices_symMergeCmpFunc_2int64_at_impl_pairsOf_1.calls (data0 : List (Arr 2 Int)) (a1 : Int) (m2 : Int) (b3 : Int) (g4c0 : List (List Int)) (w : World) (r : (List (Arr 2 Int))) {E_a : Option Addr} {E_an : Nat} (E_c : Nat) {E_hs : List Hd} (E_h : Rw w E_a 1 encHd E_hs) (E_hn : g4c0.length = E_an) (A_o : Option Nat) {A_on : Nat} {A_c : Nat} {A_sp : List Value} (A_hn : data0.length = A_on) (A_hs : A_o ≠ none → A_on ≤ A_c ∧ A_sp.length = (A_c - A_on) * 2) (A_ho : A_o = none → data0 = [] ∧ A_c = 0) (E_b : Nat) (hm0 : Mem w (bs [A_o, some E_b]) [⟨A_o, 51, row encA2I64 data0 A_sp⟩, ⟨some E_b, 31, [(.slice E_a E_an E_c)]⟩] w) (E_ha : E_hs ≠ [] → aB E_a ∉ bs [A_o, some E_b]) (E_i : Inn w (bs [A_o, some E_b]) 1 encI64 E_hs g4c0) (h : slices_symMergeCmpFunc_2int64_at_impl_pairsOf_1 data0 a1 m2 b3 g4c0 = some r) :
    Calls Try.prog 96 #[(.slice (A_o.map fun b => ⟨b, 0, none⟩) A_on A_c), (.int .i64 a1), (.int .i64 m2), (.int .i64 b3), (.func (.func 72) #[] #[(.pointer (some ⟨E_b, 0, none⟩))])] w fun e w' => ∃ v, e = .returned v ∧ (r.length = A_on ∧ (A_o = none → r = [] ∧ A_c = 0) ∧ v = .tuple #[] ∧ Mem w (bs [A_o, some E_b]) [⟨A_o, 51, row encA2I64 r A_sp⟩, ⟨some E_b, 31, [(.slice E_a E_an E_c)]⟩] w') :=
  slices_symMergeCmpFunc_2int64_at_impl_pairsOf_1.rec_calls 200 data0 a1 m2 b3 g4c0 w r E_c E_h E_hn A_o A_hn A_hs A_ho E_b hm0 E_ha E_i h
/-! ### slices.stableCmpFunc[[2]int64] -/
def slices_stableCmpFunc_2int64_at_impl_pairsOf_1.k_7 (xs_6 : List (Arr 2 Int)) : Option ((List (Arr 2 Int))) := some xs_6
def slices_stableCmpFunc_2int64_at_impl_pairsOf_1.k_13 (i_9 : Int) (xs_12 : List (Arr 2 Int)) : Option (((List (Arr 2 Int)) × Int) ⊕ ((List (Arr 2 Int)))) := some (.inl (xs_12, (w64 (i_9 * 2))))
def slices_stableCmpFunc_2int64_at_impl_pairsOf_1.k_16 (n1 : Int) (g2c0 : List (List Int)) (i_9 : Int) (xs_14 : List (Arr 2 Int)) (i_15 : Int) : Option (((List (Arr 2 Int)) × Int) ⊕ ((List (Arr 2 Int)))) := (if (decide ((w64 (i_15 + i_9)) < n1)) = true then (slices_symMergeCmpFunc_2int64_at_impl_pairsOf_1 xs_14 i_15 (w64 (i_15 + i_9)) n1 g2c0).bind fun t_17 => slices_stableCmpFunc_2int64_at_impl_pairsOf_1.k_13 i_9 t_17 else slices_stableCmpFunc_2int64_at_impl_pairsOf_1.k_13 i_9 xs_14)
def slices_stableCmpFunc_2int64_at_impl_pairsOf_1.l_21 (n1 : Int) (g2c0 : List (List Int)) (i_9 : Int) : ((List (Arr 2 Int)) × Int × Int) → Option (((List (Arr 2 Int)) × Int × Int) ⊕ (((List (Arr 2 Int)) × Int)))
  | (xs_18, i_19, i_20) => (if (decide (i_20 ≤ n1)) = true then (slices_symMergeCmpFunc_2int64_at_impl_pairsOf_1 xs_18 i_19 (w64 (i_19 + i_9)) i_20 g2c0).bind fun t_23 => some (.inl (t_23, i_20, (w64 (i_20 + (w64 (2 * i_9)))))) else some (.inr (xs_18, i_19)))
def slices_stableCmpFunc_2int64_at_impl_pairsOf_1.l_10 (n1 : Int) (g2c0 : List (List Int)) : ((List (Arr 2 Int)) × Int) → Option (((List (Arr 2 Int)) × Int) ⊕ ((List (Arr 2 Int))))
  | (xs_8, i_9) => (if (decide (i_9 < n1)) = true then (loop (slices_stableCmpFunc_2int64_at_impl_pairsOf_1.l_21 n1 g2c0 i_9) (xs_8, 0, (w64 (2 * i_9)))).bind fun t_22 => slices_stableCmpFunc_2int64_at_impl_pairsOf_1.k_16 n1 g2c0 i_9 t_22.1 t_22.2 else some (.inr xs_8))
def slices_stableCmpFunc_2int64_at_impl_pairsOf_1.k_4 (n1 : Int) (g2c0 : List (List Int)) (xs_1 : List (Arr 2 Int)) (i_2 : Int) (i_3 : Int) : Option ((List (Arr 2 Int))) := (slices_insertionSortCmpFunc_2int64_at_impl_pairsOf_1 xs_1 i_2 n1 g2c0).bind fun t_5 => (loop (slices_stableCmpFunc_2int64_at_impl_pairsOf_1.l_10 n1 g2c0) (t_5, 20)).bind fun t_11 => slices_stableCmpFunc_2int64_at_impl_pairsOf_1.k_7 t_11
def slices_stableCmpFunc_2int64_at_impl_pairsOf_1.l_27 (n1 : Int) (g2c0 : List (List Int)) : ((List (Arr 2 Int)) × Int × Int) → Option (((List (Arr 2 Int)) × Int × Int) ⊕ (((List (Arr 2 Int)) × Int × Int)))
  | (xs_24, i_25, i_26) => (if (decide (i_26 ≤ n1)) = true then (slices_insertionSortCmpFunc_2int64_at_impl_pairsOf_1 xs_24 i_25 i_26 g2c0).bind fun t_29 => some (.inl (t_29, i_26, (w64 (i_26 + 20)))) else some (.inr (xs_24, i_25, i_26)))
def slices_stableCmpFunc_2int64_at_impl_pairsOf_1 (data0 : List (Arr 2 Int)) (n1 : Int) (g2c0 : List (List Int)) : Option ((List (Arr 2 Int))) := (loop (slices_stableCmpFunc_2int64_at_impl_pairsOf_1.l_27 n1 g2c0) (data0, 0, 20)).bind fun t_28 => slices_stableCmpFunc_2int64_at_impl_pairsOf_1.k_4 n1 g2c0 t_28.1 t_28.2.1 t_28.2.2
theorem slices_stableCmpFunc_2int64_at_impl_pairsOf_1.calls (data0 : List (Arr 2 Int)) (n1 : Int) (g2c0 : List (List Int)) (w : World) (r : (List (Arr 2 Int))) {C_a : Option Addr} {C_an : Nat} (C_c : Nat) {C_hs : List Hd} (C_h : Rw w C_a 1 encHd C_hs) (C_hn : g2c0.length = C_an) (A_o : Option Nat) {A_on : Nat} {A_c : Nat} {A_sp : List Value} (A_hn : data0.length = A_on) (A_hs : A_o ≠ none → A_on ≤ A_c ∧ A_sp.length = (A_c - A_on) * 2) (A_ho : A_o = none → data0 = [] ∧ A_c = 0) (C_b : Nat) (hm0 : Mem w (bs [A_o, some C_b]) [⟨A_o, 51, row encA2I64 data0 A_sp⟩, ⟨some C_b, 31, [(.slice C_a C_an C_c)]⟩] w) (C_ha : C_hs ≠ [] → aB C_a ∉ bs [A_o, some C_b]) (C_i : Inn w (bs [A_o, some C_b]) 1 encI64 C_hs g2c0) (h : slices_stableCmpFunc_2int64_at_impl_pairsOf_1 data0 n1 g2c0 = some r) :
    Calls Try.prog 86 #[(.slice (A_o.map fun b => ⟨b, 0, none⟩) A_on A_c), (.int .i64 n1), (.func (.func 72) #[] #[(.pointer (some ⟨C_b, 0, none⟩))])] w fun e w' => ∃ v, e = .returned v ∧ (r.length = A_on ∧ (A_o = none → r = [] ∧ A_c = 0) ∧ v = .tuple #[] ∧ Mem w (bs [A_o, some C_b]) [⟨A_o, 51, row encA2I64 r A_sp⟩, ⟨some C_b, 31, [(.slice C_a C_an C_c)]⟩] w') := by
  subst C_hn A_hn
  rw [slices_stableCmpFunc_2int64_at_impl_pairsOf_1] at h
  refine enter (args := [(.slice (A_o.map fun b => ⟨b, 0, none⟩) data0.length A_c), (.int .i64 n1), (.func (.func 72) #[] #[(.pointer (some ⟨C_b, 0, none⟩))])]) Try.func86 rfl Try.ntmps86 (by kernel_rfl) (L := [⟨A_o, 51, row encA2I64 data0 A_sp⟩, ⟨some C_b, 31, [(.slice C_a g2c0.length C_c)]⟩]) (W := bs [A_o, some C_b]) hm0 ?_
  refine jc_seq (jc_region (qh [0] (qe (jx_then (jc_seq (jc_region (qh [0,0,0] (qe (jx_then (jc_seq (jc_meet (fun (j : (List (Arr 2 Int)) × Int × Int) => match j with | ⟨xs_1, i_2, i_3⟩ => slices_stableCmpFunc_2int64_at_impl_pairsOf_1.k_4 n1 g2c0 xs_1 i_2 i_3 = some r ∧ (xs_1.length = data0.length) ∧ ((A_o = none → xs_1 = [] ∧ A_c = 0))) (fun (j : (List (Arr 2 Int)) × Int × Int) => match j with | ⟨xs_1, i_2, i_3⟩ => [(0, [], (.slice (A_o.map fun b => ⟨b, 0, none⟩) data0.length A_c)), (1, [], (.int .i64 n1)), (2, [], (.func (.func 72) #[] #[(.pointer (some ⟨C_b, 0, none⟩))])), (6, [], (.int .i64 20)), (7, [], (.int .i64 i_2)), (8, [], (.int .i64 i_3))]) (fun (j : (List (Arr 2 Int)) × Int × Int) => match j with | ⟨xs_1, i_2, i_3⟩ => [⟨A_o, 51, row encA2I64 xs_1 A_sp⟩, ⟨some C_b, 31, [(.slice C_a g2c0.length C_c)]⟩]) ?_ ?_)))))))))))
  ·refine jc_block ?_
   obtain ⟨t_28, ht_717, hr_709⟩ := bd h
   refine jc_loop (fun (s : (List (Arr 2 Int)) × Int × Int) (x : Unit) => match s, x with | ⟨xs_24, i_25, i_26⟩, _ => (xs_24.length = data0.length) ∧ ((A_o = none → xs_24 = [] ∧ A_c = 0))) (fun (s : (List (Arr 2 Int)) × Int × Int) (x : Unit) => match s, x with | ⟨xs_24, i_25, i_26⟩, _ => [(0, [], (.slice (A_o.map fun b => ⟨b, 0, none⟩) data0.length A_c)), (1, [], (.int .i64 n1)), (2, [], (.func (.func 72) #[] #[(.pointer (some ⟨C_b, 0, none⟩))])), (6, [], (.int .i64 20)), (7, [], (.int .i64 i_25)), (8, [], (.int .i64 i_26))]) (fun (s : (List (Arr 2 Int)) × Int × Int) (x : Unit) => match s, x with | ⟨xs_24, i_25, i_26⟩, _ => [⟨A_o, 51, row encA2I64 xs_24 A_sp⟩, ⟨some C_b, 31, [(.slice C_a g2c0.length C_c)]⟩]) ht_717 () ⟨rfl, A_ho⟩ (by kernel_rfl) [0, 1] (by kernel_rfl) (by kernel_rfl) ?_
   rintro ⟨xs_24, i_25, i_26⟩ _ y_710 ⟨hn_708, ho_707⟩ h
   rw [slices_stableCmpFunc_2int64_at_impl_pairsOf_1.l_27] at h
   refine jc_seq (jc_seq (jc_region (qh [0,0,0] (qe (jx_then (qi h (fun h => ?_) (fun h => ?_)))))))
   ·refine jc_skip (jx_then (jc_block (jc_seq (jc_region (qh [0,0,0,0] ?_)))))
    obtain ⟨t_29, ht_713, h⟩ := bd h
    refine tO (pc 0 (fun w hm => slices_insertionSortCmpFunc_2int64_at_impl_pairsOf_1.calls xs_24 i_25 i_26 g2c0 w _ C_c (hm.exRowW C_h C_ha) rfl A_o hn_708 A_hs ho_707 C_b (hm.pass (N := [⟨A_o, 51, row encA2I64 xs_24 A_sp⟩, ⟨some C_b, 31, [(.slice C_a g2c0.length C_c)]⟩]) [0, 1] (by kernel_rfl) (by kernel_rfl)) (hm.exApart (N := [⟨A_o, 51, row encA2I64 xs_24 A_sp⟩, ⟨some C_b, 31, [(.slice C_a g2c0.length C_c)]⟩]) C_h C_ha [0, 1] (by kernel_rfl)) (hm.innPass (N := [⟨A_o, 51, row encA2I64 xs_24 A_sp⟩, ⟨some C_b, 31, [(.slice C_a g2c0.length C_c)]⟩]) C_i [0, 1] (by kernel_rfl)) ht_713) ?_)
    rintro w v w' hm ⟨hn_714, ho_715, rfl, hm'⟩
    refine ⟨_, hm.appW (ps := [(0, ⟨A_o, 51, row encA2I64 t_29 A_sp⟩), (1, ⟨some C_b, 31, [(.slice C_a g2c0.length C_c)]⟩)]) (N := []) hm' (by kernel_rfl) (by kernel_rfl), jkO ?_⟩
    clear hm hm'
    exact qe (jx_then (jc_seq (jc_region (qh [0,0] (qe (jx_then (jc_region (qh [0,0,0,0] (qe (jx_inn (qb (t_29, i_26, (w64 (i_26 + 20))) () h ⟨hn_714, ho_715⟩ [0, 1])))))))))))
   ·refine jc_exit (jx_thenx (jx_leave (xs_24, i_25, i_26) (Option.some.inj h).symm (fun e_716 => ?_)))
    subst e_716
    exact jx_ine (qm ⟨xs_24, i_25, i_26⟩ ⟨hr_709, hn_708, ho_707⟩ [0, 1])
  ·rintro ⟨xs_1, i_2, i_3⟩ ⟨h, hn_25, ho_24⟩
   replace h : slices_stableCmpFunc_2int64_at_impl_pairsOf_1.k_4 n1 g2c0 xs_1 i_2 i_3 = some r := h
   rw [slices_stableCmpFunc_2int64_at_impl_pairsOf_1.k_4] at h
   refine jx_then (jc_seq (jc_region (qh [0,0,0,0] ?_)))
   obtain ⟨t_5, ht_26, h⟩ := bd h
   refine tO (pc 0 (fun w hm => slices_insertionSortCmpFunc_2int64_at_impl_pairsOf_1.calls xs_1 i_2 n1 g2c0 w _ C_c (hm.exRowW C_h C_ha) rfl A_o hn_25 A_hs ho_24 C_b (hm.pass (N := [⟨A_o, 51, row encA2I64 xs_1 A_sp⟩, ⟨some C_b, 31, [(.slice C_a g2c0.length C_c)]⟩]) [0, 1] (by kernel_rfl) (by kernel_rfl)) (hm.exApart (N := [⟨A_o, 51, row encA2I64 xs_1 A_sp⟩, ⟨some C_b, 31, [(.slice C_a g2c0.length C_c)]⟩]) C_h C_ha [0, 1] (by kernel_rfl)) (hm.innPass (N := [⟨A_o, 51, row encA2I64 xs_1 A_sp⟩, ⟨some C_b, 31, [(.slice C_a g2c0.length C_c)]⟩]) C_i [0, 1] (by kernel_rfl)) ht_26) ?_)
   rintro w v w' hm ⟨hn_27, ho_28, rfl, hm'⟩
   refine ⟨_, hm.appW (ps := [(0, ⟨A_o, 51, row encA2I64 t_5 A_sp⟩), (1, ⟨some C_b, 31, [(.slice C_a g2c0.length C_c)]⟩)]) (N := []) hm' (by kernel_rfl) (by kernel_rfl), jkO ?_⟩
   clear hm hm'
   refine qe (jx_then (jc_meet (fun (j : (List (Arr 2 Int))) => match j with | xs_6 => slices_stableCmpFunc_2int64_at_impl_pairsOf_1.k_7 xs_6 = some r ∧ (xs_6.length = data0.length) ∧ ((A_o = none → xs_6 = [] ∧ A_c = 0))) (fun (j : (List (Arr 2 Int))) => match j with | xs_6 => []) (fun (j : (List (Arr 2 Int))) => match j with | xs_6 => [⟨A_o, 51, row encA2I64 xs_6 A_sp⟩, ⟨some C_b, 31, [(.slice C_a g2c0.length C_c)]⟩]) ?_ ?_))
   ·refine jc_block ?_
    obtain ⟨t_11, ht_694, hr_583⟩ := bd h
    refine jc_loop (fun (s : (List (Arr 2 Int)) × Int) (x : Unit) => match s, x with | ⟨xs_8, i_9⟩, _ => (xs_8.length = data0.length) ∧ ((A_o = none → xs_8 = [] ∧ A_c = 0))) (fun (s : (List (Arr 2 Int)) × Int) (x : Unit) => match s, x with | ⟨xs_8, i_9⟩, _ => [(0, [], (.slice (A_o.map fun b => ⟨b, 0, none⟩) data0.length A_c)), (1, [], (.int .i64 n1)), (2, [], (.func (.func 72) #[] #[(.pointer (some ⟨C_b, 0, none⟩))])), (6, [], (.int .i64 i_9))]) (fun (s : (List (Arr 2 Int)) × Int) (x : Unit) => match s, x with | ⟨xs_8, i_9⟩, _ => [⟨A_o, 51, row encA2I64 xs_8 A_sp⟩, ⟨some C_b, 31, [(.slice C_a g2c0.length C_c)]⟩]) ht_694 () ⟨hn_27, ho_28⟩ (by kernel_rfl) [0, 1] (by kernel_rfl) (by kernel_rfl) ?_
    rintro ⟨xs_8, i_9⟩ _ y_584 ⟨hn_582, ho_581⟩ h
    rw [slices_stableCmpFunc_2int64_at_impl_pairsOf_1.l_10] at h
    refine jc_seq (jc_seq (jc_region (qh [0,0,0] (qe (jx_then (qi h (fun h => ?_) (fun h => ?_)))))))
    ·refine jc_skip (jx_then (jc_meet (fun (j : (List (Arr 2 Int))) => match j with | xs_12 => slices_stableCmpFunc_2int64_at_impl_pairsOf_1.k_13 i_9 xs_12 = some y_584 ∧ (xs_12.length = data0.length) ∧ ((A_o = none → xs_12 = [] ∧ A_c = 0))) (fun (j : (List (Arr 2 Int))) => match j with | xs_12 => [(0, [], (.slice (A_o.map fun b => ⟨b, 0, none⟩) data0.length A_c)), (1, [], (.int .i64 n1)), (2, [], (.func (.func 72) #[] #[(.pointer (some ⟨C_b, 0, none⟩))])), (6, [], (.int .i64 (w64 (i_9 * 2))))]) (fun (j : (List (Arr 2 Int))) => match j with | xs_12 => [⟨A_o, 51, row encA2I64 xs_12 A_sp⟩, ⟨some C_b, 31, [(.slice C_a g2c0.length C_c)]⟩]) ?_ ?_))
     ·refine jc_block (jc_seq (jc_region (qh [0,0,0,0] (qe (jx_then (jc_seq (jc_meet (fun (j : (List (Arr 2 Int)) × Int) => match j with | ⟨xs_14, i_15⟩ => slices_stableCmpFunc_2int64_at_impl_pairsOf_1.k_16 n1 g2c0 i_9 xs_14 i_15 = some y_584 ∧ (xs_14.length = data0.length) ∧ ((A_o = none → xs_14 = [] ∧ A_c = 0))) (fun (j : (List (Arr 2 Int)) × Int) => match j with | ⟨xs_14, i_15⟩ => [(0, [], (.slice (A_o.map fun b => ⟨b, 0, none⟩) data0.length A_c)), (1, [], (.int .i64 n1)), (2, [], (.func (.func 72) #[] #[(.pointer (some ⟨C_b, 0, none⟩))])), (6, [], (.int .i64 i_9)), (7, [], (.int .i64 i_15))]) (fun (j : (List (Arr 2 Int)) × Int) => match j with | ⟨xs_14, i_15⟩ => [⟨A_o, 51, row encA2I64 xs_14 A_sp⟩, ⟨some C_b, 31, [(.slice C_a g2c0.length C_c)]⟩]) ?_ ?_)))))))
      ·refine jc_block ?_
       obtain ⟨t_22, ht_692, hr_684⟩ := bd h
       refine jc_loop (fun (s : (List (Arr 2 Int)) × Int × Int) (x : Unit) => match s, x with | ⟨xs_18, i_19, i_20⟩, _ => (xs_18.length = data0.length) ∧ ((A_o = none → xs_18 = [] ∧ A_c = 0))) (fun (s : (List (Arr 2 Int)) × Int × Int) (x : Unit) => match s, x with | ⟨xs_18, i_19, i_20⟩, _ => [(0, [], (.slice (A_o.map fun b => ⟨b, 0, none⟩) data0.length A_c)), (1, [], (.int .i64 n1)), (2, [], (.func (.func 72) #[] #[(.pointer (some ⟨C_b, 0, none⟩))])), (6, [], (.int .i64 i_9)), (7, [], (.int .i64 i_19)), (8, [], (.int .i64 i_20))]) (fun (s : (List (Arr 2 Int)) × Int × Int) (x : Unit) => match s, x with | ⟨xs_18, i_19, i_20⟩, _ => [⟨A_o, 51, row encA2I64 xs_18 A_sp⟩, ⟨some C_b, 31, [(.slice C_a g2c0.length C_c)]⟩]) ht_692 () ⟨hn_582, ho_581⟩ (by kernel_rfl) [0, 1] (by kernel_rfl) (by kernel_rfl) ?_
       rintro ⟨xs_18, i_19, i_20⟩ _ y_685 ⟨hn_683, ho_682⟩ h
       rw [slices_stableCmpFunc_2int64_at_impl_pairsOf_1.l_21] at h
       refine jc_seq (jc_seq (jc_region (qh [0,0,0] (qe (jx_then (qi h (fun h => ?_) (fun h => ?_)))))))
       ·refine jc_skip (jx_then (jc_block (jc_seq (jc_region (qh [0,0,0,0,0,0,0] ?_)))))
        obtain ⟨t_23, ht_688, h⟩ := bd h
        refine tO (pc 0 (fun w hm => slices_symMergeCmpFunc_2int64_at_impl_pairsOf_1.calls xs_18 i_19 (w64 (i_19 + i_9)) i_20 g2c0 w _ C_c (hm.exRowW C_h C_ha) rfl A_o hn_683 A_hs ho_682 C_b (hm.pass (N := [⟨A_o, 51, row encA2I64 xs_18 A_sp⟩, ⟨some C_b, 31, [(.slice C_a g2c0.length C_c)]⟩]) [0, 1] (by kernel_rfl) (by kernel_rfl)) (hm.exApart (N := [⟨A_o, 51, row encA2I64 xs_18 A_sp⟩, ⟨some C_b, 31, [(.slice C_a g2c0.length C_c)]⟩]) C_h C_ha [0, 1] (by kernel_rfl)) (hm.innPass (N := [⟨A_o, 51, row encA2I64 xs_18 A_sp⟩, ⟨some C_b, 31, [(.slice C_a g2c0.length C_c)]⟩]) C_i [0, 1] (by kernel_rfl)) ht_688) ?_)
        rintro w v w' hm ⟨hn_689, ho_690, rfl, hm'⟩
        refine ⟨_, hm.appW (ps := [(0, ⟨A_o, 51, row encA2I64 t_23 A_sp⟩), (1, ⟨some C_b, 31, [(.slice C_a g2c0.length C_c)]⟩)]) (N := []) hm' (by kernel_rfl) (by kernel_rfl), jkO ?_⟩
        clear hm hm'
        exact qe (jx_then (jc_seq (jc_region (qh [0,0] (qe (jx_then (jc_region (qh [0,0,0,0,0] (qe (jx_inn (qb (t_23, i_20, (w64 (i_20 + (w64 (2 * i_9))))) () h ⟨hn_689, ho_690⟩ [0, 1])))))))))))
       ·refine jc_exit (jx_thenx (jx_leave (xs_18, i_19) (Option.some.inj h).symm (fun e_691 => ?_)))
        subst e_691
        exact jx_ine (qm ⟨xs_18, i_19⟩ ⟨hr_684, hn_683, ho_682⟩ [0, 1])
      ·rintro ⟨xs_14, i_15⟩ ⟨h, hn_665, ho_664⟩
       replace h : slices_stableCmpFunc_2int64_at_impl_pairsOf_1.k_16 n1 g2c0 i_9 xs_14 i_15 = some y_584 := h
       rw [slices_stableCmpFunc_2int64_at_impl_pairsOf_1.k_16] at h
       refine jx_then (jc_seq (jc_seq (jc_region (qh [0,0,0,0] (qe (jx_then (jc_seq (jc_region (qh [0,0,0] (qe (jx_then (qi h (fun h => ?_) (fun h => ?_)))))))))))))
       ·refine jc_region (qh [0,0,0,0,0] ?_)
        obtain ⟨t_17, ht_667, h⟩ := bd h
        refine tO (pc 0 (fun w hm => slices_symMergeCmpFunc_2int64_at_impl_pairsOf_1.calls xs_14 i_15 (w64 (i_15 + i_9)) n1 g2c0 w _ C_c (hm.exRowW C_h C_ha) rfl A_o hn_665 A_hs ho_664 C_b (hm.pass (N := [⟨A_o, 51, row encA2I64 xs_14 A_sp⟩, ⟨some C_b, 31, [(.slice C_a g2c0.length C_c)]⟩]) [0, 1] (by kernel_rfl) (by kernel_rfl)) (hm.exApart (N := [⟨A_o, 51, row encA2I64 xs_14 A_sp⟩, ⟨some C_b, 31, [(.slice C_a g2c0.length C_c)]⟩]) C_h C_ha [0, 1] (by kernel_rfl)) (hm.innPass (N := [⟨A_o, 51, row encA2I64 xs_14 A_sp⟩, ⟨some C_b, 31, [(.slice C_a g2c0.length C_c)]⟩]) C_i [0, 1] (by kernel_rfl)) ht_667) ?_)
        rintro w v w' hm ⟨hn_668, ho_669, rfl, hm'⟩
        refine ⟨_, hm.appW (ps := [(0, ⟨A_o, 51, row encA2I64 t_17 A_sp⟩), (1, ⟨some C_b, 31, [(.slice C_a g2c0.length C_c)]⟩)]) (N := []) hm' (by kernel_rfl) (by kernel_rfl), jkO ?_⟩
        clear hm hm'
        exact qe (jx_then (jc_region (qh [0,0,0] (qe (jx_inn (qm t_17 ⟨h, hn_668, ho_669⟩ [0, 1]))))))
       ·exact jc_skip (jx_then (jc_region (qh [0,0,0] (qe (jx_inn (qm xs_14 ⟨h, hn_665, ho_664⟩ [0, 1]))))))
     ·rintro xs_12 ⟨h, hn_640, ho_639⟩
      replace h : slices_stableCmpFunc_2int64_at_impl_pairsOf_1.k_13 i_9 xs_12 = some y_584 := h
      rw [slices_stableCmpFunc_2int64_at_impl_pairsOf_1.k_13] at h
      exact qb (xs_12, (w64 (i_9 * 2))) () h ⟨hn_640, ho_639⟩ [0, 1]
    ·refine jc_exit (jx_thenx (jx_leave xs_8 (Option.some.inj h).symm (fun e_693 => ?_)))
     subst e_693
     exact jx_ine (qm xs_8 ⟨hr_583, hn_582, ho_581⟩ [0, 1])
   ·rintro xs_6 ⟨h, hn_362, ho_361⟩
    replace h : slices_stableCmpFunc_2int64_at_impl_pairsOf_1.k_7 xs_6 = some r := h
    rw [slices_stableCmpFunc_2int64_at_impl_pairsOf_1.k_7] at h
    refine jx_fall ?_
    obtain rfl := Option.some.inj h
    exact qr [] (fun w hm => ⟨hn_362, ho_361, rfl, hm.pk [0, 1]⟩)
/-! ### slices.SortStableFunc[[][2]int64,[2]int64] -/
def slices_SortStableFunc_2int64_at_impl_pairsOf_1 (x0 : List (Arr 2 Int)) (g1c0 : List (List Int)) : Option ((List (Arr 2 Int))) := (slices_stableCmpFunc_2int64_at_impl_pairsOf_1 x0 (x0.length : Int) g1c0).bind fun t_1 => some t_1
theorem slices_SortStableFunc_2int64_at_impl_pairsOf_1.calls (x0 : List (Arr 2 Int)) (g1c0 : List (List Int)) (w : World) (r : (List (Arr 2 Int))) {B_a : Option Addr} {B_an : Nat} (B_c : Nat) {B_hs : List Hd} (B_h : Rw w B_a 1 encHd B_hs) (B_hn : g1c0.length = B_an) (A_o : Option Nat) {A_on : Nat} {A_c : Nat} {A_sp : List Value} (A_hn : x0.length = A_on) (A_hs : A_o ≠ none → A_on ≤ A_c ∧ A_sp.length = (A_c - A_on) * 2) (A_ho : A_o = none → x0 = [] ∧ A_c = 0) (B_b : Nat) (hm0 : Mem w (bs [A_o, some B_b]) [⟨A_o, 51, row encA2I64 x0 A_sp⟩, ⟨some B_b, 31, [(.slice B_a B_an B_c)]⟩] w) (B_ha : B_hs ≠ [] → aB B_a ∉ bs [A_o, some B_b]) (B_i : Inn w (bs [A_o, some B_b]) 1 encI64 B_hs g1c0) (h : slices_SortStableFunc_2int64_at_impl_pairsOf_1 x0 g1c0 = some r) :
    Calls Try.prog 71 #[(.slice (A_o.map fun b => ⟨b, 0, none⟩) A_on A_c), (.func (.func 72) #[] #[(.pointer (some ⟨B_b, 0, none⟩))])] w fun e w' => ∃ v, e = .returned v ∧ (r.length = A_on ∧ (A_o = none → r = [] ∧ A_c = 0) ∧ v = .tuple #[] ∧ Mem w (bs [A_o, some B_b]) [⟨A_o, 51, row encA2I64 r A_sp⟩, ⟨some B_b, 31, [(.slice B_a B_an B_c)]⟩] w') := by
  subst B_hn A_hn
  rw [slices_SortStableFunc_2int64_at_impl_pairsOf_1] at h
  refine enter (args := [(.slice (A_o.map fun b => ⟨b, 0, none⟩) x0.length A_c), (.func (.func 72) #[] #[(.pointer (some ⟨B_b, 0, none⟩))])]) Try.func71 rfl Try.ntmps71 (by kernel_rfl) (L := [⟨A_o, 51, row encA2I64 x0 A_sp⟩, ⟨some B_b, 31, [(.slice B_a g1c0.length B_c)]⟩]) (W := bs [A_o, some B_b]) hm0 ?_
  refine jc_region (qh [0,0,0,0] ?_)
  obtain ⟨t_1, ht_1, h⟩ := bd h
  refine tO (pc 0 (fun w hm => slices_stableCmpFunc_2int64_at_impl_pairsOf_1.calls x0 (x0.length : Int) g1c0 w _ B_c (hm.exRowW B_h B_ha) rfl A_o rfl A_hs A_ho B_b (hm.pass (N := [⟨A_o, 51, row encA2I64 x0 A_sp⟩, ⟨some B_b, 31, [(.slice B_a g1c0.length B_c)]⟩]) [0, 1] (by kernel_rfl) (by kernel_rfl)) (hm.exApart (N := [⟨A_o, 51, row encA2I64 x0 A_sp⟩, ⟨some B_b, 31, [(.slice B_a g1c0.length B_c)]⟩]) B_h B_ha [0, 1] (by kernel_rfl)) (hm.innPass (N := [⟨A_o, 51, row encA2I64 x0 A_sp⟩, ⟨some B_b, 31, [(.slice B_a g1c0.length B_c)]⟩]) B_i [0, 1] (by kernel_rfl)) ht_1) ?_)
  rintro w v w' hm ⟨hn_2, ho_3, rfl, hm'⟩
  refine ⟨_, hm.appW (ps := [(0, ⟨A_o, 51, row encA2I64 t_1 A_sp⟩), (1, ⟨some B_b, 31, [(.slice B_a g1c0.length B_c)]⟩)]) (N := []) hm' (by kernel_rfl) (by kernel_rfl), jkO ?_⟩
  clear hm hm'
  refine qe (jx_fall ?_)
  obtain rfl := Option.some.inj h
  exact qr [] (fun w hm => ⟨hn_2, ho_3, rfl, hm.pk [0, 1]⟩)
/-! ### impl.pairsOf -/
def impl_pairsOf.k_3 (table0 : List (List Int)) (xs_2 : List (Arr 2 Int)) : Option ((List (Arr 2 Int))) := (slices_SortStableFunc_2int64_at_impl_pairsOf_1 xs_2 table0).bind fun t_4 => some t_4
def impl_pairsOf.k_10 (i_6 : Int) (xs_9 : List (Arr 2 Int)) : Option (((List (Arr 2 Int)) × Int) ⊕ ((List (Arr 2 Int)))) := some (.inl (xs_9, (w64 (i_6 + 1))))
def impl_pairsOf.l_13 (table0 : List (List Int)) (i_6 : Int) : ((List (Arr 2 Int)) × Int) → Option (((List (Arr 2 Int)) × Int) ⊕ ((List (Arr 2 Int))))
  | (xs_11, i_12) => (impl_size_int64 table0).bind fun t_15 => (if (decide (i_12 < t_15)) = true then (if xs_11.length + ([(Arr.set (Arr.set (Arr.rep 2 0) 0 i_6) 1 i_12)] : List (Arr 2 Int)).length ≤ 4294967296 then some (.inl ((xs_11 ++ ([(Arr.set (Arr.set (Arr.rep 2 0) 0 i_6) 1 i_12)] : List (Arr 2 Int))), (w64 (i_12 + 1)))) else none) else some (.inr xs_11))
def impl_pairsOf.l_7 (table0 : List (List Int)) (t_1 : Int) : ((List (Arr 2 Int)) × Int) → Option (((List (Arr 2 Int)) × Int) ⊕ ((List (Arr 2 Int))))
  | (xs_5, i_6) => (if (decide (i_6 < t_1)) = true then (loop (impl_pairsOf.l_13 table0 i_6) (xs_5, (w64 (i_6 + 1)))).bind fun t_14 => impl_pairsOf.k_10 i_6 t_14 else some (.inr xs_5))
def impl_pairsOf (table0 : List (List Int)) : Option ((List (Arr 2 Int))) := (impl_size_int64 table0).bind fun t_1 => (loop (impl_pairsOf.l_7 table0 t_1) (([] : List (Arr 2 Int)), 0)).bind fun t_8 => impl_pairsOf.k_3 table0 t_8
theorem impl_pairsOf.calls (table0 : List (List Int)) (w : World) (r : (List (Arr 2 Int))) {A_a : Option Addr} {A_an : Nat} (A_c : Nat) {A_hs : List Hd} (A_h : Rw w A_a 1 encHd A_hs) (A_hn : table0.length = A_an) (A_i : Inn w [] 1 encI64 A_hs table0) (h : impl_pairsOf table0 = some r) :
    Calls Try.prog 41 #[(.slice A_a A_an A_c)] w fun e w' => ∃ v, e = .returned v ∧ (∃ (o0 : Option Nat) (c0 : Nat) (s0 : List Value) (n0 : Nat), r.length = n0 ∧ (o0 ≠ none → n0 ≤ c0 ∧ s0.length = (c0 - n0) * 2) ∧ (o0 = none → r = [] ∧ c0 = 0) ∧ v = .slice (o0.map fun b => ⟨b, 0, none⟩) n0 c0 ∧ Mem w [] [⟨o0, 51, row encA2I64 r s0⟩] w') := by
  subst A_hn
  rw [impl_pairsOf] at h
  refine enter (args := [(.slice A_a table0.length A_c)]) Try.func41 rfl Try.ntmps41 (by kernel_rfl) (L := []) (W := []) (Mem.start w) ?_
  refine jc_seq (jc_region (tO (qa 0 (fun b_1 => jkO (qh [0] (qe (jx_then (jc_seq (jc_region (tO (qa 0 (fun b_2 => jkO (qh [0] (qe (jx_then (jc_seq (jc_seq (jc_region (qh [0] ?_)))))))))))))))))))
  obtain ⟨t_1, ht_678, h⟩ := bd h
  refine tO (pc 0 (fun w hm => impl_size_int64.calls table0 w _ A_c (hm.xr A_h) rfl (hm.innPass (N := []) A_i [] (by kernel_rfl)) ht_678) ?_)
  rintro w v w' hm ⟨rfl, hm'⟩
  refine ⟨_, hm.app hm', jkO ?_⟩
  clear hm hm'
  refine qh [0] (qe (jx_then (jc_meet (fun (j : (List (Arr 2 Int)) × (Option Nat) × Nat × (List Value) × Nat) => match j with | ⟨xs_2, o_1013, cap_1014, sp_1015, n_1016⟩ => impl_pairsOf.k_3 table0 xs_2 = some r ∧ (xs_2.length = n_1016) ∧ ((o_1013 ≠ none → n_1016 ≤ cap_1014 ∧ sp_1015.length = (cap_1014 - n_1016) * 2)) ∧ ((o_1013 = none → xs_2 = [] ∧ cap_1014 = 0))) (fun (j : (List (Arr 2 Int)) × (Option Nat) × Nat × (List Value) × Nat) => match j with | ⟨xs_2, o_1013, cap_1014, sp_1015, n_1016⟩ => [(1, [], (.pointer (some ⟨b_1, 0, none⟩))), (2, [], (.slice none 0 0)), (3, [], (.slice (o_1013.map fun b => ⟨b, 0, none⟩) n_1016 cap_1014))]) (fun (j : (List (Arr 2 Int)) × (Option Nat) × Nat × (List Value) × Nat) => match j with | ⟨xs_2, o_1013, cap_1014, sp_1015, n_1016⟩ => [⟨some b_1, 31, [(.slice A_a table0.length A_c)]⟩, ⟨o_1013, 51, row encA2I64 xs_2 sp_1015⟩]) ?_ ?_)))
  ·refine jc_block ?_
   obtain ⟨t_8, ht_1355, hr_1246⟩ := bd h
   refine jc_loop (fun (s : (List (Arr 2 Int)) × Int) (x : (Option Nat) × Nat × (List Value) × Nat) => match s, x with | ⟨xs_5, i_6⟩, ⟨o_1240, cap_1241, sp_1242, n_1243⟩ => (xs_5.length = n_1243) ∧ ((o_1240 ≠ none → n_1243 ≤ cap_1241 ∧ sp_1242.length = (cap_1241 - n_1243) * 2)) ∧ ((o_1240 = none → xs_5 = [] ∧ cap_1241 = 0))) (fun (s : (List (Arr 2 Int)) × Int) (x : (Option Nat) × Nat × (List Value) × Nat) => match s, x with | ⟨xs_5, i_6⟩, ⟨o_1240, cap_1241, sp_1242, n_1243⟩ => [(1, [], (.pointer (some ⟨b_1, 0, none⟩))), (2, [], (.slice none 0 0)), (3, [], (.slice (o_1240.map fun b => ⟨b, 0, none⟩) n_1243 cap_1241)), (8, [], (.int .i64 t_1)), (9, [], (.int .i64 i_6))]) (fun (s : (List (Arr 2 Int)) × Int) (x : (Option Nat) × Nat × (List Value) × Nat) => match s, x with | ⟨xs_5, i_6⟩, ⟨o_1240, cap_1241, sp_1242, n_1243⟩ => [⟨some b_1, 31, [(.slice A_a table0.length A_c)]⟩, ⟨o_1240, 51, row encA2I64 xs_5 sp_1242⟩]) ht_1355 ⟨(some b_2), 0, [], 0⟩ ⟨rfl, (fun _ => ⟨Nat.le_refl _, by simp⟩), (fun e => nomatch e)⟩ (by kernel_rfl) [0, 1] (by kernel_rfl) (by kernel_rfl) ?_
   rintro ⟨xs_5, i_6⟩ ⟨o_1240, cap_1241, sp_1242, n_1243⟩ y_1247 ⟨rfl, hs_1244, ho_1245⟩ h
   rw [impl_pairsOf.l_7] at h
   refine jc_seq (jc_region (qh [0] (qe (jx_then (jc_seq (qi h (fun h => ?_) (fun h => ?_)))))))
   ·refine jc_skip (jx_then (jc_seq (jc_block (jc_seq (jc_region (qh [0,0] (qe (jx_then (jc_seq (jc_region (qh [0,0,0] (qe (jx_then (jc_meet (fun (j : (List (Arr 2 Int)) × (Option Nat) × Nat × (List Value) × Nat) => match j with | ⟨xs_9, o_1299, cap_1300, sp_1301, n_1302⟩ => impl_pairsOf.k_10 i_6 xs_9 = some y_1247 ∧ (xs_9.length = n_1302) ∧ ((o_1299 ≠ none → n_1302 ≤ cap_1300 ∧ sp_1301.length = (cap_1300 - n_1302) * 2)) ∧ ((o_1299 = none → xs_9 = [] ∧ cap_1300 = 0))) (fun (j : (List (Arr 2 Int)) × (Option Nat) × Nat × (List Value) × Nat) => match j with | ⟨xs_9, o_1299, cap_1300, sp_1301, n_1302⟩ => [(1, [], (.pointer (some ⟨b_1, 0, none⟩))), (2, [], (.slice none 0 0)), (3, [], (.slice (o_1299.map fun b => ⟨b, 0, none⟩) n_1302 cap_1300)), (8, [], (.int .i64 t_1)), (9, [], (.int .i64 i_6))]) (fun (j : (List (Arr 2 Int)) × (Option Nat) × Nat × (List Value) × Nat) => match j with | ⟨xs_9, o_1299, cap_1300, sp_1301, n_1302⟩ => [⟨some b_1, 31, [(.slice A_a table0.length A_c)]⟩, ⟨o_1299, 51, row encA2I64 xs_9 sp_1301⟩]) ?_ ?_))))))))))))))
    ·refine jc_block ?_
     obtain ⟨t_14, ht_1353, hr_1339⟩ := bd h
     refine jc_loop (fun (s : (List (Arr 2 Int)) × Int) (x : (Option Nat) × Nat × (List Value) × Nat) => match s, x with | ⟨xs_11, i_12⟩, ⟨o_1333, cap_1334, sp_1335, n_1336⟩ => (xs_11.length = n_1336) ∧ ((o_1333 ≠ none → n_1336 ≤ cap_1334 ∧ sp_1335.length = (cap_1334 - n_1336) * 2)) ∧ ((o_1333 = none → xs_11 = [] ∧ cap_1334 = 0))) (fun (s : (List (Arr 2 Int)) × Int) (x : (Option Nat) × Nat × (List Value) × Nat) => match s, x with | ⟨xs_11, i_12⟩, ⟨o_1333, cap_1334, sp_1335, n_1336⟩ => [(1, [], (.pointer (some ⟨b_1, 0, none⟩))), (2, [], (.slice none 0 0)), (3, [], (.slice (o_1333.map fun b => ⟨b, 0, none⟩) n_1336 cap_1334)), (4, [], (.int .i64 i_6)), (5, [], (.int .i64 i_12)), (8, [], (.int .i64 t_1)), (9, [], (.int .i64 i_6))]) (fun (s : (List (Arr 2 Int)) × Int) (x : (Option Nat) × Nat × (List Value) × Nat) => match s, x with | ⟨xs_11, i_12⟩, ⟨o_1333, cap_1334, sp_1335, n_1336⟩ => [⟨some b_1, 31, [(.slice A_a table0.length A_c)]⟩, ⟨o_1333, 51, row encA2I64 xs_11 sp_1335⟩]) ht_1353 ⟨o_1240, cap_1241, sp_1242, xs_5.length⟩ ⟨rfl, hs_1244, ho_1245⟩ (by kernel_rfl) [0, 1] (by kernel_rfl) (by kernel_rfl) ?_
     rintro ⟨xs_11, i_12⟩ ⟨o_1333, cap_1334, sp_1335, n_1336⟩ y_1340 ⟨rfl, hs_1337, ho_1338⟩ h
     rw [impl_pairsOf.l_13] at h
     refine jc_seq (jc_seq (jc_region (qh [0,0] ?_)))
     obtain ⟨t_15, ht_1343, h⟩ := bd h
     refine tO (pc 0 (fun w hm => impl_size_int64.calls table0 w _ A_c (hm.xr A_h) rfl (hm.innPass (N := []) A_i [] (by kernel_rfl)) ht_1343) ?_)
     rintro w v w' hm ⟨rfl, hm'⟩
     refine ⟨_, hm.app hm', jkO ?_⟩
     clear hm hm'
     refine qh [0] (qe (jx_then (qi h (fun h => ?_) (fun h => ?_))))
     ·refine jc_skip (jx_then (jc_seq (jc_block (jc_region (qh [0,0,0,0] (tO (p_bs 0 51 2 1 encA2I64 [(.agg (row encI64 (Arr.set (Arr.set (Arr.rep 2 0) 0 i_6) 1 i_12).1 []).toArray)] [(Arr.set (Arr.set (Arr.rep 2 0) 0 i_6) 1 i_12)] (by kernel_rfl) (by kernel_rfl) rfl (by kernel_rfl) (by kernel_rfl) encA2I64_len (fun b_1345 => jkO ?_))))))))
      obtain ⟨hg_1346, h⟩ := gd h
      exact tO (p_apn 0 1 o_1333 51 xs_11.length 1 cap_1334 2 16 (some ⟨b_1345, 0, none⟩) encA2I64 xs_11 ([(Arr.set (Arr.set (Arr.rep 2 0) 0 i_6) 1 i_12)] : List (Arr 2 Int)) sp_1335 (.agg (row encI64 (Arr.rep 2 0).1 []).toArray) rfl rfl (by kernel_rfl) (by kernel_rfl) (by kernel_rfl) encA2I64_len encA2I64_cell hs_1337 ho_1338 (fun w hm => (hm.ow 2 (some b_1345) 51 ([(Arr.set (Arr.set (Arr.rep 2 0) 0 i_6) 1 i_12)] : List (Arr 2 Int)) [] (fun e => nomatch e) encA2I64_len)) hg_1346 (by kernel_rfl) (by kernel_rfl) (fun o_1347 cap_1348 sp_1349 hs_1350 ho_1351 => jkO (qh [0] (qe (jx_inn (jx_then (jc_region (qh [0,0,0] (qe (qb ((xs_11 ++ ([(Arr.set (Arr.set (Arr.rep 2 0) 0 i_6) 1 i_12)] : List (Arr 2 Int))), (w64 (i_12 + 1))) ⟨o_1347, cap_1348, sp_1349, (xs_11 ++ ([(Arr.set (Arr.set (Arr.rep 2 0) 0 i_6) 1 i_12)] : List (Arr 2 Int))).length⟩ h ⟨rfl, hs_1350, ho_1351⟩ [0, 1]))))))))))
     ·refine jc_exit (jx_thenx (jx_leave xs_11 (Option.some.inj h).symm (fun e_1352 => ?_)))
      subst e_1352
      exact jx_ine (qm ⟨xs_11, o_1333, cap_1334, sp_1335, xs_11.length⟩ ⟨hr_1339, rfl, hs_1337, ho_1338⟩ [0, 1])
    ·rintro ⟨xs_9, o_1299, cap_1300, sp_1301, n_1302⟩ ⟨h, rfl, hs_1303, ho_1304⟩
     replace h : impl_pairsOf.k_10 i_6 xs_9 = some y_1247 := h
     rw [impl_pairsOf.k_10] at h
     exact jx_inn (jx_then (jc_region (qh [0,0] (qe (qb (xs_9, (w64 (i_6 + 1))) ⟨o_1299, cap_1300, sp_1301, xs_9.length⟩ h ⟨rfl, hs_1303, ho_1304⟩ [0, 1])))))
   ·refine jc_exit (jx_thenx (jx_leave xs_5 (Option.some.inj h).symm (fun e_1354 => ?_)))
    subst e_1354
    exact jx_ine (qm ⟨xs_5, o_1240, cap_1241, sp_1242, xs_5.length⟩ ⟨hr_1246, rfl, hs_1244, ho_1245⟩ [0, 1])
  ·rintro ⟨xs_2, o_1013, cap_1014, sp_1015, n_1016⟩ ⟨h, rfl, hs_1017, ho_1018⟩
   replace h : impl_pairsOf.k_3 table0 xs_2 = some r := h
   rw [impl_pairsOf.k_3] at h
   refine jx_then (jc_seq (jc_region (qh [0,0] ?_)))
   obtain ⟨t_4, ht_1019, h⟩ := bd h
   refine tO (pc 0 (fun w hm => slices_SortStableFunc_2int64_at_impl_pairsOf_1.calls xs_2 table0 w _ A_c (hm.xr A_h) rfl o_1013 rfl hs_1017 ho_1018 b_1 (hm.pass (N := [⟨o_1013, 51, row encA2I64 xs_2 sp_1015⟩, ⟨some b_1, 31, [(.slice A_a table0.length A_c)]⟩]) [1, 0] (by kernel_rfl) (by kernel_rfl)) (hm.exApart (N := [⟨o_1013, 51, row encA2I64 xs_2 sp_1015⟩, ⟨some b_1, 31, [(.slice A_a table0.length A_c)]⟩]) A_h (fun _ => List.not_mem_nil) [1, 0] (by kernel_rfl)) (hm.innPass (N := [⟨o_1013, 51, row encA2I64 xs_2 sp_1015⟩, ⟨some b_1, 31, [(.slice A_a table0.length A_c)]⟩]) A_i [1, 0] (by kernel_rfl)) ht_1019) ?_)
   rintro w v w' hm ⟨hn_1020, ho_1021, rfl, hm'⟩
   refine ⟨_, hm.appW (ps := [(1, ⟨o_1013, 51, row encA2I64 t_4 sp_1015⟩), (0, ⟨some b_1, 31, [(.slice A_a table0.length A_c)]⟩)]) (N := []) hm' (by kernel_rfl) (by kernel_rfl), jkO ?_⟩
   clear hm hm'
   refine qe (jx_then (jc_seq (jc_region (qh [0,0] (qe (jx_then (jc_ret ?_)))))))
   obtain rfl := Option.some.inj h
   exact qr [] (fun w hm => ⟨o_1013, cap_1014, sp_1015, xs_2.length, hn_1020, hs_1017, ho_1021, rfl, hm.pk [1]⟩)
/-! ### impl.joined -/
def impl_joined.k_4 (xs_3 : List Int) : Option ((List Int)) := some xs_3
def impl_joined.k_10 (i_6 : Int) (xs_9 : List Int) : Option (((List Int) × Int) ⊕ ((List Int))) := some (.inl (xs_9, (w64 (i_6 + 1))))
def impl_joined.l_13 (pairs1 : List (Arr 2 Int)) : ((List Int) × Int) → Option (((List Int) × Int) ⊕ ((List Int)))
  | (xs_11, i_12) => (if (decide (i_12 < (pairs1.length : Int))) = true then (ix pairs1 i_12).bind fun x_15 => (ix x_15.1 0).bind fun x_16 => (ix xs_11 x_16).bind fun x_17 => (ix x_15.1 1).bind fun x_18 => (ix xs_11 x_18).bind fun x_19 => (ix x_15.1 0).bind fun x_20 => (ix x_15.1 1).bind fun x_21 => (ix xs_11 x_20).bind fun x_22 => (ix (xs_11.set x_20.toNat (if x_19 < x_17 then x_19 else x_17)) x_21).bind fun x_23 => some (.inl (((xs_11.set x_20.toNat (if x_19 < x_17 then x_19 else x_17)).set x_21.toNat (if x_19 < x_17 then x_19 else x_17)), (w64 (i_12 + 1)))) else some (.inr xs_11))
def impl_joined.l_7 (pairs1 : List (Arr 2 Int)) : ((List Int) × Int) → Option (((List Int) × Int) ⊕ ((List Int)))
  | (xs_5, i_6) => (if (decide (i_6 < (pairs1.length : Int))) = true then (loop (impl_joined.l_13 pairs1) (xs_5, 0)).bind fun t_14 => impl_joined.k_10 i_6 t_14 else some (.inr xs_5))
def impl_joined.k_2 (pairs1 : List (Arr 2 Int)) (xs_1 : List Int) : Option ((List Int)) := (loop (impl_joined.l_7 pairs1) (xs_1, 0)).bind fun t_8 => impl_joined.k_4 t_8
def impl_joined.l_26 (n0 : Int) : ((List Int) × Int) → Option (((List Int) × Int) ⊕ ((List Int)))
  | (xs_24, i_25) => (if (decide (i_25 < n0)) = true then (if xs_24.length + ([i_25] : List Int).length ≤ 4294967296 then some (.inl ((xs_24 ++ ([i_25] : List Int)), (w64 (i_25 + 1)))) else none) else some (.inr xs_24))
def impl_joined (n0 : Int) (pairs1 : List (Arr 2 Int)) : Option ((List Int)) := (loop (impl_joined.l_26 n0) (([] : List Int), 0)).bind fun t_27 => impl_joined.k_2 pairs1 t_27
theorem impl_joined.calls (n0 : Int) (pairs1 : List (Arr 2 Int)) (w : World) (r : (List Int)) {B_a : Option Addr} {B_an : Nat} (B_c : Nat) (B_h : Rw w B_a 2 encA2I64 pairs1) (B_hn : pairs1.length = B_an) (h : impl_joined n0 pairs1 = some r) :
    Calls Try.prog 42 #[(.int .i64 n0), (.slice B_a B_an B_c)] w fun e w' => ∃ v, e = .returned v ∧ (∃ (o0 : Option Nat) (c0 : Nat) (s0 : List Value) (n0 : Nat), r.length = n0 ∧ (o0 ≠ none → n0 ≤ c0 ∧ s0.length = (c0 - n0) * 1) ∧ (o0 = none → r = [] ∧ c0 = 0) ∧ v = .slice (o0.map fun b => ⟨b, 0, none⟩) n0 c0 ∧ Mem w [] [⟨o0, 2, row encI64 r s0⟩] w') := by
  subst B_hn
  rw [impl_joined] at h
  refine enter (args := [(.int .i64 n0), (.slice B_a pairs1.length B_c)]) Try.func42 rfl Try.ntmps42 (by kernel_rfl) (L := []) (W := []) (Mem.start w) ?_
  refine jc_seq (jc_region (qh [0] (qe (jx_then (jc_seq (jc_region (tO (qa 0 (fun b_1 => jkO (qh [0] (qe (jx_then (jc_seq (jc_seq (jc_region (qh [0,0] (qe (jx_then (jc_meet (fun (j : (List Int) × (Option Nat) × Nat × (List Value) × Nat) => match j with | ⟨xs_1, o_137, cap_138, sp_139, n_140⟩ => impl_joined.k_2 pairs1 xs_1 = some r ∧ (xs_1.length = n_140) ∧ ((o_137 ≠ none → n_140 ≤ cap_138 ∧ sp_139.length = (cap_138 - n_140) * 1)) ∧ ((o_137 = none → xs_1 = [] ∧ cap_138 = 0))) (fun (j : (List Int) × (Option Nat) × Nat × (List Value) × Nat) => match j with | ⟨xs_1, o_137, cap_138, sp_139, n_140⟩ => [(1, [], (.slice B_a pairs1.length B_c)), (4, [], (.slice none 0 0)), (5, [], (.slice (o_137.map fun b => ⟨b, 0, none⟩) n_140 cap_138))]) (fun (j : (List Int) × (Option Nat) × Nat × (List Value) × Nat) => match j with | ⟨xs_1, o_137, cap_138, sp_139, n_140⟩ => [⟨o_137, 2, row encI64 xs_1 sp_139⟩]) ?_ ?_)))))))))))))))))))
  ·refine jc_block ?_
   obtain ⟨t_27, ht_1541, hr_1529⟩ := bd h
   refine jc_loop (fun (s : (List Int) × Int) (x : (Option Nat) × Nat × (List Value) × Nat) => match s, x with | ⟨xs_24, i_25⟩, ⟨o_1523, cap_1524, sp_1525, n_1526⟩ => (xs_24.length = n_1526) ∧ ((o_1523 ≠ none → n_1526 ≤ cap_1524 ∧ sp_1525.length = (cap_1524 - n_1526) * 1)) ∧ ((o_1523 = none → xs_24 = [] ∧ cap_1524 = 0))) (fun (s : (List Int) × Int) (x : (Option Nat) × Nat × (List Value) × Nat) => match s, x with | ⟨xs_24, i_25⟩, ⟨o_1523, cap_1524, sp_1525, n_1526⟩ => [(1, [], (.slice B_a pairs1.length B_c)), (4, [], (.slice none 0 0)), (5, [], (.slice (o_1523.map fun b => ⟨b, 0, none⟩) n_1526 cap_1524)), (11, [], (.int .i64 n0)), (12, [], (.int .i64 i_25))]) (fun (s : (List Int) × Int) (x : (Option Nat) × Nat × (List Value) × Nat) => match s, x with | ⟨xs_24, i_25⟩, ⟨o_1523, cap_1524, sp_1525, n_1526⟩ => [⟨o_1523, 2, row encI64 xs_24 sp_1525⟩]) ht_1541 ⟨(some b_1), 0, [], 0⟩ ⟨rfl, (fun _ => ⟨Nat.le_refl _, by simp⟩), (fun e => nomatch e)⟩ (by kernel_rfl) [0] (by kernel_rfl) (by kernel_rfl) ?_
   rintro ⟨xs_24, i_25⟩ ⟨o_1523, cap_1524, sp_1525, n_1526⟩ y_1530 ⟨rfl, hs_1527, ho_1528⟩ h
   rw [impl_joined.l_26] at h
   refine jc_seq (jc_region (qh [0] (qe (jx_then (jc_seq (qi h (fun h => ?_) (fun h => ?_)))))))
   ·refine jc_skip (jx_then (jc_seq (jc_block (jc_seq (jc_region (qh [0,0] (qe (jx_then (jc_region (qh [0,0] (tO (qa 0 (fun b_1533 => jkO ?_)))))))))))))
    obtain ⟨hg_1534, h⟩ := gd h
    exact tO (p_apn 0 0 o_1523 2 xs_24.length 1 cap_1524 1 8 (some ⟨b_1533, 0, none⟩) encI64 xs_24 ([i_25] : List Int) sp_1525 (.int .i64 0) rfl rfl (by kernel_rfl) (by kernel_rfl) (by kernel_rfl) encI64_len encI64_cell hs_1527 ho_1528 (fun w hm => (hm.ow 1 (some b_1533) 2 ([i_25] : List Int) [] (fun e => nomatch e) encI64_len)) hg_1534 (by kernel_rfl) (by kernel_rfl) (fun o_1535 cap_1536 sp_1537 hs_1538 ho_1539 => jkO (qh [0] (qe (jx_inn (jx_then (jc_region (qh [0,0] (qe (qb ((xs_24 ++ ([i_25] : List Int)), (w64 (i_25 + 1))) ⟨o_1535, cap_1536, sp_1537, (xs_24 ++ ([i_25] : List Int)).length⟩ h ⟨rfl, hs_1538, ho_1539⟩ [0]))))))))))
   ·refine jc_exit (jx_thenx (jx_leave xs_24 (Option.some.inj h).symm (fun e_1540 => ?_)))
    subst e_1540
    exact jx_ine (qm ⟨xs_24, o_1523, cap_1524, sp_1525, xs_24.length⟩ ⟨hr_1529, rfl, hs_1527, ho_1528⟩ [0])
  ·rintro ⟨xs_1, o_137, cap_138, sp_139, n_140⟩ ⟨h, rfl, hs_141, ho_142⟩
   replace h : impl_joined.k_2 pairs1 xs_1 = some r := h
   rw [impl_joined.k_2] at h
   refine jx_then (jc_seq (jc_seq (jc_region (qh [0,0,0] (qe (jx_then (jc_meet (fun (j : (List Int)) => match j with | xs_3 => impl_joined.k_4 xs_3 = some r ∧ (xs_3.length = xs_1.length) ∧ ((o_137 = none → xs_3 = [] ∧ cap_138 = 0))) (fun (j : (List Int)) => match j with | xs_3 => [(4, [], (.slice none 0 0)), (5, [], (.slice (o_137.map fun b => ⟨b, 0, none⟩) xs_1.length cap_138))]) (fun (j : (List Int)) => match j with | xs_3 => [⟨o_137, 2, row encI64 xs_3 sp_139⟩]) ?_ ?_)))))))
   ·refine jc_block ?_
    obtain ⟨t_8, ht_1498, hr_1385⟩ := bd h
    refine jc_loop (fun (s : (List Int) × Int) (x : Unit) => match s, x with | ⟨xs_5, i_6⟩, _ => (xs_5.length = xs_1.length) ∧ ((o_137 = none → xs_5 = [] ∧ cap_138 = 0))) (fun (s : (List Int) × Int) (x : Unit) => match s, x with | ⟨xs_5, i_6⟩, _ => [(1, [], (.slice B_a pairs1.length B_c)), (4, [], (.slice none 0 0)), (5, [], (.slice (o_137.map fun b => ⟨b, 0, none⟩) xs_1.length cap_138)), (21, [], (.int .i64 (pairs1.length : Int))), (22, [], (.int .i64 i_6))]) (fun (s : (List Int) × Int) (x : Unit) => match s, x with | ⟨xs_5, i_6⟩, _ => [⟨o_137, 2, row encI64 xs_5 sp_139⟩]) ht_1498 () ⟨rfl, ho_142⟩ (by kernel_rfl) [0] (by kernel_rfl) (by kernel_rfl) ?_
    rintro ⟨xs_5, i_6⟩ _ y_1386 ⟨hn_1384, ho_1383⟩ h
    rw [impl_joined.l_7] at h
    refine jc_seq (jc_region (qh [0] (qe (jx_then (jc_seq (qi h (fun h => ?_) (fun h => ?_)))))))
    ·refine jc_skip (jx_then (jc_seq (jc_block (jc_seq (jc_region (qh [0,0,0] (qe (jx_then (jc_meet (fun (j : (List Int)) => match j with | xs_9 => impl_joined.k_10 i_6 xs_9 = some y_1386 ∧ (xs_9.length = xs_1.length) ∧ ((o_137 = none → xs_9 = [] ∧ cap_138 = 0))) (fun (j : (List Int)) => match j with | xs_9 => [(1, [], (.slice B_a pairs1.length B_c)), (4, [], (.slice none 0 0)), (5, [], (.slice (o_137.map fun b => ⟨b, 0, none⟩) xs_1.length cap_138)), (21, [], (.int .i64 (pairs1.length : Int))), (22, [], (.int .i64 i_6))]) (fun (j : (List Int)) => match j with | xs_9 => [⟨o_137, 2, row encI64 xs_9 sp_139⟩]) ?_ ?_)))))))))
     ·refine jc_block ?_
      obtain ⟨t_14, ht_1496, hr_1478⟩ := bd h
      refine jc_loop (fun (s : (List Int) × Int) (x : Unit) => match s, x with | ⟨xs_11, i_12⟩, _ => (xs_11.length = xs_1.length) ∧ ((o_137 = none → xs_11 = [] ∧ cap_138 = 0))) (fun (s : (List Int) × Int) (x : Unit) => match s, x with | ⟨xs_11, i_12⟩, _ => [(1, [], (.slice B_a pairs1.length B_c)), (4, [], (.slice none 0 0)), (5, [], (.slice (o_137.map fun b => ⟨b, 0, none⟩) xs_1.length cap_138)), (21, [], (.int .i64 (pairs1.length : Int))), (22, [], (.int .i64 i_6)), (24, [], (.slice B_a pairs1.length B_c)), (25, [], (.int .i64 (pairs1.length : Int))), (26, [], (.int .i64 i_12))]) (fun (s : (List Int) × Int) (x : Unit) => match s, x with | ⟨xs_11, i_12⟩, _ => [⟨o_137, 2, row encI64 xs_11 sp_139⟩]) ht_1496 () ⟨hn_1384, ho_1383⟩ (by kernel_rfl) [0] (by kernel_rfl) (by kernel_rfl) ?_
      rintro ⟨xs_11, i_12⟩ _ y_1479 ⟨hn_1477, ho_1476⟩ h
      rw [impl_joined.l_13] at h
      refine jc_seq (jc_region (qh [0] (qe (jx_then (jc_seq (qi h (fun h => ?_) (fun h => ?_)))))))
      ·refine jc_skip (jx_then (jc_seq (jc_block (jc_seq (jc_region ?_)))))
       obtain ⟨x_15, hx_1482, h⟩ := bd h
       refine tO (qx 0 B_a 2 hx_1482 rfl (B_h.sp hx_1482) (jkO (tO (p_ldx 0 (aB B_a) (aO B_a + i_12.toNat * 2) (encA2I64 x_15) 2 (by kernel_rfl) (by kernel_rfl) (encA2I64_len x_15) (fun w hm => ((hm.xr B_h).at hx_1482)) (jkO (tO (qa 0 (fun b_1483 => jkO (tO (p_sA 0 1 b_1483 2 1 51 encI64 (Arr.rep 2 0) x_15 (by kernel_rfl) (by kernel_rfl) (by kernel_rfl) encI64_len encI64_cell (by kernel_rfl) (jkO (qe (jx_then (jc_seq (qg [⟨o_137, 2, row encI64 xs_11 sp_139⟩, ⟨(some b_1483), 51, row encI64 x_15.1 []⟩] 12 (qd [⟨0, 0, 0⟩,⟨5, 0, 0⟩] 10 [0, 1] ?_))))))))))))))))
       obtain ⟨x_16, hx_1484, h⟩ := bd h
       refine qv 1 0 [0, 1] (fun w hm => idx_run (a := (some ⟨b_1483, 0, none⟩)) (len := 2) (s := 1) (j := 0) (by kernel_rfl) (ix_some hx_1484).1 (ltn hx_1484 x_15.2) rfl) (qv 2 0 [0, 1] (fun w hm => ld_run (b := aB (some ⟨b_1483, 0, none⟩)) (off := (aO (some ⟨b_1483, 0, none⟩) + (0 : Int).toNat * 1)) (s := 1) (agg := false) (vs := (encI64 x_16)) (by kernel_rfl) (by kernel_rfl) (.inr rfl) ((hm.ow 1 (some b_1483) 51 x_15.1 [] (fun e => nomatch e) encI64_len).at hx_1484)) ?_)
       obtain ⟨x_17, hx_1485, h⟩ := bd h
       refine qv 3 0 [0, 1] (fun w hm => idx_run (a := (o_137.map fun b => ⟨b, 0, none⟩)) (len := xs_1.length) (s := 1) (j := x_16) (by kernel_rfl) (ix_some hx_1485).1 (ltn hx_1485 hn_1477) (spo ho_1476 hx_1485)) (qv 4 0 [0, 1] (fun w hm => ld_run (b := aB (o_137.map fun b => ⟨b, 0, none⟩)) (off := (aO (o_137.map fun b => ⟨b, 0, none⟩) + x_16.toNat * 1)) (s := 1) (agg := false) (vs := (encI64 x_17)) (by kernel_rfl) (by kernel_rfl) (.inr rfl) ((hm.ow 0 o_137 2 xs_11 sp_139 (fun e => (ho_1476 e).1) encI64_len).at hx_1485)) ?_)
       obtain ⟨x_18, hx_1486, h⟩ := bd h
       refine qv 6 0 [0, 1] (fun w hm => idx_run (a := (some ⟨b_1483, 0, none⟩)) (len := 2) (s := 1) (j := 1) (by kernel_rfl) (ix_some hx_1486).1 (ltn hx_1486 x_15.2) rfl) (qv 7 0 [0, 1] (fun w hm => ld_run (b := aB (some ⟨b_1483, 0, none⟩)) (off := (aO (some ⟨b_1483, 0, none⟩) + (1 : Int).toNat * 1)) (s := 1) (agg := false) (vs := (encI64 x_18)) (by kernel_rfl) (by kernel_rfl) (.inr rfl) ((hm.ow 1 (some b_1483) 51 x_15.1 [] (fun e => nomatch e) encI64_len).at hx_1486)) ?_)
       obtain ⟨x_19, hx_1487, h⟩ := bd h
       refine qv 8 0 [0, 1] (fun w hm => idx_run (a := (o_137.map fun b => ⟨b, 0, none⟩)) (len := xs_1.length) (s := 1) (j := x_18) (by kernel_rfl) (ix_some hx_1487).1 (ltn hx_1487 hn_1477) (spo ho_1476 hx_1487)) (qv 9 0 [0, 1] (fun w hm => ld_run (b := aB (o_137.map fun b => ⟨b, 0, none⟩)) (off := (aO (o_137.map fun b => ⟨b, 0, none⟩) + x_18.toNat * 1)) (s := 1) (agg := false) (vs := (encI64 x_19)) (by kernel_rfl) (by kernel_rfl) (.inr rfl) ((hm.ow 0 o_137 2 xs_11 sp_139 (fun e => (ho_1476 e).1) encI64_len).at hx_1487)) (qd [⟨10, 0, 0⟩,⟨11, 0, 0⟩] 0 [0, 1] (qz (jx_then (qg [⟨(some b_1483), 51, row encI64 x_15.1 []⟩] 12 (qd [⟨0, 0, 0⟩,⟨3, 0, 0⟩,⟨6, 0, 0⟩,⟨7, 0, 0⟩] 8 [1] ?_))))))
       obtain ⟨x_20, hx_1491, h⟩ := bd h
       refine qv 1 0 [1] (fun w hm => idx_run (a := (some ⟨b_1483, 0, none⟩)) (len := 2) (s := 1) (j := 0) (by kernel_rfl) (ix_some hx_1491).1 (ltn hx_1491 x_15.2) rfl) (qv 2 0 [1] (fun w hm => ld_run (b := aB (some ⟨b_1483, 0, none⟩)) (off := (aO (some ⟨b_1483, 0, none⟩) + (0 : Int).toNat * 1)) (s := 1) (agg := false) (vs := (encI64 x_20)) (by kernel_rfl) (by kernel_rfl) (.inr rfl) ((hm.ow 0 (some b_1483) 51 x_15.1 [] (fun e => nomatch e) encI64_len).at hx_1491)) ?_)
       obtain ⟨x_21, hx_1492, h⟩ := bd h
       refine qv 4 0 [1] (fun w hm => idx_run (a := (some ⟨b_1483, 0, none⟩)) (len := 2) (s := 1) (j := 1) (by kernel_rfl) (ix_some hx_1492).1 (ltn hx_1492 x_15.2) rfl) (qv 5 0 [1] (fun w hm => ld_run (b := aB (some ⟨b_1483, 0, none⟩)) (off := (aO (some ⟨b_1483, 0, none⟩) + (1 : Int).toNat * 1)) (s := 1) (agg := false) (vs := (encI64 x_21)) (by kernel_rfl) (by kernel_rfl) (.inr rfl) ((hm.ow 0 (some b_1483) 51 x_15.1 [] (fun e => nomatch e) encI64_len).at hx_1492)) ?_)
       obtain ⟨x_22, hx_1493, h⟩ := bd h
       refine qv 8 0 [1] (fun w hm => idx_run (a := (o_137.map fun b => ⟨b, 0, none⟩)) (len := xs_1.length) (s := 1) (j := x_20) (by kernel_rfl) (ix_some hx_1493).1 (ltn hx_1493 hn_1477) (spo ho_1476 hx_1493)) (tD 9 (p_strO 0 0 o_137 2 encI64 xs_11 sp_139 x_20 (if x_19 < x_17 then x_19 else x_17) 1 0 [(.int .i64 (if x_19 < x_17 then x_19 else x_17))] (by kernel_rfl) (by kernel_rfl) (by kernel_rfl) (fun e => (ho_1476 e).1) encI64_len hx_1493 (by kernel_rfl) (by kernel_rfl) (kD [1] ?_)))
       obtain ⟨x_23, hx_1494, h⟩ := bd h
       exact qv 10 0 [1] (fun w hm => idx_run (a := (o_137.map fun b => ⟨b, 0, none⟩)) (len := xs_1.length) (s := 1) (j := x_21) (by kernel_rfl) (ix_some hx_1494).1 (ltn hx_1494 (List.length_set.trans hn_1477)) (spo (set_ho ho_1476) hx_1494)) (tD 11 (p_strO 0 0 o_137 2 encI64 (xs_11.set x_20.toNat (if x_19 < x_17 then x_19 else x_17)) sp_139 x_21 (if x_19 < x_17 then x_19 else x_17) 1 0 [(.int .i64 (if x_19 < x_17 then x_19 else x_17))] (by kernel_rfl) (by kernel_rfl) (by kernel_rfl) (fun e => ((set_ho ho_1476) e).1) encI64_len hx_1494 (by kernel_rfl) (by kernel_rfl) (kD [1] (qz (jx_inn (jx_then (jc_region (qh [0,0] (qe (qb (((xs_11.set x_20.toNat (if x_19 < x_17 then x_19 else x_17)).set x_21.toNat (if x_19 < x_17 then x_19 else x_17)), (w64 (i_12 + 1))) () h ⟨(List.length_set.trans (List.length_set.trans hn_1477)), (set_ho (set_ho ho_1476))⟩ [0]))))))))))
      ·refine jc_exit (jx_thenx (jx_leave xs_11 (Option.some.inj h).symm (fun e_1495 => ?_)))
       subst e_1495
       exact jx_ine (qm xs_11 ⟨hr_1478, hn_1477, ho_1476⟩ [0])
     ·rintro xs_9 ⟨h, hn_1443, ho_1442⟩
      replace h : impl_joined.k_10 i_6 xs_9 = some y_1386 := h
      rw [impl_joined.k_10] at h
      exact jx_inn (jx_then (jc_region (qh [0,0] (qe (qb (xs_9, (w64 (i_6 + 1))) () h ⟨hn_1443, ho_1442⟩ [0])))))
    ·refine jc_exit (jx_thenx (jx_leave xs_5 (Option.some.inj h).symm (fun e_1497 => ?_)))
     subst e_1497
     exact jx_ine (qm xs_5 ⟨hr_1385, hn_1384, ho_1383⟩ [0])
   ·rintro xs_3 ⟨h, hn_1160, ho_1159⟩
    replace h : impl_joined.k_4 xs_3 = some r := h
    rw [impl_joined.k_4] at h
    refine jx_then (jc_seq (jc_region (qh [0,0] (qe (jx_then (jc_ret ?_))))))
    obtain rfl := Option.some.inj h
    exact qr [] (fun w hm => ⟨o_137, cap_138, sp_139, xs_1.length, hn_1160, hs_141, ho_1159, rfl, hm.pk [0]⟩)
/-! ### impl.TreeOf -/
def impl_TreeOf.k_6 (xs_4 : List (Arr 2 Int)) (i_5 : Int) : Option ((List (Arr 2 Int)) × Int × Int) := some (xs_4, i_5, 0)
def impl_TreeOf.l_10 (list1 : List (Arr 96 Int)) (t_2 : (List (List Int))) (t_3 : (List (Arr 2 Int))) : ((List (Arr 2 Int)) × Int × Int) → Option (((List (Arr 2 Int)) × Int × Int) ⊕ (((List (Arr 2 Int)) × Int)))
  | (xs_7, i_8, i_9) => (if (decide (i_9 < (t_3.length : Int))) = true then (ix t_3 i_9).bind fun x_12 => (impl_joined (list1.length : Int) xs_7).bind fun t_13 => (ix x_12.1 0).bind fun x_14 => (ix t_13 x_14).bind fun x_15 => (ix x_12.1 1).bind fun x_16 => (ix t_13 x_16).bind fun x_17 => (if (x_15 != x_17) = true then (if xs_7.length + ([x_12] : List (Arr 2 Int)).length ≤ 4294967296 then (ix x_12.1 0).bind fun x_18 => (ix t_2 x_18).bind fun x_19 => (ix x_12.1 1).bind fun x_20 => (ix x_19 x_20).bind fun x_21 => some (.inl ((xs_7 ++ ([x_12] : List (Arr 2 Int))), (w64 (i_8 + x_21)), (w64 (i_9 + 1)))) else none) else some (.inl (xs_7, i_8, (w64 (i_9 + 1))))) else some (.inr (xs_7, i_8)))
def impl_TreeOf (f0 : GFrame) (list1 : List (Arr 96 Int)) : Option ((List (Arr 2 Int)) × Int × Int) := (impl_startCode f0 list1 (-1)).bind fun t_1 => (if (t_1 != 0) = true then some ([], 0, t_1) else (impl_costs list1).bind fun t_2 => (impl_pairsOf t_2).bind fun t_3 => (loop (impl_TreeOf.l_10 list1 t_2 t_3) (([] : List (Arr 2 Int)), 0, 0)).bind fun t_11 => impl_TreeOf.k_6 t_11.1 t_11.2)
theorem impl_TreeOf.calls (f0 : GFrame) (list1 : List (Arr 96 Int)) (w : World) (r : (List (Arr 2 Int)) × Int × Int) {C_a : Option Addr} {C_an : Nat} (C_c : Nat) (C_h : Rw w C_a 2 encGHammer f0.fHammers) (C_hn : f0.fHammers.length = C_an) {D_a : Option Addr} {D_an : Nat} (D_c : Nat) (D_h : Rw w D_a 96 encA96U32 list1) (D_hn : list1.length = D_an) (h : impl_TreeOf f0 list1 = some r) :
    Calls Try.prog 13 #[(.agg #[(.int .i16 f0.fSteps), (.slice C_a C_an C_c)]), (.slice D_a D_an D_c)] w fun e w' => ∃ v, e = .returned v ∧ (∃ (o0 : Option Nat) (c0 : Nat) (s0 : List Value) (n0 : Nat), r.1.length = n0 ∧ (o0 ≠ none → n0 ≤ c0 ∧ s0.length = (c0 - n0) * 2) ∧ (o0 = none → r.1 = [] ∧ c0 = 0) ∧ v = .tuple #[.slice (o0.map fun b => ⟨b, 0, none⟩) n0 c0, (.int .i64 r.2.1), (.int .i64 r.2.2)] ∧ Mem w [] [⟨o0, 51, row encA2I64 r.1 s0⟩] w') := by
  subst C_hn D_hn
  rw [impl_TreeOf] at h
  refine enter (args := [(.agg #[(.int .i16 f0.fSteps), (.slice C_a f0.fHammers.length C_c)]), (.slice D_a list1.length D_c)]) Try.func13 rfl Try.ntmps13 (by kernel_rfl) (L := []) (W := []) (Mem.start w) ?_
  refine jc_seq (jc_region (tO (qa 0 (fun b_1 => jkO (qh [0,0,0] (qe (jx_then (jc_seq (jc_seq (jc_region (qh [0,0] ?_)))))))))))
  obtain ⟨t_1, ht_4, h⟩ := bd h
  refine tO (pc 0 (fun w hm => impl_startCode.calls f0 list1 (-1) w _ C_c (hm.xr C_h) rfl D_c (hm.xr D_h) rfl ht_4) ?_)
  rintro w v w' hm ⟨rfl, hm'⟩
  refine ⟨_, hm.app hm', jkO ?_⟩
  clear hm hm'
  refine qh [0] (qe (jx_then (jc_seq (jc_region (qh [0,0] (qe (jx_then (qi h (fun h => ?_) (fun h => ?_)))))))))
  ·refine jc_seq (jc_region (qh [0,0,0,0] (qe (jx_then (jc_ret (jx_thenr ?_))))))
   obtain rfl := Option.some.inj h
   exact jx_ghost 51 encA2I64 (qr [] (fun w hm => ⟨none, 0, [], 0, rfl, (fun e => absurd rfl e), (fun _ => ⟨rfl, rfl⟩), rfl, hm.pk [1]⟩))
  ·refine jc_skip (jx_then (jc_seq (jc_region (qh [0] ?_))))
   obtain ⟨t_2, ht_6, h⟩ := bd h
   refine tO (pc 0 (fun w hm => impl_costs.calls list1 w _ D_c (hm.xr D_h) rfl ht_6) ?_)
   rintro w v w' hm ⟨o_7, cap_8, sp_9, _, hh_12, hI_13, rfl, hs_10, ho_11, rfl, hm'⟩
   refine ⟨_, hm.app hm', jkO ?_⟩
   clear hm hm'
   refine tO (qa 0 (fun b_14 => jkO (qh [0,0,0] (qe (jx_then (jc_seq (jc_seq (jc_region (qh [0] ?_)))))))))
   obtain ⟨t_3, ht_215, h⟩ := bd h
   refine tO (pc 0 (fun w hm => impl_pairsOf.calls t_2 w _ cap_8 (hm.ow 1 o_7 34 hh_12 sp_9 (fun e => (ho_11 e).1) encHd_len) (hI_13.1.symm.trans rfl) (hm.cluPass (N := []) 2 hI_13 encI64_len []) ht_215) ?_)
   rintro w v w' hm ⟨o_216, cap_217, sp_218, _, rfl, hs_219, ho_220, rfl, hm'⟩
   refine ⟨_, hm.app hm', jkO ?_⟩
   clear hm hm'
   refine qh [0,0] (qe (jx_then (jc_meet (fun (j : (List (Arr 2 Int)) × Int × (Option Nat) × Nat × (List Value) × Nat) => match j with | ⟨xs_4, i_5, o_315, cap_316, sp_317, n_318⟩ => impl_TreeOf.k_6 xs_4 i_5 = some r ∧ (xs_4.length = n_318) ∧ ((o_315 ≠ none → n_318 ≤ cap_316 ∧ sp_317.length = (cap_316 - n_318) * 2)) ∧ ((o_315 = none → xs_4 = [] ∧ cap_316 = 0))) (fun (j : (List (Arr 2 Int)) × Int × (Option Nat) × Nat × (List Value) × Nat) => match j with | ⟨xs_4, i_5, o_315, cap_316, sp_317, n_318⟩ => [(4, [], (.slice none 0 0)), (5, [], (.int .i64 0)), (6, [], (.int .i64 0)), (9, [], (.slice (o_315.map fun b => ⟨b, 0, none⟩) n_318 cap_316)), (10, [], (.int .i64 i_5))]) (fun (j : (List (Arr 2 Int)) × Int × (Option Nat) × Nat × (List Value) × Nat) => match j with | ⟨xs_4, i_5, o_315, cap_316, sp_317, n_318⟩ => [⟨some b_1, 27, [(.int .i16 f0.fSteps), (.slice C_a f0.fHammers.length C_c)]⟩, ⟨o_7, 34, row encHd hh_12 sp_9⟩, ⟨none, CLU, cluC encI64 hh_12 t_2⟩, ⟨o_315, 51, row encA2I64 xs_4 sp_317⟩, ⟨o_216, 51, row encA2I64 t_3 sp_218⟩]) ?_ ?_)))
   ·refine jc_block ?_
    obtain ⟨t_11, ht_414, hr_385⟩ := bd h
    refine jc_loop (fun (s : (List (Arr 2 Int)) × Int × Int) (x : (Option Nat) × Nat × (List Value) × Nat) => match s, x with | ⟨xs_7, i_8, i_9⟩, ⟨o_379, cap_380, sp_381, n_382⟩ => (xs_7.length = n_382) ∧ ((o_379 ≠ none → n_382 ≤ cap_380 ∧ sp_381.length = (cap_380 - n_382) * 2)) ∧ ((o_379 = none → xs_7 = [] ∧ cap_380 = 0))) (fun (s : (List (Arr 2 Int)) × Int × Int) (x : (Option Nat) × Nat × (List Value) × Nat) => match s, x with | ⟨xs_7, i_8, i_9⟩, ⟨o_379, cap_380, sp_381, n_382⟩ => [(1, [], (.slice D_a list1.length D_c)), (4, [], (.slice none 0 0)), (5, [], (.int .i64 0)), (6, [], (.int .i64 0)), (8, [], (.slice (o_7.map fun b => ⟨b, 0, none⟩) hh_12.length cap_8)), (9, [], (.slice (o_379.map fun b => ⟨b, 0, none⟩) n_382 cap_380)), (10, [], (.int .i64 i_8)), (24, [], (.slice (o_216.map fun b => ⟨b, 0, none⟩) t_3.length cap_217)), (25, [], (.int .i64 (t_3.length : Int))), (26, [], (.int .i64 i_9))]) (fun (s : (List (Arr 2 Int)) × Int × Int) (x : (Option Nat) × Nat × (List Value) × Nat) => match s, x with | ⟨xs_7, i_8, i_9⟩, ⟨o_379, cap_380, sp_381, n_382⟩ => [⟨some b_1, 27, [(.int .i16 f0.fSteps), (.slice C_a f0.fHammers.length C_c)]⟩, ⟨o_7, 34, row encHd hh_12 sp_9⟩, ⟨none, CLU, cluC encI64 hh_12 t_2⟩, ⟨o_379, 51, row encA2I64 xs_7 sp_381⟩, ⟨o_216, 51, row encA2I64 t_3 sp_218⟩]) ht_414 ⟨(some b_14), 0, [], 0⟩ ⟨rfl, (fun _ => ⟨Nat.le_refl _, by simp⟩), (fun e => nomatch e)⟩ (by kernel_rfl) [0, 1, 2, 3, 4] (by kernel_rfl) (by kernel_rfl) ?_
    rintro ⟨xs_7, i_8, i_9⟩ ⟨o_379, cap_380, sp_381, n_382⟩ y_386 ⟨rfl, hs_383, ho_384⟩ h
    rw [impl_TreeOf.l_10] at h
    refine jc_seq (jc_region (qh [0] (qe (jx_then (jc_seq (qi h (fun h => ?_) (fun h => ?_)))))))
    ·refine jc_skip (jx_then (jc_seq (jc_block (jc_seq (jc_region ?_)))))
     obtain ⟨x_12, hx_389, h⟩ := bd h
     refine tO (qx 0 (o_216.map fun b => ⟨b, 0, none⟩) 2 hx_389 rfl (spo ho_220 hx_389) (jkO (tO (p_ldx 0 (aB (o_216.map fun b => ⟨b, 0, none⟩)) (aO (o_216.map fun b => ⟨b, 0, none⟩) + i_9.toNat * 2) (encA2I64 x_12) 2 (by kernel_rfl) (by kernel_rfl) (encA2I64_len x_12) (fun w hm => ((hm.ow 4 o_216 51 t_3 sp_218 (fun e => (ho_220 e).1) encA2I64_len).at hx_389)) (jkO (tO (qa 0 (fun b_390 => jkO (tO (p_sA 0 5 b_390 2 1 51 encI64 (Arr.rep 2 0) x_12 (by kernel_rfl) (by kernel_rfl) (by kernel_rfl) encI64_len encI64_cell (by kernel_rfl) (jkO (qe (jx_then (jc_seq (jc_region (qh [0,0,0] ?_))))))))))))))))
     obtain ⟨t_13, ht_391, h⟩ := bd h
     refine tO (pc 0 (fun w hm => impl_joined.calls (list1.length : Int) xs_7 w _ cap_380 (hm.ow 3 o_379 51 xs_7 sp_381 (fun e => (ho_384 e).1) encA2I64_len) rfl ht_391) ?_)
     rintro w v w' hm ⟨o_392, cap_393, sp_394, _, rfl, hs_395, ho_396, rfl, hm'⟩
     refine ⟨_, hm.app hm', jkO ?_⟩
     clear hm hm'
     refine qh [0] (qe (jx_then (jc_seq (qg [⟨some b_1, 27, [(.int .i16 f0.fSteps), (.slice C_a f0.fHammers.length C_c)]⟩, ⟨o_7, 34, row encHd hh_12 sp_9⟩, ⟨none, CLU, cluC encI64 hh_12 t_2⟩, ⟨o_379, 51, row encA2I64 xs_7 sp_381⟩, ⟨o_216, 51, row encA2I64 t_3 sp_218⟩, ⟨(some b_390), 51, row encI64 x_12.1 []⟩, ⟨o_392, 2, row encI64 t_13 sp_394⟩] 11 (qd [⟨0, 0, 0⟩,⟨5, 0, 0⟩] 9 [0, 1, 2, 3, 4, 5, 6] ?_)))))
     obtain ⟨x_14, hx_397, h⟩ := bd h
     refine qv 1 0 [0, 1, 2, 3, 4, 5, 6] (fun w hm => idx_run (a := (some ⟨b_390, 0, none⟩)) (len := 2) (s := 1) (j := 0) (by kernel_rfl) (ix_some hx_397).1 (ltn hx_397 x_12.2) rfl) (qv 2 0 [0, 1, 2, 3, 4, 5, 6] (fun w hm => ld_run (b := aB (some ⟨b_390, 0, none⟩)) (off := (aO (some ⟨b_390, 0, none⟩) + (0 : Int).toNat * 1)) (s := 1) (agg := false) (vs := (encI64 x_14)) (by kernel_rfl) (by kernel_rfl) (.inr rfl) ((hm.ow 5 (some b_390) 51 x_12.1 [] (fun e => nomatch e) encI64_len).at hx_397)) ?_)
     obtain ⟨x_15, hx_398, h⟩ := bd h
     refine qv 3 0 [0, 1, 2, 3, 4, 5, 6] (fun w hm => idx_run (a := (o_392.map fun b => ⟨b, 0, none⟩)) (len := t_13.length) (s := 1) (j := x_14) (by kernel_rfl) (ix_some hx_398).1 (ltn hx_398 rfl) (spo ho_396 hx_398)) (qv 4 0 [0, 1, 2, 3, 4, 5, 6] (fun w hm => ld_run (b := aB (o_392.map fun b => ⟨b, 0, none⟩)) (off := (aO (o_392.map fun b => ⟨b, 0, none⟩) + x_14.toNat * 1)) (s := 1) (agg := false) (vs := (encI64 x_15)) (by kernel_rfl) (by kernel_rfl) (.inr rfl) ((hm.ow 6 o_392 2 t_13 sp_394 (fun e => (ho_396 e).1) encI64_len).at hx_398)) ?_)
     obtain ⟨x_16, hx_399, h⟩ := bd h
     refine qv 6 0 [0, 1, 2, 3, 4, 5, 6] (fun w hm => idx_run (a := (some ⟨b_390, 0, none⟩)) (len := 2) (s := 1) (j := 1) (by kernel_rfl) (ix_some hx_399).1 (ltn hx_399 x_12.2) rfl) (qv 7 0 [0, 1, 2, 3, 4, 5, 6] (fun w hm => ld_run (b := aB (some ⟨b_390, 0, none⟩)) (off := (aO (some ⟨b_390, 0, none⟩) + (1 : Int).toNat * 1)) (s := 1) (agg := false) (vs := (encI64 x_16)) (by kernel_rfl) (by kernel_rfl) (.inr rfl) ((hm.ow 5 (some b_390) 51 x_12.1 [] (fun e => nomatch e) encI64_len).at hx_399)) ?_)
     obtain ⟨x_17, hx_400, h⟩ := bd h
     refine qv 8 0 [0, 1, 2, 3, 4, 5, 6] (fun w hm => idx_run (a := (o_392.map fun b => ⟨b, 0, none⟩)) (len := t_13.length) (s := 1) (j := x_16) (by kernel_rfl) (ix_some hx_400).1 (ltn hx_400 rfl) (spo ho_396 hx_400)) (qv 9 0 [0, 1, 2, 3, 4, 5, 6] (fun w hm => ld_run (b := aB (o_392.map fun b => ⟨b, 0, none⟩)) (off := (aO (o_392.map fun b => ⟨b, 0, none⟩) + x_16.toNat * 1)) (s := 1) (agg := false) (vs := (encI64 x_17)) (by kernel_rfl) (by kernel_rfl) (.inr rfl) ((hm.ow 6 o_392 2 t_13 sp_394 (fun e => (ho_396 e).1) encI64_len).at hx_400)) (qd [⟨10, 0, 0⟩] 0 [0, 1, 2, 3, 4, 5, 6] (qz (jx_then (qi h (fun h => ?_) (fun h => ?_))))))
     ·refine jc_seq (jc_region (qh [0] (tO (p_ldA 0 5 b_390 2 1 51 encI64 x_12 (by kernel_rfl) (by kernel_rfl) (by kernel_rfl) encI64_len (by kernel_rfl) (jkO (tO (p_bs 0 51 2 1 encA2I64 [(.agg (row encI64 x_12.1 []).toArray)] [x_12] (by kernel_rfl) (by kernel_rfl) rfl (by kernel_rfl) (by kernel_rfl) encA2I64_len (fun b_402 => jkO ?_))))))))
      obtain ⟨hg_403, h⟩ := gd h
      refine tO (p_apn 0 3 o_379 51 xs_7.length 1 cap_380 2 16 (some ⟨b_402, 0, none⟩) encA2I64 xs_7 ([x_12] : List (Arr 2 Int)) sp_381 (.agg (row encI64 (Arr.rep 2 0).1 []).toArray) rfl rfl (by kernel_rfl) (by kernel_rfl) (by kernel_rfl) encA2I64_len encA2I64_cell hs_383 ho_384 (fun w hm => (hm.ow 7 (some b_402) 51 ([x_12] : List (Arr 2 Int)) [] (fun e => nomatch e) encA2I64_len)) hg_403 (by kernel_rfl) (by kernel_rfl) (fun o_404 cap_405 sp_406 hs_407 ho_408 => jkO (qh [0] (qe (jx_then (qg [⟨some b_1, 27, [(.int .i16 f0.fSteps), (.slice C_a f0.fHammers.length C_c)]⟩, ⟨o_7, 34, row encHd hh_12 sp_9⟩, ⟨none, CLU, cluC encI64 hh_12 t_2⟩, ⟨o_404, 51, row encA2I64 (xs_7 ++ ([x_12] : List (Arr 2 Int))) sp_406⟩, ⟨o_216, 51, row encA2I64 t_3 sp_218⟩, ⟨(some b_390), 51, row encI64 x_12.1 []⟩, ⟨o_392, 2, row encI64 t_13 sp_394⟩, ⟨(some b_402), 51, row encA2I64 ([x_12] : List (Arr 2 Int)) []⟩] 12 (qd [⟨0, 0, 0⟩,⟨1, 0, 0⟩] 10 [0, 1, 2, 3, 4, 5, 6, 7] ?_)))))))
      obtain ⟨x_18, hx_409, h⟩ := bd h
      refine qv 2 0 [0, 1, 2, 3, 4, 5, 6, 7] (fun w hm => idx_run (a := (some ⟨b_390, 0, none⟩)) (len := 2) (s := 1) (j := 0) (by kernel_rfl) (ix_some hx_409).1 (ltn hx_409 x_12.2) rfl) (qv 3 0 [0, 1, 2, 3, 4, 5, 6, 7] (fun w hm => ld_run (b := aB (some ⟨b_390, 0, none⟩)) (off := (aO (some ⟨b_390, 0, none⟩) + (0 : Int).toNat * 1)) (s := 1) (agg := false) (vs := (encI64 x_18)) (by kernel_rfl) (by kernel_rfl) (.inr rfl) ((hm.ow 5 (some b_390) 51 x_12.1 [] (fun e => nomatch e) encI64_len).at hx_409)) ?_)
      obtain ⟨x_19, hx_410, h⟩ := bd h
      refine qv 4 0 [0, 1, 2, 3, 4, 5, 6, 7] (fun w hm => idx_run (a := (o_7.map fun b => ⟨b, 0, none⟩)) (len := hh_12.length) (s := 1) (j := x_18) (by kernel_rfl) (ix_some hx_410).1 (ltn hx_410 (hI_13.1.symm.trans rfl)) (spo ho_11 (hI_13.ixh hx_410))) (qv 5 0 [0, 1, 2, 3, 4, 5, 6, 7] (fun w hm => ld_run (b := aB (o_7.map fun b => ⟨b, 0, none⟩)) (off := (aO (o_7.map fun b => ⟨b, 0, none⟩) + x_18.toNat * 1)) (s := 1) (agg := false) (vs := encHd (hd hh_12 x_18)) (by kernel_rfl) (by kernel_rfl) (.inr rfl) ((hm.ow 1 o_7 34 hh_12 sp_9 (fun e => (ho_11 e).1) encHd_len).at (hI_13.ixh hx_410))) ?_)
      obtain ⟨x_20, hx_411, h⟩ := bd h
      refine qv 6 0 [0, 1, 2, 3, 4, 5, 6, 7] (fun w hm => idx_run (a := (some ⟨b_390, 0, none⟩)) (len := 2) (s := 1) (j := 1) (by kernel_rfl) (ix_some hx_411).1 (ltn hx_411 x_12.2) rfl) (qv 7 0 [0, 1, 2, 3, 4, 5, 6, 7] (fun w hm => ld_run (b := aB (some ⟨b_390, 0, none⟩)) (off := (aO (some ⟨b_390, 0, none⟩) + (1 : Int).toNat * 1)) (s := 1) (agg := false) (vs := (encI64 x_20)) (by kernel_rfl) (by kernel_rfl) (.inr rfl) ((hm.ow 5 (some b_390) 51 x_12.1 [] (fun e => nomatch e) encI64_len).at hx_411)) ?_)
      obtain ⟨x_21, hx_412, h⟩ := bd h
      exact qv 8 0 [0, 1, 2, 3, 4, 5, 6, 7] (fun w hm => idx_run (a := (hd hh_12 x_18).a) (len := ((hd hh_12 x_18).n)) (s := 1) (j := x_20) (by kernel_rfl) (ix_some hx_412).1 (ltn hx_412 (hI_13.get hx_410).1) (hI_13.sp hx_410 hx_412)) (qv 9 0 [0, 1, 2, 3, 4, 5, 6, 7] (fun w hm => ld_run (b := aB (hd hh_12 x_18).a) (off := (aO (hd hh_12 x_18).a + x_20.toNat * 1)) (s := 1) (agg := false) (vs := (encI64 x_21)) (by kernel_rfl) (by kernel_rfl) (.inr rfl) (((hm.cluInn 2 hI_13 encI64_len).get hx_410).1.at hx_412)) (qd [⟨10, 0, 0⟩,⟨11, 0, 0⟩] 0 [0, 1, 2, 3, 4, 5, 6, 7] (qz (jx_inn (jx_then (jc_region (qh [0,0] (qe (qb ((xs_7 ++ ([x_12] : List (Arr 2 Int))), (w64 (i_8 + x_21)), (w64 (i_9 + 1))) ⟨o_404, cap_405, sp_406, (xs_7 ++ ([x_12] : List (Arr 2 Int))).length⟩ h ⟨rfl, hs_407, ho_408⟩ [0, 1, 2, 3, 4])))))))))
     ·exact jc_skip (jx_inn (jx_then (jc_region (qh [0,0] (qe (qb (xs_7, i_8, (w64 (i_9 + 1))) ⟨o_379, cap_380, sp_381, xs_7.length⟩ h ⟨rfl, hs_383, ho_384⟩ [0, 1, 2, 3, 4]))))))
    ·refine jc_exit (jx_thenx (jx_leave (xs_7, i_8) (Option.some.inj h).symm (fun e_413 => ?_)))
     subst e_413
     exact jx_ine (qm ⟨xs_7, i_8, o_379, cap_380, sp_381, xs_7.length⟩ ⟨hr_385, rfl, hs_383, ho_384⟩ [0, 1, 2, 3, 4])
   ·rintro ⟨xs_4, i_5, o_315, cap_316, sp_317, n_318⟩ ⟨h, rfl, hs_319, ho_320⟩
    replace h : impl_TreeOf.k_6 xs_4 i_5 = some r := h
    rw [impl_TreeOf.k_6] at h
    refine jx_then (jc_seq (jc_region (qh [0,0,0,0,0] (qe (jx_then (jc_ret ?_))))))
    obtain rfl := Option.some.inj h
    exact qr [] (fun w hm => ⟨o_315, cap_316, sp_317, xs_4.length, rfl, hs_319, ho_320, rfl, hm.pk [3]⟩)
end

end Go.Proofs.Ytolfkfjjifdmeaa
