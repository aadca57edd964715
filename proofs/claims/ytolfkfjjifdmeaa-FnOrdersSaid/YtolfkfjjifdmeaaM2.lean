/- Functions of the program that the laws reach: a plain function each, and that the call comes to its answer if the plain function has one. Printed by a program. -/
import Derived.Test.YtolfkfjjifdmeaaT
import Derived.Test.YtolfkfjjifdmeaaTab
import Derived.Test.YtolfkfjjifdmeaaM0
import Derived.Test.YtolfkfjjifdmeaaM1
namespace Go.Proofs.Ytolfkfjjifdmeaa
open Eng
set_option linter.unusedVariables false

set_option linter.unusedSectionVars false
set_option maxRecDepth 100000
variable [dsW : DrwS]
noncomputable section
/-! ### spec.l05Tree -/
def spec_l05Tree.k_6 (xs_3 : List Int) (xs_4 : List (Arr 2 Int)) (i_5 : Int) : Option ((List (Arr 2 Int)) × Int) := some (xs_4, i_5)
def spec_l05Tree.k_20 (xs_8 : List (Arr 2 Int)) (i_9 : Int) (i_12 : Int) (i_13 : Int) (x_16 : Int) (xs_19 : List Int) : Option (((List Int) × (List (Arr 2 Int)) × Int) ⊕ (((List Int) × (List (Arr 2 Int)) × Int))) := some (.inl (xs_19, (xs_8 ++ ([(Arr.set (Arr.set (Arr.rep 2 0) 0 i_12) 1 i_13)] : List (Arr 2 Int))), (w64 (i_9 + x_16))))
def spec_l05Tree.l_23 (table0 : List (List Int)) (x_17 : Int) (x_18 : Int) : ((List Int) × Int) → Option (((List Int) × Int) ⊕ ((List Int)))
  | (xs_21, i_22) => (if (decide (i_22 < (table0.length : Int))) = true then (ix xs_21 i_22).bind fun x_25 => (if (x_25 == x_17) = true then (ix xs_21 i_22).bind fun x_26 => some (.inl ((xs_21.set i_22.toNat x_18), (w64 (i_22 + 1)))) else some (.inl (xs_21, (w64 (i_22 + 1))))) else some (.inr xs_21))
def spec_l05Tree.k_14 (table0 : List (List Int)) (xs_7 : List Int) (xs_8 : List (Arr 2 Int)) (i_9 : Int) (i_12 : Int) (i_13 : Int) : Option (((List Int) × (List (Arr 2 Int)) × Int) ⊕ (((List Int) × (List (Arr 2 Int)) × Int))) := (if xs_8.length + ([(Arr.set (Arr.set (Arr.rep 2 0) 0 i_12) 1 i_13)] : List (Arr 2 Int)).length ≤ 4294967296 then (ix table0 i_12).bind fun x_15 => (ix x_15 i_13).bind fun x_16 => (ix xs_7 i_13).bind fun x_17 => (ix xs_7 i_12).bind fun x_18 => (loop (spec_l05Tree.l_23 table0 x_17 x_18) (xs_7, 0)).bind fun t_24 => spec_l05Tree.k_20 xs_8 i_9 i_12 i_13 x_16 t_24 else none)
def spec_l05Tree.k_34 (i_29 : Int) (i_32 : Int) (i_33 : Int) : Option ((Int × Int × Int) ⊕ ((Int × Int))) := some (.inl (i_32, i_33, (w64 (i_29 + 1))))
def spec_l05Tree.k_41 (i_29 : Int) (i_35 : Int) (i_36 : Int) (i_37 : Int) (q_40 : Bool) : Option ((Int × Int × Int) ⊕ ((Int × Int))) := (if q_40 = true then some (.inl (i_29, i_37, (w64 (i_37 + 1)))) else some (.inl (i_35, i_36, (w64 (i_37 + 1)))))
def spec_l05Tree.l_38 (table0 : List (List Int)) (xs_7 : List Int) (i_29 : Int) : (Int × Int × Int) → Option ((Int × Int × Int) ⊕ ((Int × Int)))
  | (i_35, i_36, i_37) => (if (decide (i_37 < (table0.length : Int))) = true then (ix xs_7 i_29).bind fun x_42 => (ix xs_7 i_37).bind fun x_43 => (if (x_42 != x_43) = true then (if (decide (i_35 < 0)) = true then spec_l05Tree.k_41 i_29 i_35 i_36 i_37 true else (ix table0 i_29).bind fun x_44 => (ix x_44 i_37).bind fun x_45 => (ix table0 i_35).bind fun x_46 => (ix x_46 i_36).bind fun x_47 => spec_l05Tree.k_41 i_29 i_35 i_36 i_37 (decide (x_45 < x_47))) else spec_l05Tree.k_41 i_29 i_35 i_36 i_37 false) else some (.inr (i_35, i_36)))
def spec_l05Tree.l_30 (table0 : List (List Int)) (xs_7 : List Int) : (Int × Int × Int) → Option ((Int × Int × Int) ⊕ ((Int × Int)))
  | (i_27, i_28, i_29) => (if (decide (i_29 < (table0.length : Int))) = true then (loop (spec_l05Tree.l_38 table0 xs_7 i_29) (i_27, i_28, (w64 (i_29 + 1)))).bind fun t_39 => spec_l05Tree.k_34 i_29 t_39.1 t_39.2 else some (.inr (i_27, i_28)))
def spec_l05Tree.l_10 (table0 : List (List Int)) : ((List Int) × (List (Arr 2 Int)) × Int) → Option (((List Int) × (List (Arr 2 Int)) × Int) ⊕ (((List Int) × (List (Arr 2 Int)) × Int)))
  | (xs_7, xs_8, i_9) => (if (decide ((w64 ((xs_8.length : Int) + 1)) < (table0.length : Int))) = true then (loop (spec_l05Tree.l_30 table0 xs_7) ((-1), (-1), 0)).bind fun t_31 => spec_l05Tree.k_14 table0 xs_7 xs_8 i_9 t_31.1 t_31.2 else some (.inr (xs_7, xs_8, i_9)))
def spec_l05Tree.k_2 (table0 : List (List Int)) (xs_1 : List Int) : Option ((List (Arr 2 Int)) × Int) := (loop (spec_l05Tree.l_10 table0) (xs_1, ([] : List (Arr 2 Int)), 0)).bind fun t_11 => spec_l05Tree.k_6 t_11.1 t_11.2.1 t_11.2.2
def spec_l05Tree.l_50 (table0 : List (List Int)) : ((List Int) × Int) → Option (((List Int) × Int) ⊕ ((List Int)))
  | (xs_48, i_49) => (if (decide (i_49 < (table0.length : Int))) = true then (if xs_48.length + ([i_49] : List Int).length ≤ 4294967296 then some (.inl ((xs_48 ++ ([i_49] : List Int)), (w64 (i_49 + 1)))) else none) else some (.inr xs_48))
def spec_l05Tree (table0 : List (List Int)) : Option ((List (Arr 2 Int)) × Int) := (loop (spec_l05Tree.l_50 table0) (([] : List Int), 0)).bind fun t_51 => spec_l05Tree.k_2 table0 t_51
set_option maxHeartbeats 8000000 in
theorem spec_l05Tree.calls (table0 : List (List Int)) (w : World) (r : (List (Arr 2 Int)) × Int) {A_a : Option Addr} {A_an : Nat} (A_c : Nat) {A_hs : List Hd} (A_h : Rw w A_a 1 encHd A_hs) (A_hn : table0.length = A_an) (A_i : Inn w [] 1 encI64 A_hs table0) (h : spec_l05Tree table0 = some r) :
    Calls Try.prog 43 #[(.slice A_a A_an A_c)] w fun e w' => ∃ v, e = .returned v ∧ (∃ (o0 : Option Nat) (c0 : Nat) (s0 : List Value) (n0 : Nat), r.1.length = n0 ∧ (o0 ≠ none → n0 ≤ c0 ∧ s0.length = (c0 - n0) * 2) ∧ (o0 = none → r.1 = [] ∧ c0 = 0) ∧ v = .tuple #[.slice (o0.map fun b => ⟨b, 0, none⟩) n0 c0, (.int .i64 r.2)] ∧ Mem w [] [⟨o0, 51, row encA2I64 r.1 s0⟩] w') := by
  subst A_hn
  rw [spec_l05Tree] at h
  refine enter (args := [(.slice A_a table0.length A_c)]) Try.func43 rfl Try.ntmps43 (by kernel_rfl) (L := []) (W := []) (Mem.start w) ?_
  refine jc_seq (jc_region (qh [0,0] (qe (jx_then (jc_seq (jc_region (qh [0,0,0] (qe (jx_then (jc_seq (jc_region (tO (qa 0 (fun b_1 => jkO (qh [0] (qe (jx_then (jc_seq (jc_seq (jc_region (qh [0] (qe (jx_then (jc_meet (fun (j : (List Int) × (Option Nat) × Nat × (List Value) × Nat) => match j with | ⟨xs_1, o_137, cap_138, sp_139, n_140⟩ => spec_l05Tree.k_2 table0 xs_1 = some r ∧ (xs_1.length = n_140) ∧ ((o_137 ≠ none → n_140 ≤ cap_138 ∧ sp_139.length = (cap_138 - n_140) * 1)) ∧ ((o_137 = none → xs_1 = [] ∧ cap_138 = 0))) (fun (j : (List Int) × (Option Nat) × Nat × (List Value) × Nat) => match j with | ⟨xs_1, o_137, cap_138, sp_139, n_140⟩ => [(0, [], (.slice A_a table0.length A_c)), (2, [], (.slice none 0 0)), (3, [], (.int .i64 0)), (4, [], (.int .i64 (table0.length : Int))), (5, [], (.slice (o_137.map fun b => ⟨b, 0, none⟩) n_140 cap_138))]) (fun (j : (List Int) × (Option Nat) × Nat × (List Value) × Nat) => match j with | ⟨xs_1, o_137, cap_138, sp_139, n_140⟩ => [⟨o_137, 3, row encI64 xs_1 sp_139⟩]) ?_ ?_))))))))))))))))))))))))
  ·refine jc_block ?_
   obtain ⟨t_51, ht_19002, hr_18990⟩ := bd h
   refine jc_loop (fun (s : (List Int) × Int) (x : (Option Nat) × Nat × (List Value) × Nat) => match s, x with | ⟨xs_48, i_49⟩, ⟨o_18984, cap_18985, sp_18986, n_18987⟩ => (xs_48.length = n_18987) ∧ ((o_18984 ≠ none → n_18987 ≤ cap_18985 ∧ sp_18986.length = (cap_18985 - n_18987) * 1)) ∧ ((o_18984 = none → xs_48 = [] ∧ cap_18985 = 0))) (fun (s : (List Int) × Int) (x : (Option Nat) × Nat × (List Value) × Nat) => match s, x with | ⟨xs_48, i_49⟩, ⟨o_18984, cap_18985, sp_18986, n_18987⟩ => [(0, [], (.slice A_a table0.length A_c)), (2, [], (.slice none 0 0)), (3, [], (.int .i64 0)), (4, [], (.int .i64 (table0.length : Int))), (5, [], (.slice (o_18984.map fun b => ⟨b, 0, none⟩) n_18987 cap_18985)), (6, [], (.int .i64 i_49))]) (fun (s : (List Int) × Int) (x : (Option Nat) × Nat × (List Value) × Nat) => match s, x with | ⟨xs_48, i_49⟩, ⟨o_18984, cap_18985, sp_18986, n_18987⟩ => [⟨o_18984, 3, row encI64 xs_48 sp_18986⟩]) ht_19002 ⟨(some b_1), 0, [], 0⟩ ⟨rfl, (fun _ => ⟨Nat.le_refl _, by simp⟩), (fun e => nomatch e)⟩ (by kernel_rfl) [0] (by kernel_rfl) (by kernel_rfl) ?_
   rintro ⟨xs_48, i_49⟩ ⟨o_18984, cap_18985, sp_18986, n_18987⟩ y_18991 ⟨rfl, hs_18988, ho_18989⟩ h
   rw [spec_l05Tree.l_50] at h
   refine jc_seq (jc_seq (jc_region (qh [0,0,0] (qe (jx_then (qi h (fun h => ?_) (fun h => ?_)))))))
   ·refine jc_skip (jx_then (jc_seq (jc_block (jc_region (qh [0,0] (tO (qa 0 (fun b_18994 => jkO ?_))))))))
    obtain ⟨hg_18995, h⟩ := gd h
    exact tO (p_apn 0 0 o_18984 3 xs_48.length 1 cap_18985 1 8 (some ⟨b_18994, 0, none⟩) encI64 xs_48 ([i_49] : List Int) sp_18986 (.int .i64 0) rfl rfl (by kernel_rfl) (by kernel_rfl) (by kernel_rfl) encI64_len encI64_cell hs_18988 ho_18989 (fun w hm => (hm.ow 1 (some b_18994) 3 ([i_49] : List Int) [] (fun e => nomatch e) encI64_len)) hg_18995 (by kernel_rfl) (by kernel_rfl) (fun o_18996 cap_18997 sp_18998 hs_18999 ho_19000 => jkO (qh [0] (qe (jx_inn (jx_then (jc_region (qh [0,0,0] (qe (qb ((xs_48 ++ ([i_49] : List Int)), (w64 (i_49 + 1))) ⟨o_18996, cap_18997, sp_18998, (xs_48 ++ ([i_49] : List Int)).length⟩ h ⟨rfl, hs_18999, ho_19000⟩ [0]))))))))))
   ·refine jc_exit (jx_thenx (jx_leave xs_48 (Option.some.inj h).symm (fun e_19001 => ?_)))
    subst e_19001
    exact jx_ine (qm ⟨xs_48, o_18984, cap_18985, sp_18986, xs_48.length⟩ ⟨hr_18990, rfl, hs_18988, ho_18989⟩ [0])
  ·rintro ⟨xs_1, o_137, cap_138, sp_139, n_140⟩ ⟨h, rfl, hs_141, ho_142⟩
   replace h : spec_l05Tree.k_2 table0 xs_1 = some r := h
   rw [spec_l05Tree.k_2] at h
   refine jx_then (jc_seq (jc_region (tO (qa 0 (fun b_143 => jkO (qh [0] (qe (jx_then (jc_seq (jc_region (qh [0] (qe (jx_then (jc_seq (jc_meet (fun (j : (List Int) × (List (Arr 2 Int)) × Int × (Option Nat) × Nat × (List Value) × Nat) => match j with | ⟨xs_3, xs_4, i_5, o_9550, cap_9551, sp_9552, n_9553⟩ => spec_l05Tree.k_6 xs_3 xs_4 i_5 = some r ∧ (xs_3.length = xs_1.length) ∧ ((o_137 = none → xs_3 = [] ∧ cap_138 = 0)) ∧ (xs_4.length = n_9553) ∧ ((o_9550 ≠ none → n_9553 ≤ cap_9551 ∧ sp_9552.length = (cap_9551 - n_9553) * 2)) ∧ ((o_9550 = none → xs_4 = [] ∧ cap_9551 = 0))) (fun (j : (List Int) × (List (Arr 2 Int)) × Int × (Option Nat) × Nat × (List Value) × Nat) => match j with | ⟨xs_3, xs_4, i_5, o_9550, cap_9551, sp_9552, n_9553⟩ => [(2, [], (.slice none 0 0)), (3, [], (.int .i64 0)), (7, [], (.slice (o_9550.map fun b => ⟨b, 0, none⟩) n_9553 cap_9551)), (8, [], (.int .i64 i_5))]) (fun (j : (List Int) × (List (Arr 2 Int)) × Int × (Option Nat) × Nat × (List Value) × Nat) => match j with | ⟨xs_3, xs_4, i_5, o_9550, cap_9551, sp_9552, n_9553⟩ => [⟨o_137, 3, row encI64 xs_3 sp_139⟩, ⟨o_9550, 51, row encA2I64 xs_4 sp_9552⟩]) ?_ ?_)))))))))))))))
   ·refine jc_block ?_
    obtain ⟨t_11, ht_18959, hr_15828⟩ := bd h
    refine jc_loop (fun (s : (List Int) × (List (Arr 2 Int)) × Int) (x : (Option Nat) × Nat × (List Value) × Nat) => match s, x with | ⟨xs_7, xs_8, i_9⟩, ⟨o_15822, cap_15823, sp_15824, n_15825⟩ => (xs_7.length = xs_1.length) ∧ ((o_137 = none → xs_7 = [] ∧ cap_138 = 0)) ∧ (xs_8.length = n_15825) ∧ ((o_15822 ≠ none → n_15825 ≤ cap_15823 ∧ sp_15824.length = (cap_15823 - n_15825) * 2)) ∧ ((o_15822 = none → xs_8 = [] ∧ cap_15823 = 0))) (fun (s : (List Int) × (List (Arr 2 Int)) × Int) (x : (Option Nat) × Nat × (List Value) × Nat) => match s, x with | ⟨xs_7, xs_8, i_9⟩, ⟨o_15822, cap_15823, sp_15824, n_15825⟩ => [(0, [], (.slice A_a table0.length A_c)), (2, [], (.slice none 0 0)), (3, [], (.int .i64 0)), (4, [], (.int .i64 (table0.length : Int))), (5, [], (.slice (o_137.map fun b => ⟨b, 0, none⟩) xs_1.length cap_138)), (7, [], (.slice (o_15822.map fun b => ⟨b, 0, none⟩) n_15825 cap_15823)), (8, [], (.int .i64 i_9))]) (fun (s : (List Int) × (List (Arr 2 Int)) × Int) (x : (Option Nat) × Nat × (List Value) × Nat) => match s, x with | ⟨xs_7, xs_8, i_9⟩, ⟨o_15822, cap_15823, sp_15824, n_15825⟩ => [⟨o_137, 3, row encI64 xs_7 sp_139⟩, ⟨o_15822, 51, row encA2I64 xs_8 sp_15824⟩]) ht_18959 ⟨(some b_143), 0, [], 0⟩ ⟨rfl, ho_142, rfl, (fun _ => ⟨Nat.le_refl _, by simp⟩), (fun e => nomatch e)⟩ (by kernel_rfl) [0, 1] (by kernel_rfl) (by kernel_rfl) ?_
    rintro ⟨xs_7, xs_8, i_9⟩ ⟨o_15822, cap_15823, sp_15824, n_15825⟩ y_15829 ⟨hn_15821, ho_15820, rfl, hs_15826, ho_15827⟩ h
    rw [spec_l05Tree.l_10] at h
    refine jc_seq (jc_seq (jc_region (qh [0,0,0,0,0] (qe (jx_then (qi h (fun h => ?_) (fun h => ?_)))))))
    ·refine jc_skip (jx_then (jc_block (jc_seq (jc_region (qh [0] (qe (jx_then (jc_seq (jc_region (qh [0] (qe (jx_then (jc_seq (jc_seq (jc_region (qh [0] (qe (jx_then (jc_meet (fun (j : Int × Int) => match j with | ⟨i_12, i_13⟩ => spec_l05Tree.k_14 table0 xs_7 xs_8 i_9 i_12 i_13 = some y_15829) (fun (j : Int × Int) => match j with | ⟨i_12, i_13⟩ => [(0, [], (.slice A_a table0.length A_c)), (2, [], (.slice none 0 0)), (3, [], (.int .i64 0)), (4, [], (.int .i64 (table0.length : Int))), (5, [], (.slice (o_137.map fun b => ⟨b, 0, none⟩) xs_1.length cap_138)), (7, [], (.slice (o_15822.map fun b => ⟨b, 0, none⟩) xs_8.length cap_15823)), (8, [], (.int .i64 i_9)), (9, [], (.int .i64 i_12)), (10, [], (.int .i64 i_13))]) (fun (j : Int × Int) => match j with | ⟨i_12, i_13⟩ => [⟨o_137, 3, row encI64 xs_7 sp_139⟩, ⟨o_15822, 51, row encA2I64 xs_8 sp_15824⟩]) ?_ ?_)))))))))))))))))))
     ·refine jc_block ?_
      obtain ⟨t_31, ht_18957, hr_18830⟩ := bd h
      refine jc_loop (fun (s : Int × Int × Int) (x : Unit) => match s, x with | ⟨i_27, i_28, i_29⟩, _ => True) (fun (s : Int × Int × Int) (x : Unit) => match s, x with | ⟨i_27, i_28, i_29⟩, _ => [(0, [], (.slice A_a table0.length A_c)), (2, [], (.slice none 0 0)), (3, [], (.int .i64 0)), (4, [], (.int .i64 (table0.length : Int))), (5, [], (.slice (o_137.map fun b => ⟨b, 0, none⟩) xs_1.length cap_138)), (7, [], (.slice (o_15822.map fun b => ⟨b, 0, none⟩) xs_8.length cap_15823)), (8, [], (.int .i64 i_9)), (9, [], (.int .i64 i_27)), (10, [], (.int .i64 i_28)), (11, [], (.int .i64 i_29))]) (fun (s : Int × Int × Int) (x : Unit) => match s, x with | ⟨i_27, i_28, i_29⟩, _ => [⟨o_137, 3, row encI64 xs_7 sp_139⟩, ⟨o_15822, 51, row encA2I64 xs_8 sp_15824⟩]) ht_18957 () trivial (by kernel_rfl) [0, 1] (by kernel_rfl) (by kernel_rfl) ?_
      rintro ⟨i_27, i_28, i_29⟩ _ y_18831 _ h
      rw [spec_l05Tree.l_30] at h
      refine jc_seq (jc_seq (jc_region (qh [0,0,0] (qe (jx_then (qi h (fun h => ?_) (fun h => ?_)))))))
      ·refine jc_skip (jx_then (jc_seq (jc_block (jc_seq (jc_region (qh [0,0,0] (qe (jx_then (jc_meet (fun (j : Int × Int) => match j with | ⟨i_32, i_33⟩ => spec_l05Tree.k_34 i_29 i_32 i_33 = some y_18831) (fun (j : Int × Int) => match j with | ⟨i_32, i_33⟩ => [(0, [], (.slice A_a table0.length A_c)), (2, [], (.slice none 0 0)), (3, [], (.int .i64 0)), (4, [], (.int .i64 (table0.length : Int))), (5, [], (.slice (o_137.map fun b => ⟨b, 0, none⟩) xs_1.length cap_138)), (7, [], (.slice (o_15822.map fun b => ⟨b, 0, none⟩) xs_8.length cap_15823)), (8, [], (.int .i64 i_9)), (9, [], (.int .i64 i_32)), (10, [], (.int .i64 i_33)), (11, [], (.int .i64 i_29))]) (fun (j : Int × Int) => match j with | ⟨i_32, i_33⟩ => [⟨o_137, 3, row encI64 xs_7 sp_139⟩, ⟨o_15822, 51, row encA2I64 xs_8 sp_15824⟩]) ?_ ?_)))))))))
       ·refine jc_block ?_
        obtain ⟨t_39, ht_18955, hr_18933⟩ := bd h
        refine jc_loop (fun (s : Int × Int × Int) (x : Unit) => match s, x with | ⟨i_35, i_36, i_37⟩, _ => True) (fun (s : Int × Int × Int) (x : Unit) => match s, x with | ⟨i_35, i_36, i_37⟩, _ => [(0, [], (.slice A_a table0.length A_c)), (2, [], (.slice none 0 0)), (3, [], (.int .i64 0)), (4, [], (.int .i64 (table0.length : Int))), (5, [], (.slice (o_137.map fun b => ⟨b, 0, none⟩) xs_1.length cap_138)), (7, [], (.slice (o_15822.map fun b => ⟨b, 0, none⟩) xs_8.length cap_15823)), (8, [], (.int .i64 i_9)), (9, [], (.int .i64 i_35)), (10, [], (.int .i64 i_36)), (11, [], (.int .i64 i_29)), (12, [], (.int .i64 i_37))]) (fun (s : Int × Int × Int) (x : Unit) => match s, x with | ⟨i_35, i_36, i_37⟩, _ => [⟨o_137, 3, row encI64 xs_7 sp_139⟩, ⟨o_15822, 51, row encA2I64 xs_8 sp_15824⟩]) ht_18955 () trivial (by kernel_rfl) [0, 1] (by kernel_rfl) (by kernel_rfl) ?_
        rintro ⟨i_35, i_36, i_37⟩ _ y_18934 _ h
        rw [spec_l05Tree.l_38] at h
        refine jc_seq (jc_seq (jc_region (qh [0,0,0] (qe (jx_then (qi h (fun h => ?_) (fun h => ?_)))))))
        ·refine jc_skip (jx_then (jc_seq (jc_block (jc_seq (jc_meet (fun (j : Bool) => match j with | q_40 => spec_l05Tree.k_41 i_29 i_35 i_36 i_37 q_40 = some y_18934) (fun (j : Bool) => match j with | q_40 => [(0, [], (.slice A_a table0.length A_c)), (2, [], (.slice none 0 0)), (3, [], (.int .i64 0)), (4, [], (.int .i64 (table0.length : Int))), (5, [], (.slice (o_137.map fun b => ⟨b, 0, none⟩) xs_1.length cap_138)), (7, [], (.slice (o_15822.map fun b => ⟨b, 0, none⟩) xs_8.length cap_15823)), (8, [], (.int .i64 i_9)), (9, [], (.int .i64 i_35)), (10, [], (.int .i64 i_36)), (11, [], (.int .i64 i_29)), (12, [], (.int .i64 i_37)), (75, [], (.bool q_40))]) (fun (j : Bool) => match j with | q_40 => [⟨o_137, 3, row encI64 xs_7 sp_139⟩, ⟨o_15822, 51, row encA2I64 xs_8 sp_15824⟩]) ?_ ?_)))))
         ·refine qg [⟨o_137, 3, row encI64 xs_7 sp_139⟩, ⟨o_15822, 51, row encA2I64 xs_8 sp_15824⟩] 30 (qd [⟨0, 0, 0⟩,⟨1, 0, 0⟩,⟨4, 0, 0⟩,⟨5, 0, 0⟩] 26 [0, 1] ?_)
          obtain ⟨x_42, hx_18946, h⟩ := bd h
          refine qv 2 0 [0, 1] (fun w hm => idx_run (a := (o_137.map fun b => ⟨b, 0, none⟩)) (len := xs_1.length) (s := 1) (j := i_29) (by kernel_rfl) (ix_some hx_18946).1 (ltn hx_18946 hn_15821) (spo ho_15820 hx_18946)) (qv 3 0 [0, 1] (fun w hm => ld_run (b := aB (o_137.map fun b => ⟨b, 0, none⟩)) (off := (aO (o_137.map fun b => ⟨b, 0, none⟩) + i_29.toNat * 1)) (s := 1) (agg := false) (vs := (encI64 x_42)) (by kernel_rfl) (by kernel_rfl) (.inr rfl) ((hm.ow 0 o_137 3 xs_7 sp_139 (fun e => (ho_15820 e).1) encI64_len).at hx_18946)) ?_)
          obtain ⟨x_43, hx_18947, h⟩ := bd h
          refine qv 6 0 [0, 1] (fun w hm => idx_run (a := (o_137.map fun b => ⟨b, 0, none⟩)) (len := xs_1.length) (s := 1) (j := i_37) (by kernel_rfl) (ix_some hx_18947).1 (ltn hx_18947 hn_15821) (spo ho_15820 hx_18947)) (qv 7 0 [0, 1] (fun w hm => ld_run (b := aB (o_137.map fun b => ⟨b, 0, none⟩)) (off := (aO (o_137.map fun b => ⟨b, 0, none⟩) + i_37.toNat * 1)) (s := 1) (agg := false) (vs := (encI64 x_43)) (by kernel_rfl) (by kernel_rfl) (.inr rfl) ((hm.ow 0 o_137 3 xs_7 sp_139 (fun e => (ho_15820 e).1) encI64_len).at hx_18947)) (qd [⟨8, 0, 0⟩,⟨9, 0, 0⟩,⟨10, 0, 1⟩,⟨11, 0, 1⟩] 18 [0, 1] (jd_split 55 (x_42 != x_43) (by kernel_rfl) (fun hc_18948 => ?_) (fun hc_18948 => ?_))))
          ·replace h := ifT hc_18948 h
           refine qd [⟨12, 0, 2⟩,⟨13, 0, 1⟩,⟨14, 0, 1⟩,⟨17, 0, 1⟩,⟨20, 0, 1⟩,⟨21, 0, 1⟩,⟨24, 0, 1⟩] 11 [0, 1] (jd_split 58 (decide (i_35 < 0)) (by kernel_rfl) (fun hc_18949 => ?_) (fun hc_18949 => ?_))
           ·replace h := ifT hc_18949 h
            exact qd [⟨15, 0, 3⟩,⟨16, 0, 3⟩,⟨18, 0, 3⟩,⟨19, 0, 3⟩,⟨22, 0, 3⟩,⟨23, 0, 3⟩,⟨25, 0, 3⟩,⟨26, 0, 3⟩,⟨27, 0, 3⟩,⟨28, 0, 4⟩,⟨29, 0, 4⟩] 0 [0, 1] (qz (qm true h [0, 1]))
           ·replace h := ifF hc_18949 h
            obtain ⟨x_44, hx_18950, h⟩ := bd h
            refine qv 15 2 [0, 1] (fun w hm => idx_run (a := A_a) (len := table0.length) (s := 1) (j := i_29) (by kernel_rfl) (ix_some hx_18950).1 (ltn hx_18950 rfl) (A_h.sp (A_i.ixh hx_18950))) (qv 16 2 [0, 1] (fun w hm => ld_run (b := aB A_a) (off := (aO A_a + i_29.toNat * 1)) (s := 1) (agg := false) (vs := encHd (hd A_hs i_29)) (by kernel_rfl) (by kernel_rfl) (.inr rfl) ((hm.xr A_h).at (A_i.ixh hx_18950))) ?_)
            obtain ⟨x_45, hx_18951, h⟩ := bd h
            refine qv 18 2 [0, 1] (fun w hm => idx_run (a := (hd A_hs i_29).a) (len := ((hd A_hs i_29).n)) (s := 1) (j := i_37) (by kernel_rfl) (ix_some hx_18951).1 (ltn hx_18951 (A_i.get hx_18950).2.1) ((A_i.get hx_18950).1.sp hx_18951)) (qv 19 2 [0, 1] (fun w hm => ld_run (b := aB (hd A_hs i_29).a) (off := (aO (hd A_hs i_29).a + i_37.toNat * 1)) (s := 1) (agg := false) (vs := (encI64 x_45)) (by kernel_rfl) (by kernel_rfl) (.inr rfl) ((hm.exRow (A_i.get hx_18950).1 List.not_mem_nil).at hx_18951)) ?_)
            obtain ⟨x_46, hx_18952, h⟩ := bd h
            refine qv 22 2 [0, 1] (fun w hm => idx_run (a := A_a) (len := table0.length) (s := 1) (j := i_35) (by kernel_rfl) (ix_some hx_18952).1 (ltn hx_18952 rfl) (A_h.sp (A_i.ixh hx_18952))) (qv 23 2 [0, 1] (fun w hm => ld_run (b := aB A_a) (off := (aO A_a + i_35.toNat * 1)) (s := 1) (agg := false) (vs := encHd (hd A_hs i_35)) (by kernel_rfl) (by kernel_rfl) (.inr rfl) ((hm.xr A_h).at (A_i.ixh hx_18952))) ?_)
            obtain ⟨x_47, hx_18953, h⟩ := bd h
            exact qv 25 2 [0, 1] (fun w hm => idx_run (a := (hd A_hs i_35).a) (len := ((hd A_hs i_35).n)) (s := 1) (j := i_36) (by kernel_rfl) (ix_some hx_18953).1 (ltn hx_18953 (A_i.get hx_18952).2.1) ((A_i.get hx_18952).1.sp hx_18953)) (qv 26 2 [0, 1] (fun w hm => ld_run (b := aB (hd A_hs i_35).a) (off := (aO (hd A_hs i_35).a + i_36.toNat * 1)) (s := 1) (agg := false) (vs := (encI64 x_47)) (by kernel_rfl) (by kernel_rfl) (.inr rfl) ((hm.exRow (A_i.get hx_18952).1 List.not_mem_nil).at hx_18953)) (qd [⟨27, 0, 2⟩,⟨28, 0, 5⟩,⟨29, 0, 4⟩] 0 [0, 1] (qz (qm (decide (x_45 < x_47)) h [0, 1]))))
          ·replace h := ifF hc_18948 h
           exact qd [⟨12, 0, 3⟩,⟨13, 0, 3⟩,⟨14, 0, 3⟩,⟨15, 0, 3⟩,⟨16, 0, 3⟩,⟨17, 0, 3⟩,⟨18, 0, 3⟩,⟨19, 0, 3⟩,⟨20, 0, 3⟩,⟨21, 0, 3⟩,⟨22, 0, 3⟩,⟨23, 0, 3⟩,⟨24, 0, 3⟩,⟨25, 0, 3⟩,⟨26, 0, 3⟩,⟨27, 0, 3⟩,⟨28, 0, 3⟩,⟨29, 0, 5⟩] 0 [0, 1] (qz (qm false h [0, 1]))
         ·rintro q_40 h
          replace h : spec_l05Tree.k_41 i_29 i_35 i_36 i_37 q_40 = some y_18934 := h
          rw [spec_l05Tree.k_41] at h
          refine jx_then (qi h (fun h => ?_) (fun h => ?_))
          ·exact jc_seq (jc_region (qh [0,0] (qe (jx_then (jc_region (qh [0,0] (qe (jx_inn (jx_then (jc_region (qh [0,0,0] (qe (qb (i_29, i_37, (w64 (i_37 + 1))) () h trivial [0, 1])))))))))))))
          ·exact jc_skip (jx_inn (jx_then (jc_region (qh [0,0,0] (qe (qb (i_35, i_36, (w64 (i_37 + 1))) () h trivial [0, 1]))))))
        ·refine jc_exit (jx_thenx (jx_leave (i_35, i_36) (Option.some.inj h).symm (fun e_18954 => ?_)))
         subst e_18954
         exact jx_ine (qm ⟨i_35, i_36⟩ hr_18933 [0, 1])
       ·rintro ⟨i_32, i_33⟩ h
        replace h : spec_l05Tree.k_34 i_29 i_32 i_33 = some y_18831 := h
        rw [spec_l05Tree.k_34] at h
        exact jx_inn (jx_then (jc_region (qh [0,0,0] (qe (qb (i_32, i_33, (w64 (i_29 + 1))) () h trivial [0, 1])))))
      ·refine jc_exit (jx_thenx (jx_leave (i_27, i_28) (Option.some.inj h).symm (fun e_18956 => ?_)))
       subst e_18956
       exact jx_ine (qm ⟨i_27, i_28⟩ hr_18830 [0, 1])
     ·rintro ⟨i_12, i_13⟩ h
      replace h : spec_l05Tree.k_14 table0 xs_7 xs_8 i_9 i_12 i_13 = some y_15829 := h
      rw [spec_l05Tree.k_14] at h
      refine jx_then (jc_seq (jc_region (qh [0,0,0,0] (tO (p_bs 0 51 2 1 encA2I64 [(.agg (row encI64 (Arr.set (Arr.set (Arr.rep 2 0) 0 i_12) 1 i_13).1 []).toArray)] [(Arr.set (Arr.set (Arr.rep 2 0) 0 i_12) 1 i_13)] (by kernel_rfl) (by kernel_rfl) rfl (by kernel_rfl) (by kernel_rfl) encA2I64_len (fun b_18523 => jkO ?_))))))
      obtain ⟨hg_18524, h⟩ := gd h
      refine tO (p_apn 0 1 o_15822 51 xs_8.length 1 cap_15823 2 16 (some ⟨b_18523, 0, none⟩) encA2I64 xs_8 ([(Arr.set (Arr.set (Arr.rep 2 0) 0 i_12) 1 i_13)] : List (Arr 2 Int)) sp_15824 (.agg (row encI64 (Arr.rep 2 0).1 []).toArray) rfl rfl (by kernel_rfl) (by kernel_rfl) (by kernel_rfl) encA2I64_len encA2I64_cell hs_15826 ho_15827 (fun w hm => (hm.ow 2 (some b_18523) 51 ([(Arr.set (Arr.set (Arr.rep 2 0) 0 i_12) 1 i_13)] : List (Arr 2 Int)) [] (fun e => nomatch e) encA2I64_len)) hg_18524 (by kernel_rfl) (by kernel_rfl) (fun o_18525 cap_18526 sp_18527 hs_18528 ho_18529 => jkO (qh [0] (qe (jx_then (jc_seq (jc_region (qh [0,0,0] ?_))))))))
      obtain ⟨x_15, hx_18530, h⟩ := bd h
      refine tO (qx 0 A_a 1 hx_18530 rfl (A_h.sp (A_i.ixh hx_18530)) (jkO (tO (ql 0 false (fun w hm => ((hm.xr A_h).at (A_i.ixh hx_18530))) (jkO (qh [0] ?_))))))
      obtain ⟨x_16, hx_18531, h⟩ := bd h
      refine tO (qx 0 (hd A_hs i_12).a 1 hx_18531 (A_i.get hx_18530).2.1 ((A_i.get hx_18530).1.sp hx_18531) (jkO (tO (ql 0 false (fun w hm => ((hm.exRow (A_i.get hx_18530).1 List.not_mem_nil).at hx_18531)) (jkO (qh [0,0] (qe (jx_then (jc_seq (jc_region (qh [0,0] ?_)))))))))))
      obtain ⟨x_17, hx_18532, h⟩ := bd h
      refine tO (qx 0 (o_137.map fun b => ⟨b, 0, none⟩) 1 hx_18532 hn_15821 (spo ho_15820 hx_18532) (jkO (tO (ql 0 false (fun w hm => ((hm.ow 0 o_137 3 xs_7 sp_139 (fun e => (ho_15820 e).1) encI64_len).at hx_18532)) (jkO (qh [0] (qe (jx_then (jc_seq (jc_region (qh [0,0] ?_)))))))))))
      obtain ⟨x_18, hx_18533, h⟩ := bd h
      refine tO (qx 0 (o_137.map fun b => ⟨b, 0, none⟩) 1 hx_18533 hn_15821 (spo ho_15820 hx_18533) (jkO (tO (ql 0 false (fun w hm => ((hm.ow 0 o_137 3 xs_7 sp_139 (fun e => (ho_15820 e).1) encI64_len).at hx_18533)) (jkO (qh [0] (qe (jx_then (jc_seq (jc_region (qh [0] (qe (jx_then (jc_meet (fun (j : (List Int)) => match j with | xs_19 => spec_l05Tree.k_20 xs_8 i_9 i_12 i_13 x_16 xs_19 = some y_15829 ∧ (xs_19.length = xs_1.length) ∧ ((o_137 = none → xs_19 = [] ∧ cap_138 = 0))) (fun (j : (List Int)) => match j with | xs_19 => [(0, [], (.slice A_a table0.length A_c)), (2, [], (.slice none 0 0)), (3, [], (.int .i64 0)), (4, [], (.int .i64 (table0.length : Int))), (5, [], (.slice (o_137.map fun b => ⟨b, 0, none⟩) xs_1.length cap_138)), (7, [], (.slice (o_18525.map fun b => ⟨b, 0, none⟩) ((xs_8 ++ ([(Arr.set (Arr.set (Arr.rep 2 0) 0 i_12) 1 i_13)] : List (Arr 2 Int))).length) cap_18526)), (8, [], (.int .i64 (w64 (i_9 + x_16))))]) (fun (j : (List Int)) => match j with | xs_19 => [⟨o_137, 3, row encI64 xs_19 sp_139⟩, ⟨o_18525, 51, row encA2I64 (xs_8 ++ ([(Arr.set (Arr.set (Arr.rep 2 0) 0 i_12) 1 i_13)] : List (Arr 2 Int))) sp_18527⟩, ⟨(some b_18523), 51, row encA2I64 ([(Arr.set (Arr.set (Arr.rep 2 0) 0 i_12) 1 i_13)] : List (Arr 2 Int)) []⟩]) ?_ ?_))))))))))))))
      ·refine jc_block ?_
       obtain ⟨t_24, ht_18581, hr_18573⟩ := bd h
       refine jc_loop (fun (s : (List Int) × Int) (x : Unit) => match s, x with | ⟨xs_21, i_22⟩, _ => (xs_21.length = xs_1.length) ∧ ((o_137 = none → xs_21 = [] ∧ cap_138 = 0))) (fun (s : (List Int) × Int) (x : Unit) => match s, x with | ⟨xs_21, i_22⟩, _ => [(0, [], (.slice A_a table0.length A_c)), (2, [], (.slice none 0 0)), (3, [], (.int .i64 0)), (4, [], (.int .i64 (table0.length : Int))), (5, [], (.slice (o_137.map fun b => ⟨b, 0, none⟩) xs_1.length cap_138)), (7, [], (.slice (o_18525.map fun b => ⟨b, 0, none⟩) ((xs_8 ++ ([(Arr.set (Arr.set (Arr.rep 2 0) 0 i_12) 1 i_13)] : List (Arr 2 Int))).length) cap_18526)), (8, [], (.int .i64 (w64 (i_9 + x_16)))), (13, [], (.int .i64 x_17)), (14, [], (.int .i64 x_18)), (15, [], (.int .i64 i_22))]) (fun (s : (List Int) × Int) (x : Unit) => match s, x with | ⟨xs_21, i_22⟩, _ => [⟨o_137, 3, row encI64 xs_21 sp_139⟩, ⟨o_18525, 51, row encA2I64 (xs_8 ++ ([(Arr.set (Arr.set (Arr.rep 2 0) 0 i_12) 1 i_13)] : List (Arr 2 Int))) sp_18527⟩, ⟨(some b_18523), 51, row encA2I64 ([(Arr.set (Arr.set (Arr.rep 2 0) 0 i_12) 1 i_13)] : List (Arr 2 Int)) []⟩]) ht_18581 () ⟨hn_15821, ho_15820⟩ (by kernel_rfl) [0, 1, 2] (by kernel_rfl) (by kernel_rfl) ?_
       rintro ⟨xs_21, i_22⟩ _ y_18574 ⟨hn_18572, ho_18571⟩ h
       rw [spec_l05Tree.l_23] at h
       refine jc_seq (jc_seq (jc_region (qh [0,0,0] (qe (jx_then (qi h (fun h => ?_) (fun h => ?_)))))))
       ·refine jc_skip (jx_then (jc_seq (jc_block (jc_seq (jc_region (qh [0,0] ?_))))))
        obtain ⟨x_25, hx_18577, h⟩ := bd h
        refine tO (qx 0 (o_137.map fun b => ⟨b, 0, none⟩) 1 hx_18577 hn_18572 (spo ho_18571 hx_18577) (jkO (tO (ql 0 false (fun w hm => ((hm.ow 0 o_137 3 xs_21 sp_139 (fun e => (ho_18571 e).1) encI64_len).at hx_18577)) (jkO (qh [0,0] (qe (jx_then (qi h (fun h => ?_) (fun h => ?_))))))))))
        ·refine jc_region (qh [0,0,0] ?_)
         obtain ⟨x_26, hx_18579, h⟩ := bd h
         exact tO (qx 0 (o_137.map fun b => ⟨b, 0, none⟩) 1 hx_18579 hn_18572 (spo ho_18571 hx_18579) (jkO (tO (p_strO 0 0 o_137 3 encI64 xs_21 sp_139 i_22 x_18 1 0 [(.int .i64 x_18)] (by kernel_rfl) (by kernel_rfl) (by kernel_rfl) (fun e => (ho_18571 e).1) encI64_len hx_18579 (by kernel_rfl) (by kernel_rfl) (jkO (qe (jx_inn (jx_then (jc_region (qh [0,0,0] (qe (qb ((xs_21.set i_22.toNat x_18), (w64 (i_22 + 1))) () h ⟨(List.length_set.trans hn_18572), (set_ho ho_18571)⟩ [0, 1, 2]))))))))))))
        ·exact jc_skip (jx_inn (jx_then (jc_region (qh [0,0,0] (qe (qb (xs_21, (w64 (i_22 + 1))) () h ⟨hn_18572, ho_18571⟩ [0, 1, 2]))))))
       ·refine jc_exit (jx_thenx (jx_leave xs_21 (Option.some.inj h).symm (fun e_18580 => ?_)))
        subst e_18580
        exact jx_ine (qm xs_21 ⟨hr_18573, hn_18572, ho_18571⟩ [0, 1, 2])
      ·rintro xs_19 ⟨h, hn_18558, ho_18557⟩
       replace h : spec_l05Tree.k_20 xs_8 i_9 i_12 i_13 x_16 xs_19 = some y_15829 := h
       rw [spec_l05Tree.k_20] at h
       exact jx_inn (qb (xs_19, (xs_8 ++ ([(Arr.set (Arr.set (Arr.rep 2 0) 0 i_12) 1 i_13)] : List (Arr 2 Int))), (w64 (i_9 + x_16))) ⟨o_18525, cap_18526, sp_18527, (xs_8 ++ ([(Arr.set (Arr.set (Arr.rep 2 0) 0 i_12) 1 i_13)] : List (Arr 2 Int))).length⟩ h ⟨hn_18558, ho_18557, rfl, hs_18528, ho_18529⟩ [0, 1])
    ·refine jc_exit (jx_thenx (jx_leave (xs_7, xs_8, i_9) (Option.some.inj h).symm (fun e_18958 => ?_)))
     subst e_18958
     exact jx_ine (qm ⟨xs_7, xs_8, i_9, o_15822, cap_15823, sp_15824, xs_8.length⟩ ⟨hr_15828, hn_15821, ho_15820, rfl, hs_15826, ho_15827⟩ [0, 1])
   ·rintro ⟨xs_3, xs_4, i_5, o_9550, cap_9551, sp_9552, n_9553⟩ ⟨h, hn_9549, ho_9548, rfl, hs_9554, ho_9555⟩
    replace h : spec_l05Tree.k_6 xs_3 xs_4 i_5 = some r := h
    rw [spec_l05Tree.k_6] at h
    refine jx_then (jc_seq (jc_region (qh [0,0,0,0] (qe (jx_then (jc_ret ?_))))))
    obtain rfl := Option.some.inj h
    exact qr [] (fun w hm => ⟨o_9550, cap_9551, sp_9552, xs_4.length, rfl, hs_9554, ho_9555, rfl, hm.pk [1]⟩)
/-! ### spec.TreeOf -/
def spec_TreeOf (f0 : GFrame) (list1 : List (Arr 96 Int)) : Option ((List (Arr 2 Int)) × Int × Int) := (spec_l05First f0 list1 (-1)).bind fun t_1 => (if (t_1 != 0) = true then some (([] : List (Arr 2 Int)), 0, t_1) else (spec_l05Table list1).bind fun t_2 => (spec_l05Tree t_2).bind fun t_3 => some (t_3.1, t_3.2, 0))
theorem spec_TreeOf.calls (f0 : GFrame) (list1 : List (Arr 96 Int)) (w : World) (r : (List (Arr 2 Int)) × Int × Int) {C_a : Option Addr} {C_an : Nat} (C_c : Nat) (C_h : Rw w C_a 2 encGHammer f0.fHammers) (C_hn : f0.fHammers.length = C_an) {D_a : Option Addr} {D_an : Nat} (D_c : Nat) (D_h : Rw w D_a 96 encA96U32 list1) (D_hn : list1.length = D_an) (h : spec_TreeOf f0 list1 = some r) :
    Calls Try.prog 14 #[(.agg #[(.int .i16 f0.fSteps), (.slice C_a C_an C_c)]), (.slice D_a D_an D_c)] w fun e w' => ∃ v, e = .returned v ∧ (∃ (o0 : Option Nat) (c0 : Nat) (s0 : List Value) (n0 : Nat), r.1.length = n0 ∧ (o0 ≠ none → n0 ≤ c0 ∧ s0.length = (c0 - n0) * 2) ∧ (o0 = none → r.1 = [] ∧ c0 = 0) ∧ v = .tuple #[.slice (o0.map fun b => ⟨b, 0, none⟩) n0 c0, (.int .i64 r.2.1), (.int .i64 r.2.2)] ∧ Mem w [] [⟨o0, 51, row encA2I64 r.1 s0⟩] w') := by
  subst C_hn D_hn
  rw [spec_TreeOf] at h
  refine enter (args := [(.agg #[(.int .i16 f0.fSteps), (.slice C_a f0.fHammers.length C_c)]), (.slice D_a list1.length D_c)]) Try.func14 rfl Try.ntmps14 (by kernel_rfl) (L := []) (W := []) (Mem.start w) ?_
  refine jc_seq (jc_region (tO (qa 0 (fun b_1 => jkO (qh [0,0,0] (qe (jx_then (jc_seq (jc_seq (jc_region (qh [0] ?_)))))))))))
  obtain ⟨t_1, ht_5, h⟩ := bd h
  refine tO (pc 0 (fun w hm => spec_l05First.calls f0 list1 (-1) w _ C_c (hm.xr C_h) rfl D_c (hm.xr D_h) rfl b_1 (hm.pass (N := [⟨some b_1, 27, [(.int .i16 f0.fSteps), (.slice C_a f0.fHammers.length C_c)]⟩]) [0] (by kernel_rfl) (by kernel_rfl)) (hm.exApart (N := [⟨some b_1, 27, [(.int .i16 f0.fSteps), (.slice C_a f0.fHammers.length C_c)]⟩]) C_h (fun _ => List.not_mem_nil) [0] (by kernel_rfl)) (hm.exApart (N := [⟨some b_1, 27, [(.int .i16 f0.fSteps), (.slice C_a f0.fHammers.length C_c)]⟩]) D_h (fun _ => List.not_mem_nil) [0] (by kernel_rfl)) ht_5) ?_)
  rintro w v w' hm ⟨rfl, hm'⟩
  refine ⟨_, hm.appW (ps := [(0, ⟨some b_1, 27, [(.int .i16 f0.fSteps), (.slice C_a f0.fHammers.length C_c)]⟩)]) (N := []) hm' (by kernel_rfl) (by kernel_rfl), jkO ?_⟩
  clear hm hm'
  refine qh [0] (qe (jx_then (jc_seq (jc_region (qh [0,0] (qe (jx_then (qi h (fun h => ?_) (fun h => ?_)))))))))
  ·refine jc_seq (jc_region (tO (qa 0 (fun b_7 => jkO (qh [0,0,0,0] (qe (jx_then (jc_ret (jx_thenr ?_)))))))))
   obtain rfl := Option.some.inj h
   exact qr [] (fun w hm => ⟨(some b_7), 0, [], 0, rfl, (fun _ => ⟨Nat.le_refl _, by simp⟩), (fun e => nomatch e), rfl, hm.pk [1]⟩)
  ·refine jc_skip (jx_then (jc_seq (jc_region (qh [0] ?_))))
   obtain ⟨t_2, ht_8, h⟩ := bd h
   refine tO (pc 0 (fun w hm => spec_l05Table.calls list1 w _ D_c (hm.xr D_h) rfl ht_8) ?_)
   rintro w v w' hm ⟨o_9, cap_10, sp_11, _, hh_14, hI_15, rfl, hs_12, ho_13, rfl, hm'⟩
   refine ⟨_, hm.app hm', jkO ?_⟩
   clear hm hm'
   obtain ⟨t_3, ht_16, h⟩ := bd h
   refine tO (pc 0 (fun w hm => spec_l05Tree.calls t_2 w _ cap_10 (hm.ow 1 o_9 34 hh_14 sp_11 (fun e => (ho_13 e).1) encHd_len) (hI_15.1.symm.trans rfl) (hm.cluPass (N := []) 2 hI_15 encI64_len []) ht_16) ?_)
   rintro w v w' hm ⟨o_17, cap_18, sp_19, _, rfl, hs_20, ho_21, rfl, hm'⟩
   refine ⟨_, hm.app hm', jkO ?_⟩
   clear hm hm'
   refine qh [0,0,0,0,0] (qe (jx_then (jc_seq (jc_region (qh [0,0,0,0,0] (qe (jx_then (jc_ret ?_))))))))
   obtain rfl := Option.some.inj h
   exact qr [] (fun w hm => ⟨o_17, cap_18, sp_19, t_3.1.length, rfl, hs_20, ho_21, rfl, hm.pk [3]⟩)
/-! ### spec.l00Same -/
def spec_l00Same.k_1 : Option (Bool) := some true
def spec_l00Same.l_3 (a0 : List Int) (b1 : List Int) : Int → Option ((Int) ⊕ (Bool ⊕ Unit))
  | i_2 => (if (decide (i_2 < (a0.length : Int))) = true then (ix a0 i_2).bind fun x_5 => (ix b1 i_2).bind fun x_6 => (if (x_5 != x_6) = true then some (.inr (.inl false)) else some (.inl (w64 (i_2 + 1)))) else some (.inr (.inr ())))
def spec_l00Same (a0 : List Int) (b1 : List Int) : Option (Bool) := (if ((a0.length : Int) != (b1.length : Int)) = true then some false else (loop (spec_l00Same.l_3 a0 b1) 0).bind fun t_4 => match t_4 with | .inl p => some p | .inr p => spec_l00Same.k_1)
theorem spec_l00Same.calls (a0 : List Int) (b1 : List Int) (w : World) (r : Bool) {A_a : Option Addr} {A_an : Nat} (A_c : Nat) (A_h : Rw w A_a 1 encI64 a0) (A_hn : a0.length = A_an) {B_a : Option Addr} {B_an : Nat} (B_c : Nat) (B_h : Rw w B_a 1 encI64 b1) (B_hn : b1.length = B_an) (h : spec_l00Same a0 b1 = some r) :
    Calls Try.prog 44 #[(.slice A_a A_an A_c), (.slice B_a B_an B_c)] w fun e w' => ∃ v, e = .returned v ∧ (v = (.bool r) ∧ Mem w [] [] w') := by
  subst A_hn B_hn
  rw [spec_l00Same] at h
  refine enter (args := [(.slice A_a a0.length A_c), (.slice B_a b1.length B_c)]) Try.func44 rfl Try.ntmps44 (by kernel_rfl) (L := []) (W := []) (Mem.start w) ?_
  refine jc_seq (jc_region (qh [0] (qe (jx_then (jc_seq (jc_seq (jc_region (qh [0,0,0,0,0] (qe (jx_then (qi h (fun h => ?_) (fun h => ?_))))))))))))
  ·refine jc_seq (jc_region (qh [0] (qe (jx_then (jc_ret (jx_thenr ?_))))))
   obtain rfl := Option.some.inj h
   exact qr [] (fun w hm => ⟨rfl, hm.pk []⟩)
  ·refine jc_skip (jx_then (jc_seq (jc_seq (jc_region (qh [0] (qe (jx_then (jc_meet (fun (_ : Unit) => spec_l00Same.k_1 = some r) (fun (_ : Unit) => [(4, [], (.bool false))]) (fun (_ : Unit) => []) ?_ ?_))))))))
   ·refine jc_block ?_
    obtain ⟨t_4, ht_42, hr_33⟩ := bd h
    refine jc_loop (fun (s : Int) (x : Unit) => match s, x with | i_2, _ => True) (fun (s : Int) (x : Unit) => match s, x with | i_2, _ => [(0, [], (.slice A_a a0.length A_c)), (1, [], (.slice B_a b1.length B_c)), (4, [], (.bool false)), (5, [], (.int .i64 i_2))]) (fun (s : Int) (x : Unit) => match s, x with | i_2, _ => []) ht_42 () trivial (by kernel_rfl) [] (by kernel_rfl) (by kernel_rfl) ?_
    rintro i_2 _ y_34 _ h
    rw [spec_l00Same.l_3] at h
    refine jc_seq (jc_seq (jc_region (qh [0,0,0,0] (qe (jx_then (qi h (fun h => ?_) (fun h => ?_)))))))
    ·refine jc_skip (jx_then (jc_seq (jc_block (jc_seq (qg [] 9 (qd [⟨0, 0, 0⟩,⟨1, 0, 0⟩,⟨4, 0, 0⟩,⟨5, 0, 0⟩] 5 [] ?_))))))
     obtain ⟨x_5, hx_37, h⟩ := bd h
     refine qv 2 0 [] (fun w hm => idx_run (a := A_a) (len := a0.length) (s := 1) (j := i_2) (by kernel_rfl) (ix_some hx_37).1 (ltn hx_37 rfl) (A_h.sp hx_37)) (qv 3 0 [] (fun w hm => ld_run (b := aB A_a) (off := (aO A_a + i_2.toNat * 1)) (s := 1) (agg := false) (vs := (encI64 x_5)) (by kernel_rfl) (by kernel_rfl) (.inr rfl) ((hm.xr A_h).at hx_37)) ?_)
     obtain ⟨x_6, hx_38, h⟩ := bd h
     refine qv 6 0 [] (fun w hm => idx_run (a := B_a) (len := b1.length) (s := 1) (j := i_2) (by kernel_rfl) (ix_some hx_38).1 (ltn hx_38 rfl) (B_h.sp hx_38)) (qv 7 0 [] (fun w hm => ld_run (b := aB B_a) (off := (aO B_a + i_2.toNat * 1)) (s := 1) (agg := false) (vs := (encI64 x_6)) (by kernel_rfl) (by kernel_rfl) (.inr rfl) ((hm.xr B_h).at hx_38)) (qd [⟨8, 0, 0⟩] 0 [] (qz (jx_then (qi h (fun h => ?_) (fun h => ?_))))))
     ·refine jc_seq (jc_region (qh [0] (qe (jx_then (jc_ret (jx_inr (jx_thenr (jx_leaver (.inl false) (Option.some.inj h).symm (fun e_40 => ?_)))))))))
      subst e_40
      refine jx_inr (jx_thenr (jx_thenr ?_))
      obtain rfl := Option.some.inj hr_33
      exact qr [] (fun w hm => ⟨rfl, hm.pk []⟩)
     ·exact jc_skip (jx_inn (jx_then (jc_region (qh [0,0,0] (qe (qb (w64 (i_2 + 1)) () h trivial []))))))
    ·refine jc_exit (jx_thenx (jx_leave (.inr ()) (Option.some.inj h).symm (fun e_41 => ?_)))
     subst e_41
     exact jx_ine (qm () hr_33 [])
   ·rintro _ h
    replace h : spec_l00Same.k_1 = some r := h
    rw [spec_l00Same.k_1] at h
    refine jx_then (jc_seq (jc_region (qh [0] (qe (jx_then (jc_ret ?_))))))
    obtain rfl := Option.some.inj h
    exact qr [] (fun w hm => ⟨rfl, hm.pk []⟩)
/-! ### spec.A2SameTable -/
def spec_A2SameTable.k_1 : Option (Bool) := some true
def spec_A2SameTable.l_3 (a0 : List (List Int)) (b1 : List (List Int)) : Int → Option ((Int) ⊕ (Bool ⊕ Unit))
  | i_2 => (if (decide (i_2 < (a0.length : Int))) = true then (ix a0 i_2).bind fun x_5 => (ix b1 i_2).bind fun x_6 => (spec_l00Same x_5 x_6).bind fun t_7 => (if (!t_7) = true then some (.inr (.inl false)) else some (.inl (w64 (i_2 + 1)))) else some (.inr (.inr ())))
def spec_A2SameTable (a0 : List (List Int)) (b1 : List (List Int)) : Option (Bool) := (if ((a0.length : Int) != (b1.length : Int)) = true then some false else (loop (spec_A2SameTable.l_3 a0 b1) 0).bind fun t_4 => match t_4 with | .inl p => some p | .inr p => spec_A2SameTable.k_1)
theorem spec_A2SameTable.calls (a0 : List (List Int)) (b1 : List (List Int)) (w : World) (r : Bool) {A_a : Option Addr} {A_an : Nat} (A_c : Nat) {A_hs : List Hd} (A_h : Rw w A_a 1 encHd A_hs) (A_hn : a0.length = A_an) (A_i : Inn w [] 1 encI64 A_hs a0) {B_a : Option Addr} {B_an : Nat} (B_c : Nat) {B_hs : List Hd} (B_h : Rw w B_a 1 encHd B_hs) (B_hn : b1.length = B_an) (B_i : Inn w [] 1 encI64 B_hs b1) (h : spec_A2SameTable a0 b1 = some r) :
    Calls Try.prog 15 #[(.slice A_a A_an A_c), (.slice B_a B_an B_c)] w fun e w' => ∃ v, e = .returned v ∧ (v = (.bool r) ∧ Mem w [] [] w') := by
  subst A_hn B_hn
  rw [spec_A2SameTable] at h
  refine enter (args := [(.slice A_a a0.length A_c), (.slice B_a b1.length B_c)]) Try.func15 rfl Try.ntmps15 (by kernel_rfl) (L := []) (W := []) (Mem.start w) ?_
  refine jc_seq (jc_region (qh [0] (qe (jx_then (jc_seq (jc_seq (jc_region (qh [0,0,0,0,0] (qe (jx_then (qi h (fun h => ?_) (fun h => ?_))))))))))))
  ·refine jc_seq (jc_region (qh [0] (qe (jx_then (jc_ret (jx_thenr ?_))))))
   obtain rfl := Option.some.inj h
   exact qr [] (fun w hm => ⟨rfl, hm.pk []⟩)
  ·refine jc_skip (jx_then (jc_seq (jc_seq (jc_region (qh [0] (qe (jx_then (jc_meet (fun (_ : Unit) => spec_A2SameTable.k_1 = some r) (fun (_ : Unit) => [(4, [], (.bool false))]) (fun (_ : Unit) => []) ?_ ?_))))))))
   ·refine jc_block ?_
    obtain ⟨t_4, ht_48, hr_38⟩ := bd h
    refine jc_loop (fun (s : Int) (x : Unit) => match s, x with | i_2, _ => True) (fun (s : Int) (x : Unit) => match s, x with | i_2, _ => [(0, [], (.slice A_a a0.length A_c)), (1, [], (.slice B_a b1.length B_c)), (4, [], (.bool false)), (5, [], (.int .i64 i_2))]) (fun (s : Int) (x : Unit) => match s, x with | i_2, _ => []) ht_48 () trivial (by kernel_rfl) [] (by kernel_rfl) (by kernel_rfl) ?_
    rintro i_2 _ y_39 _ h
    rw [spec_A2SameTable.l_3] at h
    refine jc_seq (jc_seq (jc_region (qh [0,0,0,0] (qe (jx_then (qi h (fun h => ?_) (fun h => ?_)))))))
    ·refine jc_skip (jx_then (jc_seq (jc_block (jc_seq (qg [] 10 (qd [⟨0, 0, 0⟩,⟨1, 0, 0⟩,⟨4, 0, 0⟩,⟨5, 0, 0⟩] 6 [] ?_))))))
     obtain ⟨x_5, hx_42, h⟩ := bd h
     refine qv 2 0 [] (fun w hm => idx_run (a := A_a) (len := a0.length) (s := 1) (j := i_2) (by kernel_rfl) (ix_some hx_42).1 (ltn hx_42 rfl) (A_h.sp (A_i.ixh hx_42))) (qv 3 0 [] (fun w hm => ld_run (b := aB A_a) (off := (aO A_a + i_2.toNat * 1)) (s := 1) (agg := false) (vs := encHd (hd A_hs i_2)) (by kernel_rfl) (by kernel_rfl) (.inr rfl) ((hm.xr A_h).at (A_i.ixh hx_42))) ?_)
     obtain ⟨x_6, hx_43, h⟩ := bd h
     refine qv 6 0 [] (fun w hm => idx_run (a := B_a) (len := b1.length) (s := 1) (j := i_2) (by kernel_rfl) (ix_some hx_43).1 (ltn hx_43 rfl) (B_h.sp (B_i.ixh hx_43))) (qv 7 0 [] (fun w hm => ld_run (b := aB B_a) (off := (aO B_a + i_2.toNat * 1)) (s := 1) (agg := false) (vs := encHd (hd B_hs i_2)) (by kernel_rfl) (by kernel_rfl) (.inr rfl) ((hm.xr B_h).at (B_i.ixh hx_43))) ?_)
     obtain ⟨t_7, ht_44, h⟩ := bd h
     refine tD 8 (pc 0 (fun w hm => spec_l00Same.calls x_5 x_6 w _ ((hd A_hs i_2).c) (hm.exRow (A_i.get hx_42).1 List.not_mem_nil) (A_i.get hx_42).2.1 ((hd B_hs i_2).c) (hm.exRow (B_i.get hx_43).1 List.not_mem_nil) (B_i.get hx_43).2.1 ht_44) ?_)
     rintro w v w' hm ⟨rfl, hm'⟩
     refine ⟨_, hm.app hm', kD [] ?_⟩
     clear hm hm'
     refine qd [⟨9, 0, 0⟩] 0 [] (qz (jx_then (qi h (fun h => ?_) (fun h => ?_))))
     ·refine jc_seq (jc_region (qh [0] (qe (jx_then (jc_ret (jx_inr (jx_thenr (jx_leaver (.inl false) (Option.some.inj h).symm (fun e_46 => ?_)))))))))
      subst e_46
      refine jx_inr (jx_thenr (jx_thenr ?_))
      obtain rfl := Option.some.inj hr_38
      exact qr [] (fun w hm => ⟨rfl, hm.pk []⟩)
     ·exact jc_skip (jx_inn (jx_then (jc_region (qh [0,0,0] (qe (qb (w64 (i_2 + 1)) () h trivial []))))))
    ·refine jc_exit (jx_thenx (jx_leave (.inr ()) (Option.some.inj h).symm (fun e_47 => ?_)))
     subst e_47
     exact jx_ine (qm () hr_38 [])
   ·rintro _ h
    replace h : spec_A2SameTable.k_1 = some r := h
    rw [spec_A2SameTable.k_1] at h
    refine jx_then (jc_seq (jc_region (qh [0] (qe (jx_then (jc_ret ?_))))))
    obtain rfl := Option.some.inj h
    exact qr [] (fun w hm => ⟨rfl, hm.pk []⟩)
/-! ### spec.A2Same -/
def spec_A2Same (a0 : List Int) (b1 : List Int) : Option (Bool) := (spec_l00Same a0 b1).bind fun t_1 => some t_1
theorem spec_A2Same.calls (a0 : List Int) (b1 : List Int) (w : World) (r : Bool) {A_a : Option Addr} {A_an : Nat} (A_c : Nat) (A_h : Rw w A_a 1 encI64 a0) (A_hn : a0.length = A_an) {B_a : Option Addr} {B_an : Nat} (B_c : Nat) (B_h : Rw w B_a 1 encI64 b1) (B_hn : b1.length = B_an) (h : spec_A2Same a0 b1 = some r) :
    Calls Try.prog 16 #[(.slice A_a A_an A_c), (.slice B_a B_an B_c)] w fun e w' => ∃ v, e = .returned v ∧ (v = (.bool r) ∧ Mem w [] [] w') := by
  subst A_hn B_hn
  rw [spec_A2Same] at h
  refine enter (args := [(.slice A_a a0.length A_c), (.slice B_a b1.length B_c)]) Try.func16 rfl Try.ntmps16 (by kernel_rfl) (L := []) (W := []) (Mem.start w) ?_
  refine jc_seq (jc_region (qh [0] (qe (jx_then (jc_seq (jc_region (qh [0,0] ?_)))))))
  obtain ⟨t_1, ht_1, h⟩ := bd h
  refine tO (pc 0 (fun w hm => spec_l00Same.calls a0 b1 w _ A_c (hm.xr A_h) rfl B_c (hm.xr B_h) rfl ht_1) ?_)
  rintro w v w' hm ⟨rfl, hm'⟩
  refine ⟨_, hm.app hm', jkO ?_⟩
  clear hm hm'
  refine qh [0] (qe (jx_then (jc_ret ?_)))
  obtain rfl := Option.some.inj h
  exact qr [] (fun w hm => ⟨rfl, hm.pk []⟩)
/-! ### spec.A2SamePairs -/
def spec_A2SamePairs.k_1 : Option (Bool) := some true
def spec_A2SamePairs.l_3 (a0 : List (Arr 2 Int)) (b1 : List (Arr 2 Int)) : Int → Option ((Int) ⊕ (Bool ⊕ Unit))
  | i_2 => (if (decide (i_2 < (a0.length : Int))) = true then (ix a0 i_2).bind fun x_5 => (ix b1 i_2).bind fun x_6 => (if (!(x_5.1 == x_6.1)) = true then some (.inr (.inl false)) else some (.inl (w64 (i_2 + 1)))) else some (.inr (.inr ())))
def spec_A2SamePairs (a0 : List (Arr 2 Int)) (b1 : List (Arr 2 Int)) : Option (Bool) := (if ((a0.length : Int) != (b1.length : Int)) = true then some false else (loop (spec_A2SamePairs.l_3 a0 b1) 0).bind fun t_4 => match t_4 with | .inl p => some p | .inr p => spec_A2SamePairs.k_1)
theorem spec_A2SamePairs.calls (a0 : List (Arr 2 Int)) (b1 : List (Arr 2 Int)) (w : World) (r : Bool) {A_a : Option Addr} {A_an : Nat} (A_c : Nat) (A_h : Rw w A_a 2 encA2I64 a0) (A_hn : a0.length = A_an) {B_a : Option Addr} {B_an : Nat} (B_c : Nat) (B_h : Rw w B_a 2 encA2I64 b1) (B_hn : b1.length = B_an) (h : spec_A2SamePairs a0 b1 = some r) :
    Calls Try.prog 17 #[(.slice A_a A_an A_c), (.slice B_a B_an B_c)] w fun e w' => ∃ v, e = .returned v ∧ (v = (.bool r) ∧ Mem w [] [] w') := by
  subst A_hn B_hn
  rw [spec_A2SamePairs] at h
  refine enter (args := [(.slice A_a a0.length A_c), (.slice B_a b1.length B_c)]) Try.func17 rfl Try.ntmps17 (by kernel_rfl) (L := []) (W := []) (Mem.start w) ?_
  refine jc_seq (jc_region (qh [0] (qe (jx_then (jc_seq (jc_seq (jc_region (qh [0,0,0,0,0] (qe (jx_then (qi h (fun h => ?_) (fun h => ?_))))))))))))
  ·refine jc_seq (jc_region (qh [0] (qe (jx_then (jc_ret (jx_thenr ?_))))))
   obtain rfl := Option.some.inj h
   exact qr [] (fun w hm => ⟨rfl, hm.pk []⟩)
  ·refine jc_skip (jx_then (jc_seq (jc_seq (jc_region (qh [0] (qe (jx_then (jc_meet (fun (_ : Unit) => spec_A2SamePairs.k_1 = some r) (fun (_ : Unit) => [(4, [], (.bool false))]) (fun (_ : Unit) => []) ?_ ?_))))))))
   ·refine jc_block ?_
    obtain ⟨t_4, ht_42, hr_33⟩ := bd h
    refine jc_loop (fun (s : Int) (x : Unit) => match s, x with | i_2, _ => True) (fun (s : Int) (x : Unit) => match s, x with | i_2, _ => [(0, [], (.slice A_a a0.length A_c)), (1, [], (.slice B_a b1.length B_c)), (4, [], (.bool false)), (5, [], (.int .i64 i_2))]) (fun (s : Int) (x : Unit) => match s, x with | i_2, _ => []) ht_42 () trivial (by kernel_rfl) [] (by kernel_rfl) (by kernel_rfl) ?_
    rintro i_2 _ y_34 _ h
    rw [spec_A2SamePairs.l_3] at h
    refine jc_seq (jc_seq (jc_region (qh [0,0,0,0] (qe (jx_then (qi h (fun h => ?_) (fun h => ?_)))))))
    ·refine jc_skip (jx_then (jc_seq (jc_block (jc_seq (qg [] 9 (qd [⟨0, 0, 0⟩,⟨1, 0, 0⟩,⟨4, 0, 0⟩,⟨5, 0, 0⟩] 5 [] ?_))))))
     obtain ⟨x_5, hx_37, h⟩ := bd h
     refine qv 2 0 [] (fun w hm => idx_run (a := A_a) (len := a0.length) (s := 2) (j := i_2) (by kernel_rfl) (ix_some hx_37).1 (ltn hx_37 rfl) (A_h.sp hx_37)) (qv 3 0 [] (fun w hm => ld_run (b := aB A_a) (off := (aO A_a + i_2.toNat * 2)) (s := 2) (agg := true) (vs := (encA2I64 x_5)) (by kernel_rfl) (encA2I64_len x_5) (.inl rfl) ((hm.xr A_h).at hx_37)) ?_)
     obtain ⟨x_6, hx_38, h⟩ := bd h
     refine qv 6 0 [] (fun w hm => idx_run (a := B_a) (len := b1.length) (s := 2) (j := i_2) (by kernel_rfl) (ix_some hx_38).1 (ltn hx_38 rfl) (B_h.sp hx_38)) (qv 7 0 [] (fun w hm => ld_run (b := aB B_a) (off := (aO B_a + i_2.toNat * 2)) (s := 2) (agg := true) (vs := (encA2I64 x_6)) (by kernel_rfl) (encA2I64_len x_6) (.inl rfl) ((hm.xr B_h).at hx_38)) (tD 8 (p_eqA 0 true 51 2 2 .i64 encI64 x_5 x_6 (by kernel_rfl) (by kernel_rfl) Try.underlying51 Try.underlying2 (fun w => Try.sizeOf2 w) (fun w => Try.isAgg2 w) (fun _ => rfl) (!(x_5.1 == x_6.1)) rfl (kD [] (qz (jx_then (qi h (fun h => ?_) (fun h => ?_))))))))
     ·refine jc_seq (jc_region (qh [0] (qe (jx_then (jc_ret (jx_inr (jx_thenr (jx_leaver (.inl false) (Option.some.inj h).symm (fun e_40 => ?_)))))))))
      subst e_40
      refine jx_inr (jx_thenr (jx_thenr ?_))
      obtain rfl := Option.some.inj hr_33
      exact qr [] (fun w hm => ⟨rfl, hm.pk []⟩)
     ·exact jc_skip (jx_inn (jx_then (jc_region (qh [0,0,0] (qe (qb (w64 (i_2 + 1)) () h trivial []))))))
    ·refine jc_exit (jx_thenx (jx_leave (.inr ()) (Option.some.inj h).symm (fun e_41 => ?_)))
     subst e_41
     exact jx_ine (qm () hr_33 [])
   ·rintro _ h
    replace h : spec_A2SamePairs.k_1 = some r := h
    rw [spec_A2SamePairs.k_1] at h
    refine jx_then (jc_seq (jc_region (qh [0] (qe (jx_then (jc_ret ?_))))))
    obtain rfl := Option.some.inj h
    exact qr [] (fun w hm => ⟨rfl, hm.pk []⟩)
/-! ### spec.A2Order -/
def spec_A2Order.k_7 (xs_4 : List Int) (i_5 : Int) (i_6 : Int) : Option ((List Int)) := some xs_4
def spec_A2Order.l_12 (code0 : List Int) : ((List Int) × Int × Int × Int) → Option (((List Int) × Int × Int × Int) ⊕ (((List Int) × Int × Int)))
  | (xs_8, i_9, i_10, i_11) => (if (decide (i_11 > 0)) = true then (spec_l00Src_pick (⟨code0, i_9, i_10⟩ : Gl00Src) (w64 (i_11 + 1))).bind fun t_14 => (ix xs_8 i_11).bind fun x_15 => (ix xs_8 t_14.1).bind fun x_16 => (ix xs_8 i_11).bind fun x_17 => (ix (xs_8.set i_11.toNat x_16) t_14.1).bind fun x_18 => some (.inl (((xs_8.set i_11.toNat x_16).set t_14.1.toNat x_15), t_14.2.fat, t_14.2.fseed, (w64 (i_11 - 1)))) else some (.inr (xs_8, i_9, i_10)))
def spec_A2Order.k_3 (code0 : List Int) (n1 : Int) (t_1 : Gl00Src) (xs_2 : List Int) : Option ((List Int)) := (loop (spec_A2Order.l_12 code0) (xs_2, t_1.fat, t_1.fseed, (w64 (n1 - 1)))).bind fun t_13 => spec_A2Order.k_7 t_13.1 t_13.2.1 t_13.2.2
def spec_A2Order.l_21 (n1 : Int) : ((List Int) × Int) → Option (((List Int) × Int) ⊕ ((List Int)))
  | (xs_19, i_20) => (if (decide (i_20 < n1)) = true then (if xs_19.length + ([i_20] : List Int).length ≤ 4294967296 then some (.inl ((xs_19 ++ ([i_20] : List Int)), (w64 (i_20 + 1)))) else none) else some (.inr xs_19))
def spec_A2Order (code0 : List Int) (n1 : Int) : Option ((List Int)) := (spec_l00From code0).bind fun t_1 => (loop (spec_A2Order.l_21 n1) (([] : List Int), 0)).bind fun t_22 => spec_A2Order.k_3 code0 n1 t_1 t_22
theorem spec_A2Order.calls (code0 : List Int) (n1 : Int) (w : World) (r : (List Int)) {A_a : Option Addr} {A_an : Nat} (A_c : Nat) (A_h : Rw w A_a 1 encU8 code0) (A_hn : code0.length = A_an) (h : spec_A2Order code0 n1 = some r) :
    Calls Try.prog 18 #[(.slice A_a A_an A_c), (.int .i64 n1)] w fun e w' => ∃ v, e = .returned v ∧ (∃ (o0 : Option Nat) (c0 : Nat) (s0 : List Value) (n0 : Nat), r.length = n0 ∧ (o0 ≠ none → n0 ≤ c0 ∧ s0.length = (c0 - n0) * 1) ∧ (o0 = none → r = [] ∧ c0 = 0) ∧ v = .slice (o0.map fun b => ⟨b, 0, none⟩) n0 c0 ∧ Mem w [] [⟨o0, 2, row encI64 r s0⟩] w') := by
  subst A_hn
  rw [spec_A2Order] at h
  refine enter (args := [(.slice A_a code0.length A_c), (.int .i64 n1)]) Try.func18 rfl Try.ntmps18 (by kernel_rfl) (L := []) (W := []) (Mem.start w) ?_
  refine jc_seq (jc_region (qh [0] (qe (jx_then (jc_seq (jc_region (qh [0] ?_)))))))
  obtain ⟨t_1, ht_1, h⟩ := bd h
  refine tO (pc 0 (fun w hm => spec_l00From.calls code0 w _ A_c (hm.xr A_h) rfl ht_1) ?_)
  rintro w v w' hm ⟨b_2, rfl, hm'⟩
  refine ⟨_, hm.app hm', jkO ?_⟩
  clear hm hm'
  refine qh [0] (qe (jx_then (jc_seq (jc_region (tO (qa 0 (fun b_3 => jkO (qh [0] (qe (jx_then (jc_seq (jc_seq (jc_region (qh [0] (qe (jx_then (jc_meet (fun (j : (List Int) × (Option Nat) × Nat × (List Value) × Nat) => match j with | ⟨xs_2, o_139, cap_140, sp_141, n_142⟩ => spec_A2Order.k_3 code0 n1 t_1 xs_2 = some r ∧ (xs_2.length = n_142) ∧ ((o_139 ≠ none → n_142 ≤ cap_140 ∧ sp_141.length = (cap_140 - n_142) * 1)) ∧ ((o_139 = none → xs_2 = [] ∧ cap_140 = 0))) (fun (j : (List Int) × (Option Nat) × Nat × (List Value) × Nat) => match j with | ⟨xs_2, o_139, cap_140, sp_141, n_142⟩ => [(1, [], (.int .i64 n1)), (4, [], (.slice none 0 0)), (5, [], (.pointer (some ⟨b_2, 0, none⟩))), (6, [], (.slice (o_139.map fun b => ⟨b, 0, none⟩) n_142 cap_140))]) (fun (j : (List Int) × (Option Nat) × Nat × (List Value) × Nat) => match j with | ⟨xs_2, o_139, cap_140, sp_141, n_142⟩ => [⟨some b_2, 95, [(.slice A_a code0.length A_c), (.int .i64 t_1.fat), (.int .u64 t_1.fseed)]⟩, ⟨o_139, 2, row encI64 xs_2 sp_141⟩]) ?_ ?_)))))))))))))))))
  ·refine jc_block ?_
   obtain ⟨t_22, ht_307, hr_295⟩ := bd h
   refine jc_loop (fun (s : (List Int) × Int) (x : (Option Nat) × Nat × (List Value) × Nat) => match s, x with | ⟨xs_19, i_20⟩, ⟨o_289, cap_290, sp_291, n_292⟩ => (xs_19.length = n_292) ∧ ((o_289 ≠ none → n_292 ≤ cap_290 ∧ sp_291.length = (cap_290 - n_292) * 1)) ∧ ((o_289 = none → xs_19 = [] ∧ cap_290 = 0))) (fun (s : (List Int) × Int) (x : (Option Nat) × Nat × (List Value) × Nat) => match s, x with | ⟨xs_19, i_20⟩, ⟨o_289, cap_290, sp_291, n_292⟩ => [(1, [], (.int .i64 n1)), (4, [], (.slice none 0 0)), (5, [], (.pointer (some ⟨b_2, 0, none⟩))), (6, [], (.slice (o_289.map fun b => ⟨b, 0, none⟩) n_292 cap_290)), (7, [], (.int .i64 i_20))]) (fun (s : (List Int) × Int) (x : (Option Nat) × Nat × (List Value) × Nat) => match s, x with | ⟨xs_19, i_20⟩, ⟨o_289, cap_290, sp_291, n_292⟩ => [⟨some b_2, 95, [(.slice A_a code0.length A_c), (.int .i64 t_1.fat), (.int .u64 t_1.fseed)]⟩, ⟨o_289, 2, row encI64 xs_19 sp_291⟩]) ht_307 ⟨(some b_3), 0, [], 0⟩ ⟨rfl, (fun _ => ⟨Nat.le_refl _, by simp⟩), (fun e => nomatch e)⟩ (by kernel_rfl) [0, 1] (by kernel_rfl) (by kernel_rfl) ?_
   rintro ⟨xs_19, i_20⟩ ⟨o_289, cap_290, sp_291, n_292⟩ y_296 ⟨rfl, hs_293, ho_294⟩ h
   rw [spec_A2Order.l_21] at h
   refine jc_seq (jc_seq (jc_region (qh [0,0,0] (qe (jx_then (qi h (fun h => ?_) (fun h => ?_)))))))
   ·refine jc_skip (jx_then (jc_seq (jc_block (jc_region (qh [0,0] (tO (qa 0 (fun b_299 => jkO ?_))))))))
    obtain ⟨hg_300, h⟩ := gd h
    exact tO (p_apn 0 1 o_289 2 xs_19.length 1 cap_290 1 8 (some ⟨b_299, 0, none⟩) encI64 xs_19 ([i_20] : List Int) sp_291 (.int .i64 0) rfl rfl (by kernel_rfl) (by kernel_rfl) (by kernel_rfl) encI64_len encI64_cell hs_293 ho_294 (fun w hm => (hm.ow 2 (some b_299) 2 ([i_20] : List Int) [] (fun e => nomatch e) encI64_len)) hg_300 (by kernel_rfl) (by kernel_rfl) (fun o_301 cap_302 sp_303 hs_304 ho_305 => jkO (qh [0] (qe (jx_inn (jx_then (jc_region (qh [0,0,0] (qe (qb ((xs_19 ++ ([i_20] : List Int)), (w64 (i_20 + 1))) ⟨o_301, cap_302, sp_303, (xs_19 ++ ([i_20] : List Int)).length⟩ h ⟨rfl, hs_304, ho_305⟩ [0, 1]))))))))))
   ·refine jc_exit (jx_thenx (jx_leave xs_19 (Option.some.inj h).symm (fun e_306 => ?_)))
    subst e_306
    exact jx_ine (qm ⟨xs_19, o_289, cap_290, sp_291, xs_19.length⟩ ⟨hr_295, rfl, hs_293, ho_294⟩ [0, 1])
  ·rintro ⟨xs_2, o_139, cap_140, sp_141, n_142⟩ ⟨h, rfl, hs_143, ho_144⟩
   replace h : spec_A2Order.k_3 code0 n1 t_1 xs_2 = some r := h
   rw [spec_A2Order.k_3] at h
   refine jx_then (jc_seq (jc_seq (jc_region (qh [0,0,0] (qe (jx_then (jc_meet (fun (j : (List Int) × Int × Int) => match j with | ⟨xs_4, i_5, i_6⟩ => spec_A2Order.k_7 xs_4 i_5 i_6 = some r ∧ (xs_4.length = xs_2.length) ∧ ((o_139 = none → xs_4 = [] ∧ cap_140 = 0))) (fun (j : (List Int) × Int × Int) => match j with | ⟨xs_4, i_5, i_6⟩ => [(4, [], (.slice none 0 0)), (6, [], (.slice (o_139.map fun b => ⟨b, 0, none⟩) xs_2.length cap_140))]) (fun (j : (List Int) × Int × Int) => match j with | ⟨xs_4, i_5, i_6⟩ => [⟨some b_2, 95, [(.slice A_a code0.length A_c), (.int .i64 i_5), (.int .u64 i_6)]⟩, ⟨o_139, 2, row encI64 xs_4 sp_141⟩]) ?_ ?_)))))))
   ·refine jc_block ?_
    obtain ⟨t_13, ht_264, hr_254⟩ := bd h
    refine jc_loop (fun (s : (List Int) × Int × Int × Int) (x : Unit) => match s, x with | ⟨xs_8, i_9, i_10, i_11⟩, _ => (xs_8.length = xs_2.length) ∧ ((o_139 = none → xs_8 = [] ∧ cap_140 = 0))) (fun (s : (List Int) × Int × Int × Int) (x : Unit) => match s, x with | ⟨xs_8, i_9, i_10, i_11⟩, _ => [(4, [], (.slice none 0 0)), (5, [], (.pointer (some ⟨b_2, 0, none⟩))), (6, [], (.slice (o_139.map fun b => ⟨b, 0, none⟩) xs_2.length cap_140)), (8, [], (.int .i64 i_11))]) (fun (s : (List Int) × Int × Int × Int) (x : Unit) => match s, x with | ⟨xs_8, i_9, i_10, i_11⟩, _ => [⟨some b_2, 95, [(.slice A_a code0.length A_c), (.int .i64 i_9), (.int .u64 i_10)]⟩, ⟨o_139, 2, row encI64 xs_8 sp_141⟩]) ht_264 () ⟨rfl, ho_144⟩ (by kernel_rfl) [0, 1] (by kernel_rfl) (by kernel_rfl) ?_
    rintro ⟨xs_8, i_9, i_10, i_11⟩ _ y_255 ⟨hn_253, ho_252⟩ h
    rw [spec_A2Order.l_12] at h
    refine jc_seq (jc_seq (jc_region (qh [0,0] (qe (jx_then (qi h (fun h => ?_) (fun h => ?_)))))))
    ·refine jc_skip (jx_then (jc_seq (jc_block (jc_seq (jc_region (qh [0,0,0] ?_))))))
     obtain ⟨t_14, ht_258, h⟩ := bd h
     refine tO (pc 0 (fun w hm => spec_l00Src_pick.calls (⟨code0, i_9, i_10⟩ : Gl00Src) (w64 (i_11 + 1)) w _ A_c (hm.xr A_h) rfl b_2 (hm.pass (N := [⟨some b_2, 95, [(.slice A_a code0.length A_c), (.int .i64 i_9), (.int .u64 i_10)]⟩]) [0] (by kernel_rfl) (by kernel_rfl)) (hm.exApart (N := [⟨some b_2, 95, [(.slice A_a code0.length A_c), (.int .i64 i_9), (.int .u64 i_10)]⟩]) A_h (fun _ => List.not_mem_nil) [0] (by kernel_rfl)) ht_258) ?_)
     rintro w v w' hm ⟨rfl, hm'⟩
     refine ⟨_, hm.appW (ps := [(0, ⟨some b_2, 95, [(.slice A_a code0.length A_c), (.int .i64 t_14.2.fat), (.int .u64 t_14.2.fseed)]⟩)]) (N := []) hm' (by kernel_rfl) (by kernel_rfl), jkO ?_⟩
     clear hm hm'
     refine qh [0] (qe (jx_then (jc_seq (jc_region (qh [0,0] ?_)))))
     obtain ⟨x_15, hx_259, h⟩ := bd h
     refine tO (qx 0 (o_139.map fun b => ⟨b, 0, none⟩) 1 hx_259 hn_253 (spo ho_252 hx_259) (jkO (tO (ql 0 false (fun w hm => ((hm.ow 1 o_139 2 xs_8 sp_141 (fun e => (ho_252 e).1) encI64_len).at hx_259)) (jkO (qh [0] (qe (jx_then (jc_seq (jc_region (qh [0,0,0,0] ?_)))))))))))
     obtain ⟨x_16, hx_260, h⟩ := bd h
     refine tO (qx 0 (o_139.map fun b => ⟨b, 0, none⟩) 1 hx_260 hn_253 (spo ho_252 hx_260) (jkO (tO (ql 0 false (fun w hm => ((hm.ow 1 o_139 2 xs_8 sp_141 (fun e => (ho_252 e).1) encI64_len).at hx_260)) (jkO ?_)))))
     obtain ⟨x_17, hx_261, h⟩ := bd h
     refine tO (qx 0 (o_139.map fun b => ⟨b, 0, none⟩) 1 hx_261 hn_253 (spo ho_252 hx_261) (jkO (tO (p_strO 0 1 o_139 2 encI64 xs_8 sp_141 i_11 x_16 1 0 [(.int .i64 x_16)] (by kernel_rfl) (by kernel_rfl) (by kernel_rfl) (fun e => (ho_252 e).1) encI64_len hx_261 (by kernel_rfl) (by kernel_rfl) (jkO (qe (jx_then (jc_region (qh [0,0,0] ?_)))))))))
     obtain ⟨x_18, hx_262, h⟩ := bd h
     exact tO (qx 0 (o_139.map fun b => ⟨b, 0, none⟩) 1 hx_262 (List.length_set.trans hn_253) (spo (set_ho ho_252) hx_262) (jkO (tO (p_strO 0 1 o_139 2 encI64 (xs_8.set i_11.toNat x_16) sp_141 t_14.1 x_15 1 0 [(.int .i64 x_15)] (by kernel_rfl) (by kernel_rfl) (by kernel_rfl) (fun e => ((set_ho ho_252) e).1) encI64_len hx_262 (by kernel_rfl) (by kernel_rfl) (jkO (qe (jx_inn (jx_then (jc_region (qh [0,0,0] (qe (qb (((xs_8.set i_11.toNat x_16).set t_14.1.toNat x_15), t_14.2.fat, t_14.2.fseed, (w64 (i_11 - 1))) () h ⟨(List.length_set.trans (List.length_set.trans hn_253)), (set_ho (set_ho ho_252))⟩ [0, 1]))))))))))))
    ·refine jc_exit (jx_thenx (jx_leave (xs_8, i_9, i_10) (Option.some.inj h).symm (fun e_263 => ?_)))
     subst e_263
     exact jx_ine (qm ⟨xs_8, i_9, i_10⟩ ⟨hr_254, hn_253, ho_252⟩ [0, 1])
   ·rintro ⟨xs_4, i_5, i_6⟩ ⟨h, hn_235, ho_234⟩
    replace h : spec_A2Order.k_7 xs_4 i_5 i_6 = some r := h
    rw [spec_A2Order.k_7] at h
    refine jx_then (jc_seq (jc_region (qh [0,0] (qe (jx_then (jc_ret ?_))))))
    obtain rfl := Option.some.inj h
    exact qr [] (fun w hm => ⟨o_139, cap_140, sp_141, xs_2.length, hn_235, hs_143, ho_234, rfl, hm.pk [1]⟩)
/-! ### impl.isOrder -/
def impl_isOrder.k_1 : Option (Bool) := some true
def impl_isOrder.l_3 (order0 : List Int) (n1 : Int) : Int → Option ((Int) ⊕ (Bool ⊕ Unit))
  | i_2 => (if (decide (i_2 < n1)) = true then (slices_Contains_int64 order0 i_2).bind fun t_5 => (if (!t_5) = true then some (.inr (.inl false)) else some (.inl (w64 (i_2 + 1)))) else some (.inr (.inr ())))
def impl_isOrder (order0 : List Int) (n1 : Int) : Option (Bool) := (if ((order0.length : Int) != n1) = true then some false else (loop (impl_isOrder.l_3 order0 n1) 0).bind fun t_4 => match t_4 with | .inl p => some p | .inr p => impl_isOrder.k_1)
theorem impl_isOrder.calls (order0 : List Int) (n1 : Int) (w : World) (r : Bool) {A_a : Option Addr} {A_an : Nat} (A_c : Nat) (A_h : Rw w A_a 1 encI64 order0) (A_hn : order0.length = A_an) (h : impl_isOrder order0 n1 = some r) :
    Calls Try.prog 47 #[(.slice A_a A_an A_c), (.int .i64 n1)] w fun e w' => ∃ v, e = .returned v ∧ (v = (.bool r) ∧ Mem w [] [] w') := by
  subst A_hn
  rw [impl_isOrder] at h
  refine enter (args := [(.slice A_a order0.length A_c), (.int .i64 n1)]) Try.func47 rfl Try.ntmps47 (by kernel_rfl) (L := []) (W := []) (Mem.start w) ?_
  refine jc_seq (jc_region (qh [0] (qe (jx_then (jc_seq (jc_seq (jc_region (qh [0,0,0,0] (qe (jx_then (qi h (fun h => ?_) (fun h => ?_))))))))))))
  ·refine jc_seq (jc_region (qh [0] (qe (jx_then (jc_ret (jx_thenr ?_))))))
   obtain rfl := Option.some.inj h
   exact qr [] (fun w hm => ⟨rfl, hm.pk []⟩)
  ·refine jc_skip (jx_then (jc_seq (jc_seq (jc_region (qh [0,0] (qe (jx_then (jc_meet (fun (_ : Unit) => impl_isOrder.k_1 = some r) (fun (_ : Unit) => [(4, [], (.bool false))]) (fun (_ : Unit) => []) ?_ ?_))))))))
   ·refine jc_block ?_
    obtain ⟨t_4, ht_36, hr_28⟩ := bd h
    refine jc_loop (fun (s : Int) (x : Unit) => match s, x with | i_2, _ => True) (fun (s : Int) (x : Unit) => match s, x with | i_2, _ => [(0, [], (.slice A_a order0.length A_c)), (4, [], (.bool false)), (10, [], (.int .i64 n1)), (11, [], (.int .i64 i_2))]) (fun (s : Int) (x : Unit) => match s, x with | i_2, _ => []) ht_36 () trivial (by kernel_rfl) [] (by kernel_rfl) (by kernel_rfl) ?_
    rintro i_2 _ y_29 _ h
    rw [impl_isOrder.l_3] at h
    refine jc_seq (jc_region (qh [0] (qe (jx_then (jc_seq (qi h (fun h => ?_) (fun h => ?_)))))))
    ·refine jc_skip (jx_then (jc_seq (jc_block (jc_seq (jc_region (qh [0,0] (qe (jx_then (jc_seq (jc_region (qh [0,0] ?_)))))))))))
     obtain ⟨t_5, ht_32, h⟩ := bd h
     refine tO (pc 0 (fun w hm => slices_Contains_int64.calls order0 i_2 w _ A_c (hm.xr A_h) rfl ht_32) ?_)
     rintro w v w' hm ⟨rfl, hm'⟩
     refine ⟨_, hm.app hm', jkO ?_⟩
     clear hm hm'
     refine qh [0] (qe (jx_then (qi h (fun h => ?_) (fun h => ?_))))
     ·refine jc_seq (jc_region (qh [0] (qe (jx_then (jc_ret (jx_inr (jx_thenr (jx_leaver (.inl false) (Option.some.inj h).symm (fun e_34 => ?_)))))))))
      subst e_34
      refine jx_inr (jx_thenr (jx_thenr ?_))
      obtain rfl := Option.some.inj hr_28
      exact qr [] (fun w hm => ⟨rfl, hm.pk []⟩)
     ·exact jc_skip (jx_inn (jx_then (jc_region (qh [0,0] (qe (qb (w64 (i_2 + 1)) () h trivial []))))))
    ·refine jc_exit (jx_thenx (jx_leave (.inr ()) (Option.some.inj h).symm (fun e_35 => ?_)))
     subst e_35
     exact jx_ine (qm () hr_28 [])
   ·rintro _ h
    replace h : impl_isOrder.k_1 = some r := h
    rw [impl_isOrder.k_1] at h
    refine jx_then (jc_seq (jc_region (qh [0] (qe (jx_then (jc_ret ?_))))))
    obtain rfl := Option.some.inj h
    exact qr [] (fun w hm => ⟨rfl, hm.pk []⟩)
/-! ### impl.OrderCost -/
def impl_OrderCost (f0 : GFrame) (list1 : List (Arr 96 Int)) (order2 : List Int) : Option (Int × Int) := (impl_listCode f0 list1).bind fun t_1 => (impl_isOrder order2 (list1.length : Int)).bind fun t_2 => (impl_unless t_2 4).bind fun t_3 => (impl_firstOf ([t_1, t_3] : List Int)).bind fun t_4 => (if (t_4 != 0) = true then some (0, t_4) else (impl_costs list1).bind fun t_5 => (impl_orderCost t_5 order2).bind fun t_6 => some (t_6, 0))
theorem impl_OrderCost.calls (f0 : GFrame) (list1 : List (Arr 96 Int)) (order2 : List Int) (w : World) (r : Int × Int) {C_a : Option Addr} {C_an : Nat} (C_c : Nat) (C_h : Rw w C_a 2 encGHammer f0.fHammers) (C_hn : f0.fHammers.length = C_an) {D_a : Option Addr} {D_an : Nat} (D_c : Nat) (D_h : Rw w D_a 96 encA96U32 list1) (D_hn : list1.length = D_an) {E_a : Option Addr} {E_an : Nat} (E_c : Nat) (E_h : Rw w E_a 1 encI64 order2) (E_hn : order2.length = E_an) (h : impl_OrderCost f0 list1 order2 = some r) :
    Calls Try.prog 19 #[(.agg #[(.int .i16 f0.fSteps), (.slice C_a C_an C_c)]), (.slice D_a D_an D_c), (.slice E_a E_an E_c)] w fun e w' => ∃ v, e = .returned v ∧ (v = .tuple #[(.int .i64 r.1), (.int .i64 r.2)] ∧ Mem w [] [] w') := by
  subst C_hn D_hn E_hn
  rw [impl_OrderCost] at h
  refine enter (args := [(.agg #[(.int .i16 f0.fSteps), (.slice C_a f0.fHammers.length C_c)]), (.slice D_a list1.length D_c), (.slice E_a order2.length E_c)]) Try.func19 rfl Try.ntmps19 (by kernel_rfl) (L := []) (W := []) (Mem.start w) ?_
  refine jc_seq (jc_region (tO (qa 0 (fun b_1 => jkO (qh [0,0] (qe (jx_then (jc_seq (jc_seq (jc_region (qh [0,0] ?_)))))))))))
  obtain ⟨t_1, ht_8, h⟩ := bd h
  refine tO (pc 0 (fun w hm => impl_listCode.calls f0 list1 w _ C_c (hm.xr C_h) rfl D_c (hm.xr D_h) rfl ht_8) ?_)
  rintro w v w' hm ⟨rfl, hm'⟩
  refine ⟨_, hm.app hm', jkO ?_⟩
  clear hm hm'
  refine qh [0,0,0] ?_
  obtain ⟨t_2, ht_9, h⟩ := bd h
  refine tO (pc 0 (fun w hm => impl_isOrder.calls order2 (list1.length : Int) w _ E_c (hm.xr E_h) rfl ht_9) ?_)
  rintro w v w' hm ⟨rfl, hm'⟩
  refine ⟨_, hm.app hm', jkO ?_⟩
  clear hm hm'
  obtain ⟨t_3, ht_10, h⟩ := bd h
  refine tO (pc 0 (fun w hm => impl_unless.calls t_2 4 w _ ht_10) ?_)
  rintro w v w' hm ⟨rfl, hm'⟩
  refine ⟨_, hm.app hm', jkO ?_⟩
  clear hm hm'
  refine tO (qa 0 (fun b_11 => jkO ?_))
  obtain ⟨t_4, ht_12, h⟩ := bd h
  refine tO (pc 0 (fun w hm => impl_firstOf.calls ([t_1, t_3] : List Int) w _ 2 (hm.ow 1 (some b_11) 2 ([t_1, t_3] : List Int) [] (fun e => nomatch e) encI64_len) rfl ht_12) ?_)
  rintro w v w' hm ⟨rfl, hm'⟩
  refine ⟨_, hm.app hm', jkO ?_⟩
  clear hm hm'
  refine qh [0] (qe (jx_then (jc_seq (jc_region (qh [0,0] (qe (jx_then (qi h (fun h => ?_) (fun h => ?_)))))))))
  ·refine jc_seq (jc_region (qh [0,0,0] (qe (jx_then (jc_ret (jx_thenr ?_))))))
   obtain rfl := Option.some.inj h
   exact qr [] (fun w hm => ⟨rfl, hm.pk []⟩)
  ·refine jc_skip (jx_then (jc_seq (jc_region (qh [0] ?_))))
   obtain ⟨t_5, ht_14, h⟩ := bd h
   refine tO (pc 0 (fun w hm => impl_costs.calls list1 w _ D_c (hm.xr D_h) rfl ht_14) ?_)
   rintro w v w' hm ⟨o_15, cap_16, sp_17, _, hh_20, hI_21, rfl, hs_18, ho_19, rfl, hm'⟩
   refine ⟨_, hm.app hm', jkO ?_⟩
   clear hm hm'
   refine qh [0] ?_
   obtain ⟨t_6, ht_22, h⟩ := bd h
   refine tO (pc 0 (fun w hm => impl_orderCost.calls t_5 order2 w _ cap_16 (hm.ow 2 o_15 34 hh_20 sp_17 (fun e => (ho_19 e).1) encHd_len) (hI_21.1.symm.trans rfl) (hm.cluPass (N := []) 3 hI_21 encI64_len []) E_c (hm.xr E_h) rfl ht_22) ?_)
   rintro w v w' hm ⟨rfl, hm'⟩
   refine ⟨_, hm.app hm', jkO ?_⟩
   clear hm hm'
   refine qh [0,0] (qe (jx_then (jc_ret ?_)))
   obtain rfl := Option.some.inj h
   exact qr [] (fun w hm => ⟨rfl, hm.pk []⟩)
/-! ### laws.a2At -/
def laws_a2At (code0 : List Int) (at1 : Int) (n2 : Int) : Option (Int) := (if ((decide (at1 ≥ (code0.length : Int))) || (decide (n2 < 1))) = true then some 0 else (ix code0 at1).bind fun x_1 => (if n2 ≠ 0 then some (Int.tmod (w64 x_1) n2) else none))
theorem laws_a2At.calls (code0 : List Int) (at1 : Int) (n2 : Int) (w : World) (r : Int) {A_a : Option Addr} {A_an : Nat} (A_c : Nat) (A_h : Rw w A_a 1 encU8 code0) (A_hn : code0.length = A_an) (h : laws_a2At code0 at1 n2 = some r) :
    Calls Try.prog 20 #[(.slice A_a A_an A_c), (.int .i64 at1), (.int .i64 n2)] w fun e w' => ∃ v, e = .returned v ∧ (v = (.int .i64 r) ∧ Mem w [] [] w') := by
  subst A_hn
  rw [laws_a2At] at h
  refine enter (args := [(.slice A_a code0.length A_c), (.int .i64 at1), (.int .i64 n2)]) Try.func20 rfl Try.ntmps20 (by kernel_rfl) (L := []) (W := []) (Mem.start w) ?_
  refine jc_seq (jc_region (qh [0] (qe (jx_then (jc_seq (jc_seq (jc_region (qf [(0, 0), (0, 0), (0, 0), (0, 0), (0, 0), (0, 1), (0, 1), (0, 0)] (qe (jx_then (qi h (fun h => ?_) (fun h => ?_))))))))))))
  ·refine jc_seq (jc_region (qh [0] (qe (jx_then (jc_ret (jx_thenr ?_))))))
   obtain rfl := Option.some.inj h
   exact qr [] (fun w hm => ⟨rfl, hm.pk []⟩)
  ·refine jc_skip (jx_then (jc_seq (jc_region (qh [0,0] ?_))))
   obtain ⟨x_1, hx_3, h⟩ := bd h
   refine tO (qx 0 A_a 1 hx_3 rfl (A_h.sp hx_3) (jkO (tO (ql 0 false (fun w hm => ((hm.xr A_h).at hx_3)) (jkO (qh [0,0] ?_))))))
   obtain ⟨hg_4, h⟩ := gd h
   refine tO (p_rem 0 .i64 (w64 x_1) n2 (by kernel_rfl) (by kernel_rfl) hg_4 (jkO (qh [0] (qe (jx_then (jc_ret ?_))))))
   obtain rfl := Option.some.inj h
   exact qr [] (fun w hm => ⟨rfl, hm.pk []⟩)
/-! ### impl.NearestOrder -/
def impl_NearestOrder.k_4 (t_2 : (List (List Int))) (xs_3 : List Int) : Option ((List Int) × Int × Int) := (impl_orderCost t_2 xs_3).bind fun t_5 => some (xs_3, t_5, 0)
def impl_NearestOrder.k_13 (xs_6 : List Int) (i_12 : Int) : Option (((List Int)) ⊕ ((List Int))) := (if xs_6.length + ([i_12] : List Int).length ≤ 4294967296 then some (.inl (xs_6 ++ ([i_12] : List Int))) else none)
def impl_NearestOrder.k_19 (i_14 : Int) (i_15 : Int) (q_18 : Bool) : Option ((Int × Int) ⊕ (Int)) := (if q_18 = true then some (.inl (i_15, (w64 (i_15 + 1)))) else some (.inl (i_14, (w64 (i_15 + 1)))))
def impl_NearestOrder.l_16 (xs_6 : List Int) (x_10 : List Int) (t_11 : Int) : (Int × Int) → Option ((Int × Int) ⊕ (Int))
  | (i_14, i_15) => (if (decide (i_15 < t_11)) = true then (slices_Contains_int64 xs_6 i_15).bind fun t_20 => (if (!t_20) = true then (if (decide (i_14 < 0)) = true then impl_NearestOrder.k_19 i_14 i_15 true else (ix x_10 i_15).bind fun x_21 => (ix x_10 i_14).bind fun x_22 => impl_NearestOrder.k_19 i_14 i_15 (decide (x_21 < x_22))) else impl_NearestOrder.k_19 i_14 i_15 false) else some (.inr i_14))
def impl_NearestOrder.l_7 (list1 : List (Arr 96 Int)) (t_2 : (List (List Int))) : (List Int) → Option (((List Int)) ⊕ ((List Int)))
  | xs_6 => (if (decide ((xs_6.length : Int) < (list1.length : Int))) = true then (ix xs_6 (w64 ((xs_6.length : Int) - 1))).bind fun x_9 => (ix t_2 x_9).bind fun x_10 => (impl_size_Drum list1).bind fun t_11 => (loop (impl_NearestOrder.l_16 xs_6 x_10 t_11) ((-1), 0)).bind fun t_17 => impl_NearestOrder.k_13 xs_6 t_17 else some (.inr xs_6))
def impl_NearestOrder (f0 : GFrame) (list1 : List (Arr 96 Int)) (first2 : Int) : Option ((List Int) × Int × Int) := (impl_startCode f0 list1 first2).bind fun t_1 => (if (t_1 != 0) = true then some ([], 0, t_1) else (if (decide (first2 < 0)) = true then some ([], 0, 2) else (impl_costs list1).bind fun t_2 => (loop (impl_NearestOrder.l_7 list1 t_2) ([first2] : List Int)).bind fun t_8 => impl_NearestOrder.k_4 t_2 t_8))
theorem impl_NearestOrder.calls (f0 : GFrame) (list1 : List (Arr 96 Int)) (first2 : Int) (w : World) (r : (List Int) × Int × Int) {C_a : Option Addr} {C_an : Nat} (C_c : Nat) (C_h : Rw w C_a 2 encGHammer f0.fHammers) (C_hn : f0.fHammers.length = C_an) {D_a : Option Addr} {D_an : Nat} (D_c : Nat) (D_h : Rw w D_a 96 encA96U32 list1) (D_hn : list1.length = D_an) (h : impl_NearestOrder f0 list1 first2 = some r) :
    Calls Try.prog 21 #[(.agg #[(.int .i16 f0.fSteps), (.slice C_a C_an C_c)]), (.slice D_a D_an D_c), (.int .i64 first2)] w fun e w' => ∃ v, e = .returned v ∧ (∃ (o0 : Option Nat) (c0 : Nat) (s0 : List Value) (n0 : Nat), r.1.length = n0 ∧ (o0 ≠ none → n0 ≤ c0 ∧ s0.length = (c0 - n0) * 1) ∧ (o0 = none → r.1 = [] ∧ c0 = 0) ∧ v = .tuple #[.slice (o0.map fun b => ⟨b, 0, none⟩) n0 c0, (.int .i64 r.2.1), (.int .i64 r.2.2)] ∧ Mem w [] [⟨o0, 2, row encI64 r.1 s0⟩] w') := by
  subst C_hn D_hn
  rw [impl_NearestOrder] at h
  refine enter (args := [(.agg #[(.int .i16 f0.fSteps), (.slice C_a f0.fHammers.length C_c)]), (.slice D_a list1.length D_c), (.int .i64 first2)]) Try.func21 rfl Try.ntmps21 (by kernel_rfl) (L := []) (W := []) (Mem.start w) ?_
  refine jc_seq (jc_region (tO (qa 0 (fun b_1 => jkO (qh [0,0,0] (qe (jx_then (jc_seq (jc_seq (jc_region (qh [0,0,0] ?_)))))))))))
  obtain ⟨t_1, ht_4, h⟩ := bd h
  refine tO (pc 0 (fun w hm => impl_startCode.calls f0 list1 first2 w _ C_c (hm.xr C_h) rfl D_c (hm.xr D_h) rfl ht_4) ?_)
  rintro w v w' hm ⟨rfl, hm'⟩
  refine ⟨_, hm.app hm', jkO ?_⟩
  clear hm hm'
  refine qh [0] (qe (jx_then (jc_seq (jc_region (qh [0,0] (qe (jx_then (qi h (fun h => ?_) (fun h => ?_)))))))))
  ·refine jc_seq (jc_region (qh [0,0,0,0] (qe (jx_then (jc_ret (jx_thenr ?_))))))
   obtain rfl := Option.some.inj h
   exact jx_ghost 2 encI64 (qr [] (fun w hm => ⟨none, 0, [], 0, rfl, (fun e => absurd rfl e), (fun _ => ⟨rfl, rfl⟩), rfl, hm.pk [1]⟩))
  ·refine jc_skip (jx_then (jc_seq (jc_seq (jc_region (qh [0,0] (qe (jx_then (qi h (fun h => ?_) (fun h => ?_)))))))))
   ·refine jc_seq (jc_region (qh [0,0,0] (qe (jx_then (jc_ret (jx_thenr ?_))))))
    obtain rfl := Option.some.inj h
    exact jx_ghost 2 encI64 (qr [] (fun w hm => ⟨none, 0, [], 0, rfl, (fun e => absurd rfl e), (fun _ => ⟨rfl, rfl⟩), rfl, hm.pk [1]⟩))
   ·refine jc_skip (jx_then (jc_seq (jc_region (qh [0] ?_))))
    obtain ⟨t_2, ht_8, h⟩ := bd h
    refine tO (pc 0 (fun w hm => impl_costs.calls list1 w _ D_c (hm.xr D_h) rfl ht_8) ?_)
    rintro w v w' hm ⟨o_9, cap_10, sp_11, _, hh_14, hI_15, rfl, hs_12, ho_13, rfl, hm'⟩
    refine ⟨_, hm.app hm', jkO ?_⟩
    clear hm hm'
    refine qh [0] (tO (qa 0 (fun b_16 => jkO (qh [0,0] (qe (jx_then (jc_seq (jc_meet (fun (j : (List Int) × (Option Nat) × Nat × (List Value) × Nat) => match j with | ⟨xs_3, o_1137, cap_1138, sp_1139, n_1140⟩ => impl_NearestOrder.k_4 t_2 xs_3 = some r ∧ (xs_3.length = n_1140) ∧ ((o_1137 ≠ none → n_1140 ≤ cap_1138 ∧ sp_1139.length = (cap_1138 - n_1140) * 1)) ∧ ((o_1137 = none → xs_3 = [] ∧ cap_1138 = 0))) (fun (j : (List Int) × (Option Nat) × Nat × (List Value) × Nat) => match j with | ⟨xs_3, o_1137, cap_1138, sp_1139, n_1140⟩ => [(6, [], (.slice none 0 0)), (7, [], (.int .i64 0)), (8, [], (.int .i64 0)), (10, [], (.slice (o_9.map fun b => ⟨b, 0, none⟩) hh_14.length cap_10)), (11, [], (.slice (o_1137.map fun b => ⟨b, 0, none⟩) n_1140 cap_1138))]) (fun (j : (List Int) × (Option Nat) × Nat × (List Value) × Nat) => match j with | ⟨xs_3, o_1137, cap_1138, sp_1139, n_1140⟩ => [⟨some b_1, 27, [(.int .i16 f0.fSteps), (.slice C_a f0.fHammers.length C_c)]⟩, ⟨o_9, 34, row encHd hh_14 sp_11⟩, ⟨none, CLU, cluC encI64 hh_14 t_2⟩, ⟨o_1137, 2, row encI64 xs_3 sp_1139⟩]) ?_ ?_))))))))
    ·refine jc_block ?_
     obtain ⟨t_8, ht_2263, hr_1892⟩ := bd h
     refine jc_loop (fun (s : (List Int)) (x : (Option Nat) × Nat × (List Value) × Nat) => match s, x with | xs_6, ⟨o_1886, cap_1887, sp_1888, n_1889⟩ => (xs_6.length = n_1889) ∧ ((o_1886 ≠ none → n_1889 ≤ cap_1887 ∧ sp_1888.length = (cap_1887 - n_1889) * 1)) ∧ ((o_1886 = none → xs_6 = [] ∧ cap_1887 = 0))) (fun (s : (List Int)) (x : (Option Nat) × Nat × (List Value) × Nat) => match s, x with | xs_6, ⟨o_1886, cap_1887, sp_1888, n_1889⟩ => [(1, [], (.slice D_a list1.length D_c)), (6, [], (.slice none 0 0)), (7, [], (.int .i64 0)), (8, [], (.int .i64 0)), (10, [], (.slice (o_9.map fun b => ⟨b, 0, none⟩) hh_14.length cap_10)), (11, [], (.slice (o_1886.map fun b => ⟨b, 0, none⟩) n_1889 cap_1887))]) (fun (s : (List Int)) (x : (Option Nat) × Nat × (List Value) × Nat) => match s, x with | xs_6, ⟨o_1886, cap_1887, sp_1888, n_1889⟩ => [⟨some b_1, 27, [(.int .i16 f0.fSteps), (.slice C_a f0.fHammers.length C_c)]⟩, ⟨o_9, 34, row encHd hh_14 sp_11⟩, ⟨none, CLU, cluC encI64 hh_14 t_2⟩, ⟨o_1886, 2, row encI64 xs_6 sp_1888⟩]) ht_2263 ⟨(some b_16), 1, [], 1⟩ ⟨rfl, (fun _ => ⟨Nat.le_refl _, by simp⟩), (fun e => nomatch e)⟩ (by kernel_rfl) [0, 1, 2, 3] (by kernel_rfl) (by kernel_rfl) ?_
     rintro xs_6 ⟨o_1886, cap_1887, sp_1888, n_1889⟩ y_1893 ⟨rfl, hs_1890, ho_1891⟩ h
     rw [impl_NearestOrder.l_7] at h
     refine jc_seq (jc_seq (jc_region (qh [0,0,0,0,0] (qe (jx_then (qi h (fun h => ?_) (fun h => ?_)))))))
     ·refine jc_skip (jx_then (jc_block (jc_seq (jc_region (qh [0,0,0,0,0] ?_)))))
      obtain ⟨x_9, hx_2079, h⟩ := bd h
      refine tO (qx 0 (o_1886.map fun b => ⟨b, 0, none⟩) 1 hx_2079 rfl (spo ho_1891 hx_2079) (jkO (tO (ql 0 false (fun w hm => ((hm.ow 3 o_1886 2 xs_6 sp_1888 (fun e => (ho_1891 e).1) encI64_len).at hx_2079)) (jkO ?_)))))
      obtain ⟨x_10, hx_2080, h⟩ := bd h
      refine tO (qx 0 (o_9.map fun b => ⟨b, 0, none⟩) 1 hx_2080 (hI_15.1.symm.trans rfl) (spo ho_13 (hI_15.ixh hx_2080)) (jkO (tO (ql 0 false (fun w hm => ((hm.ow 1 o_9 34 hh_14 sp_11 (fun e => (ho_13 e).1) encHd_len).at (hI_15.ixh hx_2080))) (jkO (qh [0,0] (qe (jx_then (jc_seq (jc_seq (jc_region (qh [0] ?_))))))))))))
      obtain ⟨t_11, ht_2168, h⟩ := bd h
      refine tO (pc 0 (fun w hm => impl_size_Drum.calls list1 w _ D_c (hm.xr D_h) rfl ht_2168) ?_)
      rintro w v w' hm ⟨rfl, hm'⟩
      refine ⟨_, hm.app hm', jkO ?_⟩
      clear hm hm'
      refine qh [0] (qe (jx_then (jc_meet (fun (j : Int) => match j with | i_12 => impl_NearestOrder.k_13 xs_6 i_12 = some y_1893) (fun (j : Int) => match j with | i_12 => [(1, [], (.slice D_a list1.length D_c)), (6, [], (.slice none 0 0)), (7, [], (.int .i64 0)), (8, [], (.int .i64 0)), (10, [], (.slice (o_9.map fun b => ⟨b, 0, none⟩) hh_14.length cap_10)), (11, [], (.slice (o_1886.map fun b => ⟨b, 0, none⟩) xs_6.length cap_1887)), (13, [], (.int .i64 i_12))]) (fun (j : Int) => match j with | i_12 => [⟨some b_1, 27, [(.int .i16 f0.fSteps), (.slice C_a f0.fHammers.length C_c)]⟩, ⟨o_9, 34, row encHd hh_14 sp_11⟩, ⟨none, CLU, cluC encI64 hh_14 t_2⟩, ⟨o_1886, 2, row encI64 xs_6 sp_1888⟩]) ?_ ?_)))
      ·refine jc_block ?_
       obtain ⟨t_17, ht_2261, hr_2245⟩ := bd h
       refine jc_loop (fun (s : Int × Int) (x : Unit) => match s, x with | ⟨i_14, i_15⟩, _ => True) (fun (s : Int × Int) (x : Unit) => match s, x with | ⟨i_14, i_15⟩, _ => [(1, [], (.slice D_a list1.length D_c)), (6, [], (.slice none 0 0)), (7, [], (.int .i64 0)), (8, [], (.int .i64 0)), (10, [], (.slice (o_9.map fun b => ⟨b, 0, none⟩) hh_14.length cap_10)), (11, [], (.slice (o_1886.map fun b => ⟨b, 0, none⟩) xs_6.length cap_1887)), (12, [], (.slice (hd hh_14 x_9).a ((hd hh_14 x_9).n) ((hd hh_14 x_9).c))), (13, [], (.int .i64 i_14)), (43, [], (.int .i64 t_11)), (44, [], (.int .i64 i_15))]) (fun (s : Int × Int) (x : Unit) => match s, x with | ⟨i_14, i_15⟩, _ => [⟨some b_1, 27, [(.int .i16 f0.fSteps), (.slice C_a f0.fHammers.length C_c)]⟩, ⟨o_9, 34, row encHd hh_14 sp_11⟩, ⟨none, CLU, cluC encI64 hh_14 t_2⟩, ⟨o_1886, 2, row encI64 xs_6 sp_1888⟩]) ht_2261 () trivial (by kernel_rfl) [0, 1, 2, 3] (by kernel_rfl) (by kernel_rfl) ?_
       rintro ⟨i_14, i_15⟩ _ y_2246 _ h
       rw [impl_NearestOrder.l_16] at h
       refine jc_seq (jc_region (qh [0] (qe (jx_then (jc_seq (qi h (fun h => ?_) (fun h => ?_)))))))
       ·refine jc_skip (jx_then (jc_seq (jc_block (jc_seq (jc_region (qh [0,0] (qe (jx_then (jc_seq (jc_meet (fun (j : Bool) => match j with | q_18 => impl_NearestOrder.k_19 i_14 i_15 q_18 = some y_2246) (fun (j : Bool) => match j with | q_18 => [(1, [], (.slice D_a list1.length D_c)), (6, [], (.slice none 0 0)), (7, [], (.int .i64 0)), (8, [], (.int .i64 0)), (10, [], (.slice (o_9.map fun b => ⟨b, 0, none⟩) hh_14.length cap_10)), (11, [], (.slice (o_1886.map fun b => ⟨b, 0, none⟩) xs_6.length cap_1887)), (12, [], (.slice (hd hh_14 x_9).a ((hd hh_14 x_9).n) ((hd hh_14 x_9).c))), (13, [], (.int .i64 i_14)), (14, [], (.int .i64 i_15)), (43, [], (.int .i64 t_11)), (44, [], (.int .i64 i_15)), (65, [], (.bool q_18))]) (fun (j : Bool) => match j with | q_18 => [⟨some b_1, 27, [(.int .i16 f0.fSteps), (.slice C_a f0.fHammers.length C_c)]⟩, ⟨o_9, 34, row encHd hh_14 sp_11⟩, ⟨none, CLU, cluC encI64 hh_14 t_2⟩, ⟨o_1886, 2, row encI64 xs_6 sp_1888⟩]) ?_ ?_))))))))))
        ·refine qg [⟨some b_1, 27, [(.int .i16 f0.fSteps), (.slice C_a f0.fHammers.length C_c)]⟩, ⟨o_9, 34, row encHd hh_14 sp_11⟩, ⟨none, CLU, cluC encI64 hh_14 t_2⟩, ⟨o_1886, 2, row encI64 xs_6 sp_1888⟩] 19 (qd [⟨0, 0, 0⟩,⟨1, 0, 0⟩] 17 [0, 1, 2, 3] ?_)
         obtain ⟨t_20, ht_2255, h⟩ := bd h
         refine tD 2 (pc 0 (fun w hm => slices_Contains_int64.calls xs_6 i_15 w _ cap_1887 (hm.ow 3 o_1886 2 xs_6 sp_1888 (fun e => (ho_1891 e).1) encI64_len) rfl ht_2255) ?_)
         rintro w v w' hm ⟨rfl, hm'⟩
         refine ⟨_, hm.app hm', kD [0, 1, 2, 3] ?_⟩
         clear hm hm'
         refine qd [⟨3, 0, 0⟩,⟨4, 0, 0⟩,⟨5, 0, 1⟩,⟨6, 0, 1⟩] 12 [0, 1, 2, 3] (jd_split 51 (!t_20) (by kernel_rfl) (fun hc_2256 => ?_) (fun hc_2256 => ?_))
         ·replace h := ifT hc_2256 h
          refine qd [⟨7, 0, 2⟩,⟨8, 0, 1⟩,⟨9, 0, 1⟩,⟨12, 0, 1⟩,⟨13, 0, 1⟩] 7 [0, 1, 2, 3] (jd_split 54 (decide (i_14 < 0)) (by kernel_rfl) (fun hc_2257 => ?_) (fun hc_2257 => ?_))
          ·replace h := ifT hc_2257 h
           exact qd [⟨10, 0, 3⟩,⟨11, 0, 3⟩,⟨14, 0, 3⟩,⟨15, 0, 3⟩,⟨16, 0, 3⟩,⟨17, 0, 4⟩,⟨18, 0, 4⟩] 0 [0, 1, 2, 3] (qz (qm true h [0, 1, 2, 3]))
          ·replace h := ifF hc_2257 h
           obtain ⟨x_21, hx_2258, h⟩ := bd h
           refine qv 10 2 [0, 1, 2, 3] (fun w hm => idx_run (a := (hd hh_14 x_9).a) (len := ((hd hh_14 x_9).n)) (s := 1) (j := i_15) (by kernel_rfl) (ix_some hx_2258).1 (ltn hx_2258 (hI_15.get hx_2080).1) (hI_15.sp hx_2080 hx_2258)) (qv 11 2 [0, 1, 2, 3] (fun w hm => ld_run (b := aB (hd hh_14 x_9).a) (off := (aO (hd hh_14 x_9).a + i_15.toNat * 1)) (s := 1) (agg := false) (vs := (encI64 x_21)) (by kernel_rfl) (by kernel_rfl) (.inr rfl) (((hm.cluInn 2 hI_15 encI64_len).get hx_2080).1.at hx_2258)) ?_)
           obtain ⟨x_22, hx_2259, h⟩ := bd h
           exact qv 14 2 [0, 1, 2, 3] (fun w hm => idx_run (a := (hd hh_14 x_9).a) (len := ((hd hh_14 x_9).n)) (s := 1) (j := i_14) (by kernel_rfl) (ix_some hx_2259).1 (ltn hx_2259 (hI_15.get hx_2080).1) (hI_15.sp hx_2080 hx_2259)) (qv 15 2 [0, 1, 2, 3] (fun w hm => ld_run (b := aB (hd hh_14 x_9).a) (off := (aO (hd hh_14 x_9).a + i_14.toNat * 1)) (s := 1) (agg := false) (vs := (encI64 x_22)) (by kernel_rfl) (by kernel_rfl) (.inr rfl) (((hm.cluInn 2 hI_15 encI64_len).get hx_2080).1.at hx_2259)) (qd [⟨16, 0, 2⟩,⟨17, 0, 5⟩,⟨18, 0, 4⟩] 0 [0, 1, 2, 3] (qz (qm (decide (x_21 < x_22)) h [0, 1, 2, 3]))))
         ·replace h := ifF hc_2256 h
          exact qd [⟨7, 0, 3⟩,⟨8, 0, 3⟩,⟨9, 0, 3⟩,⟨10, 0, 3⟩,⟨11, 0, 3⟩,⟨12, 0, 3⟩,⟨13, 0, 3⟩,⟨14, 0, 3⟩,⟨15, 0, 3⟩,⟨16, 0, 3⟩,⟨17, 0, 3⟩,⟨18, 0, 5⟩] 0 [0, 1, 2, 3] (qz (qm false h [0, 1, 2, 3]))
        ·rintro q_18 h
         replace h : impl_NearestOrder.k_19 i_14 i_15 q_18 = some y_2246 := h
         rw [impl_NearestOrder.k_19] at h
         refine jx_then (qi h (fun h => ?_) (fun h => ?_))
         ·exact jc_region (qh [0,0] (qe (jx_inn (jx_then (jc_region (qh [0,0] (qe (qb (i_15, (w64 (i_15 + 1))) () h trivial [0, 1, 2, 3]))))))))
         ·exact jc_skip (jx_inn (jx_then (jc_region (qh [0,0] (qe (qb (i_14, (w64 (i_15 + 1))) () h trivial [0, 1, 2, 3]))))))
       ·refine jc_exit (jx_thenx (jx_leave i_14 (Option.some.inj h).symm (fun e_2260 => ?_)))
        subst e_2260
        exact jx_ine (qm i_14 hr_2245 [0, 1, 2, 3])
      ·rintro i_12 h
       replace h : impl_NearestOrder.k_13 xs_6 i_12 = some y_1893 := h
       rw [impl_NearestOrder.k_13] at h
       refine jx_then (jc_region (qh [0,0] (tO (qa 0 (fun b_2212 => jkO ?_)))))
       obtain ⟨hg_2213, h⟩ := gd h
       exact tO (p_apn 0 3 o_1886 2 xs_6.length 1 cap_1887 1 8 (some ⟨b_2212, 0, none⟩) encI64 xs_6 ([i_12] : List Int) sp_1888 (.int .i64 0) rfl rfl (by kernel_rfl) (by kernel_rfl) (by kernel_rfl) encI64_len encI64_cell hs_1890 ho_1891 (fun w hm => (hm.ow 4 (some b_2212) 2 ([i_12] : List Int) [] (fun e => nomatch e) encI64_len)) hg_2213 (by kernel_rfl) (by kernel_rfl) (fun o_2214 cap_2215 sp_2216 hs_2217 ho_2218 => jkO (qh [0] (qe (jx_inn (qb (xs_6 ++ ([i_12] : List Int)) ⟨o_2214, cap_2215, sp_2216, (xs_6 ++ ([i_12] : List Int)).length⟩ h ⟨rfl, hs_2217, ho_2218⟩ [0, 1, 2, 3]))))))
     ·refine jc_exit (jx_thenx (jx_leave xs_6 (Option.some.inj h).symm (fun e_2262 => ?_)))
      subst e_2262
      exact jx_ine (qm ⟨xs_6, o_1886, cap_1887, sp_1888, xs_6.length⟩ ⟨hr_1892, rfl, hs_1890, ho_1891⟩ [0, 1, 2, 3])
    ·rintro ⟨xs_3, o_1137, cap_1138, sp_1139, n_1140⟩ ⟨h, rfl, hs_1141, ho_1142⟩
     replace h : impl_NearestOrder.k_4 t_2 xs_3 = some r := h
     rw [impl_NearestOrder.k_4] at h
     refine jx_then (jc_seq (jc_region (qh [0,0,0] ?_)))
     obtain ⟨t_5, ht_1143, h⟩ := bd h
     refine tO (pc 0 (fun w hm => impl_orderCost.calls t_2 xs_3 w _ cap_10 (hm.ow 1 o_9 34 hh_14 sp_11 (fun e => (ho_13 e).1) encHd_len) (hI_15.1.symm.trans rfl) (hm.cluPass (N := []) 2 hI_15 encI64_len []) cap_1138 (hm.ow 3 o_1137 2 xs_3 sp_1139 (fun e => (ho_1142 e).1) encI64_len) rfl ht_1143) ?_)
     rintro w v w' hm ⟨rfl, hm'⟩
     refine ⟨_, hm.app hm', jkO ?_⟩
     clear hm hm'
     refine qh [0,0,0] (qe (jx_then (jc_ret ?_)))
     obtain rfl := Option.some.inj h
     exact qr [] (fun w hm => ⟨o_1137, cap_1138, sp_1139, xs_3.length, rfl, hs_1141, ho_1142, rfl, hm.pk [3]⟩)
/-! ### spec.l05Sum -/
def spec_l05Sum.k_2 (i_1 : Int) : Option (Int) := some i_1
def spec_l05Sum.l_5 (table0 : List (List Int)) (order1 : List Int) : (Int × Int) → Option ((Int × Int) ⊕ (Int))
  | (i_3, i_4) => (if (decide (i_4 < (order1.length : Int))) = true then (ix order1 (w64 (i_4 - 1))).bind fun x_7 => (ix table0 x_7).bind fun x_8 => (ix order1 i_4).bind fun x_9 => (ix x_8 x_9).bind fun x_10 => some (.inl ((w64 (i_3 + x_10)), (w64 (i_4 + 1)))) else some (.inr i_3))
def spec_l05Sum (table0 : List (List Int)) (order1 : List Int) : Option (Int) := (loop (spec_l05Sum.l_5 table0 order1) (0, 1)).bind fun t_6 => spec_l05Sum.k_2 t_6
theorem spec_l05Sum.calls (table0 : List (List Int)) (order1 : List Int) (w : World) (r : Int) {A_a : Option Addr} {A_an : Nat} (A_c : Nat) {A_hs : List Hd} (A_h : Rw w A_a 1 encHd A_hs) (A_hn : table0.length = A_an) (A_i : Inn w [] 1 encI64 A_hs table0) {B_a : Option Addr} {B_an : Nat} (B_c : Nat) (B_h : Rw w B_a 1 encI64 order1) (B_hn : order1.length = B_an) (h : spec_l05Sum table0 order1 = some r) :
    Calls Try.prog 50 #[(.slice A_a A_an A_c), (.slice B_a B_an B_c)] w fun e w' => ∃ v, e = .returned v ∧ (v = (.int .i64 r) ∧ Mem w [] [] w') := by
  subst A_hn B_hn
  rw [spec_l05Sum] at h
  refine enter (args := [(.slice A_a table0.length A_c), (.slice B_a order1.length B_c)]) Try.func50 rfl Try.ntmps50 (by kernel_rfl) (L := []) (W := []) (Mem.start w) ?_
  refine jc_seq (jc_region (qh [0] (qe (jx_then (jc_seq (jc_region (qh [0] (qe (jx_then (jc_seq (jc_seq (jc_region (qh [0] (qe (jx_then (jc_meet (fun (j : Int) => match j with | i_1 => spec_l05Sum.k_2 i_1 = some r) (fun (j : Int) => match j with | i_1 => [(4, [], (.int .i64 0)), (5, [], (.int .i64 i_1))]) (fun (j : Int) => match j with | i_1 => []) ?_ ?_))))))))))))))))
  ·refine jc_block ?_
   obtain ⟨t_6, ht_88, hr_79⟩ := bd h
   refine jc_loop (fun (s : Int × Int) (x : Unit) => match s, x with | ⟨i_3, i_4⟩, _ => True) (fun (s : Int × Int) (x : Unit) => match s, x with | ⟨i_3, i_4⟩, _ => [(0, [], (.slice A_a table0.length A_c)), (1, [], (.slice B_a order1.length B_c)), (4, [], (.int .i64 0)), (5, [], (.int .i64 i_3)), (6, [], (.int .i64 i_4))]) (fun (s : Int × Int) (x : Unit) => match s, x with | ⟨i_3, i_4⟩, _ => []) ht_88 () trivial (by kernel_rfl) [] (by kernel_rfl) (by kernel_rfl) ?_
   rintro ⟨i_3, i_4⟩ _ y_80 _ h
   rw [spec_l05Sum.l_5] at h
   refine jc_seq (jc_seq (jc_region (qh [0,0,0,0] (qe (jx_then (qi h (fun h => ?_) (fun h => ?_)))))))
   ·refine jc_skip (jx_then (jc_seq (jc_block (qg [] 17 (qd [⟨0, 0, 0⟩,⟨1, 0, 0⟩,⟨2, 0, 0⟩,⟨3, 0, 0⟩,⟨4, 0, 0⟩,⟨9, 0, 0⟩,⟨10, 0, 0⟩] 10 [] ?_)))))
    obtain ⟨x_7, hx_83, h⟩ := bd h
    refine qv 5 0 [] (fun w hm => idx_run (a := B_a) (len := order1.length) (s := 1) (j := (w64 (i_4 - 1))) (by kernel_rfl) (ix_some hx_83).1 (ltn hx_83 rfl) (B_h.sp hx_83)) (qv 6 0 [] (fun w hm => ld_run (b := aB B_a) (off := (aO B_a + (w64 (i_4 - 1)).toNat * 1)) (s := 1) (agg := false) (vs := (encI64 x_7)) (by kernel_rfl) (by kernel_rfl) (.inr rfl) ((hm.xr B_h).at hx_83)) ?_)
    obtain ⟨x_8, hx_84, h⟩ := bd h
    refine qv 7 0 [] (fun w hm => idx_run (a := A_a) (len := table0.length) (s := 1) (j := x_7) (by kernel_rfl) (ix_some hx_84).1 (ltn hx_84 rfl) (A_h.sp (A_i.ixh hx_84))) (qv 8 0 [] (fun w hm => ld_run (b := aB A_a) (off := (aO A_a + x_7.toNat * 1)) (s := 1) (agg := false) (vs := encHd (hd A_hs x_7)) (by kernel_rfl) (by kernel_rfl) (.inr rfl) ((hm.xr A_h).at (A_i.ixh hx_84))) ?_)
    obtain ⟨x_9, hx_85, h⟩ := bd h
    refine qv 11 0 [] (fun w hm => idx_run (a := B_a) (len := order1.length) (s := 1) (j := i_4) (by kernel_rfl) (ix_some hx_85).1 (ltn hx_85 rfl) (B_h.sp hx_85)) (qv 12 0 [] (fun w hm => ld_run (b := aB B_a) (off := (aO B_a + i_4.toNat * 1)) (s := 1) (agg := false) (vs := (encI64 x_9)) (by kernel_rfl) (by kernel_rfl) (.inr rfl) ((hm.xr B_h).at hx_85)) ?_)
    obtain ⟨x_10, hx_86, h⟩ := bd h
    exact qv 13 0 [] (fun w hm => idx_run (a := (hd A_hs x_7).a) (len := ((hd A_hs x_7).n)) (s := 1) (j := x_9) (by kernel_rfl) (ix_some hx_86).1 (ltn hx_86 (A_i.get hx_84).2.1) ((A_i.get hx_84).1.sp hx_86)) (qv 14 0 [] (fun w hm => ld_run (b := aB (hd A_hs x_7).a) (off := (aO (hd A_hs x_7).a + x_9.toNat * 1)) (s := 1) (agg := false) (vs := (encI64 x_10)) (by kernel_rfl) (by kernel_rfl) (.inr rfl) ((hm.exRow (A_i.get hx_84).1 List.not_mem_nil).at hx_86)) (qd [⟨15, 0, 0⟩,⟨16, 0, 0⟩] 0 [] (qz (jx_inn (jx_then (jc_region (qh [0,0,0] (qe (qb ((w64 (i_3 + x_10)), (w64 (i_4 + 1))) () h trivial [])))))))))
   ·refine jc_exit (jx_thenx (jx_leave i_3 (Option.some.inj h).symm (fun e_87 => ?_)))
    subst e_87
    exact jx_ine (qm i_3 hr_79 [])
  ·rintro i_1 h
   replace h : spec_l05Sum.k_2 i_1 = some r := h
   rw [spec_l05Sum.k_2] at h
   refine jx_then (jc_seq (jc_region (qh [0,0] (qe (jx_then (jc_ret ?_))))))
   obtain rfl := Option.some.inj h
   exact qr [] (fun w hm => ⟨rfl, hm.pk []⟩)
/-! ### spec.NearestOrder -/
def spec_NearestOrder.k_6 (t_4 : (List (List Int))) (xs_5 : List Int) : Option ((List Int) × Int × Int) := (spec_l05Sum t_4 xs_5).bind fun t_7 => some (xs_5, t_7, 0)
def spec_NearestOrder.k_14 (xs_8 : List Int) (i_9 : Int) (i_13 : Int) : Option (((List Int) × Int) ⊕ ((List Int))) := (if xs_8.length + ([i_13] : List Int).length ≤ 4294967296 then (if 0 ≤ (u64 i_13) then some (.inl ((xs_8 ++ ([i_13] : List Int)), (bXor .i64 i_9 (bShl .i64 1 (u64 i_13))))) else none) else none)
def spec_NearestOrder.k_20 (i_15 : Int) (i_16 : Int) (q_19 : Bool) : Option ((Int × Int) ⊕ (Int)) := (if q_19 = true then some (.inl (i_16, (w64 (i_16 + 1)))) else some (.inl (i_15, (w64 (i_16 + 1)))))
def spec_NearestOrder.l_17 (list1 : List (Arr 96 Int)) (t_4 : (List (List Int))) (i_9 : Int) (x_12 : Int) : (Int × Int) → Option ((Int × Int) ⊕ (Int))
  | (i_15, i_16) => (if (decide (i_16 < (list1.length : Int))) = true then (if 0 ≤ (u64 i_16) then (if ((Int.tmod (bShr .i64 i_9 (u64 i_16)) 2) == 1) = true then (if (decide (i_15 < 0)) = true then spec_NearestOrder.k_20 i_15 i_16 true else (ix t_4 x_12).bind fun x_21 => (ix x_21 i_16).bind fun x_22 => (ix t_4 x_12).bind fun x_23 => (ix x_23 i_15).bind fun x_24 => spec_NearestOrder.k_20 i_15 i_16 (decide (x_22 < x_24))) else spec_NearestOrder.k_20 i_15 i_16 false) else none) else some (.inr i_15))
def spec_NearestOrder.l_10 (list1 : List (Arr 96 Int)) (t_4 : (List (List Int))) : ((List Int) × Int) → Option (((List Int) × Int) ⊕ ((List Int)))
  | (xs_8, i_9) => (if (i_9 != 0) = true then (ix xs_8 (w64 ((xs_8.length : Int) - 1))).bind fun x_12 => (loop (spec_NearestOrder.l_17 list1 t_4 i_9 x_12) ((-1), 0)).bind fun t_18 => spec_NearestOrder.k_14 xs_8 i_9 t_18 else some (.inr xs_8))
def spec_NearestOrder.k_3 (list1 : List (Arr 96 Int)) (first2 : Int) (i_2 : Int) : Option ((List Int) × Int × Int) := (if (i_2 != 0) = true then some (([] : List Int), 0, i_2) else (spec_l05Table list1).bind fun t_4 => (if 0 ≤ (u64 (list1.length : Int)) then (if 0 ≤ (u64 first2) then (loop (spec_NearestOrder.l_10 list1 t_4) (([first2] : List Int), (bXor .i64 (w64 ((bShl .i64 1 (u64 (list1.length : Int))) - 1)) (bShl .i64 1 (u64 first2))))).bind fun t_11 => spec_NearestOrder.k_6 t_4 t_11 else none) else none))
def spec_NearestOrder (f0 : GFrame) (list1 : List (Arr 96 Int)) (first2 : Int) : Option ((List Int) × Int × Int) := (spec_l05First f0 list1 first2).bind fun t_1 => (if ((t_1 == 0) && (decide (first2 < 0))) = true then spec_NearestOrder.k_3 list1 first2 2 else spec_NearestOrder.k_3 list1 first2 t_1)
set_option maxHeartbeats 8000000 in
theorem spec_NearestOrder.calls (f0 : GFrame) (list1 : List (Arr 96 Int)) (first2 : Int) (w : World) (r : (List Int) × Int × Int) {C_a : Option Addr} {C_an : Nat} (C_c : Nat) (C_h : Rw w C_a 2 encGHammer f0.fHammers) (C_hn : f0.fHammers.length = C_an) {D_a : Option Addr} {D_an : Nat} (D_c : Nat) (D_h : Rw w D_a 96 encA96U32 list1) (D_hn : list1.length = D_an) (h : spec_NearestOrder f0 list1 first2 = some r) :
    Calls Try.prog 22 #[(.agg #[(.int .i16 f0.fSteps), (.slice C_a C_an C_c)]), (.slice D_a D_an D_c), (.int .i64 first2)] w fun e w' => ∃ v, e = .returned v ∧ (∃ (o0 : Option Nat) (c0 : Nat) (s0 : List Value) (n0 : Nat), r.1.length = n0 ∧ (o0 ≠ none → n0 ≤ c0 ∧ s0.length = (c0 - n0) * 1) ∧ (o0 = none → r.1 = [] ∧ c0 = 0) ∧ v = .tuple #[.slice (o0.map fun b => ⟨b, 0, none⟩) n0 c0, (.int .i64 r.2.1), (.int .i64 r.2.2)] ∧ Mem w [] [⟨o0, 2, row encI64 r.1 s0⟩] w') := by
  subst C_hn D_hn
  rw [spec_NearestOrder] at h
  refine enter (args := [(.agg #[(.int .i16 f0.fSteps), (.slice C_a f0.fHammers.length C_c)]), (.slice D_a list1.length D_c), (.int .i64 first2)]) Try.func22 rfl Try.ntmps22 (by kernel_rfl) (L := []) (W := []) (Mem.start w) ?_
  refine jc_seq (jc_region (tO (qa 0 (fun b_1 => jkO (qh [0,0,0] (qe (jx_then (jc_seq (jc_region (qh [0,0] ?_))))))))))
  obtain ⟨t_1, ht_2, h⟩ := bd h
  refine tO (pc 0 (fun w hm => spec_l05First.calls f0 list1 first2 w _ C_c (hm.xr C_h) rfl D_c (hm.xr D_h) rfl b_1 (hm.pass (N := [⟨some b_1, 27, [(.int .i16 f0.fSteps), (.slice C_a f0.fHammers.length C_c)]⟩]) [0] (by kernel_rfl) (by kernel_rfl)) (hm.exApart (N := [⟨some b_1, 27, [(.int .i16 f0.fSteps), (.slice C_a f0.fHammers.length C_c)]⟩]) C_h (fun _ => List.not_mem_nil) [0] (by kernel_rfl)) (hm.exApart (N := [⟨some b_1, 27, [(.int .i16 f0.fSteps), (.slice C_a f0.fHammers.length C_c)]⟩]) D_h (fun _ => List.not_mem_nil) [0] (by kernel_rfl)) ht_2) ?_)
  rintro w v w' hm ⟨rfl, hm'⟩
  refine ⟨_, hm.appW (ps := [(0, ⟨some b_1, 27, [(.int .i16 f0.fSteps), (.slice C_a f0.fHammers.length C_c)]⟩)]) (N := []) hm' (by kernel_rfl) (by kernel_rfl), jkO ?_⟩
  clear hm hm'
  refine qh [0] (qe (jx_then (jc_seq (jc_meet (fun (j : Int) => match j with | i_2 => spec_NearestOrder.k_3 list1 first2 i_2 = some r) (fun (j : Int) => match j with | i_2 => [(1, [], (.slice D_a list1.length D_c)), (2, [], (.int .i64 first2)), (6, [], (.slice none 0 0)), (7, [], (.int .i64 0)), (8, [], (.int .i64 0)), (9, [], (.int .i64 i_2))]) (fun (j : Int) => match j with | i_2 => [⟨some b_1, 27, [(.int .i16 f0.fSteps), (.slice C_a f0.fHammers.length C_c)]⟩]) ?_ ?_))))
  ·refine jc_seq (jc_region (qf [(0, 0), (0, 0), (0, 0), (0, 1), (0, 1), (0, 0)] (qe (jx_then (qi h (fun h => ?_) (fun h => ?_))))))
   ·exact jc_region (qh [0] (qe (qm 2 h [0])))
   ·exact jc_skip (qm t_1 h [0])
  ·rintro i_2 h
   replace h : spec_NearestOrder.k_3 list1 first2 i_2 = some r := h
   rw [spec_NearestOrder.k_3] at h
   refine jx_then (jc_seq (jc_seq (jc_region (qh [0,0] (qe (jx_then (qi h (fun h => ?_) (fun h => ?_))))))))
   ·refine jc_seq (jc_region (tO (qa 0 (fun b_7 => jkO (qh [0,0,0,0] (qe (jx_then (jc_ret (jx_thenr ?_)))))))))
    obtain rfl := Option.some.inj h
    exact qr [] (fun w hm => ⟨(some b_7), 0, [], 0, rfl, (fun _ => ⟨Nat.le_refl _, by simp⟩), (fun e => nomatch e), rfl, hm.pk [1]⟩)
   ·refine jc_skip (jx_then (jc_seq (jc_region (qh [0] ?_))))
    obtain ⟨t_4, ht_8, h⟩ := bd h
    refine tO (pc 0 (fun w hm => spec_l05Table.calls list1 w _ D_c (hm.xr D_h) rfl ht_8) ?_)
    rintro w v w' hm ⟨o_9, cap_10, sp_11, _, hh_14, hI_15, rfl, hs_12, ho_13, rfl, hm'⟩
    refine ⟨_, hm.app hm', jkO ?_⟩
    clear hm hm'
    refine qh [0] (qe (jx_then (jc_seq (jc_region (qh [0] (tO (qa 0 (fun b_16 => jkO (qh [0] (qe (jx_then (jc_seq (jc_region (qh [0,0,0] ?_))))))))))))))
    obtain ⟨hg_17, h⟩ := gd h
    refine tO (p_shl 0 .i64 1 .u64 (u64 (list1.length : Int)) (by kernel_rfl) (by kernel_rfl) hg_17 (jkO (qh [0,0,0] ?_)))
    obtain ⟨hg_18, h⟩ := gd h
    refine tO (p_shl 0 .i64 1 .u64 (u64 first2) (by kernel_rfl) (by kernel_rfl) hg_18 (jkO (qh [0,0] (qe (jx_then (jc_seq (jc_meet (fun (j : (List Int) × (Option Nat) × Nat × (List Value) × Nat) => match j with | ⟨xs_5, o_1415, cap_1416, sp_1417, n_1418⟩ => spec_NearestOrder.k_6 t_4 xs_5 = some r ∧ (xs_5.length = n_1418) ∧ ((o_1415 ≠ none → n_1418 ≤ cap_1416 ∧ sp_1417.length = (cap_1416 - n_1418) * 1)) ∧ ((o_1415 = none → xs_5 = [] ∧ cap_1416 = 0))) (fun (j : (List Int) × (Option Nat) × Nat × (List Value) × Nat) => match j with | ⟨xs_5, o_1415, cap_1416, sp_1417, n_1418⟩ => [(6, [], (.slice none 0 0)), (7, [], (.int .i64 0)), (8, [], (.int .i64 0)), (10, [], (.slice (o_9.map fun b => ⟨b, 0, none⟩) hh_14.length cap_10)), (11, [], (.slice (o_1415.map fun b => ⟨b, 0, none⟩) n_1418 cap_1416))]) (fun (j : (List Int) × (Option Nat) × Nat × (List Value) × Nat) => match j with | ⟨xs_5, o_1415, cap_1416, sp_1417, n_1418⟩ => [⟨some b_1, 27, [(.int .i16 f0.fSteps), (.slice C_a f0.fHammers.length C_c)]⟩, ⟨o_9, 34, row encHd hh_14 sp_11⟩, ⟨none, CLU, cluC encI64 hh_14 t_4⟩, ⟨o_1415, 2, row encI64 xs_5 sp_1417⟩]) ?_ ?_)))))))
    ·refine jc_block ?_
     obtain ⟨t_11, ht_2817, hr_2354⟩ := bd h
     refine jc_loop (fun (s : (List Int) × Int) (x : (Option Nat) × Nat × (List Value) × Nat) => match s, x with | ⟨xs_8, i_9⟩, ⟨o_2348, cap_2349, sp_2350, n_2351⟩ => (xs_8.length = n_2351) ∧ ((o_2348 ≠ none → n_2351 ≤ cap_2349 ∧ sp_2350.length = (cap_2349 - n_2351) * 1)) ∧ ((o_2348 = none → xs_8 = [] ∧ cap_2349 = 0))) (fun (s : (List Int) × Int) (x : (Option Nat) × Nat × (List Value) × Nat) => match s, x with | ⟨xs_8, i_9⟩, ⟨o_2348, cap_2349, sp_2350, n_2351⟩ => [(1, [], (.slice D_a list1.length D_c)), (6, [], (.slice none 0 0)), (7, [], (.int .i64 0)), (8, [], (.int .i64 0)), (10, [], (.slice (o_9.map fun b => ⟨b, 0, none⟩) hh_14.length cap_10)), (11, [], (.slice (o_2348.map fun b => ⟨b, 0, none⟩) n_2351 cap_2349)), (12, [], (.int .i64 i_9))]) (fun (s : (List Int) × Int) (x : (Option Nat) × Nat × (List Value) × Nat) => match s, x with | ⟨xs_8, i_9⟩, ⟨o_2348, cap_2349, sp_2350, n_2351⟩ => [⟨some b_1, 27, [(.int .i16 f0.fSteps), (.slice C_a f0.fHammers.length C_c)]⟩, ⟨o_9, 34, row encHd hh_14 sp_11⟩, ⟨none, CLU, cluC encI64 hh_14 t_4⟩, ⟨o_2348, 2, row encI64 xs_8 sp_2350⟩]) ht_2817 ⟨(some b_16), 1, [], 1⟩ ⟨rfl, (fun _ => ⟨Nat.le_refl _, by simp⟩), (fun e => nomatch e)⟩ (by kernel_rfl) [0, 1, 2, 3] (by kernel_rfl) (by kernel_rfl) ?_
     rintro ⟨xs_8, i_9⟩ ⟨o_2348, cap_2349, sp_2350, n_2351⟩ y_2355 ⟨rfl, hs_2352, ho_2353⟩ h
     rw [spec_NearestOrder.l_10] at h
     refine jc_seq (jc_seq (jc_region (qh [0,0] (qe (jx_then (qi h (fun h => ?_) (fun h => ?_)))))))
     ·refine jc_skip (jx_then (jc_block (jc_seq (jc_region (qh [0,0,0,0] ?_)))))
      obtain ⟨x_12, hx_2587, h⟩ := bd h
      refine tO (qx 0 (o_2348.map fun b => ⟨b, 0, none⟩) 1 hx_2587 rfl (spo ho_2353 hx_2587) (jkO (tO (ql 0 false (fun w hm => ((hm.ow 3 o_2348 2 xs_8 sp_2350 (fun e => (ho_2353 e).1) encI64_len).at hx_2587)) (jkO (qh [0] (qe (jx_then (jc_seq (jc_region (qh [0] (qe (jx_then (jc_seq (jc_seq (jc_region (qh [0] (qe (jx_then (jc_meet (fun (j : Int) => match j with | i_13 => spec_NearestOrder.k_14 xs_8 i_9 i_13 = some y_2355) (fun (j : Int) => match j with | i_13 => [(1, [], (.slice D_a list1.length D_c)), (6, [], (.slice none 0 0)), (7, [], (.int .i64 0)), (8, [], (.int .i64 0)), (10, [], (.slice (o_9.map fun b => ⟨b, 0, none⟩) hh_14.length cap_10)), (11, [], (.slice (o_2348.map fun b => ⟨b, 0, none⟩) xs_8.length cap_2349)), (12, [], (.int .i64 i_9)), (14, [], (.int .i64 i_13))]) (fun (j : Int) => match j with | i_13 => [⟨some b_1, 27, [(.int .i16 f0.fSteps), (.slice C_a f0.fHammers.length C_c)]⟩, ⟨o_9, 34, row encHd hh_14 sp_11⟩, ⟨none, CLU, cluC encI64 hh_14 t_4⟩, ⟨o_2348, 2, row encI64 xs_8 sp_2350⟩]) ?_ ?_))))))))))))))))))))
      ·refine jc_block ?_
       obtain ⟨t_18, ht_2815, hr_2795⟩ := bd h
       refine jc_loop (fun (s : Int × Int) (x : Unit) => match s, x with | ⟨i_15, i_16⟩, _ => True) (fun (s : Int × Int) (x : Unit) => match s, x with | ⟨i_15, i_16⟩, _ => [(1, [], (.slice D_a list1.length D_c)), (6, [], (.slice none 0 0)), (7, [], (.int .i64 0)), (8, [], (.int .i64 0)), (10, [], (.slice (o_9.map fun b => ⟨b, 0, none⟩) hh_14.length cap_10)), (11, [], (.slice (o_2348.map fun b => ⟨b, 0, none⟩) xs_8.length cap_2349)), (12, [], (.int .i64 i_9)), (13, [], (.int .i64 x_12)), (14, [], (.int .i64 i_15)), (15, [], (.int .i64 i_16))]) (fun (s : Int × Int) (x : Unit) => match s, x with | ⟨i_15, i_16⟩, _ => [⟨some b_1, 27, [(.int .i16 f0.fSteps), (.slice C_a f0.fHammers.length C_c)]⟩, ⟨o_9, 34, row encHd hh_14 sp_11⟩, ⟨none, CLU, cluC encI64 hh_14 t_4⟩, ⟨o_2348, 2, row encI64 xs_8 sp_2350⟩]) ht_2815 () trivial (by kernel_rfl) [0, 1, 2, 3] (by kernel_rfl) (by kernel_rfl) ?_
       rintro ⟨i_15, i_16⟩ _ y_2796 _ h
       rw [spec_NearestOrder.l_17] at h
       refine jc_seq (jc_seq (jc_region (qh [0,0,0,0] (qe (jx_then (qi h (fun h => ?_) (fun h => ?_)))))))
       ·refine jc_skip (jx_then (jc_seq (jc_block (jc_seq (jc_meet (fun (j : Bool) => match j with | q_19 => spec_NearestOrder.k_20 i_15 i_16 q_19 = some y_2796) (fun (j : Bool) => match j with | q_19 => [(1, [], (.slice D_a list1.length D_c)), (6, [], (.slice none 0 0)), (7, [], (.int .i64 0)), (8, [], (.int .i64 0)), (10, [], (.slice (o_9.map fun b => ⟨b, 0, none⟩) hh_14.length cap_10)), (11, [], (.slice (o_2348.map fun b => ⟨b, 0, none⟩) xs_8.length cap_2349)), (12, [], (.int .i64 i_9)), (13, [], (.int .i64 x_12)), (14, [], (.int .i64 i_15)), (15, [], (.int .i64 i_16)), (82, [], (.bool q_19))]) (fun (j : Bool) => match j with | q_19 => [⟨some b_1, 27, [(.int .i16 f0.fSteps), (.slice C_a f0.fHammers.length C_c)]⟩, ⟨o_9, 34, row encHd hh_14 sp_11⟩, ⟨none, CLU, cluC encI64 hh_14 t_4⟩, ⟨o_2348, 2, row encI64 xs_8 sp_2350⟩]) ?_ ?_)))))
        ·refine qg [⟨some b_1, 27, [(.int .i16 f0.fSteps), (.slice C_a f0.fHammers.length C_c)]⟩, ⟨o_9, 34, row encHd hh_14 sp_11⟩, ⟨none, CLU, cluC encI64 hh_14 t_4⟩, ⟨o_2348, 2, row encI64 xs_8 sp_2350⟩] 27 (qd [⟨0, 0, 0⟩,⟨1, 0, 0⟩,⟨2, 0, 0⟩] 24 [0, 1, 2, 3] ?_)
         obtain ⟨hg_2807, h⟩ := gd h
         refine tD 3 (p_shr 0 .i64 i_9 .u64 (u64 i_16) (by kernel_rfl) (by kernel_rfl) hg_2807 (kD [0, 1, 2, 3] (qd [⟨4, 0, 0⟩,⟨5, 0, 0⟩,⟨6, 0, 0⟩,⟨7, 0, 1⟩,⟨8, 0, 1⟩] 18 [0, 1, 2, 3] (jd_split 62 ((Int.tmod (bShr .i64 i_9 (u64 i_16)) 2) == 1) (by kernel_rfl) (fun hc_2808 => ?_) (fun hc_2808 => ?_)))))
         ·replace h := ifT hc_2808 h
          refine qd [⟨9, 0, 2⟩,⟨10, 0, 1⟩,⟨11, 0, 1⟩,⟨14, 0, 1⟩,⟨17, 0, 1⟩,⟨18, 0, 1⟩,⟨21, 0, 1⟩] 11 [0, 1, 2, 3] (jd_split 65 (decide (i_15 < 0)) (by kernel_rfl) (fun hc_2809 => ?_) (fun hc_2809 => ?_))
          ·replace h := ifT hc_2809 h
           exact qd [⟨12, 0, 3⟩,⟨13, 0, 3⟩,⟨15, 0, 3⟩,⟨16, 0, 3⟩,⟨19, 0, 3⟩,⟨20, 0, 3⟩,⟨22, 0, 3⟩,⟨23, 0, 3⟩,⟨24, 0, 3⟩,⟨25, 0, 4⟩,⟨26, 0, 4⟩] 0 [0, 1, 2, 3] (qz (qm true h [0, 1, 2, 3]))
          ·replace h := ifF hc_2809 h
           obtain ⟨x_21, hx_2810, h⟩ := bd h
           refine qv 12 2 [0, 1, 2, 3] (fun w hm => idx_run (a := (o_9.map fun b => ⟨b, 0, none⟩)) (len := hh_14.length) (s := 1) (j := x_12) (by kernel_rfl) (ix_some hx_2810).1 (ltn hx_2810 (hI_15.1.symm.trans rfl)) (spo ho_13 (hI_15.ixh hx_2810))) (qv 13 2 [0, 1, 2, 3] (fun w hm => ld_run (b := aB (o_9.map fun b => ⟨b, 0, none⟩)) (off := (aO (o_9.map fun b => ⟨b, 0, none⟩) + x_12.toNat * 1)) (s := 1) (agg := false) (vs := encHd (hd hh_14 x_12)) (by kernel_rfl) (by kernel_rfl) (.inr rfl) ((hm.ow 1 o_9 34 hh_14 sp_11 (fun e => (ho_13 e).1) encHd_len).at (hI_15.ixh hx_2810))) ?_)
           obtain ⟨x_22, hx_2811, h⟩ := bd h
           refine qv 15 2 [0, 1, 2, 3] (fun w hm => idx_run (a := (hd hh_14 x_12).a) (len := ((hd hh_14 x_12).n)) (s := 1) (j := i_16) (by kernel_rfl) (ix_some hx_2811).1 (ltn hx_2811 (hI_15.get hx_2810).1) (hI_15.sp hx_2810 hx_2811)) (qv 16 2 [0, 1, 2, 3] (fun w hm => ld_run (b := aB (hd hh_14 x_12).a) (off := (aO (hd hh_14 x_12).a + i_16.toNat * 1)) (s := 1) (agg := false) (vs := (encI64 x_22)) (by kernel_rfl) (by kernel_rfl) (.inr rfl) (((hm.cluInn 2 hI_15 encI64_len).get hx_2810).1.at hx_2811)) ?_)
           obtain ⟨x_23, hx_2812, h⟩ := bd h
           refine qv 19 2 [0, 1, 2, 3] (fun w hm => idx_run (a := (o_9.map fun b => ⟨b, 0, none⟩)) (len := hh_14.length) (s := 1) (j := x_12) (by kernel_rfl) (ix_some hx_2812).1 (ltn hx_2812 (hI_15.1.symm.trans rfl)) (spo ho_13 (hI_15.ixh hx_2812))) (qv 20 2 [0, 1, 2, 3] (fun w hm => ld_run (b := aB (o_9.map fun b => ⟨b, 0, none⟩)) (off := (aO (o_9.map fun b => ⟨b, 0, none⟩) + x_12.toNat * 1)) (s := 1) (agg := false) (vs := encHd (hd hh_14 x_12)) (by kernel_rfl) (by kernel_rfl) (.inr rfl) ((hm.ow 1 o_9 34 hh_14 sp_11 (fun e => (ho_13 e).1) encHd_len).at (hI_15.ixh hx_2812))) ?_)
           obtain ⟨x_24, hx_2813, h⟩ := bd h
           exact qv 22 2 [0, 1, 2, 3] (fun w hm => idx_run (a := (hd hh_14 x_12).a) (len := ((hd hh_14 x_12).n)) (s := 1) (j := i_15) (by kernel_rfl) (ix_some hx_2813).1 (ltn hx_2813 (hI_15.get hx_2812).1) (hI_15.sp hx_2812 hx_2813)) (qv 23 2 [0, 1, 2, 3] (fun w hm => ld_run (b := aB (hd hh_14 x_12).a) (off := (aO (hd hh_14 x_12).a + i_15.toNat * 1)) (s := 1) (agg := false) (vs := (encI64 x_24)) (by kernel_rfl) (by kernel_rfl) (.inr rfl) (((hm.cluInn 2 hI_15 encI64_len).get hx_2812).1.at hx_2813)) (qd [⟨24, 0, 2⟩,⟨25, 0, 5⟩,⟨26, 0, 4⟩] 0 [0, 1, 2, 3] (qz (qm (decide (x_22 < x_24)) h [0, 1, 2, 3]))))
         ·replace h := ifF hc_2808 h
          exact qd [⟨9, 0, 3⟩,⟨10, 0, 3⟩,⟨11, 0, 3⟩,⟨12, 0, 3⟩,⟨13, 0, 3⟩,⟨14, 0, 3⟩,⟨15, 0, 3⟩,⟨16, 0, 3⟩,⟨17, 0, 3⟩,⟨18, 0, 3⟩,⟨19, 0, 3⟩,⟨20, 0, 3⟩,⟨21, 0, 3⟩,⟨22, 0, 3⟩,⟨23, 0, 3⟩,⟨24, 0, 3⟩,⟨25, 0, 3⟩,⟨26, 0, 5⟩] 0 [0, 1, 2, 3] (qz (qm false h [0, 1, 2, 3]))
        ·rintro q_19 h
         replace h : spec_NearestOrder.k_20 i_15 i_16 q_19 = some y_2796 := h
         rw [spec_NearestOrder.k_20] at h
         refine jx_then (qi h (fun h => ?_) (fun h => ?_))
         ·exact jc_region (qh [0,0] (qe (jx_inn (jx_then (jc_region (qh [0,0,0] (qe (qb (i_16, (w64 (i_16 + 1))) () h trivial [0, 1, 2, 3]))))))))
         ·exact jc_skip (jx_inn (jx_then (jc_region (qh [0,0,0] (qe (qb (i_15, (w64 (i_16 + 1))) () h trivial [0, 1, 2, 3]))))))
       ·refine jc_exit (jx_thenx (jx_leave i_15 (Option.some.inj h).symm (fun e_2814 => ?_)))
        subst e_2814
        exact jx_ine (qm i_15 hr_2795 [0, 1, 2, 3])
      ·rintro i_13 h
       replace h : spec_NearestOrder.k_14 xs_8 i_9 i_13 = some y_2355 := h
       rw [spec_NearestOrder.k_14] at h
       refine jx_then (jc_seq (jc_region (qh [0,0] (tO (qa 0 (fun b_2753 => jkO ?_))))))
       obtain ⟨hg_2754, h⟩ := gd h
       refine tO (p_apn 0 3 o_2348 2 xs_8.length 1 cap_2349 1 8 (some ⟨b_2753, 0, none⟩) encI64 xs_8 ([i_13] : List Int) sp_2350 (.int .i64 0) rfl rfl (by kernel_rfl) (by kernel_rfl) (by kernel_rfl) encI64_len encI64_cell hs_2352 ho_2353 (fun w hm => (hm.ow 4 (some b_2753) 2 ([i_13] : List Int) [] (fun e => nomatch e) encI64_len)) hg_2754 (by kernel_rfl) (by kernel_rfl) (fun o_2755 cap_2756 sp_2757 hs_2758 ho_2759 => jkO (qh [0] (qe (jx_then (jc_region (qh [0,0,0] ?_)))))))
       obtain ⟨hg_2760, h⟩ := gd h
       exact tO (p_shl 0 .i64 1 .u64 (u64 i_13) (by kernel_rfl) (by kernel_rfl) hg_2760 (jkO (qh [0,0] (qe (jx_inn (qb ((xs_8 ++ ([i_13] : List Int)), (bXor .i64 i_9 (bShl .i64 1 (u64 i_13)))) ⟨o_2755, cap_2756, sp_2757, (xs_8 ++ ([i_13] : List Int)).length⟩ h ⟨rfl, hs_2758, ho_2759⟩ [0, 1, 2, 3]))))))
     ·refine jc_exit (jx_thenx (jx_leave xs_8 (Option.some.inj h).symm (fun e_2816 => ?_)))
      subst e_2816
      exact jx_ine (qm ⟨xs_8, o_2348, cap_2349, sp_2350, xs_8.length⟩ ⟨hr_2354, rfl, hs_2352, ho_2353⟩ [0, 1, 2, 3])
    ·rintro ⟨xs_5, o_1415, cap_1416, sp_1417, n_1418⟩ ⟨h, rfl, hs_1419, ho_1420⟩
     replace h : spec_NearestOrder.k_6 t_4 xs_5 = some r := h
     rw [spec_NearestOrder.k_6] at h
     refine jx_then (jc_seq (jc_region (qh [0,0,0] ?_)))
     obtain ⟨t_7, ht_1421, h⟩ := bd h
     refine tO (pc 0 (fun w hm => spec_l05Sum.calls t_4 xs_5 w _ cap_10 (hm.ow 1 o_9 34 hh_14 sp_11 (fun e => (ho_13 e).1) encHd_len) (hI_15.1.symm.trans rfl) (hm.cluPass (N := []) 2 hI_15 encI64_len []) cap_1416 (hm.ow 3 o_1415 2 xs_5 sp_1417 (fun e => (ho_1420 e).1) encI64_len) rfl ht_1421) ?_)
     rintro w v w' hm ⟨rfl, hm'⟩
     refine ⟨_, hm.app hm', jkO ?_⟩
     clear hm hm'
     refine qh [0,0,0] (qe (jx_then (jc_ret ?_)))
     obtain rfl := Option.some.inj h
     exact qr [] (fun w hm => ⟨o_1415, cap_1416, sp_1417, xs_5.length, rfl, hs_1419, ho_1420, rfl, hm.pk [3]⟩)
/-! ### impl.CheckOrder -/
def impl_CheckOrder (f0 : GFrame) (list1 : List (Arr 96 Int)) (order2 : List Int) (most3 : Int) : Option (Bool × Int) := (impl_listCode f0 list1).bind fun t_1 => (if (t_1 != 0) = true then some (false, t_1) else (impl_isOrder order2 (list1.length : Int)).bind fun t_2 => (if t_2 = true then (impl_costs list1).bind fun t_3 => (impl_orderCost t_3 order2).bind fun t_4 => some ((decide (t_4 ≤ most3)), 0) else some (false, 0)))
theorem impl_CheckOrder.calls (f0 : GFrame) (list1 : List (Arr 96 Int)) (order2 : List Int) (most3 : Int) (w : World) (r : Bool × Int) {C_a : Option Addr} {C_an : Nat} (C_c : Nat) (C_h : Rw w C_a 2 encGHammer f0.fHammers) (C_hn : f0.fHammers.length = C_an) {D_a : Option Addr} {D_an : Nat} (D_c : Nat) (D_h : Rw w D_a 96 encA96U32 list1) (D_hn : list1.length = D_an) {E_a : Option Addr} {E_an : Nat} (E_c : Nat) (E_h : Rw w E_a 1 encI64 order2) (E_hn : order2.length = E_an) (h : impl_CheckOrder f0 list1 order2 most3 = some r) :
    Calls Try.prog 23 #[(.agg #[(.int .i16 f0.fSteps), (.slice C_a C_an C_c)]), (.slice D_a D_an D_c), (.slice E_a E_an E_c), (.int .i64 most3)] w fun e w' => ∃ v, e = .returned v ∧ (v = .tuple #[(.bool r.1), (.int .i64 r.2)] ∧ Mem w [] [] w') := by
  subst C_hn D_hn E_hn
  rw [impl_CheckOrder] at h
  refine enter (args := [(.agg #[(.int .i16 f0.fSteps), (.slice C_a f0.fHammers.length C_c)]), (.slice D_a list1.length D_c), (.slice E_a order2.length E_c), (.int .i64 most3)]) Try.func23 rfl Try.ntmps23 (by kernel_rfl) (L := []) (W := []) (Mem.start w) ?_
  refine jc_seq (jc_region (tO (qa 0 (fun b_1 => jkO (qh [0,0] (qe (jx_then (jc_seq (jc_seq (jc_region (qh [0,0] ?_)))))))))))
  obtain ⟨t_1, ht_4, h⟩ := bd h
  refine tO (pc 0 (fun w hm => impl_listCode.calls f0 list1 w _ C_c (hm.xr C_h) rfl D_c (hm.xr D_h) rfl ht_4) ?_)
  rintro w v w' hm ⟨rfl, hm'⟩
  refine ⟨_, hm.app hm', jkO ?_⟩
  clear hm hm'
  refine qh [0] (qe (jx_then (jc_seq (jc_region (qh [0,0] (qe (jx_then (qi h (fun h => ?_) (fun h => ?_)))))))))
  ·refine jc_seq (jc_region (qh [0,0,0] (qe (jx_then (jc_ret (jx_thenr ?_))))))
   obtain rfl := Option.some.inj h
   exact qr [] (fun w hm => ⟨rfl, hm.pk []⟩)
  ·refine jc_skip (jx_then (jc_seq (jc_region (qh [0,0,0] ?_))))
   obtain ⟨t_2, ht_6, h⟩ := bd h
   refine tO (pc 0 (fun w hm => impl_isOrder.calls order2 (list1.length : Int) w _ E_c (hm.xr E_h) rfl ht_6) ?_)
   rintro w v w' hm ⟨rfl, hm'⟩
   refine ⟨_, hm.app hm', jkO ?_⟩
   clear hm hm'
   refine qf [(0, 0), (0, 1)] (qp 21 h (fun h => ?_) (fun h => ?_))
   ·obtain ⟨t_3, ht_8, h⟩ := bd h
    refine tO (pc 2 (fun w hm => impl_costs.calls list1 w _ D_c (hm.xr D_h) rfl ht_8) ?_)
    rintro w v w' hm ⟨o_9, cap_10, sp_11, _, hh_14, hI_15, rfl, hs_12, ho_13, rfl, hm'⟩
    refine ⟨_, hm.app hm', jkO ?_⟩
    clear hm hm'
    refine qf [(0, 2)] ?_
    obtain ⟨t_4, ht_16, h⟩ := bd h
    refine tO (pc 2 (fun w hm => impl_orderCost.calls t_3 order2 w _ cap_10 (hm.ow 1 o_9 34 hh_14 sp_11 (fun e => (ho_13 e).1) encHd_len) (hI_15.1.symm.trans rfl) (hm.cluPass (N := []) 2 hI_15 encI64_len []) E_c (hm.xr E_h) rfl ht_16) ?_)
    rintro w v w' hm ⟨rfl, hm'⟩
    refine ⟨_, hm.app hm', jkO ?_⟩
    clear hm hm'
    refine qf [(0, 2), (0, 2), (0, 4), (0, 0), (0, 0)] (qe (jx_then (jc_ret ?_)))
    obtain rfl := Option.some.inj h
    exact qr [] (fun w hm => ⟨rfl, hm.pk []⟩)
   ·refine qf [(0, 3), (0, 3), (0, 3), (0, 3), (0, 3), (0, 5), (0, 0), (0, 0)] (qe (jx_then (jc_ret ?_)))
    obtain rfl := Option.some.inj h
    exact qr [] (fun w hm => ⟨rfl, hm.pk []⟩)
/-! ### impl.size[[2]int64] -/
def impl_size_2int64 (list0 : List (Arr 2 Int)) : Option (Int) := some (list0.length : Int)
theorem impl_size_2int64.calls (list0 : List (Arr 2 Int)) (w : World) (r : Int) {A_a : Option Addr} {A_an : Nat} (A_c : Nat) (A_h : Rw w A_a 2 encA2I64 list0) (A_hn : list0.length = A_an) (h : impl_size_2int64 list0 = some r) :
    Calls Try.prog 51 #[(.slice A_a A_an A_c)] w fun e w' => ∃ v, e = .returned v ∧ (v = (.int .i64 r) ∧ Mem w [] [] w') := by
  subst A_hn
  rw [impl_size_2int64] at h
  refine enter (args := [(.slice A_a list0.length A_c)]) Try.func51 rfl Try.ntmps51 (by kernel_rfl) (L := []) (W := []) (Mem.start w) ?_
  refine jc_seq (jc_region (qh [0] (qe (jx_then (jc_seq (jc_region (qh [0,0,0] (qe (jx_then (jc_ret ?_))))))))))
  obtain rfl := Option.some.inj h
  exact qr [] (fun w hm => ⟨rfl, hm.pk []⟩)
/-! ### impl.CheckTree$1 -/
def impl_CheckTree_1 (p0 : Arr 2 Int) (p1 : Int) : Option (Bool) := (ix p0.1 0).bind fun x_1 => (ix p0.1 1).bind fun x_2 => (impl_within x_1 0 (w64 (x_2 - 1))).bind fun t_3 => (if (!t_3) = true then some true else (ix p0.1 1).bind fun x_4 => (impl_within x_4 0 (w64 (p1 - 1))).bind fun t_5 => some (!t_5))
theorem impl_CheckTree_1.calls (p0 : Arr 2 Int) (p1 : Int) (w : World) (r : Bool) (B_b : Nat) (hm0 : Mem w (bs [some B_b]) [⟨some B_b, 2, [(.int .i64 p1)]⟩] w) (h : impl_CheckTree_1 p0 p1 = some r) :
    Calls Try.prog 53 #[(.agg (row encI64 p0.1 []).toArray), (.pointer (some ⟨B_b, 0, none⟩))] w fun e w' => ∃ v, e = .returned v ∧ (v = (.bool r) ∧ Mem w (bs [some B_b]) [⟨some B_b, 2, [(.int .i64 p1)]⟩] w') := by
  rw [impl_CheckTree_1] at h
  refine enter (args := [(.agg (row encI64 p0.1 []).toArray), (.pointer (some ⟨B_b, 0, none⟩))]) Try.func53 rfl Try.ntmps53 (by kernel_rfl) (L := [⟨some B_b, 2, [(.int .i64 p1)]⟩]) (W := bs [some B_b]) hm0 ?_
  refine jc_seq (jc_region (tO (qa 0 (fun b_1 => jkO (qh [0] (qe (jx_then (jc_seq (jc_region ?_)))))))))
  obtain ⟨x_1, hx_2, h⟩ := bd h
  refine tO (qx 0 (some ⟨b_1, 0, none⟩) 1 hx_2 p0.2 rfl (jkO (tO (ql 0 false (fun w hm => ((hm.ow 1 (some b_1) 51 p0.1 [] (fun e => nomatch e) encI64_len).at hx_2)) (jkO ?_)))))
  obtain ⟨x_2, hx_3, h⟩ := bd h
  refine tO (qx 0 (some ⟨b_1, 0, none⟩) 1 hx_3 p0.2 rfl (jkO (tO (ql 0 false (fun w hm => ((hm.ow 1 (some b_1) 51 p0.1 [] (fun e => nomatch e) encI64_len).at hx_3)) (jkO (qh [0] ?_))))))
  obtain ⟨t_3, ht_4, h⟩ := bd h
  refine tO (pc 0 (fun w hm => impl_within.calls x_1 0 (w64 (x_2 - 1)) w _ ht_4) ?_)
  rintro w v w' hm ⟨rfl, hm'⟩
  refine ⟨_, hm.app hm', jkO ?_⟩
  clear hm hm'
  refine qh [0,0] (qp 11 h (fun h => ?_) (fun h => ?_))
  ·refine qf [(0, 3), (0, 3), (0, 3), (0, 3), (0, 3), (0, 3), (0, 4), (0, 0)] (qe (jx_then (jc_ret ?_)))
   obtain rfl := Option.some.inj h
   exact qr [] (fun w hm => ⟨rfl, hm.pk [0]⟩)
  ·obtain ⟨x_4, hx_6, h⟩ := bd h
   refine tO (qx 2 (some ⟨b_1, 0, none⟩) 1 hx_6 p0.2 rfl (jkO (tO (ql 2 false (fun w hm => ((hm.ow 1 (some b_1) 51 p0.1 [] (fun e => nomatch e) encI64_len).at hx_6)) (jkO (qf [(0, 2), (0, 2)] ?_))))))
   obtain ⟨t_5, ht_7, h⟩ := bd h
   refine tO (pc 2 (fun w hm => impl_within.calls x_4 0 (w64 (p1 - 1)) w _ ht_7) ?_)
   rintro w v w' hm ⟨rfl, hm'⟩
   refine ⟨_, hm.app hm', jkO ?_⟩
   clear hm hm'
   refine qf [(0, 2), (0, 5), (0, 0)] (qe (jx_then (jc_ret ?_)))
   obtain rfl := Option.some.inj h
   exact qr [] (fun w hm => ⟨rfl, hm.pk [0]⟩)
/-! ### slices.IndexFunc[[][2]int64,[2]int64] -/
def slices_IndexFunc_2int64_at_impl_CheckTree_1.k_1 : Option (Int) := some (-1)
def slices_IndexFunc_2int64_at_impl_CheckTree_1.l_3 (s0 : List (Arr 2 Int)) (g1c0 : Int) : Int → Option ((Int) ⊕ (Int ⊕ Unit))
  | i_2 => (if (decide (i_2 < (s0.length : Int))) = true then (ix s0 i_2).bind fun x_5 => (impl_CheckTree_1 x_5 g1c0).bind fun t_6 => (if t_6 = true then some (.inr (.inl i_2)) else some (.inl (w64 (i_2 + 1)))) else some (.inr (.inr ())))
def slices_IndexFunc_2int64_at_impl_CheckTree_1 (s0 : List (Arr 2 Int)) (g1c0 : Int) : Option (Int) := (loop (slices_IndexFunc_2int64_at_impl_CheckTree_1.l_3 s0 g1c0) 0).bind fun t_4 => match t_4 with | .inl p => some p | .inr p => slices_IndexFunc_2int64_at_impl_CheckTree_1.k_1
theorem slices_IndexFunc_2int64_at_impl_CheckTree_1.calls (s0 : List (Arr 2 Int)) (g1c0 : Int) (w : World) (r : Int) {A_a : Option Addr} {A_an : Nat} (A_c : Nat) (A_h : Rw w A_a 2 encA2I64 s0) (A_hn : s0.length = A_an) (B_b : Nat) (hm0 : Mem w (bs [some B_b]) [⟨some B_b, 2, [(.int .i64 g1c0)]⟩] w) (A_ha : s0 ≠ [] → aB A_a ∉ bs [some B_b]) (h : slices_IndexFunc_2int64_at_impl_CheckTree_1 s0 g1c0 = some r) :
    Calls Try.prog 75 #[(.slice A_a A_an A_c), (.func (.func 53) #[] #[(.pointer (some ⟨B_b, 0, none⟩))])] w fun e w' => ∃ v, e = .returned v ∧ (v = (.int .i64 r) ∧ Mem w (bs [some B_b]) [⟨some B_b, 2, [(.int .i64 g1c0)]⟩] w') := by
  subst A_hn
  rw [slices_IndexFunc_2int64_at_impl_CheckTree_1] at h
  refine enter (args := [(.slice A_a s0.length A_c), (.func (.func 53) #[] #[(.pointer (some ⟨B_b, 0, none⟩))])]) Try.func75 rfl Try.ntmps75 (by kernel_rfl) (L := [⟨some B_b, 2, [(.int .i64 g1c0)]⟩]) (W := bs [some B_b]) hm0 ?_
  refine jc_seq (jc_region (qh [0] (qe (jx_then (jc_seq (jc_seq (jc_region (qh [0,0,0] (qe (jx_then (jc_meet (fun (_ : Unit) => slices_IndexFunc_2int64_at_impl_CheckTree_1.k_1 = some r) (fun (_ : Unit) => [(4, [], (.int .i64 0))]) (fun (_ : Unit) => [⟨some B_b, 2, [(.int .i64 g1c0)]⟩]) ?_ ?_)))))))))))
  ·refine jc_block ?_
   obtain ⟨t_4, ht_40, hr_31⟩ := bd h
   refine jc_loop (fun (s : Int) (x : Unit) => match s, x with | i_2, _ => True) (fun (s : Int) (x : Unit) => match s, x with | i_2, _ => [(0, [], (.slice A_a s0.length A_c)), (1, [], (.func (.func 53) #[] #[(.pointer (some ⟨B_b, 0, none⟩))])), (4, [], (.int .i64 0)), (7, [], (.int .i64 (s0.length : Int))), (8, [], (.int .i64 i_2))]) (fun (s : Int) (x : Unit) => match s, x with | i_2, _ => [⟨some B_b, 2, [(.int .i64 g1c0)]⟩]) ht_40 () trivial (by kernel_rfl) [0] (by kernel_rfl) (by kernel_rfl) ?_
   rintro i_2 _ y_32 _ h
   rw [slices_IndexFunc_2int64_at_impl_CheckTree_1.l_3] at h
   refine jc_seq (jc_region (qh [0] (qe (jx_then (jc_seq (qi h (fun h => ?_) (fun h => ?_)))))))
   ·refine jc_skip (jx_then (jc_seq (jc_block (jc_seq (jc_region (qh [0,0] (qe (jx_then (jc_seq (jc_region (qh [0,0,0] ?_)))))))))))
    obtain ⟨x_5, hx_35, h⟩ := bd h
    refine tO (qx 0 A_a 2 hx_35 rfl (A_h.sp hx_35) (jkO (tO (p_ldx 0 (aB A_a) (aO A_a + i_2.toNat * 2) (encA2I64 x_5) 2 (by kernel_rfl) (by kernel_rfl) (encA2I64_len x_5) (fun w hm => ((hm.exRowW A_h A_ha).at hx_35)) (jkO ?_)))))
    obtain ⟨t_6, ht_36, h⟩ := bd h
    refine tO (pc 0 (fun w hm => impl_CheckTree_1.calls x_5 g1c0 w _ B_b (hm.pass (N := [⟨some B_b, 2, [(.int .i64 g1c0)]⟩]) [0] (by kernel_rfl) (by kernel_rfl)) ht_36) ?_)
    rintro w v w' hm ⟨rfl, hm'⟩
    refine ⟨_, hm.appW (ps := [(0, ⟨some B_b, 2, [(.int .i64 g1c0)]⟩)]) (N := []) hm' (by kernel_rfl) (by kernel_rfl), jkO ?_⟩
    clear hm hm'
    refine qe (jx_then (qi h (fun h => ?_) (fun h => ?_)))
    ·refine jc_seq (jc_region (qh [0,0] (qe (jx_then (jc_ret (jx_inr (jx_thenr (jx_leaver (.inl i_2) (Option.some.inj h).symm (fun e_38 => ?_)))))))))
     subst e_38
     refine jx_inr (jx_thenr (jx_thenr ?_))
     obtain rfl := Option.some.inj hr_31
     exact qr [] (fun w hm => ⟨rfl, hm.pk [0]⟩)
    ·exact jc_skip (jx_inn (jx_then (jc_region (qh [0,0] (qe (qb (w64 (i_2 + 1)) () h trivial [0]))))))
   ·refine jc_exit (jx_thenx (jx_leave (.inr ()) (Option.some.inj h).symm (fun e_39 => ?_)))
    subst e_39
    exact jx_ine (qm () hr_31 [0])
  ·rintro _ h
   replace h : slices_IndexFunc_2int64_at_impl_CheckTree_1.k_1 = some r := h
   rw [slices_IndexFunc_2int64_at_impl_CheckTree_1.k_1] at h
   refine jx_then (jc_seq (jc_region (qh [0] (qe (jx_then (jc_ret ?_))))))
   obtain rfl := Option.some.inj h
   exact qr [] (fun w hm => ⟨rfl, hm.pk [0]⟩)
/-! ### slices.ContainsFunc[[][2]int64,[2]int64] -/
def slices_ContainsFunc_2int64_at_impl_CheckTree_1 (s0 : List (Arr 2 Int)) (g1c0 : Int) : Option (Bool) := (slices_IndexFunc_2int64_at_impl_CheckTree_1 s0 g1c0).bind fun t_1 => some (decide (t_1 ≥ 0))
theorem slices_ContainsFunc_2int64_at_impl_CheckTree_1.calls (s0 : List (Arr 2 Int)) (g1c0 : Int) (w : World) (r : Bool) {A_a : Option Addr} {A_an : Nat} (A_c : Nat) (A_h : Rw w A_a 2 encA2I64 s0) (A_hn : s0.length = A_an) (B_b : Nat) (hm0 : Mem w (bs [some B_b]) [⟨some B_b, 2, [(.int .i64 g1c0)]⟩] w) (A_ha : s0 ≠ [] → aB A_a ∉ bs [some B_b]) (h : slices_ContainsFunc_2int64_at_impl_CheckTree_1 s0 g1c0 = some r) :
    Calls Try.prog 52 #[(.slice A_a A_an A_c), (.func (.func 53) #[] #[(.pointer (some ⟨B_b, 0, none⟩))])] w fun e w' => ∃ v, e = .returned v ∧ (v = (.bool r) ∧ Mem w (bs [some B_b]) [⟨some B_b, 2, [(.int .i64 g1c0)]⟩] w') := by
  subst A_hn
  rw [slices_ContainsFunc_2int64_at_impl_CheckTree_1] at h
  refine enter (args := [(.slice A_a s0.length A_c), (.func (.func 53) #[] #[(.pointer (some ⟨B_b, 0, none⟩))])]) Try.func52 rfl Try.ntmps52 (by kernel_rfl) (L := [⟨some B_b, 2, [(.int .i64 g1c0)]⟩]) (W := bs [some B_b]) hm0 ?_
  refine jc_seq (jc_region (qh [0] (qe (jx_then (jc_seq (jc_region (qh [0,0] ?_)))))))
  obtain ⟨t_1, ht_1, h⟩ := bd h
  refine tO (pc 0 (fun w hm => slices_IndexFunc_2int64_at_impl_CheckTree_1.calls s0 g1c0 w _ A_c (hm.exRowW A_h A_ha) rfl B_b (hm.pass (N := [⟨some B_b, 2, [(.int .i64 g1c0)]⟩]) [0] (by kernel_rfl) (by kernel_rfl)) (hm.exApart (N := [⟨some B_b, 2, [(.int .i64 g1c0)]⟩]) A_h A_ha [0] (by kernel_rfl)) ht_1) ?_)
  rintro w v w' hm ⟨rfl, hm'⟩
  refine ⟨_, hm.appW (ps := [(0, ⟨some B_b, 2, [(.int .i64 g1c0)]⟩)]) (N := []) hm' (by kernel_rfl) (by kernel_rfl), jkO ?_⟩
  clear hm hm'
  refine qh [0,0] (qe (jx_then (jc_ret ?_)))
  obtain rfl := Option.some.inj h
  exact qr [] (fun w hm => ⟨rfl, hm.pk [0]⟩)
/-! ### impl.CheckTree$2 -/
def impl_CheckTree_2 (i0 : Int) : Option (Bool) := some (i0 != 0)
theorem impl_CheckTree_2.calls (i0 : Int) (w : World) (r : Bool) (h : impl_CheckTree_2 i0 = some r) :
    Calls Try.prog 56 #[(.int .i64 i0)] w fun e w' => ∃ v, e = .returned v ∧ (v = (.bool r) ∧ Mem w [] [] w') := by
  rw [impl_CheckTree_2] at h
  refine enter (args := [(.int .i64 i0)]) Try.func56 rfl Try.ntmps56 (by kernel_rfl) (L := []) (W := []) (Mem.start w) ?_
  refine jc_seq (jc_region (qh [0] (qe (jx_then (jc_seq (jc_region (qh [0,0,0] (qe (jx_then (jc_ret ?_))))))))))
  obtain rfl := Option.some.inj h
  exact qr [] (fun w hm => ⟨rfl, hm.pk []⟩)
/-! ### slices.IndexFunc[[]int64,int64] -/
def slices_IndexFunc_int64_at_impl_CheckTree_2.k_1 : Option (Int) := some (-1)
def slices_IndexFunc_int64_at_impl_CheckTree_2.l_3 (s0 : List Int) : Int → Option ((Int) ⊕ (Int ⊕ Unit))
  | i_2 => (if (decide (i_2 < (s0.length : Int))) = true then (ix s0 i_2).bind fun x_5 => (impl_CheckTree_2 x_5).bind fun t_6 => (if t_6 = true then some (.inr (.inl i_2)) else some (.inl (w64 (i_2 + 1)))) else some (.inr (.inr ())))
def slices_IndexFunc_int64_at_impl_CheckTree_2 (s0 : List Int) : Option (Int) := (loop (slices_IndexFunc_int64_at_impl_CheckTree_2.l_3 s0) 0).bind fun t_4 => match t_4 with | .inl p => some p | .inr p => slices_IndexFunc_int64_at_impl_CheckTree_2.k_1
theorem slices_IndexFunc_int64_at_impl_CheckTree_2.calls (s0 : List Int) (w : World) (r : Int) {A_a : Option Addr} {A_an : Nat} (A_c : Nat) (A_h : Rw w A_a 1 encI64 s0) (A_hn : s0.length = A_an) (h : slices_IndexFunc_int64_at_impl_CheckTree_2 s0 = some r) :
    Calls Try.prog 76 #[(.slice A_a A_an A_c), (.func (.func 56) #[] #[])] w fun e w' => ∃ v, e = .returned v ∧ (v = (.int .i64 r) ∧ Mem w [] [] w') := by
  subst A_hn
  rw [slices_IndexFunc_int64_at_impl_CheckTree_2] at h
  refine enter (args := [(.slice A_a s0.length A_c), (.func (.func 56) #[] #[])]) Try.func76 rfl Try.ntmps76 (by kernel_rfl) (L := []) (W := []) (Mem.start w) ?_
  refine jc_seq (jc_region (qh [0] (qe (jx_then (jc_seq (jc_seq (jc_region (qh [0,0,0] (qe (jx_then (jc_meet (fun (_ : Unit) => slices_IndexFunc_int64_at_impl_CheckTree_2.k_1 = some r) (fun (_ : Unit) => [(4, [], (.int .i64 0))]) (fun (_ : Unit) => []) ?_ ?_)))))))))))
  ·refine jc_block ?_
   obtain ⟨t_4, ht_40, hr_31⟩ := bd h
   refine jc_loop (fun (s : Int) (x : Unit) => match s, x with | i_2, _ => True) (fun (s : Int) (x : Unit) => match s, x with | i_2, _ => [(0, [], (.slice A_a s0.length A_c)), (1, [], (.func (.func 56) #[] #[])), (4, [], (.int .i64 0)), (7, [], (.int .i64 (s0.length : Int))), (8, [], (.int .i64 i_2))]) (fun (s : Int) (x : Unit) => match s, x with | i_2, _ => []) ht_40 () trivial (by kernel_rfl) [] (by kernel_rfl) (by kernel_rfl) ?_
   rintro i_2 _ y_32 _ h
   rw [slices_IndexFunc_int64_at_impl_CheckTree_2.l_3] at h
   refine jc_seq (jc_region (qh [0] (qe (jx_then (jc_seq (qi h (fun h => ?_) (fun h => ?_)))))))
   ·refine jc_skip (jx_then (jc_seq (jc_block (jc_seq (jc_region (qh [0,0] (qe (jx_then (jc_seq (jc_region (qh [0,0,0] ?_)))))))))))
    obtain ⟨x_5, hx_35, h⟩ := bd h
    refine tO (qx 0 A_a 1 hx_35 rfl (A_h.sp hx_35) (jkO (tO (ql 0 false (fun w hm => ((hm.xr A_h).at hx_35)) (jkO ?_)))))
    obtain ⟨t_6, ht_36, h⟩ := bd h
    refine tO (pc 0 (fun w hm => impl_CheckTree_2.calls x_5 w _ ht_36) ?_)
    rintro w v w' hm ⟨rfl, hm'⟩
    refine ⟨_, hm.app hm', jkO ?_⟩
    clear hm hm'
    refine qe (jx_then (qi h (fun h => ?_) (fun h => ?_)))
    ·refine jc_seq (jc_region (qh [0,0] (qe (jx_then (jc_ret (jx_inr (jx_thenr (jx_leaver (.inl i_2) (Option.some.inj h).symm (fun e_38 => ?_)))))))))
     subst e_38
     refine jx_inr (jx_thenr (jx_thenr ?_))
     obtain rfl := Option.some.inj hr_31
     exact qr [] (fun w hm => ⟨rfl, hm.pk []⟩)
    ·exact jc_skip (jx_inn (jx_then (jc_region (qh [0,0] (qe (qb (w64 (i_2 + 1)) () h trivial []))))))
   ·refine jc_exit (jx_thenx (jx_leave (.inr ()) (Option.some.inj h).symm (fun e_39 => ?_)))
    subst e_39
    exact jx_ine (qm () hr_31 [])
  ·rintro _ h
   replace h : slices_IndexFunc_int64_at_impl_CheckTree_2.k_1 = some r := h
   rw [slices_IndexFunc_int64_at_impl_CheckTree_2.k_1] at h
   refine jx_then (jc_seq (jc_region (qh [0] (qe (jx_then (jc_ret ?_))))))
   obtain rfl := Option.some.inj h
   exact qr [] (fun w hm => ⟨rfl, hm.pk []⟩)
/-! ### slices.ContainsFunc[[]int64,int64] -/
def slices_ContainsFunc_int64_at_impl_CheckTree_2 (s0 : List Int) : Option (Bool) := (slices_IndexFunc_int64_at_impl_CheckTree_2 s0).bind fun t_1 => some (decide (t_1 ≥ 0))
theorem slices_ContainsFunc_int64_at_impl_CheckTree_2.calls (s0 : List Int) (w : World) (r : Bool) {A_a : Option Addr} {A_an : Nat} (A_c : Nat) (A_h : Rw w A_a 1 encI64 s0) (A_hn : s0.length = A_an) (h : slices_ContainsFunc_int64_at_impl_CheckTree_2 s0 = some r) :
    Calls Try.prog 55 #[(.slice A_a A_an A_c), (.func (.func 56) #[] #[])] w fun e w' => ∃ v, e = .returned v ∧ (v = (.bool r) ∧ Mem w [] [] w') := by
  subst A_hn
  rw [slices_ContainsFunc_int64_at_impl_CheckTree_2] at h
  refine enter (args := [(.slice A_a s0.length A_c), (.func (.func 56) #[] #[])]) Try.func55 rfl Try.ntmps55 (by kernel_rfl) (L := []) (W := []) (Mem.start w) ?_
  refine jc_seq (jc_region (qh [0] (qe (jx_then (jc_seq (jc_region (qh [0,0] ?_)))))))
  obtain ⟨t_1, ht_1, h⟩ := bd h
  refine tO (pc 0 (fun w hm => slices_IndexFunc_int64_at_impl_CheckTree_2.calls s0 w _ A_c (hm.xr A_h) rfl ht_1) ?_)
  rintro w v w' hm ⟨rfl, hm'⟩
  refine ⟨_, hm.app hm', jkO ?_⟩
  clear hm hm'
  refine qh [0,0] (qe (jx_then (jc_ret ?_)))
  obtain rfl := Option.some.inj h
  exact qr [] (fun w hm => ⟨rfl, hm.pk []⟩)
/-! ### slices.Clone[[][2]int64,[2]int64] -/
def slices_Clone_2int64 (s0 : List (Arr 2 Int)) : Option ((List (Arr 2 Int))) := (if ([] : List (Arr 2 Int)).length + s0.length ≤ 4294967296 then some (([] : List (Arr 2 Int)) ++ s0) else none)
theorem slices_Clone_2int64.calls (s0 : List (Arr 2 Int)) (w : World) (r : (List (Arr 2 Int))) {A_a : Option Addr} {A_an : Nat} (A_c : Nat) (A_h : Rw w A_a 2 encA2I64 s0) (A_hn : s0.length = A_an) (h : slices_Clone_2int64 s0 = some r) :
    Calls Try.prog 58 #[(.slice A_a A_an A_c)] w fun e w' => ∃ v, e = .returned v ∧ (∃ (o0 : Option Nat) (c0 : Nat) (s0 : List Value) (n0 : Nat), r.length = n0 ∧ (o0 ≠ none → n0 ≤ c0 ∧ s0.length = (c0 - n0) * 2) ∧ (o0 = none → r = [] ∧ c0 = 0) ∧ v = .slice (o0.map fun b => ⟨b, 0, none⟩) n0 c0 ∧ Mem w [] [⟨o0, 51, row encA2I64 r s0⟩] w') := by
  subst A_hn
  rw [slices_Clone_2int64] at h
  refine enter (args := [(.slice A_a s0.length A_c)]) Try.func58 rfl Try.ntmps58 (by kernel_rfl) (L := []) (W := []) (Mem.start w) ?_
  refine jc_seq (jc_region (qh [0] (qe (jx_then (jc_seq (jc_seq (jc_region (qh [0] ?_))))))))
  by_cases hn_4 : A_a = none
  ·have hx0 : s0 = [] := (nil_of A_h hn_4)
   replace h : some [] = some r := by simpa [hx0] using h
   refine tO (p_nil 0 A_a true true (by kernel_rfl) (by kernel_rfl) (by rw [hn_4]; rfl) (jkO (qe (jx_then (jc_cond true (by kernel_rfl) (fun hc_5 => (jc_seq (jc_region (qh [0] (qe (jx_then (jc_ret (jx_thenr ?_)))))))) (fun hc_5 => nomatch hc_5))))))
   obtain rfl := Option.some.inj h
   exact jx_ghost 51 encA2I64 (qr [] (fun w hm => ⟨none, 0, [], 0, rfl, (fun e => absurd rfl e), (fun _ => ⟨rfl, rfl⟩), rfl, hm.pk [0]⟩))
  ·refine tO (p_nil 0 A_a true false (by kernel_rfl) (by kernel_rfl) (by rw [Option.isNone_eq_false_iff.2 (Option.ne_none_iff_isSome.1 hn_4)]; rfl) (jkO (qe (jx_then (jc_cond false (by kernel_rfl) (fun hc_6 => nomatch hc_6) (fun hc_6 => (jc_skip (jx_then (jc_seq (jc_region (tO (qa 0 (fun b_7 => jkO (qh [0] ?_))))))))))))))
   obtain ⟨hg_8, h⟩ := gd h
   refine tO (p_apn 0 0 (some b_7) 51 0 s0.length 0 2 16 A_a encA2I64 ([] : List (Arr 2 Int)) s0 [] (.agg (row encI64 (Arr.rep 2 0).1 []).toArray) rfl rfl (by kernel_rfl) (by kernel_rfl) (by kernel_rfl) encA2I64_len encA2I64_cell (fun _ => ⟨Nat.le_refl _, by simp⟩) (fun e => nomatch e) (fun w hm => (hm.xr A_h)) hg_8 (by kernel_rfl) (by kernel_rfl) (fun o_9 cap_10 sp_11 hs_12 ho_13 => jkO (qh [0] (qe (jx_then (jc_ret ?_))))))
   obtain rfl := Option.some.inj h
   exact qr [] (fun w hm => ⟨o_9, cap_10, sp_11, ((([] : List (Arr 2 Int)) ++ s0).length), rfl, hs_12, ho_13, rfl, hm.pk [0]⟩)
/-! ### slices.Delete[[][2]int64,[2]int64] -/
def slices_Delete_2int64 (s0 : List (Arr 2 Int)) (i1 : Int) (j2 : Int) : Option ((List (Arr 2 Int))) := (if 0 ≤ i1 ∧ i1 ≤ j2 ∧ j2 ≤ (s0.length : Int) ∧ (s0.length : Int) ≤ (s0.length : Int) then (if (i1 == j2) = true then some s0 else (if 0 ≤ i1 ∧ i1 ≤ (s0.length : Int) then (if 0 ≤ j2 ∧ j2 ≤ (s0.length : Int) then (if i1.toNat + (s0.drop j2.toNat).length ≤ s0.length then some (s0.take i1.toNat ++ (s0.drop j2.toNat)) else none) else none) else none)) else none)
theorem slices_Delete_2int64.calls (s0 : List (Arr 2 Int)) (i1 : Int) (j2 : Int) (w : World) (r : (List (Arr 2 Int))) (A_o : Option Nat) {A_on : Nat} {A_c : Nat} {A_sp : List Value} (A_hn : s0.length = A_on) (A_hs : A_o ≠ none → A_on ≤ A_c ∧ A_sp.length = (A_c - A_on) * 2) (A_ho : A_o = none → s0 = [] ∧ A_c = 0) (hm0 : Mem w (bs [A_o]) [⟨A_o, 51, row encA2I64 s0 A_sp⟩] w) (h : slices_Delete_2int64 s0 i1 j2 = some r) :
    Calls Try.prog 57 #[(.slice (A_o.map fun b => ⟨b, 0, none⟩) A_on A_c), (.int .i64 i1), (.int .i64 j2)] w fun e w' => ∃ v, e = .returned v ∧ (∃ (o0 : Option Nat) (c0 : Nat) (s0 : List Value) (n0 : Nat), r.length = n0 ∧ (o0 ≠ none → n0 ≤ c0 ∧ s0.length = (c0 - n0) * 2) ∧ (o0 = none → r = [] ∧ c0 = 0) ∧ v = .slice (o0.map fun b => ⟨b, 0, none⟩) n0 c0 ∧ Mem w (bs [A_o]) [⟨o0, 51, row encA2I64 r s0⟩] w') := by
  subst A_hn
  rw [slices_Delete_2int64] at h
  refine enter (args := [(.slice (A_o.map fun b => ⟨b, 0, none⟩) s0.length A_c), (.int .i64 i1), (.int .i64 j2)]) Try.func57 rfl Try.ntmps57 (by kernel_rfl) (L := [⟨A_o, 51, row encA2I64 s0 A_sp⟩]) (W := bs [A_o]) hm0 ?_
  refine jc_seq (jc_region (qh [0] (qe (jx_then (jc_seq (jc_region (qh [0,0,0,0,0] ?_)))))))
  obtain ⟨hg_1, h⟩ := gd h
  refine tO (p_slM 0 (A_o.map fun b => ⟨b, 0, none⟩) s0.length A_c 2 i1 j2 (s0.length : Int) (by kernel_rfl) (by kernel_rfl) hg_1.1 hg_1.2.1 hg_1.2.2.1 (Int.le_trans hg_1.2.2.2 (Int.ofNat_le.2 (cap_le rfl A_hs A_ho))) (jkO (qe (jx_then (jc_seq (jc_seq (jc_region (qh [0,0,0] (qe (jx_then (qi h (fun h => ?_) (fun h => ?_))))))))))))
  ·refine jc_seq (jc_region (qh [0,0] (qe (jx_then (jc_ret (jx_thenr ?_))))))
   obtain rfl := Option.some.inj h
   exact qr [] (fun w hm => ⟨A_o, A_c, A_sp, s0.length, rfl, A_hs, A_ho, rfl, hm.pk [0]⟩)
  ·refine jc_skip (jx_then (jc_seq (jc_region (qh [0,0,0] (qe (jx_then (jc_seq (qg [] 8 (qd [⟨0, 0, 0⟩,⟨1, 0, 0⟩,⟨3, 0, 0⟩,⟨4, 0, 0⟩] 4 [] ?_)))))))))
   obtain ⟨hg_6, h⟩ := gd h
   refine qv 2 0 [] (fun w hm => slH_run (a := (A_o.map fun b => ⟨b, 0, none⟩)) (len := s0.length) (cap := A_c) (size := 2) (h := i1) (by kernel_rfl) hg_6.1 (Int.le_trans hg_6.2 (Int.ofNat_le.2 (cap_le rfl A_hs A_ho)))) ?_
   obtain ⟨hg_7, h⟩ := gd h
   refine qv 5 0 [] (fun w hm => slL_run (a := (A_o.map fun b => ⟨b, 0, none⟩)) (len := s0.length) (cap := A_c) (size := 2) (l := j2) (by kernel_rfl) hg_7.1 (Int.le_trans hg_7.2 (Int.ofNat_le.2 (Nat.le_of_eq rfl)))) ?_
   obtain ⟨hg_8, h⟩ := gd h
   refine tD 6 (p_apN 0 0 A_o 51 i1.toNat s0.length (s0.length - j2.toNat) A_c 2 16 (pa (A_o.map fun b => ⟨b, 0, none⟩) j2.toNat A_c 2) encA2I64 s0 (s0.drop j2.toNat) A_sp hg_8 rfl (tl_len rfl j2) (by kernel_rfl) (by kernel_rfl) (by kernel_rfl) encA2I64_len encA2I64_cell A_hs A_ho (fun w hm => ((hm.ow 0 A_o 51 s0 A_sp (fun e => (A_ho e).1) encA2I64_len).tl j2.toNat A_c (cap_le rfl A_hs A_ho))) (fun sp_11 hs_12 ho_13 => kD [] (qd [⟨7, 0, 0⟩] 0 [] (qz (jx_then (jc_seq (jc_region (qh [0,0,0,0] (tO (p_slLH 0 (A_o.map fun b => ⟨b, 0, none⟩) ((s0.take i1.toNat ++ (s0.drop j2.toNat)).length) A_c 2 (((s0.take i1.toNat ++ (s0.drop j2.toNat)).length) : Int) (s0.length : Int) (by kernel_rfl) (by kernel_rfl) (by omega) (Int.ofNat_le.2 (Nat.le_trans (apn_le hg_8) (Nat.le_of_eq rfl))) (Int.ofNat_le.2 (show s0.length ≤ A_c by have := (cap_le rfl A_hs A_ho); have : s0.length = s0.length := rfl; omega)) (jkO (tO (p_clr 0 0 A_o 51 ((((s0.take i1.toNat ++ (s0.drop j2.toNat)).length) : Int).toNat) ((s0.take i1.toNat ++ (s0.drop j2.toNat)).length) ((s0.length : Int).toNat - (((s0.take i1.toNat ++ (s0.drop j2.toNat)).length) : Int).toNat) A_c 2 (encA2I64 (Arr.rep 2 0)) encA2I64 (s0.take i1.toNat ++ (s0.drop j2.toNat)) sp_11 rfl (by omega) (by kernel_rfl) (by kernel_rfl) (by kernel_rfl) encA2I64_len (by kernel_rfl) hs_12 ho_13 (by have := (show s0.length ≤ A_c by have := (cap_le rfl A_hs A_ho); have : s0.length = s0.length := rfl; omega); have := (Nat.le_trans (apn_le hg_8) (Nat.le_of_eq rfl)); omega) (fun sp_15 hl_16 => jkO (qe (jx_then (jc_seq (jc_region (qh [0,0] (qe (jx_then (jc_ret ?_))))))))))))))))))))))
   obtain rfl := Option.some.inj h
   exact qr [] (fun w hm => ⟨A_o, A_c, sp_15, ((s0.take i1.toNat ++ (s0.drop j2.toNat)).length), rfl, (fun e => ⟨(hs_12 e).1, hl_16.trans (hs_12 e).2⟩), ho_13, rfl, hm.pk [0]⟩)
/-! ### impl.CheckTree -/
def impl_CheckTree.k_8 : Option (Bool × Int) := some (true, 0)
def impl_CheckTree.k_17 (i_9 : Int) : Option ((Int) ⊕ ((Bool × Int) ⊕ Unit)) := some (.inl (w64 (i_9 + 1)))
def impl_CheckTree.k_23 (i_18 : Int) (q_22 : Bool) : Option ((Int) ⊕ ((Bool × Int) ⊕ Unit)) := (if q_22 = true then some (.inr (.inl (false, 0))) else some (.inl (w64 (i_18 + 1))))
def impl_CheckTree.l_19 (t_5 : (List (List Int))) (x_12 : Arr 2 Int) (t_15 : (List Int)) (t_16 : (List (Arr 2 Int))) : Int → Option ((Int) ⊕ ((Bool × Int) ⊕ Unit))
  | i_18 => (if (decide (i_18 < (t_16.length : Int))) = true then (ix t_16 i_18).bind fun x_21 => (ix x_21.1 0).bind fun x_24 => (ix t_15 x_24).bind fun x_25 => (ix x_21.1 1).bind fun x_26 => (ix t_15 x_26).bind fun x_27 => (if (x_25 != x_27) = true then (ix x_21.1 0).bind fun x_28 => (ix t_5 x_28).bind fun x_29 => (ix x_21.1 1).bind fun x_30 => (ix x_29 x_30).bind fun x_31 => (ix x_12.1 0).bind fun x_32 => (ix t_5 x_32).bind fun x_33 => (ix x_12.1 1).bind fun x_34 => (ix x_33 x_34).bind fun x_35 => impl_CheckTree.k_23 i_18 (decide (x_31 < x_35)) else impl_CheckTree.k_23 i_18 false) else some (.inr (.inr ())))
def impl_CheckTree.l_10 (list1 : List (Arr 96 Int)) (tree2 : List (Arr 2 Int)) (t_5 : (List (List Int))) : Int → Option ((Int) ⊕ ((Bool × Int) ⊕ Unit))
  | i_9 => (if (decide (i_9 < (tree2.length : Int))) = true then (ix tree2 i_9).bind fun x_12 => (slices_Clone_2int64 tree2).bind fun t_13 => (slices_Delete_2int64 t_13 i_9 (w64 (i_9 + 1))).bind fun t_14 => (impl_joined (list1.length : Int) t_14).bind fun t_15 => (impl_pairsOf t_5).bind fun t_16 => (loop (impl_CheckTree.l_19 t_5 x_12 t_15 t_16) 0).bind fun t_20 => match t_20 with | .inl p => some (.inr (.inl p)) | .inr p => impl_CheckTree.k_17 i_9 else some (.inr (.inr ())))
def impl_CheckTree.k_4 (list1 : List (Arr 96 Int)) (tree2 : List (Arr 2 Int)) (q_3 : Bool) : Option (Bool × Int) := (if q_3 = true then some (false, 0) else (impl_costs list1).bind fun t_5 => (impl_joined (list1.length : Int) tree2).bind fun t_6 => (slices_ContainsFunc_int64_at_impl_CheckTree_2 t_6).bind fun t_7 => (if t_7 = true then some (false, 0) else (loop (impl_CheckTree.l_10 list1 tree2 t_5) 0).bind fun t_11 => match t_11 with | .inl p => some p | .inr p => impl_CheckTree.k_8))
def impl_CheckTree (f0 : GFrame) (list1 : List (Arr 96 Int)) (tree2 : List (Arr 2 Int)) : Option (Bool × Int) := (impl_listCode f0 list1).bind fun t_1 => (if (t_1 != 0) = true then some (false, t_1) else (impl_size_Drum list1).bind fun t_2 => (impl_size_2int64 tree2).bind fun t_36 => (if (t_36 != (w64 (t_2 - 1))) = true then impl_CheckTree.k_4 list1 tree2 true else (slices_ContainsFunc_2int64_at_impl_CheckTree_1 tree2 t_2).bind fun t_37 => impl_CheckTree.k_4 list1 tree2 t_37))
set_option maxHeartbeats 8000000 in
theorem impl_CheckTree.calls (f0 : GFrame) (list1 : List (Arr 96 Int)) (tree2 : List (Arr 2 Int)) (w : World) (r : Bool × Int) {C_a : Option Addr} {C_an : Nat} (C_c : Nat) (C_h : Rw w C_a 2 encGHammer f0.fHammers) (C_hn : f0.fHammers.length = C_an) {D_a : Option Addr} {D_an : Nat} (D_c : Nat) (D_h : Rw w D_a 96 encA96U32 list1) (D_hn : list1.length = D_an) {E_a : Option Addr} {E_an : Nat} (E_c : Nat) (E_h : Rw w E_a 2 encA2I64 tree2) (E_hn : tree2.length = E_an) (h : impl_CheckTree f0 list1 tree2 = some r) :
    Calls Try.prog 24 #[(.agg #[(.int .i16 f0.fSteps), (.slice C_a C_an C_c)]), (.slice D_a D_an D_c), (.slice E_a E_an E_c)] w fun e w' => ∃ v, e = .returned v ∧ (v = .tuple #[(.bool r.1), (.int .i64 r.2)] ∧ Mem w [] [] w') := by
  subst C_hn D_hn E_hn
  rw [impl_CheckTree] at h
  refine enter (args := [(.agg #[(.int .i16 f0.fSteps), (.slice C_a f0.fHammers.length C_c)]), (.slice D_a list1.length D_c), (.slice E_a tree2.length E_c)]) Try.func24 rfl Try.ntmps24 (by kernel_rfl) (L := []) (W := []) (Mem.start w) ?_
  refine jc_seq (jc_region (tO (qa 0 (fun b_1 => jkO (qh [0,0] (qe (jx_then (jc_seq (jc_seq (jc_region (qh [0,0] ?_)))))))))))
  obtain ⟨t_1, ht_4, h⟩ := bd h
  refine tO (pc 0 (fun w hm => impl_listCode.calls f0 list1 w _ C_c (hm.xr C_h) rfl D_c (hm.xr D_h) rfl ht_4) ?_)
  rintro w v w' hm ⟨rfl, hm'⟩
  refine ⟨_, hm.app hm', jkO ?_⟩
  clear hm hm'
  refine qh [0] (qe (jx_then (jc_seq (jc_region (qh [0,0] (qe (jx_then (qi h (fun h => ?_) (fun h => ?_)))))))))
  ·refine jc_seq (jc_region (qh [0,0,0] (qe (jx_then (jc_ret (jx_thenr ?_))))))
   obtain rfl := Option.some.inj h
   exact qr [] (fun w hm => ⟨rfl, hm.pk []⟩)
  ·refine jc_skip (jx_then (jc_seq (jc_region (qh [0] ?_))))
   obtain ⟨t_2, ht_6, h⟩ := bd h
   refine tO (pc 0 (fun w hm => impl_size_Drum.calls list1 w _ D_c (hm.xr D_h) rfl ht_6) ?_)
   rintro w v w' hm ⟨rfl, hm'⟩
   refine ⟨_, hm.app hm', jkO ?_⟩
   clear hm hm'
   refine tO (qa 0 (fun b_7 => jkO (tO (qs 0 [1] (jkO (qe (jx_then (jc_seq (jc_seq (jc_meet (fun (j : Bool) => match j with | q_3 => impl_CheckTree.k_4 list1 tree2 q_3 = some r) (fun (j : Bool) => match j with | q_3 => [(1, [], (.slice D_a list1.length D_c)), (2, [], (.slice E_a tree2.length E_c)), (6, [], (.bool false)), (7, [], (.int .i64 0)), (33, [], (.bool q_3))]) (fun (j : Bool) => match j with | q_3 => [⟨some b_1, 27, [(.int .i16 f0.fSteps), (.slice C_a f0.fHammers.length C_c)]⟩, ⟨some b_7, 2, [(.int .i64 t_2)]⟩]) ?_ ?_))))))))))
   ·refine qg [⟨some b_1, 27, [(.int .i16 f0.fSteps), (.slice C_a f0.fHammers.length C_c)]⟩, ⟨some b_7, 2, [(.int .i64 t_2)]⟩] 10 (qd [⟨0, 0, 0⟩,⟨2, 1, 0⟩,⟨3, 0, 0⟩] 7 [0, 1] ?_)
    obtain ⟨t_36, ht_2751, h⟩ := bd h
    refine tD 1 (pc 0 (fun w hm => impl_size_2int64.calls tree2 w _ E_c (hm.xr E_h) rfl ht_2751) ?_)
    rintro w v w' hm ⟨rfl, hm'⟩
    refine ⟨_, hm.app hm', kD [0, 1] ?_⟩
    clear hm hm'
    refine qd [⟨4, 0, 0⟩,⟨5, 0, 0⟩,⟨6, 0, 1⟩,⟨7, 0, 1⟩] 2 [0, 1] (jd_split 29 (t_36 != (w64 (t_2 - 1))) (by kernel_rfl) (fun hc_2752 => ?_) (fun hc_2752 => ?_))
    ·replace h := ifT hc_2752 h
     exact qd [⟨8, 0, 3⟩,⟨9, 0, 4⟩] 0 [0, 1] (qz (qm true h [0, 1]))
    ·replace h := ifF hc_2752 h
     obtain ⟨t_37, ht_2753, h⟩ := bd h
     refine tD 8 (pc 2 (fun w hm => slices_ContainsFunc_2int64_at_impl_CheckTree_1.calls tree2 t_2 w _ E_c (hm.xr E_h) rfl b_7 (hm.pass (N := [⟨some b_7, 2, [(.int .i64 t_2)]⟩]) [1] (by kernel_rfl) (by kernel_rfl)) (hm.exApart (N := [⟨some b_7, 2, [(.int .i64 t_2)]⟩]) E_h (fun _ => List.not_mem_nil) [1] (by kernel_rfl)) ht_2753) ?_)
     rintro w v w' hm ⟨rfl, hm'⟩
     refine ⟨_, hm.appW (ps := [(1, ⟨some b_7, 2, [(.int .i64 t_2)]⟩)]) (N := []) hm' (by kernel_rfl) (by kernel_rfl), kD [0, 1] ?_⟩
     clear hm hm'
     exact qd [⟨9, 0, 5⟩] 0 [0, 1] (qz (qm t_37 h [0, 1]))
   ·rintro q_3 h
    replace h : impl_CheckTree.k_4 list1 tree2 q_3 = some r := h
    rw [impl_CheckTree.k_4] at h
    refine jx_then (qi h (fun h => ?_) (fun h => ?_))
    ·refine jc_seq (jc_region (qh [0,0] (qe (jx_then (jc_ret (jx_thenr ?_))))))
     obtain rfl := Option.some.inj h
     exact qr [] (fun w hm => ⟨rfl, hm.pk []⟩)
    ·refine jc_skip (jx_then (jc_seq (jc_region (qh [0] ?_))))
     obtain ⟨t_5, ht_19, h⟩ := bd h
     refine tO (pc 0 (fun w hm => impl_costs.calls list1 w _ D_c (hm.xr D_h) rfl ht_19) ?_)
     rintro w v w' hm ⟨o_20, cap_21, sp_22, _, hh_25, hI_26, rfl, hs_23, ho_24, rfl, hm'⟩
     refine ⟨_, hm.app hm', jkO ?_⟩
     clear hm hm'
     refine qh [0] (qe (jx_then (jc_seq (jc_seq (jc_region (qh [0,0,0] ?_))))))
     obtain ⟨t_6, ht_35, h⟩ := bd h
     refine tO (pc 0 (fun w hm => impl_joined.calls (list1.length : Int) tree2 w _ E_c (hm.xr E_h) rfl ht_35) ?_)
     rintro w v w' hm ⟨o_36, cap_37, sp_38, _, rfl, hs_39, ho_40, rfl, hm'⟩
     refine ⟨_, hm.app hm', jkO ?_⟩
     clear hm hm'
     obtain ⟨t_7, ht_41, h⟩ := bd h
     refine tO (pc 0 (fun w hm => slices_ContainsFunc_int64_at_impl_CheckTree_2.calls t_6 w _ cap_37 (hm.ow 4 o_36 2 t_6 sp_38 (fun e => (ho_40 e).1) encI64_len) rfl ht_41) ?_)
     rintro w v w' hm ⟨rfl, hm'⟩
     refine ⟨_, hm.app hm', jkO ?_⟩
     clear hm hm'
     refine qe (jx_then (qi h (fun h => ?_) (fun h => ?_)))
     ·refine jc_seq (jc_region (qh [0,0] (qe (jx_then (jc_ret (jx_thenr ?_))))))
      obtain rfl := Option.some.inj h
      exact qr [] (fun w hm => ⟨rfl, hm.pk []⟩)
     ·refine jc_skip (jx_then (jc_seq (jc_seq (jc_region (qh [0,0,0] (qe (jx_then (jc_meet (fun (_ : Unit) => impl_CheckTree.k_8 = some r) (fun (_ : Unit) => [(6, [], (.bool false)), (7, [], (.int .i64 0))]) (fun (_ : Unit) => [⟨some b_1, 27, [(.int .i16 f0.fSteps), (.slice C_a f0.fHammers.length C_c)]⟩, ⟨some b_7, 2, [(.int .i64 t_2)]⟩, ⟨o_20, 34, row encHd hh_25 sp_22⟩, ⟨none, CLU, cluC encI64 hh_25 t_5⟩, ⟨o_36, 2, row encI64 t_6 sp_38⟩]) ?_ ?_))))))))
      ·refine jc_block ?_
       obtain ⟨t_11, ht_2750, hr_2522⟩ := bd h
       refine jc_loop (fun (s : Int) (x : Unit) => match s, x with | i_9, _ => True) (fun (s : Int) (x : Unit) => match s, x with | i_9, _ => [(1, [], (.slice D_a list1.length D_c)), (2, [], (.slice E_a tree2.length E_c)), (6, [], (.bool false)), (7, [], (.int .i64 0)), (10, [], (.slice (o_20.map fun b => ⟨b, 0, none⟩) hh_25.length cap_21)), (41, [], (.slice E_a tree2.length E_c)), (42, [], (.int .i64 (tree2.length : Int))), (43, [], (.int .i64 i_9))]) (fun (s : Int) (x : Unit) => match s, x with | i_9, _ => [⟨some b_1, 27, [(.int .i16 f0.fSteps), (.slice C_a f0.fHammers.length C_c)]⟩, ⟨some b_7, 2, [(.int .i64 t_2)]⟩, ⟨o_20, 34, row encHd hh_25 sp_22⟩, ⟨none, CLU, cluC encI64 hh_25 t_5⟩, ⟨o_36, 2, row encI64 t_6 sp_38⟩]) ht_2750 () trivial (by kernel_rfl) [0, 1, 2, 3, 4] (by kernel_rfl) (by kernel_rfl) ?_
       rintro i_9 _ y_2523 _ h
       rw [impl_CheckTree.l_10] at h
       refine jc_seq (jc_region (qh [0] (qe (jx_then (jc_seq (qi h (fun h => ?_) (fun h => ?_)))))))
       ·refine jc_skip (jx_then (jc_seq (jc_block (jc_seq (jc_region (qh [0] ?_))))))
        obtain ⟨x_12, hx_2526, h⟩ := bd h
        refine tO (qx 0 E_a 2 hx_2526 rfl (E_h.sp hx_2526) (jkO (tO (p_ldx 0 (aB E_a) (aO E_a + i_9.toNat * 2) (encA2I64 x_12) 2 (by kernel_rfl) (by kernel_rfl) (encA2I64_len x_12) (fun w hm => ((hm.xr E_h).at hx_2526)) (jkO (tO (qa 0 (fun b_2527 => jkO (qh [0] (tO (p_sA 0 5 b_2527 2 1 51 encI64 (Arr.rep 2 0) x_12 (by kernel_rfl) (by kernel_rfl) (by kernel_rfl) encI64_len encI64_cell (by kernel_rfl) (jkO (qe (jx_then (jc_seq (jc_region (qh [0,0,0] ?_)))))))))))))))))
        obtain ⟨t_13, ht_2528, h⟩ := bd h
        refine tO (pc 0 (fun w hm => slices_Clone_2int64.calls tree2 w _ E_c (hm.xr E_h) rfl ht_2528) ?_)
        rintro w v w' hm ⟨o_2529, cap_2530, sp_2531, _, rfl, hs_2532, ho_2533, rfl, hm'⟩
        refine ⟨_, hm.app hm', jkO ?_⟩
        clear hm hm'
        refine qh [0,0,0] ?_
        obtain ⟨t_14, ht_2534, h⟩ := bd h
        refine tO (pc 0 (fun w hm => slices_Delete_2int64.calls t_13 i_9 (w64 (i_9 + 1)) w _ o_2529 rfl hs_2532 ho_2533 (hm.pass (N := [⟨o_2529, 51, row encA2I64 t_13 sp_2531⟩]) [6] (by kernel_rfl) (by kernel_rfl)) ht_2534) ?_)
        rintro w v w' hm ⟨o_2535, cap_2536, sp_2537, _, rfl, hs_2538, ho_2539, rfl, hm'⟩
        refine ⟨_, hm.appP (ps := []) (ds := [6]) (N := [⟨o_2535, 51, row encA2I64 t_14 sp_2537⟩]) hm' [0] (by kernel_rfl) (by kernel_rfl) (by kernel_rfl), jkO ?_⟩
        clear hm hm'
        obtain ⟨t_15, ht_2540, h⟩ := bd h
        refine tO (pc 0 (fun w hm => impl_joined.calls (list1.length : Int) t_14 w _ cap_2536 (hm.ow 7 o_2535 51 t_14 sp_2537 (fun e => (ho_2539 e).1) encA2I64_len) rfl ht_2540) ?_)
        rintro w v w' hm ⟨o_2541, cap_2542, sp_2543, _, rfl, hs_2544, ho_2545, rfl, hm'⟩
        refine ⟨_, hm.app hm', jkO ?_⟩
        clear hm hm'
        refine qh [0] (qe (jx_then (jc_seq (jc_region (qh [0] ?_)))))
        obtain ⟨t_16, ht_2546, h⟩ := bd h
        refine tO (pc 0 (fun w hm => impl_pairsOf.calls t_5 w _ cap_21 (hm.ow 2 o_20 34 hh_25 sp_22 (fun e => (ho_24 e).1) encHd_len) (hI_26.1.symm.trans rfl) (hm.cluPass (N := []) 3 hI_26 encI64_len []) ht_2546) ?_)
        rintro w v w' hm ⟨o_2547, cap_2548, sp_2549, _, rfl, hs_2550, ho_2551, rfl, hm'⟩
        refine ⟨_, hm.app hm', jkO ?_⟩
        clear hm hm'
        refine qh [0,0] (qe (jx_then (jc_meet (fun (_ : Unit) => impl_CheckTree.k_17 i_9 = some y_2523) (fun (_ : Unit) => [(1, [], (.slice D_a list1.length D_c)), (2, [], (.slice E_a tree2.length E_c)), (6, [], (.bool false)), (7, [], (.int .i64 0)), (10, [], (.slice (o_20.map fun b => ⟨b, 0, none⟩) hh_25.length cap_21)), (41, [], (.slice E_a tree2.length E_c)), (42, [], (.int .i64 (tree2.length : Int))), (43, [], (.int .i64 i_9))]) (fun (_ : Unit) => [⟨some b_1, 27, [(.int .i16 f0.fSteps), (.slice C_a f0.fHammers.length C_c)]⟩, ⟨some b_7, 2, [(.int .i64 t_2)]⟩, ⟨o_20, 34, row encHd hh_25 sp_22⟩, ⟨none, CLU, cluC encI64 hh_25 t_5⟩, ⟨o_36, 2, row encI64 t_6 sp_38⟩, ⟨(some b_2527), 51, row encI64 x_12.1 []⟩, ⟨none, 0, []⟩, ⟨o_2535, 51, row encA2I64 t_14 sp_2537⟩, ⟨o_2541, 2, row encI64 t_15 sp_2543⟩, ⟨o_2547, 51, row encA2I64 t_16 sp_2549⟩]) ?_ ?_)))
        ·refine jc_block ?_
         obtain ⟨t_20, ht_2748, hr_2712⟩ := bd h
         refine jc_loop (fun (s : Int) (x : Unit) => match s, x with | i_18, _ => True) (fun (s : Int) (x : Unit) => match s, x with | i_18, _ => [(1, [], (.slice D_a list1.length D_c)), (2, [], (.slice E_a tree2.length E_c)), (6, [], (.bool false)), (7, [], (.int .i64 0)), (10, [], (.slice (o_20.map fun b => ⟨b, 0, none⟩) hh_25.length cap_21)), (12, [], (.pointer (some ⟨b_2527, 0, none⟩))), (13, [], (.slice (o_2541.map fun b => ⟨b, 0, none⟩) t_15.length cap_2542)), (41, [], (.slice E_a tree2.length E_c)), (42, [], (.int .i64 (tree2.length : Int))), (43, [], (.int .i64 i_9)), (58, [], (.slice (o_2547.map fun b => ⟨b, 0, none⟩) t_16.length cap_2548)), (59, [], (.int .i64 (t_16.length : Int))), (60, [], (.int .i64 i_18))]) (fun (s : Int) (x : Unit) => match s, x with | i_18, _ => [⟨some b_1, 27, [(.int .i16 f0.fSteps), (.slice C_a f0.fHammers.length C_c)]⟩, ⟨some b_7, 2, [(.int .i64 t_2)]⟩, ⟨o_20, 34, row encHd hh_25 sp_22⟩, ⟨none, CLU, cluC encI64 hh_25 t_5⟩, ⟨o_36, 2, row encI64 t_6 sp_38⟩, ⟨(some b_2527), 51, row encI64 x_12.1 []⟩, ⟨none, 0, []⟩, ⟨o_2535, 51, row encA2I64 t_14 sp_2537⟩, ⟨o_2541, 2, row encI64 t_15 sp_2543⟩, ⟨o_2547, 51, row encA2I64 t_16 sp_2549⟩]) ht_2748 () trivial (by kernel_rfl) [0, 1, 2, 3, 4, 5, 6, 7, 8, 9] (by kernel_rfl) (by kernel_rfl) ?_
         rintro i_18 _ y_2713 _ h
         rw [impl_CheckTree.l_19] at h
         refine jc_seq (jc_region (qh [0] (qe (jx_then (jc_seq (qi h (fun h => ?_) (fun h => ?_)))))))
         ·refine jc_skip (jx_then (jc_seq (jc_block (jc_seq (jc_region ?_)))))
          obtain ⟨x_21, hx_2716, h⟩ := bd h
          refine tO (qx 0 (o_2547.map fun b => ⟨b, 0, none⟩) 2 hx_2716 rfl (spo ho_2551 hx_2716) (jkO (tO (p_ldx 0 (aB (o_2547.map fun b => ⟨b, 0, none⟩)) (aO (o_2547.map fun b => ⟨b, 0, none⟩) + i_18.toNat * 2) (encA2I64 x_21) 2 (by kernel_rfl) (by kernel_rfl) (encA2I64_len x_21) (fun w hm => ((hm.ow 9 o_2547 51 t_16 sp_2549 (fun e => (ho_2551 e).1) encA2I64_len).at hx_2716)) (jkO (tO (qa 0 (fun b_2717 => jkO (tO (p_sA 0 10 b_2717 2 1 51 encI64 (Arr.rep 2 0) x_21 (by kernel_rfl) (by kernel_rfl) (by kernel_rfl) encI64_len encI64_cell (by kernel_rfl) (jkO (qe (jx_then (jc_seq (jc_meet (fun (j : Bool) => match j with | q_22 => impl_CheckTree.k_23 i_18 q_22 = some y_2713) (fun (j : Bool) => match j with | q_22 => [(1, [], (.slice D_a list1.length D_c)), (2, [], (.slice E_a tree2.length E_c)), (6, [], (.bool false)), (7, [], (.int .i64 0)), (10, [], (.slice (o_20.map fun b => ⟨b, 0, none⟩) hh_25.length cap_21)), (12, [], (.pointer (some ⟨b_2527, 0, none⟩))), (13, [], (.slice (o_2541.map fun b => ⟨b, 0, none⟩) t_15.length cap_2542)), (41, [], (.slice E_a tree2.length E_c)), (42, [], (.int .i64 (tree2.length : Int))), (43, [], (.int .i64 i_9)), (58, [], (.slice (o_2547.map fun b => ⟨b, 0, none⟩) t_16.length cap_2548)), (59, [], (.int .i64 (t_16.length : Int))), (60, [], (.int .i64 i_18)), (95, [], (.bool q_22))]) (fun (j : Bool) => match j with | q_22 => [⟨some b_1, 27, [(.int .i16 f0.fSteps), (.slice C_a f0.fHammers.length C_c)]⟩, ⟨some b_7, 2, [(.int .i64 t_2)]⟩, ⟨o_20, 34, row encHd hh_25 sp_22⟩, ⟨none, CLU, cluC encI64 hh_25 t_5⟩, ⟨o_36, 2, row encI64 t_6 sp_38⟩, ⟨(some b_2527), 51, row encI64 x_12.1 []⟩, ⟨none, 0, []⟩, ⟨o_2535, 51, row encA2I64 t_14 sp_2537⟩, ⟨o_2541, 2, row encI64 t_15 sp_2543⟩, ⟨o_2547, 51, row encA2I64 t_16 sp_2549⟩, ⟨(some b_2717), 51, row encI64 x_21.1 []⟩]) ?_ ?_)))))))))))))))
          ·refine qg [⟨some b_1, 27, [(.int .i16 f0.fSteps), (.slice C_a f0.fHammers.length C_c)]⟩, ⟨some b_7, 2, [(.int .i64 t_2)]⟩, ⟨o_20, 34, row encHd hh_25 sp_22⟩, ⟨none, CLU, cluC encI64 hh_25 t_5⟩, ⟨o_36, 2, row encI64 t_6 sp_38⟩, ⟨(some b_2527), 51, row encI64 x_12.1 []⟩, ⟨none, 0, []⟩, ⟨o_2535, 51, row encA2I64 t_14 sp_2537⟩, ⟨o_2541, 2, row encI64 t_15 sp_2543⟩, ⟨o_2547, 51, row encA2I64 t_16 sp_2549⟩, ⟨(some b_2717), 51, row encI64 x_21.1 []⟩] 32 (qd [⟨0, 0, 0⟩,⟨5, 0, 0⟩] 30 [0, 1, 2, 3, 4, 5, 6, 7, 8, 9, 10] ?_)
           obtain ⟨x_24, hx_2734, h⟩ := bd h
           refine qv 1 0 [0, 1, 2, 3, 4, 5, 6, 7, 8, 9, 10] (fun w hm => idx_run (a := (some ⟨b_2717, 0, none⟩)) (len := 2) (s := 1) (j := 0) (by kernel_rfl) (ix_some hx_2734).1 (ltn hx_2734 x_21.2) rfl) (qv 2 0 [0, 1, 2, 3, 4, 5, 6, 7, 8, 9, 10] (fun w hm => ld_run (b := aB (some ⟨b_2717, 0, none⟩)) (off := (aO (some ⟨b_2717, 0, none⟩) + (0 : Int).toNat * 1)) (s := 1) (agg := false) (vs := (encI64 x_24)) (by kernel_rfl) (by kernel_rfl) (.inr rfl) ((hm.ow 10 (some b_2717) 51 x_21.1 [] (fun e => nomatch e) encI64_len).at hx_2734)) ?_)
           obtain ⟨x_25, hx_2735, h⟩ := bd h
           refine qv 3 0 [0, 1, 2, 3, 4, 5, 6, 7, 8, 9, 10] (fun w hm => idx_run (a := (o_2541.map fun b => ⟨b, 0, none⟩)) (len := t_15.length) (s := 1) (j := x_24) (by kernel_rfl) (ix_some hx_2735).1 (ltn hx_2735 rfl) (spo ho_2545 hx_2735)) (qv 4 0 [0, 1, 2, 3, 4, 5, 6, 7, 8, 9, 10] (fun w hm => ld_run (b := aB (o_2541.map fun b => ⟨b, 0, none⟩)) (off := (aO (o_2541.map fun b => ⟨b, 0, none⟩) + x_24.toNat * 1)) (s := 1) (agg := false) (vs := (encI64 x_25)) (by kernel_rfl) (by kernel_rfl) (.inr rfl) ((hm.ow 8 o_2541 2 t_15 sp_2543 (fun e => (ho_2545 e).1) encI64_len).at hx_2735)) ?_)
           obtain ⟨x_26, hx_2736, h⟩ := bd h
           refine qv 6 0 [0, 1, 2, 3, 4, 5, 6, 7, 8, 9, 10] (fun w hm => idx_run (a := (some ⟨b_2717, 0, none⟩)) (len := 2) (s := 1) (j := 1) (by kernel_rfl) (ix_some hx_2736).1 (ltn hx_2736 x_21.2) rfl) (qv 7 0 [0, 1, 2, 3, 4, 5, 6, 7, 8, 9, 10] (fun w hm => ld_run (b := aB (some ⟨b_2717, 0, none⟩)) (off := (aO (some ⟨b_2717, 0, none⟩) + (1 : Int).toNat * 1)) (s := 1) (agg := false) (vs := (encI64 x_26)) (by kernel_rfl) (by kernel_rfl) (.inr rfl) ((hm.ow 10 (some b_2717) 51 x_21.1 [] (fun e => nomatch e) encI64_len).at hx_2736)) ?_)
           obtain ⟨x_27, hx_2737, h⟩ := bd h
           refine qv 8 0 [0, 1, 2, 3, 4, 5, 6, 7, 8, 9, 10] (fun w hm => idx_run (a := (o_2541.map fun b => ⟨b, 0, none⟩)) (len := t_15.length) (s := 1) (j := x_26) (by kernel_rfl) (ix_some hx_2737).1 (ltn hx_2737 rfl) (spo ho_2545 hx_2737)) (qv 9 0 [0, 1, 2, 3, 4, 5, 6, 7, 8, 9, 10] (fun w hm => ld_run (b := aB (o_2541.map fun b => ⟨b, 0, none⟩)) (off := (aO (o_2541.map fun b => ⟨b, 0, none⟩) + x_26.toNat * 1)) (s := 1) (agg := false) (vs := (encI64 x_27)) (by kernel_rfl) (by kernel_rfl) (.inr rfl) ((hm.ow 8 o_2541 2 t_15 sp_2543 (fun e => (ho_2545 e).1) encI64_len).at hx_2737)) (qd [⟨10, 0, 0⟩,⟨11, 0, 0⟩,⟨12, 0, 1⟩,⟨21, 0, 1⟩] 18 [0, 1, 2, 3, 4, 5, 6, 7, 8, 9, 10] (jd_split 75 (x_25 != x_27) (by kernel_rfl) (fun hc_2738 => ?_) (fun hc_2738 => ?_))))
           ·replace h := ifT hc_2738 h
            obtain ⟨x_28, hx_2739, h⟩ := bd h
            refine qv 13 2 [0, 1, 2, 3, 4, 5, 6, 7, 8, 9, 10] (fun w hm => idx_run (a := (some ⟨b_2717, 0, none⟩)) (len := 2) (s := 1) (j := 0) (by kernel_rfl) (ix_some hx_2739).1 (ltn hx_2739 x_21.2) rfl) (qv 14 2 [0, 1, 2, 3, 4, 5, 6, 7, 8, 9, 10] (fun w hm => ld_run (b := aB (some ⟨b_2717, 0, none⟩)) (off := (aO (some ⟨b_2717, 0, none⟩) + (0 : Int).toNat * 1)) (s := 1) (agg := false) (vs := (encI64 x_28)) (by kernel_rfl) (by kernel_rfl) (.inr rfl) ((hm.ow 10 (some b_2717) 51 x_21.1 [] (fun e => nomatch e) encI64_len).at hx_2739)) ?_)
            obtain ⟨x_29, hx_2740, h⟩ := bd h
            refine qv 15 2 [0, 1, 2, 3, 4, 5, 6, 7, 8, 9, 10] (fun w hm => idx_run (a := (o_20.map fun b => ⟨b, 0, none⟩)) (len := hh_25.length) (s := 1) (j := x_28) (by kernel_rfl) (ix_some hx_2740).1 (ltn hx_2740 (hI_26.1.symm.trans rfl)) (spo ho_24 (hI_26.ixh hx_2740))) (qv 16 2 [0, 1, 2, 3, 4, 5, 6, 7, 8, 9, 10] (fun w hm => ld_run (b := aB (o_20.map fun b => ⟨b, 0, none⟩)) (off := (aO (o_20.map fun b => ⟨b, 0, none⟩) + x_28.toNat * 1)) (s := 1) (agg := false) (vs := encHd (hd hh_25 x_28)) (by kernel_rfl) (by kernel_rfl) (.inr rfl) ((hm.ow 2 o_20 34 hh_25 sp_22 (fun e => (ho_24 e).1) encHd_len).at (hI_26.ixh hx_2740))) ?_)
            obtain ⟨x_30, hx_2741, h⟩ := bd h
            refine qv 17 2 [0, 1, 2, 3, 4, 5, 6, 7, 8, 9, 10] (fun w hm => idx_run (a := (some ⟨b_2717, 0, none⟩)) (len := 2) (s := 1) (j := 1) (by kernel_rfl) (ix_some hx_2741).1 (ltn hx_2741 x_21.2) rfl) (qv 18 2 [0, 1, 2, 3, 4, 5, 6, 7, 8, 9, 10] (fun w hm => ld_run (b := aB (some ⟨b_2717, 0, none⟩)) (off := (aO (some ⟨b_2717, 0, none⟩) + (1 : Int).toNat * 1)) (s := 1) (agg := false) (vs := (encI64 x_30)) (by kernel_rfl) (by kernel_rfl) (.inr rfl) ((hm.ow 10 (some b_2717) 51 x_21.1 [] (fun e => nomatch e) encI64_len).at hx_2741)) ?_)
            obtain ⟨x_31, hx_2742, h⟩ := bd h
            refine qv 19 2 [0, 1, 2, 3, 4, 5, 6, 7, 8, 9, 10] (fun w hm => idx_run (a := (hd hh_25 x_28).a) (len := ((hd hh_25 x_28).n)) (s := 1) (j := x_30) (by kernel_rfl) (ix_some hx_2742).1 (ltn hx_2742 (hI_26.get hx_2740).1) (hI_26.sp hx_2740 hx_2742)) (qv 20 2 [0, 1, 2, 3, 4, 5, 6, 7, 8, 9, 10] (fun w hm => ld_run (b := aB (hd hh_25 x_28).a) (off := (aO (hd hh_25 x_28).a + x_30.toNat * 1)) (s := 1) (agg := false) (vs := (encI64 x_31)) (by kernel_rfl) (by kernel_rfl) (.inr rfl) (((hm.cluInn 3 hI_26 encI64_len).get hx_2740).1.at hx_2742)) ?_)
            obtain ⟨x_32, hx_2743, h⟩ := bd h
            refine qv 22 2 [0, 1, 2, 3, 4, 5, 6, 7, 8, 9, 10] (fun w hm => idx_run (a := (some ⟨b_2527, 0, none⟩)) (len := 2) (s := 1) (j := 0) (by kernel_rfl) (ix_some hx_2743).1 (ltn hx_2743 x_12.2) rfl) (qv 23 2 [0, 1, 2, 3, 4, 5, 6, 7, 8, 9, 10] (fun w hm => ld_run (b := aB (some ⟨b_2527, 0, none⟩)) (off := (aO (some ⟨b_2527, 0, none⟩) + (0 : Int).toNat * 1)) (s := 1) (agg := false) (vs := (encI64 x_32)) (by kernel_rfl) (by kernel_rfl) (.inr rfl) ((hm.ow 5 (some b_2527) 51 x_12.1 [] (fun e => nomatch e) encI64_len).at hx_2743)) ?_)
            obtain ⟨x_33, hx_2744, h⟩ := bd h
            refine qv 24 2 [0, 1, 2, 3, 4, 5, 6, 7, 8, 9, 10] (fun w hm => idx_run (a := (o_20.map fun b => ⟨b, 0, none⟩)) (len := hh_25.length) (s := 1) (j := x_32) (by kernel_rfl) (ix_some hx_2744).1 (ltn hx_2744 (hI_26.1.symm.trans rfl)) (spo ho_24 (hI_26.ixh hx_2744))) (qv 25 2 [0, 1, 2, 3, 4, 5, 6, 7, 8, 9, 10] (fun w hm => ld_run (b := aB (o_20.map fun b => ⟨b, 0, none⟩)) (off := (aO (o_20.map fun b => ⟨b, 0, none⟩) + x_32.toNat * 1)) (s := 1) (agg := false) (vs := encHd (hd hh_25 x_32)) (by kernel_rfl) (by kernel_rfl) (.inr rfl) ((hm.ow 2 o_20 34 hh_25 sp_22 (fun e => (ho_24 e).1) encHd_len).at (hI_26.ixh hx_2744))) ?_)
            obtain ⟨x_34, hx_2745, h⟩ := bd h
            refine qv 26 2 [0, 1, 2, 3, 4, 5, 6, 7, 8, 9, 10] (fun w hm => idx_run (a := (some ⟨b_2527, 0, none⟩)) (len := 2) (s := 1) (j := 1) (by kernel_rfl) (ix_some hx_2745).1 (ltn hx_2745 x_12.2) rfl) (qv 27 2 [0, 1, 2, 3, 4, 5, 6, 7, 8, 9, 10] (fun w hm => ld_run (b := aB (some ⟨b_2527, 0, none⟩)) (off := (aO (some ⟨b_2527, 0, none⟩) + (1 : Int).toNat * 1)) (s := 1) (agg := false) (vs := (encI64 x_34)) (by kernel_rfl) (by kernel_rfl) (.inr rfl) ((hm.ow 5 (some b_2527) 51 x_12.1 [] (fun e => nomatch e) encI64_len).at hx_2745)) ?_)
            obtain ⟨x_35, hx_2746, h⟩ := bd h
            exact qv 28 2 [0, 1, 2, 3, 4, 5, 6, 7, 8, 9, 10] (fun w hm => idx_run (a := (hd hh_25 x_32).a) (len := ((hd hh_25 x_32).n)) (s := 1) (j := x_34) (by kernel_rfl) (ix_some hx_2746).1 (ltn hx_2746 (hI_26.get hx_2744).1) (hI_26.sp hx_2744 hx_2746)) (qv 29 2 [0, 1, 2, 3, 4, 5, 6, 7, 8, 9, 10] (fun w hm => ld_run (b := aB (hd hh_25 x_32).a) (off := (aO (hd hh_25 x_32).a + x_34.toNat * 1)) (s := 1) (agg := false) (vs := (encI64 x_35)) (by kernel_rfl) (by kernel_rfl) (.inr rfl) (((hm.cluInn 3 hI_26 encI64_len).get hx_2744).1.at hx_2746)) (qd [⟨30, 0, 2⟩,⟨31, 0, 4⟩] 0 [0, 1, 2, 3, 4, 5, 6, 7, 8, 9, 10] (qz (qm (decide (x_31 < x_35)) h [0, 1, 2, 3, 4, 5, 6, 7, 8, 9, 10]))))
           ·replace h := ifF hc_2738 h
            exact qd [⟨13, 0, 3⟩,⟨14, 0, 3⟩,⟨15, 0, 3⟩,⟨16, 0, 3⟩,⟨17, 0, 3⟩,⟨18, 0, 3⟩,⟨19, 0, 3⟩,⟨20, 0, 3⟩,⟨22, 0, 3⟩,⟨23, 0, 3⟩,⟨24, 0, 3⟩,⟨25, 0, 3⟩,⟨26, 0, 3⟩,⟨27, 0, 3⟩,⟨28, 0, 3⟩,⟨29, 0, 3⟩,⟨30, 0, 3⟩,⟨31, 0, 5⟩] 0 [0, 1, 2, 3, 4, 5, 6, 7, 8, 9, 10] (qz (qm false h [0, 1, 2, 3, 4, 5, 6, 7, 8, 9, 10]))
          ·rintro q_22 h
           replace h : impl_CheckTree.k_23 i_18 q_22 = some y_2713 := h
           rw [impl_CheckTree.k_23] at h
           refine jx_then (qi h (fun h => ?_) (fun h => ?_))
           ·refine jc_seq (jc_region (qh [0,0] (qe (jx_then (jc_ret (jx_inr (jx_thenr (jx_leaver (.inl (false, 0)) (Option.some.inj h).symm (fun e_2733 => ?_)))))))))
            subst e_2733
            refine jx_inr (jx_thenr (jx_inr (jx_thenr (jx_leaver (.inl (false, 0)) (Option.some.inj hr_2712).symm (fun e_2732 => ?_)))))
            subst e_2732
            refine jx_inr (jx_thenr (jx_thenr ?_))
            obtain rfl := Option.some.inj hr_2522
            exact qr [] (fun w hm => ⟨rfl, hm.pk []⟩)
           ·exact jc_skip (jx_inn (jx_then (jc_region (qh [0,0] (qe (qb (w64 (i_18 + 1)) () h trivial [0, 1, 2, 3, 4, 5, 6, 7, 8, 9]))))))
         ·refine jc_exit (jx_thenx (jx_leave (.inr ()) (Option.some.inj h).symm (fun e_2747 => ?_)))
          subst e_2747
          exact jx_ine (qm () hr_2712 [0, 1, 2, 3, 4, 5, 6, 7, 8, 9])
        ·rintro _ h
         replace h : impl_CheckTree.k_17 i_9 = some y_2523 := h
         rw [impl_CheckTree.k_17] at h
         exact jx_inn (jx_then (jc_region (qh [0,0] (qe (qb (w64 (i_9 + 1)) () h trivial [0, 1, 2, 3, 4])))))
       ·refine jc_exit (jx_thenx (jx_leave (.inr ()) (Option.some.inj h).symm (fun e_2749 => ?_)))
        subst e_2749
        exact jx_ine (qm () hr_2522 [0, 1, 2, 3, 4])
      ·rintro _ h
       replace h : impl_CheckTree.k_8 = some r := h
       rw [impl_CheckTree.k_8] at h
       refine jx_then (jc_seq (jc_region (qh [0,0] (qe (jx_then (jc_ret ?_))))))
       obtain rfl := Option.some.inj h
       exact qr [] (fun w hm => ⟨rfl, hm.pk []⟩)
/-! ### laws.FnOrders -/
def laws_FnOrders.k_33 (t_3 : (List (Arr 96 Int))) (t_5 : (List (List Int)) × Int) (t_9 : (List Int) × Int × Int) (t_14 : (List Int)) (t_15 : Int × Int) (i_32 : Int) : Option (Bool) := (ix t_14 (w64 ((t_3.length : Int) - 1))).bind fun x_34 => (ix t_5.1 x_34).bind fun x_35 => (ix t_14 0).bind fun x_36 => (ix x_35 x_36).bind fun x_37 => some ((i_32 == t_9.2.1) && (decide ((w64 (t_15.1 + x_37)) ≥ t_9.2.1)))
def laws_FnOrders.l_40 (t_3 : (List (Arr 96 Int))) (t_5 : (List (List Int)) × Int) (t_9 : (List Int) × Int × Int) : (Int × Int) → Option ((Int × Int) ⊕ (Int))
  | (i_38, i_39) => (if (decide (i_39 < (t_3.length : Int))) = true then (ix t_9.1 (w64 (i_39 - 1))).bind fun x_42 => (ix t_5.1 x_42).bind fun x_43 => (ix t_9.1 i_39).bind fun x_44 => (ix x_43 x_44).bind fun x_45 => some (.inl ((w64 (i_38 + x_45)), (w64 (i_39 + 1)))) else some (.inr i_38))
def laws_FnOrders.k_28 (t_3 : (List (Arr 96 Int))) (t_5 : (List (List Int)) × Int) (t_9 : (List Int) × Int × Int) (t_11 : (List (Arr 2 Int)) × Int × Int) (t_14 : (List Int)) (t_15 : Int × Int) (i_27 : Int) : Option (Bool) := (if (i_27 != t_11.2.1) = true then some false else (ix t_9.1 (w64 ((t_3.length : Int) - 1))).bind fun x_29 => (ix t_5.1 x_29).bind fun x_30 => (ix x_30 0).bind fun x_31 => (loop (laws_FnOrders.l_40 t_3 t_5 t_9) (x_31, 1)).bind fun t_41 => laws_FnOrders.k_33 t_3 t_5 t_9 t_14 t_15 t_41)
def laws_FnOrders.k_51 (t_5 : (List (List Int)) × Int) (t_11 : (List (Arr 2 Int)) × Int × Int) (i_46 : Int) (i_47 : Int) (q_50 : Bool) : Option ((Int × Int) ⊕ (Bool ⊕ Int)) := (if q_50 = true then some (.inr (.inl false)) else (ix t_11.1 i_47).bind fun x_52 => (ix x_52.1 0).bind fun x_53 => (ix t_5.1 x_53).bind fun x_54 => (ix t_11.1 i_47).bind fun x_55 => (ix x_55.1 1).bind fun x_56 => (ix x_54 x_56).bind fun x_57 => some (.inl ((w64 (i_46 + x_57)), (w64 (i_47 + 1)))))
def laws_FnOrders.l_48 (t_3 : (List (Arr 96 Int))) (t_5 : (List (List Int)) × Int) (t_11 : (List (Arr 2 Int)) × Int × Int) : (Int × Int) → Option ((Int × Int) ⊕ (Bool ⊕ Int))
  | (i_46, i_47) => (if (decide (i_47 < (t_11.1.length : Int))) = true then (ix t_11.1 i_47).bind fun x_58 => (ix x_58.1 0).bind fun x_59 => (if (decide (x_59 < 0)) = true then laws_FnOrders.k_51 t_5 t_11 i_46 i_47 true else (ix t_11.1 i_47).bind fun x_60 => (ix x_60.1 1).bind fun x_61 => (if (decide (x_61 ≥ (t_3.length : Int))) = true then laws_FnOrders.k_51 t_5 t_11 i_46 i_47 true else (ix t_11.1 i_47).bind fun x_62 => (ix x_62.1 0).bind fun x_63 => (ix t_11.1 i_47).bind fun x_64 => (ix x_64.1 1).bind fun x_65 => laws_FnOrders.k_51 t_5 t_11 i_46 i_47 (decide (x_63 ≥ x_65)))) else some (.inr (.inr i_46)))
def laws_FnOrders.k_26 (t_3 : (List (Arr 96 Int))) (t_5 : (List (List Int)) × Int) (t_9 : (List Int) × Int × Int) (t_11 : (List (Arr 2 Int)) × Int × Int) (t_14 : (List Int)) (t_15 : Int × Int) (q_25 : Bool) : Option (Bool) := (if q_25 = true then some false else (loop (laws_FnOrders.l_48 t_3 t_5 t_11) (0, 0)).bind fun t_49 => match t_49 with | .inl p => some p | .inr p => laws_FnOrders.k_28 t_3 t_5 t_9 t_11 t_14 t_15 p)
def laws_FnOrders.k_13 (code0 : List Int) (more1 : List Int) (t_2 : GFrame) (t_3 : (List (Arr 96 Int))) (t_5 : (List (List Int)) × Int) (t_6 : (List Int) × Int × Int) (t_7 : (List Int) × Int × Int) (t_9 : (List Int) × Int × Int) (t_11 : (List (Arr 2 Int)) × Int × Int) (q_12 : Bool) : Option (Bool) := (if q_12 = true then some false else (if ((t_3.length : Int) == 0) = true then some (t_6.2.2 == 6) else (spec_A2Order code0 (t_3.length : Int)).bind fun t_14 => (impl_OrderCost t_2 t_3 t_14).bind fun t_15 => (impl_OrderCost t_2 t_3 t_7.1).bind fun t_16 => (laws_a2At more1 0 (t_3.length : Int)).bind fun t_17 => (impl_BestOrder t_2 t_3 t_17).bind fun t_18 => (spec_BestOrder t_2 t_3 t_17).bind fun t_19 => (impl_NearestOrder t_2 t_3 t_17).bind fun t_20 => (spec_NearestOrder t_2 t_3 t_17).bind fun t_21 => (impl_CheckOrder t_2 t_3 t_7.1 t_7.2.1).bind fun t_22 => (impl_CheckOrder t_2 t_3 t_7.1 (w64 (t_7.2.1 - 1))).bind fun t_23 => (impl_CheckTree t_2 t_3 t_11.1).bind fun t_24 => (if (((((((((t_6.2.2 != 0) || (t_15.2 != 0)) || (decide (t_15.1 < t_7.2.1))) || (t_16.2 != 0)) || (t_16.1 != t_7.2.1)) || (decide (t_11.2.1 > t_7.2.1))) || (decide (t_9.2.1 < t_7.2.1))) || (t_18.2.2 != t_19.2.2)) || (t_18.2.2 != 0)) = true then laws_FnOrders.k_26 t_3 t_5 t_9 t_11 t_14 t_15 true else (spec_A2Same t_18.1 t_19.1).bind fun t_66 => (if ((((!t_66) || (t_18.2.1 != t_19.2.1)) || (decide (t_19.2.1 < t_7.2.1))) || ((t_19.1.length : Int) != (t_3.length : Int))) = true then laws_FnOrders.k_26 t_3 t_5 t_9 t_11 t_14 t_15 true else (ix t_19.1 0).bind fun x_67 => (if (((x_67 != t_17) || (t_20.2.2 != t_21.2.2)) || (t_20.2.2 != 0)) = true then laws_FnOrders.k_26 t_3 t_5 t_9 t_11 t_14 t_15 true else (spec_A2Same t_20.1 t_21.1).bind fun t_68 => (if (((((((((((!t_68) || (t_20.2.1 != t_21.2.1)) || (decide (t_21.2.1 < t_19.2.1))) || (t_22.2 != 0)) || (!t_22.1)) || (t_23.2 != 0)) || t_23.1) || (t_24.2 != 0)) || (!t_24.1)) || ((t_11.1.length : Int) != (w64 ((t_3.length : Int) - 1)))) || ((t_9.1.length : Int) != (t_3.length : Int))) = true then laws_FnOrders.k_26 t_3 t_5 t_9 t_11 t_14 t_15 true else (ix t_9.1 0).bind fun x_69 => laws_FnOrders.k_26 t_3 t_5 t_9 t_11 t_14 t_15 (x_69 != 0)))))))
def laws_FnOrders (code0 : List Int) (more1 : List Int) : Option (Bool) := (laws_a2Long code0 more1).bind fun t_1 => (if t_1 = true then some true else (spec_A2Frame code0).bind fun t_2 => (spec_A2Drums more1 t_2).bind fun t_3 => (impl_CostTable t_2 t_3).bind fun t_4 => (spec_CostTable t_2 t_3).bind fun t_5 => (impl_BestOrder t_2 t_3 (-1)).bind fun t_6 => (spec_BestOrder t_2 t_3 (-1)).bind fun t_7 => (impl_BestCircle t_2 t_3).bind fun t_8 => (spec_BestCircle t_2 t_3).bind fun t_9 => (impl_TreeOf t_2 t_3).bind fun t_10 => (spec_TreeOf t_2 t_3).bind fun t_11 => (if ((t_4.2 != t_5.2) || (t_4.2 != 0)) = true then laws_FnOrders.k_13 code0 more1 t_2 t_3 t_5 t_6 t_7 t_9 t_11 true else (spec_A2SameTable t_4.1 t_5.1).bind fun t_70 => (if ((!t_70) || (t_6.2.2 != t_7.2.2)) = true then laws_FnOrders.k_13 code0 more1 t_2 t_3 t_5 t_6 t_7 t_9 t_11 true else (spec_A2Same t_6.1 t_7.1).bind fun t_71 => (if (((!t_71) || (t_6.2.1 != t_7.2.1)) || (t_8.2.2 != t_9.2.2)) = true then laws_FnOrders.k_13 code0 more1 t_2 t_3 t_5 t_6 t_7 t_9 t_11 true else (spec_A2Same t_8.1 t_9.1).bind fun t_72 => (if (((!t_72) || (t_8.2.1 != t_9.2.1)) || (t_10.2.2 != t_11.2.2)) = true then laws_FnOrders.k_13 code0 more1 t_2 t_3 t_5 t_6 t_7 t_9 t_11 true else (spec_A2SamePairs t_10.1 t_11.1).bind fun t_73 => laws_FnOrders.k_13 code0 more1 t_2 t_3 t_5 t_6 t_7 t_9 t_11 ((((!t_73) || (t_10.2.1 != t_11.2.1)) || (t_8.2.2 != t_6.2.2)) || (t_10.2.2 != t_6.2.2)))))))
set_option maxHeartbeats 8000000 in
theorem laws_FnOrders.calls (code0 : List Int) (more1 : List Int) (w : World) (r : Bool) {A_a : Option Addr} {A_an : Nat} (A_c : Nat) (A_h : Rw w A_a 1 encU8 code0) (A_hn : code0.length = A_an) {B_a : Option Addr} {B_an : Nat} (B_c : Nat) (B_h : Rw w B_a 1 encU8 more1) (B_hn : more1.length = B_an) (h : laws_FnOrders code0 more1 = some r) :
    Calls Try.prog 3 #[(.slice A_a A_an A_c), (.slice B_a B_an B_c)] w fun e w' => ∃ v, e = .returned v ∧ (v = (.bool r) ∧ Mem w [] [] w') := by
  subst A_hn B_hn
  rw [laws_FnOrders] at h
  refine enter (args := [(.slice A_a code0.length A_c), (.slice B_a more1.length B_c)]) Try.func3 rfl Try.ntmps3 (by kernel_rfl) (L := []) (W := []) (Mem.start w) ?_
  refine jc_seq (jc_region (qh [0] (qe (jx_then (jc_seq (jc_seq (jc_region (qh [0,0] ?_))))))))
  obtain ⟨t_1, ht_3, h⟩ := bd h
  refine tO (pc 0 (fun w hm => laws_a2Long.calls code0 more1 w _ A_c (hm.xr A_h) rfl B_c (hm.xr B_h) rfl ht_3) ?_)
  rintro w v w' hm ⟨rfl, hm'⟩
  refine ⟨_, hm.app hm', jkO ?_⟩
  clear hm hm'
  refine qe (jx_then (qi h (fun h => ?_) (fun h => ?_)))
  ·refine jc_seq (jc_region (qh [0] (qe (jx_then (jc_ret (jx_thenr ?_))))))
   obtain rfl := Option.some.inj h
   exact qr [] (fun w hm => ⟨rfl, hm.pk []⟩)
  ·refine jc_skip (jx_then (jc_seq (jc_region (qh [0] ?_))))
   obtain ⟨t_2, ht_5, h⟩ := bd h
   refine tO (pc 0 (fun w hm => spec_A2Frame.calls code0 w _ A_c (hm.xr A_h) rfl ht_5) ?_)
   rintro w v w' hm ⟨o_6, cap_7, sp_8, _, rfl, hs_9, ho_10, rfl, hm'⟩
   refine ⟨_, hm.app hm', jkO ?_⟩
   clear hm hm'
   refine tO (qa 0 (fun b_11 => jkO (tO (qs 0 [1] (jkO (qe (jx_then (jc_seq (jc_region (qh [0,1] ?_))))))))))
   obtain ⟨t_3, ht_12, h⟩ := bd h
   refine tO (pc 0 (fun w hm => spec_A2Drums.calls more1 t_2 w _ B_c (hm.xr B_h) rfl cap_7 (hm.ow 0 o_6 92 t_2.fHammers sp_8 (fun e => (ho_10 e).1) encGHammer_len) rfl ht_12) ?_)
   rintro w v w' hm ⟨o_13, cap_14, sp_15, _, rfl, hs_16, ho_17, rfl, hm'⟩
   refine ⟨_, hm.app hm', jkO ?_⟩
   clear hm hm'
   refine qh [0] (qe (jx_then (jc_seq (jc_region (qh [0,0,0] (qe (jx_then (jc_seq (jc_region (qh [1,0] ?_))))))))))
   obtain ⟨t_4, ht_18, h⟩ := bd h
   refine tO (pc 0 (fun w hm => impl_CostTable.calls t_2 t_3 w _ cap_7 (hm.ow 0 o_6 92 t_2.fHammers sp_8 (fun e => (ho_10 e).1) encGHammer_len) rfl cap_14 (hm.ow 2 o_13 58 t_3 sp_15 (fun e => (ho_17 e).1) encA96U32_len) rfl ht_18) ?_)
   rintro w v w' hm ⟨o_19, cap_20, sp_21, _, hh_24, hI_25, rfl, hs_22, ho_23, rfl, hm'⟩
   refine ⟨_, hm.app hm', jkO ?_⟩
   clear hm hm'
   refine qh [0,0,0,0,0] (qe (jx_then (jc_seq (jc_region (qh [1,0] ?_)))))
   obtain ⟨t_5, ht_26, h⟩ := bd h
   refine tO (pc 0 (fun w hm => spec_CostTable.calls t_2 t_3 w _ cap_7 (hm.ow 0 o_6 92 t_2.fHammers sp_8 (fun e => (ho_10 e).1) encGHammer_len) rfl cap_14 (hm.ow 2 o_13 58 t_3 sp_15 (fun e => (ho_17 e).1) encA96U32_len) rfl ht_26) ?_)
   rintro w v w' hm ⟨o_27, cap_28, sp_29, _, hh_32, hI_33, rfl, hs_30, ho_31, rfl, hm'⟩
   refine ⟨_, hm.app hm', jkO ?_⟩
   clear hm hm'
   refine qh [0,0,0,0,0] (qe (jx_then (jc_seq (jc_region (qh [1,0] ?_)))))
   obtain ⟨t_6, ht_34, h⟩ := bd h
   refine tO (pc 0 (fun w hm => impl_BestOrder.calls t_2 t_3 (-1) w _ cap_7 (hm.ow 0 o_6 92 t_2.fHammers sp_8 (fun e => (ho_10 e).1) encGHammer_len) rfl cap_14 (hm.ow 2 o_13 58 t_3 sp_15 (fun e => (ho_17 e).1) encA96U32_len) rfl ht_34) ?_)
   rintro w v w' hm ⟨o_35, cap_36, sp_37, _, rfl, hs_38, ho_39, rfl, hm'⟩
   refine ⟨_, hm.app hm', jkO ?_⟩
   clear hm hm'
   refine qh [0,0,0,0,0,0,0] (qe (jx_then (jc_seq (jc_region (qh [1,0] ?_)))))
   obtain ⟨t_7, ht_40, h⟩ := bd h
   refine tO (pc 0 (fun w hm => spec_BestOrder.calls t_2 t_3 (-1) w _ cap_7 (hm.ow 0 o_6 92 t_2.fHammers sp_8 (fun e => (ho_10 e).1) encGHammer_len) rfl cap_14 (hm.ow 2 o_13 58 t_3 sp_15 (fun e => (ho_17 e).1) encA96U32_len) rfl ht_40) ?_)
   rintro w v w' hm ⟨o_41, cap_42, sp_43, _, rfl, hs_44, ho_45, rfl, hm'⟩
   refine ⟨_, hm.app hm', jkO ?_⟩
   clear hm hm'
   refine qh [0,0,0,0,0,0,0] (qe (jx_then (jc_seq (jc_region (qh [1,0] ?_)))))
   obtain ⟨t_8, ht_46, h⟩ := bd h
   refine tO (pc 0 (fun w hm => impl_BestCircle.calls t_2 t_3 w _ cap_7 (hm.ow 0 o_6 92 t_2.fHammers sp_8 (fun e => (ho_10 e).1) encGHammer_len) rfl cap_14 (hm.ow 2 o_13 58 t_3 sp_15 (fun e => (ho_17 e).1) encA96U32_len) rfl ht_46) ?_)
   rintro w v w' hm ⟨o_47, cap_48, sp_49, _, rfl, hs_50, ho_51, rfl, hm'⟩
   refine ⟨_, hm.app hm', jkO ?_⟩
   clear hm hm'
   refine qh [0,0,0,0,0,0,0] (qe (jx_then (jc_seq (jc_region (qh [1,0] ?_)))))
   obtain ⟨t_9, ht_52, h⟩ := bd h
   refine tO (pc 0 (fun w hm => spec_BestCircle.calls t_2 t_3 w _ cap_7 (hm.ow 0 o_6 92 t_2.fHammers sp_8 (fun e => (ho_10 e).1) encGHammer_len) rfl cap_14 (hm.ow 2 o_13 58 t_3 sp_15 (fun e => (ho_17 e).1) encA96U32_len) rfl ht_52) ?_)
   rintro w v w' hm ⟨o_53, cap_54, sp_55, _, rfl, hs_56, ho_57, rfl, hm'⟩
   refine ⟨_, hm.app hm', jkO ?_⟩
   clear hm hm'
   refine qh [0,0,0,0,0,0,0] (qe (jx_then (jc_seq (jc_region (qh [1,0] ?_)))))
   obtain ⟨t_10, ht_58, h⟩ := bd h
   refine tO (pc 0 (fun w hm => impl_TreeOf.calls t_2 t_3 w _ cap_7 (hm.ow 0 o_6 92 t_2.fHammers sp_8 (fun e => (ho_10 e).1) encGHammer_len) rfl cap_14 (hm.ow 2 o_13 58 t_3 sp_15 (fun e => (ho_17 e).1) encA96U32_len) rfl ht_58) ?_)
   rintro w v w' hm ⟨o_59, cap_60, sp_61, _, rfl, hs_62, ho_63, rfl, hm'⟩
   refine ⟨_, hm.app hm', jkO ?_⟩
   clear hm hm'
   refine qh [0,0,0,0,0,0,0] (qe (jx_then (jc_seq (jc_region (qh [1,0] ?_)))))
   obtain ⟨t_11, ht_64, h⟩ := bd h
   refine tO (pc 0 (fun w hm => spec_TreeOf.calls t_2 t_3 w _ cap_7 (hm.ow 0 o_6 92 t_2.fHammers sp_8 (fun e => (ho_10 e).1) encGHammer_len) rfl cap_14 (hm.ow 2 o_13 58 t_3 sp_15 (fun e => (ho_17 e).1) encA96U32_len) rfl ht_64) ?_)
   rintro w v w' hm ⟨o_65, cap_66, sp_67, _, rfl, hs_68, ho_69, rfl, hm'⟩
   refine ⟨_, hm.app hm', jkO ?_⟩
   clear hm hm'
   refine qh [0,0,0,0,0,0,0] (qe (jx_then (jc_seq (jc_seq (jc_meet (fun (j : Bool) => match j with | q_12 => laws_FnOrders.k_13 code0 more1 t_2 t_3 t_5 t_6 t_7 t_9 t_11 q_12 = some r) (fun (j : Bool) => match j with | q_12 => [(0, [], (.slice A_a code0.length A_c)), (1, [], (.slice B_a more1.length B_c)), (4, [], (.bool false)), (5, [], (.pointer (some ⟨b_11, 0, none⟩))), (6, [], (.slice (o_13.map fun b => ⟨b, 0, none⟩) t_3.length cap_14)), (7, [], (.int .i64 (t_3.length : Int))), (10, [], (.slice (o_27.map fun b => ⟨b, 0, none⟩) hh_32.length cap_28)), (14, [], (.int .i64 t_6.2.2)), (15, [], (.slice (o_41.map fun b => ⟨b, 0, none⟩) t_7.1.length cap_42)), (16, [], (.int .i64 t_7.2.1)), (21, [], (.slice (o_53.map fun b => ⟨b, 0, none⟩) t_9.1.length cap_54)), (22, [], (.int .i64 t_9.2.1)), (27, [], (.slice (o_65.map fun b => ⟨b, 0, none⟩) t_11.1.length cap_66)), (28, [], (.int .i64 t_11.2.1)), (193, [], (.bool q_12))]) (fun (j : Bool) => match j with | q_12 => [⟨o_6, 92, row encGHammer t_2.fHammers sp_8⟩, ⟨some b_11, 27, [(.int .i16 t_2.fSteps), (.slice (o_6.map fun b => ⟨b, 0, none⟩) t_2.fHammers.length cap_7)]⟩, ⟨o_13, 58, row encA96U32 t_3 sp_15⟩, ⟨o_19, 34, row encHd hh_24 sp_21⟩, ⟨none, CLU, cluC encI64 hh_24 t_4.1⟩, ⟨o_27, 34, row encHd hh_32 sp_29⟩, ⟨none, CLU, cluC encI64 hh_32 t_5.1⟩, ⟨o_35, 2, row encI64 t_6.1 sp_37⟩, ⟨o_41, 2, row encI64 t_7.1 sp_43⟩, ⟨o_47, 2, row encI64 t_8.1 sp_49⟩, ⟨o_53, 2, row encI64 t_9.1 sp_55⟩, ⟨o_59, 51, row encA2I64 t_10.1 sp_61⟩, ⟨o_65, 51, row encA2I64 t_11.1 sp_67⟩]) ?_ ?_)))))
   ·refine jc_region (qf [(0, 0), (0, 0), (0, 0), (0, 0), (0, 1), (0, 1), (0, 0), (0, 0), (0, 1), (0, 1)] (qp 130 h (fun h => ?_) (fun h => ?_)))
    ·exact qf [(0, 3), (0, 3), (0, 4), (0, 0), (0, 3), (0, 3), (0, 3), (0, 4), (0, 0), (0, 3), (0, 3), (0, 3), (0, 3), (0, 4), (0, 0), (0, 3), (0, 3), (0, 3), (0, 4), (0, 0), (0, 3), (0, 3), (0, 3), (0, 4), (0, 0), (0, 3), (0, 3), (0, 3), (0, 3), (0, 4), (0, 0), (0, 3), (0, 3), (0, 3), (0, 4), (0, 0), (0, 3), (0, 3), (0, 3), (0, 4), (0, 0), (0, 3), (0, 3), (0, 3), (0, 3), (0, 4), (0, 0), (0, 3), (0, 3), (0, 3), (0, 4), (0, 0), (0, 3), (0, 3), (0, 3), (0, 4), (0, 0), (0, 3), (0, 3), (0, 3), (0, 4)] (qe (qm true h [0, 1, 2, 3, 4, 5, 6, 7, 8, 9, 10, 11, 12]))
    ·obtain ⟨t_70, ht_886, h⟩ := bd h
     refine tO (pc 2 (fun w hm => spec_A2SameTable.calls t_4.1 t_5.1 w _ cap_20 (hm.ow 3 o_19 34 hh_24 sp_21 (fun e => (ho_23 e).1) encHd_len) (hI_25.1.symm.trans rfl) (hm.cluPass (N := []) 4 hI_25 encI64_len []) cap_28 (hm.ow 5 o_27 34 hh_32 sp_29 (fun e => (ho_31 e).1) encHd_len) (hI_33.1.symm.trans rfl) (hm.cluPass (N := []) 6 hI_33 encI64_len []) ht_886) ?_)
     rintro w v w' hm ⟨rfl, hm'⟩
     refine ⟨_, hm.app hm', jkO ?_⟩
     clear hm hm'
     refine qf [(0, 2), (0, 5), (0, 0), (0, 1), (0, 1), (0, 1), (0, 0), (0, 0), (0, 1), (0, 1)] (qp 141 h (fun h => ?_) (fun h => ?_))
     ·exact qf [(0, 3), (0, 3), (0, 4), (0, 0), (0, 3), (0, 3), (0, 3), (0, 4), (0, 0), (0, 3), (0, 3), (0, 3), (0, 4), (0, 0), (0, 3), (0, 3), (0, 3), (0, 3), (0, 4), (0, 0), (0, 3), (0, 3), (0, 3), (0, 4), (0, 0), (0, 3), (0, 3), (0, 3), (0, 4), (0, 0), (0, 3), (0, 3), (0, 3), (0, 3), (0, 4), (0, 0), (0, 3), (0, 3), (0, 3), (0, 4), (0, 0), (0, 3), (0, 3), (0, 3), (0, 4), (0, 0), (0, 3), (0, 3), (0, 3), (0, 4)] (qe (qm true h [0, 1, 2, 3, 4, 5, 6, 7, 8, 9, 10, 11, 12]))
     ·obtain ⟨t_71, ht_888, h⟩ := bd h
      refine tO (pc 2 (fun w hm => spec_A2Same.calls t_6.1 t_7.1 w _ cap_36 (hm.ow 7 o_35 2 t_6.1 sp_37 (fun e => (ho_39 e).1) encI64_len) rfl cap_42 (hm.ow 8 o_41 2 t_7.1 sp_43 (fun e => (ho_45 e).1) encI64_len) rfl ht_888) ?_)
      rintro w v w' hm ⟨rfl, hm'⟩
      refine ⟨_, hm.app hm', jkO ?_⟩
      clear hm hm'
      refine qf [(0, 2), (0, 5), (0, 0), (0, 1), (0, 1), (0, 1), (0, 0), (0, 0), (0, 1), (0, 1), (0, 1), (0, 0), (0, 0), (0, 1), (0, 1)] (qp 157 h (fun h => ?_) (fun h => ?_))
      ·exact qf [(0, 3), (0, 3), (0, 4), (0, 0), (0, 3), (0, 3), (0, 3), (0, 4), (0, 0), (0, 3), (0, 3), (0, 3), (0, 4), (0, 0), (0, 3), (0, 3), (0, 3), (0, 3), (0, 4), (0, 0), (0, 3), (0, 3), (0, 3), (0, 4), (0, 0), (0, 3), (0, 3), (0, 3), (0, 4), (0, 0), (0, 3), (0, 3), (0, 3), (0, 4)] (qe (qm true h [0, 1, 2, 3, 4, 5, 6, 7, 8, 9, 10, 11, 12]))
      ·obtain ⟨t_72, ht_890, h⟩ := bd h
       refine tO (pc 2 (fun w hm => spec_A2Same.calls t_8.1 t_9.1 w _ cap_48 (hm.ow 9 o_47 2 t_8.1 sp_49 (fun e => (ho_51 e).1) encI64_len) rfl cap_54 (hm.ow 10 o_53 2 t_9.1 sp_55 (fun e => (ho_57 e).1) encI64_len) rfl ht_890) ?_)
       rintro w v w' hm ⟨rfl, hm'⟩
       refine ⟨_, hm.app hm', jkO ?_⟩
       clear hm hm'
       refine qf [(0, 2), (0, 5), (0, 0), (0, 1), (0, 1), (0, 1), (0, 0), (0, 0), (0, 1), (0, 1), (0, 1), (0, 0), (0, 0), (0, 1), (0, 1)] (qp 173 h (fun h => ?_) (fun h => ?_))
       ·exact qf [(0, 3), (0, 3), (0, 4), (0, 0), (0, 3), (0, 3), (0, 3), (0, 4), (0, 0), (0, 3), (0, 3), (0, 3), (0, 4), (0, 0), (0, 3), (0, 3), (0, 3), (0, 4)] (qe (qm true h [0, 1, 2, 3, 4, 5, 6, 7, 8, 9, 10, 11, 12]))
       ·obtain ⟨t_73, ht_892, h⟩ := bd h
        refine tO (pc 2 (fun w hm => spec_A2SamePairs.calls t_10.1 t_11.1 w _ cap_60 (hm.ow 11 o_59 51 t_10.1 sp_61 (fun e => (ho_63 e).1) encA2I64_len) rfl cap_66 (hm.ow 12 o_65 51 t_11.1 sp_67 (fun e => (ho_69 e).1) encA2I64_len) rfl ht_892) ?_)
        rintro w v w' hm ⟨rfl, hm'⟩
        refine ⟨_, hm.app hm', jkO ?_⟩
        clear hm hm'
        exact qf [(0, 2), (0, 5), (0, 0), (0, 1), (0, 1), (0, 1), (0, 0), (0, 0), (0, 1), (0, 1), (0, 1), (0, 0), (0, 0), (0, 1), (0, 1), (0, 1), (0, 0)] (qe (qm ((((!t_73) || (t_10.2.1 != t_11.2.1)) || (t_8.2.2 != t_6.2.2)) || (t_10.2.2 != t_6.2.2)) h [0, 1, 2, 3, 4, 5, 6, 7, 8, 9, 10, 11, 12]))
   ·rintro q_12 h
    replace h : laws_FnOrders.k_13 code0 more1 t_2 t_3 t_5 t_6 t_7 t_9 t_11 q_12 = some r := h
    rw [laws_FnOrders.k_13] at h
    refine jx_then (qi h (fun h => ?_) (fun h => ?_))
    ·refine jc_seq (jc_region (qh [0] (qe (jx_then (jc_ret (jx_thenr ?_))))))
     obtain rfl := Option.some.inj h
     exact qr [] (fun w hm => ⟨rfl, hm.pk []⟩)
    ·refine jc_skip (jx_then (jc_seq (jc_seq (jc_region (qh [0,0] (qe (jx_then (qi h (fun h => ?_) (fun h => ?_)))))))))
     ·refine jc_seq (jc_region (qh [0,0,0] (qe (jx_then (jc_ret (jx_thenr ?_))))))
      obtain rfl := Option.some.inj h
      exact qr [] (fun w hm => ⟨rfl, hm.pk []⟩)
     ·refine jc_skip (jx_then (jc_seq (jc_region (qh [0,0] ?_))))
      obtain ⟨t_14, ht_98, h⟩ := bd h
      refine tO (pc 0 (fun w hm => spec_A2Order.calls code0 (t_3.length : Int) w _ A_c (hm.xr A_h) rfl ht_98) ?_)
      rintro w v w' hm ⟨o_99, cap_100, sp_101, _, rfl, hs_102, ho_103, rfl, hm'⟩
      refine ⟨_, hm.app hm', jkO ?_⟩
      clear hm hm'
      refine qh [0] (qe (jx_then (jc_seq (jc_region (qh [1,0,0] ?_)))))
      obtain ⟨t_15, ht_104, h⟩ := bd h
      refine tO (pc 0 (fun w hm => impl_OrderCost.calls t_2 t_3 t_14 w _ cap_7 (hm.ow 0 o_6 92 t_2.fHammers sp_8 (fun e => (ho_10 e).1) encGHammer_len) rfl cap_14 (hm.ow 2 o_13 58 t_3 sp_15 (fun e => (ho_17 e).1) encA96U32_len) rfl cap_100 (hm.ow 13 o_99 2 t_14 sp_101 (fun e => (ho_103 e).1) encI64_len) rfl ht_104) ?_)
      rintro w v w' hm ⟨rfl, hm'⟩
      refine ⟨_, hm.app hm', jkO ?_⟩
      clear hm hm'
      refine qh [0,0,0,0,0] (qe (jx_then (jc_seq (jc_region (qh [1,0,0] ?_)))))
      obtain ⟨t_16, ht_105, h⟩ := bd h
      refine tO (pc 0 (fun w hm => impl_OrderCost.calls t_2 t_3 t_7.1 w _ cap_7 (hm.ow 0 o_6 92 t_2.fHammers sp_8 (fun e => (ho_10 e).1) encGHammer_len) rfl cap_14 (hm.ow 2 o_13 58 t_3 sp_15 (fun e => (ho_17 e).1) encA96U32_len) rfl cap_42 (hm.ow 8 o_41 2 t_7.1 sp_43 (fun e => (ho_45 e).1) encI64_len) rfl ht_105) ?_)
      rintro w v w' hm ⟨rfl, hm'⟩
      refine ⟨_, hm.app hm', jkO ?_⟩
      clear hm hm'
      refine qh [0,0,0,0,0] (qe (jx_then (jc_seq (jc_region (qh [0,0] ?_)))))
      obtain ⟨t_17, ht_106, h⟩ := bd h
      refine tO (pc 0 (fun w hm => laws_a2At.calls more1 0 (t_3.length : Int) w _ B_c (hm.xr B_h) rfl ht_106) ?_)
      rintro w v w' hm ⟨rfl, hm'⟩
      refine ⟨_, hm.app hm', jkO ?_⟩
      clear hm hm'
      refine qh [0] (qe (jx_then (jc_seq (jc_region (qh [1,0,0] ?_)))))
      obtain ⟨t_18, ht_107, h⟩ := bd h
      refine tO (pc 0 (fun w hm => impl_BestOrder.calls t_2 t_3 t_17 w _ cap_7 (hm.ow 0 o_6 92 t_2.fHammers sp_8 (fun e => (ho_10 e).1) encGHammer_len) rfl cap_14 (hm.ow 2 o_13 58 t_3 sp_15 (fun e => (ho_17 e).1) encA96U32_len) rfl ht_107) ?_)
      rintro w v w' hm ⟨o_108, cap_109, sp_110, _, rfl, hs_111, ho_112, rfl, hm'⟩
      refine ⟨_, hm.app hm', jkO ?_⟩
      clear hm hm'
      refine qh [0,0,0,0,0,0,0] (qe (jx_then (jc_seq (jc_region (qh [1,0,0] ?_)))))
      obtain ⟨t_19, ht_113, h⟩ := bd h
      refine tO (pc 0 (fun w hm => spec_BestOrder.calls t_2 t_3 t_17 w _ cap_7 (hm.ow 0 o_6 92 t_2.fHammers sp_8 (fun e => (ho_10 e).1) encGHammer_len) rfl cap_14 (hm.ow 2 o_13 58 t_3 sp_15 (fun e => (ho_17 e).1) encA96U32_len) rfl ht_113) ?_)
      rintro w v w' hm ⟨o_114, cap_115, sp_116, _, rfl, hs_117, ho_118, rfl, hm'⟩
      refine ⟨_, hm.app hm', jkO ?_⟩
      clear hm hm'
      refine qh [0,0,0,0,0,0,0] (qe (jx_then (jc_seq (jc_region (qh [1,0,0] ?_)))))
      obtain ⟨t_20, ht_119, h⟩ := bd h
      refine tO (pc 0 (fun w hm => impl_NearestOrder.calls t_2 t_3 t_17 w _ cap_7 (hm.ow 0 o_6 92 t_2.fHammers sp_8 (fun e => (ho_10 e).1) encGHammer_len) rfl cap_14 (hm.ow 2 o_13 58 t_3 sp_15 (fun e => (ho_17 e).1) encA96U32_len) rfl ht_119) ?_)
      rintro w v w' hm ⟨o_120, cap_121, sp_122, _, rfl, hs_123, ho_124, rfl, hm'⟩
      refine ⟨_, hm.app hm', jkO ?_⟩
      clear hm hm'
      refine qh [0,0,0,0,0,0,0] (qe (jx_then (jc_seq (jc_region (qh [1,0,0] ?_)))))
      obtain ⟨t_21, ht_125, h⟩ := bd h
      refine tO (pc 0 (fun w hm => spec_NearestOrder.calls t_2 t_3 t_17 w _ cap_7 (hm.ow 0 o_6 92 t_2.fHammers sp_8 (fun e => (ho_10 e).1) encGHammer_len) rfl cap_14 (hm.ow 2 o_13 58 t_3 sp_15 (fun e => (ho_17 e).1) encA96U32_len) rfl ht_125) ?_)
      rintro w v w' hm ⟨o_126, cap_127, sp_128, _, rfl, hs_129, ho_130, rfl, hm'⟩
      refine ⟨_, hm.app hm', jkO ?_⟩
      clear hm hm'
      refine qh [0,0,0,0,0,0,0] (qe (jx_then (jc_seq (jc_region (qh [1,0,0,0] ?_)))))
      obtain ⟨t_22, ht_131, h⟩ := bd h
      refine tO (pc 0 (fun w hm => impl_CheckOrder.calls t_2 t_3 t_7.1 t_7.2.1 w _ cap_7 (hm.ow 0 o_6 92 t_2.fHammers sp_8 (fun e => (ho_10 e).1) encGHammer_len) rfl cap_14 (hm.ow 2 o_13 58 t_3 sp_15 (fun e => (ho_17 e).1) encA96U32_len) rfl cap_42 (hm.ow 8 o_41 2 t_7.1 sp_43 (fun e => (ho_45 e).1) encI64_len) rfl ht_131) ?_)
      rintro w v w' hm ⟨rfl, hm'⟩
      refine ⟨_, hm.app hm', jkO ?_⟩
      clear hm hm'
      refine qh [0,0,0,0,0] (qe (jx_then (jc_seq (jc_region (qh [1,0,0,0,0] ?_)))))
      obtain ⟨t_23, ht_132, h⟩ := bd h
      refine tO (pc 0 (fun w hm => impl_CheckOrder.calls t_2 t_3 t_7.1 (w64 (t_7.2.1 - 1)) w _ cap_7 (hm.ow 0 o_6 92 t_2.fHammers sp_8 (fun e => (ho_10 e).1) encGHammer_len) rfl cap_14 (hm.ow 2 o_13 58 t_3 sp_15 (fun e => (ho_17 e).1) encA96U32_len) rfl cap_42 (hm.ow 8 o_41 2 t_7.1 sp_43 (fun e => (ho_45 e).1) encI64_len) rfl ht_132) ?_)
      rintro w v w' hm ⟨rfl, hm'⟩
      refine ⟨_, hm.app hm', jkO ?_⟩
      clear hm hm'
      refine qh [0,0,0,0,0] (qe (jx_then (jc_seq (jc_region (qh [1,0,0] ?_)))))
      obtain ⟨t_24, ht_133, h⟩ := bd h
      refine tO (pc 0 (fun w hm => impl_CheckTree.calls t_2 t_3 t_11.1 w _ cap_7 (hm.ow 0 o_6 92 t_2.fHammers sp_8 (fun e => (ho_10 e).1) encGHammer_len) rfl cap_14 (hm.ow 2 o_13 58 t_3 sp_15 (fun e => (ho_17 e).1) encA96U32_len) rfl cap_66 (hm.ow 12 o_65 51 t_11.1 sp_67 (fun e => (ho_69 e).1) encA2I64_len) rfl ht_133) ?_)
      rintro w v w' hm ⟨rfl, hm'⟩
      refine ⟨_, hm.app hm', jkO ?_⟩
      clear hm hm'
      refine qh [0,0,0,0,0] (qe (jx_then (jc_seq (jc_seq (jc_meet (fun (j : Bool) => match j with | q_25 => laws_FnOrders.k_26 t_3 t_5 t_9 t_11 t_14 t_15 q_25 = some r) (fun (j : Bool) => match j with | q_25 => [(4, [], (.bool false)), (7, [], (.int .i64 (t_3.length : Int))), (10, [], (.slice (o_27.map fun b => ⟨b, 0, none⟩) hh_32.length cap_28)), (21, [], (.slice (o_53.map fun b => ⟨b, 0, none⟩) t_9.1.length cap_54)), (22, [], (.int .i64 t_9.2.1)), (27, [], (.slice (o_65.map fun b => ⟨b, 0, none⟩) t_11.1.length cap_66)), (28, [], (.int .i64 t_11.2.1)), (30, [], (.slice (o_99.map fun b => ⟨b, 0, none⟩) t_14.length cap_100)), (31, [], (.int .i64 t_15.1)), (408, [], (.bool q_25))]) (fun (j : Bool) => match j with | q_25 => [⟨o_6, 92, row encGHammer t_2.fHammers sp_8⟩, ⟨some b_11, 27, [(.int .i16 t_2.fSteps), (.slice (o_6.map fun b => ⟨b, 0, none⟩) t_2.fHammers.length cap_7)]⟩, ⟨o_13, 58, row encA96U32 t_3 sp_15⟩, ⟨o_19, 34, row encHd hh_24 sp_21⟩, ⟨none, CLU, cluC encI64 hh_24 t_4.1⟩, ⟨o_27, 34, row encHd hh_32 sp_29⟩, ⟨none, CLU, cluC encI64 hh_32 t_5.1⟩, ⟨o_35, 2, row encI64 t_6.1 sp_37⟩, ⟨o_41, 2, row encI64 t_7.1 sp_43⟩, ⟨o_47, 2, row encI64 t_8.1 sp_49⟩, ⟨o_53, 2, row encI64 t_9.1 sp_55⟩, ⟨o_59, 51, row encA2I64 t_10.1 sp_61⟩, ⟨o_65, 51, row encA2I64 t_11.1 sp_67⟩, ⟨o_99, 2, row encI64 t_14 sp_101⟩, ⟨o_108, 2, row encI64 t_18.1 sp_110⟩, ⟨o_114, 2, row encI64 t_19.1 sp_116⟩, ⟨o_120, 2, row encI64 t_20.1 sp_122⟩, ⟨o_126, 2, row encI64 t_21.1 sp_128⟩]) ?_ ?_)))))
      ·refine jc_region (qf [(0, 0), (0, 0), (0, 0), (0, 1), (0, 1), (0, 0), (0, 0), (0, 1), (0, 1), (0, 1), (0, 0), (0, 0), (0, 1), (0, 1), (0, 0), (0, 0), (0, 1), (0, 1), (0, 1), (0, 0), (0, 0), (0, 1), (0, 1), (0, 1), (0, 0), (0, 0), (0, 1), (0, 1), (0, 1), (0, 0), (0, 0), (0, 1), (0, 1), (0, 1), (0, 0), (0, 0), (0, 1), (0, 1), (0, 0), (0, 0), (0, 1), (0, 1)] (qp 313 h (fun h => ?_) (fun h => ?_)))
       ·exact qf [(0, 3), (0, 3), (0, 4), (0, 0), (0, 3), (0, 3), (0, 3), (0, 4), (0, 0), (0, 3), (0, 3), (0, 3), (0, 4), (0, 0), (0, 3), (0, 3), (0, 3), (0, 3), (0, 4), (0, 0), (0, 3), (0, 3), (0, 3), (0, 3), (0, 3), (0, 4), (0, 0), (0, 3), (0, 3), (0, 3), (0, 4), (0, 0), (0, 3), (0, 3), (0, 4), (0, 0), (0, 3), (0, 3), (0, 3), (0, 3), (0, 4), (0, 0), (0, 3), (0, 3), (0, 3), (0, 4), (0, 0), (0, 3), (0, 3), (0, 3), (0, 4), (0, 0), (0, 3), (0, 3), (0, 4), (0, 0), (0, 3), (0, 3), (0, 4), (0, 0), (0, 3), (0, 3), (0, 4), (0, 0), (0, 3), (0, 4), (0, 0), (0, 3), (0, 3), (0, 4), (0, 0), (0, 3), (0, 3), (0, 4), (0, 0), (0, 3), (0, 3), (0, 3), (0, 3), (0, 3), (0, 4), (0, 0), (0, 3), (0, 3), (0, 3), (0, 3), (0, 4), (0, 0), (0, 3), (0, 3), (0, 3), (0, 3), (0, 4)] (qe (qm true h [0, 1, 2, 3, 4, 5, 6, 7, 8, 9, 10, 11, 12, 13, 14, 15, 16, 17]))
       ·obtain ⟨t_66, ht_878, h⟩ := bd h
        refine tO (pc 2 (fun w hm => spec_A2Same.calls t_18.1 t_19.1 w _ cap_109 (hm.ow 14 o_108 2 t_18.1 sp_110 (fun e => (ho_112 e).1) encI64_len) rfl cap_115 (hm.ow 15 o_114 2 t_19.1 sp_116 (fun e => (ho_118 e).1) encI64_len) rfl ht_878) ?_)
        rintro w v w' hm ⟨rfl, hm'⟩
        refine ⟨_, hm.app hm', jkO ?_⟩
        clear hm hm'
        refine qf [(0, 2), (0, 5), (0, 0), (0, 1), (0, 1), (0, 1), (0, 0), (0, 0), (0, 1), (0, 1), (0, 1), (0, 0), (0, 0), (0, 1), (0, 1), (0, 1), (0, 1), (0, 0), (0, 0), (0, 1)] (qp 335 h (fun h => ?_) (fun h => ?_))
        ·exact qf [(0, 3), (0, 3), (0, 3), (0, 3), (0, 4), (0, 0), (0, 3), (0, 3), (0, 3), (0, 4), (0, 0), (0, 3), (0, 3), (0, 4), (0, 0), (0, 3), (0, 3), (0, 3), (0, 3), (0, 4), (0, 0), (0, 3), (0, 3), (0, 3), (0, 4), (0, 0), (0, 3), (0, 3), (0, 3), (0, 4), (0, 0), (0, 3), (0, 3), (0, 4), (0, 0), (0, 3), (0, 3), (0, 4), (0, 0), (0, 3), (0, 3), (0, 4), (0, 0), (0, 3), (0, 4), (0, 0), (0, 3), (0, 3), (0, 4), (0, 0), (0, 3), (0, 3), (0, 4), (0, 0), (0, 3), (0, 3), (0, 3), (0, 3), (0, 3), (0, 4), (0, 0), (0, 3), (0, 3), (0, 3), (0, 3), (0, 4), (0, 0), (0, 3), (0, 3), (0, 3), (0, 3), (0, 4)] (qe (qm true h [0, 1, 2, 3, 4, 5, 6, 7, 8, 9, 10, 11, 12, 13, 14, 15, 16, 17]))
        ·obtain ⟨x_67, hx_880, h⟩ := bd h
         refine tO (qx 2 (o_114.map fun b => ⟨b, 0, none⟩) 1 hx_880 rfl (spo ho_118 hx_880) (jkO (tO (ql 2 false (fun w hm => ((hm.ow 15 o_114 2 t_19.1 sp_116 (fun e => (ho_118 e).1) encI64_len).at hx_880)) (jkO (qf [(0, 2), (0, 2), (0, 5), (0, 0), (0, 1), (0, 1), (0, 1), (0, 0), (0, 0), (0, 1), (0, 1), (0, 0), (0, 0), (0, 1), (0, 1)] (qp 351 h (fun h => ?_) (fun h => ?_))))))))
         ·exact qf [(0, 3), (0, 3), (0, 4), (0, 0), (0, 3), (0, 3), (0, 3), (0, 4), (0, 0), (0, 3), (0, 3), (0, 3), (0, 4), (0, 0), (0, 3), (0, 3), (0, 4), (0, 0), (0, 3), (0, 3), (0, 4), (0, 0), (0, 3), (0, 3), (0, 4), (0, 0), (0, 3), (0, 4), (0, 0), (0, 3), (0, 3), (0, 4), (0, 0), (0, 3), (0, 3), (0, 4), (0, 0), (0, 3), (0, 3), (0, 3), (0, 3), (0, 3), (0, 4), (0, 0), (0, 3), (0, 3), (0, 3), (0, 3), (0, 4), (0, 0), (0, 3), (0, 3), (0, 3), (0, 3), (0, 4)] (qe (qm true h [0, 1, 2, 3, 4, 5, 6, 7, 8, 9, 10, 11, 12, 13, 14, 15, 16, 17]))
         ·obtain ⟨t_68, ht_882, h⟩ := bd h
          refine tO (pc 2 (fun w hm => spec_A2Same.calls t_20.1 t_21.1 w _ cap_121 (hm.ow 16 o_120 2 t_20.1 sp_122 (fun e => (ho_124 e).1) encI64_len) rfl cap_127 (hm.ow 17 o_126 2 t_21.1 sp_128 (fun e => (ho_130 e).1) encI64_len) rfl ht_882) ?_)
          rintro w v w' hm ⟨rfl, hm'⟩
          refine ⟨_, hm.app hm', jkO ?_⟩
          clear hm hm'
          refine qf [(0, 2), (0, 5), (0, 0), (0, 1), (0, 1), (0, 1), (0, 0), (0, 0), (0, 1), (0, 1), (0, 1), (0, 0), (0, 0), (0, 1), (0, 1), (0, 0), (0, 0), (0, 1), (0, 1), (0, 0), (0, 0), (0, 1), (0, 1), (0, 0), (0, 0), (0, 1), (0, 0), (0, 0), (0, 1), (0, 1), (0, 0), (0, 0), (0, 1), (0, 1), (0, 0), (0, 0), (0, 1), (0, 1), (0, 1), (0, 1), (0, 1), (0, 0), (0, 0), (0, 1), (0, 1), (0, 1), (0, 1), (0, 0), (0, 0), (0, 1)] (qp 403 h (fun h => ?_) (fun h => ?_))
          ·exact qf [(0, 3), (0, 3), (0, 3), (0, 4)] (qe (qm true h [0, 1, 2, 3, 4, 5, 6, 7, 8, 9, 10, 11, 12, 13, 14, 15, 16, 17]))
          ·obtain ⟨x_69, hx_884, h⟩ := bd h
           exact tO (qx 2 (o_53.map fun b => ⟨b, 0, none⟩) 1 hx_884 rfl (spo ho_57 hx_884) (jkO (tO (ql 2 false (fun w hm => ((hm.ow 10 o_53 2 t_9.1 sp_55 (fun e => (ho_57 e).1) encI64_len).at hx_884)) (jkO (qf [(0, 2), (0, 5)] (qe (qm (x_69 != 0) h [0, 1, 2, 3, 4, 5, 6, 7, 8, 9, 10, 11, 12, 13, 14, 15, 16, 17]))))))))
      ·rintro q_25 h
       replace h : laws_FnOrders.k_26 t_3 t_5 t_9 t_11 t_14 t_15 q_25 = some r := h
       rw [laws_FnOrders.k_26] at h
       refine jx_then (qi h (fun h => ?_) (fun h => ?_))
       ·refine jc_seq (jc_region (qh [0] (qe (jx_then (jc_ret (jx_thenr ?_))))))
        obtain rfl := Option.some.inj h
        exact qr [] (fun w hm => ⟨rfl, hm.pk []⟩)
       ·refine jc_skip (jx_then (jc_seq (jc_region (qh [0] (qe (jx_then (jc_seq (jc_seq (jc_region (qh [0] (qe (jx_then (jc_meet (fun (j : Int) => match j with | i_27 => laws_FnOrders.k_28 t_3 t_5 t_9 t_11 t_14 t_15 i_27 = some r) (fun (j : Int) => match j with | i_27 => [(4, [], (.bool false)), (7, [], (.int .i64 (t_3.length : Int))), (10, [], (.slice (o_27.map fun b => ⟨b, 0, none⟩) hh_32.length cap_28)), (21, [], (.slice (o_53.map fun b => ⟨b, 0, none⟩) t_9.1.length cap_54)), (22, [], (.int .i64 t_9.2.1)), (28, [], (.int .i64 t_11.2.1)), (30, [], (.slice (o_99.map fun b => ⟨b, 0, none⟩) t_14.length cap_100)), (31, [], (.int .i64 t_15.1)), (54, [], (.int .i64 i_27))]) (fun (j : Int) => match j with | i_27 => [⟨o_6, 92, row encGHammer t_2.fHammers sp_8⟩, ⟨some b_11, 27, [(.int .i16 t_2.fSteps), (.slice (o_6.map fun b => ⟨b, 0, none⟩) t_2.fHammers.length cap_7)]⟩, ⟨o_13, 58, row encA96U32 t_3 sp_15⟩, ⟨o_19, 34, row encHd hh_24 sp_21⟩, ⟨none, CLU, cluC encI64 hh_24 t_4.1⟩, ⟨o_27, 34, row encHd hh_32 sp_29⟩, ⟨none, CLU, cluC encI64 hh_32 t_5.1⟩, ⟨o_35, 2, row encI64 t_6.1 sp_37⟩, ⟨o_41, 2, row encI64 t_7.1 sp_43⟩, ⟨o_47, 2, row encI64 t_8.1 sp_49⟩, ⟨o_53, 2, row encI64 t_9.1 sp_55⟩, ⟨o_59, 51, row encA2I64 t_10.1 sp_61⟩, ⟨o_65, 51, row encA2I64 t_11.1 sp_67⟩, ⟨o_99, 2, row encI64 t_14 sp_101⟩, ⟨o_108, 2, row encI64 t_18.1 sp_110⟩, ⟨o_114, 2, row encI64 t_19.1 sp_116⟩, ⟨o_120, 2, row encI64 t_20.1 sp_122⟩, ⟨o_126, 2, row encI64 t_21.1 sp_128⟩]) ?_ ?_)))))))))))))
        ·refine jc_block ?_
         obtain ⟨t_49, ht_876, hr_822⟩ := bd h
         refine jc_loop (fun (s : Int × Int) (x : Unit) => match s, x with | ⟨i_46, i_47⟩, _ => True) (fun (s : Int × Int) (x : Unit) => match s, x with | ⟨i_46, i_47⟩, _ => [(4, [], (.bool false)), (7, [], (.int .i64 (t_3.length : Int))), (10, [], (.slice (o_27.map fun b => ⟨b, 0, none⟩) hh_32.length cap_28)), (21, [], (.slice (o_53.map fun b => ⟨b, 0, none⟩) t_9.1.length cap_54)), (22, [], (.int .i64 t_9.2.1)), (27, [], (.slice (o_65.map fun b => ⟨b, 0, none⟩) t_11.1.length cap_66)), (28, [], (.int .i64 t_11.2.1)), (30, [], (.slice (o_99.map fun b => ⟨b, 0, none⟩) t_14.length cap_100)), (31, [], (.int .i64 t_15.1)), (54, [], (.int .i64 i_46)), (55, [], (.int .i64 i_47))]) (fun (s : Int × Int) (x : Unit) => match s, x with | ⟨i_46, i_47⟩, _ => [⟨o_6, 92, row encGHammer t_2.fHammers sp_8⟩, ⟨some b_11, 27, [(.int .i16 t_2.fSteps), (.slice (o_6.map fun b => ⟨b, 0, none⟩) t_2.fHammers.length cap_7)]⟩, ⟨o_13, 58, row encA96U32 t_3 sp_15⟩, ⟨o_19, 34, row encHd hh_24 sp_21⟩, ⟨none, CLU, cluC encI64 hh_24 t_4.1⟩, ⟨o_27, 34, row encHd hh_32 sp_29⟩, ⟨none, CLU, cluC encI64 hh_32 t_5.1⟩, ⟨o_35, 2, row encI64 t_6.1 sp_37⟩, ⟨o_41, 2, row encI64 t_7.1 sp_43⟩, ⟨o_47, 2, row encI64 t_8.1 sp_49⟩, ⟨o_53, 2, row encI64 t_9.1 sp_55⟩, ⟨o_59, 51, row encA2I64 t_10.1 sp_61⟩, ⟨o_65, 51, row encA2I64 t_11.1 sp_67⟩, ⟨o_99, 2, row encI64 t_14 sp_101⟩, ⟨o_108, 2, row encI64 t_18.1 sp_110⟩, ⟨o_114, 2, row encI64 t_19.1 sp_116⟩, ⟨o_120, 2, row encI64 t_20.1 sp_122⟩, ⟨o_126, 2, row encI64 t_21.1 sp_128⟩]) ht_876 () trivial (by kernel_rfl) [0, 1, 2, 3, 4, 5, 6, 7, 8, 9, 10, 11, 12, 13, 14, 15, 16, 17] (by kernel_rfl) (by kernel_rfl) ?_
         rintro ⟨i_46, i_47⟩ _ y_823 _ h
         rw [laws_FnOrders.l_48] at h
         refine jc_seq (jc_seq (jc_region (qh [0,0,0,0] (qe (jx_then (qi h (fun h => ?_) (fun h => ?_)))))))
         ·refine jc_skip (jx_then (jc_seq (jc_block (jc_seq (jc_seq (jc_meet (fun (j : Bool) => match j with | q_50 => laws_FnOrders.k_51 t_5 t_11 i_46 i_47 q_50 = some y_823) (fun (j : Bool) => match j with | q_50 => [(4, [], (.bool false)), (7, [], (.int .i64 (t_3.length : Int))), (10, [], (.slice (o_27.map fun b => ⟨b, 0, none⟩) hh_32.length cap_28)), (21, [], (.slice (o_53.map fun b => ⟨b, 0, none⟩) t_9.1.length cap_54)), (22, [], (.int .i64 t_9.2.1)), (27, [], (.slice (o_65.map fun b => ⟨b, 0, none⟩) t_11.1.length cap_66)), (28, [], (.int .i64 t_11.2.1)), (30, [], (.slice (o_99.map fun b => ⟨b, 0, none⟩) t_14.length cap_100)), (31, [], (.int .i64 t_15.1)), (54, [], (.int .i64 i_46)), (55, [], (.int .i64 i_47)), (442, [], (.bool q_50))]) (fun (j : Bool) => match j with | q_50 => [⟨o_6, 92, row encGHammer t_2.fHammers sp_8⟩, ⟨some b_11, 27, [(.int .i16 t_2.fSteps), (.slice (o_6.map fun b => ⟨b, 0, none⟩) t_2.fHammers.length cap_7)]⟩, ⟨o_13, 58, row encA96U32 t_3 sp_15⟩, ⟨o_19, 34, row encHd hh_24 sp_21⟩, ⟨none, CLU, cluC encI64 hh_24 t_4.1⟩, ⟨o_27, 34, row encHd hh_32 sp_29⟩, ⟨none, CLU, cluC encI64 hh_32 t_5.1⟩, ⟨o_35, 2, row encI64 t_6.1 sp_37⟩, ⟨o_41, 2, row encI64 t_7.1 sp_43⟩, ⟨o_47, 2, row encI64 t_8.1 sp_49⟩, ⟨o_53, 2, row encI64 t_9.1 sp_55⟩, ⟨o_59, 51, row encA2I64 t_10.1 sp_61⟩, ⟨o_65, 51, row encA2I64 t_11.1 sp_67⟩, ⟨o_99, 2, row encI64 t_14 sp_101⟩, ⟨o_108, 2, row encI64 t_18.1 sp_110⟩, ⟨o_114, 2, row encI64 t_19.1 sp_116⟩, ⟨o_120, 2, row encI64 t_20.1 sp_122⟩, ⟨o_126, 2, row encI64 t_21.1 sp_128⟩]) ?_ ?_))))))
          ·refine qg [⟨o_6, 92, row encGHammer t_2.fHammers sp_8⟩, ⟨some b_11, 27, [(.int .i16 t_2.fSteps), (.slice (o_6.map fun b => ⟨b, 0, none⟩) t_2.fHammers.length cap_7)]⟩, ⟨o_13, 58, row encA96U32 t_3 sp_15⟩, ⟨o_19, 34, row encHd hh_24 sp_21⟩, ⟨none, CLU, cluC encI64 hh_24 t_4.1⟩, ⟨o_27, 34, row encHd hh_32 sp_29⟩, ⟨none, CLU, cluC encI64 hh_32 t_5.1⟩, ⟨o_35, 2, row encI64 t_6.1 sp_37⟩, ⟨o_41, 2, row encI64 t_7.1 sp_43⟩, ⟨o_47, 2, row encI64 t_8.1 sp_49⟩, ⟨o_53, 2, row encI64 t_9.1 sp_55⟩, ⟨o_59, 51, row encA2I64 t_10.1 sp_61⟩, ⟨o_65, 51, row encA2I64 t_11.1 sp_67⟩, ⟨o_99, 2, row encI64 t_14 sp_101⟩, ⟨o_108, 2, row encI64 t_18.1 sp_110⟩, ⟨o_114, 2, row encI64 t_19.1 sp_116⟩, ⟨o_120, 2, row encI64 t_20.1 sp_122⟩, ⟨o_126, 2, row encI64 t_21.1 sp_128⟩] 28 (qd [⟨0, 0, 0⟩,⟨1, 0, 0⟩] 26 [0, 1, 2, 3, 4, 5, 6, 7, 8, 9, 10, 11, 12, 13, 14, 15, 16, 17] ?_)
           obtain ⟨x_58, hx_865, h⟩ := bd h
           refine qv 2 0 [0, 1, 2, 3, 4, 5, 6, 7, 8, 9, 10, 11, 12, 13, 14, 15, 16, 17] (fun w hm => idx_run (a := (o_65.map fun b => ⟨b, 0, none⟩)) (len := t_11.1.length) (s := 2) (j := i_47) (by kernel_rfl) (ix_some hx_865).1 (ltn hx_865 rfl) (spo ho_69 hx_865)) ?_
           obtain ⟨x_59, hx_866, h⟩ := bd h
           refine qv 3 0 [0, 1, 2, 3, 4, 5, 6, 7, 8, 9, 10, 11, 12, 13, 14, 15, 16, 17] (fun w hm => idx_run (a := some ⟨aB (o_65.map fun b => ⟨b, 0, none⟩), aO (o_65.map fun b => ⟨b, 0, none⟩) + i_47.toNat * 2, none⟩) (len := 2) (s := 1) (j := 0) (by kernel_rfl) (ix_some hx_866).1 (ltn hx_866 x_58.2) rfl) (qv 4 0 [0, 1, 2, 3, 4, 5, 6, 7, 8, 9, 10, 11, 12, 13, 14, 15, 16, 17] (fun w hm => ld_run (b := aB (o_65.map fun b => ⟨b, 0, none⟩)) (off := (aO (o_65.map fun b => ⟨b, 0, none⟩) + i_47.toNat * 2 + (0 : Int).toNat * 1)) (s := 1) (agg := false) (vs := (encI64 x_59)) (by kernel_rfl) (by kernel_rfl) (.inr rfl) (at_arr encI64_len ((hm.ow 12 o_65 51 t_11.1 sp_67 (fun e => (ho_69 e).1) encA2I64_len).at hx_865) hx_866)) (qd [⟨5, 0, 0⟩,⟨6, 0, 0⟩,⟨7, 0, 1⟩,⟨8, 0, 1⟩,⟨12, 0, 1⟩] 18 [0, 1, 2, 3, 4, 5, 6, 7, 8, 9, 10, 11, 12, 13, 14, 15, 16, 17] (jd_split 421 (decide (x_59 < 0)) (by kernel_rfl) (fun hc_867 => ?_) (fun hc_867 => ?_))))
           ·replace h := ifT hc_867 h
            exact qd [⟨9, 0, 3⟩,⟨10, 0, 3⟩,⟨11, 0, 3⟩,⟨13, 0, 3⟩,⟨14, 0, 4⟩,⟨15, 0, 0⟩,⟨16, 0, 3⟩,⟨17, 0, 3⟩,⟨18, 0, 3⟩,⟨19, 0, 3⟩,⟨20, 0, 3⟩,⟨21, 0, 3⟩,⟨22, 0, 3⟩,⟨23, 0, 3⟩,⟨24, 0, 3⟩,⟨25, 0, 3⟩,⟨26, 0, 3⟩,⟨27, 0, 4⟩] 0 [0, 1, 2, 3, 4, 5, 6, 7, 8, 9, 10, 11, 12, 13, 14, 15, 16, 17] (qz (qm true h [0, 1, 2, 3, 4, 5, 6, 7, 8, 9, 10, 11, 12, 13, 14, 15, 16, 17]))
           ·replace h := ifF hc_867 h
            obtain ⟨x_60, hx_868, h⟩ := bd h
            refine qv 9 2 [0, 1, 2, 3, 4, 5, 6, 7, 8, 9, 10, 11, 12, 13, 14, 15, 16, 17] (fun w hm => idx_run (a := (o_65.map fun b => ⟨b, 0, none⟩)) (len := t_11.1.length) (s := 2) (j := i_47) (by kernel_rfl) (ix_some hx_868).1 (ltn hx_868 rfl) (spo ho_69 hx_868)) ?_
            obtain ⟨x_61, hx_869, h⟩ := bd h
            refine qv 10 2 [0, 1, 2, 3, 4, 5, 6, 7, 8, 9, 10, 11, 12, 13, 14, 15, 16, 17] (fun w hm => idx_run (a := some ⟨aB (o_65.map fun b => ⟨b, 0, none⟩), aO (o_65.map fun b => ⟨b, 0, none⟩) + i_47.toNat * 2, none⟩) (len := 2) (s := 1) (j := 1) (by kernel_rfl) (ix_some hx_869).1 (ltn hx_869 x_60.2) rfl) (qv 11 2 [0, 1, 2, 3, 4, 5, 6, 7, 8, 9, 10, 11, 12, 13, 14, 15, 16, 17] (fun w hm => ld_run (b := aB (o_65.map fun b => ⟨b, 0, none⟩)) (off := (aO (o_65.map fun b => ⟨b, 0, none⟩) + i_47.toNat * 2 + (1 : Int).toNat * 1)) (s := 1) (agg := false) (vs := (encI64 x_61)) (by kernel_rfl) (by kernel_rfl) (.inr rfl) (at_arr encI64_len ((hm.ow 12 o_65 51 t_11.1 sp_67 (fun e => (ho_69 e).1) encA2I64_len).at hx_868) hx_869)) (qd [⟨13, 0, 2⟩,⟨14, 0, 5⟩,⟨15, 0, 0⟩,⟨16, 0, 1⟩,⟨17, 0, 1⟩,⟨21, 0, 1⟩,⟨22, 0, 1⟩] 8 [0, 1, 2, 3, 4, 5, 6, 7, 8, 9, 10, 11, 12, 13, 14, 15, 16, 17] (jd_split 430 (decide (x_61 ≥ (t_3.length : Int))) (by kernel_rfl) (fun hc_870 => ?_) (fun hc_870 => ?_))))
            ·replace h := ifT hc_870 h
             exact qd [⟨18, 0, 3⟩,⟨19, 0, 3⟩,⟨20, 0, 3⟩,⟨23, 0, 3⟩,⟨24, 0, 3⟩,⟨25, 0, 3⟩,⟨26, 0, 3⟩,⟨27, 0, 4⟩] 0 [0, 1, 2, 3, 4, 5, 6, 7, 8, 9, 10, 11, 12, 13, 14, 15, 16, 17] (qz (qm true h [0, 1, 2, 3, 4, 5, 6, 7, 8, 9, 10, 11, 12, 13, 14, 15, 16, 17]))
            ·replace h := ifF hc_870 h
             obtain ⟨x_62, hx_871, h⟩ := bd h
             refine qv 18 2 [0, 1, 2, 3, 4, 5, 6, 7, 8, 9, 10, 11, 12, 13, 14, 15, 16, 17] (fun w hm => idx_run (a := (o_65.map fun b => ⟨b, 0, none⟩)) (len := t_11.1.length) (s := 2) (j := i_47) (by kernel_rfl) (ix_some hx_871).1 (ltn hx_871 rfl) (spo ho_69 hx_871)) ?_
             obtain ⟨x_63, hx_872, h⟩ := bd h
             refine qv 19 2 [0, 1, 2, 3, 4, 5, 6, 7, 8, 9, 10, 11, 12, 13, 14, 15, 16, 17] (fun w hm => idx_run (a := some ⟨aB (o_65.map fun b => ⟨b, 0, none⟩), aO (o_65.map fun b => ⟨b, 0, none⟩) + i_47.toNat * 2, none⟩) (len := 2) (s := 1) (j := 0) (by kernel_rfl) (ix_some hx_872).1 (ltn hx_872 x_62.2) rfl) (qv 20 2 [0, 1, 2, 3, 4, 5, 6, 7, 8, 9, 10, 11, 12, 13, 14, 15, 16, 17] (fun w hm => ld_run (b := aB (o_65.map fun b => ⟨b, 0, none⟩)) (off := (aO (o_65.map fun b => ⟨b, 0, none⟩) + i_47.toNat * 2 + (0 : Int).toNat * 1)) (s := 1) (agg := false) (vs := (encI64 x_63)) (by kernel_rfl) (by kernel_rfl) (.inr rfl) (at_arr encI64_len ((hm.ow 12 o_65 51 t_11.1 sp_67 (fun e => (ho_69 e).1) encA2I64_len).at hx_871) hx_872)) ?_)
             obtain ⟨x_64, hx_873, h⟩ := bd h
             refine qv 23 2 [0, 1, 2, 3, 4, 5, 6, 7, 8, 9, 10, 11, 12, 13, 14, 15, 16, 17] (fun w hm => idx_run (a := (o_65.map fun b => ⟨b, 0, none⟩)) (len := t_11.1.length) (s := 2) (j := i_47) (by kernel_rfl) (ix_some hx_873).1 (ltn hx_873 rfl) (spo ho_69 hx_873)) ?_
             obtain ⟨x_65, hx_874, h⟩ := bd h
             exact qv 24 2 [0, 1, 2, 3, 4, 5, 6, 7, 8, 9, 10, 11, 12, 13, 14, 15, 16, 17] (fun w hm => idx_run (a := some ⟨aB (o_65.map fun b => ⟨b, 0, none⟩), aO (o_65.map fun b => ⟨b, 0, none⟩) + i_47.toNat * 2, none⟩) (len := 2) (s := 1) (j := 1) (by kernel_rfl) (ix_some hx_874).1 (ltn hx_874 x_64.2) rfl) (qv 25 2 [0, 1, 2, 3, 4, 5, 6, 7, 8, 9, 10, 11, 12, 13, 14, 15, 16, 17] (fun w hm => ld_run (b := aB (o_65.map fun b => ⟨b, 0, none⟩)) (off := (aO (o_65.map fun b => ⟨b, 0, none⟩) + i_47.toNat * 2 + (1 : Int).toNat * 1)) (s := 1) (agg := false) (vs := (encI64 x_65)) (by kernel_rfl) (by kernel_rfl) (.inr rfl) (at_arr encI64_len ((hm.ow 12 o_65 51 t_11.1 sp_67 (fun e => (ho_69 e).1) encA2I64_len).at hx_873) hx_874)) (qd [⟨26, 0, 2⟩,⟨27, 0, 5⟩] 0 [0, 1, 2, 3, 4, 5, 6, 7, 8, 9, 10, 11, 12, 13, 14, 15, 16, 17] (qz (qm (decide (x_63 ≥ x_65)) h [0, 1, 2, 3, 4, 5, 6, 7, 8, 9, 10, 11, 12, 13, 14, 15, 16, 17]))))
          ·rintro q_50 h
           replace h : laws_FnOrders.k_51 t_5 t_11 i_46 i_47 q_50 = some y_823 := h
           rw [laws_FnOrders.k_51] at h
           refine jx_then (qi h (fun h => ?_) (fun h => ?_))
           ·refine jc_seq (jc_region (qh [0] (qe (jx_then (jc_ret (jx_thenr (jx_inr (jx_thenr (jx_leaver (.inl false) (Option.some.inj h).symm (fun e_858 => ?_))))))))))
            subst e_858
            refine jx_inr (jx_thenr (jx_thenr ?_))
            obtain rfl := Option.some.inj hr_822
            exact qr [] (fun w hm => ⟨rfl, hm.pk []⟩)
           ·refine jc_skip (jx_then (qg [⟨o_6, 92, row encGHammer t_2.fHammers sp_8⟩, ⟨some b_11, 27, [(.int .i16 t_2.fSteps), (.slice (o_6.map fun b => ⟨b, 0, none⟩) t_2.fHammers.length cap_7)]⟩, ⟨o_13, 58, row encA96U32 t_3 sp_15⟩, ⟨o_19, 34, row encHd hh_24 sp_21⟩, ⟨none, CLU, cluC encI64 hh_24 t_4.1⟩, ⟨o_27, 34, row encHd hh_32 sp_29⟩, ⟨none, CLU, cluC encI64 hh_32 t_5.1⟩, ⟨o_35, 2, row encI64 t_6.1 sp_37⟩, ⟨o_41, 2, row encI64 t_7.1 sp_43⟩, ⟨o_47, 2, row encI64 t_8.1 sp_49⟩, ⟨o_53, 2, row encI64 t_9.1 sp_55⟩, ⟨o_59, 51, row encA2I64 t_10.1 sp_61⟩, ⟨o_65, 51, row encA2I64 t_11.1 sp_67⟩, ⟨o_99, 2, row encI64 t_14 sp_101⟩, ⟨o_108, 2, row encI64 t_18.1 sp_110⟩, ⟨o_114, 2, row encI64 t_19.1 sp_116⟩, ⟨o_120, 2, row encI64 t_20.1 sp_122⟩, ⟨o_126, 2, row encI64 t_21.1 sp_128⟩] 18 (qd [⟨0, 0, 0⟩,⟨1, 0, 0⟩,⟨2, 0, 0⟩,⟨3, 0, 0⟩,⟨9, 0, 0⟩,⟨10, 0, 0⟩] 12 [0, 1, 2, 3, 4, 5, 6, 7, 8, 9, 10, 11, 12, 13, 14, 15, 16, 17] ?_)))
            obtain ⟨x_52, hx_859, h⟩ := bd h
            refine qv 4 0 [0, 1, 2, 3, 4, 5, 6, 7, 8, 9, 10, 11, 12, 13, 14, 15, 16, 17] (fun w hm => idx_run (a := (o_65.map fun b => ⟨b, 0, none⟩)) (len := t_11.1.length) (s := 2) (j := i_47) (by kernel_rfl) (ix_some hx_859).1 (ltn hx_859 rfl) (spo ho_69 hx_859)) ?_
            obtain ⟨x_53, hx_860, h⟩ := bd h
            refine qv 5 0 [0, 1, 2, 3, 4, 5, 6, 7, 8, 9, 10, 11, 12, 13, 14, 15, 16, 17] (fun w hm => idx_run (a := some ⟨aB (o_65.map fun b => ⟨b, 0, none⟩), aO (o_65.map fun b => ⟨b, 0, none⟩) + i_47.toNat * 2, none⟩) (len := 2) (s := 1) (j := 0) (by kernel_rfl) (ix_some hx_860).1 (ltn hx_860 x_52.2) rfl) (qv 6 0 [0, 1, 2, 3, 4, 5, 6, 7, 8, 9, 10, 11, 12, 13, 14, 15, 16, 17] (fun w hm => ld_run (b := aB (o_65.map fun b => ⟨b, 0, none⟩)) (off := (aO (o_65.map fun b => ⟨b, 0, none⟩) + i_47.toNat * 2 + (0 : Int).toNat * 1)) (s := 1) (agg := false) (vs := (encI64 x_53)) (by kernel_rfl) (by kernel_rfl) (.inr rfl) (at_arr encI64_len ((hm.ow 12 o_65 51 t_11.1 sp_67 (fun e => (ho_69 e).1) encA2I64_len).at hx_859) hx_860)) ?_)
            obtain ⟨x_54, hx_861, h⟩ := bd h
            refine qv 7 0 [0, 1, 2, 3, 4, 5, 6, 7, 8, 9, 10, 11, 12, 13, 14, 15, 16, 17] (fun w hm => idx_run (a := (o_27.map fun b => ⟨b, 0, none⟩)) (len := hh_32.length) (s := 1) (j := x_53) (by kernel_rfl) (ix_some hx_861).1 (ltn hx_861 (hI_33.1.symm.trans rfl)) (spo ho_31 (hI_33.ixh hx_861))) (qv 8 0 [0, 1, 2, 3, 4, 5, 6, 7, 8, 9, 10, 11, 12, 13, 14, 15, 16, 17] (fun w hm => ld_run (b := aB (o_27.map fun b => ⟨b, 0, none⟩)) (off := (aO (o_27.map fun b => ⟨b, 0, none⟩) + x_53.toNat * 1)) (s := 1) (agg := false) (vs := encHd (hd hh_32 x_53)) (by kernel_rfl) (by kernel_rfl) (.inr rfl) ((hm.ow 5 o_27 34 hh_32 sp_29 (fun e => (ho_31 e).1) encHd_len).at (hI_33.ixh hx_861))) ?_)
            obtain ⟨x_55, hx_862, h⟩ := bd h
            refine qv 11 0 [0, 1, 2, 3, 4, 5, 6, 7, 8, 9, 10, 11, 12, 13, 14, 15, 16, 17] (fun w hm => idx_run (a := (o_65.map fun b => ⟨b, 0, none⟩)) (len := t_11.1.length) (s := 2) (j := i_47) (by kernel_rfl) (ix_some hx_862).1 (ltn hx_862 rfl) (spo ho_69 hx_862)) ?_
            obtain ⟨x_56, hx_863, h⟩ := bd h
            refine qv 12 0 [0, 1, 2, 3, 4, 5, 6, 7, 8, 9, 10, 11, 12, 13, 14, 15, 16, 17] (fun w hm => idx_run (a := some ⟨aB (o_65.map fun b => ⟨b, 0, none⟩), aO (o_65.map fun b => ⟨b, 0, none⟩) + i_47.toNat * 2, none⟩) (len := 2) (s := 1) (j := 1) (by kernel_rfl) (ix_some hx_863).1 (ltn hx_863 x_55.2) rfl) (qv 13 0 [0, 1, 2, 3, 4, 5, 6, 7, 8, 9, 10, 11, 12, 13, 14, 15, 16, 17] (fun w hm => ld_run (b := aB (o_65.map fun b => ⟨b, 0, none⟩)) (off := (aO (o_65.map fun b => ⟨b, 0, none⟩) + i_47.toNat * 2 + (1 : Int).toNat * 1)) (s := 1) (agg := false) (vs := (encI64 x_56)) (by kernel_rfl) (by kernel_rfl) (.inr rfl) (at_arr encI64_len ((hm.ow 12 o_65 51 t_11.1 sp_67 (fun e => (ho_69 e).1) encA2I64_len).at hx_862) hx_863)) ?_)
            obtain ⟨x_57, hx_864, h⟩ := bd h
            exact qv 14 0 [0, 1, 2, 3, 4, 5, 6, 7, 8, 9, 10, 11, 12, 13, 14, 15, 16, 17] (fun w hm => idx_run (a := (hd hh_32 x_53).a) (len := ((hd hh_32 x_53).n)) (s := 1) (j := x_56) (by kernel_rfl) (ix_some hx_864).1 (ltn hx_864 (hI_33.get hx_861).1) (hI_33.sp hx_861 hx_864)) (qv 15 0 [0, 1, 2, 3, 4, 5, 6, 7, 8, 9, 10, 11, 12, 13, 14, 15, 16, 17] (fun w hm => ld_run (b := aB (hd hh_32 x_53).a) (off := (aO (hd hh_32 x_53).a + x_56.toNat * 1)) (s := 1) (agg := false) (vs := (encI64 x_57)) (by kernel_rfl) (by kernel_rfl) (.inr rfl) (((hm.cluInn 6 hI_33 encI64_len).get hx_861).1.at hx_864)) (qd [⟨16, 0, 0⟩,⟨17, 0, 0⟩] 0 [0, 1, 2, 3, 4, 5, 6, 7, 8, 9, 10, 11, 12, 13, 14, 15, 16, 17] (qz (jx_inn (jx_then (jc_region (qh [0,0,0] (qe (qb ((w64 (i_46 + x_57)), (w64 (i_47 + 1))) () h trivial [0, 1, 2, 3, 4, 5, 6, 7, 8, 9, 10, 11, 12, 13, 14, 15, 16, 17])))))))))
         ·refine jc_exit (jx_thenx (jx_leave (.inr i_46) (Option.some.inj h).symm (fun e_875 => ?_)))
          subst e_875
          exact jx_ine (qm i_46 hr_822 [0, 1, 2, 3, 4, 5, 6, 7, 8, 9, 10, 11, 12, 13, 14, 15, 16, 17])
        ·rintro i_27 h
         replace h : laws_FnOrders.k_28 t_3 t_5 t_9 t_11 t_14 t_15 i_27 = some r := h
         rw [laws_FnOrders.k_28] at h
         refine jx_then (jc_seq (jc_seq (jc_region (qh [0,0,0] (qe (jx_then (qi h (fun h => ?_) (fun h => ?_))))))))
         ·refine jc_seq (jc_region (qh [0] (qe (jx_then (jc_ret (jx_thenr ?_))))))
          obtain rfl := Option.some.inj h
          exact qr [] (fun w hm => ⟨rfl, hm.pk []⟩)
         ·refine jc_skip (jx_then (jc_seq (jc_region (qh [0,0,0,0] ?_))))
          obtain ⟨x_29, hx_627, h⟩ := bd h
          refine tO (qx 0 (o_53.map fun b => ⟨b, 0, none⟩) 1 hx_627 rfl (spo ho_57 hx_627) (jkO (tO (ql 0 false (fun w hm => ((hm.ow 10 o_53 2 t_9.1 sp_55 (fun e => (ho_57 e).1) encI64_len).at hx_627)) (jkO ?_)))))
          obtain ⟨x_30, hx_628, h⟩ := bd h
          refine tO (qx 0 (o_27.map fun b => ⟨b, 0, none⟩) 1 hx_628 (hI_33.1.symm.trans rfl) (spo ho_31 (hI_33.ixh hx_628)) (jkO (tO (ql 0 false (fun w hm => ((hm.ow 5 o_27 34 hh_32 sp_29 (fun e => (ho_31 e).1) encHd_len).at (hI_33.ixh hx_628))) (jkO ?_)))))
          obtain ⟨x_31, hx_629, h⟩ := bd h
          refine tO (qx 0 (hd hh_32 x_29).a 1 hx_629 (hI_33.get hx_628).1 (hI_33.sp hx_628 hx_629) (jkO (tO (ql 0 false (fun w hm => (((hm.cluInn 6 hI_33 encI64_len).get hx_628).1.at hx_629)) (jkO (qh [0] (qe (jx_then (jc_seq (jc_seq (jc_region (qh [0] (qe (jx_then (jc_meet (fun (j : Int) => match j with | i_32 => laws_FnOrders.k_33 t_3 t_5 t_9 t_14 t_15 i_32 = some r) (fun (j : Int) => match j with | i_32 => [(4, [], (.bool false)), (7, [], (.int .i64 (t_3.length : Int))), (10, [], (.slice (o_27.map fun b => ⟨b, 0, none⟩) hh_32.length cap_28)), (22, [], (.int .i64 t_9.2.1)), (30, [], (.slice (o_99.map fun b => ⟨b, 0, none⟩) t_14.length cap_100)), (31, [], (.int .i64 t_15.1)), (56, [], (.int .i64 i_32))]) (fun (j : Int) => match j with | i_32 => [⟨o_6, 92, row encGHammer t_2.fHammers sp_8⟩, ⟨some b_11, 27, [(.int .i16 t_2.fSteps), (.slice (o_6.map fun b => ⟨b, 0, none⟩) t_2.fHammers.length cap_7)]⟩, ⟨o_13, 58, row encA96U32 t_3 sp_15⟩, ⟨o_19, 34, row encHd hh_24 sp_21⟩, ⟨none, CLU, cluC encI64 hh_24 t_4.1⟩, ⟨o_27, 34, row encHd hh_32 sp_29⟩, ⟨none, CLU, cluC encI64 hh_32 t_5.1⟩, ⟨o_35, 2, row encI64 t_6.1 sp_37⟩, ⟨o_41, 2, row encI64 t_7.1 sp_43⟩, ⟨o_47, 2, row encI64 t_8.1 sp_49⟩, ⟨o_53, 2, row encI64 t_9.1 sp_55⟩, ⟨o_59, 51, row encA2I64 t_10.1 sp_61⟩, ⟨o_65, 51, row encA2I64 t_11.1 sp_67⟩, ⟨o_99, 2, row encI64 t_14 sp_101⟩, ⟨o_108, 2, row encI64 t_18.1 sp_110⟩, ⟨o_114, 2, row encI64 t_19.1 sp_116⟩, ⟨o_120, 2, row encI64 t_20.1 sp_122⟩, ⟨o_126, 2, row encI64 t_21.1 sp_128⟩]) ?_ ?_)))))))))))))))
          ·refine jc_block ?_
           obtain ⟨t_41, ht_721, hr_712⟩ := bd h
           refine jc_loop (fun (s : Int × Int) (x : Unit) => match s, x with | ⟨i_38, i_39⟩, _ => True) (fun (s : Int × Int) (x : Unit) => match s, x with | ⟨i_38, i_39⟩, _ => [(4, [], (.bool false)), (7, [], (.int .i64 (t_3.length : Int))), (10, [], (.slice (o_27.map fun b => ⟨b, 0, none⟩) hh_32.length cap_28)), (21, [], (.slice (o_53.map fun b => ⟨b, 0, none⟩) t_9.1.length cap_54)), (22, [], (.int .i64 t_9.2.1)), (30, [], (.slice (o_99.map fun b => ⟨b, 0, none⟩) t_14.length cap_100)), (31, [], (.int .i64 t_15.1)), (56, [], (.int .i64 i_38)), (57, [], (.int .i64 i_39))]) (fun (s : Int × Int) (x : Unit) => match s, x with | ⟨i_38, i_39⟩, _ => [⟨o_6, 92, row encGHammer t_2.fHammers sp_8⟩, ⟨some b_11, 27, [(.int .i16 t_2.fSteps), (.slice (o_6.map fun b => ⟨b, 0, none⟩) t_2.fHammers.length cap_7)]⟩, ⟨o_13, 58, row encA96U32 t_3 sp_15⟩, ⟨o_19, 34, row encHd hh_24 sp_21⟩, ⟨none, CLU, cluC encI64 hh_24 t_4.1⟩, ⟨o_27, 34, row encHd hh_32 sp_29⟩, ⟨none, CLU, cluC encI64 hh_32 t_5.1⟩, ⟨o_35, 2, row encI64 t_6.1 sp_37⟩, ⟨o_41, 2, row encI64 t_7.1 sp_43⟩, ⟨o_47, 2, row encI64 t_8.1 sp_49⟩, ⟨o_53, 2, row encI64 t_9.1 sp_55⟩, ⟨o_59, 51, row encA2I64 t_10.1 sp_61⟩, ⟨o_65, 51, row encA2I64 t_11.1 sp_67⟩, ⟨o_99, 2, row encI64 t_14 sp_101⟩, ⟨o_108, 2, row encI64 t_18.1 sp_110⟩, ⟨o_114, 2, row encI64 t_19.1 sp_116⟩, ⟨o_120, 2, row encI64 t_20.1 sp_122⟩, ⟨o_126, 2, row encI64 t_21.1 sp_128⟩]) ht_721 () trivial (by kernel_rfl) [0, 1, 2, 3, 4, 5, 6, 7, 8, 9, 10, 11, 12, 13, 14, 15, 16, 17] (by kernel_rfl) (by kernel_rfl) ?_
           rintro ⟨i_38, i_39⟩ _ y_713 _ h
           rw [laws_FnOrders.l_40] at h
           refine jc_seq (jc_seq (jc_region (qh [0,0,0] (qe (jx_then (qi h (fun h => ?_) (fun h => ?_)))))))
           ·refine jc_skip (jx_then (jc_seq (jc_block (qg [⟨o_6, 92, row encGHammer t_2.fHammers sp_8⟩, ⟨some b_11, 27, [(.int .i16 t_2.fSteps), (.slice (o_6.map fun b => ⟨b, 0, none⟩) t_2.fHammers.length cap_7)]⟩, ⟨o_13, 58, row encA96U32 t_3 sp_15⟩, ⟨o_19, 34, row encHd hh_24 sp_21⟩, ⟨none, CLU, cluC encI64 hh_24 t_4.1⟩, ⟨o_27, 34, row encHd hh_32 sp_29⟩, ⟨none, CLU, cluC encI64 hh_32 t_5.1⟩, ⟨o_35, 2, row encI64 t_6.1 sp_37⟩, ⟨o_41, 2, row encI64 t_7.1 sp_43⟩, ⟨o_47, 2, row encI64 t_8.1 sp_49⟩, ⟨o_53, 2, row encI64 t_9.1 sp_55⟩, ⟨o_59, 51, row encA2I64 t_10.1 sp_61⟩, ⟨o_65, 51, row encA2I64 t_11.1 sp_67⟩, ⟨o_99, 2, row encI64 t_14 sp_101⟩, ⟨o_108, 2, row encI64 t_18.1 sp_110⟩, ⟨o_114, 2, row encI64 t_19.1 sp_116⟩, ⟨o_120, 2, row encI64 t_20.1 sp_122⟩, ⟨o_126, 2, row encI64 t_21.1 sp_128⟩] 17 (qd [⟨0, 0, 0⟩,⟨1, 0, 0⟩,⟨2, 0, 0⟩,⟨3, 0, 0⟩,⟨4, 0, 0⟩,⟨9, 0, 0⟩,⟨10, 0, 0⟩] 10 [0, 1, 2, 3, 4, 5, 6, 7, 8, 9, 10, 11, 12, 13, 14, 15, 16, 17] ?_)))))
            obtain ⟨x_42, hx_716, h⟩ := bd h
            refine qv 5 0 [0, 1, 2, 3, 4, 5, 6, 7, 8, 9, 10, 11, 12, 13, 14, 15, 16, 17] (fun w hm => idx_run (a := (o_53.map fun b => ⟨b, 0, none⟩)) (len := t_9.1.length) (s := 1) (j := (w64 (i_39 - 1))) (by kernel_rfl) (ix_some hx_716).1 (ltn hx_716 rfl) (spo ho_57 hx_716)) (qv 6 0 [0, 1, 2, 3, 4, 5, 6, 7, 8, 9, 10, 11, 12, 13, 14, 15, 16, 17] (fun w hm => ld_run (b := aB (o_53.map fun b => ⟨b, 0, none⟩)) (off := (aO (o_53.map fun b => ⟨b, 0, none⟩) + (w64 (i_39 - 1)).toNat * 1)) (s := 1) (agg := false) (vs := (encI64 x_42)) (by kernel_rfl) (by kernel_rfl) (.inr rfl) ((hm.ow 10 o_53 2 t_9.1 sp_55 (fun e => (ho_57 e).1) encI64_len).at hx_716)) ?_)
            obtain ⟨x_43, hx_717, h⟩ := bd h
            refine qv 7 0 [0, 1, 2, 3, 4, 5, 6, 7, 8, 9, 10, 11, 12, 13, 14, 15, 16, 17] (fun w hm => idx_run (a := (o_27.map fun b => ⟨b, 0, none⟩)) (len := hh_32.length) (s := 1) (j := x_42) (by kernel_rfl) (ix_some hx_717).1 (ltn hx_717 (hI_33.1.symm.trans rfl)) (spo ho_31 (hI_33.ixh hx_717))) (qv 8 0 [0, 1, 2, 3, 4, 5, 6, 7, 8, 9, 10, 11, 12, 13, 14, 15, 16, 17] (fun w hm => ld_run (b := aB (o_27.map fun b => ⟨b, 0, none⟩)) (off := (aO (o_27.map fun b => ⟨b, 0, none⟩) + x_42.toNat * 1)) (s := 1) (agg := false) (vs := encHd (hd hh_32 x_42)) (by kernel_rfl) (by kernel_rfl) (.inr rfl) ((hm.ow 5 o_27 34 hh_32 sp_29 (fun e => (ho_31 e).1) encHd_len).at (hI_33.ixh hx_717))) ?_)
            obtain ⟨x_44, hx_718, h⟩ := bd h
            refine qv 11 0 [0, 1, 2, 3, 4, 5, 6, 7, 8, 9, 10, 11, 12, 13, 14, 15, 16, 17] (fun w hm => idx_run (a := (o_53.map fun b => ⟨b, 0, none⟩)) (len := t_9.1.length) (s := 1) (j := i_39) (by kernel_rfl) (ix_some hx_718).1 (ltn hx_718 rfl) (spo ho_57 hx_718)) (qv 12 0 [0, 1, 2, 3, 4, 5, 6, 7, 8, 9, 10, 11, 12, 13, 14, 15, 16, 17] (fun w hm => ld_run (b := aB (o_53.map fun b => ⟨b, 0, none⟩)) (off := (aO (o_53.map fun b => ⟨b, 0, none⟩) + i_39.toNat * 1)) (s := 1) (agg := false) (vs := (encI64 x_44)) (by kernel_rfl) (by kernel_rfl) (.inr rfl) ((hm.ow 10 o_53 2 t_9.1 sp_55 (fun e => (ho_57 e).1) encI64_len).at hx_718)) ?_)
            obtain ⟨x_45, hx_719, h⟩ := bd h
            exact qv 13 0 [0, 1, 2, 3, 4, 5, 6, 7, 8, 9, 10, 11, 12, 13, 14, 15, 16, 17] (fun w hm => idx_run (a := (hd hh_32 x_42).a) (len := ((hd hh_32 x_42).n)) (s := 1) (j := x_44) (by kernel_rfl) (ix_some hx_719).1 (ltn hx_719 (hI_33.get hx_717).1) (hI_33.sp hx_717 hx_719)) (qv 14 0 [0, 1, 2, 3, 4, 5, 6, 7, 8, 9, 10, 11, 12, 13, 14, 15, 16, 17] (fun w hm => ld_run (b := aB (hd hh_32 x_42).a) (off := (aO (hd hh_32 x_42).a + x_44.toNat * 1)) (s := 1) (agg := false) (vs := (encI64 x_45)) (by kernel_rfl) (by kernel_rfl) (.inr rfl) (((hm.cluInn 6 hI_33 encI64_len).get hx_717).1.at hx_719)) (qd [⟨15, 0, 0⟩,⟨16, 0, 0⟩] 0 [0, 1, 2, 3, 4, 5, 6, 7, 8, 9, 10, 11, 12, 13, 14, 15, 16, 17] (qz (jx_inn (jx_then (jc_region (qh [0,0,0] (qe (qb ((w64 (i_38 + x_45)), (w64 (i_39 + 1))) () h trivial [0, 1, 2, 3, 4, 5, 6, 7, 8, 9, 10, 11, 12, 13, 14, 15, 16, 17])))))))))
           ·refine jc_exit (jx_thenx (jx_leave i_38 (Option.some.inj h).symm (fun e_720 => ?_)))
            subst e_720
            exact jx_ine (qm i_38 hr_712 [0, 1, 2, 3, 4, 5, 6, 7, 8, 9, 10, 11, 12, 13, 14, 15, 16, 17])
          ·rintro i_32 h
           replace h : laws_FnOrders.k_33 t_3 t_5 t_9 t_14 t_15 i_32 = some r := h
           rw [laws_FnOrders.k_33] at h
           refine jx_then (jc_seq (qg [⟨o_6, 92, row encGHammer t_2.fHammers sp_8⟩, ⟨some b_11, 27, [(.int .i16 t_2.fSteps), (.slice (o_6.map fun b => ⟨b, 0, none⟩) t_2.fHammers.length cap_7)]⟩, ⟨o_13, 58, row encA96U32 t_3 sp_15⟩, ⟨o_19, 34, row encHd hh_24 sp_21⟩, ⟨none, CLU, cluC encI64 hh_24 t_4.1⟩, ⟨o_27, 34, row encHd hh_32 sp_29⟩, ⟨none, CLU, cluC encI64 hh_32 t_5.1⟩, ⟨o_35, 2, row encI64 t_6.1 sp_37⟩, ⟨o_41, 2, row encI64 t_7.1 sp_43⟩, ⟨o_47, 2, row encI64 t_8.1 sp_49⟩, ⟨o_53, 2, row encI64 t_9.1 sp_55⟩, ⟨o_59, 51, row encA2I64 t_10.1 sp_61⟩, ⟨o_65, 51, row encA2I64 t_11.1 sp_67⟩, ⟨o_99, 2, row encI64 t_14 sp_101⟩, ⟨o_108, 2, row encI64 t_18.1 sp_110⟩, ⟨o_114, 2, row encI64 t_19.1 sp_116⟩, ⟨o_120, 2, row encI64 t_20.1 sp_122⟩, ⟨o_126, 2, row encI64 t_21.1 sp_128⟩] 14 (qd [⟨0, 0, 0⟩,⟨1, 0, 0⟩,⟨2, 0, 0⟩,⟨3, 0, 0⟩,⟨8, 0, 0⟩] 9 [0, 1, 2, 3, 4, 5, 6, 7, 8, 9, 10, 11, 12, 13, 14, 15, 16, 17] ?_)))
           obtain ⟨x_34, hx_696, h⟩ := bd h
           refine qv 4 0 [0, 1, 2, 3, 4, 5, 6, 7, 8, 9, 10, 11, 12, 13, 14, 15, 16, 17] (fun w hm => idx_run (a := (o_99.map fun b => ⟨b, 0, none⟩)) (len := t_14.length) (s := 1) (j := (w64 ((t_3.length : Int) - 1))) (by kernel_rfl) (ix_some hx_696).1 (ltn hx_696 rfl) (spo ho_103 hx_696)) (qv 5 0 [0, 1, 2, 3, 4, 5, 6, 7, 8, 9, 10, 11, 12, 13, 14, 15, 16, 17] (fun w hm => ld_run (b := aB (o_99.map fun b => ⟨b, 0, none⟩)) (off := (aO (o_99.map fun b => ⟨b, 0, none⟩) + (w64 ((t_3.length : Int) - 1)).toNat * 1)) (s := 1) (agg := false) (vs := (encI64 x_34)) (by kernel_rfl) (by kernel_rfl) (.inr rfl) ((hm.ow 13 o_99 2 t_14 sp_101 (fun e => (ho_103 e).1) encI64_len).at hx_696)) ?_)
           obtain ⟨x_35, hx_697, h⟩ := bd h
           refine qv 6 0 [0, 1, 2, 3, 4, 5, 6, 7, 8, 9, 10, 11, 12, 13, 14, 15, 16, 17] (fun w hm => idx_run (a := (o_27.map fun b => ⟨b, 0, none⟩)) (len := hh_32.length) (s := 1) (j := x_34) (by kernel_rfl) (ix_some hx_697).1 (ltn hx_697 (hI_33.1.symm.trans rfl)) (spo ho_31 (hI_33.ixh hx_697))) (qv 7 0 [0, 1, 2, 3, 4, 5, 6, 7, 8, 9, 10, 11, 12, 13, 14, 15, 16, 17] (fun w hm => ld_run (b := aB (o_27.map fun b => ⟨b, 0, none⟩)) (off := (aO (o_27.map fun b => ⟨b, 0, none⟩) + x_34.toNat * 1)) (s := 1) (agg := false) (vs := encHd (hd hh_32 x_34)) (by kernel_rfl) (by kernel_rfl) (.inr rfl) ((hm.ow 5 o_27 34 hh_32 sp_29 (fun e => (ho_31 e).1) encHd_len).at (hI_33.ixh hx_697))) ?_)
           obtain ⟨x_36, hx_698, h⟩ := bd h
           refine qv 9 0 [0, 1, 2, 3, 4, 5, 6, 7, 8, 9, 10, 11, 12, 13, 14, 15, 16, 17] (fun w hm => idx_run (a := (o_99.map fun b => ⟨b, 0, none⟩)) (len := t_14.length) (s := 1) (j := 0) (by kernel_rfl) (ix_some hx_698).1 (ltn hx_698 rfl) (spo ho_103 hx_698)) (qv 10 0 [0, 1, 2, 3, 4, 5, 6, 7, 8, 9, 10, 11, 12, 13, 14, 15, 16, 17] (fun w hm => ld_run (b := aB (o_99.map fun b => ⟨b, 0, none⟩)) (off := (aO (o_99.map fun b => ⟨b, 0, none⟩) + (0 : Int).toNat * 1)) (s := 1) (agg := false) (vs := (encI64 x_36)) (by kernel_rfl) (by kernel_rfl) (.inr rfl) ((hm.ow 13 o_99 2 t_14 sp_101 (fun e => (ho_103 e).1) encI64_len).at hx_698)) ?_)
           obtain ⟨x_37, hx_699, h⟩ := bd h
           refine qv 11 0 [0, 1, 2, 3, 4, 5, 6, 7, 8, 9, 10, 11, 12, 13, 14, 15, 16, 17] (fun w hm => idx_run (a := (hd hh_32 x_34).a) (len := ((hd hh_32 x_34).n)) (s := 1) (j := x_36) (by kernel_rfl) (ix_some hx_699).1 (ltn hx_699 (hI_33.get hx_697).1) (hI_33.sp hx_697 hx_699)) (qv 12 0 [0, 1, 2, 3, 4, 5, 6, 7, 8, 9, 10, 11, 12, 13, 14, 15, 16, 17] (fun w hm => ld_run (b := aB (hd hh_32 x_34).a) (off := (aO (hd hh_32 x_34).a + x_36.toNat * 1)) (s := 1) (agg := false) (vs := (encI64 x_37)) (by kernel_rfl) (by kernel_rfl) (.inr rfl) (((hm.cluInn 6 hI_33 encI64_len).get hx_697).1.at hx_699)) (qd [⟨13, 0, 0⟩] 0 [0, 1, 2, 3, 4, 5, 6, 7, 8, 9, 10, 11, 12, 13, 14, 15, 16, 17] (qz (jx_then (jc_seq (jc_region (qf [(0, 0), (0, 0), (0, 0), (0, 0), (0, 1), (0, 1), (0, 1), (0, 1), (0, 1), (0, 0), (0, 0)] (qe (jx_then (jc_ret ?_))))))))))
           obtain rfl := Option.some.inj h
           exact qr [] (fun w hm => ⟨rfl, hm.pk []⟩)
end

end Go.Proofs.Ytolfkfjjifdmeaa
