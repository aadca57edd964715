/- Functions of the program that the laws reach: a plain function each, and that the call comes to its answer if the plain function has one. Printed by a program. -/
import Derived.Test.YtdnkjgmncfhejaaT
namespace Go.Proofs.Ytdnkjgmncfhejaa
open Eng
set_option linter.unusedVariables false

/-! ### impl.firstOf -/
noncomputable def impl_firstOf.k_1 : Option (Int) := some 0
noncomputable def impl_firstOf.l_3 (codes0 : List Int) : Int → Option ((Int) ⊕ (Int ⊕ Unit))
  | i_2 => (if (decide (i_2 < (codes0.length : Int))) = true then (ix codes0 i_2).bind fun x_5 => (if (x_5 != 0) = true then some (.inr (.inl x_5)) else some (.inl (w64 (i_2 + 1)))) else some (.inr (.inr ())))
noncomputable def impl_firstOf (codes0 : List Int) : Option (Int) := (loop (impl_firstOf.l_3 codes0) 0).bind fun t_4 => match t_4 with | .inl p => some p | .inr p => impl_firstOf.k_1
set_option maxRecDepth 100000 in
theorem impl_firstOf.calls (codes0 : List Int) (w : World) (r : Int) (codes0_a : Option Addr) (codes0_an : Nat) (codes0_c : Nat) (codes0_h : Rw w codes0_a 1 encI64 codes0) (codes0_hn : codes0.length = codes0_an) (h : impl_firstOf codes0 = some r) :
    Calls Try.prog 106 #[(.slice codes0_a codes0_an codes0_c)] w fun e w' => ∃ v, e = .returned v ∧ (v = (.int .i64 r) ∧ Mem w [] [] w') := by
  subst codes0_hn
  rw [impl_firstOf] at h
  refine enter (args := [(.slice codes0_a codes0.length codes0_c)]) Try.func106 rfl Try.ntmps106 (by kernel_rfl) (L := []) (W := []) (Mem.start w) ?_
  refine jc_seq ?_
  refine jc_region ?_
  refine jo_f [(0, 0)] (by kernel_rfl) ?_
  refine jo_end (by kernel_rfl) ?_
  refine jx_then ?_
  refine jc_seq ?_
  refine jc_seq ?_
  refine jc_region ?_
  refine jo_f [(0, 0), (0, 0), (0, 0)] (by kernel_rfl) ?_
  refine jo_end (by kernel_rfl) ?_
  refine jx_then ?_
  refine jc_meet (fun (_ : Unit) => impl_firstOf.k_1 = some r) (fun (_ : Unit) => [(2, [], (.int .i64 0))]) (fun (_ : Unit) => []) ?_ ?_
  · refine jc_block ?_
    obtain ⟨t_4, ht_34, hr_26⟩ := bd h
    refine jc_loop (fun (s : Int) (x : Unit) => match s, x with | i_2, _ => True) (fun (s : Int) (x : Unit) => match s, x with | i_2, _ => [(2, [], (.int .i64 0)), (5, [], (.slice codes0_a codes0.length codes0_c)), (6, [], (.int .i64 (codes0.length : Int))), (7, [], (.int .i64 i_2))]) (fun (s : Int) (x : Unit) => match s, x with | i_2, _ => []) ht_34 () trivial (by kernel_rfl) [] (by kernel_rfl) (by kernel_rfl) ?_
    rintro i_2 _ y_27 _ h
    rw [impl_firstOf.l_3] at h
    refine jc_seq ?_
    refine jc_region ?_
    refine jo_f [(0, 0)] (by kernel_rfl) ?_
    refine jo_end (by kernel_rfl) ?_
    refine jx_then ?_
    refine jc_seq ?_
    refine jc_cond (decide (i_2 < (codes0.length : Int))) (by kernel_rfl) (fun hc_29 => ?_) (fun hc_29 => ?_)
    · replace h := ifT hc_29 h
      refine jc_skip ?_
      refine jx_then ?_
      refine jc_seq ?_
      refine jc_block ?_
      refine jc_seq ?_
      refine jc_region ?_
      obtain ⟨x_5, hx_30, h⟩ := bd h
      refine toO (by kernel_rfl) (p_idx 0 codes0_a codes0.length i_2 1 (by kernel_rfl) (by kernel_rfl) (ix_some hx_30).1 (ltn hx_30 rfl) (codes0_h.sp hx_30) (jkO ?_))
      refine toO (by kernel_rfl) (p_ld 0 (aB codes0_a) (aO codes0_a + i_2.toNat * 1) false (encI64 x_5) (by kernel_rfl) (by kernel_rfl) (by kernel_rfl) (fun w hm => ((hm.exRow codes0_h List.not_mem_nil).at hx_30)) (jkO ?_))
      refine jo_f [(0, 0)] (by kernel_rfl) ?_
      refine jo_end (by kernel_rfl) ?_
      refine jx_then ?_
      refine jc_seq ?_
      refine jc_region ?_
      refine jo_f [(0, 0), (0, 0)] (by kernel_rfl) ?_
      refine jo_end (by kernel_rfl) ?_
      refine jx_then ?_
      refine jc_cond (x_5 != 0) (by kernel_rfl) (fun hc_31 => ?_) (fun hc_31 => ?_)
      · replace h := ifT hc_31 h
        refine jc_seq ?_
        refine jc_region ?_
        refine jo_f [(0, 0), (0, 0)] (by kernel_rfl) ?_
        refine jo_end (by kernel_rfl) ?_
        refine jx_then ?_
        refine jc_ret ?_
        refine jx_inr ?_
        refine jx_thenr ?_
        refine jx_leaver (.inl x_5) (Option.some.inj h).symm (fun e_32 => ?_)
        subst e_32
        refine jx_inr ?_
        refine jx_thenr ?_
        refine jx_thenr ?_
        obtain rfl := Option.some.inj hr_26
        exact jx_ret [] (.int .i64 x_5) [] rfl (by kernel_rfl) (by kernel_rfl) (fun w hm => ⟨rfl, hm.pick [] (by kernel_rfl) (by kernel_rfl)⟩)
      · replace h := ifF hc_31 h
        refine jc_skip ?_
        refine jx_inn ?_
        refine jx_then ?_
        refine jc_region ?_
        refine jo_f [(0, 0), (0, 0)] (by kernel_rfl) ?_
        refine jo_end (by kernel_rfl) ?_
        exact jx_back (w64 (i_2 + 1)) () (Option.some.inj h).symm trivial [] (by kernel_rfl) (by kernel_rfl) (by kernel_rfl)
    · replace h := ifF hc_29 h
      refine jc_exit ?_
      refine jx_thenx ?_
      refine jx_leave (.inr ()) (Option.some.inj h).symm (fun e_33 => ?_)
      subst e_33
      refine jx_ine ?_
      exact jx_meet () hr_26 (by kernel_rfl) [] (by kernel_rfl) (by kernel_rfl)
  · rintro _ h
    replace h : impl_firstOf.k_1 = some r := h
    rw [impl_firstOf.k_1] at h
    refine jx_then ?_
    refine jc_seq ?_
    refine jc_region ?_
    refine jo_f [(0, 0)] (by kernel_rfl) ?_
    refine jo_end (by kernel_rfl) ?_
    refine jx_then ?_
    refine jc_ret ?_
    obtain rfl := Option.some.inj h
    exact jx_ret [] (.int .i64 0) [] rfl (by kernel_rfl) (by kernel_rfl) (fun w hm => ⟨rfl, hm.pick [] (by kernel_rfl) (by kernel_rfl)⟩)
end Go.Proofs.Ytdnkjgmncfhejaa
