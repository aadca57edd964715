/- The law's row: the law returns true at every input, and each argument reads behind the call as it read before. No condition. -/
import Derived.Test.YtfkjghkjimcmdaaGreatRows
import Derived.Test.YtfkjghkjimcmdaaGreatLFnExactFirstBreak
import Derived.WalkKit
import Derived.ProofKit
import Derived.ShutString
import Derived.ChangeOld
import Derived.Below
namespace Go.Proofs.YtfkjghkjimcmdaaGreat
open Eng
open Go.ChangeShapes Go.WideShapes Go.ChangeAt Go.RowKit
set_option linter.unusedVariables false

theorem ownFnExactFirstBreak : ownKnob Tryz.prog.godebug = none := by kernel_rfl
theorem laidOutFnExactFirstBreak : laidOutB Tryz.prog = true := by kernel_rfl

set_option maxRecDepth 100000 in
theorem FnExactFirstBreak_lifted (os : Os) (started : os.Started) (H : Type) (enc : TypeId × Value → H) :
    ReturnsInHanded {} Tryz.checked os 4 .any (Rows.fnExactFirstBreakSpec.pre6 enc Tryz.prog Tryz.f4 Rows.fnExactFirstBreakRow.domain false) (Rows.fnExactFirstBreakSpec.post enc Tryz.prog Tryz.f4 false true false false) := by
  refine returnsInHanded_of_change (C := Tryz.checked) ownFnExactFirstBreak started (by kernel_rfl) Tryz.func4
    (ChangeSpec.witness6 (enc := enc) (C := Tryz.checked) false ⟨#[], #[.agg #[(.int .i16 0), (.slice none 0 0)], .agg #[(.slice none 0 0), (.slice none 0 0)], .agg #[(.int .i64 0), (.int .i64 0)], (.slice none 0 0)], []⟩ 8 (by kernel_rfl) (by kernel_rfl) (by kernel_rfl) (by kernel_rfl)) ?_
  intro W base args ds gs before hval0 hW hcnd _
  have hval : ∀ (j : Nat) t v, Tryz.f4.params[j]? = some t → args[j]? = some v → Value.okWide Tryz.prog W .any base t v := hval0
  have hW' := hW
  obtain ⟨p, q, hA0, hV, rfl, hfz, hnd⟩ := hW
  have hA : DataW.TrodAll enc Tryz.prog W 0 (fun _ => true) true Tryz.f4.params.toList args.toList ds p := hA0
  rw [Tryz.params4] at hA hval
  obtain ⟨v0, vs0, d0, ds0, p0, q0, hargs, rfl, rfl, h0, r0⟩ := trodAll_cons hA
  obtain ⟨v1, vs1, d1, ds1, p1, q1, rfl, rfl, rfl, h1, r1⟩ := trodAll_cons r0
  obtain ⟨v2, vs2, d2, ds2, p2, q2, rfl, rfl, rfl, h2, r2⟩ := trodAll_cons r1
  obtain ⟨v3, vs3, d3, ds3, p3, q3, rfl, rfl, rfl, h3, r3⟩ := trodAll_cons r2
  obtain ⟨rfl, rfl, rfl⟩ := trodAll_nil r3
  obtain rfl : args = #[v0, v1, v2, v3] := by cases args; simp_all
  obtain ⟨rfl, rfl⟩ := trodVars_none hV
  have k0 := h0
  have lt0 : ∀ x ∈ p0, x.block < W.heap.size := by obtain ⟨m, hm⟩ := k0; exact DataW.trod_lt m _ _ _ hm
  obtain ⟨fuel0, hf0⟩ := h0
  obtain ⟨cs0, rfl, _⟩ := okWide_struct Tryz.underlying25 (hval 0 25 v0 rfl rfl)
  obtain ⟨x0, a0_0, c0_0, g0, w0_0, o0⟩ := opn_GFrame_25 hf0
  obtain rfl := arr_of g0
  have k1 := h1
  have lt1 : ∀ x ∈ p1, x.block < W.heap.size := by obtain ⟨m, hm⟩ := k1; exact DataW.trod_lt m _ _ _ hm
  obtain ⟨fuel1, hf1⟩ := h1
  obtain ⟨cs1, rfl, _⟩ := okWide_struct Tryz.underlying29 (hval 1 29 v1 rfl rfl)
  obtain ⟨x1, a1_0, c1_0, a1_1, c1_1, g1, w1_0, w1_1, o1⟩ := opn_GWear_29 hf1
  obtain rfl := arr_of g1
  have k2 := h2
  have lt2 : ∀ x ∈ p2, x.block < W.heap.size := by obtain ⟨m, hm⟩ := k2; exact DataW.trod_lt m _ _ _ hm
  obtain ⟨fuel2, hf2⟩ := h2
  obtain ⟨cs2, rfl, _⟩ := okWide_struct Tryz.underlying31 (hval 2 31 v2 rfl rfl)
  obtain ⟨x2, g2, o2⟩ := opn_GLives_31 hf2
  obtain rfl := arr_of g2
  have k3 := h3
  have lt3 : ∀ x ∈ p3, x.block < W.heap.size := by obtain ⟨m, hm⟩ := k3; exact DataW.trod_lt m _ _ _ hm
  obtain ⟨fuel3, hf3⟩ := h3
  obtain ⟨b3, l3, u3, rfl⟩ := okWide_slice Tryz.underlying32 (hval 3 32 v3 rfl rfl)
  obtain ⟨a3, x3, c3, g3, w3, o3⟩ := (opn_sl (P := Tryz.prog) (e := 91) (m := 5) (encS := encGAct) (ok := fun y => okGAct y) (by kernel_rfl) (by kernel_rfl) (by decide) (fun n cs x h => opn_GAct_91 h)) hf3
  have g3' := one_of g3 (by rfl)
  cases g3'
  clear hA0 hval0
  refine (laws_FnExactFirstBreak.calls x0 x1 x2 x3 W true _ _ _ w0_0 rfl _ _ _ w1_0 rfl _ _ _ w1_1 rfl _ _ _ w3 rfl (FnExactFirstBreak_ok x0 x1 x2 x3 o0 o1 o2 o3)).mono fun e W' ⟨v, he, hv, hm⟩ => ?_
  subst he hv
  have bel := hm.below
  exact ⟨_, rfl, _, _, _, [], _, [], hW', trodAll_mk1 (shut_bool Tryz.underlying4 _), (trodAll_cons_mk (Below.trod laidOutFnExactFirstBreak (by kernel_rfl) (of_decide_eq_true (by kernel_rfl)) k0 bel lt0) (trodAll_cons_mk (Below.trod laidOutFnExactFirstBreak (by kernel_rfl) (of_decide_eq_true (by kernel_rfl)) k1 bel lt1) (trodAll_cons_mk (Below.trod laidOutFnExactFirstBreak (by kernel_rfl) (of_decide_eq_true (by kernel_rfl)) k2 bel lt2) (trodAll_cons_mk (Below.trod laidOutFnExactFirstBreak (by kernel_rfl) (of_decide_eq_true (by kernel_rfl)) k3 bel lt3) trodAll_mk0)))), rfl, bel.frame _, fun h => by cases h⟩

theorem FnExactFirstBreak_over : Rows.fnExactFirstBreakRow.holds Tryz.pinned (OpenSpec.ofChange Rows.fnExactFirstBreakSpec) :=
  OpenClaim.holds_of_wide 4 Tryz.f4 rfl rfl rfl rfl rfl rfl rfl ⟨rfl, rfl, rfl, rfl, rfl⟩ rfl rfl rfl rfl rfl (by kernel_rfl) Tryz.func4 (by kernel_rfl)
    (of_decide_eq_true (by kernel_rfl)) (by unfold Func.isWrapper; first | (rw [if_pos (by decide +kernel)]; kernel_rfl) | (rw [if_neg (by decide +kernel)]; exact ⟨rfl, rfl⟩))
    (fun os started H enc _ => FnExactFirstBreak_lifted os started H enc)
theorem FnExactFirstBreak_proved : Rows.FnExactFirstBreakSaid := FnExactFirstBreak_over
#print axioms FnExactFirstBreak_proved

end Go.Proofs.YtfkjghkjimcmdaaGreat
