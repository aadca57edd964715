/- The law's row: the law returns true at every input, and each argument reads behind the call as it read before. No condition. -/
import Derived.Test.YteedohcicmgkaaaRows
import Derived.Test.YteedohcicmgkaaaLFnExactNeedlessTracks
import Derived.WalkKit
import Derived.ProofKit
import Derived.ShutString
import Derived.ChangeOld
import Derived.Below
namespace Go.Proofs.Yteedohcicmgkaaa
open Eng
open Go.ChangeShapes Go.WideShapes Go.ChangeAt Go.RowKit
set_option linter.unusedVariables false

theorem ownFnExactNeedlessTracks : ownKnob Try.prog.godebug = none := by kernel_rfl
theorem laidOutFnExactNeedlessTracks : laidOutB Try.prog = true := by kernel_rfl

set_option maxRecDepth 100000 in
theorem FnExactNeedlessTracks_lifted (os : Os) (started : os.Started) (H : Type) (enc : TypeId × Value → H) :
    ReturnsInHanded {} Try.checked os 5 .any (Rows.fnExactNeedlessTracksSpec.pre6 enc Try.prog Try.f5 Rows.fnExactNeedlessTracksRow.domain false) (Rows.fnExactNeedlessTracksSpec.post enc Try.prog Try.f5 false true false false) := by
  refine returnsInHanded_of_change (C := Try.checked) ownFnExactNeedlessTracks started (by kernel_rfl) Try.func5
    (ChangeSpec.witness6 (enc := enc) (C := Try.checked) false ⟨#[], #[.agg #[(.int .i16 0), (.slice none 0 0)], (.slice none 0 0)], []⟩ 8 (by kernel_rfl) (by kernel_rfl) (by kernel_rfl) (by kernel_rfl)) ?_
  intro W base args ds gs before hval0 hW hcnd _
  have hval : ∀ (j : Nat) t v, Try.f5.params[j]? = some t → args[j]? = some v → Value.okWide Try.prog W .any base t v := hval0
  have hW' := hW
  obtain ⟨p, q, hA0, hV, rfl, hfz, hnd⟩ := hW
  have hA : DataW.TrodAll enc Try.prog W 0 (fun _ => true) true Try.f5.params.toList args.toList ds p := hA0
  rw [Try.params5] at hA hval
  obtain ⟨v0, vs0, d0, ds0, p0, q0, hargs, rfl, rfl, h0, r0⟩ := trodAll_cons hA
  obtain ⟨v1, vs1, d1, ds1, p1, q1, rfl, rfl, rfl, h1, r1⟩ := trodAll_cons r0
  obtain ⟨rfl, rfl, rfl⟩ := trodAll_nil r1
  obtain rfl : args = #[v0, v1] := by cases args; simp_all
  obtain ⟨rfl, rfl⟩ := trodVars_none hV
  have k0 := h0
  have lt0 : ∀ x ∈ p0, x.block < W.heap.size := by obtain ⟨m, hm⟩ := k0; exact DataW.trod_lt m _ _ _ hm
  obtain ⟨fuel0, hf0⟩ := h0
  obtain ⟨cs0, rfl, _⟩ := okWide_struct Try.underlying25 (hval 0 25 v0 rfl rfl)
  obtain ⟨x0, a0_0, c0_0, g0, w0_0, o0⟩ := opn_GFrame_25 hf0
  obtain rfl := arr_of g0
  have k1 := h1
  have lt1 : ∀ x ∈ p1, x.block < W.heap.size := by obtain ⟨m, hm⟩ := k1; exact DataW.trod_lt m _ _ _ hm
  obtain ⟨fuel1, hf1⟩ := h1
  obtain ⟨b1, l1, u1, rfl⟩ := okWide_slice Try.underlying47 (hval 1 47 v1 rfl rfl)
  obtain ⟨a1, x1, c1, g1, w1, o1⟩ := (opn_sl (P := Try.prog) (e := 106) (m := 2) (encS := encGNote) (ok := fun y => okGNote y) (by kernel_rfl) (by kernel_rfl) (by decide) (fun n cs x h => opn_GNote_106 h)) hf1
  have g1' := one_of g1 (by rfl)
  cases g1'
  clear hA0 hval0
  refine (laws_FnExactNeedlessTracks.calls x0 x1 W true _ w0_0 rfl _ w1 rfl (FnExactNeedlessTracks_ok x0 x1 o0 o1)).mono fun e W' ⟨v, he, hv, hm⟩ => ?_
  subst he hv
  have bel := hm.below
  exact ⟨_, rfl, _, _, _, [], _, [], hW', trodAll_mk1 (shut_bool Try.underlying4 _), (trodAll_cons_mk (Below.trod laidOutFnExactNeedlessTracks (by kernel_rfl) (of_decide_eq_true (by kernel_rfl)) k0 bel lt0) (trodAll_cons_mk (Below.trod laidOutFnExactNeedlessTracks (by kernel_rfl) (of_decide_eq_true (by kernel_rfl)) k1 bel lt1) trodAll_mk0)), rfl, bel.frame _, fun h => by cases h⟩

theorem FnExactNeedlessTracks_over : Rows.fnExactNeedlessTracksRow.holds Try.pinned (OpenSpec.ofChange Rows.fnExactNeedlessTracksSpec) :=
  OpenClaim.holds_of_wide 5 Try.f5 rfl rfl rfl rfl rfl rfl rfl ⟨rfl, rfl, rfl, rfl, rfl⟩ rfl rfl rfl rfl rfl (by kernel_rfl) Try.func5 (by kernel_rfl)
    (of_decide_eq_true (by kernel_rfl)) (by unfold Func.isWrapper; first | (rw [if_pos (by decide +kernel)]; kernel_rfl) | (rw [if_neg (by decide +kernel)]; exact ⟨rfl, rfl⟩))
    (fun os started H enc _ => FnExactNeedlessTracks_lifted os started H enc)
theorem FnExactNeedlessTracks_proved : Rows.FnExactNeedlessTracksSaid := FnExactNeedlessTracks_over
#print axioms FnExactNeedlessTracks_proved

end Go.Proofs.Yteedohcicmgkaaa
