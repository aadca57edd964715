/- The law's row: the law returns true at every input, and each argument reads behind the call as it read before. No condition. -/
import Derived.Test.YtplklknkkaeniaaDoorRows
import Derived.Test.YtplklknkkaeniaaDoorLFnExactActsText
import Derived.Test.YtplklknkkaeniaaDoorTie
import Derived.Test.YtplklknkkaeniaaDoorCards
import Derived.SevenTiedAt
import Derived.LaidMore
import Derived.Deep.DeepHandedRow
import Derived.MakeChecks
import Derived.Stop.LaidErr
import Derived.Shelf.Vars
import Derived.Lib.LaidU8
import Derived.WalkKit
import Derived.ProofKit
import Derived.ShutString
import Derived.ChangeOld
import Derived.Below
namespace Go.Proofs.YtplklknkkaeniaaDoor
open Eng
open Go.ChangeShapes Go.WideShapes Go.ChangeAt Go.RowKit
set_option linter.unusedVariables false

theorem ownFnExactActsText : ownKnob Tryd.prog.godebug = none := by kernel_rfl
theorem laidOutFnExactActsText : laidOutB Tryd.prog = true := by kernel_rfl

theorem door_metFnExactActsText (os : Os) (args : Array Value) : laidMetH Tryd.prog Rows.fnExactActsTextRow.laid ((World.doorLaid Tryd.prog 400 os).forCall (fun _ _ => 0) ⟨#[], args, []⟩).memory :=
  laidMetH_of_parts3 (fuel := 8) (laidMet_of_run' 8 (by kernel_rfl) (by kernel_rfl)) (by kernel_rfl) (by kernel_rfl)
theorem sz_ofFnExactActsText {W : World} (h : W.ShapedOpen Tryd.prog) : Tryd.prog.globals.size ≤ W.heap.size := by
  have h0 : (((begin Tryd.prog (fun _ _ => 0) default).world.heap[7]?).bind Obj.row?).isSome = true := by kernel_rfl
  obtain ⟨⟨zero, t⟩, hz⟩ := Option.isSome_iff_exists.1 h0
  obtain ⟨cs, hc, _, _⟩ := h.1 7 zero t (of_decide_eq_true (by kernel_rfl)) hz
  have := heap_lt hc
  have hg : Tryd.prog.globals.size = 8 := by kernel_rfl
  omega
theorem pw_ofFnExactActsText {W : World} (h : laidMetH Tryd.prog Rows.fnExactActsTextRow.laid W) (hs : W.ShapedOpen Tryd.prog) : Glpw W := by
  rw [MakeChecks.laidMetH_plain _ _ _ (by kernel_rfl)] at h
  have e : (Rows.laid_internal_strconv_uint64pow10 : DataW Unit) = Go.Lib.tabData .u64 Go.Lib.pow10Tab := by kernel_rfl
  have h2 := h.tail.tail
  rw [e] at h2
  exact ⟨Go.Lib.tabIs_of_head (g := 0) (by kernel_rfl) (by kernel_rfl) Tryd.underlying109 Tryd.underlying92 (by kernel_rfl) (by kernel_rfl) h2, sz_ofFnExactActsText hs⟩
theorem lo_ofFnExactActsText {W : World} (h : laidMetH Tryd.prog Rows.fnExactActsTextRow.laid W) (hs : W.ShapedOpen Tryd.prog) : Gllo W := by
  exact ⟨fun h => h⟩
set_option maxRecDepth 100000 in
theorem FnExactActsText_lifted (os : Os) (started : os.Started) (H : Type) (enc : TypeId × Value → H) (F : Stop.Interp) :
    ReturnsInHanded {} Tryd.checked os 3 .any ((OpenSpec.ofChange Rows.fnExactActsTextSpec).preRow enc Tryd.prog Tryd.f3 Rows.fnExactActsTextRow.domain false Rows.fnExactActsTextRow.laid) (((OpenSpec.ofChange Rows.fnExactActsTextSpec).at F).post enc Tryd.prog Tryd.f3 false true false false) := by
  refine returnsInHanded_of_row (C := Tryd.checked) (s := OpenSpec.ofChange Rows.fnExactActsTextSpec) ownFnExactActsText started (by kernel_rfl) Tryd.func3
    (ChangeSpec.witness_shaped (enc := enc) (C := Tryd.checked) (os := os) (X := fun w _ => laidMetH Tryd.prog Rows.fnExactActsTextRow.laid w) false (World.doorLaid Tryd.prog 400 os) #[(.slice none 0 0)] 8 rfl (World.shaped_of_RefB (by kernel_rfl) (by kernel_rfl)) (by kernel_rfl) (by kernel_rfl) (by kernel_rfl) (door_metFnExactActsText os _)) ?_
  intro W base args ds gs before hval0 hW hcnd _ _ hL hSh _
  have hval : ∀ (j : Nat) t v, Tryd.f3.params[j]? = some t → args[j]? = some v → Value.okWide Tryd.prog W .any base t v := hval0
  have hW' := hW
  obtain ⟨p, q, hA0, hV, rfl, hfz, hnd⟩ := hW
  have hA : DataW.TrodAll enc Tryd.prog W 0 (fun _ => true) true Tryd.f3.params.toList args.toList ds p := hA0
  rw [Tryd.params3] at hA hval
  obtain ⟨v0, vs0, d0, ds0, p0, q0, hargs, rfl, rfl, h0, r0⟩ := trodAll_cons hA
  obtain ⟨rfl, rfl, rfl⟩ := trodAll_nil r0
  obtain rfl : args = #[v0] := by cases args; simp_all
  obtain ⟨rfl, rfl⟩ := trodVars_none hV
  have k0 := h0
  have lt0 : ∀ x ∈ p0, x.block < W.heap.size := by obtain ⟨m, hm⟩ := k0; exact DataW.trod_lt m _ _ _ hm
  obtain ⟨fuel0, hf0⟩ := h0
  obtain ⟨b0, l0, u0, rfl⟩ := okWide_slice Tryd.underlying22 (hval 0 22 v0 rfl rfl)
  obtain ⟨a0, x0, c0, g0, w0, o0⟩ := (opn_sl (P := Tryd.prog) (e := 39) (m := 5) (encS := encGAct) (ok := fun y => okGAct y) (by kernel_rfl) (by kernel_rfl) (by decide) (fun n cs x h => opn_GAct_39 h)) hf0
  have g0' := one_of g0 (by rfl)
  cases g0'
  clear hA0 hval0
  refine (laws_FnExactActsText.calls x0 W true (lo_ofFnExactActsText hL hSh) (pw_ofFnExactActsText hL hSh) _ _ _ w0 rfl (FnExactActsText_ok x0 o0)).mono fun e W' ⟨v, he, hv, hm⟩ => ?_
  subst he hv
  have bel := hm.below
  exact ⟨_, rfl, _, _, _, [], _, [], hW', trodAll_mk1 (shut_bool Tryd.underlying4 _), (trodAll_cons_mk (Below.trod laidOutFnExactActsText (by kernel_rfl) (of_decide_eq_true (by kernel_rfl)) k0 bel lt0) trodAll_mk0), rfl, bel.frame _, fun h => by cases h⟩

theorem FnExactActsText_over : Rows.fnExactActsTextRow.holds Tryd.pinned (OpenSpec.ofChange Rows.fnExactActsTextSpec) :=
  OpenClaim.holds_of_wide 3 Tryd.f3 rfl rfl rfl rfl rfl rfl rfl ⟨rfl, rfl, rfl, rfl, rfl⟩ rfl rfl rfl rfl rfl (by kernel_rfl) Tryd.func3 (by kernel_rfl)
    (of_decide_eq_true (by kernel_rfl)) (by unfold Func.isWrapper; first | (rw [if_pos (by decide +kernel)]; kernel_rfl) | (rw [if_neg (by decide +kernel)]; exact ⟨rfl, rfl⟩))
    (fun os started H enc _ => by rw [OpenClaim.pre_eq_preRow]; exact FnExactActsText_lifted os started H enc default)
theorem FnExactActsText_proved : Rows.FnExactActsTextCardSaid :=
  Claim7.holds_tied_plain_at .later [] [.data, .data, .data] true (true, "0d29a4d9f1089beea6481c9bcda6385d105c8abffda7199be2a50b7c65632a2a") true
    FnExactActsText_over (fun _ h => by cases h) (by kernel_rfl) (fun _ h => by cases h) fnExactActsText_row_tie rfl ⟨rfl, rfl⟩ (by kernel_rfl) rfl
    (fun f fn hf hfn => by
      obtain rfl : f = 3 := Option.some.inj ((show Tryd.prog.funcNamed "loop.example/g01311/laws.FnExactActsText" = some 3 by kernel_rfl).symm.trans hf) |>.symm
      obtain rfl : fn = Tryd.f3 := (Option.some.inj (Tryd.func3.symm.trans hfn)).symm
      exact ⟨by kernel_rfl, fun j t ht => by
        rw [Tryd.params3] at ht
        have hm : t ∈ [22] := by simpa using Array.mem_of_getElem? ht
        have hall : ([22].all fun u => !Tryd.prog.wantsStandIn u) = true := by kernel_rfl
        exact (show Tryd.prog.wantsStandIn t = false by simpa using List.all_eq_true.1 hall t hm)⟩)
    (by kernel_rfl)
#print axioms FnExactActsText_proved

end Go.Proofs.YtplklknkkaeniaaDoor
