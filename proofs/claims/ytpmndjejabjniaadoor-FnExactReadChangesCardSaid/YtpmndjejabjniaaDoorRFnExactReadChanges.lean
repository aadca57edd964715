/- The law's row: the law returns true at every input, and each argument reads behind the call as it read before. No condition. -/
import Derived.Test.YtpmndjejabjniaaDoorRows
import Derived.Test.YtpmndjejabjniaaDoorLFnExactReadChanges
import Derived.Test.YtpmndjejabjniaaDoorTie
import Derived.Test.YtpmndjejabjniaaDoorCards
import Derived.SevenTiedAt
import Derived.LaidMore
import Derived.Deep.DeepHandedRow
import Derived.MakeChecks
import Derived.Stop.LaidErr
import Derived.Shelf.Vars
import Derived.Lib.LaidU8
import Derived.WalkKit
import Derived.ProofKit
import Derived.ShutString
import Derived.ChangeOld
import Derived.Below
namespace Go.Proofs.YtpmndjejabjniaaDoor
open Eng
open Go.ChangeShapes Go.WideShapes Go.ChangeAt Go.RowKit
set_option linter.unusedVariables false

theorem ownFnExactReadChanges : ownKnob Tryd.prog.godebug = none := by kernel_rfl
theorem laidOutFnExactReadChanges : laidOutB Tryd.prog = true := by kernel_rfl

/-- the world that the start-up code leaves, one of the library's tables laid too -/
noncomputable def doorWFnExactReadChanges (os : Os) : World :=
  let w0 := World.doorLaid Tryd.prog 400 os
  { w0 with heap := w0.heap.modify 4 fun
    | .cells _ t fz => .cells (Go.Lib.firstTab.map fun z => Value.int .u8 z).toArray t fz
    | x => x }
theorem door_metFnExactReadChanges (os : Os) (args : Array Value) : laidMetH Tryd.prog Rows.fnExactReadChangesRow.laid ((doorWFnExactReadChanges os).forCall (fun _ _ => 0) ⟨#[], args, []⟩).memory :=
  laidMetH_of_parts3 (fuel := 8) (laidMet_of_run' 8 (by kernel_rfl) (by kernel_rfl)) (by kernel_rfl) (by kernel_rfl)
theorem sz_ofFnExactReadChanges {W : World} (h : W.ShapedOpen Tryd.prog) : Tryd.prog.globals.size ≤ W.heap.size := by
  have h0 : (((begin Tryd.prog (fun _ _ => 0) default).world.heap[7]?).bind Obj.row?).isSome = true := by kernel_rfl
  obtain ⟨⟨zero, t⟩, hz⟩ := Option.isSome_iff_exists.1 h0
  obtain ⟨cs, hc, _, _⟩ := h.1 7 zero t (of_decide_eq_true (by kernel_rfl)) hz
  have := heap_lt hc
  have hg : Tryd.prog.globals.size = 8 := by kernel_rfl
  omega
theorem pw_ofFnExactReadChanges {W : World} (h : laidMetH Tryd.prog Rows.fnExactReadChangesRow.laid W) (hs : W.ShapedOpen Tryd.prog) : Glpw W := by
  rw [MakeChecks.laidMetH_plain _ _ _ (by kernel_rfl)] at h
  have e : (Rows.laid_internal_strconv_uint64pow10 : DataW Unit) = Go.Lib.tabData .u64 Go.Lib.pow10Tab := by kernel_rfl
  have h2 := h.tail.tail
  rw [e] at h2
  exact ⟨Go.Lib.tabIs_of_head (g := 1) (by kernel_rfl) (by kernel_rfl) Tryd.underlying149 Tryd.underlying131 (by kernel_rfl) (by kernel_rfl) h2, sz_ofFnExactReadChanges hs⟩
theorem ml_ofFnExactReadChanges {W : World} (h : laidMetH Tryd.prog Rows.fnExactReadChangesRow.laid W) (hs : W.ShapedOpen Tryd.prog) : Glml W := by
  exact ⟨Go.Proofs.cell_of_shapedOpen_int (zero := #[.int .i64 0]) (t := 3) hs (of_decide_eq_true (by kernel_rfl)) (by kernel_rfl) rfl (by kernel_rfl) (by kernel_rfl) Tryd.underlying3, sz_ofFnExactReadChanges hs⟩
theorem er_ofFnExactReadChanges {W : World} (h : laidMetH Tryd.prog Rows.fnExactReadChangesRow.laid W) (hs : W.ShapedOpen Tryd.prog) : Gler W := by
  rw [MakeChecks.laidMetH_plain _ _ _ (by kernel_rfl)] at h
  have star : ("*" ++ "errors.errorString" : String) = "*errors.errorString" := by decide
  exact ⟨(by
    obtain ⟨a, s, hv, _⟩ := laid_sentinel (g := 2) (ti := 63) (tp := 166) (te := 168) (ts := 9) h.tail.tail.tail.tail.tail (by kernel_rfl) (by kernel_rfl) Tryd.underlying63 (fun u hu => typeName_ptr_named (nm := "errors.errorString") (by rw [star]; kernel_rfl) (by kernel_rfl) (by decide) u (by rw [star]; exact hu)) Tryd.underlying166 Tryd.underlying168 rfl rfl Tryd.underlying9 (by kernel_rfl) (by kernel_rfl)
    have hc := World.var?_cell (g := 2) (by kernel_rfl) hv 0
    exact ⟨_, by simpa using hc, .inr ⟨_, _, rfl⟩⟩),
   (by
    obtain ⟨a, s, hv, _⟩ := laid_sentinel (g := 3) (ti := 63) (tp := 166) (te := 168) (ts := 9) h.tail.tail.tail.tail (by kernel_rfl) (by kernel_rfl) Tryd.underlying63 (fun u hu => typeName_ptr_named (nm := "errors.errorString") (by rw [star]; kernel_rfl) (by kernel_rfl) (by decide) u (by rw [star]; exact hu)) Tryd.underlying166 Tryd.underlying168 rfl rfl Tryd.underlying9 (by kernel_rfl) (by kernel_rfl)
    have hc := World.var?_cell (g := 3) (by kernel_rfl) hv 0
    exact ⟨_, by simpa using hc, .inr ⟨_, _, rfl⟩⟩), sz_ofFnExactReadChanges hs⟩
set_option maxRecDepth 100000 in
theorem FnExactReadChanges_lifted (os : Os) (started : os.Started) (H : Type) (enc : TypeId × Value → H) (F : Stop.Interp) :
    ReturnsInHanded {} Tryd.checked os 5 .any ((OpenSpec.ofChange Rows.fnExactReadChangesSpec).preRow enc Tryd.prog Tryd.f5 Rows.fnExactReadChangesRow.domain false Rows.fnExactReadChangesRow.laid) (((OpenSpec.ofChange Rows.fnExactReadChangesSpec).at F).post enc Tryd.prog Tryd.f5 false true false false) := by
  refine returnsInHanded_of_row (C := Tryd.checked) (s := OpenSpec.ofChange Rows.fnExactReadChangesSpec) ownFnExactReadChanges started (by kernel_rfl) Tryd.func5
    (ChangeSpec.witness_shaped (enc := enc) (C := Tryd.checked) (os := os) (X := fun w _ => laidMetH Tryd.prog Rows.fnExactReadChangesRow.laid w) false (doorWFnExactReadChanges os) #[(.string ByteArray.empty)] 8 rfl (World.shaped_of_RefB (by kernel_rfl) (by kernel_rfl)) (by kernel_rfl) (by kernel_rfl) (by kernel_rfl) (door_metFnExactReadChanges os _)) ?_
  intro W base args ds gs before hval0 hW hcnd _ _ hL hSh _
  have hval : ∀ (j : Nat) t v, Tryd.f5.params[j]? = some t → args[j]? = some v → Value.okWide Tryd.prog W .any base t v := hval0
  have hW' := hW
  obtain ⟨p, q, hA0, hV, rfl, hfz, hnd⟩ := hW
  have hA : DataW.TrodAll enc Tryd.prog W 0 (fun _ => true) true Tryd.f5.params.toList args.toList ds p := hA0
  rw [Tryd.params5] at hA hval
  obtain ⟨v0, vs0, d0, ds0, p0, q0, hargs, rfl, rfl, h0, r0⟩ := trodAll_cons hA
  obtain ⟨rfl, rfl, rfl⟩ := trodAll_nil r0
  obtain rfl : args = #[v0] := by cases args; simp_all
  obtain ⟨rfl, rfl⟩ := trodVars_none hV
  have k0 := h0
  have lt0 : ∀ x ∈ p0, x.block < W.heap.size := by obtain ⟨m, hm⟩ := k0; exact DataW.trod_lt m _ _ _ hm
  obtain ⟨fuel0, hf0⟩ := h0
  obtain ⟨b0, rfl⟩ := okWide_string Tryd.underlying9 (hval 0 9 v0 rfl rfl)
  obtain ⟨x0, g0, o0⟩ := (opn_s (P := Tryd.prog) (by kernel_rfl)) hf0
  have g0' := one_of g0 (by rfl)
  cases g0'
  clear hA0 hval0
  refine (laws_FnExactReadChanges.calls _ W true (er_ofFnExactReadChanges hL hSh) (ml_ofFnExactReadChanges hL hSh) (pw_ofFnExactReadChanges hL hSh) (FnExactReadChanges_ok _ o0)).mono fun e W' ⟨v, he, hv, hm⟩ => ?_
  subst he hv
  have bel := hm.below
  exact ⟨_, rfl, _, _, _, [], _, [], hW', trodAll_mk1 (shut_bool Tryd.underlying4 _), (trodAll_cons_mk (Below.trod laidOutFnExactReadChanges (by kernel_rfl) (of_decide_eq_true (by kernel_rfl)) k0 bel lt0) trodAll_mk0), rfl, bel.frame _, fun h => by cases h⟩

theorem FnExactReadChanges_over : Rows.fnExactReadChangesRow.holds Tryd.pinned (OpenSpec.ofChange Rows.fnExactReadChangesSpec) :=
  OpenClaim.holds_of_wide 5 Tryd.f5 rfl rfl rfl rfl rfl rfl rfl ⟨rfl, rfl, rfl, rfl, rfl⟩ rfl rfl rfl rfl rfl (by kernel_rfl) Tryd.func5 (by kernel_rfl)
    (of_decide_eq_true (by kernel_rfl)) (by unfold Func.isWrapper; first | (rw [if_pos (by decide +kernel)]; kernel_rfl) | (rw [if_neg (by decide +kernel)]; exact ⟨rfl, rfl⟩))
    (fun os started H enc _ => by rw [OpenClaim.pre_eq_preRow]; exact FnExactReadChanges_lifted os started H enc default)
theorem FnExactReadChanges_proved : Rows.FnExactReadChangesCardSaid :=
  Claim7.holds_tied_plain_at .later [] [.data, .data, .data, .data, .sentinel, .sentinel, .pinned] true (true, "6d35c3949a9a40ab6b1ab51e14e29779f7cfab0e1f7fe0b41120655b32b91804") true
    FnExactReadChanges_over (fun _ h => by cases h) (by kernel_rfl) (fun _ h => by cases h) fnExactReadChanges_row_tie rfl ⟨rfl, rfl⟩ (by kernel_rfl) rfl
    (fun f fn hf hfn => by
      obtain rfl : f = 5 := Option.some.inj ((show Tryd.prog.funcNamed "loop.example/g01311/laws.FnExactReadChanges" = some 5 by kernel_rfl).symm.trans hf) |>.symm
      obtain rfl : fn = Tryd.f5 := (Option.some.inj (Tryd.func5.symm.trans hfn)).symm
      exact ⟨by kernel_rfl, fun j t ht => by
        rw [Tryd.params5] at ht
        have hm : t ∈ [9] := by simpa using Array.mem_of_getElem? ht
        have hall : ([9].all fun u => !Tryd.prog.wantsStandIn u) = true := by kernel_rfl
        exact (show Tryd.prog.wantsStandIn t = false by simpa using List.all_eq_true.1 hall t hm)⟩)
    (by kernel_rfl)
#print axioms FnExactReadChanges_proved

end Go.Proofs.YtpmndjejabjniaaDoor
