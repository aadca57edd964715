/- The law's row: the law returns true at every input, and each argument reads behind the call as it read before. No condition. -/
import Derived.Test.YtplklknkkaeniaaDoorRows
import Derived.Test.YtplklknkkaeniaaDoorLFnExactReadActs
import Derived.Test.YtplklknkkaeniaaDoorTie
import Derived.Test.YtplklknkkaeniaaDoorCards
import Derived.SevenTiedAt
import Derived.LaidMore
import Derived.Deep.DeepHandedRow
import Derived.MakeChecks
import Derived.Stop.LaidErr
import Derived.Shelf.Vars
import Derived.Lib.LaidU8
import Derived.WalkKit
import Derived.ProofKit
import Derived.ShutString
import Derived.ChangeOld
import Derived.Below
namespace Go.Proofs.YtplklknkkaeniaaDoor
open Eng
open Go.ChangeShapes Go.WideShapes Go.ChangeAt Go.RowKit
set_option linter.unusedVariables false

theorem ownFnExactReadActs : ownKnob Tryd.prog.godebug = none := by kernel_rfl
theorem laidOutFnExactReadActs : laidOutB Tryd.prog = true := by kernel_rfl

/-- the world that the start-up code leaves, one of the library's tables laid too -/
noncomputable def doorWFnExactReadActs (os : Os) : World :=
  let w0 := World.doorLaid Tryd.prog 400 os
  { w0 with heap := w0.heap.modify 4 fun
    | .cells _ t fz => .cells (Go.Lib.firstTab.map fun z => Value.int .u8 z).toArray t fz
    | x => x }
theorem door_metFnExactReadActs (os : Os) (args : Array Value) : laidMetH Tryd.prog Rows.fnExactReadActsRow.laid ((doorWFnExactReadActs os).forCall (fun _ _ => 0) ⟨#[], args, []⟩).memory :=
  laidMetH_of_parts3 (fuel := 8) (laidMet_of_run' 8 (by kernel_rfl) (by kernel_rfl)) (by kernel_rfl) (by kernel_rfl)
theorem sz_ofFnExactReadActs {W : World} (h : W.ShapedOpen Tryd.prog) : Tryd.prog.globals.size ≤ W.heap.size := by
  have h0 : (((begin Tryd.prog (fun _ _ => 0) default).world.heap[7]?).bind Obj.row?).isSome = true := by kernel_rfl
  obtain ⟨⟨zero, t⟩, hz⟩ := Option.isSome_iff_exists.1 h0
  obtain ⟨cs, hc, _, _⟩ := h.1 7 zero t (of_decide_eq_true (by kernel_rfl)) hz
  have := heap_lt hc
  have hg : Tryd.prog.globals.size = 8 := by kernel_rfl
  omega
theorem pw_ofFnExactReadActs {W : World} (h : laidMetH Tryd.prog Rows.fnExactReadActsRow.laid W) (hs : W.ShapedOpen Tryd.prog) : Glpw W := by
  rw [MakeChecks.laidMetH_plain _ _ _ (by kernel_rfl)] at h
  have e : (Rows.laid_internal_strconv_uint64pow10 : DataW Unit) = Go.Lib.tabData .u64 Go.Lib.pow10Tab := by kernel_rfl
  have h2 := h.tail.tail
  rw [e] at h2
  exact ⟨Go.Lib.tabIs_of_head (g := 0) (by kernel_rfl) (by kernel_rfl) Tryd.underlying109 Tryd.underlying92 (by kernel_rfl) (by kernel_rfl) h2, sz_ofFnExactReadActs hs⟩
theorem ml_ofFnExactReadActs {W : World} (h : laidMetH Tryd.prog Rows.fnExactReadActsRow.laid W) (hs : W.ShapedOpen Tryd.prog) : Glml W := by
  exact ⟨Go.Proofs.cell_of_shapedOpen_int (zero := #[.int .i64 0]) (t := 3) hs (of_decide_eq_true (by kernel_rfl)) (by kernel_rfl) rfl (by kernel_rfl) (by kernel_rfl) Tryd.underlying3, sz_ofFnExactReadActs hs⟩
theorem lo_ofFnExactReadActs {W : World} (h : laidMetH Tryd.prog Rows.fnExactReadActsRow.laid W) (hs : W.ShapedOpen Tryd.prog) : Gllo W := by
  exact ⟨fun h => h⟩
theorem er_ofFnExactReadActs {W : World} (h : laidMetH Tryd.prog Rows.fnExactReadActsRow.laid W) (hs : W.ShapedOpen Tryd.prog) : Gler W := by
  rw [MakeChecks.laidMetH_plain _ _ _ (by kernel_rfl)] at h
  have star : ("*" ++ "errors.errorString" : String) = "*errors.errorString" := by decide
  exact ⟨(by
    obtain ⟨a, s, hv, _⟩ := laid_sentinel (g := 2) (ti := 48) (tp := 126) (te := 128) (ts := 9) h.tail.tail.tail.tail.tail (by kernel_rfl) (by kernel_rfl) Tryd.underlying48 (fun u hu => typeName_ptr_named (nm := "errors.errorString") (by rw [star]; kernel_rfl) (by kernel_rfl) (by decide) u (by rw [star]; exact hu)) Tryd.underlying126 Tryd.underlying128 rfl rfl Tryd.underlying9 (by kernel_rfl) (by kernel_rfl)
    have hc := World.var?_cell (g := 2) (by kernel_rfl) hv 0
    exact ⟨_, by simpa using hc, .inr ⟨_, _, rfl⟩⟩),
   (by
    obtain ⟨a, s, hv, _⟩ := laid_sentinel (g := 3) (ti := 48) (tp := 126) (te := 128) (ts := 9) h.tail.tail.tail.tail (by kernel_rfl) (by kernel_rfl) Tryd.underlying48 (fun u hu => typeName_ptr_named (nm := "errors.errorString") (by rw [star]; kernel_rfl) (by kernel_rfl) (by decide) u (by rw [star]; exact hu)) Tryd.underlying126 Tryd.underlying128 rfl rfl Tryd.underlying9 (by kernel_rfl) (by kernel_rfl)
    have hc := World.var?_cell (g := 3) (by kernel_rfl) hv 0
    exact ⟨_, by simpa using hc, .inr ⟨_, _, rfl⟩⟩), sz_ofFnExactReadActs hs⟩
set_option maxRecDepth 100000 in
theorem FnExactReadActs_lifted (os : Os) (started : os.Started) (H : Type) (enc : TypeId × Value → H) (F : Stop.Interp) :
    ReturnsInHanded {} Tryd.checked os 4 .any ((OpenSpec.ofChange Rows.fnExactReadActsSpec).preRow enc Tryd.prog Tryd.f4 Rows.fnExactReadActsRow.domain false Rows.fnExactReadActsRow.laid) (((OpenSpec.ofChange Rows.fnExactReadActsSpec).at F).post enc Tryd.prog Tryd.f4 false true false false) := by
  refine returnsInHanded_of_row (C := Tryd.checked) (s := OpenSpec.ofChange Rows.fnExactReadActsSpec) ownFnExactReadActs started (by kernel_rfl) Tryd.func4
    (ChangeSpec.witness_shaped (enc := enc) (C := Tryd.checked) (os := os) (X := fun w _ => laidMetH Tryd.prog Rows.fnExactReadActsRow.laid w) false (doorWFnExactReadActs os) #[(.string ByteArray.empty)] 8 rfl (World.shaped_of_RefB (by kernel_rfl) (by kernel_rfl)) (by kernel_rfl) (by kernel_rfl) (by kernel_rfl) (door_metFnExactReadActs os _)) ?_
  intro W base args ds gs before hval0 hW hcnd _ _ hL hSh _
  have hval : ∀ (j : Nat) t v, Tryd.f4.params[j]? = some t → args[j]? = some v → Value.okWide Tryd.prog W .any base t v := hval0
  have hW' := hW
  obtain ⟨p, q, hA0, hV, rfl, hfz, hnd⟩ := hW
  have hA : DataW.TrodAll enc Tryd.prog W 0 (fun _ => true) true Tryd.f4.params.toList args.toList ds p := hA0
  rw [Tryd.params4] at hA hval
  obtain ⟨v0, vs0, d0, ds0, p0, q0, hargs, rfl, rfl, h0, r0⟩ := trodAll_cons hA
  obtain ⟨rfl, rfl, rfl⟩ := trodAll_nil r0
  obtain rfl : args = #[v0] := by cases args; simp_all
  obtain ⟨rfl, rfl⟩ := trodVars_none hV
  have k0 := h0
  have lt0 : ∀ x ∈ p0, x.block < W.heap.size := by obtain ⟨m, hm⟩ := k0; exact DataW.trod_lt m _ _ _ hm
  obtain ⟨fuel0, hf0⟩ := h0
  obtain ⟨b0, rfl⟩ := okWide_string Tryd.underlying9 (hval 0 9 v0 rfl rfl)
  obtain ⟨x0, g0, o0⟩ := (opn_s (P := Tryd.prog) (by kernel_rfl)) hf0
  have g0' := one_of g0 (by rfl)
  cases g0'
  clear hA0 hval0
  refine (laws_FnExactReadActs.calls _ W true (er_ofFnExactReadActs hL hSh) (lo_ofFnExactReadActs hL hSh) (ml_ofFnExactReadActs hL hSh) (pw_ofFnExactReadActs hL hSh) (FnExactReadActs_ok _ o0)).mono fun e W' ⟨v, he, hv, hm⟩ => ?_
  subst he hv
  have bel := hm.below
  exact ⟨_, rfl, _, _, _, [], _, [], hW', trodAll_mk1 (shut_bool Tryd.underlying4 _), (trodAll_cons_mk (Below.trod laidOutFnExactReadActs (by kernel_rfl) (of_decide_eq_true (by kernel_rfl)) k0 bel lt0) trodAll_mk0), rfl, bel.frame _, fun h => by cases h⟩

theorem FnExactReadActs_over : Rows.fnExactReadActsRow.holds Tryd.pinned (OpenSpec.ofChange Rows.fnExactReadActsSpec) :=
  OpenClaim.holds_of_wide 4 Tryd.f4 rfl rfl rfl rfl rfl rfl rfl ⟨rfl, rfl, rfl, rfl, rfl⟩ rfl rfl rfl rfl rfl (by kernel_rfl) Tryd.func4 (by kernel_rfl)
    (of_decide_eq_true (by kernel_rfl)) (by unfold Func.isWrapper; first | (rw [if_pos (by decide +kernel)]; kernel_rfl) | (rw [if_neg (by decide +kernel)]; exact ⟨rfl, rfl⟩))
    (fun os started H enc _ => by rw [OpenClaim.pre_eq_preRow]; exact FnExactReadActs_lifted os started H enc default)
theorem FnExactReadActs_proved : Rows.FnExactReadActsCardSaid :=
  Claim7.holds_tied_plain_at .later [] [.data, .data, .data, .data, .sentinel, .sentinel, .pinned] true (true, "0d29a4d9f1089beea6481c9bcda6385d105c8abffda7199be2a50b7c65632a2a") true
    FnExactReadActs_over (fun _ h => by cases h) (by kernel_rfl) (fun _ h => by cases h) fnExactReadActs_row_tie rfl ⟨rfl, rfl⟩ (by kernel_rfl) rfl
    (fun f fn hf hfn => by
      obtain rfl : f = 4 := Option.some.inj ((show Tryd.prog.funcNamed "loop.example/g01311/laws.FnExactReadActs" = some 4 by kernel_rfl).symm.trans hf) |>.symm
      obtain rfl : fn = Tryd.f4 := (Option.some.inj (Tryd.func4.symm.trans hfn)).symm
      exact ⟨by kernel_rfl, fun j t ht => by
        rw [Tryd.params4] at ht
        have hm : t ∈ [9] := by simpa using Array.mem_of_getElem? ht
        have hall : ([9].all fun u => !Tryd.prog.wantsStandIn u) = true := by kernel_rfl
        exact (show Tryd.prog.wantsStandIn t = false by simpa using List.all_eq_true.1 hall t hm)⟩)
    (by kernel_rfl)
#print axioms FnExactReadActs_proved

end Go.Proofs.YtplklknkkaeniaaDoor
