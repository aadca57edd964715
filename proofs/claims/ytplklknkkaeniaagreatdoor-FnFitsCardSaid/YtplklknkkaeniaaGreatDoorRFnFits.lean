/- The law's row: the law returns true at every input, and each argument reads behind the call as it read before. No condition. -/
import Derived.Test.YtplklknkkaeniaaGreatDoorRows
import Derived.Test.YtplklknkkaeniaaGreatDoorLFnFits
import Derived.Test.YtplklknkkaeniaaGreatDoorTie
import Derived.Test.YtplklknkkaeniaaGreatDoorCards
import Derived.SevenTiedAt
import Derived.LaidMore
import Derived.Deep.DeepHandedRow
import Derived.MakeChecks
import Derived.Stop.LaidErr
import Derived.Shelf.Vars
import Derived.Lib.LaidU8
import Derived.WalkKit
import Derived.ProofKit
import Derived.ShutString
import Derived.ChangeOld
import Derived.Below
namespace Go.Proofs.YtplklknkkaeniaaGreatDoor
open Eng
open Go.ChangeShapes Go.WideShapes Go.ChangeAt Go.RowKit
set_option linter.unusedVariables false

theorem ownFnFits : ownKnob Tryz.prog.godebug = none := by kernel_rfl
theorem laidOutFnFits : laidOutB Tryz.prog = true := by kernel_rfl

/-- the world that the start-up code leaves, one of the library's tables laid too -/
noncomputable def doorWFnFits (os : Os) : World :=
  let w0 := World.doorLaid Tryz.prog 400 os
  { w0 with heap := w0.heap.modify 4 fun
    | .cells _ t fz => .cells (Go.Lib.firstTab.map fun z => Value.int .u8 z).toArray t fz
    | x => x }
theorem door_metFnFits (os : Os) (args : Array Value) : laidMetH Tryz.prog Rows.fnFitsRow.laid ((doorWFnFits os).forCall (fun _ _ => 0) ⟨#[], args, []⟩).memory :=
  laidMetH_of_parts3 (fuel := 8) (laidMet_of_run' 8 (by kernel_rfl) (by kernel_rfl)) (by kernel_rfl) (by kernel_rfl)
theorem sz_ofFnFits {W : World} (h : W.ShapedOpen Tryz.prog) : Tryz.prog.globals.size ≤ W.heap.size := by
  have h0 : (((begin Tryz.prog (fun _ _ => 0) default).world.heap[7]?).bind Obj.row?).isSome = true := by kernel_rfl
  obtain ⟨⟨zero, t⟩, hz⟩ := Option.isSome_iff_exists.1 h0
  obtain ⟨cs, hc, _, _⟩ := h.1 7 zero t (of_decide_eq_true (by kernel_rfl)) hz
  have := heap_lt hc
  have hg : Tryz.prog.globals.size = 8 := by kernel_rfl
  omega
theorem pw_ofFnFits {W : World} (h : laidMetH Tryz.prog Rows.fnFitsRow.laid W) (hs : W.ShapedOpen Tryz.prog) : Glpw W := by
  rw [MakeChecks.laidMetH_plain _ _ _ (by kernel_rfl)] at h
  have e : (Rows.laid_internal_strconv_uint64pow10 : DataW Unit) = Go.Lib.tabData .u64 Go.Lib.pow10Tab := by kernel_rfl
  have h2 := h.tail.tail
  rw [e] at h2
  exact ⟨Go.Lib.tabIs_of_head (g := 3) (by kernel_rfl) (by kernel_rfl) Tryz.underlying201 Tryz.underlying99 (by kernel_rfl) (by kernel_rfl) h2, sz_ofFnFits hs⟩
theorem ml_ofFnFits {W : World} (h : laidMetH Tryz.prog Rows.fnFitsRow.laid W) (hs : W.ShapedOpen Tryz.prog) : Glml W := by
  exact ⟨Go.Proofs.cell_of_shapedOpen_int (zero := #[.int .i64 0]) (t := 3) hs (of_decide_eq_true (by kernel_rfl)) (by kernel_rfl) rfl (by kernel_rfl) (by kernel_rfl) Tryz.underlying3, sz_ofFnFits hs⟩
theorem lo_ofFnFits {W : World} (h : laidMetH Tryz.prog Rows.fnFitsRow.laid W) (hs : W.ShapedOpen Tryz.prog) : Gllo W := by
  exact ⟨fun h => h⟩
theorem er_ofFnFits {W : World} (h : laidMetH Tryz.prog Rows.fnFitsRow.laid W) (hs : W.ShapedOpen Tryz.prog) : Gler W := by
  rw [MakeChecks.laidMetH_plain _ _ _ (by kernel_rfl)] at h
  have star : ("*" ++ "errors.errorString" : String) = "*errors.errorString" := by decide
  exact ⟨(by
    obtain ⟨a, s, hv, _⟩ := laid_sentinel (g := 1) (ti := 110) (tp := 222) (te := 224) (ts := 9) h.tail.tail.tail.tail.tail (by kernel_rfl) (by kernel_rfl) Tryz.underlying110 (fun u hu => typeName_ptr_named (nm := "errors.errorString") (by rw [star]; kernel_rfl) (by kernel_rfl) (by decide) u (by rw [star]; exact hu)) Tryz.underlying222 Tryz.underlying224 rfl rfl Tryz.underlying9 (by kernel_rfl) (by kernel_rfl)
    have hc := World.var?_cell (g := 1) (by kernel_rfl) hv 0
    exact ⟨_, by simpa using hc, .inr ⟨_, _, rfl⟩⟩),
   (by
    obtain ⟨a, s, hv, _⟩ := laid_sentinel (g := 2) (ti := 110) (tp := 222) (te := 224) (ts := 9) h.tail.tail.tail.tail (by kernel_rfl) (by kernel_rfl) Tryz.underlying110 (fun u hu => typeName_ptr_named (nm := "errors.errorString") (by rw [star]; kernel_rfl) (by kernel_rfl) (by decide) u (by rw [star]; exact hu)) Tryz.underlying222 Tryz.underlying224 rfl rfl Tryz.underlying9 (by kernel_rfl) (by kernel_rfl)
    have hc := World.var?_cell (g := 2) (by kernel_rfl) hv 0
    exact ⟨_, by simpa using hc, .inr ⟨_, _, rfl⟩⟩), sz_ofFnFits hs⟩
set_option maxRecDepth 100000 in
theorem FnFits_lifted (os : Os) (started : os.Started) (H : Type) (enc : TypeId × Value → H) (F : Stop.Interp) :
    ReturnsInHanded {} Tryz.checked os 3 .any ((OpenSpec.ofChange Rows.fnFitsSpec).preRow enc Tryz.prog Tryz.f3 Rows.fnFitsRow.domain false Rows.fnFitsRow.laid) (((OpenSpec.ofChange Rows.fnFitsSpec).at F).post enc Tryz.prog Tryz.f3 false true false false) := by
  refine returnsInHanded_of_row (C := Tryz.checked) (s := OpenSpec.ofChange Rows.fnFitsSpec) ownFnFits started (by kernel_rfl) Tryz.func3
    (ChangeSpec.witness_shaped (enc := enc) (C := Tryz.checked) (os := os) (X := fun w _ => laidMetH Tryz.prog Rows.fnFitsRow.laid w) false (doorWFnFits os) #[(.slice none 0 0), (.slice none 0 0)] 8 rfl (World.shaped_of_RefB (by kernel_rfl) (by kernel_rfl)) (by kernel_rfl) (by kernel_rfl) (by kernel_rfl) (door_metFnFits os _)) ?_
  intro W base args ds gs before hval0 hW hcnd _ _ hL hSh _
  have hval : ∀ (j : Nat) t v, Tryz.f3.params[j]? = some t → args[j]? = some v → Value.okWide Tryz.prog W .any base t v := hval0
  have hW' := hW
  obtain ⟨p, q, hA0, hV, rfl, hfz, hnd⟩ := hW
  have hA : DataW.TrodAll enc Tryz.prog W 0 (fun _ => true) true Tryz.f3.params.toList args.toList ds p := hA0
  rw [Tryz.params3] at hA hval
  obtain ⟨v0, vs0, d0, ds0, p0, q0, hargs, rfl, rfl, h0, r0⟩ := trodAll_cons hA
  obtain ⟨v1, vs1, d1, ds1, p1, q1, rfl, rfl, rfl, h1, r1⟩ := trodAll_cons r0
  obtain ⟨rfl, rfl, rfl⟩ := trodAll_nil r1
  obtain rfl : args = #[v0, v1] := by cases args; simp_all
  obtain ⟨rfl, rfl⟩ := trodVars_none hV
  have k0 := h0
  have lt0 : ∀ x ∈ p0, x.block < W.heap.size := by obtain ⟨m, hm⟩ := k0; exact DataW.trod_lt m _ _ _ hm
  obtain ⟨fuel0, hf0⟩ := h0
  obtain ⟨b0, l0, u0, rfl⟩ := okWide_slice Tryz.underlying22 (hval 0 22 v0 rfl rfl)
  obtain ⟨a0, x0, c0, g0, w0, o0⟩ := (opn_sl (P := Tryz.prog) (e := 5) (m := 1) (encS := encU8) (ok := fun y => (0 ≤ y ∧ y ≤ 255)) (by kernel_rfl) (by kernel_rfl) (by decide) (fun n cs x h => (opn_u8 (P := Tryz.prog) (by kernel_rfl)) h)) hf0
  have g0' := one_of g0 (by rfl)
  cases g0'
  have k1 := h1
  have lt1 : ∀ x ∈ p1, x.block < W.heap.size := by obtain ⟨m, hm⟩ := k1; exact DataW.trod_lt m _ _ _ hm
  obtain ⟨fuel1, hf1⟩ := h1
  obtain ⟨b1, l1, u1, rfl⟩ := okWide_slice Tryz.underlying22 (hval 1 22 v1 rfl rfl)
  obtain ⟨a1, x1, c1, g1, w1, o1⟩ := (opn_sl (P := Tryz.prog) (e := 5) (m := 1) (encS := encU8) (ok := fun y => (0 ≤ y ∧ y ≤ 255)) (by kernel_rfl) (by kernel_rfl) (by decide) (fun n cs x h => (opn_u8 (P := Tryz.prog) (by kernel_rfl)) h)) hf1
  have g1' := one_of g1 (by rfl)
  cases g1'
  clear hA0 hval0
  refine (laws_FnFits.calls x0 x1 W true (er_ofFnFits hL hSh) (lo_ofFnFits hL hSh) (ml_ofFnFits hL hSh) (pw_ofFnFits hL hSh) _ _ _ w0 rfl _ _ _ w1 rfl (FnFits_ok x0 x1 o0 o1)).mono fun e W' ⟨v, he, hv, hm⟩ => ?_
  subst he hv
  have bel := hm.below
  exact ⟨_, rfl, _, _, _, [], _, [], hW', trodAll_mk1 (shut_bool Tryz.underlying4 _), (trodAll_cons_mk (Below.trod laidOutFnFits (by kernel_rfl) (of_decide_eq_true (by kernel_rfl)) k0 bel lt0) (trodAll_cons_mk (Below.trod laidOutFnFits (by kernel_rfl) (of_decide_eq_true (by kernel_rfl)) k1 bel lt1) trodAll_mk0)), rfl, bel.frame _, fun h => by cases h⟩

theorem FnFits_over : Rows.fnFitsRow.holds Tryz.pinned (OpenSpec.ofChange Rows.fnFitsSpec) :=
  OpenClaim.holds_of_wide 3 Tryz.f3 rfl rfl rfl rfl rfl rfl rfl ⟨rfl, rfl, rfl, rfl, rfl⟩ rfl rfl rfl rfl rfl (by kernel_rfl) Tryz.func3 (by kernel_rfl)
    (of_decide_eq_true (by kernel_rfl)) (by unfold Func.isWrapper; first | (rw [if_pos (by decide +kernel)]; kernel_rfl) | (rw [if_neg (by decide +kernel)]; exact ⟨rfl, rfl⟩))
    (fun os started H enc _ => by rw [OpenClaim.pre_eq_preRow]; exact FnFits_lifted os started H enc default)
theorem FnFits_proved : Rows.FnFitsCardSaid :=
  Claim7.holds_tied_plain_at .later [] [.data, .data, .data, .data, .sentinel, .sentinel, .pinned] true (true, "9dd8eb39ba88724ba8b5a8569cf8bc1ecf0483f838a7f2159693306ee4685364") true
    FnFits_over (fun _ h => by cases h) (by kernel_rfl) (fun _ h => by cases h) fnFits_row_tie rfl ⟨rfl, rfl⟩ (by kernel_rfl) rfl
    (fun f fn hf hfn => by
      obtain rfl : f = 3 := Option.some.inj ((show Tryz.prog.funcNamed "loop.example/g01311/laws.FnFits" = some 3 by kernel_rfl).symm.trans hf) |>.symm
      obtain rfl : fn = Tryz.f3 := (Option.some.inj (Tryz.func3.symm.trans hfn)).symm
      exact ⟨by kernel_rfl, fun j t ht => by
        rw [Tryz.params3] at ht
        have hm : t ∈ [22, 22] := by simpa using Array.mem_of_getElem? ht
        have hall : ([22, 22].all fun u => !Tryz.prog.wantsStandIn u) = true := by kernel_rfl
        exact (show Tryz.prog.wantsStandIn t = false by simpa using List.all_eq_true.1 hall t hm)⟩)
    (by kernel_rfl)
#print axioms FnFits_proved

end Go.Proofs.YtplklknkkaeniaaGreatDoor
