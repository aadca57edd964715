/- The law's row: the law returns true at every input, and each argument reads behind the call as it read before. No condition. -/
import Derived.Test.YtplklknkkaeniaaGreatRows
import Derived.Test.YtplklknkkaeniaaGreatLFnTopOfAll
import Derived.WalkKit
import Derived.ProofKit
import Derived.ShutString
import Derived.ChangeOld
import Derived.Below
namespace Go.Proofs.YtplklknkkaeniaaGreat
open Eng
open Go.ChangeShapes Go.WideShapes Go.ChangeAt Go.RowKit
set_option linter.unusedVariables false
theorem Gz:ownKnob Tryz.prog.godebug=none:=by kernel_rfl
theorem ty:laidOutB Tryz.prog=true:=by kernel_rfl
set_option maxRecDepth 100000 in
theorem AS(os:Os)(started:os.Started)(H:Type)(bh:TypeId×Value→H):
  ReturnsInHanded {} Tryz.checked os 3 .any (Rows.fnTopOfAllSpec.pre6 bh Tryz.prog Tryz.f3 Rows.fnTopOfAllRow.domain false) (Rows.fnTopOfAllSpec.post bh Tryz.prog Tryz.f3 false true false false):=by
 refine returnsInHanded_of_change (C:=Tryz.checked) Gz started (by kernel_rfl) Tryz.func3
  (ChangeSpec.witness6 (enc:=bh) (C:=Tryz.checked) false ⟨#[],#[(.slice none 0 0),(.slice none 0 0)],[]⟩ 8 (by kernel_rfl) (by kernel_rfl) (by kernel_rfl) (by kernel_rfl)) ?_
 intro W base args ds gs before ZL hW QH _
 have ab9:∀(j:Nat) t v,Tryz.f3.params[j]?=some t→args[j]?=some v→Value.okWide Tryz.prog W .any base t v:=ZL
 have hW':=hW
 obtain⟨p,q,hA0,hV,rfl,hfz,hnd⟩:=hW
 have hA:DataW.TrodAll bh Tryz.prog W 0 (fun _=>true) true Tryz.f3.params.toList args.toList ds p:=hA0
 rw [Tryz.params3] at hA ab9
 obtain⟨v0,vs0,d0,ds0,p0,q0,ajV,rfl,rfl,h0,r0⟩:=trodAll_cons hA
 obtain⟨v1,vs1,d1,ds1,p1,q1,rfl,rfl,rfl,h1,r1⟩:=trodAll_cons r0
 obtain⟨rfl,rfl,rfl⟩:=trodAll_nil r1
 obtain rfl:args= #[v0,v1]:=by cases args;simp_all
 obtain⟨rfl,rfl⟩:=trodVars_none hV
 have k0:=h0
 have lt0:∀x∈p0,x.block<W.heap.size:=by obtain⟨m,hm⟩:=k0;exact DataW.trod_lt m _ _ _ hm
 obtain⟨ajW,hf0⟩:=h0
 obtain⟨b0,l0,u0,rfl⟩:=okWide_slice Tryz.underlying22 (ab9 0 22 v0 rfl rfl)
 obtain⟨a0,x0,c0,g0,w0,o0⟩:=(Vw (P:=Tryz.prog) (e:=5) (m:=1) (Vx:=jS) (ok:=fun y=>(0≤y∧y≤255)) (by kernel_rfl) (by kernel_rfl) (by decide) (fun n cs x h=>(Vv (P:=Tryz.prog) (by kernel_rfl)) h)) hf0
 have g0':=Vy g0 (by rfl)
 cases g0'
 have k1:=h1
 have lt1:∀x∈p1,x.block<W.heap.size:=by obtain⟨m,hm⟩:=k1;exact DataW.trod_lt m _ _ _ hm
 obtain⟨ajX,hf1⟩:=h1
 obtain⟨b1,l1,u1,rfl⟩:=okWide_slice Tryz.underlying22 (ab9 1 22 v1 rfl rfl)
 obtain⟨a1,x1,c1,g1,w1,o1⟩:=(Vw (P:=Tryz.prog) (e:=5) (m:=1) (Vx:=jS) (ok:=fun y=>(0≤y∧y≤255)) (by kernel_rfl) (by kernel_rfl) (by decide) (fun n cs x h=>(Vv (P:=Tryz.prog) (by kernel_rfl)) h)) hf1
 have g1':=Vy g1 (by rfl)
 cases g1'
 clear hA0 ZL
 refine(cZ.c x0 x1 W true _ w0 rfl (ab7 Tryz.underlying22 hf0) _ w1 rfl (Gy x0 x1 o0 o1)).mono fun e W' ⟨v,he,hv,hm⟩=> ?_
 subst he hv
 have bel:=hm.below
 exact⟨_,rfl,_,_,_,[],_,[],hW',trodAll_mk1 (shut_bool Tryz.underlying4 _),(trodAll_cons_mk (Below.trod ty (by kernel_rfl) (of_decide_eq_true (by kernel_rfl)) k0 bel lt0) (trodAll_cons_mk (Below.trod ty (by kernel_rfl) (of_decide_eq_true (by kernel_rfl)) k1 bel lt1) trodAll_mk0)),rfl,bel.frame _,fun h=>by cases h⟩
theorem Cy:Rows.fnTopOfAllRow.holds Tryz.pinned (OpenSpec.ofChange Rows.fnTopOfAllSpec):=
 OpenClaim.holds_of_wide 3 Tryz.f3 rfl rfl rfl rfl rfl rfl rfl ⟨rfl,rfl,rfl,rfl,rfl⟩ rfl rfl rfl rfl rfl (by kernel_rfl) Tryz.func3 (by kernel_rfl)
  (of_decide_eq_true (by kernel_rfl)) (by unfold Func.isWrapper;first | (rw [ak (by decide+kernel)];kernel_rfl) | (rw [ax (by decide+kernel)];exact⟨rfl,rfl⟩))
  (fun os started H bh _=>AS os started H bh)
theorem FnTopOfAll_proved:Rows.FnTopOfAllSaid:=Cy
#print axioms FnTopOfAll_proved
end Go.Proofs.YtplklknkkaeniaaGreat
