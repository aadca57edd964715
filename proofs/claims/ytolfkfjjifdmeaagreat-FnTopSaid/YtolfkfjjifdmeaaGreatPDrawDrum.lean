/- A drum drawn from bytes is valid. -/
import Derived.Test.YtolfkfjjifdmeaaGreatM3
import Derived.Test.YtolfkfjjifdmeaaGreatPFrame
import Derived.Test.YtolfkfjjifdmeaaGreatPDrum
import Derived.Test.YtolfkfjjifdmeaaGreatPCodes
import Derived.Test.YtolfkfjjifdmeaaGreatPPut
import Derived.Test.YtolfkfjjifdmeaaGreatPFit
import Derived.Test.YtolfkfjjifdmeaaGreatPDraw
import Derived.Test.YtolfkfjjifdmeaaGreatPure
namespace Go.Proofs.YtolfkfjjifdmeaaGreat
open Eng
set_option linter.unusedVariables false
set_option linter.unusedSimpArgs false
theorem drumDrawn_is{f:GFrame}(hf:FOk f){s:Gl00Src}{b:Nat}(h:SOk s b)(hb:b≤1000):∃d s',FW s f=some (d,s')∧DIn d∧(∀i t,pin d i t=true→(i:Int)<f.fSteps∧t<f.fHammers.length)∧SOk s' (b+40)∧s'.fcode=s.fcode:=by
 have hs0:=hf.s0;have hs1:=hf.s1;have hh0:=hf.h0;have hh1:=hf.h1
 obtain⟨x1,s1,e1,p1,q1,o1,c1⟩:=pick_is h (by omega) (n:=4) (by omega)
 obtain⟨x2,s2,e2,p2,q2,o2,c2⟩:=pick_is o1 (by omega) (n:=12) (by omega)
 have q2:=q2 (by omega)
 have c2':s2.fcode=s.fcode:=c2.trans c1
 have hw:w64 f.fSteps=f.fSteps:=w64_in (by omega) (by omega)
 simp only [FW,Fbx,e1,Option.bind_some,src_eta c1,e2]
 obtain⟨⟨a3,i3,j3⟩,hr,g1,g2,g3⟩:=loop_inv (f:=FW.l_11 s f (decide (x1=0),s1)) (fun st=>∃k m:Nat,k+m≤11∧st.2.2.2=(k:Int)∧DIn st.1∧(∀i t,pin st.1 i t=true→(i:Int)<f.fSteps∧t<f.fHammers.length)∧SOk ⟨s.fcode,st.2.1,st.2.2.1⟩ (b+2+2*m)) (fun st=>st.2.2.2.toNat)
  (fun r=>DIn r.1∧(∀i t,pin r.1 i t=true→(i:Int)<f.fSteps∧t<f.fHammers.length)∧SOk ⟨s.fcode,r.2.1,r.2.2⟩ (b+40)) (by
  rintro⟨a,i,j,_⟩ ⟨k,m,hk,rfl,hd,hp,ho⟩
  simp only at hd hp ho
  by_cases c:k=0
  ·right
   subst c
   simp only [FW.l_11]
   rw [if_neg (by decide)]
   exact⟨_,rfl,hd,hp,⟨ho.by_,ho.a0,by have:=ho.a1;simp only at this⊢;omega⟩⟩
  ·left
   obtain⟨y1,t1,e3,p3,q3,o3,c3⟩:=pick_is ho (by omega) (n:=f.fSteps) (by omega)
   obtain⟨y2,t2,e4,p4,q4,o4,c4⟩:=pick_is o3 (by omega) (n:=(f.fHammers.length:Int)) (by omega)
   have q3:=q3 (by omega);have q4:=q4 (by omega)
   have c3':t1.fcode=s.fcode:=c3
   have c4':t2.fcode=s.fcode:=c4.trans c3
   obtain⟨n1,rfl⟩:∃n1:Nat,y1=(n1:Int):=⟨y1.toNat,by omega⟩
   obtain⟨n2,rfl⟩:∃n2:Nat,y2=(n2:Int):=⟨y2.toNat,by omega⟩
   have hk1:w64 ((k:Int)-1)=((k-1:Nat):Int):=by rw [w64_in (by omega) (by omega)];omega
   have ho':SOk ⟨s.fcode,t2.fat,t2.fseed⟩ (b+2+2*(m+1)):=by
    rw [src_eta c4'];exact⟨o4.by_,o4.a0,by have:=o4.a1;omega⟩
   have key:∀q:Bool,∃st',FW.k_16 a (k:Int) ((n1:Int),t1) ((n2:Int),t2) q=some (.inl st')∧(∃k' m':Nat,k'+m'≤11∧st'.2.2.2=(k':Int)∧DIn st'.1∧(∀i t,pin st'.1 i t=true→(i:Int)<f.fSteps∧t<f.fHammers.length)∧SOk ⟨s.fcode,st'.2.1,st'.2.2.1⟩ (b+2+2*m'))∧st'.2.2.2.toNat<k:=by
    intro q
    simp only [FW.k_16,hk1]
    cases q with
    | false=>
     refine⟨_,rfl,⟨k-1,m+1,by omega,rfl,hd,hp,ho'⟩,by simp only;omega⟩
    | true=>
     have hn2:u64 (n2:Int)=(n2:Int):=u64_in (by omega) (by omega)
     obtain⟨h5,h6⟩:=or_pin hd (show n1<96 by omega) (show n2<32 by omega)
     simp only [if_true,ix_row hd (show n1<96 by omega),Option.bind_some,hn2]
     rw [if_pos (by omega)]
     refine⟨_,rfl,⟨k-1,m+1,by omega,rfl,h5,fun i t hit=> ?_,ho'⟩,by simp only;omega⟩
     have h6':=h6 i t
     simp only at hit
     rw [h6'] at hit
     simp only [Bool.or_eq_true,Bool.and_eq_true,decide_eq_true_eq] at hit
     rcases hit with hit | ⟨rfl,rfl⟩
     ·exact hp i t hit
     ·omega
   simp only [FW.l_11,hw,e3,Option.bind_some,src_eta c3',e4]
   rw [if_pos (by rw [decide_eq_true_eq];omega)]
   by_cases hx:decide (x1=0)=true
   ·rw [if_pos hx]
    obtain⟨st',r1,r2,r3⟩:=key true
    exact⟨st',r1,r2,by show st'.2.2.2.toNat<((k:Nat):Int).toNat;omega⟩
   ·rw [if_neg hx]
    rw [l02Free_is hf hd (show (n1:Int)<f.fSteps by omega) (show n2<f.fHammers.length by omega)]
    simp only [Option.bind_some]
    obtain⟨st',r1,r2,r3⟩:=key (freeB f a n1 n2)
    exact⟨st',r1,r2,by show st'.2.2.2.toNat<((k:Nat):Int).toNat;omega⟩) (Arr.rep 96 0,s2.fat,s2.fseed,x2) ⟨x2.toNat,0,by omega,by simp only;omega,DIn_rep,fun i t hit=>(by rw [pin_rep] at hit;cases hit),by
   rw [src_eta c2'];exact⟨o2.by_,o2.a0,by have:=o2.a1;omega⟩⟩
 have ed:(x1==0)=decide (x1=0):=by rw [Bool.eq_iff_iff];simp
 rw [ed,hr]
 simp only [Option.bind_some,FW.k_6]
 exact⟨_,_,rfl,g1,g2,g3,rfl⟩
end Go.Proofs.YtolfkfjjifdmeaaGreat
