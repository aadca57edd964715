/- The law of all the above, told byte by byte: its plain function answers true at every input. -/
import Derived.Test.YtplklknkkaeniaaGreatM0
import Derived.Test.YtplklknkkaeniaaGreatM5
import Derived.Test.YtplklknkkaeniaaGreatQ0
import Derived.Test.YtplklknkkaeniaaGreatQ1
import Derived.Test.YtplklknkkaeniaaGreatQ2
import Derived.Test.YtplklknkkaeniaaGreatPure
import Derived.Test.YtplklknkkaeniaaGreatSFnTopOfAll
namespace Go.Proofs.YtplklknkkaeniaaGreat
open Eng
set_option linter.unusedVariables false
set_option linter.unusedSimpArgs false
theorem ab8{code:List Int}(hc:∀y∈code,0≤y∧y≤255):∃k:Int,p' code 1 3=some k:=by
 simp only [p']
 by_cases c:code.length≤1
 ·exact⟨0,by rw [ak (by simp only [ke,bC];omega)]⟩
 ·have h0:1<code.length:=by omega
  have C4:ix code 1=some code[1]:=de h0
  exact⟨_,by
   rw [ax (by simp only [ke,bC];omega)]
   simp only [C4,ar]
   rw [ak (by omega)]⟩
theorem Vz{f:ae}{t:List ai}(h:Gv f t):∃d c,Zk f t=some (d,c)∧gM d:=by
 have xN:=h.hf.h1;have rk:=h.hf.s1;have v8:=h.ht.len
 obtain⟨r,hr,hq⟩:=qV (f:=Il.fY f t) t.length (by omega) (fun _ a=>gM a) (fun r=>∃d k,(r= .inl (d,k)∨r= .inr d)∧gM d) (fun k a hk ha=>by
  have hn:=h.ht.nt _ (bT hk)
  have VY:=tx h.ht h.len _ (bT hk)
  simp only [Il.fY,de hk,ar,yH h.hf ha (n:=t[k]) (by omega) (by omega)]
  rw [ak (by simpa using hk)]
  cases hp:tT f a t[k] with
  | nil=>right;exact⟨_,by simp [yg],a,(k:Int), .inl rfl,ha⟩
  | cons x l=>
   left
   have hx:x∈tT f a t[k]:=by rw [hp];simp
   obtain⟨x1,_⟩:=vl hx
   have LR:ix (yg (x::l)) 0=some (x:Int):=rfl
   have ea:au t[k].cd=((t[k].cd.toNat:Nat):Int):=by rw [bc (by omega) (by omega)];omega
   rw [ax (by rw [k8,uR];simp;omega)]
   simp only [LR,ar,ea,IF ha (show t[k].cd.toNat<96 by omega) (show x<32 by omega)]
   exact⟨_,rfl,sM ha (by omega) (by omega)⟩) (fun a ha=>⟨.inr a,by simp [Il.fY],a,0, .inr rfl,ha⟩) (av.dC 96 0) lZ
 have ZK:F8 f t 0 []=some 0:=by rw [Hv 0 h.fi h.hl h.tl h.ni,h.fits (by omega)]
 obtain⟨d,k,hd,hdd⟩:=hq
 have hg:∃m:Int,Il f t=some (d,m):=by
  rcases hd with rfl | rfl
  ·exact⟨k,by simp [Il,hr]⟩
  ·exact⟨(t.length:Int),by simp [Il,hr,Il.fk]⟩
 obtain⟨m,hg⟩:=hg
 by_cases c:m<(t.length:Int)
 ·exact⟨av.dC 96 0,6,by simp [Zk,ZK,hg,c],lZ⟩
 ·exact⟨d,0,by simp [Zk,ZK,hg,c],hdd⟩
theorem Lx{f:ae}{t:List ai}(h:Gv f t):∃d y z,Zj f t 20000=some (d,y,z)∧gM d:=by
 have e:=Lh h (ah:=20000) (by omega)
 unfold EM at e
 rw [ak (h.fits (by omega))] at e
 cases ho:(mN f t (av.dC 96 0) false 20000).over with
 | true=>rw [ho,ak rfl] at e;exact⟨_,_,_,e,lZ⟩
 | false=>
  cases hf:(mN f t (av.dC 96 0) false 20000).found with
  | false=>rw [ho,hf,ax (by simp),ak rfl] at e;exact⟨_,_,_,e,lZ⟩
  | true=>
   rw [ho,hf,ax (by simp),ax (by simp)] at e
   exact⟨_,_,_,e,(zF h.hf h.ht (tx h.ht h.len) (Lf hf)).1.dg.BA⟩
theorem QR(code:List Int)(hc:∀y∈code,0≤y∧y≤255){n:Nat}(hn:n≤8):∃o,FH code (n:Int)=some o∧o.length≤1000000:=by
 by_cases h0:n=0
 ·subst h0
  obtain⟨e,_⟩:=qD code hc
  have l0:loop (FH.j4 0) (([]:List Int),0)=some []:=by rw [bH];simp [FH.j4]
  have l1:loop (FH.jX code) (([]:List Int),0,0,au (0-1))=some ([],0,0):=by
   rw [bH]
   have:au (0-1)=-1:=by decide
   rw [this]
   simp [FH.jX]
  refine⟨[],?_,by simp⟩
  show FH code 0=_
  simp only [FH,e,ar,l0,FH.nS,l1,FH.qw]
 ·obtain⟨o,e,ho⟩:=NH code hc (n:=n) (by omega) hn
  exact⟨lH o,e,by rw [je,ho.len];omega⟩
theorem HK(be eM:List Int)(o0:∀y∈be,0≤y∧y≤255)(o1:∀y∈eM,0≤y∧y≤255){f:ae}{t:List ai}{bW d:av 96 Int}(h:Gv f t)(ho:gM bW)(hd:gM d):cZ.P0 be eM f t bW d=some true:=by
 obtain⟨g,e1,hg⟩:=NF eM o1
 obtain⟨ds,e2,hdl,hdd⟩:=NG hg be o0
 obtain⟨u,v,e3,hs⟩:=M_ be o0
 obtain⟨xs,e4,hx⟩:=QR eM o1 (n:=ds.length) (by omega)
 obtain⟨c,e5,hc,Co⟩:=Na eM o1
 obtain⟨list,_,e6,hll,_,_⟩:=IJ eM o1 hs
 have hg1:=hg.h1;have hg2:=hg.s0;have hg3:=hg.s1
 have hgi:vE g:=⟨by omega,fun y hy=>by have:=hg.hp y hy;omega⟩
 have huv:Gv u v→True:=fun _=>trivial
 have hu1:=hs.fr.h1;have hu2:=hs.fr.s0;have hu3:=hs.fr.s1;have hv:=hs.tn.len
 have hui:vE u:=⟨by omega,fun y hy=>by have:=hs.fr.hp y hy;omega⟩
 have hvn:∀n∈v,AG n:=fun n hn=>by have:=hs.tn.nt n hn;exact⟨by omega,by omega⟩
 have v8:=h.ht.len
 have k1:=AM (ah:=20000) h.fi h.hl (show t.length≤1000000 by omega) h.ni ho hd (by omega)
 have k2:=yL hgi (show g.aa.length≤9223372036854775807 by omega) (show ds.length≤1000000 by omega) (fun d h=>(hdd d h).1) xs hx
 have k3:=B_ (list:=list) (ah:=20000) hui (show u.aa.length≤1000000 by omega) (show v.length≤1000000 by omega) hvn Co (show list.length≤1000000 by omega)
 simp only [cZ.P0,e1,e2,e3,e4,e5,e6,k1,k2,k3,ar,cp]
theorem QS(be eM:List Int)(h0:1≤be.length)(hc:be.length≤65536)(hm:eM.length≤65536):cZ.fk be eM true=some true:=by
 have EZ:(be.drop (1:Int).toNat).length≤65536:=by rw [iu];omega
 have a0:At (be.drop (1:Int).toNat) 0:=⟨by omega,by omega⟩
 have b0:At eM 0:=⟨by omega,by omega⟩
 obtain⟨f,a1,e1,fi,fl,p1⟩:=QN EZ a0
 obtain⟨t,a2,e2,tl,tn,p2⟩:=Yn EZ p1
 obtain⟨bW,a3,e3,oi,p3,_⟩:=EX EZ p2
 obtain⟨d,a4,e4,di,_⟩:=EX EZ p3
 obtain⟨ds,b1,g1,dl,dd,q1⟩:=QM hm b0
 obtain⟨xs,b2,g2,xl,q2⟩:=Yo hm q1
 obtain⟨list,b3,g3,ll,q3⟩:=Lw hm q2
 obtain⟨x,b4,g4,q4,_⟩:=lA hm q3
 obtain⟨y,b5,g5,q5,_⟩:=lA hm q4
 obtain⟨z,b6,g6,q6,_⟩:=lA hm q5
 obtain⟨bu,b7,g7,_⟩:=lA hm q6
 have Co:XJ ⟨ot x,ot y,ot z⟩:=⟨AP x,AP y,AP z⟩
 have k1:=AM (t:=t) fi (show f.aa.length≤9223372036854775807 by omega) (show t.length≤1000000 by omega) tn oi di (ag1 bu)
 have k2:=yL fi (show f.aa.length≤9223372036854775807 by omega) (show ds.length≤1000000 by omega) dd xs (show xs.length≤1000000 by omega)
 have k3:=B_ (list:=list) (ah:=qH .i64 bu 16383) fi (show f.aa.length≤1000000 by omega) (show t.length≤1000000 by omega) tn Co (show list.length≤1000000 by omega)
 simp only [cZ.fk,cp]
 rw [ak (by omega)]
 simp only [e1,e2,e3,e4,g1,g2,g3,g4,g5,g6,g7,k1,k2,k3,ar,cp]
theorem Gy(be eM:List Int)(o0:(be.length≤9223372036854775807∧∀y∈be,(0≤y∧y≤255)))(o1:(eM.length≤9223372036854775807∧∀y∈eM,(0≤y∧y≤255))):cZ be eM=some true:=by
 have VA:cZ.fk be eM false=some true:=by
  obtain⟨f,e1,hf,f1,f2⟩:=M8 be o0.2
  obtain⟨t,e2,ht,v8,VG⟩:=QQ hf eM o1.2
  obtain⟨bW,e3,ho,hB⟩:=QP hf eM o1.2
  have xD:=hf.s0
  have h:Gv f t:=⟨hf,ht,X4 (by omega) VG⟩
  obtain⟨d,y,z,e4,hd⟩:=Lx h
  obtain⟨k,e5⟩:=ab8 o0.2
  obtain⟨g,c,e6,hg⟩:=Vz h
  simp only [cZ.fk,cM,bU,e1,e2,e3,e4,e5,e6,ar]
  split
  ·exact HK be eM o0.2 o1.2 h ho hg
  ·exact HK be eM o0.2 o1.2 h ho hd
 simp only [cZ]
 by_cases c1:((decide ((be.length:Int)>65536)) || (decide ((eM.length:Int)>65536)))=true
 ·rw [ak c1]
 ·rw [ax c1]
  simp only [ke,bC,not_or] at c1
  by_cases c2:0<be.length
  ·have C4:ix be 0=some be[0]:=de c2
   rw [ak dT,C4]
   simp only [ar]
   cases decide (be[0]≥128) with
   | true=>exact QS be eM (by omega) (by omega) (by omega)
   | false=>exact VA
  ·rw [ax dF]
   exact VA
end Go.Proofs.YtplklknkkaeniaaGreat
