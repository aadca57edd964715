/- Functions of the program that the law reaches: a plain function each, and that the call comes to its answer if the plain function has one. Printed by a program. -/
import Derived.Test.YtplklknkkaeniaaGreatT
import Derived.Test.YtplklknkkaeniaaGreatTab
import Derived.Test.YtplklknkkaeniaaGreatM0
import Derived.Test.YtplklknkkaeniaaGreatM1
namespace Go.Proofs.YtplklknkkaeniaaGreat
open Eng
set_option linter.unusedVariables false
set_option linter.unusedSectionVars false
set_option maxRecDepth 100000
variable [gj:wu]
noncomputable section
def G6.iQ(f0:ae):Option (Int):=some (au f0.ag)
def G6.e7(f0:ae)(d1:av 96 Int)(step2:Int)(c8:Int):Int→Option ((Int)⊕(Int⊕Unit))
 | aR=>(if(decide (aR<(au f0.ag)))=true then(if(au f0.ag)≠0 then(JN d1 (Int.tmod (au (step2+aR)) (au f0.ag)) c8).bind fun bz=>(if bz=true then some (.inr (.inl aR)) else some (.inl (au (aR+1)))) else none) else some (.inr (.inr ())))
def G6(f0:ae)(d1:av 96 Int)(step2:Int)(c8:Int):Option (Int):=(loop (G6.e7 f0 d1 step2 c8) 1).bind fun dj=>match dj with | .inl p=>some p | .inr p=>G6.iQ f0
theorem G6.c(f0:ae)(d1:av 96 Int)(step2:Int)(c8:Int)(w:World)(r:Int){bj:Option Addr}{bm:Nat}(bi:Nat)(dr:Rw w bj 2 ay f0.aa)(cE:f0.aa.length=bm){fZ qK:Nat}(dL:Rw w (some ⟨fZ,qK,none⟩) 1 aj d1.1)(aH:Nat)(fG:Mem w (bs [some aH]) [⟨some aH,29,cG f0 bj bm bi⟩] w)(fx:f0.aa≠ []→aB bj∉bs [some aH])(eL:d1.1≠ []→aB (some ⟨fZ,qK,none⟩)∉bs [some aH])(h:G6 f0 d1 step2 c8=some r):
   Cq 199 #[(vP aH),(.pointer (some ⟨fZ,qK,none⟩)),(vI step2),(vI c8)] w (vI r) (bs [some aH]) [⟨some aH,29,cG f0 bj bm bi⟩]:=by
 subst cE
 rw [G6] at h
 refine eN Tryz.func199 rfl Tryz.ntmps199 fG (cT [0] (cT [0,0,0,0,0,0] (ad (cT [0] (aK (fun(_:Unit)=>G6.iQ f0=some r) (fun(_:Unit)=> [(8,[],(vI 0)),(9,[],(vI (au f0.ag)))]) (fun(_:Unit)=> [⟨some aH,29,cF f0 bj bi⟩]) ?_ ?_)))))
 ·refine ap ?_
  obtain⟨dj,jD,Sj⟩:=bd h
  refine jl (fun(aR:Int) (_:Unit)=>True) (fun aR _=> [(1,[],(.pointer (some ⟨fZ,qK,none⟩))),(2,[],(vI step2)),(3,[],(vI c8)),(8,[],(vI 0)),(9,[],(vI (au f0.ag))),(10,[],(vI aR))]) (fun aR _=> [⟨some aH,29,cF f0 bj bi⟩]) jD () trivial [0] ?_
  rintro aR _ y_9 _ h
  rw [G6.e7] at h
  refine ad (cT [0,0,0] (qi h (fun h=> ?_) (fun h=> ?_)))
  ·refine kT (ad (ap (cR [0,0,0,0,0] ?_)))
   obtain⟨aao,h⟩:=gd h
   refine tO (pM 0 .i64 (au (step2+aR)) (au f0.ag) aao (oH [0] (bE h fun bz km h=>oQ 0 (fun w hm=>JN.c d1 (Int.tmod (au (step2+aR)) (au f0.ag)) c8 w _ (hm.aM dL eL) km) (eT (qi h (fun h=> ?_) (fun h=> ?_))))))
   ·refine cT [0,0] (aI (cg (aT (c_ (.inl aR) (sj h) (fun e_7=> ?_)))))
    subst e_7
    refine cg (aT (aT ?_))
    obtain rfl:=si Sj
    exact qP [0]
   ·exact bV (nT (cH [0,0,0] (qe (qb (au (aR+1)) () h trivial [0]))))
  ·exact lX (.inr ()) h (fun e=>by subst e;exact bo (qm () Sj [0]))
 ·rintro _ h
  unfold G6.iQ at h
  refine aP (cT [0,0] (aI ?_))
  cases h
  exact qP [0]
def Fb0(f0:ae)(d1:av 96 Int)(step2:Int)(c8:Int):Option (Bool):=(JN d1 step2 c8).bind fun dj=>(if dj=true then(ix f0.aa c8).bind fun j5=>(G6 f0 d1 step2 c8).bind fun bz=>some (decide (bz<(au j5.fg))) else some false)
theorem Fb0.c(f0:ae)(d1:av 96 Int)(step2:Int)(c8:Int)(w:World)(r:Bool){bj:Option Addr}{bm:Nat}(bi:Nat)(dr:Rw w bj 2 ay f0.aa)(cE:f0.aa.length=bm){fZ qK:Nat}(dL:Rw w (some ⟨fZ,qK,none⟩) 1 aj d1.1)(aH:Nat)(fG:Mem w (bs [some aH]) [⟨some aH,29,cG f0 bj bm bi⟩] w)(fx:f0.aa≠ []→aB bj∉bs [some aH])(eL:d1.1≠ []→aB (some ⟨fZ,qK,none⟩)∉bs [some aH])(h:Fb0 f0 d1 step2 c8=some r):
   Cq 178 #[(vP aH),(.pointer (some ⟨fZ,qK,none⟩)),(vI step2),(vI c8)] w (.bool r) (bs [some aH]) [⟨some aH,29,cG f0 bj bm bi⟩]:=by
 subst cE
 rw [Fb0] at h
 refine eN Tryz.func178 rfl Tryz.ntmps178 fG (cT [0] (ad (qg [⟨some aH,29,cF f0 bj bi⟩] 22 (qd [⟨0,0,0⟩,⟨1,0,0⟩,⟨2,0,0⟩] 19 [0] (bE h fun dj kN h=>dQ 3 0 (fun w hm=>JN.c d1 step2 c8 w _ (hm.aM dL eL) kN) [0] (qd [⟨4,0,0⟩,⟨5,0,1⟩,⟨6,0,1⟩,⟨7,0,1⟩,⟨8,0,1⟩,⟨10,0,1⟩,⟨11,0,1⟩,⟨12,0,1⟩,⟨13,0,1⟩,⟨14,0,1⟩] 8 [0] (js 13 dj (fun aaG=> ?_) (fun aaG=> ?_))))))))
 ·replace h:=yi aaG h
  refine bE h fun j5 lC h=>qX 15 2 [0] bj 2 lC rfl (dr.sp lC) (qd [⟨16,0,2⟩] 6 [0] (qL 17 2 [0] false (fun w hm=>((hm.aM dr fx).at lC).sub 1 1) (qd [⟨18,0,2⟩] 4 [0] (bE h fun bz jP h=>tD 9 (pc 2 (fun w hm=>G6.c f0 d1 step2 c8 w _ bi (hm.aM dr fx) rfl (hm.aM dL eL) aH (hm.ps [0]) (hm.xp dr fx [0]) (hm.xp dL eL [0]) jP) ?_)))))
  rintro w v w' hm ⟨rfl,bn⟩
  refine ⟨_,hm.aW [(0,⟨some aH,29,cF f0 bj bi⟩)] [] bn,kD [0] (qd [⟨19,0,2⟩,⟨20,0,4⟩,⟨21,0,0⟩] 0 [0] (qz (xR ?_)))⟩
  cases h
  exact qP [0]
 ·replace h:=yj aaG h
  refine qd [⟨9,0,3⟩,⟨15,0,3⟩,⟨16,0,3⟩,⟨17,0,3⟩,⟨18,0,3⟩,⟨19,0,3⟩,⟨20,0,5⟩,⟨21,0,0⟩] 0 [0] (qz (xR ?_))
  cases h
  exact qP [0]
def FK.fk(bO:List (av 2 Int)):Option ((List (av 2 Int))):=some bO
def FK.u6(aR:Int)(dc:List (av 2 Int)):Option (((List (av 2 Int))×Int)⊕((List (av 2 Int)))):=some (.inl (dc,(au (aR+1))))
def FK.kq(f0:ae)(d1:av 96 Int)(aR:Int):((List (av 2 Int))×Int)→Option (((List (av 2 Int))×Int)⊕((List (av 2 Int))))
 | (aL,bK)=>(if(decide (bK<(f0.aa.length:Int)))=true then(Fb0 f0 d1 aR bK).bind fun lD=>(if lD=true then(if aL.length+([(av.set (av.set (av.dC 2 0) 0 aR) 1 bK)]:List (av 2 Int)).length≤4294967296 then some (.inl ((aL++([(av.set (av.set (av.dC 2 0) 0 aR) 1 bK)]:List (av 2 Int))),(au (bK+1)))) else none) else some (.inl (aL,(au (bK+1))))) else some (.inr aL))
def FK.fY(f0:ae)(d1:av 96 Int):((List (av 2 Int))×Int)→Option (((List (av 2 Int))×Int)⊕((List (av 2 Int))))
 | (b_,aR)=>(if(decide (aR<(au f0.ag)))=true then(loop (FK.kq f0 d1 aR) (b_,0)).bind fun Cp=>FK.u6 aR Cp else some (.inr b_))
def FK(f0:ae)(d1:av 96 Int):Option ((List (av 2 Int))):=(loop (FK.fY f0 d1) (([]:List (av 2 Int)),0)).bind fun sf=>FK.fk sf
theorem FK.c(f0:ae)(d1:av 96 Int)(w:World)(r:(List (av 2 Int))){bj:Option Addr}{bm:Nat}(bi:Nat)(dr:Rw w bj 2 ay f0.aa)(cE:f0.aa.length=bm){fZ qK:Nat}(dL:Rw w (some ⟨fZ,qK,none⟩) 1 aj d1.1)(aH:Nat)(fG:Mem w (bs [some aH]) [⟨some aH,29,cG f0 bj bm bi⟩] w)(fx:f0.aa≠ []→aB bj∉bs [some aH])(eL:d1.1≠ []→aB (some ⟨fZ,qK,none⟩)∉bs [some aH])(h:FK f0 d1=some r):
   Cr 135 #[(vP aH),(.pointer (some ⟨fZ,qK,none⟩))] w fun v w'=>∃(o0:Option Nat) (c0:Nat) (s0:List Value) (n0:Nat),r.length=n0∧(hS o0 n0 c0 s0 2)∧(hO o0 r c0)∧v= .slice (mB o0) n0 c0∧Mem w (bs [some aH]) [⟨some aH,29,cG f0 bj bm bi⟩,⟨o0,192,row ca r s0⟩] w':=by
 subst cE
 rw [FK] at h
 refine eN Tryz.func135 rfl Tryz.ntmps135 fG (cT [0] (ad (ao (oA 0 (fun gC=>qh [0] (eT (ad (cT [0] (aK (fun(j:(List (av 2 Int))×(Option Nat)×Nat×(List Value)×Nat)=>match j with | ⟨bO,j8,bP,eZ,mT⟩=>FK.fk bO=some r∧(bO.length=mT)∧(hS j8 mT bP eZ 2)∧(hO j8 bO bP)) (fun⟨bO,j8,bP,eZ,mT⟩=> [(4,[],(.slice none 0 0)),(5,[],(.slice (mB j8) mT bP))]) (fun⟨bO,j8,bP,eZ,mT⟩=> [⟨some aH,29,cF f0 bj bi⟩,⟨j8,192,row ca bO eZ⟩]) ?_ ?_)))))))))
 ·refine ap ?_
  obtain⟨sf,uu,DE⟩:=bd h
  refine jl (fun(s:(List (av 2 Int))×Int) (x:(Option Nat)×Nat×(List Value)×Nat)=>match s,x with | ⟨b_,aR⟩,⟨kj,fh,dN,uv⟩=>(b_.length=uv)∧(hS kj uv fh dN 2)∧(hO kj b_ fh)) (fun⟨b_,aR⟩ ⟨kj,fh,dN,uv⟩=> [(0,[],(vP aH)),(1,[],(.pointer (some ⟨fZ,qK,none⟩))),(4,[],(.slice none 0 0)),(5,[],(.slice (mB kj) uv fh)),(6,[],(vI aR))]) (fun⟨b_,aR⟩ ⟨kj,fh,dN,uv⟩=> [⟨some aH,29,cF f0 bj bi⟩,⟨kj,192,row ca b_ dN⟩]) uu ⟨(some gC),0,[],0⟩ ⟨rfl,(fun _=>⟨bt _,by simp⟩),(fun e=>nomatch e)⟩ [0,1] ?_
  rintro⟨b_,aR⟩ ⟨kj,fh,dN,uv⟩ ahP ⟨rfl,uk,pz⟩ h
  rw [FK.fY] at h
  refine ad (cT [0,0,0,0,0,0,0] (qi h (fun h=> ?_) (fun h=> ?_)))
  ·refine kT (ad (ap (cT [0] (aK (fun(j:(List (av 2 Int))×(Option Nat)×Nat×(List Value)×Nat)=>match j with | ⟨dc,fj,ct,gb,lm⟩=>FK.u6 aR dc=some ahP∧(dc.length=lm)∧(hS fj lm ct gb 2)∧(hO fj dc ct)) (fun⟨dc,fj,ct,gb,lm⟩=> [(0,[],(vP aH)),(1,[],(.pointer (some ⟨fZ,qK,none⟩))),(4,[],(.slice none 0 0)),(5,[],(.slice (mB fj) lm ct)),(6,[],(vI aR))]) (fun⟨dc,fj,ct,gb,lm⟩=> [⟨some aH,29,cF f0 bj bi⟩,⟨fj,192,row ca dc gb⟩]) ?_ ?_))))
   ·refine ap ?_
    obtain⟨Cp,uw,DF⟩:=bd h
    refine jl (fun(s:(List (av 2 Int))×Int) (x:(Option Nat)×Nat×(List Value)×Nat)=>match s,x with | ⟨aL,bK⟩,⟨gp,iy,eV,mW⟩=>(aL.length=mW)∧(hS gp mW iy eV 2)∧(hO gp aL iy)) (fun⟨aL,bK⟩ ⟨gp,iy,eV,mW⟩=> [(0,[],(vP aH)),(1,[],(.pointer (some ⟨fZ,qK,none⟩))),(4,[],(.slice none 0 0)),(5,[],(.slice (mB gp) mW iy)),(6,[],(vI aR)),(7,[],(vI bK))]) (fun⟨aL,bK⟩ ⟨gp,iy,eV,mW⟩=> [⟨some aH,29,cF f0 bj bi⟩,⟨gp,192,row ca aL eV⟩]) uw ⟨kj,fh,dN,b_.length⟩ ⟨rfl,uk,pz⟩ [0,1] ?_
    rintro⟨aL,bK⟩ ⟨gp,iy,eV,mW⟩ aj1 ⟨rfl,JE,Sk⟩ h
    rw [FK.kq] at h
    refine ad (cT [0,0,0,0,0,0,0] (qi h (fun h=> ?_) (fun h=> ?_)))
    ·refine kT (ad (ap (cR [0,0,0,0] (bE h fun lD Ao h=>oC 0 (fun w hm=>Fb0.c f0 d1 aR bK w _ bi (hm.aM dr fx) rfl (hm.aM dL eL) aH (hm.ps [0]) (hm.xp dr fx [0]) (hm.xp dL eL [0]) Ao) ?_))))
     rintro w v w' hm ⟨rfl,bn⟩
     refine ⟨_,hm.aW [(0,⟨some aH,29,cF f0 bj bi⟩)] [] bn,fB (eT (qi h (fun h=> ?_) (fun h=> ?_)))⟩
     ·refine cH [0,0,0,0] (tO (Rq 0 192 2 1 ca [(.agg (row aG (av.set (av.set (av.dC 2 0) 0 aR) 1 bK).1 []).toArray)] [(av.set (av.set (av.dC 2 0) 0 aR) 1 bK)] rfl jO (fun Sl=>fB ?_)))
      obtain⟨Oh,h⟩:=gd h
      exact tO (pA 0 1 gp 192 aL.length 1 iy 2 16 (sB Sl) ca aL ([(av.set (av.set (av.dC 2 0) 0 aR) 1 bK)]:List (av 2 Int)) eV (.agg (row aG (av.dC 2 0).1 []).toArray) rfl rfl jO tA JE Sk (fun w hm=>(hm.ow 2 (some Sl) 192 ([(av.set (av.set (av.dC 2 0) 0 aR) 1 bK)]:List (av 2 Int)) [] (fun e=>nomatch e) jO)) Oh (fun J5 Mu Sm DH yp=>oH [0] (qe (nT (cH [0,0,0] (qe (qb ((aL++([(av.set (av.set (av.dC 2 0) 0 aR) 1 bK)]:List (av 2 Int))),(au (bK+1))) ⟨J5,Mu,Sm,(aL++([(av.set (av.set (av.dC 2 0) 0 aR) 1 bK)]:List (av 2 Int))).length⟩ h ⟨rfl,DH,yp⟩ [0,1])))))))
     ·exact bV (nT (cH [0,0,0] (qe (qb (aL,(au (bK+1))) ⟨gp,iy,eV,aL.length⟩ h ⟨rfl,JE,Sk⟩ [0,1]))))
    ·exact lX aL h (fun e=>by subst e;exact bo (qm ⟨aL,gp,iy,eV,aL.length⟩ ⟨DF,rfl,JE,Sk⟩ [0,1]))
   ·rintro⟨dc,fj,ct,gb,lm⟩ ⟨h,rfl,vt,nW⟩
    unfold FK.u6 at h
    exact nT (cH [0,0,0] (qe (qb (dc,(au (aR+1))) ⟨fj,ct,gb,dc.length⟩ h ⟨rfl,vt,nW⟩ [0,1])))
  ·exact lX b_ h (fun e=>by subst e;exact bo (qm ⟨b_,kj,fh,dN,b_.length⟩ ⟨DE,rfl,uk,pz⟩ [0,1]))
 ·rintro⟨bO,j8,bP,eZ,mT⟩ ⟨h,rfl,to,nX⟩
  unfold FK.fk at h
  refine aP (cT [0,0] (aI ?_))
  obtain rfl:=si h
  exact qr [] (fun w hm=>⟨j8,bP,eZ,bO.length,rfl,to,nX,rfl,hm.pk [0,1]⟩)
def Fu.ki(kf:av 96 Int)(kr:List Int):Option ((List Int)×Bool):=some (kr,(kf.1==(av.dC 96 0).1))
def Fu.tG(t1:List ai)(gJ:av 96 Int)(aL:List Int)(ew:Int)(cK:Int):Option (((av 96 Int)×(List Int)×Int)⊕(((List Int)×Bool)⊕((av 96 Int)×(List Int)))):=(if(decide (cK<0))=true then some (.inr (.inl (([]:List Int),false))) else(ix t1 ew).bind fun jZ=>(ix gJ.1 jZ.cd).bind fun p8=>(VK cK).bind fun kY=>(ix gJ.1 jZ.cd).bind fun adf=>(if aL.length+([cK]:List Int).length≤4294967296 then some (.inl ((av.set gJ jZ.cd (kl .u32 p8 kY)),(aL++([cK]:List Int)),(au (ew+1)))) else none))
def Fu.x7(fR:Int)(dW:Int)(mU:Bool):Option ((Int×Int)⊕(((List Int)×Bool)⊕Int)):=(if mU=true then(if(decide (fR≥0))=true then some (.inr (.inl (([]:List Int),false))) else some (.inl (dW,(au (dW+1))))) else some (.inl (fR,(au (dW+1)))))
def Fu.A9(f0:ae)(t1:List ai)(gJ:av 96 Int)(ew:Int):(Int×Int)→Option ((Int×Int)⊕(((List Int)×Bool)⊕Int))
 | (fR,dW)=>(if(decide (dW<(f0.aa.length:Int)))=true then(ix f0.aa dW).bind fun Cs=>(ix t1 ew).bind fun wR=>(if(Cs.aD==wR.aD)=true then(ix t1 ew).bind fun uo=>(JN gJ (au uo.cd) dW).bind fun sf=>Fu.x7 fR dW sf else Fu.x7 fR dW false) else some (.inr (.inr fR)))
def Fu.pH(f0:ae)(t1:List ai):((av 96 Int)×(List Int)×Int)→Option (((av 96 Int)×(List Int)×Int)⊕(((List Int)×Bool)⊕((av 96 Int)×(List Int))))
 | (gJ,aL,ew)=>(if(decide (ew<(t1.length:Int)))=true then(loop (Fu.A9 f0 t1 gJ ew) ((-1),0)).bind fun Mv=>match Mv with | .inl p=>some (.inr (.inl p)) | .inr p=>Fu.tG t1 gJ aL ew p else some (.inr (.inr (gJ,aL))))
def Fu(f0:ae)(t1:List ai)(d2:av 96 Int):Option ((List Int)×Bool):=(FK f0 d2).bind fun eO=>(if(decide ((eO.length:Int)>0))=true then some (([]:List Int),false) else(loop (Fu.pH f0 t1) (d2,([]:List Int),0)).bind fun tF=>match tF with | .inl p=>some p | .inr p=>Fu.ki p.1 p.2)
set_option maxHeartbeats 8000000 in
theorem Fu.c(f0:ae)(t1:List ai)(d2:av 96 Int)(w:World)(r:(List Int)×Bool){bj:Option Addr}{bm:Nat}(bi:Nat)(dr:Rw w bj 2 ay f0.aa)(cE:f0.aa.length=bm){bL:Option Addr}{bG:Nat}(bQ:Nat)(dL:Rw w bL 2 aF t1)(dU:t1.length=bG){dY YB:Nat}(g_:Rw w (some ⟨dY,YB,none⟩) 1 aj d2.1)(aH:Nat)(fG:Mem w (bs [some aH]) [⟨some aH,29,cG f0 bj bm bi⟩] w)(fx:f0.aa≠ []→aB bj∉bs [some aH])(eL:t1≠ []→aB bL∉bs [some aH])(gT:d2.1≠ []→aB (some ⟨dY,YB,none⟩)∉bs [some aH])(h:Fu f0 t1 d2=some r):
   Cr 69 #[(vP aH),(.slice bL bG bQ),(.pointer (some ⟨dY,YB,none⟩))] w fun v w'=>∃(o0:Option Nat) (c0:Nat) (s0:List Value) (n0:Nat),r.1.length=n0∧(hS o0 n0 c0 s0 1)∧(hO o0 r.1 c0)∧v= .tuple #[.slice (mB o0) n0 c0,(.bool r.2)]∧Mem w (bs [some aH]) [⟨some aH,29,cG f0 bj bm bi⟩,⟨o0,2,row aG r.1 s0⟩] w':=by
 subst cE dU
 rw [Fu] at h
 refine eN Tryz.func69 rfl Tryz.ntmps69 fG (cT [0,0] (cR [0,0] (bE h fun eO mF h=>oC 0 (fun w hm=>FK.c f0 d2 w _ bi (hm.aM dr fx) rfl (hm.aM g_ gT) aH (hm.ps [0]) (hm.xp dr fx [0]) (hm.xp g_ gT [0]) mF) ?_)))
 rintro w v w' hm ⟨qR,dv,fP,_,rfl,aj2,aj3,rfl,bn⟩
 refine ⟨_,hm.aW [(0,⟨some aH,29,cF f0 bj bi⟩)] [⟨qR,192,row ca eO fP⟩] bn,oH [0] (eT (ad (cT [0,0,0] (qi h (fun h=> ?_) (fun h=> ?_)))))⟩
 ·refine ad (ao (oA 0 (fun gC=>qh [0,0] (eT (rX ?_)))))
  obtain rfl:=si h
  exact qr [] (fun w hm=>⟨(some gC),0,[],0,rfl,(fun _=>⟨bt _,by simp⟩),(fun e=>nomatch e),rfl,hm.pk [0,2]⟩)
 ·refine kT (cR [0,0] (tO (NZ 0 dY YB (row aj d2.1 []) 96 (by kernel_rfl) (by kernel_rfl) ((gG an d2).trans rfl) (fun w hm=>((hm.aM g_ gT).all an)) (fB (oA 0 (fun gx=>tO (pS 0 2 gx 96 1 36 aj (av.dC 96 0) d2 an bk (fB (eT (ad (ao (oA 0 (fun A3=>qh [0] (eT (ad (cT [0] (aK (fun(j:(av 96 Int)×(List Int)×(Option Nat)×Nat×(List Value)×Nat)=>match j with | ⟨kf,kr,kp,ec,ig,mW⟩=>Fu.ki kf kr=some r∧(kr.length=mW)∧(hS kp mW ec ig 1)∧(hO kp kr ec)) (fun⟨kf,kr,kp,ec,ig,mW⟩=> [(6,[],(.slice none 0 0)),(7,[],(.bool false)),(9,[],(vP gx)),(10,[],(.slice (mB kp) mW ec))]) (fun⟨kf,kr,kp,ec,ig,mW⟩=> [⟨some aH,29,cF f0 bj bi⟩,⟨qR,192,row ca eO fP⟩,⟨(some gx),36,row aj kf.1 []⟩,⟨kp,2,row aG kr ig⟩]) ?_ ?_)))))))))))))))))
  ·refine ap ?_
   obtain⟨tF,DI,Dp⟩:=bd h
   refine jl (fun(s:(av 96 Int)×(List Int)×Int) (x:(Option Nat)×Nat×(List Value)×Nat)=>match s,x with | ⟨gJ,aL,ew⟩,⟨kj,cu,eQ,jY⟩=>(aL.length=jY)∧(hS kj jY cu eQ 1)∧(hO kj aL cu)) (fun⟨gJ,aL,ew⟩ ⟨kj,cu,eQ,jY⟩=> [(0,[],(vP aH)),(1,[],(.slice bL t1.length bQ)),(6,[],(.slice none 0 0)),(7,[],(.bool false)),(9,[],(vP gx)),(10,[],(.slice (mB kj) jY cu)),(11,[],(vI ew))]) (fun⟨gJ,aL,ew⟩ ⟨kj,cu,eQ,jY⟩=> [⟨some aH,29,cF f0 bj bi⟩,⟨qR,192,row ca eO fP⟩,⟨(some gx),36,row aj gJ.1 []⟩,⟨kj,2,row aG aL eQ⟩]) DI ⟨(some A3),0,[],0⟩ ⟨rfl,(fun _=>⟨bt _,by simp⟩),(fun e=>nomatch e)⟩ [0,1,2,3] ?_
   rintro⟨gJ,aL,ew⟩ ⟨kj,cu,eQ,jY⟩ acG ⟨rfl,uk,pz⟩ h
   rw [Fu.pH] at h
   refine ad (cT [0,0,0,0] (qi h (fun h=> ?_) (fun h=> ?_)))
   ·refine kT (ad (ap (cT [0] (ad (cT [0] (aK (fun(cK:Int)=>Fu.tG t1 gJ aL ew cK=some acG) (fun cK=> [(0,[],(vP aH)),(1,[],(.slice bL t1.length bQ)),(6,[],(.slice none 0 0)),(7,[],(.bool false)),(9,[],(vP gx)),(10,[],(.slice (mB kj) aL.length cu)),(11,[],(vI ew)),(12,[],(vI cK))]) (fun cK=> [⟨some aH,29,cF f0 bj bi⟩,⟨qR,192,row ca eO fP⟩,⟨(some gx),36,row aj gJ.1 []⟩,⟨kj,2,row aG aL eQ⟩]) ?_ ?_))))))
    ·refine ap ?_
     obtain⟨Mv,Sn,vr⟩:=bd h
     refine jl (fun(s:Int×Int) (x:Unit)=>match s,x with | ⟨fR,dW⟩,_=>True) (fun⟨fR,dW⟩ _=> [(0,[],(vP aH)),(1,[],(.slice bL t1.length bQ)),(6,[],(.slice none 0 0)),(7,[],(.bool false)),(9,[],(vP gx)),(10,[],(.slice (mB kj) aL.length cu)),(11,[],(vI ew)),(12,[],(vI fR)),(13,[],(vI dW))]) (fun⟨fR,dW⟩ _=> [⟨some aH,29,cF f0 bj bi⟩,⟨qR,192,row ca eO fP⟩,⟨(some gx),36,row aj gJ.1 []⟩,⟨kj,2,row aG aL eQ⟩]) Sn () trivial [0,1,2,3] ?_
     rintro⟨fR,dW⟩ _ ahQ _ h
     rw [Fu.A9] at h
     refine ad (cT [0,0,0,0,0,0,0] (qi h (fun h=> ?_) (fun h=> ?_)))
     ·refine kT (ad (ap (ad (aK (fun(mU:Bool)=>Fu.x7 fR dW mU=some ahQ) (fun mU=> [(0,[],(vP aH)),(1,[],(.slice bL t1.length bQ)),(6,[],(.slice none 0 0)),(7,[],(.bool false)),(9,[],(vP gx)),(10,[],(.slice (mB kj) aL.length cu)),(11,[],(vI ew)),(12,[],(vI fR)),(13,[],(vI dW)),(63,[],(.bool mU))]) (fun mU=> [⟨some aH,29,cF f0 bj bi⟩,⟨qR,192,row ca eO fP⟩,⟨(some gx),36,row aj gJ.1 []⟩,⟨kj,2,row aG aL eQ⟩]) ?_ ?_))))
      ·refine qg [⟨some aH,29,cF f0 bj bi⟩,⟨qR,192,row ca eO fP⟩,⟨(some gx),36,row aj gJ.1 []⟩,⟨kj,2,row aG aL eQ⟩] 24 (qd [⟨0,0,0⟩,⟨1,0,0⟩,⟨2,0,0⟩,⟨3,0,0⟩,⟨4,0,0⟩,⟨8,0,0⟩,⟨9,0,0⟩] 17 [0,1,2,3] (bE h fun Cs wP h=>qX 5 0 [0,1,2,3] bj 2 wP rfl (dr.sp wP) (qd [⟨6,0,0⟩] 15 [0,1,2,3] (qL 7 0 [0,1,2,3] false (fun w hm=>((hm.aM dr fx).at wP).sub 0 1) (bE h fun wR Sp h=>qX 10 0 [0,1,2,3] bL 2 Sp rfl (dL.sp Sp) (qd [⟨11,0,0⟩] 12 [0,1,2,3] (qL 12 0 [0,1,2,3] false (fun w hm=>((hm.aM dL eL).at Sp).sub 1 1) (qd [⟨13,0,0⟩,⟨14,0,0⟩,⟨15,0,1⟩,⟨16,0,1⟩,⟨21,0,1⟩] 6 [0,1,2,3] (js 54 (Cs.aD==wR.aD) (fun Sq=> ?_) (fun Sq=> ?_))))))))))
       ·replace h:=yi Sq h
        exact bE h fun uo tj h=>qX 17 2 [0,1,2,3] bL 2 tj rfl (dL.sp tj) (qd [⟨18,0,2⟩] 4 [0,1,2,3] (qL 19 2 [0,1,2,3] false (fun w hm=>((hm.aM dL eL).at tj).sub 0 1) (qd [⟨20,0,2⟩] 2 [0,1,2,3] (bE h fun sf JY h=>dQ 22 2 (fun w hm=>JN.c gJ (au uo.cd) dW w _ (hm.ow 2 (some gx) 36 gJ.1 [] (fun e=>nomatch e) an) JY) [0,1,2,3] (qd [⟨23,0,4⟩] 0 [0,1,2,3] (qz (qm sf h [0,1,2,3])))))))
       ·replace h:=yj Sq h
        exact qd [⟨17,0,3⟩,⟨18,0,3⟩,⟨19,0,3⟩,⟨20,0,3⟩,⟨22,0,3⟩,⟨23,0,5⟩] 0 [0,1,2,3] (qz (qm false h [0,1,2,3]))
      ·rintro mU h
       unfold Fu.x7 at h
       refine aP (qi h (fun h=> ?_) (fun h=> ?_))
       ·refine ad (cT [0,0] (qi h (fun h=> ?_) (fun h=> ?_)))
        ·refine ad (ao (oA 0 (fun WR=>qh [0,0] (eT (rX (cg (aT (c_ (.inl (([]:List Int),false)) (sj h) (fun ahR=> ?_)))))))))
         subst ahR
         refine cg (aT (aT (cg (aT (c_ (.inl (([]:List Int),false)) (sj vr) (fun ahS=> ?_))))))
         subst ahS
         refine cg (aT (aT ?_))
         obtain rfl:=si Dp
         exact qr [] (fun w hm=>⟨(some WR),0,[],0,rfl,(fun _=>⟨bt _,by simp⟩),(fun e=>nomatch e),rfl,hm.pk [0,4]⟩)
        ·exact kT (cH [0,0] (qe (nT (cH [0,0,0] (qe (qb (dW,(au (dW+1))) () h trivial [0,1,2,3]))))))
       ·exact bV (nT (cH [0,0,0] (qe (qb (fR,(au (dW+1))) () h trivial [0,1,2,3]))))
     ·exact lX (.inr fR) h (fun e=>by subst e;exact bo (qm fR vr [0,1,2,3]))
    ·rintro cK h
     unfold Fu.tG at h
     refine aP (ad (cT [0,0] (qi h (fun h=> ?_) (fun h=> ?_))))
     ·refine ad (ao (oA 0 (fun ahT=>qh [0,0] (eT (rX (cg (aT (c_ (.inl (([]:List Int),false)) (sj h) (fun ahU=> ?_)))))))))
      subst ahU
      refine cg (aT (aT ?_))
      obtain rfl:=si Dp
      exact qr [] (fun w hm=>⟨(some ahT),0,[],0,rfl,(fun _=>⟨bt _,by simp⟩),(fun e=>nomatch e),rfl,hm.pk [0,4]⟩)
     ·refine kT (ad (qg [⟨some aH,29,cF f0 bj bi⟩,⟨qR,192,row ca eO fP⟩,⟨kj,2,row aG aL eQ⟩] 12 (qd [⟨0,0,0⟩,⟨1,0,0⟩,⟨7,0,0⟩] 9 [0,1,3] (bE h fun jZ GZ h=>qX 2 0 [0,1,3] bL 2 GZ rfl (dL.sp GZ) (qd [⟨3,0,0⟩] 7 [0,1,3] (qL 4 0 [0,1,3] false (fun w hm=>((hm.aM dL eL).at GZ).sub 0 1) (bE h fun p8 sk h=>qX 5 0 [0,1,3] (sB gx) 1 sk gJ.2 rfl (t2 6 8 ?_ ?_))))))))
      ·refine ql 0 false (fun w hm=>((hm.ow 2 (some gx) 36 gJ.1 [] (fun e=>nomatch e) an).at sk)) (kD [0,1,3] (bE h fun kY adg h=>dQ 8 0 (fun w hm=>VK.c cK w _ adg) [0,1,3] (qd [⟨9,0,0⟩] 2 [0,1,3] (bE h fun adf ym h=>qX 10 0 [0,1,3] (sB gx) 1 ym gJ.2 rfl (tD 11 (pT 0 2 gx 36 aj gJ.1 [] jZ.cd (kl .u32 p8 kY) 1 0 [(vU (kl .u32 p8 kY))] an ym (kD [0,1,3] (zT (cH [0,0] (oA 0 (fun Mw=>?_)))))))))))
       obtain⟨adh,h⟩:=gd h
       exact tO (pA 0 3 kj 2 aL.length 1 cu 1 8 (sB Mw) aG aL ([cK]:List Int) eQ (vI 0) rfl rfl bf fT uk pz (fun w hm=>(hm.ow 4 (some Mw) 2 ([cK]:List Int) [] (fun e=>nomatch e) bf)) adh (fun aaH aaI adi J6 J7=>oH [0] (qe (nT (cH [0,0,0] (qe (qb ((av.set gJ jZ.cd (kl .u32 p8 kY)),(aL++([cK]:List Int)),(au (ew+1))) ⟨aaH,aaI,adi,(aL++([cK]:List Int)).length⟩ h ⟨rfl,J6,J7⟩ [0,1,2,3])))))))
      ·refine bE h fun kY adk h=>pc 0 (fun w hm=>VK.c cK w _ adk) ?_
       rintro w v w' hm ⟨rfl,bn⟩
       refine aq hm bn (kD [0,1,3] (tD 6 (ql 0 false (fun w hm=>((hm.ow 2 (some gx) 36 gJ.1 [] (fun e=>nomatch e) an).at sk)) (kD [0,1,3] (qd [⟨9,0,0⟩] 2 [0,1,3] (bE h fun adf yn h=>qX 10 0 [0,1,3] (sB gx) 1 yn gJ.2 rfl (tD 11 (pT 0 2 gx 36 aj gJ.1 [] jZ.cd (kl .u32 p8 kY) 1 0 [(vU (kl .u32 p8 kY))] an yn (kD [0,1,3] (zT (cH [0,0] (oA 0 (fun WS=>?_)))))))))))))
       obtain⟨Sr,h⟩:=gd h
       exact tO (pA 0 3 kj 2 aL.length 1 cu 1 8 (sB WS) aG aL ([cK]:List Int) eQ (vI 0) rfl rfl bf fT uk pz (fun w hm=>(hm.ow 4 (some WS) 2 ([cK]:List Int) [] (fun e=>nomatch e) bf)) Sr (fun aaJ Mx Ss Su Sv=>oH [0] (qe (nT (cH [0,0,0] (qe (qb ((av.set gJ jZ.cd (kl .u32 p8 kY)),(aL++([cK]:List Int)),(au (ew+1))) ⟨aaJ,Mx,Ss,(aL++([cK]:List Int)).length⟩ h ⟨rfl,Su,Sv⟩ [0,1,2,3])))))))
   ·exact lX (.inr (gJ,aL)) h (fun e=>by subst e;exact bo (qm ⟨gJ,aL,kj,cu,eQ,aL.length⟩ ⟨Dp,rfl,uk,pz⟩ [0,1,2,3]))
  ·rintro⟨kf,kr,kp,ec,ig,mW⟩ ⟨h,rfl,Sa,Sb⟩
   unfold Fu.ki at h
   refine aP (ad (qg [⟨some aH,29,cF f0 bj bi⟩,⟨qR,192,row ca eO fP⟩,⟨(some gx),36,row aj kf.1 []⟩,⟨kp,2,row aG kr ig⟩] 6 (qd [⟨0,0,0⟩,⟨2,0,0⟩,⟨4,0,0⟩] 3 [0,1,2,3] (qv 1 0 [0,1,2,3] (fun w hm=>jM (b:=gx) (off:=0) (s:=96) (agg:=true) (vs:=row aj kf.1 []) (by kernel_rfl) ((gG an kf).trans rfl) (.inl rfl) (hm.all (hh:=2) (T:=36) (by kernel_rfl))) (tD 3 (acA 0 false 36 34 96 .u32 aj kf (av.dC 96 0) (by kernel_rfl) (by kernel_rfl) Tryz.underlying36 Tryz.underlying34 (fun w=>Tryz.sizeOf34 w) (fun w=>Tryz.isAgg34 w) (fun _=>rfl) (kf.1==(av.dC 96 0).1) rfl (kD [0,1,2,3] (qd [⟨5,0,0⟩] 0 [0,1,2,3] (qz (xR ?_))))))))))
   obtain rfl:=si h
   exact qr [] (fun w hm=>⟨kp,ec,ig,kr.length,rfl,Sa,Sb,rfl,hm.pk [0,3]⟩)
def YG(f0:ae)(t1:List ai)(d2:av 96 Int):Option (Bool×Int):=(F9 f0 t1 d2).bind fun aA=>(if(aA !=0)=true then some (false,aA) else(Fu f0 t1 d2).bind fun bz=>some (bz.2,0))
theorem YG.c(f0:ae)(t1:List ai)(d2:av 96 Int)(w:World)(r:Bool×Int){bj:Option Addr}{bm:Nat}(bi:Nat)(dr:Rw w bj 2 ay f0.aa)(cE:f0.aa.length=bm){bL:Option Addr}{bG:Nat}(bQ:Nat)(dL:Rw w bL 2 aF t1)(dU:t1.length=bG)(h:YG f0 t1 d2=some r):
   Cr 33 #[(.agg #[(vH f0.ag),(.slice bj bm bi)]),(.slice bL bG bQ),(.agg (row aj d2.1 []).toArray)] w fun v w'=>v= .tuple #[(.bool r.1),(vI r.2)]∧Mem w [] [] w':=by
 subst cE dU
 rw [YG] at h
 refine en Tryz.func33 rfl Tryz.ntmps33 (ad (ao (oA 0 (fun cD=>oA 0 (fun fa=>qh [0,0] (eT (ad (cR [0] (bE h fun aA kN h=>oC 0 (fun w hm=>F9.c f0 t1 d2 w _ bi (hm.xr dr) rfl bQ (hm.xr dL) rfl (hm.ow 1 (some fa) 36 d2.1 [] (fun e=>nomatch e) an) cD (hm.ps [0]) (hm.xp dr (fun _=>cq) [0]) (hm.xp dL (fun _=>cq) [0]) (hm.oa 1 (some fa) (fun e=>nomatch e) [0]) kN) ?_)))))))))
 rintro w v w' hm ⟨rfl,bn⟩
 refine ⟨_,hm.aW [(0,⟨some cD,29,cF f0 bj bi⟩)] [] bn,oH [0] (eT (cT [0,0] (qi h (fun h=> ?_) (fun h=> ?_))))⟩
 ·refine cT [0,0,0] (rX ?_)
  cases h
  exact qP []
 ·refine kT (cR [0] (bE h fun bz jP h=>oC 0 (fun w hm=>Fu.c f0 t1 d2 w _ bi (hm.xr dr) rfl bQ (hm.xr dL) rfl (hm.ow 1 (some fa) 36 d2.1 [] (fun e=>nomatch e) an) cD (hm.ps [0]) (hm.xp dr (fun _=>cq) [0]) (hm.xp dL (fun _=>cq) [0]) (hm.oa 1 (some fa) (fun e=>nomatch e) [0]) jP) ?_))
  rintro w v w' hm ⟨nh,gK,s9,_,rfl,Pz,oV,rfl,bn⟩
  refine ⟨_,hm.aW [(0,⟨some cD,29,cF f0 bj bi⟩)] [⟨nh,2,row aG bz.1 s9⟩] bn,oH [0,0,0,0,0] (eT (cT [0,0,0] (aI ?_)))⟩
  cases h
  exact qP []
def FbO(f0:ae)(d1:av 96 Int):Option ((List (av 2 Int))×Int):=(GU f0 ([d1]:List (av 96 Int))).bind fun bz=>(if(bz !=0)=true then some ([],bz) else(RW f0 d1).bind fun aA=>some (aA,0))
theorem FbO.c(f0:ae)(d1:av 96 Int)(w:World)(r:(List (av 2 Int))×Int){bj:Option Addr}{bm:Nat}(bi:Nat)(dr:Rw w bj 2 ay f0.aa)(cE:f0.aa.length=bm)(h:FbO f0 d1=some r):
   Cr 72 #[(.agg #[(vH f0.ag),(.slice bj bm bi)]),(.agg (row aj d1.1 []).toArray)] w fun v w'=>∃(o0:Option Nat) (c0:Nat) (s0:List Value) (n0:Nat),r.1.length=n0∧(hS o0 n0 c0 s0 2)∧(hO o0 r.1 c0)∧v= .tuple #[.slice (mB o0) n0 c0,(vI r.2)]∧Mem w [] [⟨o0,192,row ca r.1 s0⟩] w':=by
 subst cE
 rw [FbO] at h
 refine en Tryz.func72 rfl Tryz.ntmps72 (ad (ao (oA 0 (fun fa=>oA 0 (fun cD=>qh [0,0] (eT (ad (cR [0] (tO (pL 0 1 cD 96 1 36 aj d1 an (fB (tO (Rq 0 36 96 1 da [(.agg (row aj d1.1 []).toArray)] [d1] rfl dD (fun fV=>fB (bE h fun bz jP h=>oQ 0 (fun w hm=>GU.c f0 ([d1]:List (av 96 Int)) w _ bi (hm.xr dr) rfl 1 (hm.ow 2 (some fV) 36 ([d1]:List (av 96 Int)) [] (fun e=>nomatch e) dD) rfl jP) (qh [0] (eT (cT [0,0] (qi h (fun h=> ?_) (fun h=> ?_))))))))))))))))))))
 ·refine cT [0,0,0] (rX ?_)
  obtain rfl:=si h
  exact lg 192 ca (qr [] (fun w hm=>⟨none,0,[],0,rfl,(fun e=>absurd rfl e),(fun _=>⟨rfl,rfl⟩),rfl,hm.pk [3]⟩))
 ·refine kT (cR [0] (tO (pL 0 1 cD 96 1 36 aj d1 an (fB (bE h fun aA jD h=>oC 0 (fun w hm=>RW.c f0 d1 w _ bi (hm.xr dr) rfl jD) ?_)))))
  rintro w v w' hm ⟨lU,gK,rJ,_,rfl,Cn,lq,rfl,bn⟩
  refine aq hm bn (oH [0,0] (eT (aI ?_)))
  obtain rfl:=si h
  exact qr [] (fun w hm=>⟨lU,gK,rJ,aA.length,rfl,Cn,lq,rfl,hm.pk [3]⟩)
def Sw(f0:ae)(d1:av 96 Int):Option (Bool×Int):=(FbO f0 d1).bind fun aA=>some (((aA.2==0)&&((aA.1.length:Int)==0)),aA.2)
theorem Sw.c(f0:ae)(d1:av 96 Int)(w:World)(r:Bool×Int){bj:Option Addr}{bm:Nat}(bi:Nat)(dr:Rw w bj 2 ay f0.aa)(cE:f0.aa.length=bm)(h:Sw f0 d1=some r):
   Cr 35 #[(.agg #[(vH f0.ag),(.slice bj bm bi)]),(.agg (row aj d1.1 []).toArray)] w fun v w'=>v= .tuple #[(.bool r.1),(vI r.2)]∧Mem w [] [] w':=by
 subst cE
 rw [Sw] at h
 refine en Tryz.func35 rfl Tryz.ntmps35 (ad (ao (oA 0 (fun cD=>oA 0 (fun fa=>qh [0,0] (eT (cR [0] (tO (pL 0 1 fa 96 1 36 aj d1 an (fB (bE h fun aA kN h=>oC 0 (fun w hm=>FbO.c f0 d1 w _ bi (hm.xr dr) rfl kN) ?_)))))))))))
 rintro w v w' hm ⟨kM,l_,s9,_,rfl,WG,JW,rfl,bn⟩
 refine aq hm bn (oH [0,0,0,0,0] (eT (ad (ao (qf [(0,0),(0,0),(0,0),(0,1),(0,1),(0,1),(0,0),(0,0),(0,0),(0,0)] (eT (aI ?_)))))))
 cases h
 exact qP []
def Sx(a0:List ai)(b1:List ai):Option (Bool):=(FE a0 b1).bind fun aA=>some aA
theorem Sx.c(a0:List ai)(b1:List ai)(w:World)(r:Bool){cQ:Option Addr}{ck:Nat}(bX:Nat)(eX:Rw w cQ 2 aF a0)(dH:a0.length=ck){ej:Option Addr}{eY:Nat}(dV:Nat)(fD:Rw w ej 2 aF b1)(jC:b1.length=eY)(h:Sx a0 b1=some r):
   Cq 36 #[(.slice cQ ck bX),(.slice ej eY dV)] w (.bool r) [] []:=by
 subst dH jC
 rw [Sx] at h
 refine en Tryz.func36 rfl Tryz.ntmps36 (cT [0] (cR [0,0] (bE h fun aA gv h=>oQ 0 (fun w hm=>FE.c a0 b1 w _ bX (hm.xr eX) rfl dV (hm.xr fD) rfl gv) (qh [0] (eT (aI ?_))))))
 cases h
 exact qP []
def bx.PA(f0:ae)(mK:av 96 Int)(d3:av 96 Int)(aA:(av 96 Int)×Int×Int×Int)(sW:Bool):Option (Bool):=(if sW=true then some false else(R4 f0 mK d3).bind fun lE=>(if(aA.2.2.2==0)=true then(if((lE.2.2 !=0) || (decide (aA.2.1≤(lE.2.1.length:Int))))=true then some true else(if(aA.2.2.2 !=0)=true then some ((aA.2.2.2 !=6) || (lE.2.2 !=0)) else some false)) else(if(aA.2.2.2 !=0)=true then some ((aA.2.2.2 !=6) || (lE.2.2 !=0)) else some false)))
def bx.s_(f0:ae)(t1:List ai)(mK:av 96 Int)(d3:av 96 Int)(aA:(av 96 Int)×Int×Int×Int)(dz:Bool×Int)(xH:Bool):Option (Bool):=(if xH=true then some false else(if((dz.2 !=0) || (!dz.1))=true then some true else(Mp f0 d3).bind fun jU=>(Sw f0 d3).bind fun eo=>(if(((jU.2 !=0) || (eo.2 !=0)) || (!eo.1))=true then bx.PA f0 mK d3 aA true else(Sx jU.1 t1).bind fun iq=>bx.PA f0 mK d3 aA (!iq))))
def bx.ue(f0:ae)(t1:List ai)(mK:av 96 Int)(d3:av 96 Int)(aA:(av 96 Int)×Int×Int×Int):Option (Bool):=(aV f0 d3).bind fun kY=>(if(!kY)=true then some false else(QV f0 t1 d3).bind fun dz=>(YG f0 t1 d3).bind fun eO=>(if(dz.2 !=eO.2)=true then bx.s_ f0 t1 mK d3 aA dz true else bx.s_ f0 t1 mK d3 aA dz ((dz.2==0)&&(dz.1 !=eO.1))))
def bx.ki(f0:ae)(t1:List ai)(mK:av 96 Int)(d3:av 96 Int)(aA:(av 96 Int)×Int×Int×Int)(sb:Bool):Option (Bool):=(if sb=true then some false else(if(aA.2.2.2==0)=true then(QV f0 t1 aA.1).bind fun s8=>(R4 f0 mK aA.1).bind fun lj=>(if((((s8.2 !=0) || (!s8.1)) || (lj.2.2 !=0)) || ((lj.2.1.length:Int) !=aA.2.1))=true then some false else bx.ue f0 t1 mK d3 aA) else bx.ue f0 t1 mK d3 aA))
def bx(f0:ae)(t1:List ai)(mK:av 96 Int)(d3:av 96 Int)(lV:Int):Option (Bool):=(Wu f0 mK t1 lV).bind fun aA=>(LB f0 mK t1 lV).bind fun dj=>(if(aA.2.2.2 !=dj.2.2.2)=true then bx.ki f0 t1 mK d3 aA true else bx.ki f0 t1 mK d3 aA ((aA.2.2.2==0)&&(aA.2.1 !=dj.2.1)))
set_option maxHeartbeats 8000000 in
theorem bx.c(f0:ae)(t1:List ai)(mK:av 96 Int)(d3:av 96 Int)(lV:Int)(w:World)(r:Bool){bj:Option Addr}{bm:Nat}(bi:Nat)(dr:Rw w bj 2 ay f0.aa)(cE:f0.aa.length=bm){bL:Option Addr}{bG:Nat}(bQ:Nat)(dL:Rw w bL 2 aF t1)(dU:t1.length=bG)(h:bx f0 t1 mK d3 lV=some r):
   Cq 11 #[(.agg #[(vH f0.ag),(.slice bj bm bi)]),(.slice bL bG bQ),(.agg (row aj mK.1 []).toArray),(.agg (row aj d3.1 []).toArray),(vI lV)] w (.bool r) [] []:=by
 subst cE dU
 rw [bx] at h
 refine en Tryz.func11 rfl Tryz.ntmps11 (ad (ao (oA 0 (fun cD=>oA 0 (fun fV=>oA 0 (fun fa=>qh [0] (eT (cR [0] (tO (pL 0 1 fV 96 1 36 aj mK an (oH [0,0] (bE h fun aA wQ h=>oQ 0 (fun w hm=>Wu.c f0 mK t1 lV w _ bi (hm.xr dr) rfl bQ (hm.xr dL) rfl wQ) (qh [0,0,0,0,0] (oA 0 (fun A4=>tO (pS 0 3 A4 96 1 36 aj (av.dC 96 0) aA.1 an bk (oH [0,0,0] (eT (ad (cR [0] (tO (pL 0 1 fV 96 1 36 aj mK an (oH [0,0] (bE h fun dj iR h=>oQ 0 (fun w hm=>LB.c f0 mK t1 lV w _ bi (hm.xr dr) rfl bQ (hm.xr dL) rfl iR) (qh [0,0,0,0,0] (oA 0 (fun gx=>tO (pS 0 4 gx 96 1 36 aj (av.dC 96 0) dj.1 an bk (oH [0,0,0] (eT (ad (aK (fun(sb:Bool)=>bx.ki f0 t1 mK d3 aA sb=some r) (fun sb=> [(1,[],(.slice bL t1.length bQ)),(5,[],(vP cD)),(7,[],(vP fV)),(8,[],(vP fa)),(10,[],(.bool false)),(11,[],(vP A4)),(12,[],(vI aA.2.1)),(14,[],(vI aA.2.2.2)),(66,[],(.bool sb))]) (fun sb=> [⟨some cD,29,cF f0 bj bi⟩,⟨(some fV),36,row aj mK.1 []⟩,⟨(some fa),36,row aj d3.1 []⟩,⟨(some A4),36,row aj aA.1.1 []⟩,⟨(some gx),36,row aj dj.1.1 []⟩]) ?_ ?_))))))))))))))))))))))))))))))))
 ·refine ao (qf [(0,0),(0,0),(0,0),(0,0),(0,1),(0,1)] (qp 58 h (fun h=> ?_) (fun h=> ?_)))
  ·exact qf [(0,3),(0,3),(0,3),(0,3),(0,3),(0,4)] (qe (qm true h [0,1,2,3,4]))
  ·exact qf [(0,2),(0,1),(0,1),(0,1),(0,2),(0,5)] (qe (qm ((aA.2.2.2==0)&&(aA.2.1 !=dj.2.1)) h [0,1,2,3,4]))
 ·rintro sb h
  unfold bx.ki at h
  refine aP (qi h (fun h=> ?_) (fun h=> ?_))
  ·refine cT [0] (rX ?_)
   cases h
   exact qP []
  ·refine kT (ad (aK (fun(_:Unit)=>bx.ue f0 t1 mK d3 aA=some r) (fun(_:Unit)=> [(1,[],(.slice bL t1.length bQ)),(5,[],(vP cD)),(7,[],(vP fV)),(8,[],(vP fa)),(10,[],(.bool false)),(12,[],(vI aA.2.1)),(14,[],(vI aA.2.2.2))]) (fun(_:Unit)=> [⟨some cD,29,cF f0 bj bi⟩,⟨(some fV),36,row aj mK.1 []⟩,⟨(some fa),36,row aj d3.1 []⟩,⟨(some A4),36,row aj aA.1.1 []⟩,⟨(some gx),36,row aj dj.1.1 []⟩]) ?_ ?_))
   ·refine cT [0,0] (qi h (fun h=> ?_) (fun h=> ?_))
    ·refine cR [0,0] (tO (pL 0 3 A4 96 1 36 aj aA.1 an (fB (bE h fun s8 Dk h=>oQ 0 (fun w hm=>QV.c f0 t1 aA.1 w _ bi (hm.xr dr) rfl bQ (hm.xr dL) rfl Dk) (qh [0,0,0,0,0] (eT (cR [0] (tO (pL 0 1 fV 96 1 36 aj mK an (fB (tO (pL 0 3 A4 96 1 36 aj aA.1 an (fB (bE h fun lj Ad h=>oC 0 (fun w hm=>R4.c f0 mK aA.1 w _ bi (hm.xr dr) rfl Ad) ?_))))))))))))))
     rintro w v w' hm ⟨adl,tH,jz,_,rfl,Ac,wO,H9,DJ,ajx,_,rfl,Jy,vq,rfl,bn⟩
     refine aq hm bn (oH [0,0,0,0,0,0,0] (eT (ad (ao (qf [(0,0),(0,0),(0,0),(0,1),(0,1),(0,0),(0,0),(0,1),(0,1),(0,0),(0,0),(0,1),(0,1),(0,1),(0,1),(0,0)] (eT (qi h (fun h=> ?_) (fun h=> ?_))))))))
     ·refine cT [0] (rX (aT ?_))
      cases h
      exact qP []
     ·exact bV (qm () h [0,1,2,3,4])
    ·exact bV (qm () h [0,1,2,3,4])
   ·rintro _ h
    unfold bx.ue at h
    refine aP (ad (cR [0] (tO (pL 0 2 fa 96 1 36 aj d3 an (fB (bE h fun kY qJ h=>oQ 0 (fun w hm=>aV.c f0 d3 w _ bi (hm.xr dr) rfl qJ) (qh [0] (eT (qi h (fun h=> ?_) (fun h=> ?_))))))))))
    ·refine cT [0] (rX ?_)
     cases h
     exact qP []
    ·refine kT (cR [0,0] (tO (pL 0 2 fa 96 1 36 aj d3 an (fB (bE h fun dz Ju h=>oQ 0 (fun w hm=>QV.c f0 t1 d3 w _ bi (hm.xr dr) rfl bQ (hm.xr dL) rfl Ju) (qh [0,0,0,0,0] (eT (ad (cR [0,0] (tO (pL 0 2 fa 96 1 36 aj d3 an (fB (bE h fun eO sa h=>oQ 0 (fun w hm=>YG.c f0 t1 d3 w _ bi (hm.xr dr) rfl bQ (hm.xr dL) rfl sa) (qh [0,0,0,0,0] (eT (ad (aK (fun(xH:Bool)=>bx.s_ f0 t1 mK d3 aA dz xH=some r) (fun xH=> [(1,[],(.slice bL t1.length bQ)),(5,[],(vP cD)),(7,[],(vP fV)),(8,[],(vP fa)),(10,[],(.bool false)),(12,[],(vI aA.2.1)),(14,[],(vI aA.2.2.2)),(24,[],(.bool dz.1)),(25,[],(vI dz.2)),(129,[],(.bool xH))]) (fun xH=> [⟨some cD,29,cF f0 bj bi⟩,⟨(some fV),36,row aj mK.1 []⟩,⟨(some fa),36,row aj d3.1 []⟩,⟨(some A4),36,row aj aA.1.1 []⟩,⟨(some gx),36,row aj dj.1.1 []⟩]) ?_ ?_)))))))))))))))))
     ·refine ao (qf [(0,0),(0,0),(0,0),(0,0),(0,1),(0,1)] (qp 121 h (fun h=> ?_) (fun h=> ?_)))
      ·exact qf [(0,3),(0,3),(0,3),(0,3),(0,3),(0,4)] (qe (qm true h [0,1,2,3,4]))
      ·exact qf [(0,2),(0,1),(0,1),(0,1),(0,2),(0,5)] (qe (qm ((dz.2==0)&&(dz.1 !=eO.1)) h [0,1,2,3,4]))
     ·rintro xH h
      unfold bx.s_ at h
      refine aP (qi h (fun h=> ?_) (fun h=> ?_))
      ·refine cT [0] (rX ?_)
       cases h
       exact qP []
      ·refine kT (s2 (ao (qf [(0,0),(0,0),(0,0),(0,1),(0,1),(0,0)] (eT (qi h (fun h=> ?_) (fun h=> ?_))))))
       ·refine cT [0] (rX ?_)
        cases h
        exact qP []
       ·refine kT (cR [0] (tO (pL 0 2 fa 96 1 36 aj d3 an (fB (bE h fun jU l8 h=>oC 0 (fun w hm=>Mp.c f0 d3 w _ bi (hm.xr dr) rfl l8) ?_)))))
        rintro w v w' hm ⟨gL,tI,eZ,_,rfl,adm,J8,rfl,bn⟩
        refine aq hm bn (oH [0,0,0,0,0] (eT (cR [0] (tO (pL 0 2 fa 96 1 36 aj d3 an (fB (bE h fun eo wK h=>oQ 0 (fun w hm=>Sw.c f0 d3 w _ bi (hm.xr dr) rfl wK) (qh [0,0,0,0,0] (eT (s2 (aK (fun(sW:Bool)=>bx.PA f0 mK d3 aA sW=some r) (fun sW=> [(5,[],(vP cD)),(7,[],(vP fV)),(8,[],(vP fa)),(10,[],(.bool false)),(12,[],(vI aA.2.1)),(14,[],(vI aA.2.2.2)),(163,[],(.bool sW))]) (fun sW=> [⟨some cD,29,cF f0 bj bi⟩,⟨(some fV),36,row aj mK.1 []⟩,⟨(some fa),36,row aj d3.1 []⟩,⟨(some A4),36,row aj aA.1.1 []⟩,⟨(some gx),36,row aj dj.1.1 []⟩,⟨gL,70,row aF jU.1 eZ⟩]) ?_ ?_)))))))))))
        ·refine ao (qf [(0,0),(0,0),(0,0),(0,1),(0,1),(0,0),(0,0),(0,1),(0,1),(0,0),(0,0),(0,1),(0,1)] (qp 158 h (fun h=> ?_) (fun h=> ?_)))
         ·exact qf [(0,3),(0,3),(0,4)] (qe (qm true h [0,1,2,3,4,5]))
         ·exact bE h fun iq r_ h=>oQ 2 (fun w hm=>Sx.c jU.1 t1 w _ tI (hm.ow 5 gL 70 jU.1 eZ (fun e=>(J8 e).1) br) rfl bQ (hm.xr dL) rfl r_) (qf [(0,2),(0,5)] (qe (qm (!iq) h [0,1,2,3,4,5])))
        ·rintro sW h
         unfold bx.PA at h
         refine aP (qi h (fun h=> ?_) (fun h=> ?_))
         ·refine cT [0] (rX ?_)
          cases h
          exact qP []
         ·refine kT (cR [0] (tO (pL 0 1 fV 96 1 36 aj mK an (fB (tO (pL 0 2 fa 96 1 36 aj d3 an (fB (bE h fun lE ug h=>oC 0 (fun w hm=>R4.c f0 mK d3 w _ bi (hm.xr dr) rfl ug) ?_))))))))
          rintro w v w' hm ⟨ux,tJ,Oi,_,rfl,vt,nW,WT,oW,rp,_,rfl,adn,ajy,rfl,bn⟩
          refine aq hm bn (oH [0,0,0,0,0,0,0] (eT (ad (ao (qf [(0,0),(0,0),(0,0),(0,1),(0,1)] (qp 174 h (fun h=> ?_) (fun h=> ?_)))))))
          ·refine qf [(0,2),(0,1),(0,1),(0,1),(0,1),(0,2),(0,4),(0,0),(0,1),(0,1)] (qp 184 h (fun h=> ?_) (fun h=> ?_))
           ·refine qf [(0,3),(0,3),(0,3),(0,3),(0,3),(0,3),(0,3),(0,3),(0,4),(0,0)] (eT (aI ?_))
            cases h
            exact qP []
           ·refine qf [(0,2),(0,1),(0,1)] (qp 187 h (fun h=> ?_) (fun h=> ?_))
            ·refine qf [(0,2),(0,1),(0,1),(0,2),(0,4),(0,5),(0,0)] (eT (aI ?_))
             cases h
             exact qP []
            ·refine qf [(0,3),(0,3),(0,3),(0,3),(0,5),(0,5),(0,0)] (eT (aI ?_))
             cases h
             exact qP []
          ·refine qf [(0,3),(0,3),(0,3),(0,3),(0,3),(0,3),(0,5),(0,0),(0,2),(0,2),(0,2),(0,1),(0,1)] (qp 187 h (fun h=> ?_) (fun h=> ?_))
           ·refine qf [(0,2),(0,1),(0,1),(0,2),(0,4),(0,5),(0,0)] (eT (aI ?_))
            cases h
            exact qP []
           ·refine qf [(0,3),(0,3),(0,3),(0,3),(0,5),(0,5),(0,0)] (eT (aI ?_))
            cases h
            exact qP []
def WU(f0:ae)(bw:List (av 96 Int)):Option (Int):=(GU f0 bw).bind fun bz=>(FI (decide ((bw.length:Int)≤8)) 3).bind fun aA=>(Fe ([bz,aA]:List Int)).bind fun dj=>some dj
theorem WU.c(f0:ae)(bw:List (av 96 Int))(w:World)(r:Int){bj:Option Addr}{bm:Nat}(bi:Nat)(dr:Rw w bj 2 ay f0.aa)(cE:f0.aa.length=bm){bL:Option Addr}{bG:Nat}(bQ:Nat)(dL:Rw w bL 96 da bw)(dU:bw.length=bG)(h:WU f0 bw=some r):
   Cq 75 #[(.agg #[(vH f0.ag),(.slice bj bm bi)]),(.slice bL bG bQ)] w (vI r) [] []:=by
 subst cE dU
 rw [WU] at h
 refine en Tryz.func75 rfl Tryz.ntmps75 (ad (ao (oA 0 (fun fa=>qh [0] (eT (cR [0,0] (bE h fun bz gv h=>oQ 0 (fun w hm=>GU.c f0 bw w _ bi (hm.xr dr) rfl bQ (hm.xr dL) rfl gv) (qh [0,0,0] (bE h fun aA kN h=>oQ 0 (fun w hm=>FI.c (decide ((bw.length:Int)≤8)) 3 w _ kN) (oA 0 (fun gC=>bE h fun dj jD h=>oQ 0 (fun w hm=>Fe.c ([bz,aA]:List Int) w _ 2 (hm.ow 1 (some gC) 2 ([bz,aA]:List Int) [] (fun e=>nomatch e) bf) rfl jD) (qh [0] (eT (aI ?_))))))))))))))
 cases h
 exact qP []
def J9.iQ:Option (Int):=some (-1)
def J9.e7(s0:List Int)(v1:Int):Int→Option ((Int)⊕(Int⊕Unit))
 | aR=>(if(decide (aR<(s0.length:Int)))=true then(ix s0 aR).bind fun pb=>(if(v1==pb)=true then some (.inr (.inl aR)) else some (.inl (au (aR+1)))) else some (.inr (.inr ())))
def J9(s0:List Int)(v1:Int):Option (Int):=(loop (J9.e7 s0 v1) 0).bind fun dz=>match dz with | .inl p=>some p | .inr p=>J9.iQ
theorem J9.c(s0:List Int)(v1:Int)(w:World)(r:Int){cQ:Option Addr}{ck:Nat}(bX:Nat)(eX:Rw w cQ 1 aG s0)(dH:s0.length=ck)(h:J9 s0 v1=some r):
   Cq 184 #[(.slice cQ ck bX),(vI v1)] w (vI r) [] []:=by
 subst dH
 rw [J9] at h
 refine en Tryz.func184 rfl Tryz.ntmps184 (cT [0] (ad (cT [0,0,0] (aK (fun(_:Unit)=>J9.iQ=some r) (fun(_:Unit)=> [(4,[],(vI 0))]) (fun(_:Unit)=> []) ?_ ?_))))
 ·refine ap ?_
  obtain⟨dz,jf,Dc⟩:=bd h
  refine jl (fun(aR:Int) (_:Unit)=>True) (fun aR _=> [(0,[],(.slice cQ s0.length bX)),(1,[],(vI v1)),(4,[],(vI 0)),(7,[],(vI (s0.length:Int))),(8,[],(vI aR))]) (fun aR _=> []) jf () trivial [] ?_
  rintro aR _ y_8 _ h
  rw [J9.e7] at h
  refine cT [0] (ad (qi h (fun h=> ?_) (fun h=> ?_)))
  ·refine kT (ad (ap (cT [0,0] (cR [0,0,0] (bE h fun pb lC h=>oX 0 cQ 1 lC rfl (eX.sp lC) (oL 0 false (fun w hm=>((hm.xr eX).at lC)) (qh [0] (eT (qi h (fun h=> ?_) (fun h=> ?_))))))))))
   ·refine cT [0,0] (aI (cg (aT (c_ (.inl aR) (sj h) (fun e_6=> ?_)))))
    subst e_6
    refine cg (aT (aT ?_))
    obtain rfl:=si Dc
    exact qP []
   ·exact bV (nT (cH [0,0] (qe (qb (au (aR+1)) () h trivial []))))
  ·exact lX (.inr ()) h (fun e=>by subst e;exact bo (qm () Dc []))
 ·rintro _ h
  unfold J9.iQ at h
  refine aP (cT [0] (aI ?_))
  cases h
  exact qP []
def VO(s0:List Int)(v1:Int):Option (Bool):=(J9 s0 v1).bind fun aA=>some (decide (aA≥0))
theorem VO.c(s0:List Int)(v1:Int)(w:World)(r:Bool){cQ:Option Addr}{ck:Nat}(bX:Nat)(eX:Rw w cQ 1 aG s0)(dH:s0.length=ck)(h:VO s0 v1=some r):
   Cq 140 #[(.slice cQ ck bX),(vI v1)] w (.bool r) [] []:=by
 subst dH
 rw [VO] at h
 refine en Tryz.func140 rfl Tryz.ntmps140 (cT [0] (cR [0,0] (bE h fun aA gv h=>oQ 0 (fun w hm=>J9.c s0 v1 w _ bX (hm.xr eX) rfl gv) (qh [0,0] (eT (aI ?_))))))
 cases h
 exact qP []
def BW.iQ:Option (Bool):=some true
def BW.e7(fA:List Int)(n1:Int):Int→Option ((Int)⊕(Bool⊕Unit))
 | aR=>(if(decide (aR<n1))=true then(VO fA aR).bind fun bz=>(if(!bz)=true then some (.inr (.inl false)) else some (.inl (au (aR+1)))) else some (.inr (.inr ())))
def BW(fA:List Int)(n1:Int):Option (Bool):=(if((fA.length:Int) !=n1)=true then some false else(loop (BW.e7 fA n1) 0).bind fun dj=>match dj with | .inl p=>some p | .inr p=>BW.iQ)
theorem BW.c(fA:List Int)(n1:Int)(w:World)(r:Bool){cQ:Option Addr}{ck:Nat}(bX:Nat)(eX:Rw w cQ 1 aG fA)(dH:fA.length=ck)(h:BW fA n1=some r):
   Cq 77 #[(.slice cQ ck bX),(vI n1)] w (.bool r) [] []:=by
 subst dH
 rw [BW] at h
 refine en Tryz.func77 rfl Tryz.ntmps77 (cT [0] (ad (cT [0,0,0,0] (qi h (fun h=> ?_) (fun h=> ?_)))))
 ·refine cT [0] (rX ?_)
  cases h
  exact qP []
 ·refine kT (ad (cT [0,0] (aK (fun(_:Unit)=>BW.iQ=some r) (fun(_:Unit)=> [(4,[],(.bool false))]) (fun(_:Unit)=> []) ?_ ?_)))
  ·refine ap ?_
   obtain⟨dj,jD,Sj⟩:=bd h
   refine jl (fun(aR:Int) (_:Unit)=>True) (fun aR _=> [(0,[],(.slice cQ fA.length bX)),(4,[],(.bool false)),(10,[],(vI n1)),(11,[],(vI aR))]) (fun aR _=> []) jD () trivial [] ?_
   rintro aR _ y_8 _ h
   rw [BW.e7] at h
   refine cT [0] (ad (qi h (fun h=> ?_) (fun h=> ?_)))
   ·refine kT (ad (ap (cT [0,0] (cR [0,0] (bE h fun bz jf h=>oQ 0 (fun w hm=>VO.c fA aR w _ bX (hm.xr eX) rfl jf) (qh [0] (eT (qi h (fun h=> ?_) (fun h=> ?_)))))))))
    ·refine cT [0] (aI (cg (aT (c_ (.inl false) (sj h) (fun e_6=> ?_)))))
     subst e_6
     refine cg (aT (aT ?_))
     obtain rfl:=si Sj
     exact qP []
    ·exact bV (nT (cH [0,0] (qe (qb (au (aR+1)) () h trivial []))))
   ·exact lX (.inr ()) h (fun e=>by subst e;exact bo (qm () Sj []))
  ·rintro _ h
   unfold BW.iQ at h
   refine aP (cT [0] (aI ?_))
   cases h
   exact qP []
def Fce(a0:av 96 Int)(b1:av 96 Int):Option (Int):=(FY a0 b1).bind fun aA=>(F6 aA).bind fun bz=>(FY b1 a0).bind fun dj=>(F6 dj).bind fun dz=>some (au (bz+dz))
theorem Fce.c(a0:av 96 Int)(b1:av 96 Int)(w:World)(r:Int)(h:Fce a0 b1=some r):
   Cq 141 #[(.agg (row aj a0.1 []).toArray),(.agg (row aj b1.1 []).toArray)] w (vI r) [] []:=by
 rw [Fce] at h
 refine en Tryz.func141 rfl Tryz.ntmps141 (ad (ao (oA 0 (fun cD=>oA 0 (fun fa=>qh [0] (eT (ad (qg [⟨(some cD),36,row aj a0.1 []⟩,⟨(some fa),36,row aj b1.1 []⟩] 10 (qv 0 0 [0,1] (fun w hm=>jM (b:=cD) (off:=0) (s:=96) (agg:=true) (vs:=row aj a0.1 []) (by kernel_rfl) ((gG an a0).trans rfl) (.inl rfl) (hm.all (hh:=0) (T:=36) (by kernel_rfl))) (qv 1 0 [0,1] (fun w hm=>jM (b:=fa) (off:=0) (s:=96) (agg:=true) (vs:=row aj b1.1 []) (by kernel_rfl) ((gG an b1).trans rfl) (.inl rfl) (hm.all (hh:=1) (T:=36) (by kernel_rfl))) (qv 4 0 [0,1] (fun w hm=>jM (b:=fa) (off:=0) (s:=96) (agg:=true) (vs:=row aj b1.1 []) (by kernel_rfl) ((gG an b1).trans rfl) (.inl rfl) (hm.all (hh:=1) (T:=36) (by kernel_rfl))) (qv 5 0 [0,1] (fun w hm=>jM (b:=cD) (off:=0) (s:=96) (agg:=true) (vs:=row aj a0.1 []) (by kernel_rfl) ((gG an a0).trans rfl) (.inl rfl) (hm.all (hh:=0) (T:=36) (by kernel_rfl))) (bE h fun aA kN h=>dQ 2 0 (fun w hm=>FY.c a0 b1 w _ kN) [0,1] (bE h fun bz jP h=>dQ 3 0 (fun w hm=>F6.c aA w _ jP) [0,1] (bE h fun dj jD h=>dQ 6 0 (fun w hm=>FY.c b1 a0 w _ jD) [0,1] (bE h fun dz jf h=>dQ 7 0 (fun w hm=>F6.c dj w _ jf) [0,1] (qd [⟨8,0,0⟩,⟨9,0,0⟩] 0 [0,1] (qz (xR ?_)))))))))))))))))))
 cases h
 exact qP []
def zb.iQ(BX:List (List Int)):Option ((List (List Int))):=some BX
def zb.qw(mc:List (List Int))(cS:Int)(a7:List Int):Option (((List (List Int))×Int)⊕((List (List Int)))):=(if mc.length+1≤4294967296 then some (.inl ((mc++ [a7]),(au (cS+1)))) else none)
def zb.ko(ci:List (av 96 Int))(CD:av 96 Int):((List Int)×Int)→Option (((List Int)×Int)⊕((List Int)))
 | (bO,gr)=>(if(decide (gr<(ci.length:Int)))=true then(ix ci gr).bind fun p8=>(Fce CD p8).bind fun kn=>(if bO.length+([kn]:List Int).length≤4294967296 then some (.inl ((bO++([kn]:List Int)),(au (gr+1)))) else none) else some (.inr bO))
def zb.e7(ci:List (av 96 Int)):((List (List Int))×Int)→Option (((List (List Int))×Int)⊕((List (List Int))))
 | (mc,cS)=>(if(decide (cS<(ci.length:Int)))=true then(ix ci cS).bind fun CD=>(loop (zb.ko ci CD) (([]:List Int),0)).bind fun mj=>zb.qw mc cS mj else some (.inr mc))
def zb(ci:List (av 96 Int)):Option ((List (List Int))):=(loop (zb.e7 ci) (([]:List (List Int)),0)).bind fun qM=>zb.iQ qM
theorem zb.c(ci:List (av 96 Int))(w:World)(r:(List (List Int))){cQ:Option Addr}{ck:Nat}(bX:Nat)(eX:Rw w cQ 96 da ci)(dH:ci.length=ck)(h:zb ci=some r):
   Cr 79 #[(.slice cQ ck bX)] w fun v w'=>∃(o0:Option Nat) (c0:Nat) (s0:List Value) (n0:Nat) (h0:List Hd),ph h0 r∧h0.length=n0∧(hS o0 n0 c0 s0 1)∧(hO o0 h0 c0)∧v= .slice (mB o0) n0 c0∧Mem w [] [⟨o0,40,row dZ h0 s0⟩,⟨none,kR,fJ aG h0 r⟩] w':=by
 subst dH
 rw [zb] at h
 refine en Tryz.func79 rfl Tryz.ntmps79 (cT [0] (ad (ao (tO (qa 0 (fun WV=>Ba aG (oH [0] (eT (ad (cT [0,0,0] (aK (fun(j:(List (List Int))×(List Hd)×(Option Nat)×Nat×(List Value)×Nat)=>match j with | ⟨BX,yq,gL,ec,hQ,jY⟩=>zb.iQ BX=some r∧(yq.length=jY)∧(hS gL jY ec hQ 1)∧(hO gL yq ec)∧(ph yq BX)) (fun⟨BX,yq,gL,ec,hQ,jY⟩=> [(2,[],(.slice none 0 0)),(3,[],(.slice (mB gL) jY ec))]) (fun⟨BX,yq,gL,ec,hQ,jY⟩=> [⟨gL,40,row dZ yq hQ⟩,⟨none,kR,fJ aG yq BX⟩]) ?_ ?_)))))))))))
 ·refine ap ?_
  obtain⟨qM,oT,J_⟩:=bd h
  refine jl (fun(s:(List (List Int))×Int) (x:(List Hd)×(Option Nat)×Nat×(List Value)×Nat)=>match s,x with | ⟨mc,cS⟩,⟨kt,lU,et,dK,lp⟩=>(kt.length=lp)∧(hS lU lp et dK 1)∧(hO lU kt et)∧(ph kt mc)) (fun⟨mc,cS⟩ ⟨kt,lU,et,dK,lp⟩=> [(0,[],(.slice cQ ci.length bX)),(2,[],(.slice none 0 0)),(3,[],(.slice (mB lU) lp et)),(10,[],(.slice cQ ci.length bX)),(11,[],(vI (ci.length:Int))),(12,[],(vI cS))]) (fun⟨mc,cS⟩ ⟨kt,lU,et,dK,lp⟩=> [⟨lU,40,row dZ kt dK⟩,⟨none,kR,fJ aG kt mc⟩]) oT ⟨([]:List Hd),(some WV),0,[],0⟩ ⟨rfl,(fun _=>⟨bt _,by simp⟩),(fun e=>nomatch e),ph.nil⟩ [0,1] ?_
  rintro⟨mc,cS⟩ ⟨kt,lU,et,dK,lp⟩ aai ⟨rfl,BN,z8,CE⟩ h
  rw [zb.e7] at h
  refine cT [0] (ad (qi h (fun h=> ?_) (fun h=> ?_)))
  ·refine kT (ad (ap (ad (ao (bE h fun CD sh h=>oX 0 cQ 96 sh rfl (eX.sp sh) (tO (NZ 0 (aB cQ) (aO cQ+cS.toNat*96) (da CD) 96 (by kernel_rfl) (by kernel_rfl) (dD CD) (fun w hm=>((hm.xr eX).at sh)) (fB (oA 0 (fun vV=>tO (pS 0 2 vV 96 1 36 aj (av.dC 96 0) CD an bk (fB (eT (ad (ao (oA 0 (fun Mw=>qh [0] (eT (ad (cT [0,0,0] (aK (fun(j:(List Int)×(Option Nat)×Nat×(List Value)×Nat)=>match j with | ⟨a7,gp,iy,jT,pZ⟩=>zb.qw mc cS a7=some aai∧(a7.length=pZ)∧(hS gp pZ iy jT 1)∧(hO gp a7 iy)) (fun⟨a7,gp,iy,jT,pZ⟩=> [(0,[],(.slice cQ ci.length bX)),(2,[],(.slice none 0 0)),(3,[],(.slice (mB lU) kt.length et)),(6,[],(.slice (mB gp) pZ iy)),(10,[],(.slice cQ ci.length bX)),(11,[],(vI (ci.length:Int))),(12,[],(vI cS))]) (fun⟨a7,gp,iy,jT,pZ⟩=> [⟨lU,40,row dZ kt dK⟩,⟨none,kR,fJ aG kt mc⟩,⟨(some vV),36,row aj CD.1 []⟩,⟨gp,2,row aG a7 jT⟩]) ?_ ?_)))))))))))))))))))))
   ·refine ap ?_
    obtain⟨mj,z6,ado⟩:=bd h
    refine jl (fun(s:(List Int)×Int) (x:(Option Nat)×Nat×(List Value)×Nat)=>match s,x with | ⟨bO,gr⟩,⟨gS,fS,ig,p6⟩=>(bO.length=p6)∧(hS gS p6 fS ig 1)∧(hO gS bO fS)) (fun⟨bO,gr⟩ ⟨gS,fS,ig,p6⟩=> [(0,[],(.slice cQ ci.length bX)),(2,[],(.slice none 0 0)),(3,[],(.slice (mB lU) kt.length et)),(5,[],(vP vV)),(6,[],(.slice (mB gS) p6 fS)),(10,[],(.slice cQ ci.length bX)),(11,[],(vI (ci.length:Int))),(12,[],(vI cS)),(17,[],(.slice cQ ci.length bX)),(18,[],(vI (ci.length:Int))),(19,[],(vI gr))]) (fun⟨bO,gr⟩ ⟨gS,fS,ig,p6⟩=> [⟨lU,40,row dZ kt dK⟩,⟨none,kR,fJ aG kt mc⟩,⟨(some vV),36,row aj CD.1 []⟩,⟨gS,2,row aG bO ig⟩]) z6 ⟨(some Mw),0,[],0⟩ ⟨rfl,(fun _=>⟨bt _,by simp⟩),(fun e=>nomatch e)⟩ [0,1,2,3] ?_
    rintro⟨bO,gr⟩ ⟨gS,fS,ig,p6⟩ ahV ⟨rfl,Ap,Aq⟩ h
    rw [zb.ko] at h
    refine cT [0] (ad (qi h (fun h=> ?_) (fun h=> ?_)))
    ·refine kT (ad (ap (ad (ao (bE h fun p8 DK h=>oX 0 cQ 96 DK rfl (eX.sp DK) (tO (NZ 0 (aB cQ) (aO cQ+gr.toNat*96) (da p8) 96 (by kernel_rfl) (by kernel_rfl) (dD p8) (fun w hm=>((hm.xr eX).at DK)) (fB (oA 0 (fun Ka=>tO (pS 0 4 Ka 96 1 36 aj (av.dC 96 0) p8 an bk (fB (eT (cH [0] (tO (pL 0 2 vV 96 1 36 aj CD an (fB (tO (pL 0 4 Ka 96 1 36 aj p8 an (fB (bE h fun kn DI h=>oQ 0 (fun w hm=>Fce.c CD p8 w _ DI) (oA 0 (fun Kb=>?_)))))))))))))))))))))))
     obtain⟨adp,h⟩:=gd h
     exact tO (pA 0 3 gS 2 bO.length 1 fS 1 8 (sB Kb) aG bO ([kn]:List Int) ig (vI 0) rfl rfl bf fT Ap Aq (fun w hm=>(hm.ow 5 (some Kb) 2 ([kn]:List Int) [] (fun e=>nomatch e) bf)) adp (fun ahW DL Kc adq Kd=>oH [0] (qe (nT (cH [0,0] (qe (qb ((bO++([kn]:List Int)),(au (gr+1))) ⟨ahW,DL,Kc,(bO++([kn]:List Int)).length⟩ h ⟨rfl,adq,Kd⟩ [0,1,2,3])))))))
    ·exact lX bO h (fun e=>by subst e;exact bo (qm ⟨bO,gS,fS,ig,bO.length⟩ ⟨ado,rfl,Ap,Aq⟩ [0,1,2,3]))
   ·rintro⟨a7,gp,iy,jT,pZ⟩ ⟨h,rfl,adr,Ke⟩
    unfold zb.qw at h
    refine aP (cH [0,0] (oA 0 (fun DM=>?_)))
    obtain⟨ads,h⟩:=gd h
    exact tO (pA 0 0 lU 40 kt.length 1 et 1 24 (sB DM) dZ kt [(Hd.mk (mB gp) a7.length iy)] dK (.slice none 0 0) rfl rfl fe nI BN z8 (fun w hm=>(hm.ow 4 (some DM) 40 ([(Hd.mk (mB gp) a7.length iy)]) [] (fun e=>nomatch e) fe)) (y_ CE ads) (fun ahX aaK Sy Oj Ol=>A' (bh:=aG) (hs:=kt) (iG:=mc) (o:=gp) (T:=2) (xs:=a7) (sp:=jT) 1 3 a7.length iy CE (oH [0] (qe (nT (cH [0,0] (qe (qb ((mc++ [a7]),(au (cS+1))) ⟨(kt++ [(Hd.mk (mB gp) a7.length iy)]),ahX,aaK,Sy,(kt++ [(Hd.mk (mB gp) a7.length iy)]).length⟩ h ⟨rfl,Oj,Ol,(CE.snoc (o:=gp) rfl (fun e=>(Ke e).1))⟩ [0,1]))))))))
  ·exact lX mc h (fun e=>by subst e;exact bo (qm ⟨mc,kt,lU,et,dK,kt.length⟩ ⟨J_,rfl,BN,z8,CE⟩ [0,1]))
 ·rintro⟨BX,yq,gL,ec,hQ,jY⟩ ⟨h,rfl,adt,Kf,WW⟩
  unfold zb.iQ at h
  refine aP (cT [0,0] (aI ?_))
  obtain rfl:=si h
  exact qr [] (fun w hm=>⟨gL,ec,hQ,yq.length,yq,WW,rfl,adt,Kf,rfl,hm.pk [0,1]⟩)
def FQ.fk(bK:Int):Option (Int):=some bK
def FQ.fY(bD:List (List Int))(dh:List Int):(Int×Int)→Option ((Int×Int)⊕(Int))
 | (aR,bB)=>(if(decide (bB<(dh.length:Int)))=true then(ix dh (au (bB-1))).bind fun pd=>(ix bD pd).bind fun wh=>(ix dh bB).bind fun my=>(ix wh my).bind fun q_=>some (.inl ((au (aR+q_)),(au (bB+1)))) else some (.inr aR))
def FQ(bD:List (List Int))(dh:List Int):Option (Int):=(loop (FQ.fY bD dh) (0,1)).bind fun iq=>FQ.fk iq
theorem FQ.c(bD:List (List Int))(dh:List Int)(w:World)(r:Int){cQ:Option Addr}{ck:Nat}(bX:Nat){gq:List Hd}(eX:Rw w cQ 1 dZ gq)(dH:bD.length=ck)(sV:r8 w [] 1 aG gq bD){ej:Option Addr}{eY:Nat}(dV:Nat)(fD:Rw w ej 1 aG dh)(jC:dh.length=eY)(h:FQ bD dh=some r):
   Cq 78 #[(.slice cQ ck bX),(.slice ej eY dV)] w (vI r) [] []:=by
 subst dH jC
 rw [FQ] at h
 refine en Tryz.func78 rfl Tryz.ntmps78 (cT [0] (cT [0] (ad (cT [0] (aK (fun(bK:Int)=>FQ.fk bK=some r) (fun bK=> [(4,[],(vI 0)),(5,[],(vI bK))]) (fun bK=> []) ?_ ?_)))))
 ·refine ap ?_
  obtain⟨iq,wL,GX⟩:=bd h
  refine jl (fun(s:Int×Int) (x:Unit)=>match s,x with | ⟨aR,bB⟩,_=>True) (fun⟨aR,bB⟩ _=> [(0,[],(.slice cQ bD.length bX)),(1,[],(.slice ej dh.length dV)),(4,[],(vI 0)),(5,[],(vI aR)),(6,[],(vI bB))]) (fun⟨aR,bB⟩ _=> []) wL () trivial [] ?_
  rintro⟨aR,bB⟩ _ PB _ h
  rw [FQ.fY] at h
  refine ad (cT [0,0,0,0] (qi h (fun h=> ?_) (fun h=> ?_)))
  ·exact kT (ad (ap (qg [] 17 (qd [⟨0,0,0⟩,⟨1,0,0⟩,⟨2,0,0⟩,⟨3,0,0⟩,⟨4,0,0⟩,⟨9,0,0⟩,⟨10,0,0⟩] 10 [] (bE h fun pd oP h=>qX 5 0 [] ej 1 oP rfl (fD.sp oP) (qL 6 0 [] false (fun w hm=>(hm.xr fD).at oP) (bE h fun wh pP h=>qX 7 0 [] cQ 1 pP rfl (eX.sp (sV.Ci pP)) (qL 8 0 [] false (fun w hm=>(hm.xr eX).at (sV.Ci pP)) (bE h fun my kW h=>qX 11 0 [] ej 1 kW rfl (fD.sp kW) (qL 12 0 [] false (fun w hm=>(hm.xr fD).at kW) (bE h fun q_ kV h=>qX 13 0 [] ((hd gq pd).a) 1 kV (sV.get pP).2.1 ((sV.get pP).1.sp kV) (qL 14 0 [] false (fun w hm=>(hm.GH (sV.get pP).1 cq).at kV) (qd [⟨15,0,0⟩,⟨16,0,0⟩] 0 [] (qz (nT (cH [0,0,0] (qe (qb ((au (aR+q_)),(au (bB+1))) () h trivial []))))))))))))))))))
  ·exact lX aR h (fun e=>by subst e;exact bo (qm aR GX []))
 ·rintro bK h
  unfold FQ.fk at h
  refine aP (cT [0,0] (aI ?_))
  cases h
  exact qP []
def Om(f0:ae)(bw:List (av 96 Int))(order2:List Int):Option (Int×Int):=(WU f0 bw).bind fun aA=>(BW order2 (bw.length:Int)).bind fun dj=>(FI dj 4).bind fun bz=>(Fe ([aA,bz]:List Int)).bind fun dz=>(if(dz !=0)=true then some (0,dz) else(zb bw).bind fun eo=>(FQ eo order2).bind fun gu=>some (gu,0))
theorem Om.c(f0:ae)(bw:List (av 96 Int))(order2:List Int)(w:World)(r:Int×Int){bj:Option Addr}{bm:Nat}(bi:Nat)(dr:Rw w bj 2 ay f0.aa)(cE:f0.aa.length=bm){bL:Option Addr}{bG:Nat}(bQ:Nat)(dL:Rw w bL 96 da bw)(dU:bw.length=bG){dI:Option Addr}{db:Nat}(eA:Nat)(g_:Rw w dI 1 aG order2)(ga:order2.length=db)(h:Om f0 bw order2=some r):
   Cr 37 #[(.agg #[(vH f0.ag),(.slice bj bm bi)]),(.slice bL bG bQ),(.slice dI db eA)] w fun v w'=>v= .tuple #[(vI r.1),(vI r.2)]∧Mem w [] [] w':=by
 subst cE dU ga
 rw [Om] at h
 refine en Tryz.func37 rfl Tryz.ntmps37 (ad (ao (oA 0 (fun cD=>qh [0,0] (eT (ad (cR [0,0] (bE h fun aA km h=>oQ 0 (fun w hm=>WU.c f0 bw w _ bi (hm.xr dr) rfl bQ (hm.xr dL) rfl km) (qh [0,0,0] (bE h fun dj iR h=>oQ 0 (fun w hm=>BW.c order2 (bw.length:Int) w _ eA (hm.xr g_) rfl iR) (bE h fun bz u5 h=>oQ 0 (fun w hm=>FI.c dj 4 w _ u5) (oA 0 (fun VJ=>bE h fun dz mF h=>oQ 0 (fun w hm=>Fe.c ([aA,bz]:List Int) w _ 2 (hm.ow 1 (some VJ) 2 ([aA,bz]:List Int) [] (fun e=>nomatch e) bf) rfl mF) (qh [0] (eT (cT [0,0] (qi h (fun h=> ?_) (fun h=> ?_))))))))))))))))))
 ·refine cT [0,0,0] (rX ?_)
  cases h
  exact qP []
 ·refine kT (cR [0] (bE h fun eo mH h=>oC 0 (fun w hm=>zb.c bw w _ bQ (hm.xr dL) rfl mH) ?_))
  rintro w v w' hm ⟨im,bP,dN,_,adu,YH,rfl,RC,BQ,rfl,bn⟩
  refine aq hm bn (oH [0] (bE h fun gu wQ h=>oQ 0 (fun w hm=>FQ.c eo order2 w _ bP (hm.ow 2 im 40 adu dN (fun e=>(BQ e).1) fe) (YH.1.symm.trans rfl) (hm.tq (N:= []) 3 YH bf []) eA (hm.xr g_) rfl wQ) (qh [0,0] (eT (aI ?_)))))
  cases h
  exact qP []
def H_.fk(bw:List (av 96 Int)):Option (Int):=(if(decide ((bw.length:Int)>8))=true then some 3 else some 0)
def H_.VP(f0:ae)(bw:List (av 96 Int)):Int→Option ((Int)⊕(Int⊕Unit))
 | aR=>(if(decide (aR<(bw.length:Int)))=true then(ix bw aR).bind fun pb=>(Cl f0 pb).bind fun dz=>(if(!dz)=true then some (.inr (.inl 1)) else some (.inl (au (aR+1)))) else some (.inr (.inr ())))
def H_(f0:ae)(bw:List (av 96 Int)):Option (Int):=(FC f0).bind fun eo=>(if(!eo)=true then some 1 else(loop (H_.VP f0 bw) 0).bind fun gu=>match gu with | .inl p=>some p | .inr p=>H_.fk bw)
theorem H_.c(f0:ae)(bw:List (av 96 Int))(w:World)(r:Int){bj:Option Addr}{bm:Nat}(bi:Nat)(dr:Rw w bj 2 ay f0.aa)(cE:f0.aa.length=bm){bL:Option Addr}{bG:Nat}(bQ:Nat)(dL:Rw w bL 96 da bw)(dU:bw.length=bG)(aH:Nat)(fG:Mem w (bs [some aH]) [⟨some aH,29,cG f0 bj bm bi⟩] w)(fx:f0.aa≠ []→aB bj∉bs [some aH])(eL:bw≠ []→aB bL∉bs [some aH])(h:H_ f0 bw=some r):
   Cq 80 #[(vP aH),(.slice bL bG bQ)] w (vI r) (bs [some aH]) [⟨some aH,29,cG f0 bj bm bi⟩]:=by
 subst cE dU
 rw [H_] at h
 refine eN Tryz.func80 rfl Tryz.ntmps80 fG (cT [0] (ad (cR [0] (bE h fun eo gv h=>oC 0 (fun w hm=>FC.c f0 w _ bi (hm.aM dr fx) rfl aH (hm.ps [0]) (hm.xp dr fx [0]) gv) ?_))))
 rintro w v w' hm ⟨rfl,bn⟩
 refine ⟨_,hm.aW [(0,⟨some aH,29,cF f0 bj bi⟩)] [] bn,oH [0] (eT (qi h (fun h=> ?_) (fun h=> ?_)))⟩
 ·refine cT [0] (rX ?_)
  cases h
  exact qP [0]
 ·refine kT (ad (cT [0] (aK (fun(_:Unit)=>H_.fk bw=some r) (fun(_:Unit)=> [(1,[],(.slice bL bw.length bQ)),(4,[],(vI 0))]) (fun(_:Unit)=> [⟨some aH,29,cF f0 bj bi⟩]) ?_ ?_)))
  ·refine ap ?_
   obtain⟨gu,iR,RU⟩:=bd h
   refine jl (fun(aR:Int) (_:Unit)=>True) (fun aR _=> [(0,[],(vP aH)),(1,[],(.slice bL bw.length bQ)),(4,[],(vI 0)),(5,[],(vI aR))]) (fun aR _=> [⟨some aH,29,cF f0 bj bi⟩]) iR () trivial [0] ?_
   rintro aR _ acM _ h
   rw [H_.VP] at h
   refine ad (cT [0,0,0,0] (qi h (fun h=> ?_) (fun h=> ?_)))
   ·refine kT (ad (ap (cR [0,0,0] (bE h fun pb lC h=>oX 0 bL 96 lC rfl (dL.sp lC) (bE h fun dz u5 h=>oC 0 (fun w hm=>Cl.c f0 pb w _ bi (hm.aM dr fx) rfl ((hm.aM dL eL).Rp (fun _=>rfl) an lC) aH (hm.ps [0]) (hm.xp dr fx [0]) (fun _=>(hm.xp dL eL [0]) (Yv lC)) u5) ?_)))))
    rintro w v w' hm ⟨rfl,bn⟩
    refine ⟨_,hm.aW [(0,⟨some aH,29,cF f0 bj bi⟩)] [] bn,oH [0] (eT (qi h (fun h=> ?_) (fun h=> ?_)))⟩
    ·refine cT [0] (aI (cg (aT (c_ (.inl 1) (sj h) (fun e_9=> ?_)))))
     subst e_9
     refine cg (aT (aT ?_))
     obtain rfl:=si RU
     exact qP [0]
    ·exact bV (nT (cH [0,0,0] (qe (qb (au (aR+1)) () h trivial [0]))))
   ·exact lX (.inr ()) h (fun e=>by subst e;exact bo (qm () RU [0]))
  ·rintro _ h
   unfold H_.fk at h
   refine aP (ad (cT [0,0,0] (qi h (fun h=> ?_) (fun h=> ?_))))
   ·refine cT [0] (rX ?_)
    cases h
    exact qP [0]
   ·refine kT (cT [0] (aI ?_))
    cases h
    exact qP [0]
def F0.iQ(fA:List Int)(n1:Int):Option (Bool):=some ((fA.length:Int)==n1)
def F0.qw(fA:List Int)(bB:Int)(aR:Int)(yU:Bool):Option ((Int×Int)⊕(Bool⊕Unit)):=(if yU=true then some (.inr (.inl false)) else(ix fA aR).bind fun pg=>(if 0≤(u64 pg) then some (.inl ((wC .i64 bB (fo .i64 1 (u64 pg))),(au (aR+1)))) else none))
def F0.VP(fA:List Int)(n1:Int):(Int×Int)→Option ((Int×Int)⊕(Bool⊕Unit))
 | (bB,aR)=>(if(decide (aR<(fA.length:Int)))=true then(ix fA aR).bind fun q_=>(FD q_ 0 (au (n1-1))).bind fun lE=>(if(!lE)=true then F0.qw fA bB aR true else(ix fA aR).bind fun pd=>(if 0≤(u64 pd) then F0.qw fA bB aR ((Int.tmod (eC .i64 bB (u64 pd)) 2)==1) else none)) else some (.inr (.inr ())))
def F0(fA:List Int)(n1:Int):Option (Bool):=(loop (F0.VP fA n1) (0,0)).bind fun eO=>match eO with | .inl p=>some p | .inr p=>F0.iQ fA n1
theorem F0.c(fA:List Int)(n1:Int)(w:World)(r:Bool){cQ:Option Addr}{ck:Nat}(bX:Nat)(eX:Rw w cQ 1 aG fA)(dH:fA.length=ck)(h:F0 fA n1=some r):
   Cq 81 #[(.slice cQ ck bX),(vI n1)] w (.bool r) [] []:=by
 subst dH
 rw [F0] at h
 refine en Tryz.func81 rfl Tryz.ntmps81 (cT [0] (cT [0] (ad (cT [0] (aK (fun(_:Unit)=>F0.iQ fA n1=some r) (fun(_:Unit)=> [(0,[],(.slice cQ fA.length bX)),(1,[],(vI n1)),(4,[],(.bool false))]) (fun(_:Unit)=> []) ?_ ?_)))))
 ·refine ap ?_
  obtain⟨eO,wG,Dd⟩:=bd h
  refine jl (fun(s:Int×Int) (x:Unit)=>match s,x with | ⟨bB,aR⟩,_=>True) (fun⟨bB,aR⟩ _=> [(0,[],(.slice cQ fA.length bX)),(1,[],(vI n1)),(4,[],(.bool false)),(5,[],(vI bB)),(6,[],(vI aR))]) (fun⟨bB,aR⟩ _=> []) wG () trivial [] ?_
  rintro⟨bB,aR⟩ _ aaf _ h
  rw [F0.VP] at h
  refine ad (cT [0,0,0,0] (qi h (fun h=> ?_) (fun h=> ?_)))
  ·refine kT (ad (ap (s2 (aK (fun(yU:Bool)=>F0.qw fA bB aR yU=some aaf) (fun yU=> [(0,[],(.slice cQ fA.length bX)),(1,[],(vI n1)),(4,[],(.bool false)),(5,[],(vI bB)),(6,[],(vI aR)),(31,[],(.bool yU))]) (fun yU=> []) ?_ ?_))))
   ·refine cH [0,0] (bE h fun q_ oP h=>oX 0 cQ 1 oP rfl (eX.sp oP) (oL 0 false (fun w hm=>((hm.xr eX).at oP)) (qh [0,0] (bE h fun lE wH h=>oQ 0 (fun w hm=>FD.c q_ 0 (au (n1-1)) w _ wH) (qf [(0,0),(0,0),(0,1),(0,1),(0,1)] (qp 21 h (fun h=> ?_) (fun h=> ?_)))))))
    ·exact qf [(0,3),(0,3),(0,3),(0,3),(0,3),(0,3),(0,4)] (qe (qm true h []))
    ·refine bE h fun pd kW h=>oX 2 cQ 1 kW rfl (eX.sp kW) (oL 2 false (fun w hm=>((hm.xr eX).at kW)) (qf [(0,2)] ?_))
     obtain⟨RH,h⟩:=gd h
     exact tO (pW 2 .i64 bB .u64 (u64 pd) RH (fB (qf [(0,2),(0,2),(0,5)] (qe (qm ((Int.tmod (eC .i64 bB (u64 pd)) 2)==1) h [])))))
   ·rintro yU h
    unfold F0.qw at h
    refine aP (qi h (fun h=> ?_) (fun h=> ?_))
    ·refine cT [0] (rX (cg (aT (c_ (.inl false) (sj h) (fun aal=> ?_)))))
     subst aal
     refine cg (aT (aT ?_))
     obtain rfl:=si Dd
     exact qP []
    ·refine kT (cH [0,0,0] (bE h fun pg kV h=>oX 0 cQ 1 kV rfl (eX.sp kV) (oL 0 false (fun w hm=>((hm.xr eX).at kV)) (qh [0] ?_))))
     obtain⟨Di,h⟩:=gd h
     exact tO (pV 0 .i64 1 .u64 (u64 pg) Di (oH [0,0] (qe (nT (cH [0,0,0] (qe (qb ((wC .i64 bB (fo .i64 1 (u64 pg))),(au (aR+1))) () h trivial [])))))))
  ·exact lX (.inr ()) h (fun e=>by subst e;exact bo (qm () Dd []))
 ·rintro _ h
  unfold F0.iQ at h
  refine aP (cT [0,0,0,0,0] (aI ?_))
  cases h
  exact qP []
def G7.fk(bK:Int):Option (Int):=some bK
def G7.fY:(Int×Int)→Option ((Int×Int)⊕(Int))
 | (aR,bB)=>(if(decide (aR>0))=true then some (.inl ((u32 (Int.tdiv aR 2)),(au (bB+(au (Int.tmod aR 2)))))) else some (.inr bB))
def G7(On:Int):Option (Int):=(loop G7.fY (On,0)).bind fun dz=>G7.fk dz
theorem G7.c(On:Int)(w:World)(r:Int)(h:G7 On=some r):
   Cq 205 #[(vU On)] w (vI r) [] []:=by
 rw [G7] at h
 refine en Tryz.func205 rfl Tryz.ntmps205 (cT [0] (cT [0] (ad (aK (fun(bK:Int)=>G7.fk bK=some r) (fun bK=> [(2,[],(vI 0)),(3,[],(vI bK))]) (fun bK=> []) ?_ ?_))))
 ·refine ap ?_
  obtain⟨dz,jD,sZ⟩:=bd h
  refine jl (fun(s:Int×Int) (x:Unit)=>match s,x with | ⟨aR,bB⟩,_=>True) (fun⟨aR,bB⟩ _=> [(0,[],(vU aR)),(2,[],(vI 0)),(3,[],(vI bB))]) (fun⟨aR,bB⟩ _=> []) jD () trivial [] ?_
  rintro⟨aR,bB⟩ _ y_7 _ h
  rw [G7.fY] at h
  refine ad (cT [0,0] (qi h (fun h=> ?_) (fun h=> ?_)))
  ·exact kT (ad (ap (cH [0,0,0,0,0,0] (qe (nT (cH [0,0,0] (qe (qb ((u32 (Int.tdiv aR 2)),(au (bB+(au (Int.tmod aR 2))))) () h trivial []))))))))
  ·exact lX bB h (fun e=>by subst e;exact bo (qm bB sZ []))
 ·rintro bK h
  unfold G7.fk at h
  refine aP (cT [0,0] (aI ?_))
  cases h
  exact qP []
def Gb.fk(bK:Int):Option (Int):=some bK
def Gb.fY(a0:av 96 Int)(b1:av 96 Int):(Int×Int)→Option ((Int×Int)⊕(Int))
 | (aR,bB)=>(if(decide (bB<96))=true then(ix b1.1 bB).bind fun pg=>(ix a0.1 bB).bind fun pd=>(G7 (kl .u32 pg pd)).bind fun gu=>some (.inl ((au (aR+gu)),(au (bB+1)))) else some (.inr aR))
def Gb(a0:av 96 Int)(b1:av 96 Int):Option (Int):=(loop (Gb.fY a0 b1) (0,0)).bind fun qI=>Gb.fk qI
theorem Gb.c(a0:av 96 Int)(b1:av 96 Int)(w:World)(r:Int){aH L6:Nat}(eX:Rw w (some ⟨aH,L6,none⟩) 1 aj a0.1){eG B_q:Nat}(fD:Rw w (some ⟨eG,B_q,none⟩) 1 aj b1.1)(h:Gb a0 b1=some r):
   Cq 185 #[(.pointer (some ⟨aH,L6,none⟩)),(.pointer (some ⟨eG,B_q,none⟩))] w (vI r) [] []:=by
 rw [Gb] at h
 refine en Tryz.func185 rfl Tryz.ntmps185 (cT [0] (cT [0] (ad (cT [0] (aK (fun(bK:Int)=>Gb.fk bK=some r) (fun bK=> [(4,[],(vI 0)),(5,[],(vI bK))]) (fun bK=> []) ?_ ?_)))))
 ·refine ap ?_
  obtain⟨qI,yY,adv⟩:=bd h
  refine jl (fun(s:Int×Int) (x:Unit)=>match s,x with | ⟨aR,bB⟩,_=>True) (fun⟨aR,bB⟩ _=> [(0,[],(.pointer (some ⟨aH,L6,none⟩))),(1,[],(.pointer (some ⟨eG,B_q,none⟩))),(4,[],(vI 0)),(5,[],(vI aR)),(6,[],(vI bB))]) (fun⟨aR,bB⟩ _=> []) yY () trivial [] ?_
  rintro⟨aR,bB⟩ _ aab _ h
  rw [Gb.fY] at h
  refine ad (cT [0,0] (qi h (fun h=> ?_) (fun h=> ?_)))
  ·exact kT (ad (ap (qg [] 15 (qd [⟨0,0,0⟩,⟨1,0,0⟩,⟨2,0,0⟩,⟨3,0,0⟩,⟨6,0,0⟩,⟨7,0,0⟩,⟨8,0,0⟩] 8 [] (bE h fun pg oP h=>qX 4 0 [] (some ⟨eG,B_q,none⟩) 1 oP b1.2 (fD.sp oP) (qL 5 0 [] false (fun w hm=>(hm.xr fD).at oP) (bE h fun pd kW h=>qX 9 0 [] (some ⟨aH,L6,none⟩) 1 kW a0.2 (eX.sp kW) (qL 10 0 [] false (fun w hm=>(hm.xr eX).at kW) (qd [⟨11,0,0⟩] 3 [] (bE h fun gu mH h=>dQ 12 0 (fun w hm=>G7.c (kl .u32 pg pd) w _ mH) [] (qd [⟨13,0,0⟩,⟨14,0,0⟩] 0 [] (qz (nT (cH [0,0,0] (qe (qb ((au (aR+gu)),(au (bB+1))) () h trivial []))))))))))))))))
  ·exact lX aR h (fun e=>by subst e;exact bo (qm aR adv []))
 ·rintro bK h
  unfold Gb.fk at h
  refine aP (cT [0,0] (aI ?_))
  cases h
  exact qP []
def Fb4(a0:av 96 Int)(b1:av 96 Int):Option (Int):=(Gb a0 b1).bind fun aA=>(Gb b1 a0).bind fun bz=>some (au (aA+bz))
theorem Fb4.c(a0:av 96 Int)(b1:av 96 Int)(w:World)(r:Int){aH L6:Nat}(eX:Rw w (some ⟨aH,L6,none⟩) 1 aj a0.1){eG B_q:Nat}(fD:Rw w (some ⟨eG,B_q,none⟩) 1 aj b1.1)(h:Fb4 a0 b1=some r):
   Cq 142 #[(.pointer (some ⟨aH,L6,none⟩)),(.pointer (some ⟨eG,B_q,none⟩))] w (vI r) [] []:=by
 rw [Fb4] at h
 refine en Tryz.func142 rfl Tryz.ntmps142 (cT [0] (cR [0,0] (bE h fun aA gv h=>oQ 0 (fun w hm=>Gb.c a0 b1 w _ (hm.xr eX) (hm.xr fD) gv) (qh [0,0] (bE h fun bz iD h=>oQ 0 (fun w hm=>Gb.c b1 a0 w _ (hm.xr fD) (hm.xr eX) iD) (qh [0,0] (eT (aI ?_))))))))
 cases h
 exact qP []
def FP.iQ(BY:List (List Int)):Option ((List (List Int))):=some BY
def FP.po(mc:List (List Int))(bK:Int)(bO:List Int):Option (((List (List Int))×Int)⊕((List (List Int)))):=(if mc.length+1≤4294967296 then some (.inl ((mc++ [bO]),(au (bK+1)))) else none)
def FP.I4(ci:List (av 96 Int))(bK:Int):((List Int)×Int)→Option (((List Int)×Int)⊕((List Int)))
 | (b_,fL)=>(if(decide (fL<(ci.length:Int)))=true then(ix ci bK).bind fun uo=>(ix ci fL).bind fun y8=>(Fb4 uo y8).bind fun iI=>(if b_.length+([iI]:List Int).length≤4294967296 then some (.inl ((b_++([iI]:List Int)),(au (fL+1)))) else none) else some (.inr b_))
def FP.e7(ci:List (av 96 Int)):((List (List Int))×Int)→Option (((List (List Int))×Int)⊕((List (List Int))))
 | (mc,bK)=>(if(decide (bK<(ci.length:Int)))=true then(loop (FP.I4 ci bK) (([]:List Int),0)).bind fun uy=>FP.po mc bK uy else some (.inr mc))
def FP(ci:List (av 96 Int)):Option ((List (List Int))):=(loop (FP.e7 ci) (([]:List (List Int)),0)).bind fun mj=>FP.iQ mj
theorem FP.c(ci:List (av 96 Int))(w:World)(r:(List (List Int))){cQ:Option Addr}{ck:Nat}(bX:Nat)(eX:Rw w cQ 96 da ci)(dH:ci.length=ck)(h:FP ci=some r):
   Cr 83 #[(.slice cQ ck bX)] w fun v w'=>∃(o0:Option Nat) (c0:Nat) (s0:List Value) (n0:Nat) (h0:List Hd),ph h0 r∧h0.length=n0∧(hS o0 n0 c0 s0 1)∧(hO o0 h0 c0)∧v= .slice (mB o0) n0 c0∧Mem w [] [⟨o0,40,row dZ h0 s0⟩,⟨none,kR,fJ aG h0 r⟩] w':=by
 subst dH
 rw [FP] at h
 refine en Tryz.func83 rfl Tryz.ntmps83 (cT [0] (ad (ao (tO (qa 0 (fun Kb=>Ba aG (oH [0] (eT (ad (cT [0] (aK (fun(j:(List (List Int))×(List Hd)×(Option Nat)×Nat×(List Value)×Nat)=>match j with | ⟨BY,Gc,gS,fw,gb,lm⟩=>FP.iQ BY=some r∧(Gc.length=lm)∧(hS gS lm fw gb 1)∧(hO gS Gc fw)∧(ph Gc BY)) (fun⟨BY,Gc,gS,fw,gb,lm⟩=> [(2,[],(.slice none 0 0)),(3,[],(.slice (mB gS) lm fw))]) (fun⟨BY,Gc,gS,fw,gb,lm⟩=> [⟨gS,40,row dZ Gc gb⟩,⟨none,kR,fJ aG Gc BY⟩]) ?_ ?_)))))))))))
 ·refine ap ?_
  obtain⟨mj,qO,vr⟩:=bd h
  refine jl (fun(s:(List (List Int))×Int) (x:(List Hd)×(Option Nat)×Nat×(List Value)×Nat)=>match s,x with | ⟨mc,bK⟩,⟨kt,lU,dv,nU,mW⟩=>(kt.length=mW)∧(hS lU mW dv nU 1)∧(hO lU kt dv)∧(ph kt mc)) (fun⟨mc,bK⟩ ⟨kt,lU,dv,nU,mW⟩=> [(0,[],(.slice cQ ci.length bX)),(2,[],(.slice none 0 0)),(3,[],(.slice (mB lU) mW dv)),(4,[],(vI bK))]) (fun⟨mc,bK⟩ ⟨kt,lU,dv,nU,mW⟩=> [⟨lU,40,row dZ kt nU⟩,⟨none,kR,fJ aG kt mc⟩]) qO ⟨([]:List Hd),(some Kb),0,[],0⟩ ⟨rfl,(fun _=>⟨bt _,by simp⟩),(fun e=>nomatch e),ph.nil⟩ [0,1] ?_
  rintro⟨mc,bK⟩ ⟨kt,lU,dv,nU,mW⟩ aam ⟨rfl,Ac,wO,CF⟩ h
  rw [FP.e7] at h
  refine ad (cT [0,0,0,0] (qi h (fun h=> ?_) (fun h=> ?_)))
  ·refine kT (ad (ap (ad (ao (oA 0 (fun ahY=>qh [0] (eT (ad (cT [0] (aK (fun(j:(List Int)×(Option Nat)×Nat×(List Value)×Nat)=>match j with | ⟨bO,gp,iU,Ar,lp⟩=>FP.po mc bK bO=some aam∧(bO.length=lp)∧(hS gp lp iU Ar 1)∧(hO gp bO iU)) (fun⟨bO,gp,iU,Ar,lp⟩=> [(0,[],(.slice cQ ci.length bX)),(2,[],(.slice none 0 0)),(3,[],(.slice (mB lU) kt.length dv)),(4,[],(vI bK)),(5,[],(.slice (mB gp) lp iU))]) (fun⟨bO,gp,iU,Ar,lp⟩=> [⟨lU,40,row dZ kt nU⟩,⟨none,kR,fJ aG kt mc⟩,⟨gp,2,row aG bO Ar⟩]) ?_ ?_))))))))))
   ·refine ap ?_
    obtain⟨uy,sg,adw⟩:=bd h
    refine jl (fun(s:(List Int)×Int) (x:(Option Nat)×Nat×(List Value)×Nat)=>match s,x with | ⟨b_,fL⟩,⟨mA,ct,fM,PC⟩=>(b_.length=PC)∧(hS mA PC ct fM 1)∧(hO mA b_ ct)) (fun⟨b_,fL⟩ ⟨mA,ct,fM,PC⟩=> [(0,[],(.slice cQ ci.length bX)),(2,[],(.slice none 0 0)),(3,[],(.slice (mB lU) kt.length dv)),(4,[],(vI bK)),(5,[],(.slice (mB mA) PC ct)),(6,[],(vI fL))]) (fun⟨b_,fL⟩ ⟨mA,ct,fM,PC⟩=> [⟨lU,40,row dZ kt nU⟩,⟨none,kR,fJ aG kt mc⟩,⟨mA,2,row aG b_ fM⟩]) sg ⟨(some ahY),0,[],0⟩ ⟨rfl,(fun _=>⟨bt _,by simp⟩),(fun e=>nomatch e)⟩ [0,1,2] ?_
    rintro⟨b_,fL⟩ ⟨mA,ct,fM,PC⟩ adx ⟨rfl,na,mG⟩ h
    rw [FP.I4] at h
    refine ad (cT [0,0,0,0] (qi h (fun h=> ?_) (fun h=> ?_)))
    ·refine kT (ad (ap (qg [⟨lU,40,row dZ kt nU⟩,⟨none,kR,fJ aG kt mc⟩] 11 (qd [⟨0,0,0⟩,⟨1,0,0⟩,⟨2,0,0⟩,⟨4,0,0⟩,⟨5,0,0⟩] 6 [0,1] (bE h fun uo DN h=>qX 3 0 [0,1] cQ 96 DN rfl (eX.sp DN) (bE h fun y8 sh h=>qX 6 0 [0,1] cQ 96 sh rfl (eX.sp sh) (bE h fun iI z6 h=>dQ 7 0 (fun w hm=>Fb4.c uo y8 w _ ((hm.xr eX).Rp (fun _=>rfl) an DN) ((hm.xr eX).Rp (fun _=>rfl) an sh) z6) [0,1] (tD 8 (qa 0 (fun ady=>kD [0,1] ?_))))))))))
     obtain⟨Rz,h⟩:=gd h
     exact tD 9 (pA 0 2 mA 2 b_.length 1 ct 1 8 (sB ady) aG b_ ([iI]:List Int) fM (vI 0) rfl rfl bf fT na mG (fun w hm=>(hm.ow 3 (some ady) 2 ([iI]:List Int) [] (fun e=>nomatch e) bf)) Rz (fun RA L2 GO z7 th=>kD [0,1] (qd [⟨10,0,0⟩] 0 [0,1] (qz (nT (cH [0,0,0] (qe (qb ((b_++([iI]:List Int)),(au (fL+1))) ⟨RA,L2,GO,(b_++([iI]:List Int)).length⟩ h ⟨rfl,z7,th⟩ [0,1,2]))))))))
    ·exact lX b_ h (fun e=>by subst e;exact bo (qm ⟨b_,mA,ct,fM,b_.length⟩ ⟨adw,rfl,na,mG⟩ [0,1,2]))
   ·rintro⟨bO,gp,iU,Ar,lp⟩ ⟨h,rfl,adz,Kd⟩
    unfold FP.po at h
    refine aP (cH [0,0] (oA 0 (fun Ka=>?_)))
    obtain⟨Sz,h⟩:=gd h
    exact tO (pA 0 0 lU 40 kt.length 1 dv 1 24 (sB Ka) dZ kt [(Hd.mk (mB gp) bO.length iU)] nU (.slice none 0 0) rfl rfl fe nI Ac wO (fun w hm=>(hm.ow 3 (some Ka) 40 ([(Hd.mk (mB gp) bO.length iU)]) [] (fun e=>nomatch e) fe)) (y_ CF Sz) (fun aaL H' SA G8 G9=>A' (bh:=aG) (hs:=kt) (iG:=mc) (o:=gp) (T:=2) (xs:=bO) (sp:=Ar) 1 2 bO.length iU CF (oH [0] (qe (nT (cH [0,0,0] (qe (qb ((mc++ [bO]),(au (bK+1))) ⟨(kt++ [(Hd.mk (mB gp) bO.length iU)]),aaL,H',SA,(kt++ [(Hd.mk (mB gp) bO.length iU)]).length⟩ h ⟨rfl,G8,G9,(CF.snoc (o:=gp) rfl (fun e=>(Kd e).1))⟩ [0,1]))))))))
  ·exact lX mc h (fun e=>by subst e;exact bo (qm ⟨mc,kt,lU,dv,nU,kt.length⟩ ⟨vr,rfl,Ac,wO,CF⟩ [0,1]))
 ·rintro⟨BY,Gc,gS,fw,gb,lm⟩ ⟨h,rfl,J6,J7,WX⟩
  unfold FP.iQ at h
  refine aP (cT [0,0] (aI ?_))
  obtain rfl:=si h
  exact qr [] (fun w hm=>⟨gS,fw,gb,Gc.length,Gc,WX,rfl,J6,J7,rfl,hm.pk [0,1]⟩)
def PD.fk(bK:Int):Option (Int):=some bK
def PD.fY(bD:List (List Int))(dh:List Int):(Int×Int)→Option ((Int×Int)⊕(Int))
 | (aR,bB)=>(if(decide (bB<(dh.length:Int)))=true then(ix dh (au (bB-1))).bind fun pd=>(ix bD pd).bind fun wh=>(ix dh bB).bind fun my=>(ix wh my).bind fun q_=>some (.inl ((au (aR+q_)),(au (bB+1)))) else some (.inr aR))
def PD(bD:List (List Int))(dh:List Int):Option (Int):=(loop (PD.fY bD dh) (0,1)).bind fun iq=>PD.fk iq
theorem PD.c(bD:List (List Int))(dh:List Int)(w:World)(r:Int){cQ:Option Addr}{ck:Nat}(bX:Nat){gq:List Hd}(eX:Rw w cQ 1 dZ gq)(dH:bD.length=ck)(sV:r8 w [] 1 aG gq bD){ej:Option Addr}{eY:Nat}(dV:Nat)(fD:Rw w ej 1 aG dh)(jC:dh.length=eY)(h:PD bD dh=some r):
   Cq 82 #[(.slice cQ ck bX),(.slice ej eY dV)] w (vI r) [] []:=by
 subst dH jC
 rw [PD] at h
 refine en Tryz.func82 rfl Tryz.ntmps82 (cT [0] (cT [0] (ad (cT [0] (aK (fun(bK:Int)=>PD.fk bK=some r) (fun bK=> [(4,[],(vI 0)),(5,[],(vI bK))]) (fun bK=> []) ?_ ?_)))))
 ·refine ap ?_
  obtain⟨iq,wL,GX⟩:=bd h
  refine jl (fun(s:Int×Int) (x:Unit)=>match s,x with | ⟨aR,bB⟩,_=>True) (fun⟨aR,bB⟩ _=> [(0,[],(.slice cQ bD.length bX)),(1,[],(.slice ej dh.length dV)),(4,[],(vI 0)),(5,[],(vI aR)),(6,[],(vI bB))]) (fun⟨aR,bB⟩ _=> []) wL () trivial [] ?_
  rintro⟨aR,bB⟩ _ PB _ h
  rw [PD.fY] at h
  refine ad (cT [0,0,0,0] (qi h (fun h=> ?_) (fun h=> ?_)))
  ·exact kT (ad (ap (qg [] 17 (qd [⟨0,0,0⟩,⟨1,0,0⟩,⟨2,0,0⟩,⟨3,0,0⟩,⟨4,0,0⟩,⟨9,0,0⟩,⟨10,0,0⟩] 10 [] (bE h fun pd oP h=>qX 5 0 [] ej 1 oP rfl (fD.sp oP) (qL 6 0 [] false (fun w hm=>(hm.xr fD).at oP) (bE h fun wh pP h=>qX 7 0 [] cQ 1 pP rfl (eX.sp (sV.Ci pP)) (qL 8 0 [] false (fun w hm=>(hm.xr eX).at (sV.Ci pP)) (bE h fun my kW h=>qX 11 0 [] ej 1 kW rfl (fD.sp kW) (qL 12 0 [] false (fun w hm=>(hm.xr fD).at kW) (bE h fun q_ kV h=>qX 13 0 [] ((hd gq pd).a) 1 kV (sV.get pP).2.1 ((sV.get pP).1.sp kV) (qL 14 0 [] false (fun w hm=>(hm.GH (sV.get pP).1 cq).at kV) (qd [⟨15,0,0⟩,⟨16,0,0⟩] 0 [] (qz (nT (cH [0,0,0] (qe (qb ((au (aR+q_)),(au (bB+1))) () h trivial []))))))))))))))))))
  ·exact lX aR h (fun e=>by subst e;exact bo (qm aR GX []))
 ·rintro bK h
  unfold PD.fk at h
  refine aP (cT [0,0] (aI ?_))
  cases h
  exact qP []
def VQ(f0:ae)(bw:List (av 96 Int))(order2:List Int):Option (Int×Int):=(H_ f0 bw).bind fun aA=>(if(aA !=0)=true then some (0,aA) else(F0 order2 (bw.length:Int)).bind fun dz=>(if(!dz)=true then some (0,4) else(FP bw).bind fun dj=>(PD dj order2).bind fun bz=>some (bz,0)))
theorem VQ.c(f0:ae)(bw:List (av 96 Int))(order2:List Int)(w:World)(r:Int×Int){bj:Option Addr}{bm:Nat}(bi:Nat)(dr:Rw w bj 2 ay f0.aa)(cE:f0.aa.length=bm){bL:Option Addr}{bG:Nat}(bQ:Nat)(dL:Rw w bL 96 da bw)(dU:bw.length=bG){dI:Option Addr}{db:Nat}(eA:Nat)(g_:Rw w dI 1 aG order2)(ga:order2.length=db)(h:VQ f0 bw order2=some r):
   Cr 38 #[(.agg #[(vH f0.ag),(.slice bj bm bi)]),(.slice bL bG bQ),(.slice dI db eA)] w fun v w'=>v= .tuple #[(vI r.1),(vI r.2)]∧Mem w [] [] w':=by
 subst cE dU ga
 rw [VQ] at h
 refine en Tryz.func38 rfl Tryz.ntmps38 (ad (ao (oA 0 (fun cD=>qh [0,0] (eT (ad (cR [0] (bE h fun aA iD h=>oC 0 (fun w hm=>H_.c f0 bw w _ bi (hm.xr dr) rfl bQ (hm.xr dL) rfl cD (hm.ps [0]) (hm.xp dr (fun _=>cq) [0]) (hm.xp dL (fun _=>cq) [0]) iD) ?_))))))))
 rintro w v w' hm ⟨rfl,bn⟩
 refine ⟨_,hm.aW [(0,⟨some cD,29,cF f0 bj bi⟩)] [] bn,oH [0] (eT (cT [0,0] (qi h (fun h=> ?_) (fun h=> ?_))))⟩
 ·refine cT [0,0,0] (rX ?_)
  cases h
  exact qP []
 ·refine kT (ad (cR [0,0,0] (bE h fun dz jD h=>oQ 0 (fun w hm=>F0.c order2 (bw.length:Int) w _ eA (hm.xr g_) rfl jD) (qh [0] (eT (qi h (fun h=> ?_) (fun h=> ?_)))))))
  ·refine cT [0,0] (rX ?_)
   cases h
   exact qP []
  ·refine kT (cR [0] (bE h fun dj jf h=>oC 0 (fun w hm=>FP.c bw w _ bQ (hm.xr dL) rfl jf) ?_))
   rintro w v w' hm ⟨gp,iU,ji,_,Gd,YI,rfl,vw,Af,rfl,bn⟩
   refine aq hm bn (oH [0] (bE h fun bz mH h=>oQ 0 (fun w hm=>PD.c dj order2 w _ iU (hm.ow 1 gp 40 Gd ji (fun e=>(Af e).1) fe) (YI.1.symm.trans rfl) (hm.tq (N:= []) 2 YI bf []) eA (hm.xr g_) rfl mH) (qh [0,0] (eT (aI ?_)))))
   cases h
   exact qP []
def Fb3(ci:List (av 96 Int)):Option (Int):=some (ci.length:Int)
theorem Fb3.c(ci:List (av 96 Int))(w:World)(r:Int){cQ:Option Addr}{ck:Nat}(bX:Nat)(eX:Rw w cQ 96 da ci)(dH:ci.length=ck)(h:Fb3 ci=some r):
   Cq 143 #[(.slice cQ ck bX)] w (vI r) [] []:=by
 subst dH
 rw [Fb3] at h
 refine en Tryz.func143 rfl Tryz.ntmps143 (cT [0] (cT [0,0,0] (aI ?_)))
 cases h
 exact qP []
def FbP(f0:ae)(bw:List (av 96 Int))(iE:Int):Option (Int):=(WU f0 bw).bind fun dj=>(Fb3 bw).bind fun dz=>(FB iE (-1) (au (dz-1))).bind fun eo=>(FI eo 2).bind fun aA=>(FI (decide ((bw.length:Int)>0)) 6).bind fun bz=>(Fe ([dj,aA,bz]:List Int)).bind fun gu=>some gu
theorem FbP.c(f0:ae)(bw:List (av 96 Int))(iE:Int)(w:World)(r:Int){bj:Option Addr}{bm:Nat}(bi:Nat)(dr:Rw w bj 2 ay f0.aa)(cE:f0.aa.length=bm){bL:Option Addr}{bG:Nat}(bQ:Nat)(dL:Rw w bL 96 da bw)(dU:bw.length=bG)(h:FbP f0 bw iE=some r):
   Cq 84 #[(.agg #[(vH f0.ag),(.slice bj bm bi)]),(.slice bL bG bQ),(vI iE)] w (vI r) [] []:=by
 subst cE dU
 rw [FbP] at h
 refine en Tryz.func84 rfl Tryz.ntmps84 (ad (ao (oA 0 (fun fV=>qh [0] (eT (cR [0,0] (bE h fun dj jP h=>oQ 0 (fun w hm=>WU.c f0 bw w _ bi (hm.xr dr) rfl bQ (hm.xr dL) rfl jP) (qh [0,0] (bE h fun dz jD h=>oQ 0 (fun w hm=>Fb3.c bw w _ bQ (hm.xr dL) rfl jD) (qh [0] (bE h fun eo gv h=>oQ 0 (fun w hm=>FB.c iE (-1) (au (dz-1)) w _ gv) (bE h fun aA iD h=>oQ 0 (fun w hm=>FI.c eo 2 w _ iD) (qh [0,0,0] (bE h fun bz jf h=>oQ 0 (fun w hm=>FI.c (decide ((bw.length:Int)>0)) 6 w _ jf) (oA 0 (fun ur=>bE h fun gu iR h=>oQ 0 (fun w hm=>Fe.c ([dj,aA,bz]:List Int) w _ 3 (hm.ow 1 (some ur) 2 ([dj,aA,bz]:List Int) [] (fun e=>nomatch e) bf) rfl iR) (qh [0] (eT (aI ?_)))))))))))))))))))
 cases h
 exact qP []
def Fcd(DO:Int):Option ((List Int)):=(if(decide (DO<0))=true then some [] else some ([DO]:List Int))
theorem Fcd.c(DO:Int)(w:World)(r:(List Int))(h:Fcd DO=some r):
   Cr 86 #[(vI DO)] w fun v w'=>∃(o0:Option Nat) (c0:Nat) (s0:List Value) (n0:Nat),r.length=n0∧(hS o0 n0 c0 s0 1)∧(hO o0 r c0)∧v= .slice (mB o0) n0 c0∧Mem w [] [⟨o0,2,row aG r s0⟩] w':=by
 rw [Fcd] at h
 refine en Tryz.func86 rfl Tryz.ntmps86 (cT [0] (ad (cT [0,0] (qi h (fun h=> ?_) (fun h=> ?_)))))
 ·refine cT [0] (rX ?_)
  obtain rfl:=si h
  exact lg 2 aG (qr [] (fun w hm=>⟨none,0,[],0,rfl,(fun e=>absurd rfl e),(fun _=>⟨rfl,rfl⟩),rfl,hm.pk [0]⟩))
 ·refine kT (cR [0] (oA 0 (fun cD=>qh [0] (eT (aI ?_)))))
  obtain rfl:=si h
  exact qr [] (fun w hm=>⟨(some cD),1,[],1,rfl,(fun _=>⟨bt _,by simp⟩),(fun e=>nomatch e),rfl,hm.pk [0]⟩)
def QW(fA:List Int)(p1:List (List Int))(p2:Int)(p3:List Int):Option (Int×(List Int)):=(FQ p1 fA).bind fun aA=>(if((decide (p2<0)) || (decide (aA<p2)))=true then some (aA,fA) else some (p2,p3))
theorem QW.c(fA:List Int)(p1:List (List Int))(p2:Int)(p3:List Int)(w:World)(r:Int×(List Int)){cQ:Option Addr}{ck:Nat}(bX:Nat)(eX:Rw w cQ 1 aG fA)(dH:fA.length=ck){ej:Option Addr}{eY:Nat}(dV:Nat){aaM:List Hd}(fD:Rw w ej 1 dZ aaM)(jC:p1.length=eY){bL:Option Addr}{bG:Nat}(bQ:Nat)(dU:p3.length=bG)(eG:Nat)(jh:Nat)(fZ:Nat)(fG:Mem w (bs [some eG,some jh,some fZ]) [⟨some eG,137,[(.slice ej eY dV)]⟩,⟨some jh,2,[(vI p2)]⟩,⟨some fZ,40,[(.slice bL bG bQ)]⟩] w)(ul:fA≠ []→aB cQ∉bs [some eG,some jh,some fZ])(dE:aaM≠ []→aB ej∉bs [some eG,some jh,some fZ])(B_i:r8 w (bs [some eG,some jh,some fZ]) 1 aG aaM p1)(h:QW fA p1 p2 p3=some r):
   Cr 87 #[(.slice cQ ck bX),(vP eG),(vP jh),(vP fZ)] w fun v w'=>∃(lo:Option Nat) (la:Option Addr) (lc:Nat) (vy:List Value) (ln:Nat),r.2.length=ln∧yo lo la lc vy ln r.2 1 [(bL,bQ,p3),(cQ,bX,fA)]∧v= .tuple #[]∧Mem w (bs [some eG,some jh,some fZ]) [⟨some eG,137,[(.slice ej eY dV)]⟩,⟨some jh,2,[(vI r.1)]⟩,⟨some fZ,40,[(.slice la ln lc)]⟩,⟨lo,2,row aG r.2 vy⟩] w':=by
 subst dH jC dU
 rw [QW] at h
 refine eN Tryz.func87 rfl Tryz.ntmps87 fG (xF 2 aG p3 (cR [0,0] (bE h fun aA gv h=>oQ 0 (fun w hm=>FQ.c p1 fA w _ dV (hm.aM fD dE) rfl (hm.ip B_i []) bX (hm.aM eX ul) rfl gv) (qh [0] (eT (ad (ao (qf [(1,0),(0,0),(0,0),(0,1),(1,1),(0,1),(0,0)] (eT (qi h (fun h=> ?_) (fun h=> ?_)))))))))))
 ·refine cH [0,0] (tO (qs 0 [2] (Si 3 2 aG fA (fB (oS 0 [1] (qe (gn ?_)))))))
  obtain rfl:=si h
  exact qr [] (fun w hm=>⟨(none:Option Nat),cQ,bX,[],fA.length,rfl,ls1,rfl,hm.pk [0,1,2,3]⟩)
 ·refine bV (gn ?_)
  obtain rfl:=si h
  exact qr [] (fun w hm=>⟨(none:Option Nat),bL,bQ,[],p3.length,rfl,ls0,rfl,hm.pk [0,1,2,3]⟩)
def YJ(s0:List Int):Option ((List Int)):=(if([]:List Int).length+s0.length≤4294967296 then some (([]:List Int)++s0) else none)
theorem YJ.c(s0:List Int)(w:World)(r:(List Int)){cQ:Option Addr}{ck:Nat}(bX:Nat)(eX:Rw w cQ 1 aG s0)(dH:s0.length=ck)(h:YJ s0=some r):
   Cr 144 #[(.slice cQ ck bX)] w fun v w'=>∃(o0:Option Nat) (c0:Nat) (s0:List Value) (n0:Nat),r.length=n0∧(hS o0 n0 c0 s0 1)∧(hO o0 r c0)∧v= .slice (mB o0) n0 c0∧Mem w [] [⟨o0,2,row aG r s0⟩] w':=by
 subst dH
 rw [YJ] at h
 refine en Tryz.func144 rfl Tryz.ntmps144 (cT [0] (ad (cR [0] ?_)))
 by_cases Dt:cQ=none
 ·have LR:s0= []:=(LY eX Dt)
  replace h:some []=some r:=by simpa [LR] using h
  refine tO (pN 0 cQ true true (by rw [Dt];rfl) (fB (eT (jq true (fun JT=>(cT [0] (rX ?_))) (fun JT=>nomatch JT)))))
  obtain rfl:=si h
  exact lg 2 aG (qr [] (fun w hm=>⟨none,0,[],0,rfl,(fun e=>absurd rfl e),(fun _=>⟨rfl,rfl⟩),rfl,hm.pk [0]⟩))
 ·refine tO (pN 0 cQ true false (by rw [Option.isNone_eq_false_iff.2 (Option.ne_none_iff_isSome.1 Dt)];rfl) (fB (eT (jq false (fun JU=>nomatch JU) (fun JU=>(kT (ad (ao (oA 0 (fun gC=>qh [0] ?_))))))))))
  obtain⟨RM,h⟩:=gd h
  refine tO (pA 0 0 (some gC) 2 0 s0.length 0 1 8 cQ aG ([]:List Int) s0 [] (vI 0) rfl rfl bf fT (fun _=>⟨bt _,by simp⟩) (fun e=>nomatch e) (fun w hm=>(hm.xr eX)) RM (fun lU gK rJ Cn lq=>oH [0] (eT (aI ?_))))
  obtain rfl:=si h
  exact qr [] (fun w hm=>⟨lU,gK,rJ,((([]:List Int)++s0).length),rfl,Cn,lq,rfl,hm.pk [0]⟩)
def Fj.po(b_:List Int)(eE:Int):Option (Int×(List Int)):=some (eE,b_)
def Fj.kq(dn:Int→(List Int)→(List (List Int))→Int→(List Int)→Option (Int×(List Int)))(n0:Int)(dh:List Int)(dR:List (List Int)):((List Int)×Int×Int)→Option (((List Int)×Int×Int)⊕(((List Int)×Int)))
 | (aL,bK,aR)=>(if(decide (aR<n0))=true then(VO dh aR).bind fun kI=>(if(!kI)=true then(YJ dh).bind fun gu=>(if gu.length+([aR]:List Int).length≤4294967296 then(dn n0 (gu++([aR]:List Int)) dR bK aL).bind fun dz=>some (.inl (dz.2,dz.1,(au (aR+1)))) else none) else some (.inl (aL,bK,(au (aR+1))))) else some (.inr (aL,bK)))
def Fj.step(dn:Int→(List Int)→(List (List Int))→Int→(List Int)→Option (Int×(List Int)))(n0:Int)(dh:List Int)(dR:List (List Int))(jm:Int)(jF:List Int):Option (Int×(List Int)):=(if((dh.length:Int)==n0)=true then(QW dh dR jm jF).bind fun qI=>some (qI.1,qI.2) else(loop (Fj.kq dn n0 dh dR) (jF,jm,0)).bind fun kn=>Fj.po kn.1 kn.2)
def Fj.fW:Nat→Int→(List Int)→(List (List Int))→Int→(List Int)→Option (Int×(List Int))
 | 0=>fun n0 dh dR jm jF=>none
 | fu+1=>Fj.step (Fj.fW fu)
def Fj(n0:Int)(dh:List Int)(dR:List (List Int))(jm:Int)(jF:List Int):Option (Int×(List Int)):=Fj.fW 16 n0 dh dR jm jF
theorem Fj.iS(dn:Int→(List Int)→(List (List Int))→Int→(List Int)→Option (Int×(List Int)))(qN:∀(n0:Int) (dh:List Int) (dR:List (List Int)) (jm:Int) (jF:List Int) (w:World) (r:Int×(List Int)) {ej:Option Addr} {eY:Nat} (dV:Nat) (fD:Rw w ej 1 aG dh) (jC:dh.length=eY) {bj:Option Addr} {bm:Nat} (bi:Nat) {wU:List Hd} (dr:Rw w bj 1 dZ wU) (cE:dR.length=bm) {dI:Option Addr} {db:Nat} (eA:Nat) (ga:jF.length=db) (jh:Nat) (fZ:Nat) (dY:Nat) (fG:Mem w (bs [some jh,some fZ,some dY]) [⟨some jh,137,[(.slice bj bm bi)]⟩,⟨some fZ,2,[(vI jm)]⟩,⟨some dY,40,[(.slice dI db eA)]⟩] w) (dE:dh≠ []→aB ej∉bs [some jh,some fZ,some dY]) (fx:wU≠ []→aB bj∉bs [some jh,some fZ,some dY]) (C_i:r8 w (bs [some jh,some fZ,some dY]) 1 aG wU dR) (h:dn n0 dh dR jm jF=some r),
   Calls Tryz.prog 85 #[(vI n0),(.slice ej eY dV),(.func (.func 87) #[] #[(vP jh),(vP fZ),(vP dY)])] w fun e w'=>∃v,e= .returned v∧(∃(lo:Option Nat) (la:Option Addr) (lc:Nat) (vy:List Value) (ln:Nat),r.2.length=ln∧yo lo la lc vy ln r.2 1 [(dI,eA,jF),(ej,dV,dh)]∧v= .tuple #[]∧Mem w (bs [some jh,some fZ,some dY]) [⟨some jh,137,[(.slice bj bm bi)]⟩,⟨some fZ,2,[(vI r.1)]⟩,⟨some dY,40,[(.slice la ln lc)]⟩,⟨lo,2,row aG r.2 vy⟩] w')) (n0:Int) (dh:List Int) (dR:List (List Int)) (jm:Int) (jF:List Int) (w:World) (r:Int×(List Int)) {ej:Option Addr} {eY:Nat} (dV:Nat) (fD:Rw w ej 1 aG dh) (jC:dh.length=eY) {bj:Option Addr} {bm:Nat} (bi:Nat) {wU:List Hd} (dr:Rw w bj 1 dZ wU) (cE:dR.length=bm) {dI:Option Addr} {db:Nat} (eA:Nat) (ga:jF.length=db) (jh:Nat) (fZ:Nat) (dY:Nat) (fG:Mem w (bs [some jh,some fZ,some dY]) [⟨some jh,137,[(.slice bj bm bi)]⟩,⟨some fZ,2,[(vI jm)]⟩,⟨some dY,40,[(.slice dI db eA)]⟩] w) (dE:dh≠ []→aB ej∉bs [some jh,some fZ,some dY]) (fx:wU≠ []→aB bj∉bs [some jh,some fZ,some dY]) (C_i:r8 w (bs [some jh,some fZ,some dY]) 1 aG wU dR) (h:Fj.step dn n0 dh dR jm jF=some r):
   Cr 85 #[(vI n0),(.slice ej eY dV),(.func (.func 87) #[] #[(vP jh),(vP fZ),(vP dY)])] w fun v w'=>∃(lo:Option Nat) (la:Option Addr) (lc:Nat) (vy:List Value) (ln:Nat),r.2.length=ln∧yo lo la lc vy ln r.2 1 [(dI,eA,jF),(ej,dV,dh)]∧v= .tuple #[]∧Mem w (bs [some jh,some fZ,some dY]) [⟨some jh,137,[(.slice bj bm bi)]⟩,⟨some fZ,2,[(vI r.1)]⟩,⟨some dY,40,[(.slice la ln lc)]⟩,⟨lo,2,row aG r.2 vy⟩] w':=by
 subst jC cE ga
 rw [Fj.step] at h
 refine eN Tryz.func85 rfl Tryz.ntmps85 fG (xF 2 aG jF (ad (cT [0,0,0,0] (qi h (fun h=> ?_) (fun h=> ?_)))))
 ·refine cR [0,0] (bE h fun qI Dk h=>oC 0 (fun w hm=>QW.c dh dR jm jF w _ dV (hm.aM fD dE) rfl bi (hm.aM dr fx) rfl eA rfl jh fZ dY (hm.ps (N:= [⟨some jh,137,[(.slice bj dR.length bi)]⟩,⟨some fZ,2,[(vI jm)]⟩,⟨some dY,40,[(.slice dI jF.length eA)]⟩]) [0,1,2]) (hm.xp fD dE [0,1,2]) (hm.xp dr fx [0,1,2]) (hm.ip C_i [0,1,2]) Dk) ?_)
  rintro w v w' hm ⟨WY,adA,fH,RP,_,rfl,adB,rfl,bn⟩
  obtain⟨Pp,rn,adC,YK⟩:=Mem.ls2 (T:=2) (bh:=aG) (o1:=(none:Option Nat)) (H7:= []) (H8:=jF) (o:=WY) (sp:=RP) (xs:=qI.2) (F:= [(dI,eA,jF),(ej,dV,dh)]) (hm.aw [0,1,2] bn) 3 4 (by kernel_rfl) (by kernel_rfl) (by kernel_rfl) ls0 rfl (.inl (lJ _ k6)) rfl adB
  refine⟨_,Mem.pick YK (N:= [⟨some jh,137,[(.slice bj dR.length bi)]⟩,⟨some fZ,2,[(vI qI.1)]⟩,⟨some dY,40,[(.slice adA qI.2.length fH)]⟩,⟨Pp,2,row aG qI.2 rn⟩]) [0,1,2,3] (by kernel_rfl) (by kernel_rfl),fB ?_⟩
  clear hm bn YK
  refine eT (rX ?_)
  obtain rfl:=si h
  exact qr [] (fun w hm=>⟨Pp,adA,fH,rn,qI.2.length,rfl,adC,rfl,hm.pk [0,1,2,3]⟩)
 ·refine kT (cT [0,0] (aK (fun(j:(List Int)×Int×(Option Nat)×(Option Addr)×Nat×(List Value)×Nat)=>match j with | ⟨b_,eE,im,rc,mn,fP,lh⟩=>Fj.po b_ eE=some r∧(b_.length=lh)∧(yo im rc mn fP lh b_ 1 [(dI,eA,jF),(ej,dV,dh)])) (fun⟨b_,eE,im,rc,mn,fP,lh⟩=> []) (fun⟨b_,eE,im,rc,mn,fP,lh⟩=> [⟨some jh,137,[(.slice bj dR.length bi)]⟩,⟨some fZ,2,[(vI eE)]⟩,⟨some dY,40,[(.slice rc lh mn)]⟩,⟨im,2,row aG b_ fP⟩]) ?_ ?_))
  ·refine ap ?_
   obtain⟨kn,uw,DF⟩:=bd h
   refine jl (fun(s:(List Int)×Int×Int) (x:(Option Nat)×(Option Addr)×Nat×(List Value)×Nat)=>match s,x with | ⟨aL,bK,aR⟩,⟨j8,Kg,gK,eQ,mT⟩=>(aL.length=mT)∧(yo j8 Kg gK eQ mT aL 1 [(dI,eA,jF),(ej,dV,dh)])) (fun⟨aL,bK,aR⟩ ⟨j8,Kg,gK,eQ,mT⟩=> [(0,[],(vI n0)),(1,[],(.slice ej dh.length dV)),(2,[],(.func (.func 87) #[] #[(vP jh),(vP fZ),(vP dY)])),(14,[],(vI n0)),(15,[],(vI aR))]) (fun⟨aL,bK,aR⟩ ⟨j8,Kg,gK,eQ,mT⟩=> [⟨some jh,137,[(.slice bj dR.length bi)]⟩,⟨some fZ,2,[(vI bK)]⟩,⟨some dY,40,[(.slice Kg mT gK)]⟩,⟨j8,2,row aG aL eQ⟩]) uw ⟨(none:Option Nat),dI,eA,[],jF.length⟩ ⟨rfl,ls0⟩ [0,1,2,3] ?_
   rintro⟨aL,bK,aR⟩ ⟨j8,Kg,gK,eQ,mT⟩ aj4 ⟨rfl,SB⟩ h
   rw [Fj.kq] at h
   refine cT [0] (ad (qi h (fun h=> ?_) (fun h=> ?_)))
   ·refine kT (ad (ap (cT [0,0] (cR [0,0] (bE h fun kI Ao h=>oQ 0 (fun w hm=>VO.c dh aR w _ dV (hm.aM fD dE) rfl Ao) (qh [0] (eT (qi h (fun h=> ?_) (fun h=> ?_)))))))))
    ·refine cH [0,0] (bE h fun gu oO h=>oC 0 (fun w hm=>YJ.c dh w _ dV (hm.aM fD dE) rfl oO) ?_)
     rintro w v w' hm ⟨J5,Mu,Sm,_,rfl,DH,yp,rfl,bn⟩
     refine aq hm bn (oH [0] (oA 0 (fun Cj=>?_)))
     obtain⟨adD,h⟩:=gd h
     refine tO (pA 0 4 J5 2 gu.length 1 Mu 1 8 (sB Cj) aG gu ([aR]:List Int) Sm (vI 0) rfl rfl bf fT DH yp (fun w hm=>(hm.ow 5 (some Cj) 2 ([aR]:List Int) [] (fun e=>nomatch e) bf)) adD (fun As u' nV Am uz=>oH [0] (bE h fun dz JH h=>oC 0 (fun w hm=>qN n0 (gu++([aR]:List Int)) dR bK aL w _ u' (hm.ow 4 As 2 (gu++([aR]:List Int)) nV (fun e=>(uz e).1) bf) rfl bi (hm.aM dr fx) rfl gK rfl jh fZ dY (hm.ps (N:= [⟨some jh,137,[(.slice bj dR.length bi)]⟩,⟨some fZ,2,[(vI bK)]⟩,⟨some dY,40,[(.slice Kg aL.length gK)]⟩]) [0,1,2]) (hm.oa 4 As (fun e=>(uz e).1) [0,1,2]) (hm.xp dr fx [0,1,2]) (hm.ip C_i [0,1,2]) JH) ?_)))
     rintro w v w' hm ⟨RA,adE,kO,rp,_,rfl,adF,rfl,bn⟩
     obtain⟨adG,jz,adH,SC⟩:=Mem.YF (T:=2) (bh:=aG) (o1:=j8) (H7:=eQ) (H8:=aL) (o:=RA) (sp:=rp) (xs:=dz.2) (F:= [(dI,eA,jF),(ej,dV,dh)]) (o2:=As) (Sh:=nV) (LC:=(gu++([aR]:List Int))) (hm.aw [0,1,2] bn) 3 4 6 (by kernel_rfl) (by kernel_rfl) (by kernel_rfl) (by kernel_rfl) SB rfl Am uz rfl rfl adF
     refine⟨_,Mem.pick SC (N:= [⟨some jh,137,[(.slice bj dR.length bi)]⟩,⟨some fZ,2,[(vI dz.1)]⟩,⟨some dY,40,[(.slice adE dz.2.length kO)]⟩,⟨adG,2,row aG dz.2 jz⟩,⟨none,0,[]⟩,⟨(some Cj),2,row aG ([aR]:List Int) []⟩]) [0,1,2,3,4,5] (by kernel_rfl) (by kernel_rfl),fB ?_⟩
     clear hm bn SC
     exact qe (nT (cH [0,0] (qe (qb (dz.2,dz.1,(au (aR+1))) ⟨adG,adE,kO,jz,dz.2.length⟩ h ⟨rfl,adH⟩ [0,1,2,3]))))
    ·exact bV (nT (cH [0,0] (qe (qb (aL,bK,(au (aR+1))) ⟨j8,Kg,gK,eQ,aL.length⟩ h ⟨rfl,SB⟩ [0,1,2,3]))))
   ·exact lX (aL,bK) h (fun e=>by subst e;exact bo (qm ⟨aL,bK,j8,Kg,gK,eQ,aL.length⟩ ⟨DF,rfl,SB⟩ [0,1,2,3]))
  ·rintro⟨b_,eE,im,rc,mn,fP,lh⟩ ⟨h,rfl,adI⟩
   unfold Fj.po at h
   refine gn ?_
   obtain rfl:=si h
   exact qr [] (fun w hm=>⟨im,rc,mn,fP,b_.length,rfl,adI,rfl,hm.pk [0,1,2,3]⟩)
theorem Fj.jW(fu:Nat):∀(n0:Int) (dh:List Int) (dR:List (List Int)) (jm:Int) (jF:List Int) (w:World) (r:Int×(List Int)) {ej:Option Addr} {eY:Nat} (dV:Nat) (fD:Rw w ej 1 aG dh) (jC:dh.length=eY) {bj:Option Addr} {bm:Nat} (bi:Nat) {wU:List Hd} (dr:Rw w bj 1 dZ wU) (cE:dR.length=bm) {dI:Option Addr} {db:Nat} (eA:Nat) (ga:jF.length=db) (jh:Nat) (fZ:Nat) (dY:Nat) (fG:Mem w (bs [some jh,some fZ,some dY]) [⟨some jh,137,[(.slice bj bm bi)]⟩,⟨some fZ,2,[(vI jm)]⟩,⟨some dY,40,[(.slice dI db eA)]⟩] w) (dE:dh≠ []→aB ej∉bs [some jh,some fZ,some dY]) (fx:wU≠ []→aB bj∉bs [some jh,some fZ,some dY]) (C_i:r8 w (bs [some jh,some fZ,some dY]) 1 aG wU dR) (h:Fj.fW fu n0 dh dR jm jF=some r),
   Cr 85 #[(vI n0),(.slice ej eY dV),(.func (.func 87) #[] #[(vP jh),(vP fZ),(vP dY)])] w fun v w'=>∃(lo:Option Nat) (la:Option Addr) (lc:Nat) (vy:List Value) (ln:Nat),r.2.length=ln∧yo lo la lc vy ln r.2 1 [(dI,eA,jF),(ej,dV,dh)]∧v= .tuple #[]∧Mem w (bs [some jh,some fZ,some dY]) [⟨some jh,137,[(.slice bj bm bi)]⟩,⟨some fZ,2,[(vI r.1)]⟩,⟨some dY,40,[(.slice la ln lc)]⟩,⟨lo,2,row aG r.2 vy⟩] w':=by
 induction fu with
 | zero=>intros;rename_i h;cases h
 | succ fu ih=>exact @Fj.iS _ (Fj.fW fu) @ih
theorem Fj.c(n0:Int)(dh:List Int)(dR:List (List Int))(jm:Int)(jF:List Int)(w:World)(r:Int×(List Int)){ej:Option Addr}{eY:Nat}(dV:Nat)(fD:Rw w ej 1 aG dh)(jC:dh.length=eY){bj:Option Addr}{bm:Nat}(bi:Nat){wU:List Hd}(dr:Rw w bj 1 dZ wU)(cE:dR.length=bm){dI:Option Addr}{db:Nat}(eA:Nat)(ga:jF.length=db)(jh:Nat)(fZ:Nat)(dY:Nat)(fG:Mem w (bs [some jh,some fZ,some dY]) [⟨some jh,137,[(.slice bj bm bi)]⟩,⟨some fZ,2,[(vI jm)]⟩,⟨some dY,40,[(.slice dI db eA)]⟩] w)(dE:dh≠ []→aB ej∉bs [some jh,some fZ,some dY])(fx:wU≠ []→aB bj∉bs [some jh,some fZ,some dY])(C_i:r8 w (bs [some jh,some fZ,some dY]) 1 aG wU dR)(h:Fj n0 dh dR jm jF=some r):
   Calls Tryz.prog 85 #[(vI n0),(.slice ej eY dV),(.func (.func 87) #[] #[(vP jh),(vP fZ),(vP dY)])] w fun e w'=>∃v,e= .returned v∧(∃(lo:Option Nat) (la:Option Addr) (lc:Nat) (vy:List Value) (ln:Nat),r.2.length=ln∧yo lo la lc vy ln r.2 1 [(dI,eA,jF),(ej,dV,dh)]∧v= .tuple #[]∧Mem w (bs [some jh,some fZ,some dY]) [⟨some jh,137,[(.slice bj bm bi)]⟩,⟨some fZ,2,[(vI r.1)]⟩,⟨some dY,40,[(.slice la ln lc)]⟩,⟨lo,2,row aG r.2 vy⟩] w'):=
 Fj.jW 16 n0 dh dR jm jF w r dV fD jC bi dr cE eA ga jh fZ dY fG dE fx C_i h
def WZ(f0:ae)(bw:List (av 96 Int))(iE:Int):Option ((List Int)×Int×Int):=(FbP f0 bw iE).bind fun dz=>(if(dz !=0)=true then some ([],0,dz) else(zb bw).bind fun eo=>(Fcd iE).bind fun gu=>(Fj (bw.length:Int) gu eo (-1) ([]:List Int)).bind fun aA=>some (aA.2,aA.1,0))
theorem WZ.c(f0:ae)(bw:List (av 96 Int))(iE:Int)(w:World)(r:(List Int)×Int×Int){bj:Option Addr}{bm:Nat}(bi:Nat)(dr:Rw w bj 2 ay f0.aa)(cE:f0.aa.length=bm){bL:Option Addr}{bG:Nat}(bQ:Nat)(dL:Rw w bL 96 da bw)(dU:bw.length=bG)(h:WZ f0 bw iE=some r):
   Cr 39 #[(.agg #[(vH f0.ag),(.slice bj bm bi)]),(.slice bL bG bQ),(vI iE)] w fun v w'=>∃(o0:Option Nat) (c0:Nat) (s0:List Value) (n0:Nat),r.1.length=n0∧(hS o0 n0 c0 s0 1)∧(hO o0 r.1 c0)∧v= .tuple #[.slice (mB o0) n0 c0,(vI r.2.1),(vI r.2.2)]∧Mem w [] [⟨o0,2,row aG r.1 s0⟩] w':=by
 subst cE dU
 rw [WZ] at h
 refine en Tryz.func39 rfl Tryz.ntmps39 (ad (ao (oA 0 (fun gC=>qh [0,0,0] (eT (ad (cR [0,0,0] (bE h fun dz gv h=>oQ 0 (fun w hm=>FbP.c f0 bw iE w _ bi (hm.xr dr) rfl bQ (hm.xr dL) rfl gv) (qh [0] (eT (cT [0,0] (qi h (fun h=> ?_) (fun h=> ?_)))))))))))))
 ·refine cT [0,0,0,0] (rX ?_)
  obtain rfl:=si h
  exact lg 2 aG (qr [] (fun w hm=>⟨none,0,[],0,rfl,(fun e=>absurd rfl e),(fun _=>⟨rfl,rfl⟩),rfl,hm.pk [1]⟩))
 ·refine kT (cR [0] (bE h fun eo Dk h=>oC 0 (fun w hm=>zb.c bw w _ bQ (hm.xr dL) rfl Dk) ?_))
  rintro w v w' hm ⟨qR,gK,eQ,_,lF,YL,rfl,Ab,BQ,rfl,bn⟩
  refine aq hm bn (fB (tO (qa 0 (fun rO=>DC 40 dZ (Ba aG (fB (oA 0 (fun A4=>oA 0 (fun VJ=>oS 0 [3] (oS 0 [6] (oS 0 [7] (eT (cR [0,0,0] (bE h fun gu Ad h=>oC 0 (fun w hm=>Fcd.c iE w _ Ad) ?_))))))))))))))
  rintro w v w' hm ⟨im,rh,fQ,_,rfl,BZ,kU,rfl,bn⟩
  refine aq hm bn (oH [0] (bE h fun aA sa h=>tO (C6 2 aG (pc 0 (fun w hm=>Fj.c (bw.length:Int) gu eo (-1) ([]:List Int) w _ rh (hm.ow 8 im 2 gu fQ (fun e=>(kU e).1) bf) rfl gK (hm.ow 1 qR 40 lF eQ (fun e=>(BQ e).1) fe) (YL.1.symm.trans rfl) 0 rfl rO VJ A4 (hm.ps (N:= [⟨some rO,137,[(.slice (mB qR) lF.length gK)]⟩,⟨some VJ,2,[(vI (-1))]⟩,⟨some A4,40,[(.slice ((none:Option Nat).map fun b=>⟨b,0,none⟩) 0 0)]⟩]) [3,7,6]) (hm.oa 8 im (fun e=>(kU e).1) [3,7,6]) (hm.oa 1 qR (fun e=>(BQ e).1) [3,7,6]) (hm.tq (N:= [⟨some rO,137,[(.slice (mB qR) lF.length gK)]⟩,⟨some VJ,2,[(vI (-1))]⟩,⟨some A4,40,[(.slice ((none:Option Nat).map fun b=>⟨b,0,none⟩) 0 0)]⟩]) 2 YL bf [3,7,6]) sa) ?_))))
  rintro w v w' hm ⟨As,aj5,mn,jT,_,rfl,adJ,rfl,bn⟩
  obtain⟨jc,fP,adK,YM⟩:=Mem.YF (T:=2) (bh:=aG) (o1:=(none:Option Nat)) (H7:= []) (H8:=([]:List Int)) (o:=As) (sp:=jT) (xs:=aA.2) (F:= []) (o2:=im) (Sh:=fQ) (LC:=gu) (hm.aw [3,7,6] bn) 9 8 10 (by kernel_rfl) (by kernel_rfl) (by kernel_rfl) (by kernel_rfl) (lsO (fun e=>absurd rfl e) (fun _=>⟨rfl,rfl⟩)) rfl BZ kU rfl rfl adJ
  obtain⟨rfl,adL,DP⟩:=adK.own
  refine⟨_,Mem.pick YM (N:= [⟨some gC,29,cF f0 bj bi⟩,⟨qR,40,row dZ lF eQ⟩,⟨none,kR,fJ aG lF eo⟩,⟨some rO,137,[(.slice (mB qR) lF.length gK)]⟩,⟨(none:Option Nat),40,row dZ ([]:List Hd) []⟩,⟨none,kR,fJ aG ([]:List Hd) ([]:List (List Int))⟩,⟨some A4,40,[(.slice (mB jc) aA.2.length mn)]⟩,⟨some VJ,2,[(vI aA.1)]⟩,⟨none,0,[]⟩,⟨jc,2,row aG aA.2 fP⟩]) [0,1,2,3,4,5,6,7,8,9] (by kernel_rfl) (by kernel_rfl),fB ?_⟩
  clear hm bn YM
  refine eT (ad (qg [⟨some gC,29,cF f0 bj bi⟩,⟨qR,40,row dZ lF eQ⟩,⟨none,kR,fJ aG lF eo⟩,⟨some rO,137,[(.slice (mB qR) lF.length gK)]⟩,⟨(none:Option Nat),40,row dZ ([]:List Hd) []⟩,⟨none,kR,fJ aG ([]:List Hd) ([]:List (List Int))⟩,⟨some A4,40,[(.slice (mB jc) aA.2.length mn)]⟩,⟨some VJ,2,[(vI aA.1)]⟩,⟨none,0,[]⟩,⟨jc,2,row aG aA.2 fP⟩] 5 (qd [⟨0,6,0⟩,⟨1,7,0⟩,⟨2,0,0⟩,⟨3,0,0⟩,⟨4,0,0⟩] 0 [0,1,2,3,4,5,6,7,8,9] (qz (xR ?_)))))
  obtain rfl:=si h
  exact qr [] (fun w hm=>⟨jc,mn,fP,aA.2.length,rfl,adL,DP,rfl,hm.pk [9]⟩)
def CG.ue(bB:Int):Option (Int):=some bB
def CG.nS(bw:List (av 96 Int))(aR:Int):Option (Int):=(if((aR==0)&&((bw.length:Int)==0))=true then CG.ue 6 else CG.ue aR)
def CG(f0:ae)(bw:List (av 96 Int))(iE:Int):Option (Int):=(H_ f0 bw).bind fun dj=>(if(dj==0)=true then(FD iE (-1) (au ((bw.length:Int)-1))).bind fun dz=>(if(!dz)=true then CG.nS bw 2 else CG.nS bw dj) else CG.nS bw dj)
theorem CG.c(f0:ae)(bw:List (av 96 Int))(iE:Int)(w:World)(r:Int){bj:Option Addr}{bm:Nat}(bi:Nat)(dr:Rw w bj 2 ay f0.aa)(cE:f0.aa.length=bm){bL:Option Addr}{bG:Nat}(bQ:Nat)(dL:Rw w bL 96 da bw)(dU:bw.length=bG)(aH:Nat)(fG:Mem w (bs [some aH]) [⟨some aH,29,cG f0 bj bm bi⟩] w)(fx:f0.aa≠ []→aB bj∉bs [some aH])(eL:bw≠ []→aB bL∉bs [some aH])(h:CG f0 bw iE=some r):
   Cq 88 #[(vP aH),(.slice bL bG bQ),(vI iE)] w (vI r) (bs [some aH]) [⟨some aH,29,cG f0 bj bm bi⟩]:=by
 subst cE dU
 rw [CG] at h
 refine eN Tryz.func88 rfl Tryz.ntmps88 fG (cT [0] (cR [0,0] (bE h fun dj kN h=>oC 0 (fun w hm=>H_.c f0 bw w _ bi (hm.aM dr fx) rfl bQ (hm.aM dL eL) rfl aH (hm.ps [0]) (hm.xp dr fx [0]) (hm.xp dL eL [0]) kN) ?_)))
 rintro w v w' hm ⟨rfl,bn⟩
 refine ⟨_,hm.aW [(0,⟨some aH,29,cF f0 bj bi⟩)] [] bn,oH [0] (eT (ad (aK (fun(aR:Int)=>CG.nS bw aR=some r) (fun aR=> [(1,[],(.slice bL bw.length bQ)),(6,[],(vI 0)),(7,[],(vI aR))]) (fun aR=> [⟨some aH,29,cF f0 bj bi⟩]) ?_ ?_)))⟩
 ·refine ad (ao (qf [(0,0),(0,0),(0,0),(0,1),(0,1),(0,1),(0,1)] (qp 13 h (fun h=> ?_) (fun h=> ?_))))
  ·refine bE h fun dz jf h=>oQ 2 (fun w hm=>FD.c iE (-1) (au ((bw.length:Int)-1)) w _ jf) (qf [(0,2),(0,4)] (eT (qi h (fun h=> ?_) (fun h=> ?_))))
   ·exact cH [0] (qe (qm 2 h [0]))
   ·exact bV (qm dj h [0])
  ·exact qf [(0,3),(0,3),(0,5)] (eT (jq false (fun adM=>nomatch adM) (fun adM=>(bV (qm dj h [0])))))
 ·rintro aR h
  unfold CG.nS at h
  refine aP (ad (aK (fun(bB:Int)=>CG.ue bB=some r) (fun bB=> [(6,[],(vI 0)),(7,[],(vI bB))]) (fun bB=> [⟨some aH,29,cF f0 bj bi⟩]) ?_ ?_))
  ·refine ad (ao (qf [(0,0),(0,0),(0,0),(0,1),(0,1),(0,1),(0,0)] (eT (qi h (fun h=> ?_) (fun h=> ?_)))))
   ·exact cH [0] (qe (qm 6 h [0]))
   ·exact bV (qm aR h [0])
  ·rintro bB h
   unfold CG.ue at h
   refine aP (cT [0,0] (aI ?_))
   cases h
   exact qP [0]
def FL.u6(uA:Int)(jH:Int)(oY:List (List Int))(bB:Int):Option (Int×(List (List Int))):=(ix oY uA).bind fun my=>(ix my jH).bind fun PE=>some (bB,(oY.set uA.toNat (my.set jH.toNat bB)))
def FL.vQ(dn:(List (List Int))→Int→Int→Bool→(List (List Int))→Option (Int×(List (List Int))))(bD:List (List Int))(uA:Int)(jH:Int)(iH:Bool):((List (List Int))×Int×Int)→Option (((List (List Int))×Int×Int)⊕(((List (List Int))×Int)))
 | (Bb,cK,aR)=>(if(decide (aR<(bD.length:Int)))=true then(if 0≤(u64 aR) then(if((Int.tmod (eC .i64 jH (u64 aR)) 2)==0)=true then some (.inl (Bb,cK,(au (aR+1)))) else(ix bD uA).bind fun wh=>(ix wh aR).bind fun qS=>(if 0≤(u64 aR) then(dn bD aR (yQ .i64 jH (fo .i64 1 (u64 aR))) iH Bb).bind fun dj=>(if((decide (cK<0)) || (decide ((au (qS+dj.1))<cK)))=true then some (.inl (dj.2,(au (qS+dj.1)),(au (aR+1)))) else some (.inl (dj.2,cK,(au (aR+1))))) else none)) else none) else some (.inr (Bb,cK)))
def FL.step(dn:(List (List Int))→Int→Int→Bool→(List (List Int))→Option (Int×(List (List Int))))(bD:List (List Int))(uA:Int)(jH:Int)(iH:Bool)(gW:List (List Int)):Option (Int×(List (List Int))):=(if(jH==0)=true then(if iH=true then(ix bD uA).bind fun p8=>(ix p8 0).bind fun sw=>some (sw,gW) else some (0,gW)) else(ix gW uA).bind fun rI=>(ix rI jH).bind fun PF=>(if(decide (PF≥0))=true then(ix gW uA).bind fun adN=>(ix adN jH).bind fun SD=>some (SD,gW) else(loop (FL.vQ dn bD uA jH iH) (gW,(-1),0)).bind fun i_=>FL.u6 uA jH i_.1 i_.2))
def FL.fW:Nat→(List (List Int))→Int→Int→Bool→(List (List Int))→Option (Int×(List (List Int)))
 | 0=>fun bD uA jH iH gW=>none
 | fu+1=>FL.step (FL.fW fu)
def FL(bD:List (List Int))(uA:Int)(jH:Int)(iH:Bool)(gW:List (List Int)):Option (Int×(List (List Int))):=FL.fW 16 bD uA jH iH gW
theorem FL.iS(dn:(List (List Int))→Int→Int→Bool→(List (List Int))→Option (Int×(List (List Int))))(qN:∀(bD:List (List Int)) (uA:Int) (jH:Int) (iH:Bool) (gW:List (List Int)) (w:World) (r:Int×(List (List Int))) {cQ:Option Addr} {ck:Nat} (bX:Nat) {gq:List Hd} (eX:Rw w cQ 1 dZ gq) (dH:bD.length=ck) {dI:Option Addr} {db:Nat} (eA:Nat) {gU:List Hd} (g_:Rw w dI 1 dZ gU) (ga:gW.length=db) (CH:ph gU gW) (E_D:I5 gU) (fG:Mem w (u4 gU) [⟨none,kR,fJ aG gU gW⟩] w) (ul:gq≠ []→aB cQ∉u4 gU) (sV:r8 w (u4 gU) 1 aG gq bD) (gT:gU≠ []→aB dI∉u4 gU) (h:dn bD uA jH iH gW=some r),
   Calls Tryz.prog 145 #[(.slice cQ ck bX),(vI uA),(vI jH),(.bool iH),(.slice dI db eA)] w fun e w'=>∃v,e= .returned v∧(ph gU r.2∧v=(vI r.1)∧Mem w (u4 gU) [⟨none,kR,fJ aG gU r.2⟩] w')) (bD:List (List Int)) (uA:Int) (jH:Int) (iH:Bool) (gW:List (List Int)) (w:World) (r:Int×(List (List Int))) {cQ:Option Addr} {ck:Nat} (bX:Nat) {gq:List Hd} (eX:Rw w cQ 1 dZ gq) (dH:bD.length=ck) {dI:Option Addr} {db:Nat} (eA:Nat) {gU:List Hd} (g_:Rw w dI 1 dZ gU) (ga:gW.length=db) (CH:ph gU gW) (E_D:I5 gU) (fG:Mem w (u4 gU) [⟨none,kR,fJ aG gU gW⟩] w) (ul:gq≠ []→aB cQ∉u4 gU) (sV:r8 w (u4 gU) 1 aG gq bD) (gT:gU≠ []→aB dI∉u4 gU) (h:FL.step dn bD uA jH iH gW=some r):
   Cr 145 #[(.slice cQ ck bX),(vI uA),(vI jH),(.bool iH),(.slice dI db eA)] w fun v w'=>ph gU r.2∧v=(vI r.1)∧Mem w (u4 gU) [⟨none,kR,fJ aG gU r.2⟩] w':=by
 subst dH ga
 rw [FL.step] at h
 refine eN Tryz.func145 rfl Tryz.ntmps145 fG (cT [0] (ad (cT [0,0] (qi h (fun h=> ?_) (fun h=> ?_)))))
 ·refine ad (cT [0] (qi h (fun h=> ?_) (fun h=> ?_)))
  ·refine cR [0,0] (bE h fun p8 lC h=>oX 0 cQ 1 lC rfl (eX.sp (sV.Ci lC)) (oL 0 false (fun w hm=>((hm.aM eX ul).at (sV.Ci lC))) (bE h fun sw vv h=>oX 0 (hd gq uA).a 1 vv (sV.get lC).2.1 ((sV.get lC).1.sp vv) (oL 0 false (fun w hm=>((hm.aM (sV.get lC).1 (sV.get lC).2.2).at vv)) (qh [0] (eT (rX (aT ?_))))))))
   obtain rfl:=si h
   exact qr [] (fun w hm=>⟨CH,rfl,hm.pk [0]⟩)
  ·refine kT (cT [0] (rX ?_))
   obtain rfl:=si h
   exact qr [] (fun w hm=>⟨CH,rfl,hm.pk [0]⟩)
 ·refine kT (ad (cR [0,0] (bE h fun rI oP h=>oX 0 dI 1 oP (CH.1.symm.trans CH.1) (g_.sp (CH.Ci oP)) (oL 0 false (fun w hm=>((hm.aM g_ gT).at (CH.Ci oP))) (qh [0] (bE h fun PF wJ h=>oX 0 (hd gU uA).a 1 wJ (CH.get oP).1 (CH.sp oP wJ) (oL 0 false (fun w hm=>(((hm.Ms 0 CH bf).get oP).1.at wJ)) (qh [0] (eT (qi h (fun h=> ?_) (fun h=> ?_)))))))))))
  ·refine cR [0,0] (bE h fun adN jV h=>oX 0 dI 1 jV (CH.1.symm.trans CH.1) (g_.sp (CH.Ci jV)) (oL 0 false (fun w hm=>((hm.aM g_ gT).at (CH.Ci jV))) (qh [0] (bE h fun SD yr h=>oX 0 (hd gU uA).a 1 yr (CH.get jV).1 (CH.sp jV yr) (oL 0 false (fun w hm=>(((hm.Ms 0 CH bf).get jV).1.at yr)) (qh [0] (eT (rX ?_))))))))
   obtain rfl:=si h
   exact qr [] (fun w hm=>⟨CH,rfl,hm.pk [0]⟩)
  ·refine kT (cT [0] (ad (cT [0] (aK (fun(j:(List (List Int))×Int)=>match j with | ⟨oY,bB⟩=>FL.u6 uA jH oY bB=some r∧(ph gU oY)) (fun⟨oY,bB⟩=> [(1,[],(vI uA)),(2,[],(vI jH)),(4,[],(.slice dI gW.length eA)),(10,[],(vI 0)),(11,[],(vI bB))]) (fun⟨oY,bB⟩=> [⟨none,kR,fJ aG gU oY⟩]) ?_ ?_))))
   ·refine ap ?_
    obtain⟨i_,l8,BO⟩:=bd h
    refine jl (fun(s:(List (List Int))×Int×Int) (x:Unit)=>match s,x with | ⟨Bb,cK,aR⟩,_=>(ph gU Bb)) (fun⟨Bb,cK,aR⟩ _=> [(0,[],(.slice cQ bD.length bX)),(1,[],(vI uA)),(2,[],(vI jH)),(3,[],(.bool iH)),(4,[],(.slice dI gW.length eA)),(10,[],(vI 0)),(11,[],(vI cK)),(12,[],(vI aR))]) (fun⟨Bb,cK,aR⟩ _=> [⟨none,kR,fJ aG gU Bb⟩]) l8 () CH [0] ?_
    rintro⟨Bb,cK,aR⟩ _ aj6 wW h
    rw [FL.vQ] at h
    refine ad (cT [0,0,0,0] (qi h (fun h=> ?_) (fun h=> ?_)))
    ·refine kT (ad (ap (ad (cR [0,0,0] ?_))))
     obtain⟨Dg,h⟩:=gd h
     refine tO (pW 0 .i64 jH .u64 (u64 aR) Dg (oH [0,0] (eT (qi h (fun h=> ?_) (fun h=> ?_)))))
     ·exact lP (ib (bo (aP (cH [0,0,0] (qe (qb (Bb,cK,(au (aR+1))) () h wW [0]))))))
     ·refine kT (ad (qg [] 19 (qd [⟨0,0,0⟩,⟨1,0,0⟩,⟨4,0,0⟩,⟨7,0,0⟩,⟨8,0,0⟩,⟨9,0,0⟩,⟨10,0,0⟩,⟨11,0,0⟩,⟨14,0,0⟩,⟨15,0,0⟩] 9 [] (bE h fun wh kW h=>qX 2 0 [] cQ 1 kW rfl (eX.sp (sV.Ci kW)) (qL 3 0 [] false (fun w hm=>(hm.aM eX ul).at (sV.Ci kW)) (bE h fun qS rq h=>qX 5 0 [] ((hd gq uA).a) 1 rq (sV.get kW).2.1 ((sV.get kW).1.sp rq) (qL 6 0 [] false (fun w hm=>(hm.aM (sV.get kW).1 (sV.get kW).2.2).at rq) ?_)))))))
      obtain⟨BM,h⟩:=gd h
      refine tD 12 (pV 0 .i64 1 .u64 (u64 aR) BM (kD [] (qd [⟨13,0,0⟩] 3 [] (bE h fun dj r_ h=>tD 16 (pc 0 (fun w hm=>qN bD aR (yQ .i64 jH (fo .i64 1 (u64 aR))) iH Bb w _ bX (hm.aM eX ul) rfl eA (hm.aM g_ gT) (wW.1.symm.trans CH.1) wW E_D (hm.aaA 0 wW) (hm.An (bh:=aG) 0 wW eX ul) (hm.DD (bh:=aG) 0 wW sV) gT r_) ?_)))))
      rintro w v w' hm ⟨SE,rfl,bn⟩
      refine ⟨_,hm.WM 0 wW bn,kD [] (qd [⟨17,0,0⟩,⟨18,0,0⟩] 0 [] (zT (ad (ao (qf [(0,0),(0,0),(0,0),(0,1),(0,1),(0,1),(0,0)] (eT (qi h (fun h=> ?_) (fun h=> ?_))))))))⟩
      ·exact cH [0,0] (qe (nT (cH [0,0,0] (qe (qb (dj.2,(au (qS+dj.1)),(au (aR+1))) () h SE [0])))))
      ·exact bV (nT (cH [0,0,0] (qe (qb (dj.2,cK,(au (aR+1))) () h SE [0]))))
    ·exact lX (Bb,cK) h (fun e=>by subst e;exact bo (qm ⟨Bb,cK⟩ ⟨BO,wW⟩ [0]))
   ·rintro⟨oY,bB⟩ ⟨h,zc⟩
    unfold FL.u6 at h
    refine aP (cR [0,0] (bE h fun my kV h=>oX 0 dI 1 kV (zc.1.symm.trans CH.1) (g_.sp (zc.Ci kV)) (oL 0 false (fun w hm=>((hm.aM g_ gT).at (zc.Ci kV))) (qh [0,0] (bE h fun PE wX h=>oX 0 (hd gU uA).a 1 wX (zc.get kV).1 (zc.sp kV wX) (tO (aaD 0 0 aG gU oY uA jH my PE bB 1 (by kernel_rfl) (by kernel_rfl) (by kernel_rfl) (by kernel_rfl) zc E_D kV wX bf (by kernel_rfl) (fB (eT (cT [0,0] (aI ?_)))))))))))
    obtain rfl:=si h
    exact qr [] (fun w hm=>⟨(zc.set kV eJ),rfl,hm.pk [0]⟩)
theorem FL.jW(fu:Nat):∀(bD:List (List Int)) (uA:Int) (jH:Int) (iH:Bool) (gW:List (List Int)) (w:World) (r:Int×(List (List Int))) {cQ:Option Addr} {ck:Nat} (bX:Nat) {gq:List Hd} (eX:Rw w cQ 1 dZ gq) (dH:bD.length=ck) {dI:Option Addr} {db:Nat} (eA:Nat) {gU:List Hd} (g_:Rw w dI 1 dZ gU) (ga:gW.length=db) (CH:ph gU gW) (E_D:I5 gU) (fG:Mem w (u4 gU) [⟨none,kR,fJ aG gU gW⟩] w) (ul:gq≠ []→aB cQ∉u4 gU) (sV:r8 w (u4 gU) 1 aG gq bD) (gT:gU≠ []→aB dI∉u4 gU) (h:FL.fW fu bD uA jH iH gW=some r),
   Cr 145 #[(.slice cQ ck bX),(vI uA),(vI jH),(.bool iH),(.slice dI db eA)] w fun v w'=>ph gU r.2∧v=(vI r.1)∧Mem w (u4 gU) [⟨none,kR,fJ aG gU r.2⟩] w':=by
 induction fu with
 | zero=>intros;rename_i h;cases h
 | succ fu ih=>exact @FL.iS _ (FL.fW fu) @ih
theorem FL.c(bD:List (List Int))(uA:Int)(jH:Int)(iH:Bool)(gW:List (List Int))(w:World)(r:Int×(List (List Int))){cQ:Option Addr}{ck:Nat}(bX:Nat){gq:List Hd}(eX:Rw w cQ 1 dZ gq)(dH:bD.length=ck){dI:Option Addr}{db:Nat}(eA:Nat){gU:List Hd}(g_:Rw w dI 1 dZ gU)(ga:gW.length=db)(CH:ph gU gW)(E_D:I5 gU)(fG:Mem w (u4 gU) [⟨none,kR,fJ aG gU gW⟩] w)(ul:gq≠ []→aB cQ∉u4 gU)(sV:r8 w (u4 gU) 1 aG gq bD)(gT:gU≠ []→aB dI∉u4 gU)(h:FL bD uA jH iH gW=some r):
   Calls Tryz.prog 145 #[(.slice cQ ck bX),(vI uA),(vI jH),(.bool iH),(.slice dI db eA)] w fun e w'=>∃v,e= .returned v∧(ph gU r.2∧v=(vI r.1)∧Mem w (u4 gU) [⟨none,kR,fJ aG gU r.2⟩] w'):=
 FL.jW 16 bD uA jH iH gW w r bX eX dH eA g_ ga CH E_D fG ul sV gT h
def Fq.ki(lj:Int×(List (List Int)))(DQ:List (List Int))(yu:List Int):Option ((List Int)×Int):=some (yu,lj.1)
def Fq.y9(Au:List (List Int))(me:List Int)(mC:Int)(x8:Int)(x9:Int):Option (((List (List Int))×(List Int)×Int×Int×Int)⊕(((List (List Int))×(List Int)))):=some (.inl (Au,me,mC,x8,x9))
def Fq.DR(bD:List (List Int))(jd:Bool)(a7:List Int)(cS:Int)(fR:Int)(mf:Int):((List (List Int))×Int)→Option (((List (List Int))×Int)⊕(((List (List Int))×(List Int)×Int×Int×Int)))
 | (Bc,aR)=>(if(decide (aR<(bD.length:Int)))=true then(if 0≤(u64 aR) then(if((Int.tmod (eC .i64 cS (u64 aR)) 2)==0)=true then some (.inl (Bc,(au (aR+1)))) else(if 0≤(u64 aR) then(FL bD aR (yQ .i64 cS (fo .i64 1 (u64 aR))) jd Bc).bind fun qQ=>(ix bD fR).bind fun Kh=>(ix Kh aR).bind fun DS=>(if((au (DS+qQ.1))==mf)=true then(if a7.length+([aR]:List Int).length≤4294967296 then(if 0≤(u64 aR) then some (.inr (qQ.2,(a7++([aR]:List Int)),(yQ .i64 cS (fo .i64 1 (u64 aR))),aR,qQ.1)) else none) else none) else some (.inl (qQ.2,(au (aR+1))))) else none)) else none) else some (.inr (Bc,a7,cS,fR,mf)))
def Fq.I4(bD:List (List Int))(jd:Bool):((List (List Int))×(List Int)×Int×Int×Int)→Option (((List (List Int))×(List Int)×Int×Int×Int)⊕(((List (List Int))×(List Int))))
 | (yv,a7,cS,fR,mf)=>(if(cS !=0)=true then(loop (Fq.DR bD jd a7 cS fR mf) (yv,0)).bind fun tF=>Fq.y9 tF.1 tF.2.1 tF.2.2.1 tF.2.2.2.1 tF.2.2.2.2 else some (.inr (yv,a7)))
def Fq.iQ(bD:List (List Int))(lW:Int)(jd:Bool)(Av:List (List Int)):Option ((List Int)×Int):=(if 0≤(u64 (bD.length:Int)) then(if 0≤(u64 lW) then(FL bD lW (yQ .i64 (au ((fo .i64 1 (u64 (bD.length:Int)))-1)) (fo .i64 1 (u64 lW))) jd Av).bind fun lj=>(loop (Fq.I4 bD jd) (lj.2,([lW]:List Int),(yQ .i64 (au ((fo .i64 1 (u64 (bD.length:Int)))-1)) (fo .i64 1 (u64 lW))),lW,lj.1)).bind fun Dz=>Fq.ki lj Dz.1 Dz.2 else none) else none)
def Fq.DT(oY:List (List Int))(eE:Int)(yw:List Int):Option (((List (List Int))×Int)⊕((List (List Int)))):=(if oY.length+1≤4294967296 then some (.inl ((oY++ [yw]),(au (eE+1)))) else none)
def Fq.Aw(bD:List (List Int)):((List Int)×Int)→Option (((List Int)×Int)⊕((List Int)))
 | (eH,jQ)=>(if(decide (jQ<(((fo .i64 1 (u64 (bD.length:Int))).toNat):Int)))=true then(ix eH jQ).bind fun W0=>some (.inl ((eH.set jQ.toNat (-1)),(au (jQ+1)))) else some (.inr eH))
def Fq.s6(bD:List (List Int)):((List (List Int))×Int)→Option (((List (List Int))×Int)⊕((List (List Int))))
 | (oY,eE)=>(if(decide (eE<(bD.length:Int)))=true then(if 0≤(u64 (bD.length:Int)) then(if 0≤(fo .i64 1 (u64 (bD.length:Int)))∧(fo .i64 1 (u64 (bD.length:Int)))≤17592186044416 then(loop (Fq.Aw bD) ((List.replicate (fo .i64 1 (u64 (bD.length:Int))).toNat 0),0)).bind fun W4=>Fq.DT oY eE W4 else none) else none) else some (.inr oY))
def Fq(bD:List (List Int))(lW:Int)(jd:Bool):Option ((List Int)×Int):=(loop (Fq.s6 bD) (([]:List (List Int)),0)).bind fun PG=>Fq.iQ bD lW jd PG
set_option maxHeartbeats 8000000 in
theorem Fq.c(bD:List (List Int))(lW:Int)(jd:Bool)(w:World)(r:(List Int)×Int){cQ:Option Addr}{ck:Nat}(bX:Nat){gq:List Hd}(eX:Rw w cQ 1 dZ gq)(dH:bD.length=ck)(sV:r8 w [] 1 aG gq bD)(h:Fq bD lW jd=some r):
   Cr 89 #[(.slice cQ ck bX),(vI lW),(.bool jd)] w fun v w'=>∃(o0:Option Nat) (c0:Nat) (s0:List Value) (n0:Nat),r.1.length=n0∧(hS o0 n0 c0 s0 1)∧(hO o0 r.1 c0)∧v= .tuple #[.slice (mB o0) n0 c0,(vI r.2)]∧Mem w [] [⟨o0,2,row aG r.1 s0⟩] w':=by
 subst dH
 rw [Fq] at h
 refine en Tryz.func89 rfl Tryz.ntmps89 (cT [0,0] (cT [0,0,0] (ad (ao (tO (qa 0 (fun W5=>Ba aG (oH [0] (eT (ad (cT [0] (aK (fun(j:(List (List Int))×(List Hd)×(Option Nat)×Nat×(List Value)×Nat)=>match j with | ⟨Av,lF,gp,gV,eQ,uB⟩=>Fq.iQ bD lW jd Av=some r∧(lF.length=uB)∧(hS gp uB gV eQ 1)∧(hO gp lF gV)∧(ph lF Av)∧(I5 lF)) (fun⟨Av,lF,gp,gV,eQ,uB⟩=> [(0,[],(.slice cQ bD.length bX)),(1,[],(vI lW)),(2,[],(.bool jd)),(6,[],(.slice none 0 0)),(7,[],(vI 0)),(8,[],(vI (bD.length:Int))),(9,[],(.slice (mB gp) uB gV))]) (fun⟨Av,lF,gp,gV,eQ,uB⟩=> [⟨gp,40,row dZ lF eQ⟩,⟨none,kR,fJ aG lF Av⟩]) ?_ ?_))))))))))))
 ·refine ap ?_
  obtain⟨PG,Ki,adO⟩:=bd h
  refine jl (fun(s:(List (List Int))×Int) (x:(List Hd)×(Option Nat)×Nat×(List Value)×Nat)=>match s,x with | ⟨oY,eE⟩,⟨j0,im,fU,jz,uC⟩=>(j0.length=uC)∧(hS im uC fU jz 1)∧(hO im j0 fU)∧(ph j0 oY)∧(I5 j0)) (fun⟨oY,eE⟩ ⟨j0,im,fU,jz,uC⟩=> [(0,[],(.slice cQ bD.length bX)),(1,[],(vI lW)),(2,[],(.bool jd)),(6,[],(.slice none 0 0)),(7,[],(vI 0)),(8,[],(vI (bD.length:Int))),(9,[],(.slice (mB im) uC fU)),(10,[],(vI eE))]) (fun⟨oY,eE⟩ ⟨j0,im,fU,jz,uC⟩=> [⟨im,40,row dZ j0 jz⟩,⟨none,kR,fJ aG j0 oY⟩]) Ki ⟨([]:List Hd),(some W5),0,[],0⟩ ⟨rfl,(fun _=>⟨bt _,by simp⟩),(fun e=>nomatch e),ph.nil,I5.nil⟩ [0,1] ?_
  rintro⟨oY,eE⟩ ⟨j0,im,fU,jz,uC⟩ ahZ ⟨rfl,BK,BL,CI,Oo⟩ h
  rw [Fq.s6] at h
  refine ad (cT [0,0,0] (qi h (fun h=> ?_) (fun h=> ?_)))
  ·refine kT (ad (ap (cR [0,0] ?_)))
   obtain⟨adP,h⟩:=gd h
   refine tO (pV 0 .i64 1 .u64 (u64 (bD.length:Int)) adP (fB ?_))
   obtain⟨SF,h⟩:=gd h
   refine tO (pQ 0 2 (fo .i64 1 (u64 (bD.length:Int))) 1 8 aG 0 SF.1 (by omega) (fun Ct=>oH [0] (eT (ad (cT [0] (aK (fun(yw:(List Int))=>Fq.DT oY eE yw=some ahZ∧(yw.length=(fo .i64 1 (u64 (bD.length:Int))).toNat)) (fun yw=> [(0,[],(.slice cQ bD.length bX)),(1,[],(vI lW)),(2,[],(.bool jd)),(6,[],(.slice none 0 0)),(7,[],(vI 0)),(8,[],(vI (bD.length:Int))),(9,[],(.slice (mB im) j0.length fU)),(10,[],(vI eE)),(11,[],(.slice (sB Ct) ((fo .i64 1 (u64 (bD.length:Int))).toNat) ((fo .i64 1 (u64 (bD.length:Int))).toNat)))]) (fun yw=> [⟨im,40,row dZ j0 jz⟩,⟨none,kR,fJ aG j0 oY⟩,⟨(some Ct),2,row aG yw []⟩]) ?_ ?_))))))
   ·refine ap ?_
    obtain⟨W4,R2,adQ⟩:=bd h
    refine jl (fun(s:(List Int)×Int) (x:Unit)=>match s,x with | ⟨eH,jQ⟩,_=>(eH.length=(fo .i64 1 (u64 (bD.length:Int))).toNat)) (fun⟨eH,jQ⟩ _=> [(0,[],(.slice cQ bD.length bX)),(1,[],(vI lW)),(2,[],(.bool jd)),(6,[],(.slice none 0 0)),(7,[],(vI 0)),(8,[],(vI (bD.length:Int))),(9,[],(.slice (mB im) j0.length fU)),(10,[],(vI eE)),(11,[],(.slice (sB Ct) ((fo .i64 1 (u64 (bD.length:Int))).toNat) ((fo .i64 1 (u64 (bD.length:Int))).toNat))),(12,[],(vI jQ))]) (fun⟨eH,jQ⟩ _=> [⟨im,40,row dZ j0 jz⟩,⟨none,kR,fJ aG j0 oY⟩,⟨(some Ct),2,row aG eH []⟩]) R2 () List.length_replicate [0,1,2] ?_
    rintro⟨eH,jQ⟩ _ aj7 Kj h
    rw [Fq.Aw] at h
    refine ad (cT [0,0,0,0] (qi h (fun h=> ?_) (fun h=> ?_)))
    ·exact kT (ad (ap (cH [0,0] (bE h fun W0 G_ h=>oX 0 (sB Ct) 1 G_ Kj rfl (tO (pT 0 2 Ct 2 aG eH [] jQ (-1) 1 0 [(vI (-1))] bf G_ (fB (qe (nT (cH [0,0,0] (qe (qb ((eH.set jQ.toNat (-1)),(au (jQ+1))) () h (eJ.trans Kj) [0,1,2]))))))))))))
    ·exact lX eH h (fun e=>by subst e;exact bo (qm eH ⟨adQ,Kj⟩ [0,1,2]))
   ·rintro yw ⟨h,adR⟩
    unfold Fq.DT at h
    refine aP (cH [0,0] (oA 0 (fun Ia=>?_)))
    obtain⟨adS,h⟩:=gd h
    exact tO (pA 0 0 im 40 j0.length 1 fU 1 24 (sB Ia) dZ j0 [(Hd.mk (sB Ct) ((fo .i64 1 (u64 (bD.length:Int))).toNat) ((fo .i64 1 (u64 (bD.length:Int))).toNat))] jz (.slice none 0 0) rfl rfl fe nI BK BL (fun w hm=>(hm.ow 3 (some Ia) 40 ([(Hd.mk (sB Ct) ((fo .i64 1 (u64 (bD.length:Int))).toNat) ((fo .i64 1 (u64 (bD.length:Int))).toNat))]) [] (fun e=>nomatch e) fe)) (y_ CI adS) (fun W6 zd Oq adT adU=>WQ (bh:=aG) (hs:=j0) (iG:=oY) (o:=(some Ct)) (T:=2) (xs:=yw) (sp:= []) 1 2 ((fo .i64 1 (u64 (bD.length:Int))).toNat) ((fo .i64 1 (u64 (bD.length:Int))).toNat) CI Oo (fun W7=>oH [0] (qe (nT (cH [0,0,0] (qe (qb ((oY++ [yw]),(au (eE+1))) ⟨(j0++ [(Hd.mk (sB Ct) ((fo .i64 1 (u64 (bD.length:Int))).toNat) ((fo .i64 1 (u64 (bD.length:Int))).toNat))]),W6,zd,Oq,(j0++ [(Hd.mk (sB Ct) ((fo .i64 1 (u64 (bD.length:Int))).toNat) ((fo .i64 1 (u64 (bD.length:Int))).toNat))]).length⟩ h ⟨rfl,adT,adU,(CI.snoc (o:=(some Ct)) adR (fun e=>nomatch e)),W7⟩ [0,1]))))))))
  ·exact lX oY h (fun e=>by subst e;exact bo (qm ⟨oY,j0,im,fU,jz,j0.length⟩ ⟨adO,rfl,BK,BL,CI,Oo⟩ [0,1]))
 ·rintro⟨Av,lF,gp,gV,eQ,uB⟩ ⟨h,rfl,ajz,nX,ze,SG⟩
  unfold Fq.iQ at h
  refine aP (cR [0,0] ?_)
  obtain⟨adV,h⟩:=gd h
  refine tO (pV 0 .i64 1 .u64 (u64 (bD.length:Int)) adV (oH [0,0,0] ?_))
  obtain⟨SH,h⟩:=gd h
  refine tO (pV 0 .i64 1 .u64 (u64 lW) SH (oH [0,0] (eT (cR [0,0,0,0,0] (bE h fun lj SI h=>oC 0 (fun w hm=>FL.c bD lW (yQ .i64 (au ((fo .i64 1 (u64 (bD.length:Int)))-1)) (fo .i64 1 (u64 lW))) jd Av w _ bX (hm.xr eX) rfl gV (hm.ow 0 gp 40 lF eQ (fun e=>(nX e).1) fe) (ze.1.symm.trans rfl) ze SG (hm.aaA 1 ze) (hm.An (bh:=aG) 1 ze eX (fun _=>cq)) (hm.DD (bh:=aG) 1 ze sV) (hm.G4 (bh:=aG) (R:=Hd) (hh:=0) (o:=gp) (T:=40) (cs:=row dZ lF eQ) (xs:=lF) 1 ze (by kernel_rfl) (fun e=>(nX e).1)) SI) ?_)))))
  rintro w v w' hm ⟨aaN,rfl,bn⟩
  refine ⟨_,hm.WM 1 ze bn,oH [0] (eT (cR [0] (oA 0 (fun adW=>qh [0] (eT (cT [0,0] (cT [0,0] (ad (aK (fun(j:(List (List Int))×(List Int)×(Option Nat)×Nat×(List Value)×Nat)=>match j with | ⟨DQ,yu,H9,zf,rl,PH⟩=>Fq.ki lj DQ yu=some r∧(ph lF DQ)∧(yu.length=PH)∧(hS H9 PH zf rl 1)∧(hO H9 yu zf)) (fun⟨DQ,yu,H9,zf,rl,PH⟩=> [(6,[],(.slice none 0 0)),(7,[],(vI 0)),(14,[],(vI lj.1)),(15,[],(.slice (mB H9) PH zf))]) (fun⟨DQ,yu,H9,zf,rl,PH⟩=> [⟨gp,40,row dZ lF eQ⟩,⟨none,kR,fJ aG lF DQ⟩,⟨H9,2,row aG yu rl⟩]) ?_ ?_)))))))))⟩
  ·refine ap ?_
   obtain⟨Dz,SJ,adX⟩:=bd h
   refine jl (fun(s:(List (List Int))×(List Int)×Int×Int×Int) (x:(Option Nat)×Nat×(List Value)×Nat)=>match s,x with | ⟨yv,a7,cS,fR,mf⟩,⟨kJ,j9,rr,PI⟩=>(ph lF yv)∧(a7.length=PI)∧(hS kJ PI j9 rr 1)∧(hO kJ a7 j9)) (fun⟨yv,a7,cS,fR,mf⟩ ⟨kJ,j9,rr,PI⟩=> [(0,[],(.slice cQ bD.length bX)),(2,[],(.bool jd)),(6,[],(.slice none 0 0)),(7,[],(vI 0)),(8,[],(vI (bD.length:Int))),(9,[],(.slice (mB gp) lF.length gV)),(13,[],(vI cS)),(14,[],(vI lj.1)),(15,[],(.slice (mB kJ) PI j9)),(16,[],(vI fR)),(17,[],(vI mf))]) (fun⟨yv,a7,cS,fR,mf⟩ ⟨kJ,j9,rr,PI⟩=> [⟨gp,40,row dZ lF eQ⟩,⟨none,kR,fJ aG lF yv⟩,⟨kJ,2,row aG a7 rr⟩]) SJ ⟨(some adW),1,[],1⟩ ⟨aaN,rfl,(fun _=>⟨bt _,by simp⟩),(fun e=>nomatch e)⟩ [0,1,2] ?_
   rintro⟨yv,a7,cS,fR,mf⟩ ⟨kJ,j9,rr,PI⟩ adx ⟨Ot,rfl,Kk,Kl⟩ h
   rw [Fq.I4] at h
   refine ad (cT [0,0] (qi h (fun h=> ?_) (fun h=> ?_)))
   ·refine kT (ap (cT [0] (aK (fun(j:(List (List Int))×(List Int)×Int×Int×Int×(Option Nat)×Nat×(List Value)×Nat)=>match j with | ⟨Au,me,mC,x8,x9,Km,wY,yx,PJ⟩=>Fq.y9 Au me mC x8 x9=some adx∧(ph lF Au)∧(me.length=PJ)∧(hS Km PJ wY yx 1)∧(hO Km me wY)) (fun⟨Au,me,mC,x8,x9,Km,wY,yx,PJ⟩=> [(0,[],(.slice cQ bD.length bX)),(2,[],(.bool jd)),(6,[],(.slice none 0 0)),(7,[],(vI 0)),(8,[],(vI (bD.length:Int))),(9,[],(.slice (mB gp) lF.length gV)),(13,[],(vI mC)),(14,[],(vI lj.1)),(15,[],(.slice (mB Km) PJ wY)),(16,[],(vI x8)),(17,[],(vI x9))]) (fun⟨Au,me,mC,x8,x9,Km,wY,yx,PJ⟩=> [⟨gp,40,row dZ lF eQ⟩,⟨none,kR,fJ aG lF Au⟩,⟨Km,2,row aG me yx⟩]) ?_ ?_)))
    ·refine ap ?_
     obtain⟨tF,Kn,YN⟩:=bd h
     refine jl (fun(s:(List (List Int))×Int) (x:Unit)=>match s,x with | ⟨Bc,aR⟩,_=>(ph lF Bc)) (fun⟨Bc,aR⟩ _=> [(0,[],(.slice cQ bD.length bX)),(2,[],(.bool jd)),(6,[],(.slice none 0 0)),(7,[],(vI 0)),(8,[],(vI (bD.length:Int))),(9,[],(.slice (mB gp) lF.length gV)),(13,[],(vI cS)),(14,[],(vI lj.1)),(15,[],(.slice (mB kJ) a7.length j9)),(16,[],(vI fR)),(17,[],(vI mf)),(18,[],(vI aR))]) (fun⟨Bc,aR⟩ _=> [⟨gp,40,row dZ lF eQ⟩,⟨none,kR,fJ aG lF Bc⟩,⟨kJ,2,row aG a7 rr⟩]) Kn () Ot [0,1,2] ?_
     rintro⟨Bc,aR⟩ _ aj8 rK h
     rw [Fq.DR] at h
     refine ad (cT [0,0,0] (qi h (fun h=> ?_) (fun h=> ?_)))
     ·refine kT (ad (ap (ad (cR [0,0,0] ?_))))
      obtain⟨SK,h⟩:=gd h
      refine tO (pW 0 .i64 cS .u64 (u64 aR) SK (oH [0,0] (eT (qi h (fun h=> ?_) (fun h=> ?_)))))
      ·exact lP (ib (bo (aP (cH [0,0,0] (qe (qb (Bc,(au (aR+1))) () h rK [0,1,2]))))))
      ·refine kT (cR [0,0,0,0,0] ?_)
       obtain⟨adY,h⟩:=gd h
       refine tO (pV 0 .i64 1 .u64 (u64 aR) adY (oH [0,0,0] (bE h fun qQ SL h=>oC 0 (fun w hm=>FL.c bD aR (yQ .i64 cS (fo .i64 1 (u64 aR))) jd Bc w _ bX (hm.xr eX) rfl gV (hm.ow 0 gp 40 lF eQ (fun e=>(nX e).1) fe) (rK.1.symm.trans rfl) rK SG (hm.aaA 1 rK) (hm.An (bh:=aG) 1 rK eX (fun _=>cq)) (hm.DD (bh:=aG) 1 rK sV) (hm.G4 (bh:=aG) (R:=Hd) (hh:=0) (o:=gp) (T:=40) (cs:=row dZ lF eQ) (xs:=lF) 1 rK (by kernel_rfl) (fun e=>(nX e).1)) SL) ?_)))
       rintro w v w' hm ⟨Ou,rfl,bn⟩
       refine ⟨_,hm.WM 1 rK bn,oH [0] (eT (cR [0,0] (bE h fun Kh yy h=>oX 0 cQ 1 yy rfl (eX.sp (sV.Ci yy)) (oL 0 false (fun w hm=>((hm.xr eX).at (sV.Ci yy))) (qh [0] (bE h fun DS vz h=>oX 0 (hd gq fR).a 1 vz (sV.get yy).2.1 ((sV.get yy).1.sp vz) (oL 0 false (fun w hm=>((hm.GH (sV.get yy).1 cq).at vz)) (qh [0,0,0,0] (eT (qi h (fun h=> ?_) (fun h=> ?_)))))))))))⟩
       ·refine cR [0,0] (oA 0 (fun Ge=>?_))
        obtain⟨adZ,h⟩:=gd h
        refine tO (pA 0 2 kJ 2 a7.length 1 j9 1 8 (sB Ge) aG a7 ([aR]:List Int) rr (vI 0) rfl rfl bf fT Kk Kl (fun w hm=>(hm.ow 3 (some Ge) 2 ([aR]:List Int) [] (fun e=>nomatch e) bf)) adZ (fun ah0 aaO ad0 Ov ad1=>oH [0] (eT (cR [0,0,0] ?_))))
        obtain⟨ad2,h⟩:=gd h
        refine tO (pV 0 .i64 1 .u64 (u64 aR) ad2 (oH [0,0] (eT (cT [0,0] (cT [0,0] (lP (ZO rfl (ib (wz (qQ.2,(a7++([aR]:List Int)),(yQ .i64 cS (fo .i64 1 (u64 aR))),aR,qQ.1) (sj h) (fun ah1=> ?_))))))))))
        subst ah1
        exact bo (qm ⟨qQ.2,(a7++([aR]:List Int)),(yQ .i64 cS (fo .i64 1 (u64 aR))),aR,qQ.1,ah0,aaO,ad0,(a7++([aR]:List Int)).length⟩ ⟨YN,Ou,rfl,Ov,ad1⟩ [0,1,2])
       ·exact bV (nT (cH [0,0,0] (qe (qb (qQ.2,(au (aR+1))) () h Ou [0,1,2]))))
     ·exact lX (Bc,a7,cS,fR,mf) h (fun e=>by subst e;exact bo (qm ⟨Bc,a7,cS,fR,mf,kJ,j9,rr,a7.length⟩ ⟨YN,rK,rfl,Kk,Kl⟩ [0,1,2]))
    ·rintro⟨Au,me,mC,x8,x9,Km,wY,yx,PJ⟩ ⟨h,W8,rfl,SM,ad3⟩
     unfold Fq.y9 at h
     exact nf (qb (Au,me,mC,x8,x9) ⟨Km,wY,yx,me.length⟩ h ⟨W8,rfl,SM,ad3⟩ [0,1,2])
   ·exact lX (yv,a7) h (fun e=>by subst e;exact bo (qm ⟨yv,a7,kJ,j9,rr,a7.length⟩ ⟨adX,Ot,rfl,Kk,Kl⟩ [0,1,2]))
  ·rintro⟨DQ,yu,H9,zf,rl,PH⟩ ⟨h,ag5,rfl,ad4,ad5⟩
   unfold Fq.ki at h
   refine aP (cT [0,0,0,0] (aI ?_))
   obtain rfl:=si h
   exact qr [] (fun w hm=>⟨H9,zf,rl,yu.length,rfl,ad4,ad5,rfl,hm.pk [2]⟩)
def Ib.qw(bO:List Int)(eE:Int):Option ((List Int)×Int×Int):=some (bO,eE,0)
def Ib.kq(bw:List (av 96 Int))(eo:(List (List Int))):((List Int)×Int×Int)→Option (((List Int)×Int×Int)⊕(((List Int)×Int)))
 | (a7,aR,bB)=>(if(decide (bB<(bw.length:Int)))=true then(Fq eo bB false).bind fun gu=>(if(decide (gu.2<aR))=true then some (.inl (gu.1,gu.2,(au (bB+1)))) else some (.inl (a7,aR,(au (bB+1))))) else some (.inr (a7,aR)))
def Ib(f0:ae)(bw:List (av 96 Int))(iE:Int):Option ((List Int)×Int×Int):=(CG f0 bw iE).bind fun qI=>(if(qI !=0)=true then some (([]:List Int),0,qI) else(FP bw).bind fun eo=>(if(decide (iE≥0))=true then(Fq eo iE false).bind fun kn=>some (kn.1,kn.2,0) else(Fq eo 0 false).bind fun kI=>(loop (Ib.kq bw eo) (kI.1,kI.2,1)).bind fun j7=>Ib.qw j7.1 j7.2))
theorem Ib.c(f0:ae)(bw:List (av 96 Int))(iE:Int)(w:World)(r:(List Int)×Int×Int){bj:Option Addr}{bm:Nat}(bi:Nat)(dr:Rw w bj 2 ay f0.aa)(cE:f0.aa.length=bm){bL:Option Addr}{bG:Nat}(bQ:Nat)(dL:Rw w bL 96 da bw)(dU:bw.length=bG)(h:Ib f0 bw iE=some r):
   Cr 40 #[(.agg #[(vH f0.ag),(.slice bj bm bi)]),(.slice bL bG bQ),(vI iE)] w fun v w'=>∃(o0:Option Nat) (c0:Nat) (s0:List Value) (n0:Nat),r.1.length=n0∧(hS o0 n0 c0 s0 1)∧(hO o0 r.1 c0)∧v= .tuple #[.slice (mB o0) n0 c0,(vI r.2.1),(vI r.2.2)]∧Mem w [] [⟨o0,2,row aG r.1 s0⟩] w':=by
 subst cE dU
 rw [Ib] at h
 refine en Tryz.func40 rfl Tryz.ntmps40 (ad (ao (oA 0 (fun A4=>qh [0,0,0] (eT (ad (cR [0,0] (bE h fun qI jP h=>oC 0 (fun w hm=>CG.c f0 bw iE w _ bi (hm.xr dr) rfl bQ (hm.xr dL) rfl A4 (hm.ps [0]) (hm.xp dr (fun _=>cq) [0]) (hm.xp dL (fun _=>cq) [0]) jP) ?_))))))))
 rintro w v w' hm ⟨rfl,bn⟩
 refine ⟨_,hm.aW [(0,⟨some A4,29,cF f0 bj bi⟩)] [] bn,oH [0] (eT (cT [0,0] (qi h (fun h=> ?_) (fun h=> ?_))))⟩
 ·refine ad (ao (oA 0 (fun C9=>qh [0,0,0,0] (eT (rX ?_)))))
  obtain rfl:=si h
  exact qr [] (fun w hm=>⟨(some C9),0,[],0,rfl,(fun _=>⟨bt _,by simp⟩),(fun e=>nomatch e),rfl,hm.pk [1]⟩)
 ·refine kT (cR [0] (bE h fun eo kN h=>oC 0 (fun w hm=>FP.c bw w _ bQ (hm.xr dL) rfl kN) ?_))
  rintro w v w' hm ⟨rf,sv,fQ,_,Gd,G',rfl,GQ,sr,rfl,bn⟩
  refine aq hm bn (oH [0] (eT (ad (cT [0,0] (qi h (fun h=> ?_) (fun h=> ?_))))))
  ·refine cR [0,0] (bE h fun kn ui h=>oC 0 (fun w hm=>Fq.c eo iE false w _ sv (hm.ow 1 rf 40 Gd fQ (fun e=>(sr e).1) fe) (G'.1.symm.trans rfl) (hm.tq (N:= []) 2 G' bf []) ui) ?_)
   rintro w v w' hm ⟨nw,fU,rn,_,rfl,uk,pz,rfl,bn⟩
   refine aq hm bn (oH [0,0,0,0,0] (eT (cT [0,0,0,0,0] (rX ?_))))
   obtain rfl:=si h
   exact qr [] (fun w hm=>⟨nw,fU,rn,kn.1.length,rfl,uk,pz,rfl,hm.pk [3]⟩)
  ·refine kT (cR [0] (bE h fun kI Du h=>oC 0 (fun w hm=>Fq.c eo 0 false w _ sv (hm.ow 1 rf 40 Gd fQ (fun e=>(sr e).1) fe) (G'.1.symm.trans rfl) (hm.tq (N:= []) 2 G' bf []) Du) ?_))
   rintro w v w' hm ⟨Rv,li,wF,_,rfl,na,mG,rfl,bn⟩
   refine aq hm bn (oH [0,0,0,0,0] (eT (ad (cT [0] (aK (fun(j:(List Int)×Int×(Option Nat)×Nat×(List Value)×Nat)=>match j with | ⟨bO,eE,jc,cu,dN,pI⟩=>Ib.qw bO eE=some r∧(bO.length=pI)∧(hS jc pI cu dN 1)∧(hO jc bO cu)) (fun⟨bO,eE,jc,cu,dN,pI⟩=> [(6,[],(.slice none 0 0)),(7,[],(vI 0)),(8,[],(vI 0)),(13,[],(.slice (mB jc) pI cu)),(14,[],(vI eE))]) (fun⟨bO,eE,jc,cu,dN,pI⟩=> [⟨some A4,29,cF f0 bj bi⟩,⟨rf,40,row dZ Gd fQ⟩,⟨none,kR,fJ aG Gd eo⟩,⟨none,0,[]⟩,⟨jc,2,row aG bO dN⟩]) ?_ ?_)))))
   ·refine ap ?_
    obtain⟨j7,oO,Ai⟩:=bd h
    refine wA 0 (fun(_:Unit)=>([]:List Value)) (jl (fun(s:(List Int)×Int×Int) (x:(Option Nat)×Nat×(List Value)×Nat)=>match s,x with | ⟨a7,aR,bB⟩,⟨gp,et,dK,lh⟩=>(a7.length=lh)∧(hS gp lh et dK 1)∧(hO gp a7 et)) (fun⟨a7,aR,bB⟩ ⟨gp,et,dK,lh⟩=> [(1,[],(.slice bL bw.length bQ)),(6,[],(.slice none 0 0)),(7,[],(vI 0)),(8,[],(vI 0)),(10,[],(.slice (mB rf) Gd.length sv)),(13,[],(.slice (mB gp) lh et)),(14,[],(vI aR)),(15,[],(vI bB))]) (fun⟨a7,aR,bB⟩ ⟨gp,et,dK,lh⟩=> [⟨some A4,29,cF f0 bj bi⟩,⟨rf,40,row dZ Gd fQ⟩,⟨none,kR,fJ aG Gd eo⟩,⟨none,0,[]⟩,⟨gp,2,row aG a7 dK⟩]) oO ⟨Rv,li,wF,kI.1.length⟩ ⟨rfl,na,mG⟩ [0,1,2,4,3] ?_)
    rintro⟨a7,aR,bB⟩ ⟨gp,et,dK,lh⟩ aj9 ⟨rfl,BZ,wZ⟩ h
    rw [Ib.kq] at h
    refine ad (cT [0,0,0,0] (qi h (fun h=> ?_) (fun h=> ?_)))
    ·refine kT (ad (ap (cR [0,0] (bE h fun gu Aj h=>oC 0 (fun w hm=>Fq.c eo bB false w _ sv (hm.ow 1 rf 40 Gd fQ (fun e=>(sr e).1) fe) (G'.1.symm.trans rfl) (hm.tq (N:= []) 2 G' bf []) Aj) ?_))))
     rintro w v w' hm ⟨Ry,C8,rl,_,rfl,zY,zZ,rfl,bn⟩
     refine aq hm bn (oH [0,0,0,0,0] (eT (cT [0,0,0] (qi h (fun h=> ?_) (fun h=> ?_)))))
     ·exact cT [0,0] (cH [0,0] (qe (nT (cH [0,0,0] (qe (qb (gu.1,gu.2,(au (bB+1))) ⟨Ry,C8,rl,gu.1.length⟩ h ⟨rfl,zY,zZ⟩ [0,1,2,3,5]))))))
     ·exact bV (nT (cH [0,0,0] (qe (qb (a7,aR,(au (bB+1))) ⟨gp,et,dK,a7.length⟩ h ⟨rfl,BZ,wZ⟩ [0,1,2,3,4]))))
    ·exact lX (a7,aR) h (fun e=>by subst e;exact bo (qm ⟨a7,aR,gp,et,dK,a7.length⟩ ⟨Ai,rfl,BZ,wZ⟩ [0,1,2,3,4]))
   ·rintro⟨bO,eE,jc,cu,dN,pI⟩ ⟨h,rfl,DU,DV⟩
    unfold Ib.qw at h
    refine aP (cT [0,0,0,0,0] (aI ?_))
    obtain rfl:=si h
    exact qr [] (fun w hm=>⟨jc,cu,dN,bO.length,rfl,DU,DV,rfl,hm.pk [4]⟩)
end
end Go.Proofs.YtplklknkkaeniaaGreat
