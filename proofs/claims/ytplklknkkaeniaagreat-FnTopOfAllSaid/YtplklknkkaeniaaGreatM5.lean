/- Functions of the program that the law reaches: a plain function each, and that the call comes to its answer if the plain function has one. Printed by a program. -/
import Derived.Test.YtplklknkkaeniaaGreatT
import Derived.Test.YtplklknkkaeniaaGreatSeg
import Derived.Test.YtplklknkkaeniaaGreatM0
import Derived.Test.YtplklknkkaeniaaGreatM1
import Derived.Test.YtplklknkkaeniaaGreatM2
import Derived.Test.YtplklknkkaeniaaGreatM3
import Derived.Test.YtplklknkkaeniaaGreatM4
namespace Go.Proofs.YtplklknkkaeniaaGreat
open Eng
set_option linter.unusedVariables false
set_option linter.unusedSectionVars false
set_option maxRecDepth 100000
variable [gj:wu]
noncomputable section
def Fbo(f0:ae)(t1:List ai)(aU:List ab):Option (Bool×Int):=(OJ f0 t1 aU).bind fun aA=>(if(aA==2)=true then some (false,0) else(if(aA !=0)=true then some (false,aA) else(FM f0 t1 aU).bind fun bz=>some ((decide (bz.2<0)),0)))
theorem Fbo.c(f0:ae)(t1:List ai)(aU:List ab)(w:World)(r:Bool×Int){bj:Option Addr}{bm:Nat}(bi:Nat)(dr:Rw w bj 2 ay f0.aa)(cE:f0.aa.length=bm){bL:Option Addr}{bG:Nat}(bQ:Nat)(dL:Rw w bL 2 aF t1)(dU:t1.length=bG){dI:Option Addr}{db:Nat}(eA:Nat)(g_:Rw w dI 4 af aU)(ga:aU.length=db)(h:Fbo f0 t1 aU=some r):
   Cr 45 #[(.agg #[(vH f0.ag),(.slice bj bm bi)]),(.slice bL bG bQ),(.slice dI db eA)] w fun v w'=>v= .tuple #[(.bool r.1),(vI r.2)]∧Mem w [] [] w':=by
 subst cE dU ga
 rw [Fbo] at h
 refine en Tryz.func45 rfl Tryz.ntmps45 (ad (ao (oA 0 (fun cD=>qh [0,0] (eT (cR [0,0] (bE h fun aA iD h=>oC 0 (fun w hm=>OJ.c f0 t1 aU w _ bi (hm.xr dr) rfl bQ (hm.xr dL) rfl eA (hm.xr g_) rfl cD (hm.ps [0]) (hm.xp dr (fun _=>cq) [0]) (hm.xp dL (fun _=>cq) [0]) (hm.xp g_ (fun _=>cq) [0]) iD) ?_)))))))
 rintro w v w' hm ⟨rfl,bn⟩
 refine ⟨_,hm.aW [(0,⟨some cD,29,cF f0 bj bi⟩)] [] bn,oH [0] (eT (ad (cT [0,0] (qi h (fun h=> ?_) (fun h=> ?_)))))⟩
 ·refine cT [0,0] (rX ?_)
  cases h
  exact qP []
 ·refine kT (ad (cT [0,0] (qi h (fun h=> ?_) (fun h=> ?_))))
  ·refine cT [0,0,0] (rX ?_)
   cases h
   exact qP []
  ·refine kT (cR [0,0] (bE h fun bz kN h=>oC 0 (fun w hm=>FM.c f0 t1 aU w _ bi (hm.xr dr) rfl bQ (hm.xr dL) rfl eA (hm.xr g_) rfl cD (hm.ps [0]) (hm.xp dr (fun _=>cq) [0]) (hm.xp dL (fun _=>cq) [0]) (hm.xp g_ (fun _=>cq) [0]) kN) ?_))
   rintro w v w' hm ⟨rfl,bn⟩
   refine ⟨_,hm.aW [(0,⟨some cD,29,cF f0 bj bi⟩)] [] bn,oH [0,0,0] (oA 0 (fun gC=>tO (pS 0 1 gC 96 1 36 aj (av.dC 96 0) bz.1 an bk (oH [0] (eT (cT [0,0,0,0] (aI ?_)))))))⟩
   cases h
   exact qP []
def Xt(f0:ae)(t1:List ai)(aU:List ab):Option ((av 96 Int)×Int):=(Xs f0 t1 aU).bind fun aA=>(if(aA.2.2 !=0)=true then some ((av.dC 96 0),aA.2.2) else some (aA.1,0))
theorem Xt.c(f0:ae)(t1:List ai)(aU:List ab)(w:World)(r:(av 96 Int)×Int){bj:Option Addr}{bm:Nat}(bi:Nat)(dr:Rw w bj 2 ay f0.aa)(cE:f0.aa.length=bm){bL:Option Addr}{bG:Nat}(bQ:Nat)(dL:Rw w bL 2 aF t1)(dU:t1.length=bG){dI:Option Addr}{db:Nat}(eA:Nat)(g_:Rw w dI 4 af aU)(ga:aU.length=db)(h:Xt f0 t1 aU=some r):
   Cr 46 #[(.agg #[(vH f0.ag),(.slice bj bm bi)]),(.slice bL bG bQ),(.slice dI db eA)] w fun v w'=>v= .tuple #[(.agg (row aj r.1.1 []).toArray),(vI r.2)]∧Mem w [] [] w':=by
 subst cE dU ga
 rw [Xt] at h
 refine en Tryz.func46 rfl Tryz.ntmps46 (ad (ao (oA 0 (fun cD=>oA 0 (fun fa=>qh [0] (eT (cR [0,0,0] (bE h fun aA jP h=>oQ 0 (fun w hm=>Xs.c f0 t1 aU w _ bi (hm.xr dr) rfl bQ (hm.xr dL) rfl eA (hm.xr g_) rfl jP) (qh [0,0,0,0] (oA 0 (fun fV=>tO (pS 0 2 fV 96 1 36 aj (av.dC 96 0) aA.1 an bk (oH [0,0] (eT (ad (cT [0,0] (qi h (fun h=> ?_) (fun h=> ?_))))))))))))))))))
 ·refine cR [0,0] (tO (pS 0 1 fa 96 1 36 aj (av.dC 96 0) (av.dC 96 0) an bk (oH [0] (eT (rX ?_)))))
  obtain rfl:=si h
  exact gH rfl (ra (b:=fa) (T':=36) (hh:=1) (mm:=1) aj (av.dC 96 0) an (rt iP)) (fun w hm=>⟨rfl,hm.pk []⟩)
 ·refine kT (ad (ao (tO (pL 0 2 fV 96 1 36 aj aA.1 an (fB (tO (pS 0 1 fa 96 1 36 aj (av.dC 96 0) aA.1 an bk (oH [0] (eT (aI ?_))))))))))
  obtain rfl:=si h
  exact gH rfl (ra (b:=fa) (T':=36) (hh:=1) (mm:=1) aj aA.1 an (rt iP)) (fun w hm=>⟨rfl,hm.pk []⟩)
def FbR(f0:ae)(t1:List ai)(aU:List ab):Option ((List ai)×Int):=(Xt f0 t1 aU).bind fun aA=>(if(aA.2 !=0)=true then some ([],aA.2) else(RR f0 aA.1 0 (au f0.ag)).bind fun bz=>some (bz,0))
theorem FbR.c(f0:ae)(t1:List ai)(aU:List ab)(w:World)(r:(List ai)×Int){bj:Option Addr}{bm:Nat}(bi:Nat)(dr:Rw w bj 2 ay f0.aa)(cE:f0.aa.length=bm){bL:Option Addr}{bG:Nat}(bQ:Nat)(dL:Rw w bL 2 aF t1)(dU:t1.length=bG){dI:Option Addr}{db:Nat}(eA:Nat)(g_:Rw w dI 4 af aU)(ga:aU.length=db)(h:FbR f0 t1 aU=some r):
   Cr 47 #[(.agg #[(vH f0.ag),(.slice bj bm bi)]),(.slice bL bG bQ),(.slice dI db eA)] w fun v w'=>∃(o0:Option Nat) (c0:Nat) (s0:List Value) (n0:Nat),r.1.length=n0∧(hS o0 n0 c0 s0 2)∧(hO o0 r.1 c0)∧v= .tuple #[.slice (mB o0) n0 c0,(vI r.2)]∧Mem w [] [⟨o0,70,row aF r.1 s0⟩] w':=by
 subst cE dU ga
 rw [FbR] at h
 refine en Tryz.func47 rfl Tryz.ntmps47 (ad (ao (oA 0 (fun cD=>qh [0,0] (eT (cR [0,0,0] (bE h fun aA iD h=>oQ 0 (fun w hm=>Xt.c f0 t1 aU w _ bi (hm.xr dr) rfl bQ (hm.xr dL) rfl eA (hm.xr g_) rfl iD) (qh [0,0,0] (oA 0 (fun fV=>tO (pS 0 1 fV 96 1 36 aj (av.dC 96 0) aA.1 an bk (oH [0] (eT (ad (cT [0,0] (qi h (fun h=> ?_) (fun h=> ?_)))))))))))))))))
 ·refine cT [0,0,0] (rX ?_)
  obtain rfl:=si h
  exact lg 70 aF (qr [] (fun w hm=>⟨none,0,[],0,rfl,(fun e=>absurd rfl e),(fun _=>⟨rfl,rfl⟩),rfl,hm.pk [2]⟩))
 ·refine kT (cR [0] (tO (pL 0 1 fV 96 1 36 aj aA.1 an (oH [0,0,0] (bE h fun bz jP h=>oC 0 (fun w hm=>RR.c f0 aA.1 0 (au f0.ag) w _ bi (hm.xr dr) rfl jP) ?_)))))
  rintro w v w' hm ⟨nh,fH,l9,_,rfl,Pz,oV,rfl,bn⟩
  refine aq hm bn (oH [0,0] (eT (aI ?_)))
  obtain rfl:=si h
  exact qr [] (fun w hm=>⟨nh,fH,l9,bz.length,rfl,Pz,oV,rfl,hm.pk [2]⟩)
def bI.y9(ia:aQ)(ie:List ab)(aA:(List ab)×Int×Int)(xH:Bool):Option (Bool):=(if xH=true then some false else(Em ia ie).bind fun jo=>some (((aA.2.2 !=0) || (jo.2 !=0)) || (decide (aA.2.1≤jo.1))))
def bI.og(f0:ae)(t1:List ai)(ia:aQ)(ie:List ab)(aA:(List ab)×Int×Int)(bz:Bool×Int)(L9:Bool):Option (Bool):=(if L9=true then some false else(if((bz.2 !=0) || (!bz.1))=true then some true else(Xt f0 t1 ie).bind fun eo=>(FbR f0 t1 ie).bind fun lE=>(Mp f0 eo.1).bind fun eO=>(Sw f0 eo.1).bind fun iI=>(if(((((eo.2 !=0) || (lE.2 !=0)) || (eO.2 !=0)) || (iI.2 !=0)) || (!iI.1))=true then bI.y9 ia ie aA true else(Sx eO.1 lE.1).bind fun uh=>bI.y9 ia ie aA (!uh))))
def bI.ue(f0:ae)(t1:List ai)(ia:aQ)(ie:List ab)(aA:(List ab)×Int×Int):Option (Bool):=(T2 f0 t1 ie).bind fun bz=>(Fbo f0 t1 ie).bind fun iq=>(if(bz.2 !=iq.2)=true then bI.og f0 t1 ia ie aA bz true else bI.og f0 t1 ia ie aA bz ((bz.2==0)&&(bz.1 !=iq.1)))
def bI.ki(f0:ae)(t1:List ai)(ia:aQ)(ie:List ab)(aA:(List ab)×Int×Int)(sW:Bool):Option (Bool):=(if sW=true then some false else(if(aA.2.2==0)=true then(T2 f0 t1 aA.1).bind fun s8=>(Em ia aA.1).bind fun jU=>(if((((s8.2 !=0) || (!s8.1)) || (jU.2 !=0)) || (jU.1 !=aA.2.1))=true then some false else bI.ue f0 t1 ia ie aA) else bI.ue f0 t1 ia ie aA))
def bI(f0:ae)(t1:List ai)(ia:aQ)(ie:List ab)(lV:Int):Option (Bool):=(Ii f0 t1 ia lV).bind fun aA=>(Fb5 f0 t1 ia lV).bind fun dj=>(if(aA.2.2 !=dj.2.2)=true then bI.ki f0 t1 ia ie aA true else bI.ki f0 t1 ia ie aA ((aA.2.2==0)&&(aA.2.1 !=dj.2.1)))
set_option maxHeartbeats 8000000 in
theorem bI.c(f0:ae)(t1:List ai)(ia:aQ)(ie:List ab)(lV:Int)(w:World)(r:Bool){bj:Option Addr}{bm:Nat}(bi:Nat)(dr:Rw w bj 2 ay f0.aa)(cE:f0.aa.length=bm){bL:Option Addr}{bG:Nat}(bQ:Nat)(dL:Rw w bL 2 aF t1)(dU:t1.length=bG){I_a:Option Addr}{af8:Nat}(Mj:Nat)(I_h:Rw w I_a 4 af ie)(aau:ie.length=af8)(h:bI f0 t1 ia ie lV=some r):
   Cq 13 #[(.agg #[(vH f0.ag),(.slice bj bm bi)]),(.slice bL bG bQ),(.agg (aC ia)),(.slice I_a af8 Mj),(vI lV)] w (.bool r) [] []:=by
 subst cE dU aau
 rw [bI] at h
 refine en Tryz.func13 rfl Tryz.ntmps13 (ad (ao (oA 0 (fun cD=>oA 0 (fun fV=>qh [0] (eT (cR [0,0,1,0] (bE h fun aA jf h=>oC 0 (fun w hm=>Ii.c f0 t1 ia lV w _ bi (hm.xr dr) rfl bQ (hm.xr dL) rfl jf) ?_))))))))
 rintro w v w' hm ⟨gI,jg,vX,_,rfl,afe,ri,rfl,bn⟩
 refine aq hm bn (oH [0,0,0,0,0,0,0] (eT (ad (cR [0,0,1,0] (bE h fun dj wL h=>oC 0 (fun w hm=>Fb5.c f0 t1 ia lV w _ bi (hm.xr dr) rfl bQ (hm.xr dL) rfl wL) ?_)))))
 rintro w v w' hm ⟨kj,wY,dK,_,rfl,KO,B0,rfl,bn⟩
 refine aq hm bn (oH [0,0,0,0,0,0,0] (eT (ad (aK (fun(sW:Bool)=>bI.ki f0 t1 ia ie aA sW=some r) (fun sW=> [(1,[],(.slice bL t1.length bQ)),(3,[],(.slice I_a ie.length Mj)),(5,[],(vP cD)),(7,[],(vP fV)),(10,[],(.bool false)),(11,[],(.slice (mB gI) aA.1.length jg)),(12,[],(vI aA.2.1)),(13,[],(vI aA.2.2)),(64,[],(.bool sW))]) (fun sW=> [⟨some cD,29,cF f0 bj bi⟩,⟨some fV,46,cC ia⟩,⟨gI,72,row af aA.1 vX⟩,⟨kj,72,row af dj.1 dK⟩]) ?_ ?_))))
 ·refine ao (qf [(0,0),(0,0),(0,0),(0,0),(0,1),(0,1)] (qp 56 h (fun h=> ?_) (fun h=> ?_)))
  ·exact qf [(0,3),(0,3),(0,3),(0,3),(0,3),(0,4)] (qe (qm true h [0,1,2,3]))
  ·exact qf [(0,2),(0,1),(0,1),(0,1),(0,2),(0,5)] (qe (qm ((aA.2.2==0)&&(aA.2.1 !=dj.2.1)) h [0,1,2,3]))
 ·rintro sW h
  unfold bI.ki at h
  refine aP (qi h (fun h=> ?_) (fun h=> ?_))
  ·refine cT [0] (rX ?_)
   cases h
   exact qP []
  ·refine kT (ad (aK (fun(_:Unit)=>bI.ue f0 t1 ia ie aA=some r) (fun(_:Unit)=> [(1,[],(.slice bL t1.length bQ)),(3,[],(.slice I_a ie.length Mj)),(5,[],(vP cD)),(7,[],(vP fV)),(10,[],(.bool false)),(12,[],(vI aA.2.1)),(13,[],(vI aA.2.2))]) (fun(_:Unit)=> [⟨some cD,29,cF f0 bj bi⟩,⟨some fV,46,cC ia⟩,⟨gI,72,row af aA.1 vX⟩,⟨kj,72,row af dj.1 dK⟩]) ?_ ?_))
   ·refine cT [0,0] (qi h (fun h=> ?_) (fun h=> ?_))
    ·refine cR [0,0,0] (bE h fun s8 l8 h=>oQ 0 (fun w hm=>T2.c f0 t1 aA.1 w _ bi (hm.xr dr) rfl bQ (hm.xr dL) rfl jg (hm.ow 2 gI 72 aA.1 vX (fun e=>(ri e).1) az) rfl l8) (qh [0,0,0,0,0] (eT (cR [1,0] (bE h fun jU ui h=>oQ 0 (fun w hm=>Em.c ia aA.1 w _ jg (hm.ow 2 gI 72 aA.1 vX (fun e=>(ri e).1) az) rfl ui) (qh [0,0,0,0,0] (eT (ad (ao (qf [(0,0),(0,0),(0,0),(0,1),(0,1),(0,0),(0,0),(0,1),(0,1),(0,0),(0,0),(0,1),(0,1),(0,1),(0,0)] (eT (qi h (fun h=> ?_) (fun h=> ?_)))))))))))))
     ·refine cT [0] (rX (aT ?_))
      cases h
      exact qP []
     ·exact bV (qm () h [0,1,2,3])
    ·exact bV (qm () h [0,1,2,3])
   ·rintro _ h
    unfold bI.ue at h
    refine aP (cR [0,0,0] (bE h fun bz uf h=>oQ 0 (fun w hm=>T2.c f0 t1 ie w _ bi (hm.xr dr) rfl bQ (hm.xr dL) rfl Mj (hm.xr I_h) rfl uf) (qh [0,0,0,0,0] (eT (ad (cR [0,0,0] (bE h fun iq wK h=>oQ 0 (fun w hm=>Fbo.c f0 t1 ie w _ bi (hm.xr dr) rfl bQ (hm.xr dL) rfl Mj (hm.xr I_h) rfl wK) (qh [0,0,0,0,0] (eT (ad (aK (fun(L9:Bool)=>bI.og f0 t1 ia ie aA bz L9=some r) (fun L9=> [(1,[],(.slice bL t1.length bQ)),(3,[],(.slice I_a ie.length Mj)),(5,[],(vP cD)),(7,[],(vP fV)),(10,[],(.bool false)),(12,[],(vI aA.2.1)),(13,[],(vI aA.2.2)),(21,[],(.bool bz.1)),(22,[],(vI bz.2)),(120,[],(.bool L9))]) (fun L9=> [⟨some cD,29,cF f0 bj bi⟩,⟨some fV,46,cC ia⟩,⟨gI,72,row af aA.1 vX⟩,⟨kj,72,row af dj.1 dK⟩]) ?_ ?_)))))))))))
    ·refine ao (qf [(0,0),(0,0),(0,0),(0,0),(0,1),(0,1)] (qp 112 h (fun h=> ?_) (fun h=> ?_)))
     ·exact qf [(0,3),(0,3),(0,3),(0,3),(0,3),(0,4)] (qe (qm true h [0,1,2,3]))
     ·exact qf [(0,2),(0,1),(0,1),(0,1),(0,2),(0,5)] (qe (qm ((bz.2==0)&&(bz.1 !=iq.1)) h [0,1,2,3]))
    ·rintro L9 h
     unfold bI.og at h
     refine aP (qi h (fun h=> ?_) (fun h=> ?_))
     ·refine cT [0] (rX ?_)
      cases h
      exact qP []
     ·refine kT (s2 (ao (qf [(0,0),(0,0),(0,0),(0,1),(0,1),(0,0)] (eT (qi h (fun h=> ?_) (fun h=> ?_))))))
      ·refine cT [0] (rX ?_)
       cases h
       exact qP []
      ·refine kT (cR [0,0,0] (bE h fun eo r_ h=>oQ 0 (fun w hm=>Xt.c f0 t1 ie w _ bi (hm.xr dr) rfl bQ (hm.xr dL) rfl Mj (hm.xr I_h) rfl r_) (qh [0,0,0] (oA 0 (fun pU=>tO (pS 0 4 pU 96 1 36 aj (av.dC 96 0) eo.1 an bk (oH [0] (eT (cR [0,0,0] (bE h fun lE ug h=>oC 0 (fun w hm=>FbR.c f0 t1 ie w _ bi (hm.xr dr) rfl bQ (hm.xr dL) rfl Mj (hm.xr I_h) rfl ug) ?_))))))))))
       rintro w v w' hm ⟨WY,kO,ig,_,rfl,DH,se,rfl,bn⟩
       refine aq hm bn (oH [0,0,0,0,0] (eT (cR [0] (tO (pL 0 4 pU 96 1 36 aj eo.1 an (fB (bE h fun eO uu h=>oC 0 (fun w hm=>Mp.c f0 eo.1 w _ bi (hm.xr dr) rfl uu) ?_)))))))
       rintro w v w' hm ⟨lY,li,Ar,_,rfl,ajG,wO,rfl,bn⟩
       refine aq hm bn (oH [0,0,0,0,0] (eT (cR [0] (tO (pL 0 4 pU 96 1 36 aj eo.1 an (fB (bE h fun iI Kz h=>oQ 0 (fun w hm=>Sw.c f0 eo.1 w _ bi (hm.xr dr) rfl Kz) (qh [0,0,0,0,0] (eT (s2 (aK (fun(xH:Bool)=>bI.y9 ia ie aA xH=some r) (fun xH=> [(3,[],(.slice I_a ie.length Mj)),(7,[],(vP fV)),(10,[],(.bool false)),(12,[],(vI aA.2.1)),(13,[],(vI aA.2.2)),(176,[],(.bool xH))]) (fun xH=> [⟨some cD,29,cF f0 bj bi⟩,⟨some fV,46,cC ia⟩,⟨gI,72,row af aA.1 vX⟩,⟨kj,72,row af dj.1 dK⟩,⟨(some pU),36,row aj eo.1.1 []⟩,⟨WY,70,row aF lE.1 ig⟩,⟨lY,70,row aF eO.1 Ar⟩]) ?_ ?_)))))))))))
       ·refine ao (qf [(0,0),(0,0),(0,0),(0,1),(0,1),(0,0),(0,0),(0,1),(0,1),(0,0),(0,0),(0,1),(0,1),(0,0),(0,0),(0,1),(0,1),(0,0),(0,0),(0,1),(0,1)] (qp 171 h (fun h=> ?_) (fun h=> ?_)))
        ·exact qf [(0,3),(0,3),(0,4)] (qe (qm true h [0,1,2,3,4,5,6]))
        ·exact bE h fun uh Ao h=>oQ 2 (fun w hm=>Sx.c eO.1 lE.1 w _ li (hm.ow 6 lY 70 eO.1 Ar (fun e=>(wO e).1) br) rfl kO (hm.ow 5 WY 70 lE.1 ig (fun e=>(se e).1) br) rfl Ao) (qf [(0,2),(0,5)] (qe (qm (!uh) h [0,1,2,3,4,5,6])))
       ·rintro xH h
        unfold bI.y9 at h
        refine aP (qi h (fun h=> ?_) (fun h=> ?_))
        ·refine cT [0] (rX ?_)
         cases h
         exact qP []
        ·refine kT (cR [1,0] (bE h fun jo oO h=>oQ 0 (fun w hm=>Em.c ia ie w _ Mj (hm.xr I_h) rfl oO) (qh [0,0,0,0,0] (eT (ad (ao (qf [(0,0),(0,0),(0,0),(0,1),(0,1),(0,0),(0,0),(0,1),(0,1),(0,1),(0,0),(0,0)] (eT (aI ?_)))))))))
         cases h
         exact qP []
def E2(be:List Int):Option (a6):=some (⟨be,0,0⟩:a6)
theorem E2.c(be:List Int)(w:World)(r:a6){cQ:Option Addr}{ck:Nat}(bX:Nat)(eX:Rw w cQ 1 jS be)(dH:be.length=ck)(h:E2 be=some r):
   Cr 49 #[(.slice cQ ck bX)] w fun v w'=>∃(pb0:Nat),v= .pointer (sB pb0)∧Mem w [] [⟨some pb0,169,[(.slice cQ ck bX),(vI r.dy),(.int .u64 r.bF)]⟩] w':=by
 subst dH
 rw [E2] at h
 refine en Tryz.func49 rfl Tryz.ntmps49 (cT [0] (cR [0,0] (oA 0 (fun cD=>qh [0] (eT (aI ?_))))))
 obtain rfl:=si h
 exact qr [] (fun w hm=>⟨cD,rfl,hm.pk [0]⟩)
def LF.fk(s0:a6)(aR:Int):Option (Int×a6):=(if(decide ((au (s0.dy+1))≤(s0.aJ.length:Int)))=true then some (aR,(⟨s0.aJ,(au (s0.dy+1)),(u64 ((u64 ((u64 (s0.bF*6364136223846793005))+(u64 aR)))+1442695040888963407))⟩:a6)) else some ((au (qH .u64 (eC .u64 (u64 ((u64 ((u64 (s0.bF*6364136223846793005))+(u64 aR)))+1442695040888963407)) 40) 255)),(⟨s0.aJ,(au (s0.dy+1)),(u64 ((u64 ((u64 (s0.bF*6364136223846793005))+(u64 aR)))+1442695040888963407))⟩:a6)))
def LF(s0:a6):Option (Int×a6):=(if(decide (s0.dy<(s0.aJ.length:Int)))=true then(ix s0.aJ s0.dy).bind fun eW=>LF.fk s0 (au eW) else LF.fk s0 0)
theorem LF.c(s0:a6)(w:World)(r:Int×a6){ej:Option Addr}{eY:Nat}(dV:Nat)(fD:Rw w ej 1 jS s0.aJ)(jC:s0.aJ.length=eY)(aH:Nat)(fG:Mem w (bs [some aH]) [⟨some aH,169,[(.slice ej eY dV),(vI s0.dy),(.int .u64 s0.bF)]⟩] w)(dE:s0.aJ≠ []→aB ej∉bs [some aH])(h:LF s0=some r):
   Cq 105 #[(vP aH)] w (vI r.1) (bs [some aH]) [⟨some aH,169,[(.slice ej eY dV),(vI r.2.dy),(.int .u64 r.2.bF)]⟩]:=by
 subst jC
 rw [LF] at h
 refine eN Tryz.func105 rfl Tryz.ntmps105 fG (cT [0] (cT [0] (ad (aK (fun(aR:Int)=>LF.fk s0 aR=some r) (fun aR=> [(0,[],(vP aH)),(2,[],(vI 0)),(3,[],(vI aR))]) (fun aR=> [⟨some aH,169,[(.slice ej s0.aJ.length dV),(vI s0.dy),(.int .u64 s0.bF)]⟩]) ?_ ?_))))
 ·refine ad (qg [⟨some aH,169,[(.slice ej s0.aJ.length dV),(vI s0.dy),(.int .u64 s0.bF)]⟩] 10 (qd [⟨0,0,0⟩,⟨1,0,0⟩,⟨2,0,0⟩,⟨3,0,0⟩,⟨4,0,0⟩,⟨5,0,0⟩,⟨6,0,0⟩,⟨7,0,0⟩,⟨8,0,0⟩,⟨9,0,0⟩] 0 [0] (zT (qi h (fun h=> ?_) (fun h=> ?_)))))
  ·exact qg [⟨some aH,169,[(.slice ej s0.aJ.length dV),(vI s0.dy),(.int .u64 s0.bF)]⟩] 12 (qd [⟨0,0,0⟩,⟨1,0,0⟩,⟨2,0,0⟩,⟨3,0,0⟩,⟨4,0,0⟩,⟨5,0,0⟩,⟨6,0,0⟩,⟨7,0,0⟩] 4 [0] (bE h fun eW jV h=>qX 8 0 [0] ej 1 jV rfl (fD.sp jV) (qL 9 0 [0] false (fun w hm=>(hm.aM fD dE).at jV) (qd [⟨10,0,0⟩,⟨11,0,0⟩] 0 [0] (qz (qm (au eW) h [0]))))))
  ·exact bV (qm 0 h [0])
 ·rintro aR h
  unfold LF.fk at h
  refine aP (cR [0,0,0,0,0,0,0] (oS 0 [0] (eT (cR [0,0,0,0,0,0,0,0,0,0,0,0] (oS 0 [0] (eT (s2 (qg [⟨some aH,169,[(.slice ej s0.aJ.length dV),(vI (au (s0.dy+1))),(.int .u64 (u64 ((u64 ((u64 (s0.bF*6364136223846793005))+(u64 aR)))+1442695040888963407)))]⟩] 10 (qd [⟨0,0,0⟩,⟨1,0,0⟩,⟨2,0,0⟩,⟨3,0,0⟩,⟨4,0,0⟩,⟨5,0,0⟩,⟨6,0,0⟩,⟨7,0,0⟩,⟨8,0,0⟩,⟨9,0,0⟩] 0 [0] (zT (qi h (fun h=> ?_) (fun h=> ?_))))))))))))
  ·refine cT [0,0] (rX ?_)
   cases h
   exact qP [0]
  ·refine kT (cT [0,0,0,0,0,0,0,0] (aI ?_))
   cases h
   exact qP [0]
def Fl.ue(s0:a6)(n1:Int)(cS:Int)(bK:Int)(cK:Int):Option (Int×a6):=(if n1≠0 then some ((Int.tmod cK n1),(⟨s0.aJ,cS,bK⟩:a6)) else none)
def Fl(s0:a6)(n1:Int):Option (Int×a6):=(if(decide (n1≤1))=true then some (0,s0) else(LF s0).bind fun aA=>(if(decide (n1>200))=true then(LF (⟨s0.aJ,aA.2.dy,aA.2.bF⟩:a6)).bind fun bz=>Fl.ue s0 n1 bz.2.dy bz.2.bF (au ((au (aA.1*256))+bz.1)) else Fl.ue s0 n1 aA.2.dy aA.2.bF aA.1))
theorem Fl.c(s0:a6)(n1:Int)(w:World)(r:Int×a6){ej:Option Addr}{eY:Nat}(dV:Nat)(fD:Rw w ej 1 jS s0.aJ)(jC:s0.aJ.length=eY)(aH:Nat)(fG:Mem w (bs [some aH]) [⟨some aH,169,[(.slice ej eY dV),(vI s0.dy),(.int .u64 s0.bF)]⟩] w)(dE:s0.aJ≠ []→aB ej∉bs [some aH])(h:Fl s0 n1=some r):
   Cq 50 #[(vP aH),(vI n1)] w (vI r.1) (bs [some aH]) [⟨some aH,169,[(.slice ej eY dV),(vI r.2.dy),(.int .u64 r.2.bF)]⟩]:=by
 subst jC
 rw [Fl] at h
 refine eN Tryz.func50 rfl Tryz.ntmps50 fG (cT [0] (ad (cT [0,0] (qi h (fun h=> ?_) (fun h=> ?_)))))
 ·refine cT [0] (rX ?_)
  cases h
  exact qP [0]
 ·refine kT (cR [0] (bE h fun aA kN h=>oC 0 (fun w hm=>LF.c s0 w _ dV (hm.aM fD dE) rfl aH (hm.ps [0]) (hm.xp fD dE [0]) kN) ?_))
  rintro w v w' hm ⟨rfl,bn⟩
  refine ⟨_,hm.aW [(0,⟨some aH,169,[(.slice ej s0.aJ.length dV),(vI aA.2.dy),(.int .u64 aA.2.bF)]⟩)] [] bn,oH [0] (eT (ad (aK (fun(j:Int×Int×Int)=>match j with | ⟨cS,bK,cK⟩=>Fl.ue s0 n1 cS bK cK=some r) (fun⟨cS,bK,cK⟩=> [(1,[],(vI n1)),(4,[],(vI 0)),(5,[],(vI cK))]) (fun⟨cS,bK,cK⟩=> [⟨some aH,169,[(.slice ej s0.aJ.length dV),(vI cS),(.int .u64 bK)]⟩]) ?_ ?_)))⟩
  ·refine cT [0,0] (qi h (fun h=> ?_) (fun h=> ?_))
   ·refine cH [0,0,0] (bE h fun bz jf h=>oC 0 (fun w hm=>LF.c (⟨s0.aJ,aA.2.dy,aA.2.bF⟩:a6) w _ dV (hm.aM fD dE) rfl aH (hm.ps [0]) (hm.xp fD dE [0]) jf) ?_)
    rintro w v w' hm ⟨rfl,bn⟩
    exact ⟨_,hm.aW [(0,⟨some aH,169,[(.slice ej s0.aJ.length dV),(vI bz.2.dy),(.int .u64 bz.2.bF)]⟩)] [] bn,oH [0,0] (qe (qm ⟨bz.2.dy,bz.2.bF,(au ((au (aA.1*256))+bz.1))⟩ h [0]))⟩
   ·exact bV (qm ⟨aA.2.dy,aA.2.bF,aA.1⟩ h [0])
  ·rintro⟨cS,bK,cK⟩ h
   unfold Fl.ue at h
   refine aP (cR [0,0] ?_)
   obtain⟨L7,h⟩:=gd h
   refine tO (pM 0 .i64 cK n1 L7 (oH [0] (eT (aI ?_))))
   cases h
   exact qP [0]
def FX.po(s0:a6)(aA:Int×a6)(bK:Int)(gr:Int)(dc:List bq):Option (ae×a6):=some ((⟨(ot (au (4+aA.1))),dc⟩:ae),(⟨s0.aJ,bK,gr⟩:a6))
def FX.kq(s0:a6):(Int×Int×(List bq)×Int)→Option ((Int×Int×(List bq)×Int)⊕((Int×Int×(List bq))))
 | (dW,eE,aL,fC)=>(if(decide (fC>0))=true then(Fl (⟨s0.aJ,dW,eE⟩:a6) 4).bind fun dz=>(Fl (⟨s0.aJ,dz.2.dy,dz.2.bF⟩:a6) 4).bind fun eo=>(if aL.length+([(⟨(w8 (au (22+dz.1))),(w8 (au (1+eo.1)))⟩:bq)]:List bq).length≤4294967296 then some (.inl (eo.2.dy,eo.2.bF,(aL++([(⟨(w8 (au (22+dz.1))),(w8 (au (1+eo.1)))⟩:bq)]:List bq)),(au (fC-1)))) else none) else some (.inr (dW,eE,aL)))
def FX(s0:a6):Option (ae×a6):=(Fl s0 14).bind fun aA=>(Fl (⟨s0.aJ,aA.2.dy,aA.2.bF⟩:a6) 5).bind fun iq=>(loop (FX.kq s0) (iq.2.dy,iq.2.bF,[],(au (1+iq.1)))).bind fun kI=>FX.po s0 aA kI.1 kI.2.1 kI.2.2
theorem FX.c(s0:a6)(w:World)(r:ae×a6){ej:Option Addr}{eY:Nat}(dV:Nat)(fD:Rw w ej 1 jS s0.aJ)(jC:s0.aJ.length=eY)(aH:Nat)(fG:Mem w (bs [some aH]) [⟨some aH,169,[(.slice ej eY dV),(vI s0.dy),(.int .u64 s0.bF)]⟩] w)(dE:s0.aJ≠ []→aB ej∉bs [some aH])(h:FX s0=some r):
   Cr 48 #[(vP aH)] w fun v w'=>∃(o0:Option Nat) (c0:Nat) (s0:List Value) (n0:Nat),r.1.aa.length=n0∧(hS o0 n0 c0 s0 2)∧(hO o0 r.1.aa c0)∧v= .agg #[(vH r.1.ag), .slice (mB o0) n0 c0]∧Mem w (bs [some aH]) [⟨some aH,169,[(.slice ej eY dV),(vI r.2.dy),(.int .u64 r.2.bF)]⟩,⟨o0,68,row ay r.1.aa s0⟩] w':=by
 subst jC
 rw [FX] at h
 refine eN Tryz.func48 rfl Tryz.ntmps48 fG (ad (ao (oA 0 (fun cD=>eT (cR [0] (bE h fun aA mH h=>oC 0 (fun w hm=>Fl.c s0 14 w _ dV (hm.aM fD dE) rfl aH (hm.ps [0]) (hm.xp fD dE [0]) mH) ?_))))))
 rintro w v w' hm ⟨rfl,bn⟩
 refine ⟨_,hm.aW [(0,⟨some aH,169,[(.slice ej s0.aJ.length dV),(vI aA.2.dy),(.int .u64 aA.2.bF)]⟩)] [] bn,oH [0,0,0] (oA 0 (fun fV=>oS 0 [2] (eT (ad (cR [0] (bE h fun iq l8 h=>oC 0 (fun w hm=>Fl.c (⟨s0.aJ,aA.2.dy,aA.2.bF⟩:a6) 5 w _ dV (hm.aM fD dE) rfl aH (hm.ps [0]) (hm.xp fD dE [0]) l8) ?_))))))⟩
 rintro w v w' hm ⟨rfl,bn⟩
 refine ⟨_,hm.aW [(0,⟨some aH,169,[(.slice ej s0.aJ.length dV),(vI iq.2.dy),(.int .u64 iq.2.bF)]⟩)] [] bn,oH [0,0] (eT (aK (fun(j:Int×Int×(List bq)×(Option Nat)×Nat×(List Value)×Nat)=>match j with | ⟨bK,gr,dc,im,mn,eZ,mT⟩=>FX.po s0 aA bK gr dc=some r∧(dc.length=mT)∧(hS im mT mn eZ 2)∧(hO im dc mn)) (fun⟨bK,gr,dc,im,mn,eZ,mT⟩=> [(2,[],(vP cD)),(3,[],(vP fV))]) (fun⟨bK,gr,dc,im,mn,eZ,mT⟩=> [⟨some aH,169,[(.slice ej s0.aJ.length dV),(vI bK),(.int .u64 gr)]⟩,⟨some cD,29,[(vH 0),(.slice none 0 0)]⟩,⟨some fV,29,[(vH (ot (au (4+aA.1)))),(.slice (mB im) mT mn)]⟩,⟨im,68,row ay dc eZ⟩]) ?_ ?_))⟩
 ·refine ap ?_
  obtain⟨kI,ui,af9⟩:=bd h
  refine wA 68 ay (jl (fun(s:Int×Int×(List bq)×Int) (x:(Option Nat)×Nat×(List Value)×Nat)=>match s,x with | ⟨dW,eE,aL,fC⟩,⟨gI,bP,fP,uv⟩=>(aL.length=uv)∧(hS gI uv bP fP 2)∧(hO gI aL bP)) (fun⟨dW,eE,aL,fC⟩ ⟨gI,bP,fP,uv⟩=> [(0,[],(vP aH)),(2,[],(vP cD)),(3,[],(vP fV)),(4,[],(vI fC))]) (fun⟨dW,eE,aL,fC⟩ ⟨gI,bP,fP,uv⟩=> [⟨some aH,169,[(.slice ej s0.aJ.length dV),(vI dW),(.int .u64 eE)]⟩,⟨some cD,29,[(vH 0),(.slice none 0 0)]⟩,⟨some fV,29,[(vH (ot (au (4+aA.1)))),(.slice (mB gI) uv bP)]⟩,⟨gI,68,row ay aL fP⟩]) ui ⟨none,0,[],0⟩ ⟨rfl,(fun e=>absurd rfl e),(fun _=>⟨rfl,rfl⟩)⟩ [0,1,2,3] ?_)
  rintro⟨dW,eE,aL,fC⟩ ⟨gI,bP,fP,uv⟩ ako ⟨rfl,GQ,Jw⟩ h
  rw [FX.kq] at h
  refine ad (cT [0,0] (qi h (fun h=> ?_) (fun h=> ?_)))
  ·refine kT (ad (ap (cR [0] (bE h fun dz wK h=>oC 0 (fun w hm=>Fl.c (⟨s0.aJ,dW,eE⟩:a6) 4 w _ dV (hm.aM fD dE) rfl aH (hm.ps [0]) (hm.xp fD dE [0]) wK) ?_))))
   rintro w v w' hm ⟨rfl,bn⟩
   refine ⟨_,hm.aW [(0,⟨some aH,169,[(.slice ej s0.aJ.length dV),(vI dz.2.dy),(.int .u64 dz.2.bF)]⟩)] [] bn,oH [0,0,0] (oA 0 (fun Kb=>oS 0 [4] (eT (cR [0] (bE h fun eo r_ h=>oC 0 (fun w hm=>Fl.c (⟨s0.aJ,dz.2.dy,dz.2.bF⟩:a6) 4 w _ dV (hm.aM fD dE) rfl aH (hm.ps [0]) (hm.xp fD dE [0]) r_) ?_)))))⟩
   rintro w v w' hm ⟨rfl,bn⟩
   refine ⟨_,hm.aW [(0,⟨some aH,169,[(.slice ej s0.aJ.length dV),(vI eo.2.dy),(.int .u64 eo.2.bF)]⟩)] [] bn,oH [0,0,0] (oS 0 [4] (eT (cH [0,2,4] (oA 0 (fun Cj=>?_)))))⟩
   obtain⟨KP,h⟩:=gd h
   exact tO (pA 0 3 gI 68 aL.length 1 bP 2 2 (sB Cj) ay aL ([(⟨(w8 (au (22+dz.1))),(w8 (au (1+eo.1)))⟩:bq)]:List bq) fP (.agg #[(vB 0),(vB 0)]) rfl rfl cW kv GQ Jw (fun w hm=>(hm.ow 5 (some Cj) 68 ([(⟨(w8 (au (22+dz.1))),(w8 (au (1+eo.1)))⟩:bq)]:List bq) [] (fun e=>nomatch e) cW)) KP (fun adl tH jz Ac wO=>oH [0] (oS 0 [2] (qe (nT (cH [0,0,0] (qe (qb (eo.2.dy,eo.2.bF,(aL++([(⟨(w8 (au (22+dz.1))),(w8 (au (1+eo.1)))⟩:bq)]:List bq)),(au (fC-1))) ⟨adl,tH,jz,(aL++([(⟨(w8 (au (22+dz.1))),(w8 (au (1+eo.1)))⟩:bq)]:List bq)).length⟩ h ⟨rfl,Ac,wO⟩ [0,1,2,3]))))))))
  ·exact lX (dW,eE,aL) h (fun e=>by subst e;exact bo (qm ⟨dW,eE,aL,gI,bP,fP,aL.length⟩ ⟨af9,rfl,GQ,Jw⟩ [0,1,2,3]))
 ·rintro⟨bK,gr,dc,im,mn,eZ,mT⟩ ⟨h,rfl,Ap,Aq⟩
  unfold FX.po at h
  refine aP (cR [2] (oS 0 [1] (eT (aI ?_))))
  obtain rfl:=si h
  exact qr [1] (fun w hm=>⟨im,mn,eZ,dc.length,rfl,Ap,Aq,rfl,hm.pk [0,3]⟩)
def Fb6(be:List Int):Option (ae):=(E2 be).bind fun bz=>(FX (⟨be,bz.dy,bz.bF⟩:a6)).bind fun aA=>some aA.1
theorem Fb6.c(be:List Int)(w:World)(r:ae){cQ:Option Addr}{ck:Nat}(bX:Nat)(eX:Rw w cQ 1 jS be)(dH:be.length=ck)(h:Fb6 be=some r):
   Cr 14 #[(.slice cQ ck bX)] w fun v w'=>∃(o0:Option Nat) (c0:Nat) (s0:List Value) (n0:Nat),r.aa.length=n0∧(hS o0 n0 c0 s0 2)∧(hO o0 r.aa c0)∧v= .agg #[(vH r.ag), .slice (mB o0) n0 c0]∧Mem w [] [⟨o0,68,row ay r.aa s0⟩] w':=by
 subst dH
 rw [Fb6] at h
 refine en Tryz.func14 rfl Tryz.ntmps14 (ad (ao (oA 0 (fun fa=>eT (cR [0] (bE h fun bz gv h=>oC 0 (fun w hm=>E2.c be w _ bX (hm.xr eX) rfl gv) ?_))))))
 rintro w v w' hm ⟨fV,rfl,bn⟩
 refine aq hm bn (fB (bE h fun aA jf h=>oC 0 (fun w hm=>FX.c (⟨be,bz.dy,bz.bF⟩:a6) w _ bX (hm.xr eX) rfl fV (hm.ps [1]) (hm.xp eX (fun _=>cq) [1]) jf) ?_))
 rintro w v w' hm ⟨kM,gK,A_,_,rfl,Pz,oV,rfl,bn⟩
 refine ⟨_,hm.aW [(1,⟨some fV,169,[(.slice cQ be.length bX),(vI aA.2.dy),(.int .u64 aA.2.bF)]⟩)] [⟨kM,68,row ay aA.1.aa A_⟩] bn,fB (oS 0 [0] (eT (aI ?_)))⟩
 obtain rfl:=si h
 exact qr [0] (fun w hm=>⟨kM,gK,A_,aA.1.aa.length,rfl,Pz,oV,rfl,hm.pk [2]⟩)
def Fw.fk(fX:List ai):Option ((List ai)):=some fX
def Fw.og(ci:List ai)(aZ:List ai)(bK:Int)(bB:Int):Option (((List ai)×Int)⊕((List ai))):=(if 0≤bB∧bB≤(aZ.length:Int) then(if([]:List ai).length+(aZ.drop bB.toNat).length≤4294967296 then(if 0≤bB∧bB≤(aZ.length:Int) then(ix ci bK).bind fun LD=>(if bB.toNat+([LD]:List ai).length≤4294967296 then(if(aZ.take bB.toNat++([LD]:List ai)).length+(([]:List ai)++(aZ.drop bB.toNat)).length≤4294967296 then some (.inl (((aZ.take bB.toNat++([LD]:List ai))++(([]:List ai)++(aZ.drop bB.toNat))),(au (bK+1)))) else none) else none) else none) else none) else none)
def Fw.u6(ci:List ai)(aZ:List ai)(bK:Int)(bB:Int):Option (((List ai)×Int)⊕((List ai))):=(if(decide (bB<(aZ.length:Int)))=true then(ix aZ bB).bind fun p8=>(ix ci bK).bind fun sw=>(if((p8.cd==sw.cd)&&(p8.aD==sw.aD))=true then some (.inl (aZ,(au (bK+1)))) else Fw.og ci aZ bK bB) else Fw.og ci aZ bK bB)
def Fw.p7(ci:List ai)(aZ:List ai)(bK:Int):Int→Option ((Int)⊕(Int))
 | cS=>(if(decide (cS<(aZ.length:Int)))=true then(ix aZ cS).bind fun rI=>(ix ci bK).bind fun PF=>(Ww rI PF).bind fun mj=>(if mj=true then some (.inl (au (cS+1))) else some (.inr cS)) else some (.inr cS))
def Fw.fY(ci:List ai):((List ai)×Int)→Option (((List ai)×Int)⊕((List ai)))
 | (aZ,bK)=>(if(decide (bK<(ci.length:Int)))=true then(loop (Fw.p7 ci aZ bK) 0).bind fun qM=>Fw.u6 ci aZ bK qM else some (.inr aZ))
def Fw(ci:List ai):Option ((List ai)):=(loop (Fw.fY ci) (([]:List ai),0)).bind fun sn=>Fw.fk sn
theorem Fw.c(ci:List ai)(w:World)(r:(List ai)){cQ:Option Addr}{ck:Nat}(bX:Nat)(eX:Rw w cQ 2 aF ci)(dH:ci.length=ck)(h:Fw ci=some r):
   Cr 51 #[(.slice cQ ck bX)] w fun v w'=>∃(o0:Option Nat) (c0:Nat) (s0:List Value) (n0:Nat),r.length=n0∧(hS o0 n0 c0 s0 2)∧(hO o0 r c0)∧v= .slice (mB o0) n0 c0∧Mem w [] [⟨o0,70,row aF r s0⟩] w':=by
 subst dH
 rw [Fw] at h
 refine en Tryz.func51 rfl Tryz.ntmps51 (cT [0] (ad (ao (oA 0 (fun rO=>qh [0] (eT (ad (cT [0] (aK (fun(j:(List ai)×(Option Nat)×Nat×(List Value)×Nat)=>match j with | ⟨fX,jc,et,eV,uj⟩=>Fw.fk fX=some r∧(fX.length=uj)∧(hS jc uj et eV 2)∧(hO jc fX et)) (fun⟨fX,jc,et,eV,uj⟩=> [(2,[],(.slice none 0 0)),(3,[],(.slice (mB jc) uj et))]) (fun⟨fX,jc,et,eV,uj⟩=> [⟨jc,70,row aF fX eV⟩]) ?_ ?_)))))))))
 ·refine ap ?_
  obtain⟨sn,qO,vr⟩:=bd h
  refine jl (fun(s:(List ai)×Int) (x:(Option Nat)×Nat×(List Value)×Nat)=>match s,x with | ⟨aZ,bK⟩,⟨kM,fH,l9,pJ⟩=>(aZ.length=pJ)∧(hS kM pJ fH l9 2)∧(hO kM aZ fH)) (fun⟨aZ,bK⟩ ⟨kM,fH,l9,pJ⟩=> [(0,[],(.slice cQ ci.length bX)),(2,[],(.slice none 0 0)),(3,[],(.slice (mB kM) pJ fH)),(4,[],(vI bK))]) (fun⟨aZ,bK⟩ ⟨kM,fH,l9,pJ⟩=> [⟨kM,70,row aF aZ l9⟩]) qO ⟨(some rO),0,[],0⟩ ⟨rfl,(fun _=>⟨bt _,by simp⟩),(fun e=>nomatch e)⟩ [0] ?_
  rintro⟨aZ,bK⟩ ⟨kM,fH,l9,pJ⟩ aad ⟨rfl,Ag,lq⟩ h
  rw [Fw.fY] at h
  refine ad (cT [0,0,0,0] (qi h (fun h=> ?_) (fun h=> ?_)))
  ·refine kT (ad (ap (cT [0] (ad (aK (fun(bB:Int)=>Fw.u6 ci aZ bK bB=some aad) (fun bB=> [(0,[],(.slice cQ ci.length bX)),(2,[],(.slice none 0 0)),(3,[],(.slice (mB kM) aZ.length fH)),(4,[],(vI bK)),(5,[],(vI bB))]) (fun bB=> [⟨kM,70,row aF aZ l9⟩]) ?_ ?_)))))
   ·refine ap ?_
    obtain⟨qM,oT,Zf⟩:=bd h
    refine jl (fun(cS:Int) (_:Unit)=>True) (fun cS _=> [(0,[],(.slice cQ ci.length bX)),(2,[],(.slice none 0 0)),(3,[],(.slice (mB kM) aZ.length fH)),(4,[],(vI bK)),(5,[],(vI cS))]) (fun cS _=> [⟨kM,70,row aF aZ l9⟩]) oT () trivial [0] ?_
    rintro cS _ akp _ h
    rw [Fw.p7] at h
    refine s2 (qg [⟨kM,70,row aF aZ l9⟩] 15 (qd [⟨0,0,0⟩,⟨1,0,0⟩,⟨2,0,0⟩,⟨3,0,0⟩,⟨4,0,0⟩,⟨5,0,1⟩,⟨6,0,1⟩,⟨9,0,1⟩,⟨10,0,1⟩] 6 [0] (js 18 (decide (cS<(aZ.length:Int))) (fun T6=> ?_) (fun T6=> ?_))))
    ·replace h:=yi T6 h
     refine bE h fun rI oU h=>qX 7 2 [0] (mB kM) 2 oU rfl (nl lq oU) (qL 8 2 [0] true (aX 0 kM 70 aZ l9 lq br oU) (bE h fun PF T7 h=>qX 11 2 [0] cQ 2 T7 rfl (eX.sp T7) (qL 12 2 [0] true (fun w hm=>(hm.xr eX).at T7) (bE h fun mj sg h=>dQ 13 2 (fun w hm=>Ww.c rI PF w _ sg) [0] (qd [⟨14,0,4⟩] 0 [0] (zT (qi h (fun h=> ?_) (fun h=> ?_))))))))
     ·exact kT (ap (cH [0,0,0] (qe (nf (qb (au (cS+1)) () h trivial [0])))))
     ·exact lX cS h (fun e=>by subst e;exact bo (qm cS Zf [0]))
    ·replace h:=yj T6 h
     refine qd [⟨7,0,3⟩,⟨8,0,3⟩,⟨11,0,3⟩,⟨12,0,3⟩,⟨13,0,3⟩,⟨14,0,5⟩] 0 [0] (zT (jq false (fun Zg=>nomatch Zg) (fun Zg=>(lP (ib (wz cS (sj h) (fun aiH=> ?_)))))))
     subst aiH
     exact bo (qm cS Zf [0])
   ·rintro bB h
    unfold Fw.u6 at h
    refine aP (ad (aK (fun(_:Unit)=>Fw.og ci aZ bK bB=some aad) (fun(_:Unit)=> [(0,[],(.slice cQ ci.length bX)),(2,[],(.slice none 0 0)),(3,[],(.slice (mB kM) aZ.length fH)),(4,[],(vI bK)),(5,[],(vI bB))]) (fun(_:Unit)=> [⟨kM,70,row aF aZ l9⟩]) ?_ ?_))
    ·refine ad (qg [⟨kM,70,row aF aZ l9⟩] 15 (qd [⟨0,0,0⟩,⟨1,0,0⟩,⟨2,0,0⟩,⟨3,0,0⟩,⟨4,0,0⟩,⟨5,0,1⟩,⟨6,0,1⟩,⟨9,0,1⟩,⟨10,0,1⟩] 6 [0] (js 35 (decide (bB<(aZ.length:Int))) (fun T8=> ?_) (fun T8=> ?_))))
     ·replace h:=yi T8 h
      refine bE h fun p8 xd h=>qX 7 2 [0] (mB kM) 2 xd rfl (nl lq xd) (qL 8 2 [0] true (aX 0 kM 70 aZ l9 lq br xd) (bE h fun sw En h=>qX 11 2 [0] cQ 2 En rfl (eX.sp En) (qL 12 2 [0] true (fun w hm=>(hm.xr eX).at En) (qd [⟨13,0,2⟩,⟨14,0,4⟩] 0 [0] (zT (qi h (fun h=> ?_) (fun h=> ?_)))))))
      ·exact lP (ib (ib (bo (aP (cH [0,0,0] (qe (qb (aZ,(au (bK+1))) ⟨kM,fH,l9,aZ.length⟩ h ⟨rfl,Ag,lq⟩ [0])))))))
      ·exact bV (qm () h [0])
     ·replace h:=yj T8 h
      exact qd [⟨7,0,3⟩,⟨8,0,3⟩,⟨11,0,3⟩,⟨12,0,3⟩,⟨13,0,3⟩,⟨14,0,5⟩] 0 [0] (zT (jq false (fun Zh=>nomatch Zh) (fun Zh=>(bV (qm () h [0])))))
    ·rintro _ h
     unfold Fw.og at h
     refine aP (ad (ao (oA 0 (fun WS=>qh [0,0] ?_))))
     obtain⟨Oh,h⟩:=gd h
     refine tO (pK 0 (mB kM) aZ.length fH 2 bB Oh.1 (Int.le_trans Oh.2 (Int.ofNat_le.2 (Nat.le_of_eq rfl))) (fB ?_))
     obtain⟨T9,h⟩:=gd h
     refine tO (pA 0 1 (some WS) 70 0 (aZ.length-bB.toNat) 0 2 4 (pa (mB kM) bB.toNat fH 2) aF ([]:List ai) (aZ.drop bB.toNat) [] (.agg #[(vH 0),(vB 0)]) rfl (wD rfl bB) br iZ (fun _=>⟨bt _,by simp⟩) (fun e=>nomatch e) (fun w hm=>((hm.ow 0 kM 70 aZ l9 (fun e=>(lq e).1) br).tl bB.toNat fH (yR rfl Ag lq))) T9 (fun tB aiI Zi adr nX=>oH [0] (eT (qg [⟨tB,70,row aF (([]:List ai)++(aZ.drop bB.toNat)) Zi⟩] 12 (qd [⟨0,0,0⟩,⟨1,0,0⟩,⟨3,0,0⟩,⟨4,0,0⟩,⟨9,0,0⟩] 7 [1] ?_)))))
     obtain⟨KP,h⟩:=gd h
     refine qv 2 0 [1] (fun w hm=>N3 (a:=(mB kM)) (len:=aZ.length) (cap:=fH) (size:=2) (h:=bB) (by kernel_rfl) KP.1 (Int.le_trans KP.2 (Int.ofNat_le.2 (yR rfl Ag lq)))) (bE h fun LD DK h=>qX 5 0 [1] cQ 2 DK rfl (eX.sp DK) (qL 6 0 [1] true (fun w hm=>(hm.xr eX).at DK) (tD 7 (qa 0 (fun Kb=>kD [1] ?_)))))
     obtain⟨aga,h⟩:=gd h
     refine tD 8 (acx 0 0 kM 70 bB.toNat aZ.length 1 fH 2 4 (sB Kb) aF aZ ([LD]:List ai) l9 (.agg #[(vH 0),(vB 0)]) (show bB.toNat≤aZ.length by have:=KP;omega) rfl rfl (by kernel_rfl) (by kernel_rfl) (by kernel_rfl) br iZ Ag lq (fun w hm=>(hm.ow 2 (some Kb) 70 ([LD]:List ai) [] (fun e=>nomatch e) br)) aga (by kernel_rfl) (by kernel_rfl) (fun aiJ abl agb agc vx=>kD [1] ?_))
     obtain⟨RY,h⟩:=gd h
     exact tD 10 (pA 0 0 aiJ 70 ((aZ.take bB.toNat++([LD]:List ai)).length) ((([]:List ai)++(aZ.drop bB.toNat)).length) abl 2 4 (mB tB) aF (aZ.take bB.toNat++([LD]:List ai)) (([]:List ai)++(aZ.drop bB.toNat)) agb (.agg #[(vH 0),(vB 0)]) rfl rfl br iZ agc vx (fun w hm=>(hm.ow 1 tB 70 (([]:List ai)++(aZ.drop bB.toNat)) Zi (fun e=>(nX e).1) br)) RY (fun aav Mm RZ BK BL=>kD [1] (qd [⟨11,0,0⟩] 0 [1] (qz (nT (cH [0,0,0] (qe (qb (((aZ.take bB.toNat++([LD]:List ai))++(([]:List ai)++(aZ.drop bB.toNat))),(au (bK+1))) ⟨aav,Mm,RZ,((aZ.take bB.toNat++([LD]:List ai))++(([]:List ai)++(aZ.drop bB.toNat))).length⟩ h ⟨rfl,BK,BL⟩ [0]))))))))
  ·exact lX aZ h (fun e=>by subst e;exact bo (qm ⟨aZ,kM,fH,l9,aZ.length⟩ ⟨vr,rfl,Ag,lq⟩ [0]))
 ·rintro⟨fX,jc,et,eV,uj⟩ ⟨h,rfl,JZ,Dx⟩
  unfold Fw.fk at h
  refine aP (cT [0,0] (aI ?_))
  obtain rfl:=si h
  exact qr [] (fun w hm=>⟨jc,et,eV,fX.length,rfl,JZ,Dx,rfl,hm.pk [0]⟩)
def I_.po(aZ:List ai)(dW:Int)(jb:Int):Option ((List ai)):=(Fw aZ).bind fun w9=>some w9
def I_.jX(be:List Int)(f1:ae):((List ai)×Int×Int×Int)→Option (((List ai)×Int×Int×Int)⊕(((List ai)×Int×Int)))
 | (aL,cK,cS,fR)=>(if(decide (fR>0))=true then(Fl (⟨be,cK,cS⟩:a6) (f1.aa.length:Int)).bind fun lE=>(ix f1.aa lE.1).bind fun vR=>(Fl (⟨be,lE.2.dy,lE.2.bF⟩:a6) (au f1.ag)).bind fun dj=>(if aL.length+([(⟨(ot dj.1),vR.aD⟩:ai)]:List ai).length≤4294967296 then some (.inl ((aL++([(⟨(ot dj.1),vR.aD⟩:ai)]:List ai)),dj.2.dy,dj.2.bF,(au (fR-1)))) else none) else some (.inr (aL,cK,cS)))
def I_(be:List Int)(f1:ae)(KQ:Int):Option ((List ai)):=(E2 be).bind fun gu=>(Fl (⟨be,gu.dy,gu.bF⟩:a6) (au (KQ+1))).bind fun eO=>(loop (I_.jX be f1) (([]:List ai),eO.2.dy,eO.2.bF,eO.1)).bind fun j7=>I_.po j7.1 j7.2.1 j7.2.2
theorem I_.c(be:List Int)(f1:ae)(KQ:Int)(w:World)(r:(List ai)){cQ:Option Addr}{ck:Nat}(bX:Nat)(eX:Rw w cQ 1 jS be)(dH:be.length=ck){bL:Option Addr}{bG:Nat}(bQ:Nat)(dL:Rw w bL 2 ay f1.aa)(dU:f1.aa.length=bG)(h:I_ be f1 KQ=some r):
   Cr 15 #[(.slice cQ ck bX),(.agg #[(vH f1.ag),(.slice bL bG bQ)]),(vI KQ)] w fun v w'=>∃(o0:Option Nat) (c0:Nat) (s0:List Value) (n0:Nat),r.length=n0∧(hS o0 n0 c0 s0 2)∧(hO o0 r c0)∧v= .slice (mB o0) n0 c0∧Mem w [] [⟨o0,70,row aF r s0⟩] w':=by
 subst dH dU
 rw [I_] at h
 refine en Tryz.func15 rfl Tryz.ntmps15 (ad (ao (oA 0 (fun qu=>qh [0] (eT (cR [0] (bE h fun gu mF h=>oC 0 (fun w hm=>E2.c be w _ bX (hm.xr eX) rfl mF) ?_)))))))
 rintro w v w' hm ⟨cD,rfl,bn⟩
 refine aq hm bn (oH [0] (eT (ad (ao (oA 0 (fun ur=>qh [0] (eT (ad (cR [0,0,0] (bE h fun eO wK h=>oC 0 (fun w hm=>Fl.c (⟨be,gu.dy,gu.bF⟩:a6) (au (KQ+1)) w _ bX (hm.xr eX) rfl cD (hm.ps [1]) (hm.xp eX (fun _=>cq) [1]) wK) ?_))))))))))
 rintro w v w' hm ⟨rfl,bn⟩
 refine ⟨_,hm.aW [(1,⟨some cD,169,[(.slice cQ be.length bX),(vI eO.2.dy),(.int .u64 eO.2.bF)]⟩)] [] bn,oH [0] (eT (aK (fun(j:(List ai)×Int×Int×(Option Nat)×Nat×(List Value)×Nat)=>match j with | ⟨aZ,dW,jb,fj,ct,fQ,uv⟩=>I_.po aZ dW jb=some r∧(aZ.length=uv)∧(hS fj uv ct fQ 2)∧(hO fj aZ ct)) (fun⟨aZ,dW,jb,fj,ct,fQ,uv⟩=> [(6,[],(.slice none 0 0)),(8,[],(.slice (mB fj) uv ct))]) (fun⟨aZ,dW,jb,fj,ct,fQ,uv⟩=> [⟨some qu,29,cF f1 bL bQ⟩,⟨some cD,169,[(.slice cQ be.length bX),(vI dW),(.int .u64 jb)]⟩,⟨fj,70,row aF aZ fQ⟩]) ?_ ?_))⟩
 ·refine ap ?_
  obtain⟨j7,r_,Ek⟩:=bd h
  refine jl (fun(s:(List ai)×Int×Int×Int) (x:(Option Nat)×Nat×(List Value)×Nat)=>match s,x with | ⟨aL,cK,cS,fR⟩,⟨kj,cu,eZ,pY⟩=>(aL.length=pY)∧(hS kj pY cu eZ 2)∧(hO kj aL cu)) (fun⟨aL,cK,cS,fR⟩ ⟨kj,cu,eZ,pY⟩=> [(4,[],(vP qu)),(6,[],(.slice none 0 0)),(7,[],(vP cD)),(8,[],(.slice (mB kj) pY cu)),(9,[],(vI fR))]) (fun⟨aL,cK,cS,fR⟩ ⟨kj,cu,eZ,pY⟩=> [⟨some qu,29,cF f1 bL bQ⟩,⟨some cD,169,[(.slice cQ be.length bX),(vI cK),(.int .u64 cS)]⟩,⟨kj,70,row aF aL eZ⟩]) r_ ⟨(some ur),0,[],0⟩ ⟨rfl,(fun _=>⟨bt _,by simp⟩),(fun e=>nomatch e)⟩ [0,1,2] ?_
  rintro⟨aL,cK,cS,fR⟩ ⟨kj,cu,eZ,pY⟩ air ⟨rfl,T_,uz⟩ h
  rw [I_.jX] at h
  refine ad (cT [0,0] (qi h (fun h=> ?_) (fun h=> ?_)))
  ·refine kT (ad (ap (cR [0,0,0,0] (bE h fun lE zX h=>oC 0 (fun w hm=>Fl.c (⟨be,cK,cS⟩:a6) (f1.aa.length:Int) w _ bX (hm.xr eX) rfl cD (hm.ps [1]) (hm.xp eX (fun _=>cq) [1]) zX) ?_))))
   rintro w v w' hm ⟨rfl,bn⟩
   refine ⟨_,hm.aW [(1,⟨some cD,169,[(.slice cQ be.length bX),(vI lE.2.dy),(.int .u64 lE.2.bF)]⟩)] [] bn,oH [0] (eT (qg [⟨some qu,29,cF f1 bL bQ⟩] 17 (qd [⟨0,0,0⟩,⟨1,0,0⟩,⟨2,0,0⟩,⟨3,0,0⟩,⟨4,0,0⟩,⟨7,0,0⟩,⟨8,0,0⟩,⟨9,0,0⟩] 9 [0] (bE h fun vR oU h=>qX 10 0 [0] bL 2 oU rfl (dL.sp oU) (qd [⟨11,0,0⟩] 7 [0] (qL 12 0 [0] false (fun w hm=>((hm.xr dL).at oU).sub 0 1) (bE h fun dj Du h=>tD 5 (pc 0 (fun w hm=>Fl.c (⟨be,lE.2.dy,lE.2.bF⟩:a6) (au f1.ag) w _ bX (hm.xr eX) rfl cD (hm.ps [1]) (hm.xp eX (fun _=>cq) [1]) Du) ?_))))))))⟩
   rintro w v w' hm ⟨rfl,bn⟩
   refine ⟨_,hm.aW [(1,⟨some cD,169,[(.slice cQ be.length bX),(vI dj.2.dy),(.int .u64 dj.2.bF)]⟩)] [] bn,kD [0] (qd [⟨6,0,0⟩,⟨13,0,0⟩] 3 [0] (tD 14 (qa 0 (fun vM=>kD [0] ?_))))⟩
   obtain⟨agd,h⟩:=gd h
   exact tD 15 (pA 0 2 kj 70 aL.length 1 cu 2 4 (sB vM) aF aL ([(⟨(ot dj.1),vR.aD⟩:ai)]:List ai) eZ (.agg #[(vH 0),(vB 0)]) rfl rfl br iZ T_ uz (fun w hm=>(hm.ow 3 (some vM) 70 ([(⟨(ot dj.1),vR.aD⟩:ai)]:List ai) [] (fun e=>nomatch e) br)) agd (fun aiK abm uE Ap Aq=>kD [0] (qd [⟨16,0,0⟩] 0 [0] (qz (nT (cH [0,0,0] (qe (qb ((aL++([(⟨(ot dj.1),vR.aD⟩:ai)]:List ai)),dj.2.dy,dj.2.bF,(au (fR-1))) ⟨aiK,abm,uE,(aL++([(⟨(ot dj.1),vR.aD⟩:ai)]:List ai)).length⟩ h ⟨rfl,Ap,Aq⟩ [0,1,2]))))))))
  ·exact lX (aL,cK,cS) h (fun e=>by subst e;exact bo (qm ⟨aL,cK,cS,kj,cu,eZ,aL.length⟩ ⟨Ek,rfl,T_,uz⟩ [0,1,2]))
 ·rintro⟨aZ,dW,jb,fj,ct,fQ,uv⟩ ⟨h,rfl,to,vq⟩
  unfold I_.po at h
  refine aP (cR [0] (bE h fun w9 qO h=>oC 0 (fun w hm=>Fw.c aZ w _ ct (hm.ow 2 fj 70 aZ fQ (fun e=>(vq e).1) br) rfl qO) ?_))
  rintro w v w' hm ⟨ux,tJ,Oi,_,rfl,vt,nW,rfl,bn⟩
  refine aq hm bn (oH [0] (eT (aI ?_)))
  obtain rfl:=si h
  exact qr [] (fun w hm=>⟨ux,tJ,Oi,w9.length,rfl,vt,nW,rfl,hm.pk [3]⟩)
def FbZ(s0:a6)(n1:Int):Option (Bool×a6):=(Fl s0 n1).bind fun aA=>some ((aA.1==0),(⟨s0.aJ,aA.2.dy,aA.2.bF⟩:a6))
theorem FbZ.c(s0:a6)(n1:Int)(w:World)(r:Bool×a6){ej:Option Addr}{eY:Nat}(dV:Nat)(fD:Rw w ej 1 jS s0.aJ)(jC:s0.aJ.length=eY)(aH:Nat)(fG:Mem w (bs [some aH]) [⟨some aH,169,[(.slice ej eY dV),(vI s0.dy),(.int .u64 s0.bF)]⟩] w)(dE:s0.aJ≠ []→aB ej∉bs [some aH])(h:FbZ s0 n1=some r):
   Cq 107 #[(vP aH),(vI n1)] w (.bool r.1) (bs [some aH]) [⟨some aH,169,[(.slice ej eY dV),(vI r.2.dy),(.int .u64 r.2.bF)]⟩]:=by
 subst jC
 rw [FbZ] at h
 refine eN Tryz.func107 rfl Tryz.ntmps107 fG (cT [0] (cR [0,0] (bE h fun aA gv h=>oC 0 (fun w hm=>Fl.c s0 n1 w _ dV (hm.aM fD dE) rfl aH (hm.ps [0]) (hm.xp fD dE [0]) gv) ?_)))
 rintro w v w' hm ⟨rfl,bn⟩
 refine ⟨_,hm.aW [(0,⟨some aH,169,[(.slice ej s0.aJ.length dV),(vI aA.2.dy),(.int .u64 aA.2.bF)]⟩)] [] bn,oH [0,0] (eT (aI ?_))⟩
 cases h
 exact qP [0]
def F1.po(s0:a6)(E3:av 96 Int)(gr:Int)(fC:Int):Option ((av 96 Int)×a6):=some (E3,(⟨s0.aJ,gr,fC⟩:a6))
def F1.uI(gJ:av 96 Int)(ew:Int)(eo:Int×a6)(bz:Int×a6)(mz:Bool):Option (((av 96 Int)×Int×Int×Int)⊕(((av 96 Int)×Int×Int))):=(if mz=true then(ix gJ.1 eo.1).bind fun oj=>(if 0≤(u64 bz.1) then(ix gJ.1 eo.1).bind fun sw=>some (.inl ((av.set gJ eo.1 (wC .u32 oj (fo .u32 1 (u64 bz.1)))),bz.2.dy,bz.2.bF,(au (ew-1)))) else none) else some (.inl (gJ,bz.2.dy,bz.2.bF,(au (ew-1)))))
def F1.kq(s0:a6)(f1:ae)(dj:Bool×a6):((av 96 Int)×Int×Int×Int)→Option (((av 96 Int)×Int×Int×Int)⊕(((av 96 Int)×Int×Int)))
 | (gJ,eE,fR,ew)=>(if(decide (ew>0))=true then(Fl (⟨s0.aJ,eE,fR⟩:a6) (au f1.ag)).bind fun eo=>(Fl (⟨s0.aJ,eo.2.dy,eo.2.bF⟩:a6) (f1.aa.length:Int)).bind fun bz=>(if dj.1=true then F1.uI gJ ew eo bz true else(F2 f1 gJ eo.1 bz.1).bind fun kY=>F1.uI gJ ew eo bz kY) else some (.inr (gJ,eE,fR)))
def F1(s0:a6)(f1:ae):Option ((av 96 Int)×a6):=(FbZ s0 4).bind fun dj=>(Fl (⟨s0.aJ,dj.2.dy,dj.2.bF⟩:a6) 12).bind fun dz=>(loop (F1.kq s0 f1 dj) ((av.dC 96 0),dz.2.dy,dz.2.bF,dz.1)).bind fun lj=>F1.po s0 lj.1 lj.2.1 lj.2.2
theorem F1.c(s0:a6)(f1:ae)(w:World)(r:(av 96 Int)×a6){ej:Option Addr}{eY:Nat}(dV:Nat)(fD:Rw w ej 1 jS s0.aJ)(jC:s0.aJ.length=eY){G1:Option Addr}{Mi:Nat}(Ah:Nat)(G_h:Rw w G1 2 ay f1.aa)(Mg:f1.aa.length=Mi)(aH:Nat)(dY:Nat)(fG:Mem w (bs [some aH,some dY]) [⟨some aH,169,[(.slice ej eY dV),(vI s0.dy),(.int .u64 s0.bF)]⟩,⟨some dY,29,cG f1 G1 Mi Ah⟩] w)(dE:s0.aJ≠ []→aB ej∉bs [some aH,some dY])(RV:f1.aa≠ []→aB G1∉bs [some aH,some dY])(h:F1 s0 f1=some r):
   Cq 52 #[(vP aH),(vP dY)] w (.agg (row aj r.1.1 []).toArray) (bs [some aH,some dY]) [⟨some aH,169,[(.slice ej eY dV),(vI r.2.dy),(.int .u64 r.2.bF)]⟩,⟨some dY,29,cG f1 G1 Mi Ah⟩]:=by
 subst jC Mg
 rw [F1] at h
 refine eN Tryz.func52 rfl Tryz.ntmps52 fG (ad (ao (oA 0 (fun fV=>eT (cR [0] (oA 0 (fun gC=>tO (pS 0 3 gC 96 1 36 aj (av.dC 96 0) (av.dC 96 0) an bk (fB (eT (cR [0] (bE h fun dj km h=>oC 0 (fun w hm=>FbZ.c s0 4 w _ dV (hm.aM fD dE) rfl aH (hm.ps [0]) (hm.xp fD dE [0]) km) ?_))))))))))))
 rintro w v w' hm ⟨rfl,bn⟩
 refine ⟨_,hm.aW [(0,⟨some aH,169,[(.slice ej s0.aJ.length dV),(vI dj.2.dy),(.int .u64 dj.2.bF)]⟩)] [] bn,oH [0] (eT (ad (cR [0] (bE h fun dz Ad h=>oC 0 (fun w hm=>Fl.c (⟨s0.aJ,dj.2.dy,dj.2.bF⟩:a6) 12 w _ dV (hm.aM fD dE) rfl aH (hm.ps [0]) (hm.xp fD dE [0]) Ad) ?_))))⟩
 rintro w v w' hm ⟨rfl,bn⟩
 refine ⟨_,hm.aW [(0,⟨some aH,169,[(.slice ej s0.aJ.length dV),(vI dz.2.dy),(.int .u64 dz.2.bF)]⟩)] [] bn,oH [0] (eT (aK (fun(j:(av 96 Int)×Int×Int)=>match j with | ⟨E3,gr,fC⟩=>F1.po s0 E3 gr fC=some r) (fun⟨E3,gr,fC⟩=> [(4,[],(vP fV)),(5,[],(vP gC))]) (fun⟨E3,gr,fC⟩=> [⟨some aH,169,[(.slice ej s0.aJ.length dV),(vI gr),(.int .u64 fC)]⟩,⟨some dY,29,cF f1 G1 Ah⟩,⟨(some fV),36,row aj ((av.dC 96 0).1) []⟩,⟨(some gC),36,row aj E3.1 []⟩]) ?_ ?_))⟩
 ·refine ap ?_
  obtain⟨lj,qJ,Jv⟩:=bd h
  refine jl (fun(s:(av 96 Int)×Int×Int×Int) (x:Unit)=>match s,x with | ⟨gJ,eE,fR,ew⟩,_=>True) (fun⟨gJ,eE,fR,ew⟩ _=> [(0,[],(vP aH)),(1,[],(vP dY)),(4,[],(vP fV)),(5,[],(vP gC)),(6,[],(.bool dj.1)),(7,[],(vI ew))]) (fun⟨gJ,eE,fR,ew⟩ _=> [⟨some aH,169,[(.slice ej s0.aJ.length dV),(vI eE),(.int .u64 fR)]⟩,⟨some dY,29,cF f1 G1 Ah⟩,⟨(some fV),36,row aj ((av.dC 96 0).1) []⟩,⟨(some gC),36,row aj gJ.1 []⟩]) qJ () trivial [0,1,2,3] ?_
  rintro⟨gJ,eE,fR,ew⟩ _ PB _ h
  rw [F1.kq] at h
  refine ad (cT [0,0] (qi h (fun h=> ?_) (fun h=> ?_)))
  ·refine kT (ad (ap (cR [0,0,0,0,1,0] (bE h fun eo sa h=>oC 0 (fun w hm=>Fl.c (⟨s0.aJ,eE,fR⟩:a6) (au f1.ag) w _ dV (hm.aM fD dE) rfl aH (hm.ps [0]) (hm.xp fD dE [0]) sa) ?_))))
   rintro w v w' hm ⟨rfl,bn⟩
   refine ⟨_,hm.aW [(0,⟨some aH,169,[(.slice ej s0.aJ.length dV),(vI eo.2.dy),(.int .u64 eo.2.bF)]⟩)] [] bn,oH [0] (eT (cR [0,0,0,0,1,0] (bE h fun bz l8 h=>oC 0 (fun w hm=>Fl.c (⟨s0.aJ,eo.2.dy,eo.2.bF⟩:a6) (f1.aa.length:Int) w _ dV (hm.aM fD dE) rfl aH (hm.ps [0]) (hm.xp fD dE [0]) l8) ?_)))⟩
   rintro w v w' hm ⟨rfl,bn⟩
   refine ⟨_,hm.aW [(0,⟨some aH,169,[(.slice ej s0.aJ.length dV),(vI bz.2.dy),(.int .u64 bz.2.bF)]⟩)] [] bn,oH [0] (eT (ad (aK (fun(mz:Bool)=>F1.uI gJ ew eo bz mz=some PB) (fun mz=> [(0,[],(vP aH)),(1,[],(vP dY)),(4,[],(vP fV)),(5,[],(vP gC)),(6,[],(.bool dj.1)),(7,[],(vI ew)),(8,[],(vI eo.1)),(9,[],(vI bz.1)),(39,[],(.bool mz))]) (fun mz=> [⟨some aH,169,[(.slice ej s0.aJ.length dV),(vI bz.2.dy),(.int .u64 bz.2.bF)]⟩,⟨some dY,29,cF f1 G1 Ah⟩,⟨(some fV),36,row aj ((av.dC 96 0).1) []⟩,⟨(some gC),36,row aj gJ.1 []⟩]) ?_ ?_)))⟩
   ·refine ao (qf [(0,0),(0,0),(0,1),(0,1),(0,1)] (qp 34 h (fun h=> ?_) (fun h=> ?_)))
    ·exact qf [(0,3),(0,4)] (qe (qm true h [0,1,2,3]))
    ·refine bE h fun kY ui h=>oC 2 (fun w hm=>F2.c f1 gJ eo.1 bz.1 w _ Ah (hm.aM G_h RV) rfl (hm.ow 3 (some gC) 36 gJ.1 [] (fun e=>nomatch e) an) dY (hm.ps [1]) (hm.xp G_h RV [1]) (hm.oa 3 (some gC) (fun e=>nomatch e) [1]) ui) ?_
     rintro w v w' hm ⟨rfl,bn⟩
     exact ⟨_,hm.aW [(1,⟨some dY,29,cF f1 G1 Ah⟩)] [] bn,fB (qf [(0,5)] (qe (qm kY h [0,1,2,3])))⟩
   ·rintro mz h
    unfold F1.uI at h
    refine aP (qi h (fun h=> ?_) (fun h=> ?_))
    ·refine cH [0,0] (bE h fun oj nb h=>oX 0 (sB gC) 1 nb gJ.2 rfl (oL 0 false (fun w hm=>((hm.ow 3 (some gC) 36 gJ.1 [] (fun e=>nomatch e) an).at nb)) (qh [0,0] ?_)))
     obtain⟨Dg,h⟩:=gd h
     exact tO (pV 0 .u32 1 .u64 (u64 bz.1) Dg (oH [0] (bE h fun sw lG h=>oX 0 (sB gC) 1 lG gJ.2 rfl (tO (pT 0 3 gC 36 aj gJ.1 [] eo.1 (wC .u32 oj (fo .u32 1 (u64 bz.1))) 1 0 [(vU (wC .u32 oj (fo .u32 1 (u64 bz.1))))] an lG (fB (qe (nT (cH [0,0,0] (qe (qb ((av.set gJ eo.1 (wC .u32 oj (fo .u32 1 (u64 bz.1)))),bz.2.dy,bz.2.bF,(au (ew-1))) () h trivial [0,1,2,3])))))))))))
    ·exact bV (nT (cH [0,0,0] (qe (qb (gJ,bz.2.dy,bz.2.bF,(au (ew-1))) () h trivial [0,1,2,3]))))
  ·exact lX (gJ,eE,fR) h (fun e=>by subst e;exact bo (qm ⟨gJ,eE,fR⟩ Jv [0,1,2,3]))
 ·rintro⟨E3,gr,fC⟩ h
  unfold F1.po at h
  refine aP (ad (ao (tO (pL 0 3 gC 96 1 36 aj E3 an (fB (tO (pS 0 2 fV 96 1 36 aj (av.dC 96 0) E3 an bk (fB (eT (aI ?_))))))))))
  obtain rfl:=si h
  exact gH rfl (ra (b:=fV) (T':=36) (hh:=2) (mm:=1) aj E3 an iP) (fun w hm=>⟨rfl,hm.pk [0,1]⟩)
def Fcc(be:List Int)(f1:ae):Option ((av 96 Int)):=(E2 be).bind fun bz=>(F1 (⟨be,bz.dy,bz.bF⟩:a6) f1).bind fun aA=>some aA.1
theorem Fcc.c(be:List Int)(f1:ae)(w:World)(r:(av 96 Int)){cQ:Option Addr}{ck:Nat}(bX:Nat)(eX:Rw w cQ 1 jS be)(dH:be.length=ck){bL:Option Addr}{bG:Nat}(bQ:Nat)(dL:Rw w bL 2 ay f1.aa)(dU:f1.aa.length=bG)(h:Fcc be f1=some r):
   Cq 16 #[(.slice cQ ck bX),(.agg #[(vH f1.ag),(.slice bL bG bQ)])] w (.agg (row aj r.1 []).toArray) [] []:=by
 subst dH dU
 rw [Fcc] at h
 refine en Tryz.func16 rfl Tryz.ntmps16 (ad (ao (oA 0 (fun fa=>oA 0 (fun cD=>eT (cR [0] (bE h fun bz jP h=>oC 0 (fun w hm=>E2.c be w _ bX (hm.xr eX) rfl jP) ?_)))))))
 rintro w v w' hm ⟨fV,rfl,bn⟩
 refine aq hm bn (fB (bE h fun aA jD h=>oC 0 (fun w hm=>F1.c (⟨be,bz.dy,bz.bF⟩:a6) f1 w _ bX (hm.xr eX) rfl bQ (hm.xr dL) rfl fV fa (hm.ps [2,0]) (hm.xp eX (fun _=>cq) [2,0]) (hm.xp dL (fun _=>cq) [2,0]) jD) ?_))
 rintro w v w' hm ⟨rfl,bn⟩
 refine ⟨_,hm.aW [(2,⟨some fV,169,[(.slice cQ be.length bX),(vI aA.2.dy),(.int .u64 aA.2.bF)]⟩),(0,⟨some fa,29,cF f1 bL bQ⟩)] [] bn,fB (tO (pS 0 1 cD 96 1 36 aj (av.dC 96 0) aA.1 an bk (fB (eT (aI ?_)))))⟩
 obtain rfl:=si h
 exact gH rfl (ra (b:=cD) (T':=36) (hh:=1) (mm:=1) aj aA.1 an iP) (fun w hm=>⟨rfl,hm.pk []⟩)
def Zj(f0:ae)(t1:List ai)(ij:Int):Option ((av 96 Int)×Int×Int):=(F8 f0 t1 ij []).bind fun dj=>(if(dj !=0)=true then some ((av.dC 96 0),0,dj) else(Fr (⟨f0,t1,(av.dC 96 0),ij,0,false,false,0,(av.dC 96 0),false⟩:dx) (av.dC 96 0) 0 0).bind fun aA=>(Wt (⟨(⟨aA.ff.ag,f0.aa⟩:ae),t1,aA.fold,aA.bA,aA.eD,aA.ez,aA.c7,aA.j6,aA.bp,aA.gN⟩:dx)).bind fun dz=>(if(dz !=0)=true then some ((av.dC 96 0),0,dz) else some (aA.bp,aA.eD,0)))
theorem Zj.c(f0:ae)(t1:List ai)(ij:Int)(w:World)(r:(av 96 Int)×Int×Int){bj:Option Addr}{bm:Nat}(bi:Nat)(dr:Rw w bj 2 ay f0.aa)(cE:f0.aa.length=bm){bL:Option Addr}{bG:Nat}(bQ:Nat)(dL:Rw w bL 2 aF t1)(dU:t1.length=bG)(h:Zj f0 t1 ij=some r):
   Cr 17 #[(.agg #[(vH f0.ag),(.slice bj bm bi)]),(.slice bL bG bQ),(vI ij)] w fun v w'=>v= .tuple #[(.agg (row aj r.1.1 []).toArray),(vI r.2.1),(vI r.2.2)]∧Mem w [] [] w':=by
 subst cE dU
 rw [Zj] at h
 refine en Tryz.func17 rfl Tryz.ntmps17 (ad (ao (oA 0 (fun fV=>oA 0 (fun cD=>qh [0,0] (eT (ad (cR [0,0,0] (bE h fun dj jD h=>oQ 0 (fun w hm=>F8.c f0 t1 ij [] w _ bi (hm.xr dr) rfl bQ (hm.xr dL) rfl 0 Rw.nil rfl jD) (qh [0] (eT (cT [0,0] (qi h (fun h=> ?_) (fun h=> ?_))))))))))))))
 ·refine cR [0,0] (tO (pS 0 1 cD 96 1 36 aj (av.dC 96 0) (av.dC 96 0) an bk (oH [0,0] (eT (rX ?_)))))
  obtain rfl:=si h
  exact gH rfl (ra (b:=cD) (T':=36) (hh:=1) (mm:=1) aj (av.dC 96 0) an (rt (rt iP))) (fun w hm=>⟨rfl,hm.pk []⟩)
 ·refine kT (cR [0,0,0,0] (oA 0 (fun fa=>qh [0] (eT (cR [0,0] (bE h fun aA jf h=>oC 0 (fun w hm=>Fr.c (⟨f0,t1,(av.dC 96 0),ij,0,false,false,0,(av.dC 96 0),false⟩:dx) (av.dC 96 0) 0 0 w _ bi (hm.xr dr) rfl bQ (hm.xr dL) rfl fa (hm.ps [2]) (hm.xp dr (fun _=>cq) [2]) (hm.xp dL (fun _=>cq) [2]) jf) ?_))))))
  rintro w v w' hm ⟨rfl,bn⟩
  refine ⟨_,hm.aW [(2,⟨some fa,105,((vH aA.ff.ag)::(.slice bj f0.aa.length bi)::(.slice bL t1.length bQ)::(iC (Value.int .u32) 96 aA.fold.1 ((vI aA.bA)::(vI aA.eD)::(.bool aA.ez)::(.bool aA.c7)::(vI aA.j6)::(iC (Value.int .u32) 96 aA.bp.1 [(.bool aA.gN)]))))⟩)] [] bn,fB (eT (ad (cR [0] (bE h fun dz km h=>oC 0 (fun w hm=>Wt.c (⟨(⟨aA.ff.ag,f0.aa⟩:ae),t1,aA.fold,aA.bA,aA.eD,aA.ez,aA.c7,aA.j6,aA.bp,aA.gN⟩:dx) w _ bi (hm.xr dr) rfl bQ (hm.xr dL) rfl fa (hm.ps [2]) (hm.xp dr (fun _=>cq) [2]) (hm.xp dL (fun _=>cq) [2]) km) ?_))))⟩
  rintro w v w' hm ⟨rfl,bn⟩
  refine ⟨_,hm.aW [(2,⟨some fa,105,((vH aA.ff.ag)::(.slice bj f0.aa.length bi)::(.slice bL t1.length bQ)::(iC (Value.int .u32) 96 aA.fold.1 ((vI aA.bA)::(vI aA.eD)::(.bool aA.ez)::(.bool aA.c7)::(vI aA.j6)::(iC (Value.int .u32) 96 aA.bp.1 [(.bool aA.gN)]))))⟩)] [] bn,oH [0] (eT (cT [0,0] (qi h (fun h=> ?_) (fun h=> ?_))))⟩
  ·refine cR [0,0] (tO (pS 0 1 cD 96 1 36 aj (av.dC 96 0) (av.dC 96 0) an bk (oH [0,0] (eT (rX ?_)))))
   obtain rfl:=si h
   exact gH rfl (ra (b:=cD) (T':=36) (hh:=1) (mm:=1) aj (av.dC 96 0) an (rt (rt iP))) (fun w hm=>⟨rfl,hm.pk []⟩)
  ·refine kT (ad (qg [⟨some fV,29,cF f0 bj bi⟩,⟨some fa,105,((vH aA.ff.ag)::(.slice bj f0.aa.length bi)::(.slice bL t1.length bQ)::(iC (Value.int .u32) 96 aA.fold.1 ((vI aA.bA)::(vI aA.eD)::(.bool aA.ez)::(.bool aA.c7)::(vI aA.j6)::(iC (Value.int .u32) 96 aA.bp.1 [(.bool aA.gN)]))))⟩] 11 (qd [⟨0,0,0⟩,⟨1,0,0⟩,⟨2,0,0⟩,⟨4,0,0⟩,⟨5,0,0⟩,⟨6,0,0⟩,⟨7,1,0⟩] 4 [0,2] (qv 3 0 [0,2] (fun w hm=>jM (b:=fa) (off:=104) (s:=96) (agg:=true) (vs:=row aj aA.bp.1 []) (by kernel_rfl) ((gG an aA.bp).trans rfl) (.inl rfl) (hm.Jr 1 fa 104 (Value.int .u32) (fun _=>rfl) aA.bp)) (tD 8 (pS 0 1 cD 96 1 36 aj (av.dC 96 0) aA.bp an bk (kD [0,2] (qd [⟨9,0,0⟩,⟨10,0,0⟩] 0 [0,2] (qz (xR ?_))))))))))
   obtain rfl:=si h
   exact gH rfl (ra (b:=cD) (T':=36) (hh:=1) (mm:=1) aj aA.bp an (rt (rt iP))) (fun w hm=>⟨rfl,hm.pk []⟩)
def p'(be:List Int)(uA:Int)(n2:Int):Option (Int):=(if((decide (uA≥(be.length:Int))) || (decide (n2<1)))=true then some 0 else(ix be uA).bind fun j5=>(if n2≠0 then some (Int.tmod (au j5) n2) else none))
theorem p'.c(be:List Int)(uA:Int)(n2:Int)(w:World)(r:Int){cQ:Option Addr}{ck:Nat}(bX:Nat)(eX:Rw w cQ 1 jS be)(dH:be.length=ck)(h:p' be uA n2=some r):
   Cq 18 #[(.slice cQ ck bX),(vI uA),(vI n2)] w (vI r) [] []:=by
 subst dH
 rw [p'] at h
 refine en Tryz.func18 rfl Tryz.ntmps18 (cT [0] (s2 (ao (qf [(0,0),(0,0),(0,0),(0,0),(0,0),(0,1),(0,1),(0,0)] (eT (qi h (fun h=> ?_) (fun h=> ?_)))))))
 ·refine cT [0] (rX ?_)
  cases h
  exact qP []
 ·refine kT (cR [0,0] (bE h fun j5 lC h=>oX 0 cQ 1 lC rfl (eX.sp lC) (oL 0 false (fun w hm=>((hm.xr eX).at lC)) (qh [0,0] ?_))))
  obtain⟨aar,h⟩:=gd h
  refine tO (pM 0 .i64 (au j5) n2 aar (oH [0] (eT (aI ?_))))
  cases h
  exact qP []
def Il.fk(t1:List ai)(F_:av 96 Int):Option ((av 96 Int)×Int):=some (F_,(t1.length:Int))
def Il.fY(f0:ae)(t1:List ai):((av 96 Int)×Int)→Option (((av 96 Int)×Int)⊕(((av 96 Int)×Int)⊕(av 96 Int)))
 | (gJ,bK)=>(if(decide (bK<(t1.length:Int)))=true then(ix t1 bK).bind fun pg=>(Fy f0 gJ (au pg.cd) (au pg.aD)).bind fun gu=>(if((gu.length:Int)==0)=true then some (.inr (.inl (gJ,bK))) else(ix gu 0).bind fun CD=>(QU gJ (au pg.cd) CD true).bind fun i_=>some (.inl (i_,(au (bK+1))))) else some (.inr (.inr gJ)))
def Il(f0:ae)(t1:List ai):Option ((av 96 Int)×Int):=(loop (Il.fY f0 t1) ((av.dC 96 0),0)).bind fun iq=>match iq with | .inl p=>some p | .inr p=>Il.fk t1 p
theorem Il.c(f0:ae)(t1:List ai)(w:World)(r:(av 96 Int)×Int){bj:Option Addr}{bm:Nat}(bi:Nat)(dr:Rw w bj 2 ay f0.aa)(cE:f0.aa.length=bm){bL:Option Addr}{bG:Nat}(bQ:Nat)(dL:Rw w bL 2 aF t1)(dU:t1.length=bG)(h:Il f0 t1=some r):
   Cr 56 #[(.agg #[(vH f0.ag),(.slice bj bm bi)]),(.slice bL bG bQ)] w fun v w'=>v= .tuple #[(.agg (row aj r.1.1 []).toArray),(vI r.2)]∧Mem w [] [] w':=by
 subst cE dU
 rw [Il] at h
 refine en Tryz.func56 rfl Tryz.ntmps56 (ad (ao (oA 0 (fun fa=>oA 0 (fun gx=>qh [0] (eT (cR [0] (oA 0 (fun cD=>tO (pS 0 2 cD 96 1 36 aj (av.dC 96 0) (av.dC 96 0) an bk (fB (eT (ad (cT [0,0,0] (aK (fun(F_:(av 96 Int))=>Il.fk t1 F_=some r) (fun F_=> [(1,[],(.slice bL t1.length bQ)),(4,[],(vP gx)),(5,[],(vI 0)),(6,[],(vP cD))]) (fun F_=> [⟨some fa,29,cF f0 bj bi⟩,⟨(some gx),36,row aj ((av.dC 96 0).1) []⟩,⟨(some cD),36,row aj F_.1 []⟩]) ?_ ?_)))))))))))))))
 ·refine ap ?_
  obtain⟨iq,nx,Db⟩:=bd h
  refine jl (fun(s:(av 96 Int)×Int) (x:Unit)=>match s,x with | ⟨gJ,bK⟩,_=>True) (fun⟨gJ,bK⟩ _=> [(1,[],(.slice bL t1.length bQ)),(2,[],(vP fa)),(4,[],(vP gx)),(5,[],(vI 0)),(6,[],(vP cD)),(11,[],(.slice bL t1.length bQ)),(12,[],(vI (t1.length:Int))),(13,[],(vI bK))]) (fun⟨gJ,bK⟩ _=> [⟨some fa,29,cF f0 bj bi⟩,⟨(some gx),36,row aj ((av.dC 96 0).1) []⟩,⟨(some cD),36,row aj gJ.1 []⟩]) nx () trivial [0,1,2] ?_
  rintro⟨gJ,bK⟩ _ aaZ _ h
  rw [Il.fY] at h
  refine cT [0] (ad (qi h (fun h=> ?_) (fun h=> ?_)))
  ·refine kT (ad (ap (cR [0] (bE h fun pg kV h=>oX 0 bL 2 kV rfl (dL.sp kV) (oL 0 true (fun w hm=>((hm.xr dL).at kV)) (oA 0 (fun abn=>qh [0] (oS 0 [3] (eT (cR [0,0,3,0,0,3,0] (bE h fun gu wQ h=>oC 0 (fun w hm=>Fy.c f0 gJ (au pg.cd) (au pg.aD) w _ bi (hm.xr dr) rfl (hm.ow 2 (some cD) 36 gJ.1 [] (fun e=>nomatch e) an) wQ) ?_)))))))))))
   rintro w v w' hm ⟨j8,ls,dK,_,rfl,T_,Oe,rfl,bn⟩
   refine aq hm bn (oH [0] (eT (ad (cT [0,0,0] (qi h (fun h=> ?_) (fun h=> ?_))))))
   ·refine ad (ao (tO (pL 0 2 cD 96 1 36 aj gJ an (oH [0] (tO (pS 0 1 gx 96 1 36 aj (av.dC 96 0) gJ an bk (oH [0] (eT (rX (cg (aT (c_ (.inl (gJ,bK)) (sj h) (fun aaj=> ?_)))))))))))))
    subst aaj
    refine cg (aT (aT ?_))
    obtain rfl:=si Db
    exact gH rfl (ra (b:=gx) (T':=36) (hh:=1) (mm:=1) aj gJ an (rt iP)) (fun w hm=>⟨rfl,hm.pk []⟩)
   ·refine kT (qg [⟨some fa,29,cF f0 bj bi⟩,⟨(some gx),36,row aj ((av.dC 96 0).1) []⟩,⟨some abn,70,cN pg⟩,⟨j8,2,row aG gu dK⟩] 7 (qd [⟨0,0,0⟩,⟨1,2,0⟩,⟨2,0,0⟩,⟨3,0,0⟩] 3 [0,1,3,4] (bE h fun CD oR h=>qX 4 0 [0,1,3,4] (mB j8) 1 oR rfl (nl Oe oR) (qL 5 0 [0,1,3,4] false (aX 3 j8 2 gu dK Oe bf oR) (bE h fun i_ Ad h=>tD 6 (pc 0 (fun w hm=>QU.c gJ (au pg.cd) CD true w _ cD (hm.ps [2]) Ad) ?_))))))
    rintro w v w' hm ⟨rfl,bn⟩
    exact ⟨_,hm.aW [(2,⟨(some cD),36,row aj i_.1 []⟩)] [] bn,kD [0,1,3,4] (qz (nT (cH [0,0] (qe (qb (i_,(au (bK+1))) () h trivial [0,1,2])))))⟩
  ·exact lX (.inr gJ) h (fun e=>by subst e;exact bo (qm gJ Db [0,1,2]))
 ·rintro F_ h
  unfold Il.fk at h
  refine aP (ad (ao (tO (pL 0 2 cD 96 1 36 aj F_ an (oH [0,0] (tO (pS 0 1 gx 96 1 36 aj (av.dC 96 0) F_ an bk (oH [0] (eT (aI ?_))))))))))
  obtain rfl:=si h
  exact gH rfl (ra (b:=gx) (T':=36) (hh:=1) (mm:=1) aj F_ an (rt iP)) (fun w hm=>⟨rfl,hm.pk []⟩)
def Zk(f0:ae)(t1:List ai):Option ((av 96 Int)×Int):=(F8 f0 t1 0 []).bind fun bz=>(if(bz !=0)=true then some ((av.dC 96 0),bz) else(Il f0 t1).bind fun aA=>(if(decide (aA.2<(t1.length:Int)))=true then some ((av.dC 96 0),6) else some (aA.1,0)))
theorem Zk.c(f0:ae)(t1:List ai)(w:World)(r:(av 96 Int)×Int){bj:Option Addr}{bm:Nat}(bi:Nat)(dr:Rw w bj 2 ay f0.aa)(cE:f0.aa.length=bm){bL:Option Addr}{bG:Nat}(bQ:Nat)(dL:Rw w bL 2 aF t1)(dU:t1.length=bG)(h:Zk f0 t1=some r):
   Cr 19 #[(.agg #[(vH f0.ag),(.slice bj bm bi)]),(.slice bL bG bQ)] w fun v w'=>v= .tuple #[(.agg (row aj r.1.1 []).toArray),(vI r.2)]∧Mem w [] [] w':=by
 subst cE dU
 rw [Zk] at h
 refine en Tryz.func19 rfl Tryz.ntmps19 (ad (ao (oA 0 (fun fa=>oA 0 (fun cD=>qh [0] (eT (ad (cR [0,0] (bE h fun bz jP h=>oQ 0 (fun w hm=>F8.c f0 t1 0 [] w _ bi (hm.xr dr) rfl bQ (hm.xr dL) rfl 0 Rw.nil rfl jP) (qh [0] (eT (cT [0,0] (qi h (fun h=> ?_) (fun h=> ?_))))))))))))))
 ·refine cR [0,0] (tO (pS 0 1 cD 96 1 36 aj (av.dC 96 0) (av.dC 96 0) an bk (oH [0] (eT (rX ?_)))))
  obtain rfl:=si h
  exact gH rfl (ra (b:=cD) (T':=36) (hh:=1) (mm:=1) aj (av.dC 96 0) an (rt iP)) (fun w hm=>⟨rfl,hm.pk []⟩)
 ·refine kT (cR [0,0] (bE h fun aA jD h=>oQ 0 (fun w hm=>Il.c f0 t1 w _ bi (hm.xr dr) rfl bQ (hm.xr dL) rfl jD) (qh [0,0,0] (oA 0 (fun fV=>tO (pS 0 2 fV 96 1 36 aj (av.dC 96 0) aA.1 an bk (oH [0] (eT (ad (cT [0,0,0,0] (qi h (fun h=> ?_) (fun h=> ?_))))))))))))
  ·refine cR [0] (tO (pS 0 1 cD 96 1 36 aj (av.dC 96 0) (av.dC 96 0) an bk (oH [0] (eT (rX ?_)))))
   obtain rfl:=si h
   exact gH rfl (ra (b:=cD) (T':=36) (hh:=1) (mm:=1) aj (av.dC 96 0) an (rt iP)) (fun w hm=>⟨rfl,hm.pk []⟩)
  ·refine kT (ad (ao (tO (pL 0 2 fV 96 1 36 aj aA.1 an (fB (tO (pS 0 1 cD 96 1 36 aj (av.dC 96 0) aA.1 an bk (oH [0] (eT (aI ?_))))))))))
   obtain rfl:=si h
   exact gH rfl (ra (b:=cD) (T':=36) (hh:=1) (mm:=1) aj aA.1 an (rt iP)) (fun w hm=>⟨rfl,hm.pk []⟩)
def Fb7(be:List Int):Option (ae):=(E2 be).bind fun bz=>(FX (⟨be,bz.dy,bz.bF⟩:a6)).bind fun aA=>some aA.1
theorem Fb7.c(be:List Int)(w:World)(r:ae){cQ:Option Addr}{ck:Nat}(bX:Nat)(eX:Rw w cQ 1 jS be)(dH:be.length=ck)(h:Fb7 be=some r):
   Cr 20 #[(.slice cQ ck bX)] w fun v w'=>∃(o0:Option Nat) (c0:Nat) (s0:List Value) (n0:Nat),r.aa.length=n0∧(hS o0 n0 c0 s0 2)∧(hO o0 r.aa c0)∧v= .agg #[(vH r.ag), .slice (mB o0) n0 c0]∧Mem w [] [⟨o0,68,row ay r.aa s0⟩] w':=by
 subst dH
 rw [Fb7] at h
 refine en Tryz.func20 rfl Tryz.ntmps20 (ad (ao (oA 0 (fun fa=>eT (cR [0] (bE h fun bz gv h=>oC 0 (fun w hm=>E2.c be w _ bX (hm.xr eX) rfl gv) ?_))))))
 rintro w v w' hm ⟨fV,rfl,bn⟩
 refine aq hm bn (fB (bE h fun aA jf h=>oC 0 (fun w hm=>FX.c (⟨be,bz.dy,bz.bF⟩:a6) w _ bX (hm.xr eX) rfl fV (hm.ps [1]) (hm.xp eX (fun _=>cq) [1]) jf) ?_))
 rintro w v w' hm ⟨kM,gK,A_,_,rfl,Pz,oV,rfl,bn⟩
 refine ⟨_,hm.aW [(1,⟨some fV,169,[(.slice cQ be.length bX),(vI aA.2.dy),(.int .u64 aA.2.bF)]⟩)] [⟨kM,68,row ay aA.1.aa A_⟩] bn,fB (oS 0 [0] (eT (aI ?_)))⟩
 obtain rfl:=si h
 exact qr [0] (fun w hm=>⟨kM,gK,A_,aA.1.aa.length,rfl,Pz,oV,rfl,hm.pk [2]⟩)
def Im.po(aZ:List (av 96 Int))(dW:Int)(fL:Int):Option ((List (av 96 Int))):=some aZ
def Im.kq(be:List Int)(f1:ae):((List (av 96 Int))×Int×Int×Int)→Option (((List (av 96 Int))×Int×Int×Int)⊕(((List (av 96 Int))×Int×Int)))
 | (aL,cS,ew,fR)=>(if(decide (fR>0))=true then(F1 (⟨be,cS,ew⟩:a6) f1).bind fun dj=>(if aL.length+([dj.1]:List (av 96 Int)).length≤4294967296 then some (.inl ((aL++([dj.1]:List (av 96 Int))),dj.2.dy,dj.2.bF,(au (fR-1)))) else none) else some (.inr (aL,cS,ew)))
def Im(be:List Int)(f1:ae):Option ((List (av 96 Int))):=(E2 be).bind fun dz=>(Fl (⟨be,dz.dy,dz.bF⟩:a6) 6).bind fun lE=>(loop (Im.kq be f1) (([]:List (av 96 Int)),lE.2.dy,lE.2.bF,lE.1)).bind fun kn=>Im.po kn.1 kn.2.1 kn.2.2
theorem Im.c(be:List Int)(f1:ae)(w:World)(r:(List (av 96 Int))){cQ:Option Addr}{ck:Nat}(bX:Nat)(eX:Rw w cQ 1 jS be)(dH:be.length=ck){bL:Option Addr}{bG:Nat}(bQ:Nat)(dL:Rw w bL 2 ay f1.aa)(dU:f1.aa.length=bG)(h:Im be f1=some r):
   Cr 21 #[(.slice cQ ck bX),(.agg #[(vH f1.ag),(.slice bL bG bQ)])] w fun v w'=>∃(o0:Option Nat) (c0:Nat) (s0:List Value) (n0:Nat),r.length=n0∧(hS o0 n0 c0 s0 96)∧(hO o0 r c0)∧v= .slice (mB o0) n0 c0∧Mem w [] [⟨o0,36,row da r s0⟩] w':=by
 subst dH dU
 rw [Im] at h
 refine en Tryz.func21 rfl Tryz.ntmps21 (ad (ao (oA 0 (fun gC=>qh [0] (eT (cR [0] (bE h fun dz yY h=>oC 0 (fun w hm=>E2.c be w _ bX (hm.xr eX) rfl yY) ?_)))))))
 rintro w v w' hm ⟨cD,rfl,bn⟩
 refine aq hm bn (oH [0] (eT (ad (ao (oA 0 (fun ur=>qh [0] (eT (ad (cR [0] (bE h fun lE sa h=>oC 0 (fun w hm=>Fl.c (⟨be,dz.dy,dz.bF⟩:a6) 6 w _ bX (hm.xr eX) rfl cD (hm.ps [1]) (hm.xp eX (fun _=>cq) [1]) sa) ?_))))))))))
 rintro w v w' hm ⟨rfl,bn⟩
 refine ⟨_,hm.aW [(1,⟨some cD,169,[(.slice cQ be.length bX),(vI lE.2.dy),(.int .u64 lE.2.bF)]⟩)] [] bn,oH [0] (eT (aK (fun(j:(List (av 96 Int))×Int×Int×(Option Nat)×Nat×(List Value)×Nat)=>match j with | ⟨aZ,dW,fL,jc,bP,fP,lh⟩=>Im.po aZ dW fL=some r∧(aZ.length=lh)∧(hS jc lh bP fP 96)∧(hO jc aZ bP)) (fun⟨aZ,dW,fL,jc,bP,fP,lh⟩=> [(4,[],(.slice none 0 0)),(6,[],(.slice (mB jc) lh bP))]) (fun⟨aZ,dW,fL,jc,bP,fP,lh⟩=> [⟨some gC,29,cF f1 bL bQ⟩,⟨some cD,169,[(.slice cQ be.length bX),(vI dW),(.int .u64 fL)]⟩,⟨jc,36,row da aZ fP⟩]) ?_ ?_))⟩
 ·refine ap ?_
  obtain⟨kn,l8,BO⟩:=bd h
  refine jl (fun(s:(List (av 96 Int))×Int×Int×Int) (x:(Option Nat)×Nat×(List Value)×Nat)=>match s,x with | ⟨aL,cS,ew,fR⟩,⟨kj,et,dN,mT⟩=>(aL.length=mT)∧(hS kj mT et dN 96)∧(hO kj aL et)) (fun⟨aL,cS,ew,fR⟩ ⟨kj,et,dN,mT⟩=> [(3,[],(vP gC)),(4,[],(.slice none 0 0)),(5,[],(vP cD)),(6,[],(.slice (mB kj) mT et)),(7,[],(vI fR))]) (fun⟨aL,cS,ew,fR⟩ ⟨kj,et,dN,mT⟩=> [⟨some gC,29,cF f1 bL bQ⟩,⟨some cD,169,[(.slice cQ be.length bX),(vI cS),(.int .u64 ew)]⟩,⟨kj,36,row da aL dN⟩]) l8 ⟨(some ur),0,[],0⟩ ⟨rfl,(fun _=>⟨bt _,by simp⟩),(fun e=>nomatch e)⟩ [0,1,2] ?_
  rintro⟨aL,cS,ew,fR⟩ ⟨kj,et,dN,mT⟩ ahj ⟨rfl,J1,G3⟩ h
  rw [Im.kq] at h
  refine ad (cT [0,0] (qi h (fun h=> ?_) (fun h=> ?_)))
  ·refine kT (ad (ap (cH [0,0] (bE h fun dj uf h=>oC 0 (fun w hm=>F1.c (⟨be,cS,ew⟩:a6) f1 w _ bX (hm.xr eX) rfl bQ (hm.xr dL) rfl cD gC (hm.ps [1,0]) (hm.xp eX (fun _=>cq) [1,0]) (hm.xp dL (fun _=>cq) [1,0]) uf) ?_))))
   rintro w v w' hm ⟨rfl,bn⟩
   refine ⟨_,hm.aW [(1,⟨some cD,169,[(.slice cQ be.length bX),(vI dj.2.dy),(.int .u64 dj.2.bF)]⟩),(0,⟨some gC,29,cF f1 bL bQ⟩)] [] bn,fB (tO (Rq 0 36 96 1 da [(.agg (row aj dj.1.1 []).toArray)] [dj.1] rfl dD (fun L1=>fB ?_)))⟩
   obtain⟨BM,h⟩:=gd h
   exact tO (pA 0 2 kj 36 aL.length 1 et 96 384 (sB L1) da aL ([dj.1]:List (av 96 Int)) dN (.agg (row aj (av.dC 96 0).1 []).toArray) rfl rfl dD wE J1 G3 (fun w hm=>(hm.ow 3 (some L1) 36 ([dj.1]:List (av 96 Int)) [] (fun e=>nomatch e) dD)) BM (fun tB h_ kS C' Da=>oH [0] (qe (nT (cH [0,0,0] (qe (qb ((aL++([dj.1]:List (av 96 Int))),dj.2.dy,dj.2.bF,(au (fR-1))) ⟨tB,h_,kS,(aL++([dj.1]:List (av 96 Int))).length⟩ h ⟨rfl,C',Da⟩ [0,1,2])))))))
  ·exact lX (aL,cS,ew) h (fun e=>by subst e;exact bo (qm ⟨aL,cS,ew,kj,et,dN,aL.length⟩ ⟨BO,rfl,J1,G3⟩ [0,1,2]))
 ·rintro⟨aZ,dW,fL,jc,bP,fP,lh⟩ ⟨h,rfl,BN,z8⟩
  unfold Im.po at h
  refine aP (cT [0,0] (aI ?_))
  obtain rfl:=si h
  exact qr [] (fun w hm=>⟨jc,bP,fP,aZ.length,rfl,BN,z8,rfl,hm.pk [2]⟩)
def Xu(s0:a6)(bw:List Int):Option (Int×a6):=(Fl s0 (bw.length:Int)).bind fun aA=>(ix bw aA.1).bind fun eW=>some (eW,(⟨s0.aJ,aA.2.dy,aA.2.bF⟩:a6))
theorem Xu.c(s0:a6)(bw:List Int)(w:World)(r:Int×a6){ej:Option Addr}{eY:Nat}(dV:Nat)(fD:Rw w ej 1 jS s0.aJ)(jC:s0.aJ.length=eY){dI:Option Addr}{db:Nat}(eA:Nat)(g_:Rw w dI 1 aG bw)(ga:bw.length=db)(aH:Nat)(fG:Mem w (bs [some aH]) [⟨some aH,169,[(.slice ej eY dV),(vI s0.dy),(.int .u64 s0.bF)]⟩] w)(dE:s0.aJ≠ []→aB ej∉bs [some aH])(gT:bw≠ []→aB dI∉bs [some aH])(h:Xu s0 bw=some r):
   Cq 115 #[(vP aH),(.slice dI db eA)] w (vI r.1) (bs [some aH]) [⟨some aH,169,[(.slice ej eY dV),(vI r.2.dy),(.int .u64 r.2.bF)]⟩]:=by
 subst jC ga
 rw [Xu] at h
 refine eN Tryz.func115 rfl Tryz.ntmps115 fG (cT [0] (cR [0,0,0,0] (bE h fun aA gv h=>oC 0 (fun w hm=>Fl.c s0 (bw.length:Int) w _ dV (hm.aM fD dE) rfl aH (hm.ps [0]) (hm.xp fD dE [0]) gv) ?_)))
 rintro w v w' hm ⟨rfl,bn⟩
 refine ⟨_,hm.aW [(0,⟨some aH,169,[(.slice ej s0.aJ.length dV),(vI aA.2.dy),(.int .u64 aA.2.bF)]⟩)] [] bn,fB (bE h fun eW lC h=>oX 0 dI 1 lC rfl (g_.sp lC) (oL 0 false (fun w hm=>((hm.aM g_ gT).at lC)) (qh [0] (eT (aI ?_)))))⟩
 cases h
 exact qP [0]
def FJ.tG(s0:a6)(aA:Int×a6)(aL:List bq)(lR:List ai)(jQ:Int)(oZ:Int):Option (ae×(List ai)×a6):=(Fw lR).bind fun E_=>some ((⟨(ot (au (6+aA.1))),aL⟩:ae),E_,(⟨s0.aJ,jQ,oZ⟩:a6))
def FJ.DR(s0:a6)(aA:Int×a6):((List ai)×Int×Int×Int)→Option (((List ai)×Int×Int×Int)⊕(((List ai)×Int×Int)))
 | (bO,fy,fL,ka)=>(if(decide (ka>0))=true then(Fl (⟨s0.aJ,fy,fL⟩:a6) (au (ot (au (6+aA.1))))).bind fun jU=>(Xu (⟨s0.aJ,jU.2.dy,jU.2.bF⟩:a6) ([22,23,24,34,35,12]:List Int)).bind fun qI=>(if bO.length+([(⟨(ot jU.1),(w8 qI.1)⟩:ai)]:List ai).length≤4294967296 then some (.inl ((bO++([(⟨(ot jU.1),(w8 qI.1)⟩:ai)]:List ai)),qI.2.dy,qI.2.bF,(au (ka-1)))) else none) else some (.inr (bO,fy,fL)))
def FJ.po(s0:a6)(aA:Int×a6)(bK:Int)(KR:Int)(aL:List bq):Option (ae×(List ai)×a6):=(Fl (⟨s0.aJ,bK,KR⟩:a6) 5).bind fun sn=>(loop (FJ.DR s0 aA) (([]:List ai),sn.2.dy,sn.2.bF,sn.1)).bind fun Mv=>FJ.tG s0 aA aL Mv.1 Mv.2.1 Mv.2.2
def FJ.Gm(s0:a6):(Int×Int×(List bq)×Int)→Option ((Int×Int×(List bq)×Int)⊕((Int×Int×(List bq))))
 | (jb,gw,b_,j_)=>(if(decide (j_>0))=true then(Xu (⟨s0.aJ,jb,gw⟩:a6) ([22,23,24,34,35]:List Int)).bind fun lE=>(Fl (⟨s0.aJ,lE.2.dy,lE.2.bF⟩:a6) 4).bind fun eO=>(if b_.length+([(⟨(w8 lE.1),(w8 (au (1+eO.1)))⟩:bq)]:List bq).length≤4294967296 then some (.inl (eO.2.dy,eO.2.bF,(b_++([(⟨(w8 lE.1),(w8 (au (1+eO.1)))⟩:bq)]:List bq)),(au (j_-1)))) else none) else some (.inr (jb,gw,b_)))
def FJ(s0:a6):Option (ae×(List ai)×a6):=(Fl s0 8).bind fun aA=>(Fl (⟨s0.aJ,aA.2.dy,aA.2.bF⟩:a6) 3).bind fun Cp=>(loop (FJ.Gm s0) (Cp.2.dy,Cp.2.bF,[],(au (1+Cp.1)))).bind fun tF=>FJ.po s0 aA tF.1 tF.2.1 tF.2.2
theorem FJ.c(s0:a6)(w:World)(r:ae×(List ai)×a6){ej:Option Addr}{eY:Nat}(dV:Nat)(fD:Rw w ej 1 jS s0.aJ)(jC:s0.aJ.length=eY)(aH:Nat)(fG:Mem w (bs [some aH]) [⟨some aH,169,[(.slice ej eY dV),(vI s0.dy),(.int .u64 s0.bF)]⟩] w)(dE:s0.aJ≠ []→aB ej∉bs [some aH])(h:FJ s0=some r):
   Cr 57 #[(vP aH)] w fun v w'=>∃(o0:Option Nat) (c0:Nat) (s0:List Value) (n0:Nat),r.1.aa.length=n0∧(hS o0 n0 c0 s0 2)∧(hO o0 r.1.aa c0)∧∃(o1:Option Nat) (c1:Nat) (s1:List Value) (n1:Nat),r.2.1.length=n1∧(hS o1 n1 c1 s1 2)∧(hO o1 r.2.1 c1)∧v= .tuple #[.agg #[(vH r.1.ag), .slice (mB o0) n0 c0], .slice (mB o1) n1 c1]∧Mem w (bs [some aH]) [⟨some aH,169,[(.slice ej eY dV),(vI r.2.2.dy),(.int .u64 r.2.2.bF)]⟩,⟨o0,68,row ay r.1.aa s0⟩,⟨o1,70,row aF r.2.1 s1⟩] w':=by
 subst jC
 rw [FJ] at h
 refine eN Tryz.func57 rfl Tryz.ntmps57 fG (ad (ao (oA 0 (fun cD=>qh [0] (eT (cR [0] (bE h fun aA uf h=>oC 0 (fun w hm=>Fl.c s0 8 w _ dV (hm.aM fD dE) rfl aH (hm.ps [0]) (hm.xp fD dE [0]) uf) ?_)))))))
 rintro w v w' hm ⟨rfl,bn⟩
 refine ⟨_,hm.aW [(0,⟨some aH,169,[(.slice ej s0.aJ.length dV),(vI aA.2.dy),(.int .u64 aA.2.bF)]⟩)] [] bn,oH [0,0,0] (oA 0 (fun fV=>oS 0 [2] (eT (ad (cR [0] (bE h fun Cp JY h=>oC 0 (fun w hm=>Fl.c (⟨s0.aJ,aA.2.dy,aA.2.bF⟩:a6) 3 w _ dV (hm.aM fD dE) rfl aH (hm.ps [0]) (hm.xp fD dE [0]) JY) ?_))))))⟩
 rintro w v w' hm ⟨rfl,bn⟩
 refine ⟨_,hm.aW [(0,⟨some aH,169,[(.slice ej s0.aJ.length dV),(vI Cp.2.dy),(.int .u64 Cp.2.bF)]⟩)] [] bn,oH [0,0] (eT (aK (fun(j:Int×Int×(List bq)×(Option Nat)×Nat×(List Value)×Nat)=>match j with | ⟨bK,KR,aL,lU,ct,gb,uD⟩=>FJ.po s0 aA bK KR aL=some r∧(aL.length=uD)∧(hS lU uD ct gb 2)∧(hO lU aL ct)) (fun⟨bK,KR,aL,lU,ct,gb,uD⟩=> [(0,[],(vP aH)),(2,[],(vP cD)),(3,[],(.slice none 0 0)),(4,[],(vP fV))]) (fun⟨bK,KR,aL,lU,ct,gb,uD⟩=> [⟨some aH,169,[(.slice ej s0.aJ.length dV),(vI bK),(.int .u64 KR)]⟩,⟨some cD,29,[(vH 0),(.slice none 0 0)]⟩,⟨some fV,29,[(vH (ot (au (6+aA.1)))),(.slice (mB lU) uD ct)]⟩,⟨lU,68,row ay aL gb⟩]) ?_ ?_))⟩
 ·refine ap ?_
  obtain⟨tF,Ua,Of⟩:=bd h
  refine wA 68 ay (jl (fun(s:Int×Int×(List bq)×Int) (x:(Option Nat)×Nat×(List Value)×Nat)=>match s,x with | ⟨jb,gw,b_,j_⟩,⟨ta,fU,nV,Bk⟩=>(b_.length=Bk)∧(hS ta Bk fU nV 2)∧(hO ta b_ fU)) (fun⟨jb,gw,b_,j_⟩ ⟨ta,fU,nV,Bk⟩=> [(0,[],(vP aH)),(2,[],(vP cD)),(3,[],(.slice none 0 0)),(4,[],(vP fV)),(5,[],(vI j_))]) (fun⟨jb,gw,b_,j_⟩ ⟨ta,fU,nV,Bk⟩=> [⟨some aH,169,[(.slice ej s0.aJ.length dV),(vI jb),(.int .u64 gw)]⟩,⟨some cD,29,[(vH 0),(.slice none 0 0)]⟩,⟨some fV,29,[(vH (ot (au (6+aA.1)))),(.slice (mB ta) Bk fU)]⟩,⟨ta,68,row ay b_ nV⟩]) Ua ⟨none,0,[],0⟩ ⟨rfl,(fun e=>absurd rfl e),(fun _=>⟨rfl,rfl⟩)⟩ [0,1,2,3] ?_)
  rintro⟨jb,gw,b_,j_⟩ ⟨ta,fU,nV,Bk⟩ akq ⟨rfl,DH,yp⟩ h
  rw [FJ.Gm] at h
  refine ad (cT [0,0] (qi h (fun h=> ?_) (fun h=> ?_)))
  ·refine kT (ad (ap (cR [0] (oA 0 (fun PW=>bE h fun lE RX h=>oC 0 (fun w hm=>Xu.c (⟨s0.aJ,jb,gw⟩:a6) ([22,23,24,34,35]:List Int) w _ dV (hm.aM fD dE) rfl 5 (hm.ow 4 (some PW) 2 ([22,23,24,34,35]:List Int) [] (fun e=>nomatch e) bf) rfl aH (hm.ps [0]) (hm.xp fD dE [0]) (hm.oa 4 (some PW) (fun e=>nomatch e) [0]) RX) ?_)))))
   rintro w v w' hm ⟨rfl,bn⟩
   refine ⟨_,hm.aW [(0,⟨some aH,169,[(.slice ej s0.aJ.length dV),(vI lE.2.dy),(.int .u64 lE.2.bF)]⟩)] [] bn,oH [0,0] (oA 0 (fun akr=>oS 0 [5] (eT (cR [0] (bE h fun eO age h=>oC 0 (fun w hm=>Fl.c (⟨s0.aJ,lE.2.dy,lE.2.bF⟩:a6) 4 w _ dV (hm.aM fD dE) rfl aH (hm.ps [0]) (hm.xp fD dE [0]) age) ?_)))))⟩
   rintro w v w' hm ⟨rfl,bn⟩
   refine ⟨_,hm.aW [(0,⟨some aH,169,[(.slice ej s0.aJ.length dV),(vI eO.2.dy),(.int .u64 eO.2.bF)]⟩)] [] bn,oH [0,0,0] (oS 0 [5] (eT (cH [0,2,5] (oA 0 (fun Mw=>?_)))))⟩
   obtain⟨Sz,h⟩:=gd h
   exact tO (pA 0 3 ta 68 b_.length 1 fU 2 2 (sB Mw) ay b_ ([(⟨(w8 lE.1),(w8 (au (1+eO.1)))⟩:bq)]:List bq) nV (.agg #[(vB 0),(vB 0)]) rfl rfl cW kv DH yp (fun w hm=>(hm.ow 6 (some Mw) 68 ([(⟨(w8 lE.1),(w8 (au (1+eO.1)))⟩:bq)]:List bq) [] (fun e=>nomatch e) cW)) Sz (fun aaL H' SA G8 G9=>oH [0] (oS 0 [2] (qe (nT (cH [0,0,0] (qe (qb (eO.2.dy,eO.2.bF,(b_++([(⟨(w8 lE.1),(w8 (au (1+eO.1)))⟩:bq)]:List bq)),(au (j_-1))) ⟨aaL,H',SA,(b_++([(⟨(w8 lE.1),(w8 (au (1+eO.1)))⟩:bq)]:List bq)).length⟩ h ⟨rfl,G8,G9⟩ [0,1,2,3]))))))))
  ·exact lX (jb,gw,b_) h (fun e=>by subst e;exact bo (qm ⟨jb,gw,b_,ta,fU,nV,b_.length⟩ ⟨Of,rfl,DH,yp⟩ [0,1,2,3]))
 ·rintro⟨bK,KR,aL,lU,ct,gb,uD⟩ ⟨h,rfl,J6,J7⟩
  unfold FJ.po at h
  refine aP (ad (ao (oA 0 (fun Xj=>qh [0] (eT (ad (cR [0] (bE h fun sn J2 h=>oC 0 (fun w hm=>Fl.c (⟨s0.aJ,bK,KR⟩:a6) 5 w _ dV (hm.aM fD dE) rfl aH (hm.ps [0]) (hm.xp fD dE [0]) J2) ?_))))))))
  rintro w v w' hm ⟨rfl,bn⟩
  refine ⟨_,hm.aW [(0,⟨some aH,169,[(.slice ej s0.aJ.length dV),(vI sn.2.dy),(.int .u64 sn.2.bF)]⟩)] [] bn,oH [0] (eT (aK (fun(j:(List ai)×Int×Int×(Option Nat)×Nat×(List Value)×Nat)=>match j with | ⟨lR,jQ,oZ,lY,kO,sF,PY⟩=>FJ.tG s0 aA aL lR jQ oZ=some r∧(lR.length=PY)∧(hS lY PY kO sF 2)∧(hO lY lR kO)) (fun⟨lR,jQ,oZ,lY,kO,sF,PY⟩=> [(2,[],(vP cD)),(3,[],(.slice none 0 0)),(4,[],(vP fV)),(7,[],(.slice (mB lY) PY kO))]) (fun⟨lR,jQ,oZ,lY,kO,sF,PY⟩=> [⟨some aH,169,[(.slice ej s0.aJ.length dV),(vI jQ),(.int .u64 oZ)]⟩,⟨some cD,29,[(vH 0),(.slice none 0 0)]⟩,⟨some fV,29,[(vH (ot (au (6+aA.1)))),(.slice (mB lU) aL.length ct)]⟩,⟨lU,68,row ay aL gb⟩,⟨lY,70,row aF lR sF⟩]) ?_ ?_))⟩
  ·refine ap ?_
   obtain⟨Mv,Dy,TE⟩:=bd h
   refine jl (fun(s:(List ai)×Int×Int×Int) (x:(Option Nat)×Nat×(List Value)×Nat)=>match s,x with | ⟨bO,fy,fL,ka⟩,⟨vY,j9,jz,uG⟩=>(bO.length=uG)∧(hS vY uG j9 jz 2)∧(hO vY bO j9)) (fun⟨bO,fy,fL,ka⟩ ⟨vY,j9,jz,uG⟩=> [(0,[],(vP aH)),(2,[],(vP cD)),(3,[],(.slice none 0 0)),(4,[],(vP fV)),(7,[],(.slice (mB vY) uG j9)),(8,[],(vI ka))]) (fun⟨bO,fy,fL,ka⟩ ⟨vY,j9,jz,uG⟩=> [⟨some aH,169,[(.slice ej s0.aJ.length dV),(vI fy),(.int .u64 fL)]⟩,⟨some cD,29,[(vH 0),(.slice none 0 0)]⟩,⟨some fV,29,[(vH (ot (au (6+aA.1)))),(.slice (mB lU) aL.length ct)]⟩,⟨lU,68,row ay aL gb⟩,⟨vY,70,row aF bO jz⟩]) Dy ⟨(some Xj),0,[],0⟩ ⟨rfl,(fun _=>⟨bt _,by simp⟩),(fun e=>nomatch e)⟩ [0,1,2,3,4] ?_
   rintro⟨bO,fy,fL,ka⟩ ⟨vY,j9,jz,uG⟩ aks ⟨rfl,Am,Dv⟩ h
   rw [FJ.DR] at h
   refine ad (cT [0,0] (qi h (fun h=> ?_) (fun h=> ?_)))
   ·refine kT (ad (ap (cR [0,0,2,0] (bE h fun jU J0 h=>oC 0 (fun w hm=>Fl.c (⟨s0.aJ,fy,fL⟩:a6) (au (ot (au (6+aA.1)))) w _ dV (hm.aM fD dE) rfl aH (hm.ps [0]) (hm.xp fD dE [0]) J0) ?_))))
    rintro w v w' hm ⟨rfl,bn⟩
    refine ⟨_,hm.aW [(0,⟨some aH,169,[(.slice ej s0.aJ.length dV),(vI jU.2.dy),(.int .u64 jU.2.bF)]⟩)] [] bn,oH [0,0] (oA 0 (fun adW=>oS 0 [5] (eT (cR [0] (oA 0 (fun aa9=>bE h fun qI Ki h=>oC 0 (fun w hm=>Xu.c (⟨s0.aJ,jU.2.dy,jU.2.bF⟩:a6) ([22,23,24,34,35,12]:List Int) w _ dV (hm.aM fD dE) rfl 6 (hm.ow 6 (some aa9) 2 ([22,23,24,34,35,12]:List Int) [] (fun e=>nomatch e) bf) rfl aH (hm.ps [0]) (hm.xp fD dE [0]) (hm.oa 6 (some aa9) (fun e=>nomatch e) [0]) Ki) ?_))))))⟩
    rintro w v w' hm ⟨rfl,bn⟩
    refine ⟨_,hm.aW [(0,⟨some aH,169,[(.slice ej s0.aJ.length dV),(vI qI.2.dy),(.int .u64 qI.2.bF)]⟩)] [] bn,oH [0,0] (oS 0 [5] (eT (cH [0,5] (oA 0 (fun Dw=>?_)))))⟩
    obtain⟨TF,h⟩:=gd h
    exact tO (pA 0 4 vY 70 bO.length 1 j9 2 4 (sB Dw) aF bO ([(⟨(ot jU.1),(w8 qI.1)⟩:ai)]:List ai) jz (.agg #[(vH 0),(vB 0)]) rfl rfl br iZ Am Dv (fun w hm=>(hm.ow 7 (some Dw) 70 ([(⟨(ot jU.1),(w8 qI.1)⟩:ai)]:List ai) [] (fun e=>nomatch e) br)) TF (fun PP MP TG TH Hg=>oH [0] (qe (nT (cH [0,0,0] (qe (qb ((bO++([(⟨(ot jU.1),(w8 qI.1)⟩:ai)]:List ai)),qI.2.dy,qI.2.bF,(au (ka-1))) ⟨PP,MP,TG,(bO++([(⟨(ot jU.1),(w8 qI.1)⟩:ai)]:List ai)).length⟩ h ⟨rfl,TH,Hg⟩ [0,1,2,3,4])))))))
   ·exact lX (bO,fy,fL) h (fun e=>by subst e;exact bo (qm ⟨bO,fy,fL,vY,j9,jz,bO.length⟩ ⟨TE,rfl,Am,Dv⟩ [0,1,2,3,4]))
  ·rintro⟨lR,jQ,oZ,lY,kO,sF,PY⟩ ⟨h,rfl,ajH,TW⟩
   unfold FJ.tG at h
   refine aP (ad (qg [⟨some aH,169,[(.slice ej s0.aJ.length dV),(vI jQ),(.int .u64 oZ)]⟩,⟨some fV,29,[(vH (ot (au (6+aA.1)))),(.slice (mB lU) aL.length ct)]⟩,⟨lU,68,row ay aL gb⟩,⟨lY,70,row aF lR sF⟩] 5 (qd [⟨0,1,0⟩,⟨1,0,0⟩] 3 [0,2,3,4] (bE h fun E_ agf h=>tD 2 (pc 0 (fun w hm=>Fw.c lR w _ kO (hm.ow 4 lY 70 lR sF (fun e=>(TW e).1) br) rfl agf) ?_)))))
   rintro w v w' hm ⟨abh,MS,Hi,_,rfl,TX,TY,rfl,bn⟩
   refine aq hm bn (kD [0,2,3,4] (tD 3 (qs 0 [1] (kD [0,2,3,4] (qd [⟨4,0,0⟩] 0 [0,2,3,4] (qz (xR ?_)))))))
   obtain rfl:=si h
   exact qr [1] (fun w hm=>⟨lU,ct,gb,aL.length,rfl,J6,J7,abh,MS,Hi,E_.length,rfl,TX,TY,rfl,hm.pk [0,3,5]⟩)
def Fb8(be:List Int):Option (ae×(List ai)):=(E2 be).bind fun bz=>(FJ (⟨be,bz.dy,bz.bF⟩:a6)).bind fun aA=>some (aA.1,aA.2.1)
theorem Fb8.c(be:List Int)(w:World)(r:ae×(List ai)){cQ:Option Addr}{ck:Nat}(bX:Nat)(eX:Rw w cQ 1 jS be)(dH:be.length=ck)(h:Fb8 be=some r):
   Cr 22 #[(.slice cQ ck bX)] w fun v w'=>∃(o0:Option Nat) (c0:Nat) (s0:List Value) (n0:Nat),r.1.aa.length=n0∧(hS o0 n0 c0 s0 2)∧(hO o0 r.1.aa c0)∧∃(o1:Option Nat) (c1:Nat) (s1:List Value) (n1:Nat),r.2.length=n1∧(hS o1 n1 c1 s1 2)∧(hO o1 r.2 c1)∧v= .tuple #[.agg #[(vH r.1.ag), .slice (mB o0) n0 c0], .slice (mB o1) n1 c1]∧Mem w [] [⟨o0,68,row ay r.1.aa s0⟩,⟨o1,70,row aF r.2 s1⟩] w':=by
 subst dH
 rw [Fb8] at h
 refine en Tryz.func22 rfl Tryz.ntmps22 (ad (ao (oA 0 (fun fa=>qh [0] (eT (cR [0] (bE h fun bz gv h=>oC 0 (fun w hm=>E2.c be w _ bX (hm.xr eX) rfl gv) ?_)))))))
 rintro w v w' hm ⟨fV,rfl,bn⟩
 refine aq hm bn (fB (bE h fun aA iR h=>oC 0 (fun w hm=>FJ.c (⟨be,bz.dy,bz.bF⟩:a6) w _ bX (hm.xr eX) rfl fV (hm.ps [1]) (hm.xp eX (fun _=>cq) [1]) iR) ?_))
 rintro w v w' hm ⟨kM,iy,A_,_,rfl,aap,Af,lU,et,l9,_,rfl,vw,kU,rfl,bn⟩
 refine ⟨_,hm.aW [(1,⟨some fV,169,[(.slice cQ be.length bX),(vI aA.2.2.dy),(.int .u64 aA.2.2.bF)]⟩)] [⟨kM,68,row ay aA.1.aa A_⟩,⟨lU,70,row aF aA.2.1 l9⟩] bn,oH [0,0] (oS 0 [0] (qh [0] (eT (aI ?_))))⟩
 obtain rfl:=si h
 exact qr [0] (fun w hm=>⟨kM,iy,A_,aA.1.aa.length,rfl,aap,Af,lU,et,l9,aA.2.1.length,rfl,vw,kU,rfl,hm.pk [2,3]⟩)
def FH.qw(eH:List Int)(jQ:Int)(oZ:Int):Option ((List Int)):=some eH
def FH.jX(be:List Int):((List Int)×Int×Int×Int)→Option (((List Int)×Int×Int×Int)⊕(((List Int)×Int×Int)))
 | (a7,fy,fL,cK)=>(if(decide (cK>0))=true then(Fl (⟨be,fy,fL⟩:a6) (au (cK+1))).bind fun jU=>(ix a7 cK).bind fun Cs=>(ix a7 jU.1).bind fun sw=>(ix a7 cK).bind fun R6=>(ix (a7.set cK.toNat sw) jU.1).bind fun aiL=>some (.inl (((a7.set cK.toNat sw).set jU.1.toNat Cs),jU.2.dy,jU.2.bF,(au (cK-1)))) else some (.inr (a7,fy,fL)))
def FH.nS(be:List Int)(n1:Int)(i_:a6)(aZ:List Int):Option ((List Int)):=(loop (FH.jX be) (aZ,i_.dy,i_.bF,(au (n1-1)))).bind fun lD=>FH.qw lD.1 lD.2.1 lD.2.2
def FH.j4(n1:Int):((List Int)×Int)→Option (((List Int)×Int)⊕((List Int)))
 | (b_,ew)=>(if(decide (ew<n1))=true then(if b_.length+([ew]:List Int).length≤4294967296 then some (.inl ((b_++([ew]:List Int)),(au (ew+1)))) else none) else some (.inr b_))
def FH(be:List Int)(n1:Int):Option ((List Int)):=(E2 be).bind fun i_=>(loop (FH.j4 n1) (([]:List Int),0)).bind fun uy=>FH.nS be n1 i_ uy
theorem FH.c(be:List Int)(n1:Int)(w:World)(r:(List Int)){cQ:Option Addr}{ck:Nat}(bX:Nat)(eX:Rw w cQ 1 jS be)(dH:be.length=ck)(h:FH be n1=some r):
   Cr 23 #[(.slice cQ ck bX),(vI n1)] w fun v w'=>∃(o0:Option Nat) (c0:Nat) (s0:List Value) (n0:Nat),r.length=n0∧(hS o0 n0 c0 s0 1)∧(hO o0 r c0)∧v= .slice (mB o0) n0 c0∧Mem w [] [⟨o0,2,row aG r s0⟩] w':=by
 subst dH
 rw [FH] at h
 refine en Tryz.func23 rfl Tryz.ntmps23 (cT [0] (cR [0] (bE h fun i_ km h=>oC 0 (fun w hm=>E2.c be w _ bX (hm.xr eX) rfl km) ?_)))
 rintro w v w' hm ⟨cD,rfl,bn⟩
 refine aq hm bn (oH [0] (eT (ad (ao (oA 0 (fun Wr=>qh [0] (eT (ad (cT [0] (aK (fun(j:(List Int)×(Option Nat)×Nat×(List Value)×Nat)=>match j with | ⟨aZ,vT,dv,ji,lm⟩=>FH.nS be n1 i_ aZ=some r∧(aZ.length=lm)∧(hS vT lm dv ji 1)∧(hO vT aZ dv)) (fun⟨aZ,vT,dv,ji,lm⟩=> [(1,[],(vI n1)),(4,[],(.slice none 0 0)),(5,[],(vP cD)),(6,[],(.slice (mB vT) lm dv))]) (fun⟨aZ,vT,dv,ji,lm⟩=> [⟨some cD,169,[(.slice cQ be.length bX),(vI i_.dy),(.int .u64 i_.bF)]⟩,⟨vT,2,row aG aZ ji⟩]) ?_ ?_))))))))))
 ·refine ap ?_
  obtain⟨uy,oO,Ai⟩:=bd h
  refine jl (fun(s:(List Int)×Int) (x:(Option Nat)×Nat×(List Value)×Nat)=>match s,x with | ⟨b_,ew⟩,⟨gS,ct,gb,mW⟩=>(b_.length=mW)∧(hS gS mW ct gb 1)∧(hO gS b_ ct)) (fun⟨b_,ew⟩ ⟨gS,ct,gb,mW⟩=> [(1,[],(vI n1)),(4,[],(.slice none 0 0)),(5,[],(vP cD)),(6,[],(.slice (mB gS) mW ct)),(7,[],(vI ew))]) (fun⟨b_,ew⟩ ⟨gS,ct,gb,mW⟩=> [⟨some cD,169,[(.slice cQ be.length bX),(vI i_.dy),(.int .u64 i_.bF)]⟩,⟨gS,2,row aG b_ gb⟩]) oO ⟨(some Wr),0,[],0⟩ ⟨rfl,(fun _=>⟨bt _,by simp⟩),(fun e=>nomatch e)⟩ [0,1] ?_
  rintro⟨b_,ew⟩ ⟨gS,ct,gb,mW⟩ aa5 ⟨rfl,C',Da⟩ h
  rw [FH.j4] at h
  refine ad (cT [0,0,0] (qi h (fun h=> ?_) (fun h=> ?_)))
  ·refine kT (ad (ap (cH [0,0] (oA 0 (fun agh=>?_)))))
   obtain⟨Rx,h⟩:=gd h
   exact tO (pA 0 1 gS 2 b_.length 1 ct 1 8 (sB agh) aG b_ ([ew]:List Int) gb (vI 0) rfl rfl bf fT C' Da (fun w hm=>(hm.ow 2 (some agh) 2 ([ew]:List Int) [] (fun e=>nomatch e) bf)) Rx (fun Ry C8 rl zY zZ=>oH [0] (qe (nT (cH [0,0,0] (qe (qb ((b_++([ew]:List Int)),(au (ew+1))) ⟨Ry,C8,rl,(b_++([ew]:List Int)).length⟩ h ⟨rfl,zY,zZ⟩ [0,1])))))))
  ·exact lX b_ h (fun e=>by subst e;exact bo (qm ⟨b_,gS,ct,gb,b_.length⟩ ⟨Ai,rfl,C',Da⟩ [0,1]))
 ·rintro⟨aZ,vT,dv,ji,lm⟩ ⟨h,rfl,DU,DV⟩
  unfold FH.nS at h
  refine aP (ad (cT [0,0,0] (aK (fun(j:(List Int)×Int×Int)=>match j with | ⟨eH,jQ,oZ⟩=>FH.qw eH jQ oZ=some r∧(eH.length=aZ.length)∧(hO vT eH dv)) (fun⟨eH,jQ,oZ⟩=> [(4,[],(.slice none 0 0)),(6,[],(.slice (mB vT) aZ.length dv))]) (fun⟨eH,jQ,oZ⟩=> [⟨some cD,169,[(.slice cQ be.length bX),(vI jQ),(.int .u64 oZ)]⟩,⟨vT,2,row aG eH ji⟩]) ?_ ?_)))
  ·refine ap ?_
   obtain⟨lD,Sn,agi⟩:=bd h
   refine jl (fun(s:(List Int)×Int×Int×Int) (x:Unit)=>match s,x with | ⟨a7,fy,fL,cK⟩,_=>(a7.length=aZ.length)∧(hO vT a7 dv)) (fun⟨a7,fy,fL,cK⟩ _=> [(4,[],(.slice none 0 0)),(5,[],(vP cD)),(6,[],(.slice (mB vT) aZ.length dv)),(8,[],(vI cK))]) (fun⟨a7,fy,fL,cK⟩ _=> [⟨some cD,169,[(.slice cQ be.length bX),(vI fy),(.int .u64 fL)]⟩,⟨vT,2,row aG a7 ji⟩]) Sn () ⟨rfl,DV⟩ [0,1] ?_
   rintro⟨a7,fy,fL,cK⟩ _ aaU ⟨Hj,kU⟩ h
   rw [FH.jX] at h
   refine ad (cT [0,0] (qi h (fun h=> ?_) (fun h=> ?_)))
   ·refine kT (ad (ap (cR [0,0,0] (bE h fun jU Ua h=>oC 0 (fun w hm=>Fl.c (⟨be,fy,fL⟩:a6) (au (cK+1)) w _ bX (hm.xr eX) rfl cD (hm.ps [0]) (hm.xp eX (fun _=>cq) [0]) Ua) ?_))))
    rintro w v w' hm ⟨rfl,bn⟩
    exact ⟨_,hm.aW [(0,⟨some cD,169,[(.slice cQ be.length bX),(vI jU.2.dy),(.int .u64 jU.2.bF)]⟩)] [] bn,oH [0] (eT (cR [0,0] (bE h fun Cs xd h=>oX 0 (mB vT) 1 xd Hj (nl kU xd) (oL 0 false (aX 1 vT 2 a7 ji kU bf xd) (qh [0] (eT (cR [0,0,0,0] (bE h fun sw En h=>oX 0 (mB vT) 1 En Hj (nl kU En) (oL 0 false (aX 1 vT 2 a7 ji kU bf En) (bE h fun R6 DN h=>oX 0 (mB vT) 1 DN Hj (nl kU DN) (tO (pO 0 1 vT 2 aG a7 ji cK sw 1 0 [(vI sw)] (fun e=>(kU e).1) bf DN (fB (eT (cH [0,0,0] (bE h fun aiL sh h=>oX 0 (mB vT) 1 sh (eJ.trans Hj) (nl (fK kU) sh) (tO (pO 0 1 vT 2 aG (a7.set cK.toNat sw) ji jU.1 Cs 1 0 [(vI Cs)] (fun e=>((fK kU) e).1) bf sh (fB (qe (nT (cH [0,0,0] (qe (qb (((a7.set cK.toNat sw).set jU.1.toNat Cs),jU.2.dy,jU.2.bF,(au (cK-1))) () h ⟨(eJ.trans (eJ.trans Hj)),(fK (fK kU))⟩ [0,1]))))))))))))))))))))))))⟩
   ·exact lX (a7,fy,fL) h (fun e=>by subst e;exact bo (qm ⟨a7,fy,fL⟩ ⟨agi,Hj,kU⟩ [0,1]))
  ·rintro⟨eH,jQ,oZ⟩ ⟨h,agj,Kd⟩
   unfold FH.qw at h
   refine aP (cT [0,0] (aI ?_))
   obtain rfl:=si h
   exact qr [] (fun w hm=>⟨vT,dv,ji,aZ.length,agj,DU,Kd,rfl,hm.pk [1]⟩)
def FbD(s0:a6):Option (aQ×a6):=(Fl s0 12).bind fun bz=>(Fl (⟨s0.aJ,bz.2.dy,bz.2.bF⟩:a6) 6).bind fun aA=>(Fl (⟨s0.aJ,aA.2.dy,aA.2.bF⟩:a6) 4).bind fun dj=>some ((⟨(ot bz.1),(ot aA.1),(ot dj.1)⟩:aQ),(⟨s0.aJ,dj.2.dy,dj.2.bF⟩:a6))
theorem FbD.c(s0:a6)(w:World)(r:aQ×a6){ej:Option Addr}{eY:Nat}(dV:Nat)(fD:Rw w ej 1 jS s0.aJ)(jC:s0.aJ.length=eY)(aH:Nat)(fG:Mem w (bs [some aH]) [⟨some aH,169,[(.slice ej eY dV),(vI s0.dy),(.int .u64 s0.bF)]⟩] w)(dE:s0.aJ≠ []→aB ej∉bs [some aH])(h:FbD s0=some r):
   Cr 58 #[(vP aH)] w fun v w'=>v= .agg (aC r.1)∧Mem w (bs [some aH]) [⟨some aH,169,[(.slice ej eY dV),(vI r.2.dy),(.int .u64 r.2.bF)]⟩] w':=by
 subst jC
 rw [FbD] at h
 refine eN Tryz.func58 rfl Tryz.ntmps58 fG (ad (ao (oA 0 (fun fa=>eT (cR [0] (bE h fun bz gv h=>oC 0 (fun w hm=>Fl.c s0 12 w _ dV (hm.aM fD dE) rfl aH (hm.ps [0]) (hm.xp fD dE [0]) gv) ?_))))))
 rintro w v w' hm ⟨rfl,bn⟩
 refine ⟨_,hm.aW [(0,⟨some aH,169,[(.slice ej s0.aJ.length dV),(vI bz.2.dy),(.int .u64 bz.2.bF)]⟩)] [] bn,oH [0,0] (bE h fun aA kN h=>oC 0 (fun w hm=>Fl.c (⟨s0.aJ,bz.2.dy,bz.2.bF⟩:a6) 6 w _ dV (hm.aM fD dE) rfl aH (hm.ps [0]) (hm.xp fD dE [0]) kN) ?_)⟩
 rintro w v w' hm ⟨rfl,bn⟩
 refine ⟨_,hm.aW [(0,⟨some aH,169,[(.slice ej s0.aJ.length dV),(vI aA.2.dy),(.int .u64 aA.2.bF)]⟩)] [] bn,oH [0,0] (oA 0 (fun gx=>oS 0 [2] (eT (cR [0] (bE h fun dj jP h=>oC 0 (fun w hm=>Fl.c (⟨s0.aJ,aA.2.dy,aA.2.bF⟩:a6) 4 w _ dV (hm.aM fD dE) rfl aH (hm.ps [0]) (hm.xp fD dE [0]) jP) ?_)))))⟩
 rintro w v w' hm ⟨rfl,bn⟩
 refine ⟨_,hm.aW [(0,⟨some aH,169,[(.slice ej s0.aJ.length dV),(vI dj.2.dy),(.int .u64 dj.2.bF)]⟩)] [] bn,oH [0,0] (oS 0 [2] (eT (cR [2] (oS 0 [1] (eT (aI ?_))))))⟩
 obtain rfl:=si h
 exact qr [1] (fun w hm=>⟨rfl,hm.pk [0]⟩)
def Fb9(be:List Int):Option (aQ):=(E2 be).bind fun aA=>(FbD (⟨be,aA.dy,aA.bF⟩:a6)).bind fun bz=>some bz.1
theorem Fb9.c(be:List Int)(w:World)(r:aQ){cQ:Option Addr}{ck:Nat}(bX:Nat)(eX:Rw w cQ 1 jS be)(dH:be.length=ck)(h:Fb9 be=some r):
   Cr 24 #[(.slice cQ ck bX)] w fun v w'=>v= .agg (aC r)∧Mem w [] [] w':=by
 subst dH
 rw [Fb9] at h
 refine en Tryz.func24 rfl Tryz.ntmps24 (ad (ao (oA 0 (fun cD=>eT (cR [0] (bE h fun aA iD h=>oC 0 (fun w hm=>E2.c be w _ bX (hm.xr eX) rfl iD) ?_))))))
 rintro w v w' hm ⟨fV,rfl,bn⟩
 refine aq hm bn (fB (bE h fun bz jP h=>oC 0 (fun w hm=>FbD.c (⟨be,aA.dy,aA.bF⟩:a6) w _ bX (hm.xr eX) rfl fV (hm.ps [1]) (hm.xp eX (fun _=>cq) [1]) jP) ?_))
 rintro w v w' hm ⟨rfl,bn⟩
 refine ⟨_,hm.aW [(1,⟨some fV,169,[(.slice cQ be.length bX),(vI bz.2.dy),(.int .u64 bz.2.bF)]⟩)] [] bn,fB (oS 0 [0] (eT (aI ?_)))⟩
 obtain rfl:=si h
 exact qr [0] (fun w hm=>⟨rfl,hm.pk []⟩)
def FU.po(fX:List ab)(kf:av 96 Int)(jQ:Int)(cK:Int):Option ((List ab)):=some fX
def FU.PZ(aZ:List ab)(cS:Int)(bz:Int×a6)(x6:av 96 Int)(qU:Bool)(gr:Int)(fC:Int)(fy:Int):Option (((List ab)×(av 96 Int)×Int×Int×Int)⊕(((List ab)×(av 96 Int)×Int×Int))):=(if aZ.length+([(⟨qU,gr,fC,fy⟩:ab)]:List ab).length≤4294967296 then some (.inl ((aZ++([(⟨qU,gr,fC,fy⟩:ab)]:List ab)),x6,bz.2.dy,bz.2.bF,(au (cS+1)))) else none)
def FU.jX(be:List Int)(f1:ae)(t2:List ai):((List ab)×(av 96 Int)×Int×Int×Int)→Option (((List ab)×(av 96 Int)×Int×Int×Int)⊕(((List ab)×(av 96 Int)×Int×Int)))
 | (aZ,rc,gw,mf,cS)=>(if(decide (cS<(t2.length:Int)))=true then(ix t2 cS).bind fun H3=>(FA f1 H3).bind fun j7=>(Fl (⟨be,gw,mf⟩:a6) (j7.length:Int)).bind fun bz=>(ix j7 bz.1).bind fun q_=>(ix t2 cS).bind fun H4=>(TI f1 rc H4 q_).bind fun uJ=>(if(!uJ.1)=true then FU.PZ aZ cS bz uJ.2 true 0 0 0 else FU.PZ aZ cS bz uJ.2 q_.bJ q_.cP q_.ba q_.eU) else some (.inr (aZ,rc,gw,mf)))
def FU(be:List Int)(f1:ae)(t2:List ai):Option ((List ab)):=(E2 be).bind fun i_=>(loop (FU.jX be f1 t2) (([]:List ab),(av.dC 96 0),i_.dy,i_.bF,0)).bind fun tE=>FU.po tE.1 tE.2.1 tE.2.2.1 tE.2.2.2
theorem FU.c(be:List Int)(f1:ae)(t2:List ai)(w:World)(r:(List ab)){cQ:Option Addr}{ck:Nat}(bX:Nat)(eX:Rw w cQ 1 jS be)(dH:be.length=ck){bL:Option Addr}{bG:Nat}(bQ:Nat)(dL:Rw w bL 2 ay f1.aa)(dU:f1.aa.length=bG){dI:Option Addr}{db:Nat}(eA:Nat)(g_:Rw w dI 2 aF t2)(ga:t2.length=db)(h:FU be f1 t2=some r):
   Cr 25 #[(.slice cQ ck bX),(.agg #[(vH f1.ag),(.slice bL bG bQ)]),(.slice dI db eA)] w fun v w'=>∃(o0:Option Nat) (c0:Nat) (s0:List Value) (n0:Nat),r.length=n0∧(hS o0 n0 c0 s0 4)∧(hO o0 r c0)∧v= .slice (mB o0) n0 c0∧Mem w [] [⟨o0,72,row af r s0⟩] w':=by
 subst dH dU ga
 rw [FU] at h
 refine en Tryz.func25 rfl Tryz.ntmps25 (ad (ao (oA 0 (fun ur=>qh [0] (eT (cR [0] (bE h fun i_ iR h=>oC 0 (fun w hm=>E2.c be w _ bX (hm.xr eX) rfl iR) ?_)))))))
 rintro w v w' hm ⟨fV,rfl,bn⟩
 refine aq hm bn (oH [0] (eT (ad (ao (oA 0 (fun abn=>qh [0] (eT (cR [0] (oA 0 (fun gC=>tO (pS 0 3 gC 96 1 36 aj (av.dC 96 0) (av.dC 96 0) an bk (fB (eT (ad (cT [0] (aK (fun(j:(List ab)×(av 96 Int)×Int×Int×(Option Nat)×Nat×(List Value)×Nat)=>match j with | ⟨fX,kf,jQ,cK,lY,iT,jT,pZ⟩=>FU.po fX kf jQ cK=some r∧(fX.length=pZ)∧(hS lY pZ iT jT 4)∧(hO lY fX iT)) (fun⟨fX,kf,jQ,cK,lY,iT,jT,pZ⟩=> [(6,[],(.slice none 0 0)),(8,[],(.slice (mB lY) pZ iT))]) (fun⟨fX,kf,jQ,cK,lY,iT,jT,pZ⟩=> [⟨some ur,29,cF f1 bL bQ⟩,⟨some fV,169,[(.slice cQ be.length bX),(vI jQ),(.int .u64 cK)]⟩,⟨lY,72,row af fX jT⟩,⟨(some gC),36,row aj kf.1 []⟩]) ?_ ?_))))))))))))))))
 ·refine ap ?_
  obtain⟨tE,oT,J_⟩:=bd h
  refine jl (fun(s:(List ab)×(av 96 Int)×Int×Int×Int) (x:(Option Nat)×Nat×(List Value)×Nat)=>match s,x with | ⟨aZ,rc,gw,mf,cS⟩,⟨im,jg,gb,p6⟩=>(aZ.length=p6)∧(hS im p6 jg gb 4)∧(hO im aZ jg)) (fun⟨aZ,rc,gw,mf,cS⟩ ⟨im,jg,gb,p6⟩=> [(2,[],(.slice dI t2.length eA)),(4,[],(vP ur)),(6,[],(.slice none 0 0)),(7,[],(vP fV)),(8,[],(.slice (mB im) p6 jg)),(9,[],(vP gC)),(10,[],(vI cS))]) (fun⟨aZ,rc,gw,mf,cS⟩ ⟨im,jg,gb,p6⟩=> [⟨some ur,29,cF f1 bL bQ⟩,⟨some fV,169,[(.slice cQ be.length bX),(vI gw),(.int .u64 mf)]⟩,⟨im,72,row af aZ gb⟩,⟨(some gC),36,row aj rc.1 []⟩]) oT ⟨(some abn),0,[],0⟩ ⟨rfl,(fun _=>⟨bt _,by simp⟩),(fun e=>nomatch e)⟩ [0,1,2,3] ?_
  rintro⟨aZ,rc,gw,mf,cS⟩ ⟨im,jg,gb,p6⟩ acR ⟨rfl,Jy,vq⟩ h
  rw [FU.jX] at h
  refine ad (cT [0,0,0,0] (qi h (fun h=> ?_) (fun h=> ?_)))
  ·refine kT (ad (ap (cR [0,0] (bE h fun H3 GY h=>oX 0 dI 2 GY rfl (g_.sp GY) (oL 0 true (fun w hm=>((hm.xr g_).at GY)) (bE h fun j7 JG h=>oC 0 (fun w hm=>FA.c f1 H3 w _ bQ (hm.xr dL) rfl ur (hm.ps [0]) (hm.xp dL (fun _=>cq) [0]) JG) ?_))))))
   rintro w v w' hm ⟨Ub,H',kS,_,rfl,ajI,B0,rfl,bn⟩
   refine ⟨_,hm.aW [(0,⟨some ur,29,cF f1 bL bQ⟩)] [⟨Ub,72,row af j7 kS⟩] bn,oH [0] (eT (cR [0,0,0,0] (bE h fun bz z6 h=>oC 0 (fun w hm=>Fl.c (⟨be,gw,mf⟩:a6) (j7.length:Int) w _ bX (hm.xr eX) rfl fV (hm.ps [1]) (hm.xp eX (fun _=>cq) [1]) z6) ?_)))⟩
   rintro w v w' hm ⟨rfl,bn⟩
   refine ⟨_,hm.aW [(1,⟨some fV,169,[(.slice cQ be.length bX),(vI bz.2.dy),(.int .u64 bz.2.bF)]⟩)] [] bn,fB (bE h fun q_ tj h=>oX 0 (mB Ub) 4 tj rfl (nl B0 tj) (oL 0 true (aX 4 Ub 72 j7 kS B0 az tj) (oA 0 (fun Pr=>oS 0 [5] (eT (ad (aK (fun(j:(av 96 Int)×Bool×Int×Int×Int)=>match j with | ⟨x6,qU,gr,fC,fy⟩=>FU.PZ aZ cS bz x6 qU gr fC fy=some acR) (fun⟨x6,qU,gr,fC,fy⟩=> [(2,[],(.slice dI t2.length eA)),(4,[],(vP ur)),(6,[],(.slice none 0 0)),(7,[],(vP fV)),(8,[],(.slice (mB im) aZ.length jg)),(9,[],(vP gC)),(10,[],(vI cS)),(12,[],(vP Pr))]) (fun⟨x6,qU,gr,fC,fy⟩=> [⟨some ur,29,cF f1 bL bQ⟩,⟨some fV,169,[(.slice cQ be.length bX),(vI bz.2.dy),(.int .u64 bz.2.bF)]⟩,⟨im,72,row af aZ gb⟩,⟨(some gC),36,row aj x6.1 []⟩,⟨Ub,72,row af j7 kS⟩,⟨some Pr,72,[(.bool qU),(vB gr),(vB fC),(vB fy)]⟩]) ?_ ?_)))))))⟩
   ·refine ad (qg [⟨some ur,29,cF f1 bL bQ⟩,⟨some fV,169,[(.slice cQ be.length bX),(vI bz.2.dy),(.int .u64 bz.2.bF)]⟩,⟨im,72,row af aZ gb⟩,⟨Ub,72,row af j7 kS⟩,⟨some Pr,72,cY q_⟩] 7 (qd [⟨0,0,0⟩,⟨1,0,0⟩,⟨4,4,0⟩] 4 [0,1,2,4,5] (bE h fun H4 sk h=>qX 2 0 [0,1,2,4,5] dI 2 sk rfl (g_.sp sk) (qL 3 0 [0,1,2,4,5] true (fun w hm=>(hm.xr g_).at sk) (bE h fun uJ JH h=>tD 5 (pc 0 (fun w hm=>TI.c f1 rc H4 q_ w _ bQ (hm.xr dL) rfl ur gC (hm.ps [0,3]) (hm.xp dL (fun _=>cq) [0,3]) JH) ?_))))))
    rintro w v w' hm ⟨rfl,bn⟩
    refine ⟨_,hm.aW [(0,⟨some ur,29,cF f1 bL bQ⟩),(3,⟨(some gC),36,row aj uJ.2.1 []⟩)] [] bn,kD [0,1,2,4,5] (qd [⟨6,0,0⟩] 0 [0,1,2,4,5] (zT (qi h (fun h=> ?_) (fun h=> ?_))))⟩
    ·exact cH [0] (oS 0 [5] (qe (qm ⟨uJ.2,true,0,0,0⟩ h [0,1,2,3,4,5])))
    ·exact bV (qm ⟨uJ.2,q_.bJ,q_.cP,q_.ba,q_.eU⟩ h [0,1,2,3,4,5])
   ·rintro⟨x6,qU,gr,fC,fy⟩ h
    unfold FU.PZ at h
    refine aP (cH [0,5] (oA 0 (fun WV=>?_)))
    obtain⟨T9,h⟩:=gd h
    exact tO (pA 0 2 im 72 aZ.length 1 jg 4 4 (sB WV) af aZ ([(⟨qU,gr,fC,fy⟩:ab)]:List ab) gb (.agg #[(.bool false),(vB 0),(vB 0),(vB 0)]) rfl rfl az eI Jy vq (fun w hm=>(hm.ow 6 (some WV) 72 ([(⟨qU,gr,fC,fy⟩:ab)]:List ab) [] (fun e=>nomatch e) az)) T9 (fun aiM abo agk Kk Kl=>oH [0] (qe (nT (cH [0,0,0] (qe (qb ((aZ++([(⟨qU,gr,fC,fy⟩:ab)]:List ab)),x6,bz.2.dy,bz.2.bF,(au (cS+1))) ⟨aiM,abo,agk,(aZ++([(⟨qU,gr,fC,fy⟩:ab)]:List ab)).length⟩ h ⟨rfl,Kk,Kl⟩ [0,1,2,3])))))))
  ·exact lX (aZ,rc,gw,mf) h (fun e=>by subst e;exact bo (qm ⟨aZ,rc,gw,mf,im,jg,gb,aZ.length⟩ ⟨J_,rfl,Jy,vq⟩ [0,1,2,3]))
 ·rintro⟨fX,kf,jQ,cK,lY,iT,jT,pZ⟩ ⟨h,rfl,Tz,Ke⟩
  unfold FU.po at h
  refine aP (cT [0,0] (aI ?_))
  obtain rfl:=si h
  exact qr [] (fun w hm=>⟨lY,iT,jT,fX.length,rfl,Tz,Ke,rfl,hm.pk [2]⟩)
def cZ.P0(be:List Int)(eM:List Int)(aA:ae)(bz:(List ai))(gu:(av 96 Int))(E3:av 96 Int):Option (Bool):=(Fb7 eM).bind fun qI=>(Im be qI).bind fun iI=>(Fb8 be).bind fun dj=>(bx aA bz gu E3 20000).bind fun tF=>(if tF=true then(FH eM (iI.length:Int)).bind fun mj=>(cm qI iI mj).bind fun E_=>(if E_=true then(Fb9 eM).bind fun Pu=>(FU eM dj.1 dj.2).bind fun qM=>(bI dj.1 dj.2 Pu qM 20000).bind fun agl=>some agl else some false) else some false)
def cZ.fk(be:List Int)(eM:List Int)(ja:Bool):Option (Bool):=(if ja=true then(if 0≤(1:Int)∧(1:Int)≤(be.length:Int) then(dp (⟨(be.drop (1:Int).toNat),0⟩:a_)).bind fun dz=>(dA (⟨(be.drop (1:Int).toNat),dz.2.dy⟩:a_)).bind fun jU=>(cA (⟨(be.drop (1:Int).toNat),jU.2.dy⟩:a_)).bind fun iq=>(cA (⟨(be.drop (1:Int).toNat),iq.2.dy⟩:a_)).bind fun kI=>(dq (⟨eM,0⟩:a_)).bind fun s8=>(dB (⟨eM,s8.2.dy⟩:a_)).bind fun lj=>(cy (⟨eM,lj.2.dy⟩:a_)).bind fun kY=>(aS (⟨eM,kY.2.dy⟩:a_)).bind fun j7=>(aS (⟨eM,j7.2.dy⟩:a_)).bind fun w9=>(aS (⟨eM,w9.2.dy⟩:a_)).bind fun uJ=>(aS (⟨eM,uJ.2.dy⟩:a_)).bind fun qQ=>(bx dz.1 jU.1 iq.1 kI.1 (qH .i64 qQ.1 16383)).bind fun agm=>(if agm=true then(cm dz.1 s8.1 lj.1).bind fun agn=>(if agn=true then(bI dz.1 jU.1 (⟨(ot j7.1),(ot w9.1),(ot uJ.1)⟩:aQ) kY.1 (qH .i64 qQ.1 16383)).bind fun ago=>some ago else some false) else some false) else none) else(Fb6 be).bind fun aA=>(I_ eM aA 6).bind fun bz=>(Fcc eM aA).bind fun gu=>(Zj aA bz 20000).bind fun sf=>(p' be 1 3).bind fun agp=>(if(agp==0)=true then(Zk aA bz).bind fun sn=>cZ.P0 be eM aA bz gu sn.1 else cZ.P0 be eM aA bz gu sf.1))
def cZ(be:List Int)(eM:List Int):Option (Bool):=(if((decide ((be.length:Int)>65536)) || (decide ((eM.length:Int)>65536)))=true then some true else(if(decide ((be.length:Int)>0))=true then(ix be 0).bind fun D1=>cZ.fk be eM (decide (D1≥128)) else cZ.fk be eM false))
set_option maxHeartbeats 8000000 in
theorem cZ.c(be:List Int)(eM:List Int)(w:World)(r:Bool){cQ:Option Addr}{ck:Nat}(bX:Nat)(eX:Rw w cQ 1 jS be)(dH:be.length=ck)(aiN:be.length≤bX){ej:Option Addr}{eY:Nat}(dV:Nat)(fD:Rw w ej 1 jS eM)(jC:eM.length=eY)(h:cZ be eM=some r):
   Cq 3 #[(.slice cQ ck bX),(.slice ej eY dV)] w (.bool r) [] []:=by
 subst dH jC
 rw [cZ] at h
 refine en Tryz.func3 rfl Tryz.ntmps3 (cT [0] (s2 (ao (qf [(0,0),(0,0),(0,0),(0,0),(0,1),(0,1),(0,1),(0,0)] (eT (qi h (fun h=> ?_) (fun h=> ?_)))))))
 ·refine cT [0] (rX ?_)
  cases h
  exact qP []
 ·refine kT (s2 (aK (fun(ja:Bool)=>cZ.fk be eM ja=some r) (fun ja=> [(0,[],(.slice cQ be.length bX)),(1,[],(.slice ej eM.length dV)),(4,[],(.bool false)),(41,[],(.bool ja))]) (fun ja=> []) ?_ ?_))
  ·refine ao (qf [(0,0),(0,0),(0,0),(0,0),(0,1)] (qp 36 h (fun h=> ?_) (fun h=> ?_)))
   ·exact bE h fun D1 ym h=>oX 2 cQ 1 ym rfl (eX.sp ym) (oL 2 false (fun w hm=>((hm.xr eX).at ym)) (qf [(0,2),(0,4)] (qe (qm (decide (D1≥128)) h []))))
   ·exact qf [(0,3),(0,3),(0,3),(0,5)] (qe (qm false h []))
  ·rintro ja h
   unfold cZ.fk at h
   refine aP (qi h (fun h=> ?_) (fun h=> ?_))
   ·refine cR [0] ?_
    obtain⟨Zl,h⟩:=gd h
    have B1:=eX.tl (1:Int).toNat bX aiN
    refine tO (pK 0 cQ be.length bX 1 1 Zl.1 (Int.le_trans Zl.2 (Int.ofNat_le.2 (Nat.le_of_eq rfl))) (oH [0] (oA 0 (fun vW=>qh [0] (eT (cR [0] (bE h fun dz Tb h=>oC 0 (fun w hm=>dp.c (⟨(be.drop (1:Int).toNat),0⟩:a_) w _ (bX-(1:Int).toNat) (hm.xr B1) (wD rfl 1) vW (hm.ps [0]) (hm.xp B1 (fun _=>cq) [0]) Tb) ?_)))))))
    rintro w v w' hm ⟨Gl,u',uE,_,rfl,Y_,nW,rfl,bn⟩
    refine ⟨_,hm.aW [(0,⟨some vW,25,[(.slice (pa cQ (1:Int).toNat bX 1) (be.length-(1:Int).toNat) (bX-(1:Int).toNat)),(vI dz.2.dy)]⟩)] [⟨Gl,68,row ay dz.1.aa uE⟩] bn,oH [0] (bE h fun jU agq h=>oC 0 (fun w hm=>dA.c (⟨(be.drop (1:Int).toNat),dz.2.dy⟩:a_) w _ (bX-(1:Int).toNat) (hm.xr B1) (wD rfl 1) vW (hm.ps [0]) (hm.xp B1 (fun _=>cq) [0]) agq) ?_)⟩
    rintro w v w' hm ⟨WT,Uc,Ud,_,rfl,ajJ,Zm,rfl,bn⟩
    refine ⟨_,hm.aW [(0,⟨some vW,25,[(.slice (pa cQ (1:Int).toNat bX 1) (be.length-(1:Int).toNat) (bX-(1:Int).toNat)),(vI jU.2.dy)]⟩)] [⟨WT,70,row aF jU.1 Ud⟩] bn,oH [0] (bE h fun iq Tc h=>oC 0 (fun w hm=>cA.c (⟨(be.drop (1:Int).toNat),jU.2.dy⟩:a_) w _ (bX-(1:Int).toNat) (hm.xr B1) (wD rfl 1) vW (hm.ps [0]) (hm.xp B1 (fun _=>cq) [0]) Tc) ?_)⟩
    rintro w v w' hm ⟨rfl,bn⟩
    refine ⟨_,hm.aW [(0,⟨some vW,25,[(.slice (pa cQ (1:Int).toNat bX 1) (be.length-(1:Int).toNat) (bX-(1:Int).toNat)),(vI iq.2.dy)]⟩)] [] bn,oH [0] (bE h fun kI agr h=>oC 0 (fun w hm=>cA.c (⟨(be.drop (1:Int).toNat),iq.2.dy⟩:a_) w _ (bX-(1:Int).toNat) (hm.xr B1) (wD rfl 1) vW (hm.ps [0]) (hm.xp B1 (fun _=>cq) [0]) agr) ?_)⟩
    rintro w v w' hm ⟨rfl,bn⟩
    refine ⟨_,hm.aW [(0,⟨some vW,25,[(.slice (pa cQ (1:Int).toNat bX 1) (be.length-(1:Int).toNat) (bX-(1:Int).toNat)),(vI kI.2.dy)]⟩)] [] bn,fB (oA 0 (fun akt=>oA 0 (fun aa8=>oA 0 (fun W5=>oS 0 [3] (qh [0] (tO (pS 0 4 aa8 96 1 36 aj (av.dC 96 0) iq.1 an bk (fB (tO (pS 0 5 W5 96 1 36 aj (av.dC 96 0) kI.1 an bk (fB (eT (cR [0,0] (oA 0 (fun gx=>qh [0] (eT (cR [0] (bE h fun s8 D3 h=>oC 0 (fun w hm=>dq.c (⟨eM,0⟩:a_) w _ dV (hm.xr fD) rfl gx (hm.ps [6]) (hm.xp fD (fun _=>cq) [6]) D3) ?_))))))))))))))))))⟩
    rintro w v w' hm ⟨Pv,abp,Zn,_,rfl,ajK,S5,rfl,bn⟩
    refine ⟨_,hm.aW [(6,⟨some gx,25,[(.slice ej eM.length dV),(vI s8.2.dy)]⟩)] [⟨Pv,36,row da s8.1 Zn⟩] bn,oH [0] (bE h fun lj SJ h=>oC 0 (fun w hm=>dB.c (⟨eM,s8.2.dy⟩:a_) w _ dV (hm.xr fD) rfl gx (hm.ps [6]) (hm.xp fD (fun _=>cq) [6]) SJ) ?_)⟩
    rintro w v w' hm ⟨PP,abq,Zo,_,rfl,Za,Kx,rfl,bn⟩
    refine ⟨_,hm.aW [(6,⟨some gx,25,[(.slice ej eM.length dV),(vI lj.2.dy)]⟩)] [⟨PP,2,row aG lj.1 Zo⟩] bn,oH [0] (bE h fun kY TK h=>oC 0 (fun w hm=>cy.c (⟨eM,lj.2.dy⟩:a_) w _ dV (hm.xr fD) rfl gx (hm.ps [6]) (hm.xp fD (fun _=>cq) [6]) TK) ?_)⟩
    rintro w v w' hm ⟨Xq,MK,Zp,_,rfl,ajL,T0,rfl,bn⟩
    refine ⟨_,hm.aW [(6,⟨some gx,25,[(.slice ej eM.length dV),(vI kY.2.dy)]⟩)] [⟨Xq,72,row af kY.1 Zp⟩] bn,oH [0,0,0] (eT (cR [0] (bE h fun j7 KG h=>oC 0 (fun w hm=>aS.c (⟨eM,kY.2.dy⟩:a_) w _ dV (hm.xr fD) rfl gx (hm.ps [6]) (hm.xp fD (fun _=>cq) [6]) KG) ?_)))⟩
    rintro w v w' hm ⟨rfl,bn⟩
    refine ⟨_,hm.aW [(6,⟨some gx,25,[(.slice ej eM.length dV),(vI j7.2.dy)]⟩)] [] bn,oH [0,0] (bE h fun w9 ags h=>oC 0 (fun w hm=>aS.c (⟨eM,j7.2.dy⟩:a_) w _ dV (hm.xr fD) rfl gx (hm.ps [6]) (hm.xp fD (fun _=>cq) [6]) ags) ?_)⟩
    rintro w v w' hm ⟨rfl,bn⟩
    refine ⟨_,hm.aW [(6,⟨some gx,25,[(.slice ej eM.length dV),(vI w9.2.dy)]⟩)] [] bn,oH [0,0] (bE h fun uJ agt h=>oC 0 (fun w hm=>aS.c (⟨eM,w9.2.dy⟩:a_) w _ dV (hm.xr fD) rfl gx (hm.ps [6]) (hm.xp fD (fun _=>cq) [6]) agt) ?_)⟩
    rintro w v w' hm ⟨rfl,bn⟩
    refine ⟨_,hm.aW [(6,⟨some gx,25,[(.slice ej eM.length dV),(vI uJ.2.dy)]⟩)] [] bn,oH [0,0] (oA 0 (fun aku=>oS 0 [10] (eT (cR [0] (bE h fun qQ agu h=>oC 0 (fun w hm=>aS.c (⟨eM,uJ.2.dy⟩:a_) w _ dV (hm.xr fD) rfl gx (hm.ps [6]) (hm.xp fD (fun _=>cq) [6]) agu) ?_)))))⟩
    rintro w v w' hm ⟨rfl,bn⟩
    refine ⟨_,hm.aW [(6,⟨some gx,25,[(.slice ej eM.length dV),(vI qQ.2.dy)]⟩)] [] bn,oH [0,0] (eT (cR [3,0] (tO (pL 0 4 aa8 96 1 36 aj iq.1 an (fB (tO (pL 0 5 W5 96 1 36 aj kI.1 an (oH [0] (bE h fun agm agv h=>oQ 0 (fun w hm=>bx.c dz.1 jU.1 iq.1 kI.1 (qH .i64 qQ.1 16383) w _ u' (hm.ow 1 Gl 68 dz.1.aa uE (fun e=>(nW e).1) cW) rfl Uc (hm.ow 2 WT 70 jU.1 Ud (fun e=>(Zm e).1) br) rfl agv) (qf [(0,0),(3,1),(0,1),(0,1)] (qp 82 h (fun h=> ?_) (fun h=> ?_))))))))))))⟩
    ·refine bE h fun agn KH h=>oQ 2 (fun w hm=>cm.c dz.1 s8.1 lj.1 w _ u' (hm.ow 1 Gl 68 dz.1.aa uE (fun e=>(nW e).1) cW) rfl abp (hm.ow 7 Pv 36 s8.1 Zn (fun e=>(S5 e).1) dD) rfl abq (hm.ow 8 PP 2 lj.1 Zo (fun e=>(Kx e).1) bf) rfl KH) (qf [(0,4),(0,0),(3,1),(0,1),(10,1),(0,1),(0,1)] (qp 88 h (fun h=> ?_) (fun h=> ?_)))
     ·refine bE h fun ago agw h=>oQ 2 (fun w hm=>bI.c dz.1 jU.1 (⟨(ot j7.1),(ot w9.1),(ot uJ.1)⟩:aQ) kY.1 (qH .i64 qQ.1 16383) w _ u' (hm.ow 1 Gl 68 dz.1.aa uE (fun e=>(nW e).1) cW) rfl Uc (hm.ow 2 WT 70 jU.1 Ud (fun e=>(Zm e).1) br) rfl MK (hm.ow 9 Xq 72 kY.1 Zp (fun e=>(T0 e).1) az) rfl agw) (qf [(0,4),(0,0)] (eT (rX ?_)))
      cases h
      exact qP []
     ·refine qf [(0,3),(0,5),(0,0)] (eT (rX ?_))
      cases h
      exact qP []
    ·refine qf [(0,3),(0,5),(0,0),(0,3),(0,3),(0,3),(0,3),(0,3),(0,3),(0,5),(0,0)] (eT (rX ?_))
     cases h
     exact qP []
   ·refine kT (cR [0] (bE h fun aA Tj h=>oC 0 (fun w hm=>Fb6.c be w _ bX (hm.xr eX) rfl Tj) ?_))
    rintro w v w' hm ⟨j8,fw,fM,_,rfl,ajM,iz,rfl,bn⟩
    refine aq hm bn (fB (oA 0 (fun Dw=>oS 0 [1] (eT (cR [0,1] (bE h fun bz agx h=>oC 0 (fun w hm=>I_.c eM aA 6 w _ dV (hm.xr fD) rfl fw (hm.ow 0 j8 68 aA.aa fM (fun e=>(iz e).1) cW) rfl agx) ?_))))))
    rintro w v w' hm ⟨w_,DJ,nV,_,rfl,ajN,D',rfl,bn⟩
    refine aq hm bn (oH [0] (eT (cR [0,1] (bE h fun gu Tk h=>oQ 0 (fun w hm=>Fcc.c eM aA w _ dV (hm.xr fD) rfl fw (hm.ow 0 j8 68 aA.aa fM (fun e=>(iz e).1) cW) rfl Tk) (oA 0 (fun Ue=>tO (pS 0 3 Ue 96 1 36 aj (av.dC 96 0) gu an bk (fB (eT (cR [1,0] (bE h fun sf KJ h=>oQ 0 (fun w hm=>Zj.c aA bz 20000 w _ fw (hm.ow 0 j8 68 aA.aa fM (fun e=>(iz e).1) cW) rfl DJ (hm.ow 2 w_ 70 bz nV (fun e=>(D' e).1) br) rfl KJ) (qh [0,0,0,0] (oA 0 (fun vM=>tO (pS 0 4 vM 96 1 36 aj (av.dC 96 0) sf.1 an bk (oH [0,0] (eT (ad (aK (fun(E3:(av 96 Int))=>cZ.P0 be eM aA bz gu E3=some r) (fun E3=> [(0,[],(.slice cQ be.length bX)),(1,[],(.slice ej eM.length dV)),(4,[],(.bool false)),(15,[],(vP Dw)),(16,[],(.slice (mB w_) bz.length DJ)),(17,[],(vP Ue)),(18,[],(vP vM))]) (fun E3=> [⟨j8,68,row ay aA.aa fM⟩,⟨some Dw,29,[(vH aA.ag),(.slice (mB j8) aA.aa.length fw)]⟩,⟨w_,70,row aF bz nV⟩,⟨(some Ue),36,row aj gu.1 []⟩,⟨(some vM),36,row aj E3.1 []⟩]) ?_ ?_)))))))))))))))))))
    ·refine cR [0] (bE h fun agp agy h=>oQ 0 (fun w hm=>p'.c be 1 3 w _ bX (hm.xr eX) rfl agy) (qh [0] (eT (qi h (fun h=> ?_) (fun h=> ?_)))))
     ·exact cH [1,0] (bE h fun sn Tl h=>oQ 0 (fun w hm=>Zk.c aA bz w _ fw (hm.ow 0 j8 68 aA.aa fM (fun e=>(iz e).1) cW) rfl DJ (hm.ow 2 w_ 70 bz nV (fun e=>(D' e).1) br) rfl Tl) (qh [0,0,0] (tO (pS 0 4 vM 96 1 36 aj sf.1 sn.1 an bk (fB (qe (qm sn.1 h [0,1,2,3,4])))))))
     ·exact bV (qm sf.1 h [0,1,2,3,4])
    ·rintro E3 h
     unfold cZ.P0 at h
     refine aP (cR [0] (bE h fun qI agz h=>oC 0 (fun w hm=>Fb7.c eM w _ dV (hm.xr fD) rfl agz) ?_))
     rintro w v w' hm ⟨Xv,DL,Kc,_,rfl,ajO,Hg,rfl,bn⟩
     refine aq hm bn (fB (oA 0 (fun aiO=>oS 0 [6] (eT (cR [0,6] (bE h fun iI Tm h=>oC 0 (fun w hm=>Im.c be qI w _ bX (hm.xr eX) rfl DL (hm.ow 5 Xv 68 qI.aa Kc (fun e=>(Hg e).1) cW) rfl Tm) ?_))))))
     rintro w v w' hm ⟨aaw,abr,Zq,_,rfl,ajP,Tn,rfl,bn⟩
     refine aq hm bn (oH [0] (eT (cR [0] (bE h fun dj agA h=>oC 0 (fun w hm=>Fb8.c be w _ bX (hm.xr eX) rfl agA) ?_))))
     rintro w v w' hm ⟨J5,Ei,KK,_,rfl,ajQ,D_,abt,zd,Jt,_,rfl,ajR,G2,rfl,bn⟩
     refine aq hm bn (oH [0,0,0] (oA 0 (fun aiP=>oS 0 [10] (qh [0] (eT (ad (qg [⟨j8,68,row ay aA.aa fM⟩,⟨some Dw,29,[(vH aA.ag),(.slice (mB j8) aA.aa.length fw)]⟩,⟨w_,70,row aF bz nV⟩,⟨(some Ue),36,row aj gu.1 []⟩,⟨(some vM),36,row aj E3.1 []⟩,⟨Xv,68,row ay qI.aa Kc⟩,⟨some aiO,29,[(vH qI.ag),(.slice (mB Xv) qI.aa.length DL)]⟩,⟨aaw,36,row da iI Zq⟩,⟨J5,68,row ay dj.1.aa KK⟩,⟨abt,70,row aF dj.2 Jt⟩,⟨some aiP,29,[(vH dj.1.ag),(.slice (mB J5) dj.1.aa.length Ei)]⟩] 26 (qd [⟨0,1,0⟩,⟨1,0,0⟩] 24 [0,1,2,3,4,5,6,7,8,9,10] (qv 2 0 [0,1,2,3,4,5,6,7,8,9,10] (fun w hm=>jM (b:=Ue) (off:=0) (s:=96) (agg:=true) (vs:=row aj gu.1 []) (by kernel_rfl) ((gG an gu).trans rfl) (.inl rfl) (hm.all (hh:=3) (T:=36) (by kernel_rfl))) (qv 3 0 [0,1,2,3,4,5,6,7,8,9,10] (fun w hm=>jM (b:=vM) (off:=0) (s:=96) (agg:=true) (vs:=row aj E3.1 []) (by kernel_rfl) ((gG an E3).trans rfl) (.inl rfl) (hm.all (hh:=4) (T:=36) (by kernel_rfl))) (bE h fun tF agB h=>dQ 4 0 (fun w hm=>bx.c aA bz gu E3 20000 w _ fw (hm.ow 0 j8 68 aA.aa fM (fun e=>(iz e).1) cW) rfl DJ (hm.ow 2 w_ 70 bz nV (fun e=>(D' e).1) br) rfl agB) [0,1,2,3,4,5,6,7,8,9,10] (qd [⟨5,0,0⟩,⟨6,6,1⟩,⟨7,0,1⟩,⟨8,0,1⟩,⟨9,0,1⟩,⟨10,0,1⟩] 15 [0,1,2,3,4,5,6,7,8,9,10] (js 135 tF (fun Uf=> ?_) (fun Uf=> ?_))))))))))))))
     ·replace h:=yi Uf h
      refine bE h fun mj agC h=>tD 11 (pc 2 (fun w hm=>FH.c eM (iI.length:Int) w _ dV (hm.xr fD) rfl agC) ?_)
      rintro w v w' hm ⟨aiQ,abu,agD,_,rfl,ajS,agE,rfl,bn⟩
      refine aq hm bn (kD [0,1,2,3,4,5,6,7,8,9,10] (bE h fun E_ agF h=>dQ 12 2 (fun w hm=>cm.c qI iI mj w _ DL (hm.ow 5 Xv 68 qI.aa Kc (fun e=>(Hg e).1) cW) rfl abr (hm.ow 7 aaw 36 iI Zq (fun e=>(Tn e).1) dD) rfl abu (hm.ow 11 aiQ 2 mj agD (fun e=>(agE e).1) bf) rfl agF) [0,1,2,3,4,5,6,7,8,9,10] (qd [⟨13,0,4⟩,⟨14,0,0⟩,⟨15,10,1⟩,⟨16,0,1⟩,⟨17,0,1⟩,⟨19,0,1⟩,⟨20,10,1⟩,⟨21,0,1⟩] 5 [0,1,2,3,4,5,6,7,8,9,10] (js 144 E_ (fun Ug=> ?_) (fun Ug=> ?_)))))
      ·replace h:=yi Ug h
       refine bE h fun Pu agG h=>dQ 18 2 (fun w hm=>Fb9.c eM w _ dV (hm.xr fD) rfl agG) [0,1,2,3,4,5,6,7,8,9,10] (bE h fun qM agH h=>tD 22 (pc 2 (fun w hm=>FU.c eM dj.1 dj.2 w _ dV (hm.xr fD) rfl Ei (hm.ow 8 J5 68 dj.1.aa KK (fun e=>(D_ e).1) cW) rfl zd (hm.ow 9 abt 70 dj.2 Jt (fun e=>(G2 e).1) br) rfl agH) ?_))
       rintro w v w' hm ⟨aiR,abv,agI,_,rfl,ajT,agJ,rfl,bn⟩
       refine aq hm bn (kD [0,1,2,3,4,5,6,7,8,9,10] (bE h fun agl agK h=>dQ 23 2 (fun w hm=>bI.c dj.1 dj.2 Pu qM 20000 w _ Ei (hm.ow 8 J5 68 dj.1.aa KK (fun e=>(D_ e).1) cW) rfl zd (hm.ow 9 abt 70 dj.2 Jt (fun e=>(G2 e).1) br) rfl abv (hm.ow 12 aiR 72 qM agI (fun e=>(agJ e).1) az) rfl agK) [0,1,2,3,4,5,6,7,8,9,10] (qd [⟨24,0,4⟩,⟨25,0,0⟩] 0 [0,1,2,3,4,5,6,7,8,9,10] (qz (xR ?_)))))
       cases h
       exact qP []
      ·replace h:=yj Ug h
       refine qd [⟨18,0,3⟩,⟨22,0,3⟩,⟨23,0,3⟩,⟨24,0,5⟩,⟨25,0,0⟩] 0 [0,1,2,3,4,5,6,7,8,9,10] (qz (xR ?_))
       cases h
       exact qP []
     ·replace h:=yj Uf h
      refine qd [⟨11,0,3⟩,⟨12,0,3⟩,⟨13,0,5⟩,⟨14,0,0⟩,⟨15,0,3⟩,⟨16,0,3⟩,⟨17,0,3⟩,⟨18,0,3⟩,⟨19,0,3⟩,⟨20,0,3⟩,⟨21,0,3⟩,⟨22,0,3⟩,⟨23,0,3⟩,⟨24,0,5⟩,⟨25,0,0⟩] 0 [0,1,2,3,4,5,6,7,8,9,10] (qz (xR ?_))
      cases h
      exact qP []
end
end Go.Proofs.YtplklknkkaeniaaGreat
