/- Functions of the program that the law reaches: a plain function each, and that the call comes to its answer if the plain function has one. Printed by a program. -/
import Derived.Test.YtplklknkkaeniaaGreatT
import Derived.Test.YtplklknkkaeniaaGreatTab
import Derived.Test.YtplklknkkaeniaaGreatRange
import Derived.Test.YtplklknkkaeniaaGreatM0
import Derived.Test.YtplklknkkaeniaaGreatM2
import Derived.RangeFuncBox
import Derived.Shelf.Abstract
import Derived.WalkKit
import Derived.OwnWalkIn
import Derived.TacticsInMore
import Derived.LoopNIn
import Derived.LoopIn
namespace Go.Proofs.YtplklknkkaeniaaGreat
open Eng
set_option linter.unusedVariables false
set_option linter.unusedSectionVars false
set_option maxRecDepth 100000
variable [gj:wu]
noncomputable section
def cm.u6(f0:ae)(bw:List (av 96 Int))(order2:List Int)(aA:Int×Int)(bz:(List Int)×Int×Int)(yU:Bool):Option (Bool):=(if yU=true then some false else(Om f0 bw bz.1).bind fun lE=>(if((((bz.2.2 !=0) || (lE.2 !=0)) || (lE.1 !=bz.2.1)) || (decide (aA.1<bz.2.1)))=true then some false else(ix order2 0).bind fun my=>(WZ f0 bw my).bind fun dz=>(if((dz.2.2==0)&&(decide ((dz.1.length:Int)>0)))=true then(ix dz.1 0).bind fun sw=>(ix order2 0).bind fun rI=>some (((sw==rI)&&(decide (aA.1≥dz.2.1)))&&(decide (dz.2.1≥bz.2.1))) else some false)))
def cm.ki(f0:ae)(bw:List (av 96 Int))(order2:List Int)(aA:Int×Int)(y7:Bool):Option (Bool):=(if y7=true then some false else(if(aA.2 !=0)=true then some true else(if((order2.length:Int)==0)=true then some true else(WZ f0 bw (-1)).bind fun bz=>(Ib f0 bw (-1)).bind fun gu=>(if(bz.2.2 !=gu.2.2)=true then cm.u6 f0 bw order2 aA bz true else cm.u6 f0 bw order2 aA bz ((bz.2.2==0)&&(bz.2.1 !=gu.2.1))))))
def cm(f0:ae)(bw:List (av 96 Int))(order2:List Int):Option (Bool):=(Om f0 bw order2).bind fun aA=>(VQ f0 bw order2).bind fun i_=>(if(aA.2 !=i_.2)=true then cm.ki f0 bw order2 aA true else cm.ki f0 bw order2 aA ((aA.2==0)&&(aA.1 !=i_.1)))
theorem cm.c(f0:ae)(bw:List (av 96 Int))(order2:List Int)(w:World)(r:Bool){bj:Option Addr}{bm:Nat}(bi:Nat)(dr:Rw w bj 2 ay f0.aa)(cE:f0.aa.length=bm){bL:Option Addr}{bG:Nat}(bQ:Nat)(dL:Rw w bL 96 da bw)(dU:bw.length=bG){dI:Option Addr}{db:Nat}(eA:Nat)(g_:Rw w dI 1 aG order2)(ga:order2.length=db)(h:cm f0 bw order2=some r):
   Cq 12 #[(.agg #[(vH f0.ag),(.slice bj bm bi)]),(.slice bL bG bQ),(.slice dI db eA)] w (.bool r) [] []:=by
 subst cE dU ga
 rw [cm] at h
 refine en Tryz.func12 rfl Tryz.ntmps12 (ad (ao (oA 0 (fun cD=>qh [0] (eT (cR [0,0,0] (bE h fun aA km h=>oQ 0 (fun w hm=>Om.c f0 bw order2 w _ bi (hm.xr dr) rfl bQ (hm.xr dL) rfl eA (hm.xr g_) rfl km) (qh [0,0,0,0,0] (eT (ad (cR [0,0,0] (bE h fun i_ kN h=>oQ 0 (fun w hm=>VQ.c f0 bw order2 w _ bi (hm.xr dr) rfl bQ (hm.xr dL) rfl eA (hm.xr g_) rfl kN) (qh [0,0,0,0,0] (eT (ad (aK (fun(y7:Bool)=>cm.ki f0 bw order2 aA y7=some r) (fun y7=> [(1,[],(.slice bL bw.length bQ)),(2,[],(.slice dI order2.length eA)),(3,[],(vP cD)),(6,[],(.bool false)),(7,[],(vI aA.1)),(8,[],(vI aA.2)),(47,[],(.bool y7))]) (fun y7=> [⟨some cD,29,cF f0 bj bi⟩]) ?_ ?_))))))))))))))))
 ·refine ao (qf [(0,0),(0,0),(0,0),(0,0),(0,1),(0,1)] (qp 39 h (fun h=> ?_) (fun h=> ?_)))
  ·exact qf [(0,3),(0,3),(0,3),(0,3),(0,3),(0,4)] (qe (qm true h [0]))
  ·exact qf [(0,2),(0,1),(0,1),(0,1),(0,2),(0,5)] (qe (qm ((aA.2==0)&&(aA.1 !=i_.1)) h [0]))
 ·rintro y7 h
  unfold cm.ki at h
  refine aP (qi h (fun h=> ?_) (fun h=> ?_))
  ·refine cT [0] (rX ?_)
   cases h
   exact qP []
  ·refine kT (ad (cT [0,0] (qi h (fun h=> ?_) (fun h=> ?_))))
   ·refine cT [0] (rX ?_)
    cases h
    exact qP []
   ·refine kT (ad (cT [0,0,0] (qi h (fun h=> ?_) (fun h=> ?_))))
    ·refine cT [0] (rX ?_)
     cases h
     exact qP []
    ·refine kT (cR [0,0] (bE h fun bz l8 h=>oC 0 (fun w hm=>WZ.c f0 bw (-1) w _ bi (hm.xr dr) rfl bQ (hm.xr dL) rfl l8) ?_))
     rintro w v w' hm ⟨kj,rh,ji,_,rfl,uk,uz,rfl,bn⟩
     refine aq hm bn (oH [0,0,0,0,0,0,0] (eT (ad (cR [0,0] (bE h fun gu uf h=>oC 0 (fun w hm=>Ib.c f0 bw (-1) w _ bi (hm.xr dr) rfl bQ (hm.xr dL) rfl uf) ?_)))))
     rintro w v w' hm ⟨fj,kO,eV,_,rfl,C',Da,rfl,bn⟩
     refine aq hm bn (oH [0,0,0,0,0,0,0] (eT (ad (aK (fun(yU:Bool)=>cm.u6 f0 bw order2 aA bz yU=some r) (fun yU=> [(1,[],(.slice bL bw.length bQ)),(2,[],(.slice dI order2.length eA)),(3,[],(vP cD)),(6,[],(.bool false)),(7,[],(vI aA.1)),(11,[],(.slice (mB kj) bz.1.length rh)),(12,[],(vI bz.2.1)),(13,[],(vI bz.2.2)),(78,[],(.bool yU))]) (fun yU=> [⟨some cD,29,cF f0 bj bi⟩,⟨kj,2,row aG bz.1 ji⟩,⟨fj,2,row aG gu.1 eV⟩]) ?_ ?_))))
     ·refine ao (qf [(0,0),(0,0),(0,0),(0,0),(0,1),(0,1)] (qp 70 h (fun h=> ?_) (fun h=> ?_)))
      ·exact qf [(0,3),(0,3),(0,3),(0,3),(0,3),(0,4)] (qe (qm true h [0,1,2]))
      ·exact qf [(0,2),(0,1),(0,1),(0,1),(0,2),(0,5)] (qe (qm ((bz.2.2==0)&&(bz.2.1 !=gu.2.1)) h [0,1,2]))
     ·rintro yU h
      unfold cm.u6 at h
      refine aP (qi h (fun h=> ?_) (fun h=> ?_))
      ·refine cT [0] (rX ?_)
       cases h
       exact qP []
      ·refine kT (cR [0,0,0] (bE h fun lE wK h=>oQ 0 (fun w hm=>Om.c f0 bw bz.1 w _ bi (hm.xr dr) rfl bQ (hm.xr dL) rfl rh (hm.ow 1 kj 2 bz.1 ji (fun e=>(uz e).1) bf) rfl wK) (qh [0,0,0,0,0] (eT (s2 (ao (qf [(0,0),(0,0),(0,0),(0,1),(0,1),(0,0),(0,0),(0,1),(0,1),(0,1),(0,0),(0,0),(0,1),(0,1),(0,1),(0,0)] (eT (qi h (fun h=> ?_) (fun h=> ?_))))))))))
       ·refine cT [0] (rX ?_)
        cases h
        exact qP []
       ·refine kT (ad (qg [⟨some cD,29,cF f0 bj bi⟩,⟨kj,2,row aG bz.1 ji⟩,⟨fj,2,row aG gu.1 eV⟩] 13 (qd [⟨0,0,0⟩,⟨1,0,0⟩,⟨2,0,0⟩] 10 [0,1,2] (bE h fun my yr h=>qX 3 0 [0,1,2] dI 1 yr rfl (g_.sp yr) (qL 4 0 [0,1,2] false (fun w hm=>(hm.xr g_).at yr) (bE h fun dz r_ h=>tD 5 (pc 0 (fun w hm=>WZ.c f0 bw my w _ bi (hm.xr dr) rfl bQ (hm.xr dL) rfl r_) ?_)))))))
        rintro w v w' hm ⟨gS,li,hQ,_,rfl,BN,wZ,rfl,bn⟩
        refine aq hm bn (kD [0,1,2] (qd [⟨6,0,0⟩,⟨7,0,0⟩,⟨8,0,0⟩,⟨9,0,0⟩,⟨10,0,0⟩,⟨11,0,0⟩,⟨12,0,0⟩] 0 [0,1,2] (zT (ad (qg [⟨some cD,29,cF f0 bj bi⟩,⟨kj,2,row aG bz.1 ji⟩,⟨fj,2,row aG gu.1 eV⟩,⟨gS,2,row aG dz.1 hQ⟩] 27 (qd [⟨0,0,0⟩,⟨1,0,0⟩,⟨2,0,0⟩,⟨3,0,1⟩,⟨4,0,1⟩,⟨5,0,1⟩,⟨6,0,0⟩,⟨7,0,0⟩,⟨8,0,1⟩,⟨11,0,1⟩] 17 [0,1,2,3] (js 119 ((dz.2.2==0)&&(decide ((dz.1.length:Int)>0))) (fun DZ=> ?_) (fun DZ=> ?_))))))))
        ·replace h:=yi DZ h
         refine bE h fun sw nb h=>qX 9 2 [0,1,2,3] (mB gS) 1 nb rfl (nl wZ nb) (qL 10 2 [0,1,2,3] false (aX 3 gS 2 dz.1 hQ wZ bf nb) (bE h fun rI lG h=>qX 12 2 [0,1,2,3] dI 1 lG rfl (g_.sp lG) (qL 13 2 [0,1,2,3] false (fun w hm=>(hm.xr g_).at lG) (qd [⟨14,0,2⟩,⟨15,0,4⟩,⟨16,0,0⟩,⟨17,0,1⟩,⟨18,0,1⟩,⟨19,0,1⟩,⟨20,0,0⟩,⟨21,0,0⟩,⟨22,0,1⟩,⟨23,0,1⟩,⟨24,0,1⟩,⟨25,0,0⟩,⟨26,0,0⟩] 0 [0,1,2,3] (qz (xR ?_))))))
         cases h
         exact qP []
        ·replace h:=yj DZ h
         refine qd [⟨9,0,3⟩,⟨10,0,3⟩,⟨12,0,3⟩,⟨13,0,3⟩,⟨14,0,3⟩,⟨15,0,5⟩,⟨16,0,0⟩,⟨17,0,3⟩,⟨18,0,3⟩,⟨19,0,3⟩,⟨20,0,5⟩,⟨21,0,0⟩,⟨22,0,3⟩,⟨23,0,3⟩,⟨24,0,3⟩,⟨25,0,5⟩,⟨26,0,0⟩] 0 [0,1,2,3] (qz (xR ?_))
         cases h
         exact qP []
def Fbz(x0:ab):Option (Bool):=(if x0.bJ=true then some ((x0.bJ==true)&&((x0.cP==0)&&((x0.ba==0)&&(x0.eU==0)))) else(FB (au x0.cP) (-3) 3).bind fun aA=>(if aA=true then(FB (au x0.ba) (-1) 1).bind fun bz=>(if bz=true then(FB (au x0.eU) 0 23).bind fun dj=>some dj else some false) else some false))
theorem Fbz.c(x0:ab)(w:World)(r:Bool)(h:Fbz x0=some r):
   Cq 162 #[(.agg (aY x0))] w (.bool r) [] []:=by
 rw [Fbz] at h
 refine en Tryz.func162 rfl Tryz.ntmps162 (ad (ao (oA 0 (fun cD=>qh [0] (eT (ad (cT [0,0] (qi h (fun h=> ?_) (fun h=> ?_)))))))))
 ·refine cT [0,0,0,0] (rX ?_)
  cases h
  exact qP []
 ·refine kT (cR [0,0,0] (bE h fun aA jP h=>oQ 0 (fun w hm=>FB.c (au x0.cP) (-3) 3 w _ jP) (qf [(0,0),(0,1),(0,1),(0,1)] (qp 12 h (fun h=> ?_) (fun h=> ?_)))))
  ·refine bE h fun bz jD h=>oQ 2 (fun w hm=>FB.c (au x0.ba) (-1) 1 w _ jD) (qf [(0,4),(0,0),(0,1),(0,1),(0,1)] (qp 18 h (fun h=> ?_) (fun h=> ?_)))
   ·refine bE h fun dj jf h=>oQ 2 (fun w hm=>FB.c (au x0.eU) 0 23 w _ jf) (qf [(0,4),(0,0)] (eT (aI ?_)))
    cases h
    exact qP []
   ·refine qf [(0,3),(0,5),(0,0)] (eT (aI ?_))
    cases h
    exact qP []
  ·refine qf [(0,3),(0,5),(0,0),(0,3),(0,3),(0,3),(0,3),(0,5),(0,0)] (eT (aI ?_))
   cases h
   exact qP []
def FbC(x0:ab):Option (Bool):=(Fbz x0).bind fun aA=>some (!aA)
theorem FbC.c(x0:ab)(w:World)(r:Bool)(h:FbC x0=some r):
   Cq 161 #[(.agg (aY x0))] w (.bool r) [] []:=by
 rw [FbC] at h
 refine en Tryz.func161 rfl Tryz.ntmps161 (ad (ao (oA 0 (fun cD=>qh [0] (eT (cR [0] (bE h fun aA iD h=>oQ 0 (fun w hm=>Fbz.c x0 w _ iD) (qh [0,0] (eT (aI ?_))))))))))
 cases h
 exact qP []
def Fi.iQ:Option (Int):=some (-1)
def Fi.e7(s0:List ab):Int→Option ((Int)⊕(Int⊕Unit))
 | aR=>(if(decide (aR<(s0.length:Int)))=true then(ix s0 aR).bind fun eW=>(FbC eW).bind fun dz=>(if dz=true then some (.inr (.inl aR)) else some (.inl (au (aR+1)))) else some (.inr (.inr ())))
def Fi(s0:List ab):Option (Int):=(loop (Fi.e7 s0) 0).bind fun eo=>match eo with | .inl p=>some p | .inr p=>Fi.iQ
theorem Fi.c(s0:List ab)(w:World)(r:Int){cQ:Option Addr}{ck:Nat}(bX:Nat)(eX:Rw w cQ 4 af s0)(dH:s0.length=ck)(h:Fi s0=some r):
   Cq 193 #[(.slice cQ ck bX),(.func (.func 161) #[] #[])] w (vI r) [] []:=by
 subst dH
 rw [Fi] at h
 refine en Tryz.func193 rfl Tryz.ntmps193 (cT [0] (ad (cT [0,0,0] (aK (fun(_:Unit)=>Fi.iQ=some r) (fun(_:Unit)=> [(4,[],(vI 0))]) (fun(_:Unit)=> []) ?_ ?_))))
 ·refine ap ?_
  obtain⟨eo,km,sZ⟩:=bd h
  refine jl (fun(aR:Int) (_:Unit)=>True) (fun aR _=> [(0,[],(.slice cQ s0.length bX)),(1,[],(.func (.func 161) #[] #[])),(4,[],(vI 0)),(7,[],(vI (s0.length:Int))),(8,[],(vI aR))]) (fun aR _=> []) km () trivial [] ?_
  rintro aR _ Jz _ h
  rw [Fi.e7] at h
  refine cT [0] (ad (qi h (fun h=> ?_) (fun h=> ?_)))
  ·refine kT (ad (ap (cT [0,0] (cR [0,0,0] (bE h fun eW jV h=>oX 0 cQ 4 jV rfl (eX.sp jV) (oL 0 true (fun w hm=>((hm.xr eX).at jV)) (bE h fun dz iR h=>oQ 0 (fun w hm=>FbC.c eW w _ iR) (eT (qi h (fun h=> ?_) (fun h=> ?_))))))))))
   ·refine cT [0,0] (aI (cg (aT (c_ (.inl aR) (sj h) (fun Pn=> ?_)))))
    subst Pn
    refine cg (aT (aT ?_))
    obtain rfl:=si sZ
    exact qP []
   ·exact bV (nT (cH [0,0] (qe (qb (au (aR+1)) () h trivial []))))
  ·exact lX (.inr ()) h (fun e=>by subst e;exact bo (qm () sZ []))
 ·rintro _ h
  unfold Fi.iQ at h
  refine aP (cT [0] (aI ?_))
  cases h
  exact qP []
def F3(s0:List ab):Option (Bool):=(Fi s0).bind fun aA=>some (decide (aA≥0))
theorem F3.c(s0:List ab)(w:World)(r:Bool){cQ:Option Addr}{ck:Nat}(bX:Nat)(eX:Rw w cQ 4 af s0)(dH:s0.length=ck)(h:F3 s0=some r):
   Cq 160 #[(.slice cQ ck bX),(.func (.func 161) #[] #[])] w (.bool r) [] []:=by
 subst dH
 rw [F3] at h
 refine en Tryz.func160 rfl Tryz.ntmps160 (cT [0] (cR [0,0] (bE h fun aA gv h=>oQ 0 (fun w hm=>Fi.c s0 w _ bX (hm.xr eX) rfl gv) (qh [0,0] (eT (aI ?_))))))
 cases h
 exact qP []
def SY(ci:List ab):Option (Int):=(F3 ci).bind fun aA=>(FI (!aA) 1).bind fun bz=>some bz
theorem SY.c(ci:List ab)(w:World)(r:Int){cQ:Option Addr}{ck:Nat}(bX:Nat)(eX:Rw w cQ 4 af ci)(dH:ci.length=ck)(h:SY ci=some r):
   Cq 102 #[(.slice cQ ck bX)] w (vI r) [] []:=by
 subst dH
 rw [SY] at h
 refine en Tryz.func102 rfl Tryz.ntmps102 (cT [0] (cR [0] (bE h fun aA gv h=>oQ 0 (fun w hm=>F3.c ci w _ bX (hm.xr eX) rfl gv) (qh [0] (bE h fun bz iD h=>oQ 0 (fun w hm=>FI.c (!aA) 1 w _ iD) (qh [0] (eT (aI ?_))))))))
 cases h
 exact qP []
def VS(f0:ae)(t1:List ai)(aU:List ab):Option (Int):=(Wo f0).bind fun dz=>(FI dz 1).bind fun aA=>(Wp [t1]).bind fun bz=>(SY aU).bind fun dj=>(Fe ([aA,bz,dj]:List Int)).bind fun eo=>some eo
theorem VS.c(f0:ae)(t1:List ai)(aU:List ab)(w:World)(r:Int){bj:Option Addr}{bm:Nat}(bi:Nat)(dr:Rw w bj 2 ay f0.aa)(cE:f0.aa.length=bm){bL:Option Addr}{bG:Nat}(bQ:Nat)(dL:Rw w bL 2 aF t1)(dU:t1.length=bG){dI:Option Addr}{db:Nat}(eA:Nat)(g_:Rw w dI 4 af aU)(ga:aU.length=db)(h:VS f0 t1 aU=some r):
   Cq 146 #[(.agg #[(vH f0.ag),(.slice bj bm bi)]),(.slice bL bG bQ),(.slice dI db eA)] w (vI r) [] []:=by
 subst cE dU ga
 rw [VS] at h
 refine en Tryz.func146 rfl Tryz.ntmps146 (ad (ao (oA 0 (fun gC=>qh [0] (eT (cR [0] (bE h fun dz gv h=>oQ 0 (fun w hm=>Wo.c f0 w _ bi (hm.xr dr) rfl gv) (bE h fun aA iD h=>oQ 0 (fun w hm=>FI.c dz 1 w _ iD) (qh [0] (oA 0 (fun fV=>bE h fun bz jD h=>oQ 0 (fun w hm=>Wp.c [t1] w _ 1 (hm.ow 1 (some fV) 32 ([(Hd.mk bL t1.length bQ)]) [] (fun e=>nomatch e) fe) rfl (r8.cons (hm.xr dL) rfl (fun _=>cq) r8.nil) jD) (qh [0] (bE h fun dj jf h=>oQ 0 (fun w hm=>SY.c aU w _ eA (hm.xr g_) rfl jf) (oA 0 (fun ur=>bE h fun eo iR h=>oQ 0 (fun w hm=>Fe.c ([aA,bz,dj]:List Int) w _ 3 (hm.ow 2 (some ur) 2 ([aA,bz,dj]:List Int) [] (fun e=>nomatch e) bf) rfl iR) (qh [0] (eT (aI ?_))))))))))))))))))
 cases h
 exact qP []
def Xh(c0:aQ):Option (Bool):=(FB (au c0.bJ) 0 1000).bind fun bz=>(if bz=true then(FB (au c0.ba) 0 1000).bind fun aA=>(if aA=true then(FB (au c0.du) 0 1000).bind fun dj=>some dj else some false) else some false)
theorem Xh.c(c0:aQ)(w:World)(r:Bool)(h:Xh c0=some r):
   Cq 101 #[(.agg (aC c0))] w (.bool r) [] []:=by
 rw [Xh] at h
 refine en Tryz.func101 rfl Tryz.ntmps101 (ad (ao (oA 0 (fun fa=>qh [0] (eT (cR [0,0,0] (bE h fun bz gv h=>oQ 0 (fun w hm=>FB.c (au c0.bJ) 0 1000 w _ gv) (qf [(0,0),(0,1),(0,1),(0,1)] (qp 7 h (fun h=> ?_) (fun h=> ?_))))))))))
 ·refine bE h fun aA jP h=>oQ 2 (fun w hm=>FB.c (au c0.ba) 0 1000 w _ jP) (qf [(0,4),(0,0),(0,1),(0,1),(0,1)] (qp 13 h (fun h=> ?_) (fun h=> ?_)))
  ·refine bE h fun dj jD h=>oQ 2 (fun w hm=>FB.c (au c0.du) 0 1000 w _ jD) (qf [(0,4),(0,0)] (eT (aI ?_)))
   cases h
   exact qP []
  ·refine qf [(0,3),(0,5),(0,0)] (eT (aI ?_))
   cases h
   exact qP []
 ·refine qf [(0,3),(0,5),(0,0),(0,3),(0,3),(0,3),(0,3),(0,5),(0,0)] (eT (aI ?_))
  cases h
  exact qP []
def FbA(f0:ae)(t1:List ai)(c2:aQ):Option (Int):=(VS f0 t1 []).bind fun aA=>(Xh c2).bind fun dj=>(FI dj 1).bind fun bz=>(Fe ([aA,bz]:List Int)).bind fun dz=>some dz
theorem FbA.c(f0:ae)(t1:List ai)(c2:aQ)(w:World)(r:Int){bj:Option Addr}{bm:Nat}(bi:Nat)(dr:Rw w bj 2 ay f0.aa)(cE:f0.aa.length=bm){bL:Option Addr}{bG:Nat}(bQ:Nat)(dL:Rw w bL 2 aF t1)(dU:t1.length=bG)(h:FbA f0 t1 c2=some r):
   Cq 90 #[(.agg #[(vH f0.ag),(.slice bj bm bi)]),(.slice bL bG bQ),(.agg (aC c2))] w (vI r) [] []:=by
 subst cE dU
 rw [FbA] at h
 refine en Tryz.func90 rfl Tryz.ntmps90 (ad (ao (oA 0 (fun cD=>oA 0 (fun fV=>qh [0] (eT (ad (qg [⟨some cD,29,cF f0 bj bi⟩,⟨some fV,46,cC c2⟩] 9 (qd [⟨0,0,0⟩,⟨1,0,0⟩,⟨3,1,0⟩] 6 [0,1] (bE h fun aA iD h=>dQ 2 0 (fun w hm=>VS.c f0 t1 [] w _ bi (hm.xr dr) rfl bQ (hm.xr dL) rfl 0 Rw.nil rfl iD) [0,1] (bE h fun dj jP h=>dQ 4 0 (fun w hm=>Xh.c c2 w _ jP) [0,1] (bE h fun bz jD h=>dQ 5 0 (fun w hm=>FI.c dj 1 w _ jD) [0,1] (tD 6 (qa 0 (fun qu=>kD [0,1] (bE h fun dz km h=>dQ 7 0 (fun w hm=>Fe.c ([aA,bz]:List Int) w _ 2 (hm.ow 2 (some qu) 2 ([aA,bz]:List Int) [] (fun e=>nomatch e) bf) rfl km) [0,1] (qd [⟨8,0,0⟩] 0 [0,1] (qz (xR ?_)))))))))))))))))))
 cases h
 exact qP []
def Kt.fk(a7:List Int):Option ((List Int)):=some a7
def Kt.fY(sx:Int):((List Int)×Int)→Option (((List Int)×Int)⊕((List Int)))
 | (aL,aR)=>(if(decide (aR≤sx))=true then(if aL.length+([(w8 (0-aR)),aR]:List Int).length≤4294967296 then some (.inl ((aL++([(w8 (0-aR)),aR]:List Int)),(w8 (aR+1)))) else none) else some (.inr aL))
def Kt(sx:Int):Option ((List Int)):=(loop (Kt.fY sx) (([0]:List Int),1)).bind fun iq=>Kt.fk iq
theorem Kt.c(sx:Int)(w:World)(r:(List Int))(h:Kt sx=some r):
   Cr 149 #[(vB sx)] w fun v w'=>∃(o0:Option Nat) (c0:Nat) (s0:List Value) (n0:Nat),r.length=n0∧(hS o0 n0 c0 s0 1)∧(hO o0 r c0)∧v= .slice (mB o0) n0 c0∧Mem w [] [⟨o0,66,row f_ r s0⟩] w':=by
 rw [Kt] at h
 refine en Tryz.func149 rfl Tryz.ntmps149 (cT [0] (ad (ao (oA 0 (fun fV=>qh [0] (eT (ad (cT [0] (aK (fun(j:(List Int)×(Option Nat)×Nat×(List Value)×Nat)=>match j with | ⟨a7,nh,gK,ji,PL⟩=>Kt.fk a7=some r∧(a7.length=PL)∧(hS nh PL gK ji 1)∧(hO nh a7 gK)) (fun⟨a7,nh,gK,ji,PL⟩=> [(2,[],(.slice none 0 0)),(3,[],(.slice (mB nh) PL gK))]) (fun⟨a7,nh,gK,ji,PL⟩=> [⟨nh,66,row f_ a7 ji⟩]) ?_ ?_)))))))))
 ·refine ap ?_
  obtain⟨iq,nx,Ku⟩:=bd h
  refine jl (fun(s:(List Int)×Int) (x:(Option Nat)×Nat×(List Value)×Nat)=>match s,x with | ⟨aL,aR⟩,⟨kM,fH,rJ,um⟩=>(aL.length=um)∧(hS kM um fH rJ 1)∧(hO kM aL fH)) (fun⟨aL,aR⟩ ⟨kM,fH,rJ,um⟩=> [(0,[],(vB sx)),(2,[],(.slice none 0 0)),(3,[],(.slice (mB kM) um fH)),(4,[],(vB aR))]) (fun⟨aL,aR⟩ ⟨kM,fH,rJ,um⟩=> [⟨kM,66,row f_ aL rJ⟩]) nx ⟨(some fV),1,[],1⟩ ⟨rfl,(fun _=>⟨bt _,by simp⟩),(fun e=>nomatch e)⟩ [0] ?_
  rintro⟨aL,aR⟩ ⟨kM,fH,rJ,um⟩ aaT ⟨rfl,vw,kU⟩ h
  rw [Kt.fY] at h
  refine ad (cT [0,0,0] (qi h (fun h=> ?_) (fun h=> ?_)))
  ·refine kT (ad (ap (cH [0,0,0,0] (oA 0 (fun pU=>?_)))))
   obtain⟨Di,h⟩:=gd h
   exact tO (pA 0 0 kM 66 aL.length 2 fH 1 1 (sB pU) f_ aL ([(w8 (0-aR)),aR]:List Int) rJ (vB 0) rfl rfl jy yS vw kU (fun w hm=>(hm.ow 1 (some pU) 66 ([(w8 (0-aR)),aR]:List Int) [] (fun e=>nomatch e) jy)) Di (fun kJ ec ig BZ wZ=>oH [0] (qe (nT (cH [0,0,0] (qe (qb ((aL++([(w8 (0-aR)),aR]:List Int)),(w8 (aR+1))) ⟨kJ,ec,ig,(aL++([(w8 (0-aR)),aR]:List Int)).length⟩ h ⟨rfl,BZ,wZ⟩ [0])))))))
  ·exact lX aL h (fun e=>by subst e;exact bo (qm ⟨aL,kM,fH,rJ,aL.length⟩ ⟨Ku,rfl,vw,kU⟩ [0]))
 ·rintro⟨a7,nh,gK,ji,PL⟩ ⟨h,rfl,SZ,J8⟩
  unfold Kt.fk at h
  refine aP (cT [0,0] (aI ?_))
  obtain rfl:=si h
  exact qr [] (fun w hm=>⟨nh,gK,ji,a7.length,rfl,SZ,J8,rfl,hm.pk [0]⟩)
def Fm.nS(aL:List ab):Option ((List ab)):=(if aL.length+([(⟨true,0,0,0⟩:ab)]:List ab).length≤4294967296 then some (aL++([(⟨true,0,0,0⟩:ab)]:List ab)) else none)
def Fm.tG(cK:Int)(iK:List ab):Option (((List ab)×Int)⊕((List ab))):=some (.inl (iK,(au (cK+1))))
def Fm.Ie(eE:Int)(jI:List ab):Option (((List ab)×Int)⊕((List ab))):=some (.inl (jI,(au (eE+1))))
def Fm.j4(f0:ae)(n1:ai)(yA:Int)(jZ:Int):((List ab)×Int)→Option (((List ab)×Int)⊕((List ab)))
 | (a7,cS)=>(if(decide (cS<(f0.aa.length:Int)))=true then(ix f0.aa cS).bind fun Kv=>(FB (au ((au n1.cd)+(au yA))) 0 (au ((au f0.ag)-1))).bind fun Mr=>(if(Mr&&((au Kv.aD)==(au ((au n1.aD)+(au (12*(au jZ)))))))=true then(if a7.length+([(⟨false,yA,jZ,(w8 cS)⟩:ab)]:List ab).length≤4294967296 then some (.inl ((a7++([(⟨false,yA,jZ,(w8 cS)⟩:ab)]:List ab)),(au (cS+1)))) else none) else some (.inl (a7,(au (cS+1))))) else some (.inr a7))
def Fm.p7(f0:ae)(n1:ai)(yA:Int)(gu:(List Int)):((List ab)×Int)→Option (((List ab)×Int)⊕((List ab)))
 | (kr,eE)=>(if(decide (eE<(gu.length:Int)))=true then(ix gu eE).bind fun jZ=>(loop (Fm.j4 f0 n1 yA jZ) (kr,0)).bind fun Mz=>Fm.Ie eE Mz else some (.inr kr))
def Fm.Df(f0:ae)(n1:ai)(aA:(List Int)):((List ab)×Int)→Option (((List ab)×Int)⊕((List ab)))
 | (eH,cK)=>(if(decide (cK<(aA.length:Int)))=true then(ix aA cK).bind fun yA=>(Kt 1).bind fun gu=>(loop (Fm.p7 f0 n1 yA gu) (eH,0)).bind fun If=>Fm.tG cK If else some (.inr eH))
def Fm(f0:ae)(n1:ai):Option ((List ab)):=(Kt 3).bind fun aA=>(loop (Fm.Df f0 n1 aA) (([]:List ab),0)).bind fun Xi=>Fm.nS Xi
theorem Fm.c(f0:ae)(n1:ai)(w:World)(r:(List ab)){bj:Option Addr}{bm:Nat}(bi:Nat)(dr:Rw w bj 2 ay f0.aa)(cE:f0.aa.length=bm)(h:Fm f0 n1=some r):
   Cr 93 #[(.agg #[(vH f0.ag),(.slice bj bm bi)]),(.agg (aN n1))] w fun v w'=>∃(o0:Option Nat) (c0:Nat) (s0:List Value) (n0:Nat),r.length=n0∧(hS o0 n0 c0 s0 4)∧(hO o0 r c0)∧v= .slice (mB o0) n0 c0∧Mem w [] [⟨o0,72,row af r s0⟩] w':=by
 subst cE
 rw [Fm] at h
 refine en Tryz.func93 rfl Tryz.ntmps93 (ad (ao (oA 0 (fun cD=>oA 0 (fun fa=>qh [0] (eT (ad (ao (oA 0 (fun ah4=>qh [0] (eT (s2 (ao (bE h fun aA Dy h=>oC 0 (fun w hm=>Kt.c 3 w _ Dy) ?_))))))))))))))
 rintro w v w' hm ⟨gI,tJ,ig,_,rfl,ajA,vx,rfl,bn⟩
 refine aq hm bn (oH [0,0] (eT (aK (fun(j:(List ab)×(Option Nat)×Nat×(List Value)×Nat)=>match j with | ⟨aL,lY,fU,jz,PM⟩=>Fm.nS aL=some r∧(aL.length=PM)∧(hS lY PM fU jz 4)∧(hO lY aL fU)) (fun⟨aL,lY,fU,jz,PM⟩=> [(4,[],(.slice none 0 0)),(5,[],(.slice (mB lY) PM fU))]) (fun⟨aL,lY,fU,jz,PM⟩=> [⟨some cD,29,cF f0 bj bi⟩,⟨some fa,70,cN n1⟩,⟨lY,72,row af aL jz⟩,⟨gI,66,row f_ aA ig⟩]) ?_ ?_)))
 ·refine ap ?_
  obtain⟨Xi,R0,ad8⟩:=bd h
  refine jl (fun(s:(List ab)×Int) (x:(Option Nat)×Nat×(List Value)×Nat)=>match s,x with | ⟨eH,cK⟩,⟨kp,ls,rn,uD⟩=>(eH.length=uD)∧(hS kp uD ls rn 4)∧(hO kp eH ls)) (fun⟨eH,cK⟩ ⟨kp,ls,rn,uD⟩=> [(2,[],(vP cD)),(3,[],(vP fa)),(4,[],(.slice none 0 0)),(5,[],(.slice (mB kp) uD ls)),(15,[],(.slice (mB gI) aA.length tJ)),(16,[],(vI (aA.length:Int))),(17,[],(vI cK))]) (fun⟨eH,cK⟩ ⟨kp,ls,rn,uD⟩=> [⟨some cD,29,cF f0 bj bi⟩,⟨some fa,70,cN n1⟩,⟨kp,72,row af eH rn⟩,⟨gI,66,row f_ aA ig⟩]) R0 ⟨(some ah4),0,[],0⟩ ⟨rfl,(fun _=>⟨bt _,by simp⟩),(fun e=>nomatch e)⟩ [0,1,2,3] ?_
  rintro⟨eH,cK⟩ ⟨kp,ls,rn,uD⟩ aaU ⟨rfl,N8,N9⟩ h
  rw [Fm.Df] at h
  refine cT [0] (ad (qi h (fun h=> ?_) (fun h=> ?_)))
  ·refine kT (ad (ap (ad (ao (bE h fun yA S0 h=>oX 0 (mB gI) 1 S0 rfl (nl vx S0) (oL 0 false (aX 3 gI 66 aA ig vx jy S0) (qh [0] (eT (ad (ao (bE h fun gu Ki h=>oC 0 (fun w hm=>Kt.c 1 w _ Ki) ?_)))))))))))
   rintro w v w' hm ⟨gL,MA,uE,_,rfl,Ov,Kw,rfl,bn⟩
   refine aq hm bn (oH [0,0] (eT (aK (fun(j:(List ab)×(Option Nat)×Nat×(List Value)×Nat)=>match j with | ⟨iK,As,h_,uF,uG⟩=>Fm.tG cK iK=some aaU∧(iK.length=uG)∧(hS As uG h_ uF 4)∧(hO As iK h_)) (fun⟨iK,As,h_,uF,uG⟩=> [(2,[],(vP cD)),(3,[],(vP fa)),(4,[],(.slice none 0 0)),(5,[],(.slice (mB As) uG h_)),(15,[],(.slice (mB gI) aA.length tJ)),(16,[],(vI (aA.length:Int))),(17,[],(vI cK))]) (fun⟨iK,As,h_,uF,uG⟩=> [⟨some cD,29,cF f0 bj bi⟩,⟨some fa,70,cN n1⟩,⟨As,72,row af iK uF⟩,⟨gI,66,row f_ aA ig⟩,⟨gL,66,row f_ gu uE⟩]) ?_ ?_)))
   ·refine ap ?_
    obtain⟨If,ad9,aea⟩:=bd h
    refine jl (fun(s:(List ab)×Int) (x:(Option Nat)×Nat×(List Value)×Nat)=>match s,x with | ⟨kr,eE⟩,⟨pt,tI,kS,Bf⟩=>(kr.length=Bf)∧(hS pt Bf tI kS 4)∧(hO pt kr tI)) (fun⟨kr,eE⟩ ⟨pt,tI,kS,Bf⟩=> [(2,[],(vP cD)),(3,[],(vP fa)),(4,[],(.slice none 0 0)),(5,[],(.slice (mB pt) Bf tI)),(7,[],(vB yA)),(15,[],(.slice (mB gI) aA.length tJ)),(16,[],(vI (aA.length:Int))),(17,[],(vI cK)),(21,[],(.slice (mB gL) gu.length MA)),(22,[],(vI (gu.length:Int))),(23,[],(vI eE))]) (fun⟨kr,eE⟩ ⟨pt,tI,kS,Bf⟩=> [⟨some cD,29,cF f0 bj bi⟩,⟨some fa,70,cN n1⟩,⟨pt,72,row af kr kS⟩,⟨gI,66,row f_ aA ig⟩,⟨gL,66,row f_ gu uE⟩]) ad9 ⟨kp,ls,rn,eH.length⟩ ⟨rfl,N8,N9⟩ [0,1,2,3,4] ?_
    rintro⟨kr,eE⟩ ⟨pt,tI,kS,Bf⟩ ah5 ⟨rfl,Oj,Ol⟩ h
    rw [Fm.p7] at h
    refine cT [0] (ad (qi h (fun h=> ?_) (fun h=> ?_)))
    ·refine kT (ad (ap (ad (ao (bE h fun jZ DB h=>oX 0 (mB gL) 1 DB rfl (nl Kw DB) (oL 0 false (aX 4 gL 66 gu uE Kw jy DB) (qh [0] (eT (cT [0,0,0,0] (aK (fun(j:(List ab)×(Option Nat)×Nat×(List Value)×Nat)=>match j with | ⟨jI,nw,tH,uH,uB⟩=>Fm.Ie eE jI=some ah5∧(jI.length=uB)∧(hS nw uB tH uH 4)∧(hO nw jI tH)) (fun⟨jI,nw,tH,uH,uB⟩=> [(2,[],(vP cD)),(3,[],(vP fa)),(4,[],(.slice none 0 0)),(5,[],(.slice (mB nw) uB tH)),(7,[],(vB yA)),(15,[],(.slice (mB gI) aA.length tJ)),(16,[],(vI (aA.length:Int))),(17,[],(vI cK)),(21,[],(.slice (mB gL) gu.length MA)),(22,[],(vI (gu.length:Int))),(23,[],(vI eE))]) (fun⟨jI,nw,tH,uH,uB⟩=> [⟨some cD,29,cF f0 bj bi⟩,⟨some fa,70,cN n1⟩,⟨nw,72,row af jI uH⟩,⟨gI,66,row f_ aA ig⟩,⟨gL,66,row f_ gu uE⟩]) ?_ ?_))))))))))
     ·refine ap ?_
      obtain⟨Mz,aeb,aec⟩:=bd h
      refine jl (fun(s:(List ab)×Int) (x:(Option Nat)×Nat×(List Value)×Nat)=>match s,x with | ⟨a7,cS⟩,⟨gS,jg,gb,uC⟩=>(a7.length=uC)∧(hS gS uC jg gb 4)∧(hO gS a7 jg)) (fun⟨a7,cS⟩ ⟨gS,jg,gb,uC⟩=> [(2,[],(vP cD)),(3,[],(vP fa)),(4,[],(.slice none 0 0)),(5,[],(.slice (mB gS) uC jg)),(7,[],(vB yA)),(9,[],(vB jZ)),(15,[],(.slice (mB gI) aA.length tJ)),(16,[],(vI (aA.length:Int))),(17,[],(vI cK)),(21,[],(.slice (mB gL) gu.length MA)),(22,[],(vI (gu.length:Int))),(23,[],(vI eE)),(28,[],(.slice bj f0.aa.length bi)),(29,[],(vI (f0.aa.length:Int))),(30,[],(vI cS))]) (fun⟨a7,cS⟩ ⟨gS,jg,gb,uC⟩=> [⟨some cD,29,cF f0 bj bi⟩,⟨some fa,70,cN n1⟩,⟨gS,72,row af a7 gb⟩,⟨gI,66,row f_ aA ig⟩,⟨gL,66,row f_ gu uE⟩]) aeb ⟨pt,tI,kS,kr.length⟩ ⟨rfl,Oj,Ol⟩ [0,1,2,3,4] ?_
      rintro⟨a7,cS⟩ ⟨gS,jg,gb,uC⟩ aka ⟨rfl,to,nX⟩ h
      rw [Fm.j4] at h
      refine cT [0] (ad (qi h (fun h=> ?_) (fun h=> ?_)))
      ·refine kT (ad (ap (cR [0] (bE h fun Kv w6 h=>oX 0 bj 2 w6 rfl (dr.sp w6) (oL 0 true (fun w hm=>((hm.xr dr).at w6)) (oA 0 (fun ah6=>qh [0] (oS 0 [5] (eT (ad (qg [⟨some cD,29,cF f0 bj bi⟩,⟨some fa,70,cN n1⟩,⟨gS,72,row af a7 gb⟩,⟨gI,66,row f_ aA ig⟩,⟨gL,66,row f_ gu uE⟩,⟨some ah6,68,[(vB Kv.aD),(vB Kv.fg)]⟩] 15 (qd [⟨0,0,0⟩,⟨1,1,0⟩,⟨2,0,0⟩,⟨3,0,0⟩,⟨4,0,0⟩,⟨5,0,0⟩,⟨6,0,0⟩,⟨7,1,0⟩,⟨8,0,0⟩,⟨9,0,0⟩,⟨10,0,0⟩,⟨11,0,0⟩,⟨12,0,0⟩,⟨13,0,0⟩,⟨14,0,0⟩] 0 [0,1,2,3,4,5] (zT (cR [0,0,0,0,0] (bE h fun Mr Sc h=>oQ 0 (fun w hm=>FB.c (au ((au n1.cd)+(au yA))) 0 (au ((au f0.ag)-1)) w _ Sc) (qf [(0,0),(0,1),(5,1),(0,1),(0,1),(0,1),(0,0)] (eT (qi h (fun h=> ?_) (fun h=> ?_)))))))))))))))))))
       ·refine cH [0,0,0,0,0,0] (oA 0 (fun Ia=>?_))
        obtain⟨aed,h⟩:=gd h
        exact tO (pA 0 2 gS 72 a7.length 1 jg 4 4 (sB Ia) af a7 ([(⟨false,yA,jZ,(w8 cS)⟩:ab)]:List ab) gb (.agg #[(.bool false),(vB 0),(vB 0),(vB 0)]) rfl rfl az eI to nX (fun w hm=>(hm.ow 6 (some Ia) 72 ([(⟨false,yA,jZ,(w8 cS)⟩:ab)]:List ab) [] (fun e=>nomatch e) az)) aed (fun ah7 aaV Ox S1 S2=>oH [0] (qe (nT (cH [0,0] (qe (qb ((a7++([(⟨false,yA,jZ,(w8 cS)⟩:ab)]:List ab)),(au (cS+1))) ⟨ah7,aaV,Ox,(a7++([(⟨false,yA,jZ,(w8 cS)⟩:ab)]:List ab)).length⟩ h ⟨rfl,S1,S2⟩ [0,1,2,3,4])))))))
       ·exact bV (nT (cH [0,0] (qe (qb (a7,(au (cS+1))) ⟨gS,jg,gb,a7.length⟩ h ⟨rfl,to,nX⟩ [0,1,2,3,4]))))
      ·exact lX a7 h (fun e=>by subst e;exact bo (qm ⟨a7,gS,jg,gb,a7.length⟩ ⟨aec,rfl,to,nX⟩ [0,1,2,3,4]))
     ·rintro⟨jI,nw,tH,uH,uB⟩ ⟨h,rfl,S3,S4⟩
      unfold Fm.Ie at h
      exact nT (cH [0,0] (qe (qb (jI,(au (eE+1))) ⟨nw,tH,uH,jI.length⟩ h ⟨rfl,S3,S4⟩ [0,1,2,3,4])))
    ·exact lX kr h (fun e=>by subst e;exact bo (qm ⟨kr,pt,tI,kS,kr.length⟩ ⟨aea,rfl,Oj,Ol⟩ [0,1,2,3,4]))
   ·rintro⟨iK,As,h_,uF,uG⟩ ⟨h,rfl,aee,S5⟩
    unfold Fm.tG at h
    exact nT (cH [0,0] (qe (qb (iK,(au (cK+1))) ⟨As,h_,uF,iK.length⟩ h ⟨rfl,aee,S5⟩ [0,1,2,3])))
  ·exact lX eH h (fun e=>by subst e;exact bo (qm ⟨eH,kp,ls,rn,eH.length⟩ ⟨ad8,rfl,N8,N9⟩ [0,1,2,3]))
 ·rintro⟨aL,lY,fU,jz,PM⟩ ⟨h,rfl,S6,Kx⟩
  unfold Fm.nS at h
  refine aP (cR [0,0] (oA 0 (fun Xj=>?_)))
  obtain⟨SK,h⟩:=gd h
  refine tO (pA 0 2 lY 72 aL.length 1 fU 4 4 (sB Xj) af aL ([(⟨true,0,0,0⟩:ab)]:List ab) jz (.agg #[(.bool false),(vB 0),(vB 0),(vB 0)]) rfl rfl az eI S6 Kx (fun w hm=>(hm.ow 4 (some Xj) 72 ([(⟨true,0,0,0⟩:ab)]:List ab) [] (fun e=>nomatch e) az)) SK (fun ah8 aaW aef aeg aeh=>oH [0] (eT (aI ?_))))
  obtain rfl:=si h
  exact qr [] (fun w hm=>⟨ah8,aaW,aef,((aL++([(⟨true,0,0,0⟩:ab)]:List ab)).length),rfl,aeg,aeh,rfl,hm.pk [2]⟩)
def MB(c0:aQ)(x1:ab):Option (Int):=(if x1.bJ=true then some (au c0.bJ) else(Pq (x1.ba !=0)).bind fun aA=>some (au ((au ((au c0.du)*(au (if(w8 (0-x1.cP))>x1.cP then(w8 (0-x1.cP)) else x1.cP))))+(au ((au c0.ba)*aA)))))
theorem MB.c(c0:aQ)(x1:ab)(w:World)(r:Int)(h:MB c0 x1=some r):
   Cq 97 #[(.agg (aC c0)),(.agg (aY x1))] w (vI r) [] []:=by
 rw [MB] at h
 refine en Tryz.func97 rfl Tryz.ntmps97 (ad (ao (oA 0 (fun cD=>oA 0 (fun fa=>qh [0] (eT (ad (cT [0,1] (qi h (fun h=> ?_) (fun h=> ?_))))))))))
 ·refine cT [0,0,0,0] (rX ?_)
  cases h
  exact qP []
 ·refine kT (cT [0,1,0,1,0,0,0,0] (ad (qg [⟨some cD,46,cC c0⟩,⟨some fa,72,cY x1⟩] 15 (qd [⟨0,0,0⟩,⟨1,0,0⟩,⟨2,0,0⟩,⟨3,0,0⟩,⟨4,0,0⟩,⟨5,0,0⟩,⟨6,0,0⟩,⟨7,0,0⟩,⟨8,0,0⟩,⟨9,1,0⟩,⟨10,0,0⟩] 4 [0,1] (bE h fun aA kN h=>dQ 11 0 (fun w hm=>Pq.c (x1.ba !=0) w _ kN) [0,1] (qd [⟨12,0,0⟩,⟨13,0,0⟩,⟨14,0,0⟩] 0 [0,1] (qz (xR ?_))))))))
  cases h
  exact qP []
def FO.fk(aL:List Int):Option ((List Int)):=some aL
def FO.s_(aZ:List Int)(bK:Int)(cK:Int):Option (((List Int)×Int)⊕((List Int))):=(if aZ.length+([cK]:List Int).length≤4294967296 then some (.inl ((aZ++([cK]:List Int)),(au (bK+1)))) else none)
def FO.vQ(c2:aQ)(i_:(List ab)):(Int×Int)→Option ((Int×Int)⊕(Int))
 | (ew,fR)=>(if(decide (fR<(i_.length:Int)))=true then(ix i_ fR).bind fun rI=>(MB c2 rI).bind fun uh=>some (.inl ((if uh<ew then uh else ew),(au (fR+1)))) else some (.inr ew))
def FO.fY(f0:ae)(t1:List ai)(c2:aQ):((List Int)×Int)→Option (((List Int)×Int)⊕((List Int)))
 | (aZ,bK)=>(if(decide (bK<(t1.length:Int)))=true then(ix t1 bK).bind fun qS=>(Fm f0 qS).bind fun i_=>(loop (FO.vQ c2 i_) ((au c2.bJ),0)).bind fun qQ=>FO.s_ aZ bK qQ else some (.inr aZ))
def FO(f0:ae)(t1:List ai)(c2:aQ):Option ((List Int)):=(loop (FO.fY f0 t1 c2) (([]:List Int),0)).bind fun lD=>FO.fk lD
theorem FO.c(f0:ae)(t1:List ai)(c2:aQ)(w:World)(r:(List Int)){bj:Option Addr}{bm:Nat}(bi:Nat)(dr:Rw w bj 2 ay f0.aa)(cE:f0.aa.length=bm){bL:Option Addr}{bG:Nat}(bQ:Nat)(dL:Rw w bL 2 aF t1)(dU:t1.length=bG)(h:FO f0 t1 c2=some r):
   Cr 148 #[(.agg #[(vH f0.ag),(.slice bj bm bi)]),(.slice bL bG bQ),(.agg (aC c2))] w fun v w'=>∃(o0:Option Nat) (c0:Nat) (s0:List Value) (n0:Nat),r.length=n0∧(hS o0 n0 c0 s0 1)∧(hO o0 r c0)∧v= .slice (mB o0) n0 c0∧Mem w [] [⟨o0,2,row aG r s0⟩] w':=by
 subst cE dU
 rw [FO] at h
 refine en Tryz.func148 rfl Tryz.ntmps148 (ad (ao (oA 0 (fun fa=>oA 0 (fun pR=>qh [0] (eT (ad (ao (oA 0 (fun cD=>qh [0] (eT (ad (cT [0,0,0] (aK (fun(j:(List Int)×(Option Nat)×Nat×(List Value)×Nat)=>match j with | ⟨aL,jc,bP,dN,pI⟩=>FO.fk aL=some r∧(aL.length=pI)∧(hS jc pI bP dN 1)∧(hO jc aL bP)) (fun⟨aL,jc,bP,dN,pI⟩=> [(6,[],(.slice none 0 0)),(7,[],(.slice (mB jc) pI bP))]) (fun⟨aL,jc,bP,dN,pI⟩=> [⟨some fa,29,cF f0 bj bi⟩,⟨some pR,46,cC c2⟩,⟨jc,2,row aG aL dN⟩]) ?_ ?_))))))))))))))
 ·refine ap ?_
  obtain⟨lD,uu,DE⟩:=bd h
  refine jl (fun(s:(List Int)×Int) (x:(Option Nat)×Nat×(List Value)×Nat)=>match s,x with | ⟨aZ,bK⟩,⟨nh,iU,vO,lh⟩=>(aZ.length=lh)∧(hS nh lh iU vO 1)∧(hO nh aZ iU)) (fun⟨aZ,bK⟩ ⟨nh,iU,vO,lh⟩=> [(3,[],(vP fa)),(5,[],(vP pR)),(6,[],(.slice none 0 0)),(7,[],(.slice (mB nh) lh iU)),(14,[],(.slice bL t1.length bQ)),(15,[],(vI (t1.length:Int))),(16,[],(vI bK))]) (fun⟨aZ,bK⟩ ⟨nh,iU,vO,lh⟩=> [⟨some fa,29,cF f0 bj bi⟩,⟨some pR,46,cC c2⟩,⟨nh,2,row aG aZ vO⟩]) uu ⟨(some cD),0,[],0⟩ ⟨rfl,(fun _=>⟨bt _,by simp⟩),(fun e=>nomatch e)⟩ [0,1,2] ?_
  rintro⟨aZ,bK⟩ ⟨nh,iU,vO,lh⟩ RO ⟨rfl,tm,iz⟩ h
  rw [FO.fY] at h
  refine cT [0] (ad (qi h (fun h=> ?_) (fun h=> ?_)))
  ·refine kT (ad (ap (ad (ao (bE h fun qS su h=>oX 0 bL 2 su rfl (dL.sp su) (oL 0 true (fun w hm=>((hm.xr dL).at su)) (oA 0 (fun aei=>oS 0 [3] (eT (cT [0,1,0,0] (ad (cR [0,3] (bE h fun i_ uw h=>oC 0 (fun w hm=>Fm.c f0 qS w _ bi (hm.xr dr) rfl uw) ?_)))))))))))))
   rintro w v w' hm ⟨kJ,aaX,hQ,_,rfl,adn,pz,rfl,bn⟩
   refine aq hm bn (oH [0,0] (eT (aK (fun(cK:Int)=>FO.s_ aZ bK cK=some RO) (fun cK=> [(3,[],(vP fa)),(5,[],(vP pR)),(6,[],(.slice none 0 0)),(7,[],(.slice (mB nh) aZ.length iU)),(10,[],(vI cK)),(14,[],(.slice bL t1.length bQ)),(15,[],(vI (t1.length:Int))),(16,[],(vI bK))]) (fun cK=> [⟨some fa,29,cF f0 bj bi⟩,⟨some pR,46,cC c2⟩,⟨nh,2,row aG aZ vO⟩,⟨some aei,70,cN qS⟩,⟨kJ,72,row af i_ hQ⟩]) ?_ ?_)))
   ·refine ap ?_
    obtain⟨qQ,Ao,aej⟩:=bd h
    refine jl (fun(s:Int×Int) (x:Unit)=>match s,x with | ⟨ew,fR⟩,_=>True) (fun⟨ew,fR⟩ _=> [(3,[],(vP fa)),(5,[],(vP pR)),(6,[],(.slice none 0 0)),(7,[],(.slice (mB nh) aZ.length iU)),(10,[],(vI ew)),(14,[],(.slice bL t1.length bQ)),(15,[],(vI (t1.length:Int))),(16,[],(vI bK)),(25,[],(.slice (mB kJ) i_.length aaX)),(26,[],(vI (i_.length:Int))),(27,[],(vI fR))]) (fun⟨ew,fR⟩ _=> [⟨some fa,29,cF f0 bj bi⟩,⟨some pR,46,cC c2⟩,⟨nh,2,row aG aZ vO⟩,⟨some aei,70,cN qS⟩,⟨kJ,72,row af i_ hQ⟩]) Ao () trivial [0,1,2,3,4] ?_
    rintro⟨ew,fR⟩ _ akb _ h
    rw [FO.vQ] at h
    refine cT [0] (ad (qi h (fun h=> ?_) (fun h=> ?_)))
    ·exact kT (ad (ap (ad (ao (bE h fun rI oU h=>oX 0 (mB kJ) 4 oU rfl (nl pz oU) (oL 0 true (aX 4 kJ 72 i_ hQ pz az oU) (oA 0 (fun akc=>oS 0 [5] (eT (cH [0,1,5] (bE h fun uh C7 h=>oQ 0 (fun w hm=>MB.c c2 rI w _ C7) (qh [0,0] (qe (nT (cH [0,0] (qe (qb ((if uh<ew then uh else ew),(au (fR+1))) () h trivial [0,1,2,3,4])))))))))))))))))
    ·exact lX ew h (fun e=>by subst e;exact bo (qm ew aej [0,1,2,3,4]))
   ·rintro cK h
    unfold FO.s_ at h
    refine aP (cH [0,0] (oA 0 (fun Sl=>?_)))
    obtain⟨aek,h⟩:=gd h
    exact tO (pA 0 2 nh 2 aZ.length 1 iU 1 8 (sB Sl) aG aZ ([cK]:List Int) vO (vI 0) rfl rfl bf fT tm iz (fun w hm=>(hm.ow 5 (some Sl) 2 ([cK]:List Int) [] (fun e=>nomatch e) bf)) aek (fun ux tJ Oi vt nW=>oH [0] (qe (nT (cH [0,0] (qe (qb ((aZ++([cK]:List Int)),(au (bK+1))) ⟨ux,tJ,Oi,(aZ++([cK]:List Int)).length⟩ h ⟨rfl,vt,nW⟩ [0,1,2])))))))
  ·exact lX aZ h (fun e=>by subst e;exact bo (qm ⟨aZ,nh,iU,vO,aZ.length⟩ ⟨DE,rfl,tm,iz⟩ [0,1,2]))
 ·rintro⟨aL,jc,bP,dN,pI⟩ ⟨h,rfl,to,nX⟩
  unfold FO.fk at h
  refine aP (cT [0,0] (aI ?_))
  obtain rfl:=si h
  exact qr [] (fun w hm=>⟨jc,bP,dN,aL.length,rfl,to,nX,rfl,hm.pk [2]⟩)
section
open Go.RowKit Go.Shelf
attribute [local go_sem] Oper.semAt_some
set_option maxHeartbeats 2000000 in
theorem va.full(n:Nat)(l Bs b len cap:Nat)(zs:List Int)(hlen:zs.length=len)(ah9:len*8≤140737488351232)(J:Nat→World→Prop)(Jx:World→Prop)
   (hJ:∀k W,J k W→W.cell? ⟨Bs,0,none⟩=some (.slice (some ⟨b,0,none⟩) len cap)∧∀j:Nat,j<len→W.cell? ⟨b,j,none⟩=some (.int .i64 (zs[j]?.getD 0)))
   (hY:∀k W,J k W→k<len→YieldAt Fence.wide (n-1) Tryz.prog l #[.int .i64 ((len-1-k:Nat):Int), .int .i64 (zs[len-1-k]?.getD 0)] W fun e W'=>
     (e= .returned (.bool true)∧J (k+1) W')∨(e= .returned (.bool false)∧Jx W'))
   (W:World) (h0:J 0 W):
   CallsIn Fence.wide n Tryz.prog 186 #[.func (.yield l) #[] #[], .pointer (some ⟨Bs,0,none⟩)] W fun e W'=>(∃v,e= .returned v)∧(J len W'∨Jx W'):=by
 obtain⟨hBs,_⟩:=hJ 0 W h0
 refine callsIn_of_wp Tryz.func186 rfl trivial ?_ rfl
 simp only [Tryz.ntmps186,t_,cf,bN,Nat.reduceAdd,Nat.reduceSub,Array.replicate_succ,Array.replicate_zero,List.push_toArray,List.append_toArray,gm,nD]
 gi_wp2
 gi_loopw [3] (fun i wr=>∃k:Nat,k≤len∧i= .int .i64 ((len:Int)-1-k)∧J k wr)
   (fun i _=>(intOf i+1).toNat)
 case atStart=>exact⟨0,Nat.zero_le _,by simp,h0⟩
 case round=>
   obtain⟨k,hk,rfl,hJs⟩:=hrel
   obtain⟨hB,hc⟩:=hJ k wr hJs
   by_cases gy:k<len
   · obtain⟨fn,tmps,assign,body,hy,hR⟩:=hY k wr hJs gy
     have hcx:wr.cell? ⟨b,len-1-k,none⟩=some (.int .i64 (zs[len-1-k]?.getD 0)):=hc (len-1-k) (by omega)
     have e1:((len:Int)-1-k)=((len-1-k:Nat):Int):=by omega
     clear hc
     rw [e1]
     gi_wp2
     refine⟨fun h=>(by cases h),hR.mono ?_⟩
     rintro e W3 (⟨rfl,hJ3⟩ | ⟨rfl,aia⟩)
     · gi_wp2
       go_roundw
       case rel=>exact⟨k+1,by omega,by simp;omega,hJ3⟩
       case measure=>simp [intOf]
     · gi_wp2
       refine bodyPost_ret (results_none rfl _ _ _) rfl ?_
       exact⟨⟨_,rfl⟩, .inr aia⟩
   · obtain rfl:k=len:=by omega
     gi_wp2
     go_end0
     exact⟨⟨_,rfl⟩, .inl hJs⟩
set_option maxHeartbeats 2000000 in
theorem va.bare(n:Nat)(l Bs cap:Nat)(J:Nat→World→Prop)(Jx:World→Prop)(W:World)
   (hJ:W.cell? ⟨Bs,0,none⟩=some (.slice none 0 cap)) (h0:J 0 W):
   CallsIn Fence.wide n Tryz.prog 186 #[.func (.yield l) #[] #[], .pointer (some ⟨Bs,0,none⟩)] W fun e W'=>(∃v,e= .returned v)∧(J 0 W'∨Jx W'):=by
 refine callsIn_of_wp Tryz.func186 rfl trivial ?_ rfl
 simp only [Tryz.ntmps186,t_,cf,bN,Nat.reduceAdd,Nat.reduceSub,Array.replicate_succ,Array.replicate_zero,List.push_toArray,List.append_toArray,gm,nD]
 gi_wp2
 gi_loopw [3] (fun i wr=>i= .int .i64 (-1)∧J 0 wr) (fun _ _=>0)
 case atStart=>exact⟨rfl,h0⟩
 case round=>
   obtain⟨rfl,hJs⟩:=hrel
   gi_wp2
   go_end0
   exact⟨⟨_,rfl⟩, .inl hJs⟩
theorem va.iter(b0:Nat)(o:Option Nat)(xs:List Int)(cap:Nat)(hl:xs.length≤4294967296)(ho:o=none→xs= []):YO Tryz.prog 186 #[.pointer (some ⟨b0,0,none⟩)] ((yz xs).map Ow) (fun _=>SX b0 o xs cap) (fun _ W W'=>W'=W):=by
 intro n l J J' Jx W hH hSt hY h0
 have hlen:((yz xs).map Ow).length=xs.length:=by simp [yz]
 rw [hlen]
 cases o with
 | none=>
   have hx:=ho rfl
   subst hx
   exact va.bare n l b0 cap J Jx W (hH 0 W h0).1 h0
 | some b=>
   refine va.full n l b0 b xs.length cap xs rfl (by omega) J Jx (fun k W hj=>⟨(hH k W hj).1,fun j N_=> ?_⟩) (fun k W hj hk=> ?_) W h0
   · obtain⟨c,hc,h2⟩:=(hH k W hj).2 j xs[j] (bM N_)
     cases hc
     rw [h2,bM N_];rfl
   · have:=hY k W (by rw [hlen];exact hk) (hSt k W W (by rw [hlen];exact hk) hj rfl)
     simpa [yz,Ow] using this
set_option maxHeartbeats 2000000 in
theorem va.calls(o:Option Nat)(n c:Nat)(w:World):
   Cr 147 #[.slice (o.map fun b=>⟨b,0,none⟩) n c] w fun v w'=>∃b:Nat,v= .func (.func 186) #[] #[.pointer (some ⟨b,0,none⟩)]∧Mem w [] [⟨some b,40,[.slice (o.map fun b=>⟨b,0,none⟩) n c]⟩] w':=by
 generalize (o.map fun b=>(⟨b,0,none⟩:Addr))=a
 refine(callsIn_wide (n:=0)).1 (callsIn_of_wp Tryz.func147 rfl trivial ?_ rfl)
 simp only [Tryz.ntmps147,t_,cf,bN,Nat.reduceAdd,Nat.reduceSub,Array.replicate_succ,Array.replicate_zero,List.push_toArray,List.append_toArray,gm,nD]
 gi_wp2
 go_ret
 exact⟨_,rfl,_,rfl,Xg w 40 [.slice a n c]⟩
end
def I8.e7(He:Int×Int):(List Int)→Option (((List Int))⊕(Unit))
 | aL=>(ix aL (au (He.1+1))).bind fun CD=>(ix aL He.1).bind fun pg=>some (.inl (aL.set He.1.toNat (au (CD+He.2))))
def I8.qw(aL:List Int):Option ((List Int)):=some aL
def I8(f0:ae)(t1:List ai)(c2:aQ):Option ((List Int)):=(if 0≤(au ((t1.length:Int)+1))∧(au ((t1.length:Int)+1))≤17592186044416 then(FO f0 t1 c2).bind fun dj=>(if dj.length≤4294967296 then(Bd I8.e7 (yz dj) (List.replicate (au ((t1.length:Int)+1)).toNat 0)).bind fun gu=>match gu with | .inl p=>I8.qw p | .inr _=>none else none) else none)
theorem I8.c(f0:ae)(t1:List ai)(c2:aQ)(w:World)(r:(List Int)){bj:Option Addr}{bm:Nat}(bi:Nat)(dr:Rw w bj 2 ay f0.aa)(cE:f0.aa.length=bm){bL:Option Addr}{bG:Nat}(bQ:Nat)(dL:Rw w bL 2 aF t1)(dU:t1.length=bG)(h:I8 f0 t1 c2=some r):
   Cr 92 #[(.agg #[(vH f0.ag),(.slice bj bm bi)]),(.slice bL bG bQ),(.agg (aC c2))] w fun v w'=>∃(o0:Option Nat) (c0:Nat) (s0:List Value) (n0:Nat),r.length=n0∧(hS o0 n0 c0 s0 1)∧(hO o0 r c0)∧v= .slice (mB o0) n0 c0∧Mem w [] [⟨o0,2,row aG r s0⟩] w':=by
 subst cE dU
 rw [I8] at h
 refine aaQ (args:= [(.agg #[(vH f0.ag),(.slice bj f0.aa.length bi)]),(.slice bL t1.length bQ),(.agg (aC c2))]) Tryz.func92 rfl Tryz.ntmps92 (by kernel_rfl) (L:= []) (W:= []) (Mem.start w) (ad (ao (oA 0 (fun fV=>oA 0 (fun fa=>qh [0] (eT (cR [0,0,0] ?_)))))))
 obtain⟨Dh,h⟩:=gd h
 refine tO (pQ 0 2 (au ((t1.length:Int)+1)) 1 8 aG 0 Dh.1 (by omega) (fun gx=>fB (oA 0 (fun qu=>oS 0 [3] (eT (ad (cR [0,0,1] (bE h fun dj iR h=>oC 0 (fun w hm=>FO.c f0 t1 c2 w _ bi (hm.xr dr) rfl bQ (hm.xr dL) rfl iR) ?_))))))))
 rintro w v w' hm ⟨kM,iy,nU,_,rfl,J1,Ak,rfl,bn⟩
 refine aq hm bn (fB (oC 0 (fun w hm=>va.calls kM dj.length iy w) ?_))
 rintro w v w' hm ⟨ur,rfl,bn⟩
 refine ⟨_,hm.app (N:= [⟨some ur,40,[(.slice (mB kM) dj.length iy)]⟩]) bn,fB (eT (ap ?_))⟩
 obtain⟨ael,h⟩:=ifS h
 obtain⟨gu,sd,S7⟩:=bd h
 refine ZP [(6,[],(.slice none 0 0)),(7,[],(vP qu)),(18,[],(.func (.func 186) #[] #[(vP ur)]))] (by kernel_rfl) (SQ Ow (fun(s:(List Int)) (x:Unit)=>match s,x with | aL,_=>(aL.length=(au ((t1.length:Int)+1)).toNat)) (fun(_:Nat) (s:(List Int)) (x:Unit)=>match s,x with | aL,_=> [⟨some fV,29,cF f0 bj bi⟩,⟨some fa,46,cC c2⟩,⟨(some gx),2,row aG aL []⟩,⟨some qu,40,[(.slice (sB gx) ((au ((t1.length:Int)+1)).toNat) ((au ((t1.length:Int)+1)).toNat))]⟩,⟨kM,2,row aG dj nU⟩,⟨some ur,40,[(.slice (mB kM) dj.length iy)]⟩]) (fun(He:Int×Int)=> [(6,[],(.slice none 0 0)),(7,[],(vP qu)),(8,[],(vI He.1)),(9,[],(vI He.2)),(18,[],(.func (.func 186) #[] #[(vP ur)])),(19,[],(vI He.1)),(20,[],(vI He.2))]) (fun _=>SX ur kM dj iy) (fun _ W W'=>W'=W) sd () List.length_replicate (by kernel_rfl) (enters_of Tryz.func186 (by kernel_rfl) rfl) (va.iter ur kM dj iy ael (fun e=>(Ak e).1)) (fun _=>rfl) (fun _=>by kernel_rfl) [0,1,2,3,4,5] (by kernel_rfl) (by kernel_rfl) ?_ ?_ ?_ ?_ ?_)
 ·rintro _ aL _ _ _ w b o _ hm jR
  exact aaS hm jR 5 4 rfl rfl rfl (fun _=>rfl) (fun e=>(Ak e).1)
 ·intro _ _ _ _ _ _ _ _ _ _ _ _ hm ho _ _ Cc
  exact Xf hm ho Cc
 ·rintro w1_ W1_ He _ aL _ Q_ akd hq_
  exact aaR (Hb (by kernel_rfl) (qh [0] (qe (Xb (Hb (by kernel_rfl) (qh [0] (qe (ad7 [(6,[],(.slice none 0 0)),(7,[],(vP qu)),(8,[],(vI He.1)),(9,[],(vI He.2)),(18,[],(.func (.func 186) #[] #[(vP ur)])),(19,[],(vI He.1)),(20,[],(vI He.2))] [0,1,2,3,4,5] (by kernel_rfl) (by kernel_rfl) (by kernel_rfl) hq_))))))))
 ·rintro w1_ W1_ k_ aL _ He ta hK_ vS _ h
  rw [I8.e7] at h
  exact SO (Xa (by kernel_rfl) [⟨some fV,29,cF f0 bj bi⟩,⟨some fa,46,cC c2⟩,⟨some qu,40,[(.slice (sB gx) ((au ((t1.length:Int)+1)).toNat) ((au ((t1.length:Int)+1)).toNat))]⟩,⟨kM,2,row aG dj nU⟩,⟨some ur,40,[(.slice (mB kM) dj.length iy)]⟩] 11 (by kernel_rfl) (by kernel_rfl) (qd [⟨0,2,0⟩,⟨1,0,0⟩,⟨2,2,0⟩,⟨3,0,0⟩,⟨4,0,0⟩,⟨7,0,0⟩] 5 [0,1,3,4,5] (bE h fun CD vv h=>qX 5 0 [0,1,3,4,5] (sB gx) 1 vv vS rfl (tD 6 (ql 0 false (fun w hm=>((hm.ow 2 (some gx) 2 aL [] (fun e=>nomatch e) bf).at vv)) (kD [0,1,3,4,5] (qd [⟨8,0,0⟩] 2 [0,1,3,4,5] (bE h fun pg yr h=>qX 9 0 [0,1,3,4,5] (sB gx) 1 yr vS rfl (tD 10 (pT 0 2 gx 2 aG aL [] He.1 (au (CD+He.2)) 1 0 [(vI (au (CD+He.2)))] bf yr (kD [0,1,3,4,5] (qz (nf (W9 (aL.set He.1.toNat (au (CD+He.2))) () (sj h) (eJ.trans vS) [0,1,2,3,4,5] (by kernel_rfl) (by kernel_rfl)))))))))))))))
 ·rintro df_ w2_ W2_ aaY aL _ aib vS
  subst aib
  have h:I8.qw aL=some r:=S7
  rw [I8.qw] at h
  refine nT (cT [3,0] (aI ?_))
  obtain rfl:=si h
  exact W_ aaY [] (.slice (sB gx) ((au ((t1.length:Int)+1)).toNat) ((au ((t1.length:Int)+1)).toNat)) [] rfl (by kernel_rfl) (by kernel_rfl) (fun w hm=>⟨(some gx),((au ((t1.length:Int)+1)).toNat),[],((au ((t1.length:Int)+1)).toNat),vS,(fun _=>⟨bt _,by simp⟩),(fun e=>nomatch e),rfl,hm.pk [2]⟩)
def YT(x0:Int):Option (Bool):=some (x0 !=x0)
theorem YT.c(x0:Int)(w:World)(r:Bool)(h:YT x0=some r):
   Cq 151 #[(vI x0)] w (.bool r) [] []:=by
 rw [YT] at h
 refine en Tryz.func151 rfl Tryz.ntmps151 (cT [0] (cT [0,0,0,0] (aI ?_)))
 cases h
 exact qP []
def FbJ(x0:Int)(y1:Int):Option (Int):=(YT x0).bind fun bz=>(YT y1).bind fun aA=>(if bz=true then(if aA=true then some 0 else some (-1)) else(if aA=true then some 1 else(if(decide (x0<y1))=true then some (-1) else(if(decide (x0>y1))=true then some 1 else some 0))))
theorem FbJ.c(x0:Int)(y1:Int)(w:World)(r:Int)(h:FbJ x0 y1=some r):
   Cq 96 #[(vI x0),(vI y1)] w (vI r) [] []:=by
 rw [FbJ] at h
 refine en Tryz.func96 rfl Tryz.ntmps96 (cT [0] (cR [0] (bE h fun bz iD h=>oQ 0 (fun w hm=>YT.c x0 w _ iD) (qh [0] (eT (cR [0] (bE h fun aA gv h=>oQ 0 (fun w hm=>YT.c y1 w _ gv) (qh [0] (eT (ad (cT [0] (qi h (fun h=> ?_) (fun h=> ?_)))))))))))))
 ·refine ad (cT [0] (qi h (fun h=> ?_) (fun h=> ?_)))
  ·refine cT [0] (rX (aT ?_))
   cases h
   exact qP []
  ·refine kT (cT [0] (rX ?_))
   cases h
   exact qP []
 ·refine kT (ad (cT [0] (qi h (fun h=> ?_) (fun h=> ?_))))
  ·refine cT [0] (rX ?_)
   cases h
   exact qP []
  ·refine kT (ad (cT [0,0,0] (qi h (fun h=> ?_) (fun h=> ?_))))
   ·refine cT [0] (rX ?_)
    cases h
    exact qP []
   ·refine kT (ad (cT [0,0,0] (qi h (fun h=> ?_) (fun h=> ?_))))
    ·refine cT [0] (rX ?_)
     cases h
     exact qP []
    ·refine kT (cT [0] (aI ?_))
     cases h
     exact qP []
def D0(x0:ab)(y1:ab)(p2:aQ):Option (Int):=(MB p2 x0).bind fun aA=>(MB p2 y1).bind fun bz=>(FbJ aA bz).bind fun dj=>some dj
theorem D0.c(x0:ab)(y1:ab)(p2:aQ)(w:World)(r:Int)(K_b:Nat)(fG:Mem w (bs [some K_b]) [⟨some K_b,46,cC p2⟩] w)(h:D0 x0 y1 p2=some r):
   Cq 95 #[(.agg (aY x0)),(.agg (aY y1)),(vP K_b)] w (vI r) (bs [some K_b]) [⟨some K_b,46,cC p2⟩]:=by
 rw [D0] at h
 refine eN Tryz.func95 rfl Tryz.ntmps95 fG (ad (ao (oA 0 (fun cD=>oA 0 (fun fa=>qh [0] (eT (ad (qg [⟨some K_b,46,cC p2⟩,⟨some cD,72,cY x0⟩,⟨some fa,72,cY y1⟩] 8 (qd [⟨0,0,0⟩,⟨1,1,0⟩,⟨3,0,0⟩,⟨4,2,0⟩] 4 [0,1,2] (bE h fun aA kN h=>dQ 2 0 (fun w hm=>MB.c p2 x0 w _ kN) [0,1,2] (bE h fun bz jP h=>dQ 5 0 (fun w hm=>MB.c p2 y1 w _ jP) [0,1,2] (bE h fun dj jD h=>dQ 6 0 (fun w hm=>FbJ.c aA bz w _ jD) [0,1,2] (qd [⟨7,0,0⟩] 0 [0,1,2] (qz (xR ?_)))))))))))))))
 cases h
 exact qP [0]
def Fd.fk(kr:List ab):Option ((List ab)):=some kr
def Fd.u6(cS:Int)(fX:List ab):Option (((List ab)×Int)⊕((List ab))):=some (.inl (fX,(au (cS+1))))
def Fd.kq(a1:Int)(w7:aQ):((List ab)×Int)→Option (((List ab)×Int)⊕((List ab)))
 | (aZ,bB)=>(if(decide (bB>a1))=true then(ix aZ bB).bind fun oj=>(ix aZ (au (bB-1))).bind fun jZ=>(D0 oj jZ w7).bind fun w9=>(if(decide (w9<0))=true then(ix aZ (au (bB-1))).bind fun pg=>(ix aZ bB).bind fun q_=>(ix aZ bB).bind fun SD=>(ix (aZ.set bB.toNat pg) (au (bB-1))).bind fun Cs=>some (.inl (((aZ.set bB.toNat pg).set (au (bB-1)).toNat q_),(au (bB-1)))) else some (.inr aZ)) else some (.inr aZ))
def Fd.fY(a1:Int)(b2:Int)(w7:aQ):((List ab)×Int)→Option (((List ab)×Int)⊕((List ab)))
 | (mb,cS)=>(if(decide (cS<b2))=true then(loop (Fd.kq a1 w7) (mb,cS)).bind fun lD=>Fd.u6 cS lD else some (.inr mb))
def Fd(bg:List ab)(a1:Int)(b2:Int)(w7:aQ):Option ((List ab)):=(loop (Fd.fY a1 b2 w7) (bg,(au (a1+1)))).bind fun Cp=>Fd.fk Cp
theorem Fd.c(bg:List ab)(a1:Int)(b2:Int)(w7:aQ)(w:World)(r:(List ab))(cw:Option Nat){jp:Nat}{bX:Nat}{cI:List Value}(dH:bg.length=jp)(gq:hS cw jp bX cI 4)(lr:hO cw bg bX)(fZ:Nat)(fG:Mem w (bs [cw,some fZ]) [⟨cw,72,row af bg cI⟩,⟨some fZ,46,cC w7⟩] w)(h:Fd bg a1 b2 w7=some r):
   Cr 187 #[(.slice (mB cw) jp bX),(vI a1),(vI b2),(.func (.func 95) #[] #[(vP fZ)])] w fun v w'=>r.length=jp∧(hO cw r bX)∧v= .tuple #[]∧Mem w (bs [cw,some fZ]) [⟨cw,72,row af r cI⟩,⟨some fZ,46,cC w7⟩] w':=by
 subst dH
 rw [Fd] at h
 refine eN Tryz.func187 rfl Tryz.ntmps187 fG (cT [0,0,0] (aK (fun(kr:(List ab))=>Fd.fk kr=some r∧(kr.length=bg.length)∧(hO cw kr bX)) (fun kr=> []) (fun kr=> [⟨cw,72,row af kr cI⟩,⟨some fZ,46,cC w7⟩]) ?_ ?_))
 ·refine ap ?_
  obtain⟨Cp,uu,DE⟩:=bd h
  refine jl (fun(s:(List ab)×Int) (x:Unit)=>match s,x with | ⟨mb,cS⟩,_=>(mb.length=bg.length)∧(hO cw mb bX)) (fun⟨mb,cS⟩ _=> [(0,[],(.slice (mB cw) bg.length bX)),(1,[],(vI a1)),(2,[],(vI b2)),(3,[],(.func (.func 95) #[] #[(vP fZ)])),(8,[],(vI cS))]) (fun⟨mb,cS⟩ _=> [⟨cw,72,row af mb cI⟩,⟨some fZ,46,cC w7⟩]) uu () ⟨rfl,lr⟩ [0,1] ?_
  rintro⟨mb,cS⟩ _ aaT ⟨Ky,DP⟩ h
  rw [Fd.fY] at h
  refine ad (cT [0,0,0] (qi h (fun h=> ?_) (fun h=> ?_)))
  ·refine kT (ad (ap (cT [0,0] (aK (fun(fX:(List ab))=>Fd.u6 cS fX=some aaT∧(fX.length=bg.length)∧(hO cw fX bX)) (fun fX=> [(0,[],(.slice (mB cw) bg.length bX)),(1,[],(vI a1)),(2,[],(vI b2)),(3,[],(.func (.func 95) #[] #[(vP fZ)])),(8,[],(vI cS))]) (fun fX=> [⟨cw,72,row af fX cI⟩,⟨some fZ,46,cC w7⟩]) ?_ ?_))))
   ·refine ap ?_
    obtain⟨lD,uw,Dj⟩:=bd h
    refine jl (fun(s:(List ab)×Int) (x:Unit)=>match s,x with | ⟨aZ,bB⟩,_=>(aZ.length=bg.length)∧(hO cw aZ bX)) (fun⟨aZ,bB⟩ _=> [(0,[],(.slice (mB cw) bg.length bX)),(1,[],(vI a1)),(2,[],(vI b2)),(3,[],(.func (.func 95) #[] #[(vP fZ)])),(8,[],(vI cS)),(9,[],(vI bB))]) (fun⟨aZ,bB⟩ _=> [⟨cw,72,row af aZ cI⟩,⟨some fZ,46,cC w7⟩]) uw () ⟨Ky,DP⟩ [0,1] ?_
    rintro⟨aZ,bB⟩ _ ake ⟨tb,qT⟩ h
    rw [Fd.kq] at h
    refine s2 (qg [⟨cw,72,row af aZ cI⟩,⟨some fZ,46,cC w7⟩] 17 (qd [⟨0,0,0⟩,⟨1,0,0⟩,⟨2,0,0⟩,⟨3,0,0⟩,⟨4,0,1⟩,⟨5,0,1⟩,⟨6,0,1⟩,⟨9,0,1⟩,⟨10,0,1⟩,⟨11,0,1⟩] 7 [0,1] (js 21 (decide (bB>a1)) (fun S8=> ?_) (fun S8=> ?_))))
    ·replace h:=yi S8 h
     refine bE h fun oj wX h=>qX 7 2 [0,1] (mB cw) 4 wX tb (nl qT wX) (qL 8 2 [0,1] true (aX 0 cw 72 aZ cI qT az wX) (bE h fun jZ nb h=>qX 12 2 [0,1] (mB cw) 4 nb tb (nl qT nb) (qL 13 2 [0,1] true (aX 0 cw 72 aZ cI qT az nb) (bE h fun w9 Kz h=>tD 14 (pc 2 (fun w hm=>D0.c oj jZ w7 w _ fZ (hm.ps [1]) Kz) ?_)))))
     rintro w v w' hm ⟨rfl,bn⟩
     refine ⟨_,hm.aW [(1,⟨some fZ,46,cC w7⟩)] [] bn,kD [0,1] (qd [⟨15,0,2⟩,⟨16,0,4⟩] 0 [0,1] (zT (qi h (fun h=> ?_) (fun h=> ?_))))⟩
     ·refine kT (ad (ap (qg [⟨some fZ,46,cC w7⟩] 18 (qd [⟨0,0,0⟩,⟨1,0,0⟩,⟨2,0,0⟩,⟨3,0,0⟩,⟨4,0,0⟩,⟨5,0,0⟩,⟨6,0,0⟩,⟨7,0,0⟩,⟨10,0,0⟩,⟨11,0,0⟩] 8 [1] (bE h fun pg oR h=>qX 8 0 [1] (mB cw) 4 oR tb (nl qT oR) (bE h fun q_ mI h=>qX 12 0 [1] (mB cw) 4 mI tb (nl qT mI) (t2 9 13 ?_ ?_)))))))
      ·exact ql 0 true (aX 0 cw 72 aZ cI qT az oR) (kD [1] (tD 13 (ql 0 true (aX 0 cw 72 aZ cI qT az mI) (kD [1] (bE h fun SD lG h=>qX 14 0 [1] (mB cw) 4 lG tb (nl qT lG) (tD 15 (pO 0 0 cw 72 af aZ cI bB pg 4 0 (cY pg) (fun e=>(qT e).1) az lG (kD [1] (bE h fun Cs sq h=>qX 16 0 [1] (mB cw) 4 sq (eJ.trans tb) (nl (fK qT) sq) (tD 17 (pO 0 0 cw 72 af (aZ.set bB.toNat pg) cI (au (bB-1)) q_ 4 0 (cY q_) (fun e=>((fK qT) e).1) az sq (kD [1] (qz (nT (cH [0,0,0] (qe (qb (((aZ.set bB.toNat pg).set (au (bB-1)).toNat q_),(au (bB-1))) () h ⟨(eJ.trans (eJ.trans tb)),(fK (fK qT))⟩ [0,1])))))))))))))))))
      ·exact ql 0 true (aX 0 cw 72 aZ cI qT az mI) (kD [1] (tD 9 (ql 0 true (aX 0 cw 72 aZ cI qT az oR) (kD [1] (bE h fun SD ss h=>qX 14 0 [1] (mB cw) 4 ss tb (nl qT ss) (tD 15 (pO 0 0 cw 72 af aZ cI bB pg 4 0 (cY pg) (fun e=>(qT e).1) az ss (kD [1] (bE h fun Cs su h=>qX 16 0 [1] (mB cw) 4 su (eJ.trans tb) (nl (fK qT) su) (tD 17 (pO 0 0 cw 72 af (aZ.set bB.toNat pg) cI (au (bB-1)) q_ 4 0 (cY q_) (fun e=>((fK qT) e).1) az su (kD [1] (qz (nT (cH [0,0,0] (qe (qb (((aZ.set bB.toNat pg).set (au (bB-1)).toNat q_),(au (bB-1))) () h ⟨(eJ.trans (eJ.trans tb)),(fK (fK qT))⟩ [0,1])))))))))))))))))
     ·exact lX aZ h (fun e=>by subst e;exact bo (qm aZ ⟨Dj,tb,qT⟩ [0,1]))
    ·replace h:=yj S8 h
     refine qd [⟨7,0,3⟩,⟨8,0,3⟩,⟨12,0,3⟩,⟨13,0,3⟩,⟨14,0,3⟩,⟨15,0,3⟩,⟨16,0,5⟩] 0 [0,1] (zT (jq false (fun YU=>nomatch YU) (fun YU=>(lP (ib (wz aZ (sj h) (fun aic=> ?_)))))))
     subst aic
     exact bo (qm aZ ⟨Dj,tb,qT⟩ [0,1])
   ·rintro fX ⟨h,S9,vq⟩
    unfold Fd.u6 at h
    exact nT (cH [0,0,0] (qe (qb (fX,(au (cS+1))) () h ⟨S9,vq⟩ [0,1])))
  ·exact lX mb h (fun e=>by subst e;exact bo (qm mb ⟨DE,Ky,DP⟩ [0,1]))
 ·rintro kr ⟨h,S_,yp⟩
  unfold Fd.fk at h
  refine gn ?_
  obtain rfl:=si h
  exact qr [] (fun w hm=>⟨S_,yp,rfl,hm.pk [0,1]⟩)
def Fo.fk(dc:List ab):Option ((List ab)):=some dc
def Fo.fY(a1:Int)(b2:Int)(n3:Int):((List ab)×Int)→Option (((List ab)×Int)⊕((List ab)))
 | (aL,aR)=>(if(decide (aR<n3))=true then(ix aL (au (b2+aR))).bind fun pb=>(ix aL (au (a1+aR))).bind fun pd=>(ix aL (au (a1+aR))).bind fun jZ=>(ix (aL.set (au (a1+aR)).toNat pb) (au (b2+aR))).bind fun vR=>some (.inl (((aL.set (au (a1+aR)).toNat pb).set (au (b2+aR)).toNat pd),(au (aR+1)))) else some (.inr aL))
def Fo(bg:List ab)(a1:Int)(b2:Int)(n3:Int)(ee:aQ):Option ((List ab)):=(loop (Fo.fY a1 b2 n3) (bg,0)).bind fun jo=>Fo.fk jo
theorem Fo.c(bg:List ab)(a1:Int)(b2:Int)(n3:Int)(ee:aQ)(w:World)(r:(List ab))(cw:Option Nat){jp:Nat}{bX:Nat}{cI:List Value}(dH:bg.length=jp)(gq:hS cw jp bX cI 4)(lr:hO cw bg bX)(dY:Nat)(fG:Mem w (bs [cw,some dY]) [⟨cw,72,row af bg cI⟩,⟨some dY,46,cC ee⟩] w)(h:Fo bg a1 b2 n3 ee=some r):
   Cr 220 #[(.slice (mB cw) jp bX),(vI a1),(vI b2),(vI n3),(.func (.func 95) #[] #[(vP dY)])] w fun v w'=>r.length=jp∧(hO cw r bX)∧v= .tuple #[]∧Mem w (bs [cw,some dY]) [⟨cw,72,row af r cI⟩,⟨some dY,46,cC ee⟩] w':=by
 subst dH
 rw [Fo] at h
 refine eN Tryz.func220 rfl Tryz.ntmps220 fG (cT [0] (aK (fun(dc:(List ab))=>Fo.fk dc=some r∧(dc.length=bg.length)∧(hO cw dc bX)) (fun dc=> []) (fun dc=> [⟨cw,72,row af dc cI⟩,⟨some dY,46,cC ee⟩]) ?_ ?_))
 ·refine ap ?_
  obtain⟨jo,sd,S7⟩:=bd h
  refine jl (fun(s:(List ab)×Int) (x:Unit)=>match s,x with | ⟨aL,aR⟩,_=>(aL.length=bg.length)∧(hO cw aL bX)) (fun⟨aL,aR⟩ _=> [(0,[],(.slice (mB cw) bg.length bX)),(1,[],(vI a1)),(2,[],(vI b2)),(3,[],(vI n3)),(10,[],(vI aR))]) (fun⟨aL,aR⟩ _=> [⟨cw,72,row af aL cI⟩,⟨some dY,46,cC ee⟩]) sd () ⟨rfl,lr⟩ [0,1] ?_
  rintro⟨aL,aR⟩ _ aaZ ⟨tb,ri⟩ h
  rw [Fo.fY] at h
  refine ad (cT [0,0,0] (qi h (fun h=> ?_) (fun h=> ?_)))
  ·refine kT (ad (ap (qg [⟨some dY,46,cC ee⟩] 24 (qd [⟨0,0,0⟩,⟨1,0,0⟩,⟨2,0,0⟩,⟨3,0,0⟩,⟨4,0,0⟩,⟨5,0,0⟩,⟨6,0,0⟩,⟨7,0,0⟩,⟨8,0,0⟩,⟨9,0,0⟩,⟨10,0,0⟩,⟨11,0,0⟩,⟨14,0,0⟩,⟨15,0,0⟩,⟨16,0,0⟩,⟨17,0,0⟩] 8 [1] (bE h fun pb kW h=>qX 12 0 [1] (mB cw) 4 kW tb (nl ri kW) (bE h fun pd kV h=>qX 18 0 [1] (mB cw) 4 kV tb (nl ri kV) (t2 13 19 ?_ ?_)))))))
   ·exact ql 0 true (aX 0 cw 72 aL cI ri az kW) (kD [1] (tD 19 (ql 0 true (aX 0 cw 72 aL cI ri az kV) (kD [1] (bE h fun jZ wJ h=>qX 20 0 [1] (mB cw) 4 wJ tb (nl ri wJ) (tD 21 (pO 0 0 cw 72 af aL cI (au (a1+aR)) pb 4 0 (cY pb) (fun e=>(ri e).1) az wJ (kD [1] (bE h fun vR oR h=>qX 22 0 [1] (mB cw) 4 oR (eJ.trans tb) (nl (fK ri) oR) (tD 23 (pO 0 0 cw 72 af (aL.set (au (a1+aR)).toNat pb) cI (au (b2+aR)) pd 4 0 (cY pd) (fun e=>((fK ri) e).1) az oR (kD [1] (qz (nT (cH [0,0,0] (qe (qb (((aL.set (au (a1+aR)).toNat pb).set (au (b2+aR)).toNat pd),(au (aR+1))) () h ⟨(eJ.trans (eJ.trans tb)),(fK (fK ri))⟩ [0,1])))))))))))))))))
   ·exact ql 0 true (aX 0 cw 72 aL cI ri az kV) (kD [1] (tD 13 (ql 0 true (aX 0 cw 72 aL cI ri az kW) (kD [1] (bE h fun jZ mI h=>qX 20 0 [1] (mB cw) 4 mI tb (nl ri mI) (tD 21 (pO 0 0 cw 72 af aL cI (au (a1+aR)) pb 4 0 (cY pb) (fun e=>(ri e).1) az mI (kD [1] (bE h fun vR vv h=>qX 22 0 [1] (mB cw) 4 vv (eJ.trans tb) (nl (fK ri) vv) (tD 23 (pO 0 0 cw 72 af (aL.set (au (a1+aR)).toNat pb) cI (au (b2+aR)) pd 4 0 (cY pd) (fun e=>((fK ri) e).1) az vv (kD [1] (qz (nT (cH [0,0,0] (qe (qb (((aL.set (au (a1+aR)).toNat pb).set (au (b2+aR)).toNat pd),(au (aR+1))) () h ⟨(eJ.trans (eJ.trans tb)),(fK (fK ri))⟩ [0,1])))))))))))))))))
  ·exact lX aL h (fun e=>by subst e;exact bo (qm aL ⟨S7,tb,ri⟩ [0,1]))
 ·rintro dc ⟨h,aem,G3⟩
  unfold Fo.fk at h
  refine gn ?_
  obtain rfl:=si h
  exact qr [] (fun w hm=>⟨aem,G3,rfl,hm.pk [0,1]⟩)
def Fn.nS(m2:Int)(ee:aQ)(bO:List ab)(cS:Int):Option ((List ab)):=(Fo bO (au (m2-cS)) m2 cS ee).bind fun eO=>some eO
def Fn.nJ(dc:List ab)(dW:Int)(eE:Int):Option (((List ab)×Int×Int)⊕(((List ab)×Int))):=some (.inl (dc,dW,eE))
def Fn.pH(m2:Int)(ee:aQ):((List ab)×Int×Int)→Option (((List ab)×Int×Int)⊕(((List ab)×Int)))
 | (a7,aR,bB)=>(if(aR !=bB)=true then(if(decide (aR>bB))=true then(Fo a7 (au (m2-aR)) m2 bB ee).bind fun qI=>Fn.nJ qI (au (aR-bB)) bB else(Fo a7 (au (m2-aR)) (au ((au (m2+bB))-aR)) aR ee).bind fun lE=>Fn.nJ lE aR (au (bB-aR))) else some (.inr (a7,aR)))
def Fn(bg:List ab)(a1:Int)(m2:Int)(b3:Int)(ee:aQ):Option ((List ab)):=(loop (Fn.pH m2 ee) (bg,(au (m2-a1)),(au (b3-m2)))).bind fun iq=>Fn.nS m2 ee iq.1 iq.2
theorem Fn.c(bg:List ab)(a1:Int)(m2:Int)(b3:Int)(ee:aQ)(w:World)(r:(List ab))(cw:Option Nat){jp:Nat}{bX:Nat}{cI:List Value}(dH:bg.length=jp)(gq:hS cw jp bX cI 4)(lr:hO cw bg bX)(dY:Nat)(fG:Mem w (bs [cw,some dY]) [⟨cw,72,row af bg cI⟩,⟨some dY,46,cC ee⟩] w)(h:Fn bg a1 m2 b3 ee=some r):
   Cr 206 #[(.slice (mB cw) jp bX),(vI a1),(vI m2),(vI b3),(.func (.func 95) #[] #[(vP dY)])] w fun v w'=>r.length=jp∧(hO cw r bX)∧v= .tuple #[]∧Mem w (bs [cw,some dY]) [⟨cw,72,row af r cI⟩,⟨some dY,46,cC ee⟩] w':=by
 subst dH
 rw [Fn] at h
 refine eN Tryz.func206 rfl Tryz.ntmps206 fG (cT [0,0,0,0] (cT [0,0,0,0] (ad (aK (fun(j:(List ab)×Int)=>match j with | ⟨bO,cS⟩=>Fn.nS m2 ee bO cS=some r∧(bO.length=bg.length)∧(hO cw bO bX)) (fun⟨bO,cS⟩=> [(0,[],(.slice (mB cw) bg.length bX)),(2,[],(vI m2)),(4,[],(.func (.func 95) #[] #[(vP dY)])),(10,[],(vI cS))]) (fun⟨bO,cS⟩=> [⟨cw,72,row af bO cI⟩,⟨some dY,46,cC ee⟩]) ?_ ?_))))
 ·refine ap ?_
  obtain⟨iq,nx,Ku⟩:=bd h
  refine jl (fun(s:(List ab)×Int×Int) (x:Unit)=>match s,x with | ⟨a7,aR,bB⟩,_=>(a7.length=bg.length)∧(hO cw a7 bX)) (fun⟨a7,aR,bB⟩ _=> [(0,[],(.slice (mB cw) bg.length bX)),(2,[],(vI m2)),(4,[],(.func (.func 95) #[] #[(vP dY)])),(10,[],(vI aR)),(11,[],(vI bB))]) (fun⟨a7,aR,bB⟩ _=> [⟨cw,72,row af a7 cI⟩,⟨some dY,46,cC ee⟩]) nx () ⟨rfl,lr⟩ [0,1] ?_
  rintro⟨a7,aR,bB⟩ _ Wx ⟨S',kU⟩ h
  rw [Fn.pH] at h
  refine ad (cT [0,0,0] (qi h (fun h=> ?_) (fun h=> ?_)))
  ·refine kT (aK (fun(j:(List ab)×Int×Int)=>match j with | ⟨dc,dW,eE⟩=>Fn.nJ dc dW eE=some Wx∧(dc.length=bg.length)∧(hO cw dc bX)) (fun⟨dc,dW,eE⟩=> [(0,[],(.slice (mB cw) bg.length bX)),(2,[],(vI m2)),(4,[],(.func (.func 95) #[] #[(vP dY)])),(10,[],(vI dW)),(11,[],(vI eE))]) (fun⟨dc,dW,eE⟩=> [⟨cw,72,row af dc cI⟩,⟨some dY,46,cC ee⟩]) ?_ ?_)
   ·refine ap (cT [0,0,0] (qi h (fun h=> ?_) (fun h=> ?_)))
    ·refine cR [0,0,0,0,0,0,0] (bE h fun qI wQ h=>oC 0 (fun w hm=>Fo.c a7 (au (m2-aR)) m2 bB ee w _ cw S' gq kU dY (hm.ps (N:= [⟨cw,72,row af a7 cI⟩,⟨some dY,46,cC ee⟩]) [0,1]) wQ) ?_)
     rintro w v w' hm ⟨aen,C_,rfl,bn⟩
     exact ⟨_,hm.aW [(0,⟨cw,72,row af qI cI⟩),(1,⟨some dY,46,cC ee⟩)] [] bn,fB (eT (cH [0,0,0,0] (qe (nf (qm ⟨qI,(au (aR-bB)),bB⟩ ⟨h,aen,C_⟩ [0,1])))))⟩
    ·refine cR [0,0,0,0,0,0,0,0,0,0,0] (bE h fun lE qJ h=>oC 0 (fun w hm=>Fo.c a7 (au (m2-aR)) (au ((au (m2+bB))-aR)) aR ee w _ cw S' gq kU dY (hm.ps (N:= [⟨cw,72,row af a7 cI⟩,⟨some dY,46,cC ee⟩]) [0,1]) qJ) ?_)
     rintro w v w' hm ⟨aeo,wZ,rfl,bn⟩
     exact ⟨_,hm.aW [(0,⟨cw,72,row af lE cI⟩),(1,⟨some dY,46,cC ee⟩)] [] bn,fB (eT (cH [0,0,0,0] (qe (nf (qm ⟨lE,aR,(au (bB-aR))⟩ ⟨h,aeo,wZ⟩ [0,1])))))⟩
   ·rintro⟨dc,dW,eE⟩ ⟨h,Oy,uz⟩
    unfold Fn.nJ at h
    exact qb (dc,dW,eE) () h ⟨Oy,uz⟩ [0,1]
  ·exact lX (a7,aR) h (fun e=>by subst e;exact bo (qm ⟨a7,aR⟩ ⟨Ku,S',kU⟩ [0,1]))
 ·rintro⟨bO,cS⟩ ⟨h,Oz,iz⟩
  unfold Fn.nS at h
  refine aP (cH [0,0,0,0,0,0,0] (bE h fun eO ug h=>oC 0 (fun w hm=>Fo.c bO (au (m2-cS)) m2 cS ee w _ cw Oz gq iz dY (hm.ps (N:= [⟨cw,72,row af bO cI⟩,⟨some dY,46,cC ee⟩]) [0,1]) ug) ?_))
  rintro w v w' hm ⟨tt,se,rfl,bn⟩
  refine ⟨_,hm.aW [(0,⟨cw,72,row af eO cI⟩),(1,⟨some dY,46,cC ee⟩)] [] bn,fB (qe (gn ?_))⟩
  obtain rfl:=si h
  exact qr [] (fun w hm=>⟨tt,se,rfl,hm.pk [0,1]⟩)
def Fa.ki(nZ:List ab):Option ((List ab)):=some nZ
def Fa.PN(u9:Int):((List ab)×Int)→Option (((List ab)×Int)⊕((List ab)))
 | (bO,bB)=>(if(decide (bB<(au (u9-1))))=true then(ix bO (au (bB+1))).bind fun q_=>(ix bO bB).bind fun oj=>(ix bO bB).bind fun aep=>(ix (bO.set bB.toNat q_) (au (bB+1))).bind fun aeq=>some (.inl (((bO.set bB.toNat q_).set (au (bB+1)).toNat oj),(au (bB+1)))) else some (.inr bO))
def Fa.fk(bg:List ab)(a1:Int)(u9:Int):Option ((List ab)):=(loop (Fa.PN u9) (bg,a1)).bind fun aer=>Fa.ki aer
def Fa.KA(ka:Int)(j_:Int):Option ((Int×Int)⊕(Int)):=some (.inl (ka,j_))
def Fa.Ax(bg:List ab)(a1:Int)(ee:aQ):(Int×Int)→Option ((Int×Int)⊕(Int))
 | (fC,jQ)=>(if(decide (fC<jQ))=true then(ix bg (au (eC .u64 (u64 (au (fC+jQ))) 1))).bind fun aa0=>(ix bg a1).bind fun aa1=>(D0 aa0 aa1 ee).bind fun aes=>(if(decide (aes<0))=true then Fa.KA (au ((au (eC .u64 (u64 (au (fC+jQ))) 1))+1)) jQ else Fa.KA fC (au (eC .u64 (u64 (au (fC+jQ))) 1))) else some (.inr fC))
def Fa.DT(Ay:List ab):Option ((List ab)):=some Ay
def Fa.Aw(mi:Int):((List ab)×Int)→Option (((List ab)×Int)⊕((List ab)))
 | (b_,bK)=>(if(decide (bK>mi))=true then(ix b_ (au (bK-1))).bind fun yA=>(ix b_ bK).bind fun jZ=>(ix b_ bK).bind fun aet=>(ix (b_.set bK.toNat yA) (au (bK-1))).bind fun W0=>some (.inl (((b_.set bK.toNat yA).set (au (bK-1)).toNat jZ),(au (bK-1)))) else some (.inr b_))
def Fa.MC(bg:List ab)(m2:Int)(mi:Int):Option ((List ab)):=(loop (Fa.Aw mi) (bg,m2)).bind fun aeu=>Fa.DT aeu
def Fa.Az(vb:Int)(ol:Int):Option ((Int×Int)⊕(Int)):=some (.inl (vb,ol))
def Fa.KB(bg:List ab)(m2:Int)(ee:aQ):(Int×Int)→Option ((Int×Int)⊕(Int))
 | (fy,oZ)=>(if(decide (fy<oZ))=true then(ix bg m2).bind fun D1=>(ix bg (au (eC .u64 (u64 (au (fy+oZ))) 1))).bind fun Kv=>(D0 D1 Kv ee).bind fun aev=>(if(!(decide (aev<0)))=true then Fa.Az (au ((au (eC .u64 (u64 (au (fy+oZ))) 1))+1)) oZ else Fa.Az fy (au (eC .u64 (u64 (au (fy+oZ))) 1))) else some (.inr fy))
def Fa.KC(dn:(List ab)→Int→Int→Int→aQ→Option ((List ab)))(a1:Int)(m2:Int)(b3:Int)(ee:aQ)(aR:Int)(lu:List ab):Option ((List ab)):=(if((decide ((au (eC .u64 (u64 (au (a1+b3))) 1))<(au ((au ((au (eC .u64 (u64 (au (a1+b3))) 1))+m2))-aR))))&&(decide ((au ((au ((au (eC .u64 (u64 (au (a1+b3))) 1))+m2))-aR))<b3)))=true then(dn lu (au (eC .u64 (u64 (au (a1+b3))) 1)) (au ((au ((au (eC .u64 (u64 (au (a1+b3))) 1))+m2))-aR)) b3 ee).bind fun aa2=>some aa2 else some lu)
def Fa.Ig(dn:(List ab)→Int→Int→Int→aQ→Option ((List ab)))(a1:Int)(m2:Int)(b3:Int)(ee:aQ)(aR:Int)(me:List ab):Option ((List ab)):=(if((decide (a1<aR))&&(decide (aR<(au (eC .u64 (u64 (au (a1+b3))) 1)))))=true then(dn me a1 aR (au (eC .u64 (u64 (au (a1+b3))) 1)) ee).bind fun Xk=>Fa.KC dn a1 m2 b3 ee aR Xk else Fa.KC dn a1 m2 b3 ee aR me)
def Fa.MD(dn:(List ab)→Int→Int→Int→aQ→Option ((List ab)))(bg:List ab)(a1:Int)(m2:Int)(b3:Int)(ee:aQ)(aR:Int):Option ((List ab)):=(if((decide (aR<m2))&&(decide (m2<(au ((au ((au (eC .u64 (u64 (au (a1+b3))) 1))+m2))-aR)))))=true then(Fn bg aR m2 (au ((au ((au (eC .u64 (u64 (au (a1+b3))) 1))+m2))-aR)) ee).bind fun F'=>Fa.Ig dn a1 m2 b3 ee aR F' else Fa.Ig dn a1 m2 b3 ee aR bg)
def Fa.KE(vc:Int)(mC:Int):Option ((Int×Int)⊕(Int)):=some (.inl (vc,mC))
def Fa.KF(bg:List ab)(a1:Int)(m2:Int)(b3:Int)(ee:aQ):(Int×Int)→Option ((Int×Int)⊕(Int))
 | (eE,mf)=>(if(decide (eE<mf))=true then(ix bg (au ((au ((au ((au (eC .u64 (u64 (au (a1+b3))) 1))+m2))-1))-(au (eC .u64 (u64 (au (eE+mf))) 1))))).bind fun aa3=>(ix bg (au (eC .u64 (u64 (au (eE+mf))) 1))).bind fun aa4=>(D0 aa3 aa4 ee).bind fun aew=>(if(!(decide (aew<0)))=true then Fa.KE (au ((au (eC .u64 (u64 (au (eE+mf))) 1))+1)) mf else Fa.KE eE (au (eC .u64 (u64 (au (eE+mf))) 1))) else some (.inr eE))
def Fa.Ih(dn:(List ab)→Int→Int→Int→aQ→Option ((List ab)))(bg:List ab)(a1:Int)(m2:Int)(b3:Int)(ee:aQ)(zg:Int)(sy:Int):Option ((List ab)):=(loop (Fa.KF bg a1 m2 b3 ee) (zg,sy)).bind fun aex=>Fa.MD dn bg a1 m2 b3 ee aex
def Fa.step(dn:(List ab)→Int→Int→Int→aQ→Option ((List ab)))(bg:List ab)(a1:Int)(m2:Int)(b3:Int)(ee:aQ):Option ((List ab)):=(if((au (m2-a1))==1)=true then(loop (Fa.Ax bg a1 ee) (m2,b3)).bind fun aey=>Fa.fk bg a1 aey else(if((au (b3-m2))==1)=true then(loop (Fa.KB bg m2 ee) (a1,m2)).bind fun Ta=>Fa.MC bg m2 Ta else(if(decide (m2>(au (eC .u64 (u64 (au (a1+b3))) 1))))=true then Fa.Ih dn bg a1 m2 b3 ee (au ((au ((au (eC .u64 (u64 (au (a1+b3))) 1))+m2))-b3)) (au (eC .u64 (u64 (au (a1+b3))) 1)) else Fa.Ih dn bg a1 m2 b3 ee a1 m2)))
def Fa.fW:Nat→(List ab)→Int→Int→Int→aQ→Option ((List ab))
 | 0=>fun bg a1 m2 b3 ee=>none
 | fu+1=>Fa.step (Fa.fW fu)
def Fa(bg:List ab)(a1:Int)(m2:Int)(b3:Int)(ee:aQ):Option ((List ab)):=Fa.fW 200 bg a1 m2 b3 ee
set_option maxHeartbeats 8000000 in
theorem Fa.iS(dn:(List ab)→Int→Int→Int→aQ→Option ((List ab)))(qN:∀(bg:List ab) (a1:Int) (m2:Int) (b3:Int) (ee:aQ) (w:World) (r:(List ab)) (cw:Option Nat) {jp:Nat} {bX:Nat} {cI:List Value} (dH:bg.length=jp) (gq:hS cw jp bX cI 4) (lr:hO cw bg bX) (dY:Nat) (fG:Mem w (bs [cw,some dY]) [⟨cw,72,row af bg cI⟩,⟨some dY,46,cC ee⟩] w) (h:dn bg a1 m2 b3 ee=some r),
   Calls Tryz.prog 188 #[(.slice (mB cw) jp bX),(vI a1),(vI m2),(vI b3),(.func (.func 95) #[] #[(vP dY)])] w fun e w'=>∃v,e= .returned v∧(r.length=jp∧(hO cw r bX)∧v= .tuple #[]∧Mem w (bs [cw,some dY]) [⟨cw,72,row af r cI⟩,⟨some dY,46,cC ee⟩] w')) (bg:List ab) (a1:Int) (m2:Int) (b3:Int) (ee:aQ) (w:World) (r:(List ab)) (cw:Option Nat) {jp:Nat} {bX:Nat} {cI:List Value} (dH:bg.length=jp) (gq:hS cw jp bX cI 4) (lr:hO cw bg bX) (dY:Nat) (fG:Mem w (bs [cw,some dY]) [⟨cw,72,row af bg cI⟩,⟨some dY,46,cC ee⟩] w) (h:Fa.step dn bg a1 m2 b3 ee=some r):
   Cr 188 #[(.slice (mB cw) jp bX),(vI a1),(vI m2),(vI b3),(.func (.func 95) #[] #[(vP dY)])] w fun v w'=>r.length=jp∧(hO cw r bX)∧v= .tuple #[]∧Mem w (bs [cw,some dY]) [⟨cw,72,row af r cI⟩,⟨some dY,46,cC ee⟩] w':=by
 subst dH
 rw [Fa.step] at h
 refine eN Tryz.func188 rfl Tryz.ntmps188 fG (ad (cT [0,0,0,0] (qi h (fun h=> ?_) (fun h=> ?_))))
 ·refine cT [0,0] (cT [0,0] (ad (aK (fun(u9:Int)=>Fa.fk bg a1 u9=some r) (fun u9=> [(0,[],(.slice (mB cw) bg.length bX)),(1,[],(vI a1)),(2,[],(vI m2)),(3,[],(vI b3)),(4,[],(.func (.func 95) #[] #[(vP dY)])),(10,[],(vI u9))]) (fun u9=> [⟨cw,72,row af bg cI⟩,⟨some dY,46,cC ee⟩]) ?_ ?_)))
  ·refine ap ?_
   obtain⟨aey,Tb,aez⟩:=bd h
   refine jl (fun(s:Int×Int) (x:Unit)=>match s,x with | ⟨fC,jQ⟩,_=>True) (fun⟨fC,jQ⟩ _=> [(0,[],(.slice (mB cw) bg.length bX)),(1,[],(vI a1)),(2,[],(vI m2)),(3,[],(vI b3)),(4,[],(.func (.func 95) #[] #[(vP dY)])),(10,[],(vI fC)),(11,[],(vI jQ))]) (fun⟨fC,jQ⟩ _=> [⟨cw,72,row af bg cI⟩,⟨some dY,46,cC ee⟩]) Tb () trivial [0,1] ?_
   rintro⟨fC,jQ⟩ _ aid _ h
   rw [Fa.Ax] at h
   refine ad (cT [0,0,0] (qi h (fun h=> ?_) (fun h=> ?_)))
   ·refine kT (aK (fun(j:Int×Int)=>match j with | ⟨ka,j_⟩=>Fa.KA ka j_=some aid) (fun⟨ka,j_⟩=> [(0,[],(.slice (mB cw) bg.length bX)),(1,[],(vI a1)),(2,[],(vI m2)),(3,[],(vI b3)),(4,[],(.func (.func 95) #[] #[(vP dY)])),(10,[],(vI ka)),(11,[],(vI j_))]) (fun⟨ka,j_⟩=> [⟨cw,72,row af bg cI⟩,⟨some dY,46,cC ee⟩]) ?_ ?_)
    ·refine ap (cT [0,0,0,0,0,0,0] (ad (qg [⟨cw,72,row af bg cI⟩,⟨some dY,46,cC ee⟩] 11 (qd [⟨0,0,0⟩,⟨1,0,0⟩,⟨2,0,0⟩,⟨5,0,0⟩,⟨6,0,0⟩] 6 [0,1] (bE h fun aa0 yy h=>qX 3 0 [0,1] (mB cw) 4 yy rfl (nl lr yy) (qL 4 0 [0,1] true (aX 0 cw 72 bg cI lr az yy) (bE h fun aa1 D2 h=>qX 7 0 [0,1] (mB cw) 4 D2 rfl (nl lr D2) (qL 8 0 [0,1] true (aX 0 cw 72 bg cI lr az D2) (bE h fun aes Tc h=>tD 9 (pc 0 (fun w hm=>D0.c aa0 aa1 ee w _ dY (hm.ps [1]) Tc) ?_))))))))))
     rintro w v w' hm ⟨rfl,bn⟩
     refine ⟨_,hm.aW [(1,⟨some dY,46,cC ee⟩)] [] bn,kD [0,1] (qd [⟨10,0,0⟩] 0 [0,1] (zT (qi h (fun h=> ?_) (fun h=> ?_))))⟩
     ·exact cH [0,0,0] (qe (nf (qm ⟨(au ((au (eC .u64 (u64 (au (fC+jQ))) 1))+1)),jQ⟩ h [0,1])))
     ·exact cH [0,0] (qe (nf (qm ⟨fC,(au (eC .u64 (u64 (au (fC+jQ))) 1))⟩ h [0,1])))
    ·rintro⟨ka,j_⟩ h
     unfold Fa.KA at h
     exact qb (ka,j_) () h trivial [0,1]
   ·exact lX fC h (fun e=>by subst e;exact bo (qm fC aez [0,1]))
  ·rintro u9 h
   unfold Fa.fk at h
   refine aP (ad (cT [0,0] (aK (fun(nZ:(List ab))=>Fa.ki nZ=some r∧(nZ.length=bg.length)∧(hO cw nZ bX)) (fun nZ=> [(0,[],(.slice (mB cw) bg.length bX)),(1,[],(vI a1)),(2,[],(vI m2)),(3,[],(vI b3)),(4,[],(.func (.func 95) #[] #[(vP dY)]))]) (fun nZ=> [⟨cw,72,row af nZ cI⟩,⟨some dY,46,cC ee⟩]) ?_ ?_)))
   ·refine ap ?_
    obtain⟨aer,D3,Td⟩:=bd h
    refine jl (fun(s:(List ab)×Int) (x:Unit)=>match s,x with | ⟨bO,bB⟩,_=>(bO.length=bg.length)∧(hO cw bO bX)) (fun⟨bO,bB⟩ _=> [(0,[],(.slice (mB cw) bg.length bX)),(1,[],(vI a1)),(2,[],(vI m2)),(3,[],(vI b3)),(4,[],(.func (.func 95) #[] #[(vP dY)])),(10,[],(vI u9)),(13,[],(vI bB))]) (fun⟨bO,bB⟩ _=> [⟨cw,72,row af bO cI⟩,⟨some dY,46,cC ee⟩]) D3 () ⟨rfl,lr⟩ [0,1] ?_
    rintro⟨bO,bB⟩ _ akf ⟨tt,oV⟩ h
    rw [Fa.PN] at h
    refine ad (cT [0,0,0,0] (qi h (fun h=> ?_) (fun h=> ?_)))
    ·refine kT (ad (ap (qg [⟨some dY,46,cC ee⟩] 18 (qd [⟨0,0,0⟩,⟨1,0,0⟩,⟨2,0,0⟩,⟨3,0,0⟩,⟨4,0,0⟩,⟨5,0,0⟩,⟨6,0,0⟩,⟨7,0,0⟩,⟨10,0,0⟩,⟨11,0,0⟩] 8 [1] (bE h fun q_ sk h=>qX 8 0 [1] (mB cw) 4 sk tt (nl oV sk) (bE h fun oj Dq h=>qX 12 0 [1] (mB cw) 4 Dq tt (nl oV Dq) (t2 9 13 ?_ ?_)))))))
     ·exact ql 0 true (aX 0 cw 72 bO cI oV az sk) (kD [1] (tD 13 (ql 0 true (aX 0 cw 72 bO cI oV az Dq) (kD [1] (bE h fun aep w6 h=>qX 14 0 [1] (mB cw) 4 w6 tt (nl oV w6) (tD 15 (pO 0 0 cw 72 af bO cI bB q_ 4 0 (cY q_) (fun e=>(oV e).1) az w6 (kD [1] (bE h fun aeq D4 h=>qX 16 0 [1] (mB cw) 4 D4 (eJ.trans tt) (nl (fK oV) D4) (tD 17 (pO 0 0 cw 72 af (bO.set bB.toNat q_) cI (au (bB+1)) oj 4 0 (cY oj) (fun e=>((fK oV) e).1) az D4 (kD [1] (qz (nT (cH [0,0,0] (qe (qb (((bO.set bB.toNat q_).set (au (bB+1)).toNat oj),(au (bB+1))) () h ⟨(eJ.trans (eJ.trans tt)),(fK (fK oV))⟩ [0,1])))))))))))))))))
     ·exact ql 0 true (aX 0 cw 72 bO cI oV az Dq) (kD [1] (tD 9 (ql 0 true (aX 0 cw 72 bO cI oV az sk) (kD [1] (bE h fun aep D5 h=>qX 14 0 [1] (mB cw) 4 D5 tt (nl oV D5) (tD 15 (pO 0 0 cw 72 af bO cI bB q_ 4 0 (cY q_) (fun e=>(oV e).1) az D5 (kD [1] (bE h fun aeq Te h=>qX 16 0 [1] (mB cw) 4 Te (eJ.trans tt) (nl (fK oV) Te) (tD 17 (pO 0 0 cw 72 af (bO.set bB.toNat q_) cI (au (bB+1)) oj 4 0 (cY oj) (fun e=>((fK oV) e).1) az Te (kD [1] (qz (nT (cH [0,0,0] (qe (qb (((bO.set bB.toNat q_).set (au (bB+1)).toNat oj),(au (bB+1))) () h ⟨(eJ.trans (eJ.trans tt)),(fK (fK oV))⟩ [0,1])))))))))))))))))
    ·exact lX bO h (fun e=>by subst e;exact bo (qm bO ⟨Td,tt,oV⟩ [0,1]))
   ·rintro nZ ⟨h,aeA,aeB⟩
    unfold Fa.ki at h
    refine xR (aT ?_)
    obtain rfl:=si h
    exact qr [] (fun w hm=>⟨aeA,aeB,rfl,hm.pk [0,1]⟩)
 ·refine kT (ad (cT [0,0,0,0] (qi h (fun h=> ?_) (fun h=> ?_))))
  ·refine cT [0,0] (cT [0,0] (ad (aK (fun(mi:Int)=>Fa.MC bg m2 mi=some r) (fun mi=> [(0,[],(.slice (mB cw) bg.length bX)),(1,[],(vI a1)),(2,[],(vI m2)),(3,[],(vI b3)),(4,[],(.func (.func 95) #[] #[(vP dY)])),(14,[],(vI mi))]) (fun mi=> [⟨cw,72,row af bg cI⟩,⟨some dY,46,cC ee⟩]) ?_ ?_)))
   ·refine ap ?_
    obtain⟨Ta,Kn,aeC⟩:=bd h
    refine jl (fun(s:Int×Int) (x:Unit)=>match s,x with | ⟨fy,oZ⟩,_=>True) (fun⟨fy,oZ⟩ _=> [(0,[],(.slice (mB cw) bg.length bX)),(1,[],(vI a1)),(2,[],(vI m2)),(3,[],(vI b3)),(4,[],(.func (.func 95) #[] #[(vP dY)])),(14,[],(vI fy)),(15,[],(vI oZ))]) (fun⟨fy,oZ⟩ _=> [⟨cw,72,row af bg cI⟩,⟨some dY,46,cC ee⟩]) Kn () trivial [0,1] ?_
    rintro⟨fy,oZ⟩ _ aie _ h
    rw [Fa.KB] at h
    refine ad (cT [0,0,0] (qi h (fun h=> ?_) (fun h=> ?_)))
    ·refine kT (aK (fun(j:Int×Int)=>match j with | ⟨vb,ol⟩=>Fa.Az vb ol=some aie) (fun⟨vb,ol⟩=> [(0,[],(.slice (mB cw) bg.length bX)),(1,[],(vI a1)),(2,[],(vI m2)),(3,[],(vI b3)),(4,[],(.func (.func 95) #[] #[(vP dY)])),(14,[],(vI vb)),(15,[],(vI ol))]) (fun⟨vb,ol⟩=> [⟨cw,72,row af bg cI⟩,⟨some dY,46,cC ee⟩]) ?_ ?_)
     ·refine ap (cT [0,0,0,0,0,0,0] (ad (qg [⟨cw,72,row af bg cI⟩,⟨some dY,46,cC ee⟩] 12 (qd [⟨0,0,0⟩,⟨1,0,0⟩,⟨2,0,0⟩,⟨5,0,0⟩,⟨6,0,0⟩] 7 [0,1] (bE h fun D1 vz h=>qX 3 0 [0,1] (mB cw) 4 vz rfl (nl lr vz) (qL 4 0 [0,1] true (aX 0 cw 72 bg cI lr az vz) (bE h fun Kv Tf h=>qX 7 0 [0,1] (mB cw) 4 Tf rfl (nl lr Tf) (qL 8 0 [0,1] true (aX 0 cw 72 bg cI lr az Tf) (bE h fun aev Tg h=>tD 9 (pc 0 (fun w hm=>D0.c D1 Kv ee w _ dY (hm.ps [1]) Tg) ?_))))))))))
      rintro w v w' hm ⟨rfl,bn⟩
      refine ⟨_,hm.aW [(1,⟨some dY,46,cC ee⟩)] [] bn,kD [0,1] (qd [⟨10,0,0⟩,⟨11,0,0⟩] 0 [0,1] (zT (qi h (fun h=> ?_) (fun h=> ?_))))⟩
      ·exact cH [0,0,0] (qe (nf (qm ⟨(au ((au (eC .u64 (u64 (au (fy+oZ))) 1))+1)),oZ⟩ h [0,1])))
      ·exact cH [0,0] (qe (nf (qm ⟨fy,(au (eC .u64 (u64 (au (fy+oZ))) 1))⟩ h [0,1])))
     ·rintro⟨vb,ol⟩ h
      unfold Fa.Az at h
      exact qb (vb,ol) () h trivial [0,1]
    ·exact lX fy h (fun e=>by subst e;exact bo (qm fy aeC [0,1]))
   ·rintro mi h
    unfold Fa.MC at h
    refine aP (ad (cT [0,0] (aK (fun(Ay:(List ab))=>Fa.DT Ay=some r∧(Ay.length=bg.length)∧(hO cw Ay bX)) (fun Ay=> [(0,[],(.slice (mB cw) bg.length bX)),(1,[],(vI a1)),(2,[],(vI m2)),(3,[],(vI b3)),(4,[],(.func (.func 95) #[] #[(vP dY)]))]) (fun Ay=> [⟨cw,72,row af Ay cI⟩,⟨some dY,46,cC ee⟩]) ?_ ?_)))
    ·refine ap ?_
     obtain⟨aeu,KG,aeD⟩:=bd h
     refine jl (fun(s:(List ab)×Int) (x:Unit)=>match s,x with | ⟨b_,bK⟩,_=>(b_.length=bg.length)∧(hO cw b_ bX)) (fun⟨b_,bK⟩ _=> [(0,[],(.slice (mB cw) bg.length bX)),(1,[],(vI a1)),(2,[],(vI m2)),(3,[],(vI b3)),(4,[],(.func (.func 95) #[] #[(vP dY)])),(14,[],(vI mi)),(17,[],(vI bK))]) (fun⟨b_,bK⟩ _=> [⟨cw,72,row af b_ cI⟩,⟨some dY,46,cC ee⟩]) KG () ⟨rfl,lr⟩ [0,1] ?_
     rintro⟨b_,bK⟩ _ akg ⟨AA,lq⟩ h
     rw [Fa.Aw] at h
     refine ad (cT [0,0,0] (qi h (fun h=> ?_) (fun h=> ?_)))
     ·refine kT (ad (ap (qg [⟨some dY,46,cC ee⟩] 18 (qd [⟨0,0,0⟩,⟨1,0,0⟩,⟨2,0,0⟩,⟨3,0,0⟩,⟨4,0,0⟩,⟨5,0,0⟩,⟨6,0,0⟩,⟨7,0,0⟩,⟨10,0,0⟩,⟨11,0,0⟩] 8 [1] (bE h fun yA BT h=>qX 8 0 [1] (mB cw) 4 BT AA (nl lq BT) (bE h fun jZ BV h=>qX 12 0 [1] (mB cw) 4 BV AA (nl lq BV) (t2 9 13 ?_ ?_)))))))
      ·exact ql 0 true (aX 0 cw 72 b_ cI lq az BT) (kD [1] (tD 13 (ql 0 true (aX 0 cw 72 b_ cI lq az BV) (kD [1] (bE h fun aet Th h=>qX 14 0 [1] (mB cw) 4 Th AA (nl lq Th) (tD 15 (pO 0 0 cw 72 af b_ cI bK yA 4 0 (cY yA) (fun e=>(lq e).1) az Th (kD [1] (bE h fun W0 Ti h=>qX 16 0 [1] (mB cw) 4 Ti (eJ.trans AA) (nl (fK lq) Ti) (tD 17 (pO 0 0 cw 72 af (b_.set bK.toNat yA) cI (au (bK-1)) jZ 4 0 (cY jZ) (fun e=>((fK lq) e).1) az Ti (kD [1] (qz (nT (cH [0,0,0] (qe (qb (((b_.set bK.toNat yA).set (au (bK-1)).toNat jZ),(au (bK-1))) () h ⟨(eJ.trans (eJ.trans AA)),(fK (fK lq))⟩ [0,1])))))))))))))))))
      ·exact ql 0 true (aX 0 cw 72 b_ cI lq az BV) (kD [1] (tD 9 (ql 0 true (aX 0 cw 72 b_ cI lq az BT) (kD [1] (bE h fun aet D6 h=>qX 14 0 [1] (mB cw) 4 D6 AA (nl lq D6) (tD 15 (pO 0 0 cw 72 af b_ cI bK yA 4 0 (cY yA) (fun e=>(lq e).1) az D6 (kD [1] (bE h fun W0 D7 h=>qX 16 0 [1] (mB cw) 4 D7 (eJ.trans AA) (nl (fK lq) D7) (tD 17 (pO 0 0 cw 72 af (b_.set bK.toNat yA) cI (au (bK-1)) jZ 4 0 (cY jZ) (fun e=>((fK lq) e).1) az D7 (kD [1] (qz (nT (cH [0,0,0] (qe (qb (((b_.set bK.toNat yA).set (au (bK-1)).toNat jZ),(au (bK-1))) () h ⟨(eJ.trans (eJ.trans AA)),(fK (fK lq))⟩ [0,1])))))))))))))))))
     ·exact lX b_ h (fun e=>by subst e;exact bo (qm b_ ⟨aeD,AA,lq⟩ [0,1]))
    ·rintro Ay ⟨h,aeE,aeF⟩
     unfold Fa.DT at h
     refine xR (aT ?_)
     obtain rfl:=si h
     exact qr [] (fun w hm=>⟨aeE,aeF,rfl,hm.pk [0,1]⟩)
  ·refine kT (cT [0,0,0,0,0,0,0] (cT [0,0,0,0] (cT [0,0] (ad (aK (fun(j:Int×Int)=>match j with | ⟨zg,sy⟩=>Fa.Ih dn bg a1 m2 b3 ee zg sy=some r) (fun⟨zg,sy⟩=> [(0,[],(.slice (mB cw) bg.length bX)),(1,[],(vI a1)),(2,[],(vI m2)),(3,[],(vI b3)),(4,[],(.func (.func 95) #[] #[(vP dY)])),(18,[],(vI (au (eC .u64 (u64 (au (a1+b3))) 1)))),(19,[],(vI (au ((au (eC .u64 (u64 (au (a1+b3))) 1))+m2)))),(20,[],(vI zg)),(21,[],(vI sy))]) (fun⟨zg,sy⟩=> [⟨cw,72,row af bg cI⟩,⟨some dY,46,cC ee⟩]) ?_ ?_)))))
   ·refine cT [0,0,0] (qi h (fun h=> ?_) (fun h=> ?_))
    ·exact cT [0,0,0,0] (cH [0,0] (qe (qm ⟨(au ((au ((au (eC .u64 (u64 (au (a1+b3))) 1))+m2))-b3)),(au (eC .u64 (u64 (au (a1+b3))) 1))⟩ h [0,1])))
    ·exact cT [0,0] (cH [0,0] (qe (qm ⟨a1,m2⟩ h [0,1])))
   ·rintro⟨zg,sy⟩ h
    unfold Fa.Ih at h
    refine aP (cT [0,0,0] (ad (aK (fun(aR:Int)=>Fa.MD dn bg a1 m2 b3 ee aR=some r) (fun aR=> [(0,[],(.slice (mB cw) bg.length bX)),(1,[],(vI a1)),(2,[],(vI m2)),(3,[],(vI b3)),(4,[],(.func (.func 95) #[] #[(vP dY)])),(18,[],(vI (au (eC .u64 (u64 (au (a1+b3))) 1)))),(19,[],(vI (au ((au (eC .u64 (u64 (au (a1+b3))) 1))+m2)))),(20,[],(vI aR))]) (fun aR=> [⟨cw,72,row af bg cI⟩,⟨some dY,46,cC ee⟩]) ?_ ?_)))
    ·refine ap ?_
     obtain⟨aex,KH,aeG⟩:=bd h
     refine jl (fun(s:Int×Int) (x:Unit)=>match s,x with | ⟨eE,mf⟩,_=>True) (fun⟨eE,mf⟩ _=> [(0,[],(.slice (mB cw) bg.length bX)),(1,[],(vI a1)),(2,[],(vI m2)),(3,[],(vI b3)),(4,[],(.func (.func 95) #[] #[(vP dY)])),(18,[],(vI (au (eC .u64 (u64 (au (a1+b3))) 1)))),(19,[],(vI (au ((au (eC .u64 (u64 (au (a1+b3))) 1))+m2)))),(20,[],(vI eE)),(21,[],(vI mf)),(22,[],(vI (au ((au ((au (eC .u64 (u64 (au (a1+b3))) 1))+m2))-1))))]) (fun⟨eE,mf⟩ _=> [⟨cw,72,row af bg cI⟩,⟨some dY,46,cC ee⟩]) KH () trivial [0,1] ?_
     rintro⟨eE,mf⟩ _ aif _ h
     rw [Fa.KF] at h
     refine ad (cT [0,0,0] (qi h (fun h=> ?_) (fun h=> ?_)))
     ·refine kT (aK (fun(j:Int×Int)=>match j with | ⟨vc,mC⟩=>Fa.KE vc mC=some aif) (fun⟨vc,mC⟩=> [(0,[],(.slice (mB cw) bg.length bX)),(1,[],(vI a1)),(2,[],(vI m2)),(3,[],(vI b3)),(4,[],(.func (.func 95) #[] #[(vP dY)])),(18,[],(vI (au (eC .u64 (u64 (au (a1+b3))) 1)))),(19,[],(vI (au ((au (eC .u64 (u64 (au (a1+b3))) 1))+m2)))),(20,[],(vI vc)),(21,[],(vI mC)),(22,[],(vI (au ((au ((au (eC .u64 (u64 (au (a1+b3))) 1))+m2))-1))))]) (fun⟨vc,mC⟩=> [⟨cw,72,row af bg cI⟩,⟨some dY,46,cC ee⟩]) ?_ ?_)
      ·refine ap (cT [0,0,0,0,0,0,0] (ad (qg [⟨cw,72,row af bg cI⟩,⟨some dY,46,cC ee⟩] 14 (qd [⟨0,0,0⟩,⟨1,0,0⟩,⟨2,0,0⟩,⟨3,0,0⟩,⟨4,0,0⟩,⟨7,0,0⟩,⟨8,0,0⟩] 7 [0,1] (bE h fun aa3 D8 h=>qX 5 0 [0,1] (mB cw) 4 D8 rfl (nl lr D8) (qL 6 0 [0,1] true (aX 0 cw 72 bg cI lr az D8) (bE h fun aa4 D9 h=>qX 9 0 [0,1] (mB cw) 4 D9 rfl (nl lr D9) (qL 10 0 [0,1] true (aX 0 cw 72 bg cI lr az D9) (bE h fun aew Tj h=>tD 11 (pc 0 (fun w hm=>D0.c aa3 aa4 ee w _ dY (hm.ps [1]) Tj) ?_))))))))))
       rintro w v w' hm ⟨rfl,bn⟩
       refine ⟨_,hm.aW [(1,⟨some dY,46,cC ee⟩)] [] bn,kD [0,1] (qd [⟨12,0,0⟩,⟨13,0,0⟩] 0 [0,1] (zT (qi h (fun h=> ?_) (fun h=> ?_))))⟩
       ·exact cH [0,0,0] (qe (nf (qm ⟨(au ((au (eC .u64 (u64 (au (eE+mf))) 1))+1)),mf⟩ h [0,1])))
       ·exact cH [0,0] (qe (nf (qm ⟨eE,(au (eC .u64 (u64 (au (eE+mf))) 1))⟩ h [0,1])))
      ·rintro⟨vc,mC⟩ h
       unfold Fa.KE at h
       exact qb (vc,mC) () h trivial [0,1]
     ·exact lX eE h (fun e=>by subst e;exact bo (qm eE aeG [0,1]))
    ·rintro aR h
     unfold Fa.MD at h
     refine aP (cT [0,0,0,0] (ad (aK (fun(me:(List ab))=>Fa.Ig dn a1 m2 b3 ee aR me=some r∧(me.length=bg.length)∧(hO cw me bX)) (fun me=> [(0,[],(.slice (mB cw) bg.length bX)),(1,[],(vI a1)),(3,[],(vI b3)),(4,[],(.func (.func 95) #[] #[(vP dY)])),(18,[],(vI (au (eC .u64 (u64 (au (a1+b3))) 1)))),(20,[],(vI aR)),(24,[],(vI (au ((au ((au (eC .u64 (u64 (au (a1+b3))) 1))+m2))-aR))))]) (fun me=> [⟨cw,72,row af me cI⟩,⟨some dY,46,cC ee⟩]) ?_ ?_)))
     ·refine ad (ao (qf [(0,0),(0,0),(0,0),(0,0),(0,1),(0,1),(0,1),(0,0)] (eT (qi h (fun h=> ?_) (fun h=> ?_)))))
      ·refine cH [0,0,0,0,0] (bE h fun F' Tk h=>oC 0 (fun w hm=>Fn.c bg aR m2 (au ((au ((au (eC .u64 (u64 (au (a1+b3))) 1))+m2))-aR)) ee w _ cw rfl gq lr dY (hm.ps (N:= [⟨cw,72,row af bg cI⟩,⟨some dY,46,cC ee⟩]) [0,1]) Tk) ?_)
       rintro w v w' hm ⟨aeH,aeI,rfl,bn⟩
       exact ⟨_,hm.aW [(0,⟨cw,72,row af F' cI⟩),(1,⟨some dY,46,cC ee⟩)] [] bn,fB (qe (qm F' ⟨h,aeH,aeI⟩ [0,1]))⟩
      ·exact bV (qm bg ⟨h,rfl,lr⟩ [0,1])
     ·rintro me ⟨h,YV,D_⟩
      unfold Fa.Ig at h
      refine aP (ad (aK (fun(lu:(List ab))=>Fa.KC dn a1 m2 b3 ee aR lu=some r∧(lu.length=bg.length)∧(hO cw lu bX)) (fun lu=> [(0,[],(.slice (mB cw) bg.length bX)),(3,[],(vI b3)),(4,[],(.func (.func 95) #[] #[(vP dY)])),(18,[],(vI (au (eC .u64 (u64 (au (a1+b3))) 1)))),(24,[],(vI (au ((au ((au (eC .u64 (u64 (au (a1+b3))) 1))+m2))-aR))))]) (fun lu=> [⟨cw,72,row af lu cI⟩,⟨some dY,46,cC ee⟩]) ?_ ?_))
      ·refine ad (ao (qf [(0,0),(0,0),(0,0),(0,0),(0,1),(0,1),(0,1),(0,0)] (eT (qi h (fun h=> ?_) (fun h=> ?_)))))
       ·refine cH [0,0,0,0,0] (bE h fun Xk Tl h=>oC 0 (fun w hm=>qN me a1 aR (au (eC .u64 (u64 (au (a1+b3))) 1)) ee w _ cw YV gq D_ dY (hm.ps (N:= [⟨cw,72,row af me cI⟩,⟨some dY,46,cC ee⟩]) [0,1]) Tl) ?_)
        rintro w v w' hm ⟨aeJ,aeK,rfl,bn⟩
        exact ⟨_,hm.aW [(0,⟨cw,72,row af Xk cI⟩),(1,⟨some dY,46,cC ee⟩)] [] bn,fB (qe (qm Xk ⟨h,aeJ,aeK⟩ [0,1]))⟩
       ·exact bV (qm me ⟨h,YV,D_⟩ [0,1])
      ·rintro lu ⟨h,YW,G2⟩
       unfold Fa.KC at h
       refine aP (ad (ao (qf [(0,0),(0,0),(0,0),(0,0),(0,1),(0,1),(0,1),(0,0)] (eT (qi h (fun h=> ?_) (fun h=> ?_))))))
       ·refine cH [0,0,0,0,0] (bE h fun aa2 Tm h=>oC 0 (fun w hm=>qN lu (au (eC .u64 (u64 (au (a1+b3))) 1)) (au ((au ((au (eC .u64 (u64 (au (a1+b3))) 1))+m2))-aR)) b3 ee w _ cw YW gq G2 dY (hm.ps (N:= [⟨cw,72,row af lu cI⟩,⟨some dY,46,cC ee⟩]) [0,1]) Tm) ?_)
        rintro w v w' hm ⟨aeL,Tn,rfl,bn⟩
        refine ⟨_,hm.aW [(0,⟨cw,72,row af aa2 cI⟩),(1,⟨some dY,46,cC ee⟩)] [] bn,fB (qe (gn ?_))⟩
        obtain rfl:=si h
        exact qr [] (fun w hm=>⟨aeL,Tn,rfl,hm.pk [0,1]⟩)
       ·refine bV (gn ?_)
        obtain rfl:=si h
        exact qr [] (fun w hm=>⟨YW,G2,rfl,hm.pk [0,1]⟩)
theorem Fa.jW(fu:Nat):∀(bg:List ab) (a1:Int) (m2:Int) (b3:Int) (ee:aQ) (w:World) (r:(List ab)) (cw:Option Nat) {jp:Nat} {bX:Nat} {cI:List Value} (dH:bg.length=jp) (gq:hS cw jp bX cI 4) (lr:hO cw bg bX) (dY:Nat) (fG:Mem w (bs [cw,some dY]) [⟨cw,72,row af bg cI⟩,⟨some dY,46,cC ee⟩] w) (h:Fa.fW fu bg a1 m2 b3 ee=some r),
   Cr 188 #[(.slice (mB cw) jp bX),(vI a1),(vI m2),(vI b3),(.func (.func 95) #[] #[(vP dY)])] w fun v w'=>r.length=jp∧(hO cw r bX)∧v= .tuple #[]∧Mem w (bs [cw,some dY]) [⟨cw,72,row af r cI⟩,⟨some dY,46,cC ee⟩] w':=by
 induction fu with
 | zero=>intros;rename_i h;cases h
 | succ fu ih=>exact @Fa.iS _ (Fa.fW fu) @ih
theorem Fa.c(bg:List ab)(a1:Int)(m2:Int)(b3:Int)(ee:aQ)(w:World)(r:(List ab))(cw:Option Nat){jp:Nat}{bX:Nat}{cI:List Value}(dH:bg.length=jp)(gq:hS cw jp bX cI 4)(lr:hO cw bg bX)(dY:Nat)(fG:Mem w (bs [cw,some dY]) [⟨cw,72,row af bg cI⟩,⟨some dY,46,cC ee⟩] w)(h:Fa bg a1 m2 b3 ee=some r):
   Calls Tryz.prog 188 #[(.slice (mB cw) jp bX),(vI a1),(vI m2),(vI b3),(.func (.func 95) #[] #[(vP dY)])] w fun e w'=>∃v,e= .returned v∧(r.length=jp∧(hO cw r bX)∧v= .tuple #[]∧Mem w (bs [cw,some dY]) [⟨cw,72,row af r cI⟩,⟨some dY,46,cC ee⟩] w'):=
 Fa.jW 200 bg a1 m2 b3 ee w r cw dH gq lr dY fG h
def Fb.qw(jI:List ab):Option ((List ab)):=some jI
def Fb.nJ(aR:Int)(eH:List ab):Option (((List ab)×Int)⊕((List ab))):=some (.inl (eH,(au (aR*2))))
def Fb.uI(n1:Int)(dR:aQ)(aR:Int)(bO:List ab)(ew:Int):Option (((List ab)×Int)⊕((List ab))):=(if(decide ((au (ew+aR))<n1))=true then(Fa bO ew (au (ew+aR)) n1 dR).bind fun iI=>Fb.nJ aR iI else Fb.nJ aR bO)
def Fb.j4(n1:Int)(dR:aQ)(aR:Int):((List ab)×Int×Int)→Option (((List ab)×Int×Int)⊕(((List ab)×Int)))
 | (b_,dW,eE)=>(if(decide (eE≤n1))=true then(Fa b_ dW (au (dW+aR)) eE dR).bind fun uh=>some (.inl (uh,eE,(au (eE+(au (2*aR)))))) else some (.inr (b_,dW)))
def Fb.ko(n1:Int)(dR:aQ):((List ab)×Int)→Option (((List ab)×Int)⊕((List ab)))
 | (iK,aR)=>(if(decide (aR<n1))=true then(loop (Fb.j4 n1 dR aR) (iK,0,(au (2*aR)))).bind fun j7=>Fb.uI n1 dR aR j7.1 j7.2 else some (.inr iK))
def Fb.ki(n1:Int)(dR:aQ)(mb:List ab)(jb:Int)(gw:Int):Option ((List ab)):=(Fd mb jb n1 dR).bind fun w9=>(loop (Fb.ko n1 dR) (w9,20)).bind fun uJ=>Fb.qw uJ
def Fb.u_(n1:Int)(dR:aQ):((List ab)×Int×Int)→Option (((List ab)×Int×Int)⊕(((List ab)×Int×Int)))
 | (a7,gr,bB)=>(if(decide (bB≤n1))=true then(Fd a7 gr bB dR).bind fun kn=>some (.inl (kn,bB,(au (bB+20)))) else some (.inr (a7,gr,bB)))
def Fb(bg:List ab)(n1:Int)(dR:aQ):Option ((List ab)):=(loop (Fb.u_ n1 dR) (bg,0,20)).bind fun jo=>Fb.ki n1 dR jo.1 jo.2.1 jo.2.2
theorem Fb.c(bg:List ab)(n1:Int)(dR:aQ)(w:World)(r:(List ab))(cw:Option Nat){jp:Nat}{bX:Nat}{cI:List Value}(dH:bg.length=jp)(gq:hS cw jp bX cI 4)(lr:hO cw bg bX)(jh:Nat)(fG:Mem w (bs [cw,some jh]) [⟨cw,72,row af bg cI⟩,⟨some jh,46,cC dR⟩] w)(h:Fb bg n1 dR=some r):
   Cr 150 #[(.slice (mB cw) jp bX),(vI n1),(.func (.func 95) #[] #[(vP jh)])] w fun v w'=>r.length=jp∧(hO cw r bX)∧v= .tuple #[]∧Mem w (bs [cw,some jh]) [⟨cw,72,row af r cI⟩,⟨some jh,46,cC dR⟩] w':=by
 subst dH
 rw [Fb] at h
 refine eN Tryz.func150 rfl Tryz.ntmps150 fG (cT [0] (cT [0,0,0] (ad (aK (fun(j:(List ab)×Int×Int)=>match j with | ⟨mb,jb,gw⟩=>Fb.ki n1 dR mb jb gw=some r∧(mb.length=bg.length)∧(hO cw mb bX)) (fun⟨mb,jb,gw⟩=> [(0,[],(.slice (mB cw) bg.length bX)),(1,[],(vI n1)),(2,[],(.func (.func 95) #[] #[(vP jh)])),(6,[],(vI 20)),(7,[],(vI jb)),(8,[],(vI gw))]) (fun⟨mb,jb,gw⟩=> [⟨cw,72,row af mb cI⟩,⟨some jh,46,cC dR⟩]) ?_ ?_))))
 ·refine ap ?_
  obtain⟨jo,uu,DE⟩:=bd h
  refine jl (fun(s:(List ab)×Int×Int) (x:Unit)=>match s,x with | ⟨a7,gr,bB⟩,_=>(a7.length=bg.length)∧(hO cw a7 bX)) (fun⟨a7,gr,bB⟩ _=> [(0,[],(.slice (mB cw) bg.length bX)),(1,[],(vI n1)),(2,[],(.func (.func 95) #[] #[(vP jh)])),(6,[],(vI 20)),(7,[],(vI gr)),(8,[],(vI bB))]) (fun⟨a7,gr,bB⟩ _=> [⟨cw,72,row af a7 cI⟩,⟨some jh,46,cC dR⟩]) uu () ⟨rfl,lr⟩ [0,1] ?_
  rintro⟨a7,gr,bB⟩ _ aaU ⟨Oy,uz⟩ h
  rw [Fb.u_] at h
  refine ad (cT [0,0,0] (qi h (fun h=> ?_) (fun h=> ?_)))
  ·refine kT (ap (cR [0,0,0,0] (bE h fun kn uw h=>oC 0 (fun w hm=>Fd.c a7 gr bB dR w _ cw Oy gq uz jh (hm.ps (N:= [⟨cw,72,row af a7 cI⟩,⟨some jh,46,cC dR⟩]) [0,1]) uw) ?_)))
   rintro w v w' hm ⟨aeM,mG,rfl,bn⟩
   exact ⟨_,hm.aW [(0,⟨cw,72,row af kn cI⟩),(1,⟨some jh,46,cC dR⟩)] [] bn,fB (eT (cT [0,0] (cH [0,0,0,0] (qe (nf (qb (kn,bB,(au (bB+20))) () h ⟨aeM,mG⟩ [0,1]))))))⟩
  ·exact lX (a7,gr,bB) h (fun e=>by subst e;exact bo (qm ⟨a7,gr,bB⟩ ⟨DE,Oy,uz⟩ [0,1]))
 ·rintro⟨mb,jb,gw⟩ ⟨h,vS,qT⟩
  unfold Fb.ki at h
  refine aP (cR [0,0,0,0] (bE h fun w9 iD h=>oC 0 (fun w hm=>Fd.c mb jb n1 dR w _ cw vS gq qT jh (hm.ps (N:= [⟨cw,72,row af mb cI⟩,⟨some jh,46,cC dR⟩]) [0,1]) iD) ?_))
  rintro w v w' hm ⟨S9,wN,rfl,bn⟩
  refine ⟨_,hm.aW [(0,⟨cw,72,row af w9 cI⟩),(1,⟨some jh,46,cC dR⟩)] [] bn,fB (eT (aK (fun(jI:(List ab))=>Fb.qw jI=some r∧(jI.length=bg.length)∧(hO cw jI bX)) (fun jI=> []) (fun jI=> [⟨cw,72,row af jI cI⟩,⟨some jh,46,cC dR⟩]) ?_ ?_))⟩
  ·refine ap ?_
   obtain⟨uJ,Aj,aeN⟩:=bd h
   refine jl (fun(s:(List ab)×Int) (x:Unit)=>match s,x with | ⟨iK,aR⟩,_=>(iK.length=bg.length)∧(hO cw iK bX)) (fun⟨iK,aR⟩ _=> [(0,[],(.slice (mB cw) bg.length bX)),(1,[],(vI n1)),(2,[],(.func (.func 95) #[] #[(vP jh)])),(6,[],(vI aR))]) (fun⟨iK,aR⟩ _=> [⟨cw,72,row af iK cI⟩,⟨some jh,46,cC dR⟩]) Aj () ⟨S9,wN⟩ [0,1] ?_
   rintro⟨iK,aR⟩ _ WA ⟨YX,YY⟩ h
   rw [Fb.ko] at h
   refine ad (cT [0,0,0] (qi h (fun h=> ?_) (fun h=> ?_)))
   ·refine kT (aK (fun(eH:(List ab))=>Fb.nJ aR eH=some WA∧(eH.length=bg.length)∧(hO cw eH bX)) (fun eH=> [(0,[],(.slice (mB cw) bg.length bX)),(1,[],(vI n1)),(2,[],(.func (.func 95) #[] #[(vP jh)])),(6,[],(vI (au (aR*2))))]) (fun eH=> [⟨cw,72,row af eH cI⟩,⟨some jh,46,cC dR⟩]) ?_ ?_)
    ·refine ap (cT [0,0,0,0] (ad (aK (fun(j:(List ab)×Int)=>match j with | ⟨bO,ew⟩=>Fb.uI n1 dR aR bO ew=some WA∧(bO.length=bg.length)∧(hO cw bO bX)) (fun⟨bO,ew⟩=> [(0,[],(.slice (mB cw) bg.length bX)),(1,[],(vI n1)),(2,[],(.func (.func 95) #[] #[(vP jh)])),(6,[],(vI aR)),(7,[],(vI ew))]) (fun⟨bO,ew⟩=> [⟨cw,72,row af bO cI⟩,⟨some jh,46,cC dR⟩]) ?_ ?_)))
     ·refine ap ?_
      obtain⟨j7,JF,aeO⟩:=bd h
      refine jl (fun(s:(List ab)×Int×Int) (x:Unit)=>match s,x with | ⟨b_,dW,eE⟩,_=>(b_.length=bg.length)∧(hO cw b_ bX)) (fun⟨b_,dW,eE⟩ _=> [(0,[],(.slice (mB cw) bg.length bX)),(1,[],(vI n1)),(2,[],(.func (.func 95) #[] #[(vP jh)])),(6,[],(vI aR)),(7,[],(vI dW)),(8,[],(vI eE))]) (fun⟨b_,dW,eE⟩ _=> [⟨cw,72,row af b_ cI⟩,⟨some jh,46,cC dR⟩]) JF () ⟨YX,YY⟩ [0,1] ?_
      rintro⟨b_,dW,eE⟩ _ WL ⟨Ky,DP⟩ h
      rw [Fb.j4] at h
      refine ad (cT [0,0,0] (qi h (fun h=> ?_) (fun h=> ?_)))
      ·refine kT (ap (cR [0,0,0,0,0,0,0] (bE h fun uh sg h=>oC 0 (fun w hm=>Fa.c b_ dW (au (dW+aR)) eE dR w _ cw Ky gq DP jh (hm.ps (N:= [⟨cw,72,row af b_ cI⟩,⟨some jh,46,cC dR⟩]) [0,1]) sg) ?_)))
       rintro w v w' hm ⟨To,nW,rfl,bn⟩
       exact ⟨_,hm.aW [(0,⟨cw,72,row af uh cI⟩),(1,⟨some jh,46,cC dR⟩)] [] bn,fB (eT (cT [0,0] (cH [0,0,0,0,0] (qe (nf (qb (uh,eE,(au (eE+(au (2*aR))))) () h ⟨To,nW⟩ [0,1]))))))⟩
      ·exact lX (b_,dW) h (fun e=>by subst e;exact bo (qm ⟨b_,dW⟩ ⟨aeO,Ky,DP⟩ [0,1]))
     ·rintro⟨bO,ew⟩ ⟨h,tt,se⟩
      unfold Fb.uI at h
      refine aP (ad (cT [0,0,0,0] (cT [0,0,0] (qi h (fun h=> ?_) (fun h=> ?_)))))
      ·refine cH [0,0,0,0,0] (bE h fun iI DI h=>oC 0 (fun w hm=>Fa.c bO ew (au (ew+aR)) n1 dR w _ cw tt gq se jh (hm.ps (N:= [⟨cw,72,row af bO cI⟩,⟨some jh,46,cC dR⟩]) [0,1]) DI) ?_)
       rintro w v w' hm ⟨Tp,D',rfl,bn⟩
       exact ⟨_,hm.aW [(0,⟨cw,72,row af iI cI⟩),(1,⟨some jh,46,cC dR⟩)] [] bn,fB (eT (cH [0,0,0] (qe (nf (qm iI ⟨h,Tp,D'⟩ [0,1])))))⟩
      ·exact kT (cH [0,0,0] (qe (nf (qm bO ⟨h,tt,se⟩ [0,1]))))
    ·rintro eH ⟨h,Kj,th⟩
     unfold Fb.nJ at h
     exact qb (eH,(au (aR*2))) () h ⟨Kj,th⟩ [0,1]
   ·exact lX iK h (fun e=>by subst e;exact bo (qm iK ⟨aeN,YX,YY⟩ [0,1]))
  ·rintro jI ⟨h,aeP,vx⟩
   unfold Fb.qw at h
   refine gn ?_
   obtain rfl:=si h
   exact qr [] (fun w hm=>⟨aeP,vx,rfl,hm.pk [0,1]⟩)
def FG(x0:List ab)(io:aQ):Option ((List ab)):=(Fb x0 (x0.length:Int) io).bind fun aA=>some aA
theorem FG.c(x0:List ab)(io:aQ)(w:World)(r:(List ab))(cw:Option Nat){jp:Nat}{bX:Nat}{cI:List Value}(dH:x0.length=jp)(gq:hS cw jp bX cI 4)(lr:hO cw x0 bX)(eG:Nat)(fG:Mem w (bs [cw,some eG]) [⟨cw,72,row af x0 cI⟩,⟨some eG,46,cC io⟩] w)(h:FG x0 io=some r):
   Cr 94 #[(.slice (mB cw) jp bX),(.func (.func 95) #[] #[(vP eG)])] w fun v w'=>r.length=jp∧(hO cw r bX)∧v= .tuple #[]∧Mem w (bs [cw,some eG]) [⟨cw,72,row af r cI⟩,⟨some eG,46,cC io⟩] w':=by
 subst dH
 rw [FG] at h
 refine eN Tryz.func94 rfl Tryz.ntmps94 fG (cH [0,0,0,0] (bE h fun aA gv h=>oC 0 (fun w hm=>Fb.c x0 (x0.length:Int) io w _ cw rfl gq lr eG (hm.ps (N:= [⟨cw,72,row af x0 cI⟩,⟨some eG,46,cC io⟩]) [0,1]) gv) ?_))
 rintro w v w' hm ⟨aih,qT,rfl,bn⟩
 refine ⟨_,hm.aW [(0,⟨cw,72,row af aA cI⟩),(1,⟨some eG,46,cC io⟩)] [] bn,fB (qe (gn ?_))⟩
 obtain rfl:=si h
 exact qr [] (fun w hm=>⟨aih,qT,rfl,hm.pk [0,1]⟩)
def Xl(f0:ae)(d1:av 96 Int)(n2:ai)(x3:ab):Option (Bool):=(if x3.bJ=true then some true else(Wq f0 d1 (au ((au n2.cd)+(au x3.cP))) (au x3.eU)).bind fun aA=>some aA)
theorem Xl.c(f0:ae)(d1:av 96 Int)(n2:ai)(x3:ab)(w:World)(r:Bool){bj:Option Addr}{bm:Nat}(bi:Nat)(dr:Rw w bj 2 ay f0.aa)(cE:f0.aa.length=bm){fZ qK:Nat}(dL:Rw w (some ⟨fZ,qK,none⟩) 1 aj d1.1)(h:Xl f0 d1 n2 x3=some r):
   Cq 152 #[(.agg #[(vH f0.ag),(.slice bj bm bi)]),(.pointer (some ⟨fZ,qK,none⟩)),(.agg (aN n2)),(.agg (aY x3))] w (.bool r) [] []:=by
 subst cE
 rw [Xl] at h
 refine en Tryz.func152 rfl Tryz.ntmps152 (ad (ao (oA 0 (fun cD=>oA 0 (fun fV=>oA 0 (fun gC=>qh [0] (eT (ad (ao (qf [(0,0),(2,0),(0,0),(0,1),(0,1),(0,1),(1,1),(0,1),(0,1),(2,1),(0,1),(0,1),(0,1),(2,1),(0,1)] (qp 11 h (fun h=> ?_) (fun h=> ?_))))))))))))
 ·refine qf [(0,3),(0,4),(0,0)] (eT (aI ?_))
  cases h
  exact qP []
 ·refine bE h fun aA iD h=>oQ 2 (fun w hm=>Wq.c f0 d1 (au ((au n2.cd)+(au x3.cP))) (au x3.eU) w _ bi (hm.xr dr) rfl (hm.xr dL) iD) (qf [(0,5),(0,0)] (eT (aI ?_)))
  cases h
  exact qP []
def Xm(d0:av 96 Int)(n1:ai)(x2:ab):Option ((av 96 Int)):=(if(!x2.bJ)=true then(QU d0 (au ((au n1.cd)+(au x2.cP))) (au x2.eU) true).bind fun aA=>some aA else some d0)
theorem Xm.c(d0:av 96 Int)(n1:ai)(x2:ab)(w:World)(r:(av 96 Int))(aH:Nat)(fG:Mem w (bs [some aH]) [⟨(some aH),36,row aj d0.1 []⟩] w)(h:Xm d0 n1 x2=some r):
   Cr 153 #[(vP aH),(.agg (aN n1)),(.agg (aY x2))] w fun v w'=>v= .tuple #[]∧Mem w (bs [some aH]) [⟨(some aH),36,row aj r.1 []⟩] w':=by
 rw [Xm] at h
 refine eN Tryz.func153 rfl Tryz.ntmps153 fG (ad (ao (oA 0 (fun cD=>oA 0 (fun fV=>eT (cT [0,2,0] (qi h (fun h=> ?_) (fun h=> ?_))))))))
 ·refine cH [0,0,1,0,0,2,0,0,0,2,0] (bE h fun aA iD h=>oC 0 (fun w hm=>QU.c d0 (au ((au n1.cd)+(au x2.cP))) (au x2.eU) true w _ aH (hm.ps [0]) iD) ?_)
  rintro w v w' hm ⟨rfl,bn⟩
  refine ⟨_,hm.aW [(0,⟨(some aH),36,row aj aA.1 []⟩)] [] bn,fB (qe (gn ?_))⟩
  cases h
  exact qP [0]
 ·refine bV (gn ?_)
  cases h
  exact qP [0]
def VT(s0:List ab):Option ((List ab)):=(if([]:List ab).length+s0.length≤4294967296 then some (([]:List ab)++s0) else none)
theorem VT.c(s0:List ab)(w:World)(r:(List ab)){cQ:Option Addr}{ck:Nat}(bX:Nat)(eX:Rw w cQ 4 af s0)(dH:s0.length=ck)(h:VT s0=some r):
   Cr 154 #[(.slice cQ ck bX)] w fun v w'=>∃(o0:Option Nat) (c0:Nat) (s0:List Value) (n0:Nat),r.length=n0∧(hS o0 n0 c0 s0 4)∧(hO o0 r c0)∧v= .slice (mB o0) n0 c0∧Mem w [] [⟨o0,72,row af r s0⟩] w':=by
 subst dH
 rw [VT] at h
 refine en Tryz.func154 rfl Tryz.ntmps154 (cT [0] (ad (cR [0] ?_)))
 by_cases Dt:cQ=none
 ·have LR:s0= []:=(LY eX Dt)
  replace h:some []=some r:=by simpa [LR] using h
  refine tO (pN 0 cQ true true (by rw [Dt];rfl) (fB (eT (jq true (fun JT=>(cT [0] (rX ?_))) (fun JT=>nomatch JT)))))
  obtain rfl:=si h
  exact lg 72 af (qr [] (fun w hm=>⟨none,0,[],0,rfl,(fun e=>absurd rfl e),(fun _=>⟨rfl,rfl⟩),rfl,hm.pk [0]⟩))
 ·refine tO (pN 0 cQ true false (by rw [Option.isNone_eq_false_iff.2 (Option.ne_none_iff_isSome.1 Dt)];rfl) (fB (eT (jq false (fun JU=>nomatch JU) (fun JU=>(kT (ad (ao (oA 0 (fun gC=>qh [0] ?_))))))))))
  obtain⟨RM,h⟩:=gd h
  refine tO (pA 0 0 (some gC) 72 0 s0.length 0 4 4 cQ af ([]:List ab) s0 [] (.agg #[(.bool false),(vB 0),(vB 0),(vB 0)]) rfl rfl az eI (fun _=>⟨bt _,by simp⟩) (fun e=>nomatch e) (fun w hm=>(hm.xr eX)) RM (fun lU gK rJ Cn lq=>oH [0] (eT (aI ?_))))
  obtain rfl:=si h
  exact qr [] (fun w hm=>⟨lU,gK,rJ,((([]:List ab)++s0).length),rfl,Cn,lq,rfl,hm.pk [0]⟩)
def Fh.vK(a0:cz)(nZ:List ab)(gw:Int)(sy:Int)(ME:Int)(zh:Int)(MF:Int)(MG:Int)(MH:Bool)(MI:Int):Option (cz):=some (⟨(⟨gw,a0.ff.aa⟩:ae),a0.ft,(⟨sy,ME,zh⟩:aQ),a0.fp,a0.b9,MF,MG,MH,nZ,MI⟩:cz)
def Fh.Az(a0:cz)(fL:Int)(lu:List ab)(tK:Int)(ka:Int)(j_:Int)(vb:Int)(ol:Int)(vc:Int)(Ea:Bool)(mC:Int):Option (((List ab)×Int×Int×Int×Int×Int×Int×Bool×Int×Int)⊕(cz⊕((List ab)×Int×Int×Int×Int×Int×Int×Bool×Int))):=(if Ea=true then some (.inr (.inl (⟨(⟨tK,a0.ff.aa⟩:ae),a0.ft,(⟨ka,j_,vb⟩:aQ),a0.fp,a0.b9,ol,vc,Ea,lu,mC⟩:cz))) else some (.inl (lu,tK,ka,j_,vb,ol,vc,Ea,mC,(au (fL+1)))))
def Fh.mV(dn:cz→(av 96 Int)→(List ab)→Int→Option (cz))(a0:cz)(d1:av 96 Int)(aU:List ab)(e_:Int)(a7:List ab)(cS:Int)(ew:Int)(dW:Int)(eE:Int)(fR:Int)(gr:Int)(ja:Bool)(cK:Int)(fL:Int)(j5:ab)(uy:Int):Option (((List ab)×Int×Int×Int×Int×Int×Int×Bool×Int×Int)⊕(cz⊕((List ab)×Int×Int×Int×Int×Int×Int×Bool×Int))):=(if(gr==fR)=true then some (.inr (.inl (⟨(⟨cS,a0.ff.aa⟩:ae),a0.ft,(⟨ew,dW,eE⟩:aQ),a0.fp,a0.b9,fR,gr,true,a7,cK⟩:cz))) else(ix a0.ft (aU.length:Int)).bind fun DS=>(Xm d1 DS j5).bind fun mj=>(VT aU).bind fun kI=>(if kI.length+([j5]:List ab).length≤4294967296 then(dn (⟨(⟨cS,a0.ff.aa⟩:ae),a0.ft,(⟨ew,dW,eE⟩:aQ),a0.fp,a0.b9,fR,(au (gr+1)),ja,a7,cK⟩:cz) mj (kI++([j5]:List ab)) (au (e_+uy))).bind fun bz=>Fh.Az a0 fL bz.bp bz.ff.ag bz.fc.bJ bz.fc.ba bz.fc.du bz.bA bz.gi bz.ez bz.d_ else none))
def Fh.Gg(dn:cz→(av 96 Int)→(List ab)→Int→Option (cz))(a0:cz)(d1:av 96 Int)(aU:List ab)(e_:Int)(qS:List ab):((List ab)×Int×Int×Int×Int×Int×Int×Bool×Int×Int)→Option (((List ab)×Int×Int×Int×Int×Int×Int×Bool×Int×Int)⊕(cz⊕((List ab)×Int×Int×Int×Int×Int×Int×Bool×Int)))
 | (a7,cS,ew,dW,eE,fR,gr,ja,cK,fL)=>(if(decide (fL<(qS.length:Int)))=true then(ix qS fL).bind fun j5=>(MB (⟨ew,dW,eE⟩:aQ) j5).bind fun uy=>(ix a0.ft (aU.length:Int)).bind fun Xn=>(Xl (⟨cS,a0.ff.aa⟩:ae) d1 Xn j5).bind fun PG=>(if(!PG)=true then some (.inl (a7,cS,ew,dW,eE,fR,gr,ja,cK,(au (fL+1)))) else(if(decide (cK≥0))=true then(ix a0.b9 (au ((aU.length:Int)+1))).bind fun Tq=>(if(decide ((au ((au (e_+uy))+Tq))≥cK))=true then some (.inl (a7,cS,ew,dW,eE,fR,gr,ja,cK,(au (fL+1)))) else Fh.mV dn a0 d1 aU e_ a7 cS ew dW eE fR gr ja cK fL j5 uy) else Fh.mV dn a0 d1 aU e_ a7 cS ew dW eE fR gr ja cK fL j5 uy)) else some (.inr (.inr (a7,cS,ew,dW,eE,fR,gr,ja,cK))))
def Fh.step(dn:cz→(av 96 Int)→(List ab)→Int→Option (cz))(a0:cz)(d1:av 96 Int)(aU:List ab)(e_:Int):Option (cz):=(if((aU.length:Int)==(a0.ft.length:Int))=true then some (⟨(⟨a0.ff.ag,a0.ff.aa⟩:ae),a0.ft,(⟨a0.fc.bJ,a0.fc.ba,a0.fc.du⟩:aQ),a0.fp,a0.b9,a0.bA,a0.gi,a0.ez,aU,e_⟩:cz) else(ix a0.fp (aU.length:Int)).bind fun qS=>(loop (Fh.Gg dn a0 d1 aU e_ qS) (a0.bp,a0.ff.ag,a0.fc.bJ,a0.fc.ba,a0.fc.du,a0.bA,a0.gi,a0.ez,a0.d_,0)).bind fun Ta=>match Ta with | .inl p=>some p | .inr p=>Fh.vK a0 p.1 p.2.1 p.2.2.1 p.2.2.2.1 p.2.2.2.2.1 p.2.2.2.2.2.1 p.2.2.2.2.2.2.1 p.2.2.2.2.2.2.2.1 p.2.2.2.2.2.2.2.2)
def Fh.fW:Nat→cz→(av 96 Int)→(List ab)→Int→Option (cz)
 | 0=>fun a0 d1 aU e_=>none
 | fu+1=>Fh.step (Fh.fW fu)
def Fh(a0:cz)(d1:av 96 Int)(aU:List ab)(e_:Int):Option (cz):=Fh.fW 200 a0 d1 aU e_
set_option maxHeartbeats 8000000 in
theorem Fh.iS(dn:cz→(av 96 Int)→(List ab)→Int→Option (cz))(qN:∀(a0:cz) (d1:av 96 Int) (aU:List ab) (e_:Int) (w:World) (r:cz) {bL:Option Addr} {bG:Nat} (bQ:Nat) (dL:Rw w bL 2 ay a0.ff.aa) (dU:a0.ff.aa.length=bG) {dI:Option Addr} {db:Nat} (eA:Nat) (g_:Rw w dI 2 aF a0.ft) (ga:a0.ft.length=db) {lT:Option Addr} {mJ:Nat} (nm:Nat) {kK:List Hd} (AT:Rw w lT 1 dZ kK) (A8:a0.fp.length=mJ) {nu:Option Addr} {nK:Nat} (p9:Nat) (Eb:Rw w nu 1 aG a0.b9) (Ec:a0.b9.length=nK) {wj:Option Addr} {sA:Nat} (vA:Nat) (Ed:a0.bp.length=sA) {om:Option Addr} {sC:Nat} (tc:Nat) (MJ:Rw w om 4 af aU) (Ee:aU.length=sC) (aH:Nat) (fG:Mem w (bs [some aH]) [⟨some aH,153,[(vH a0.ff.ag),(.slice bL bG bQ),(.slice dI db eA),(vH a0.fc.bJ),(vH a0.fc.ba),(vH a0.fc.du),(.slice lT mJ nm),(.slice nu nK p9),(vI a0.bA),(vI a0.gi),(.bool a0.ez),(.slice wj sA vA),(vI a0.d_)]⟩] w) (eL:a0.ff.aa≠ []→aB bL∉bs [some aH]) (gT:a0.ft≠ []→aB dI∉bs [some aH]) (re:kK≠ []→aB lT∉bs [some aH]) (zL:r8 w (bs [some aH]) 4 af kK a0.fp) (tL:a0.b9≠ []→aB nu∉bs [some aH]) (zi:aU≠ []→aB om∉bs [some aH]) (h:dn a0 d1 aU e_=some r),
   Calls Tryz.prog 98 #[(vP aH),(.agg (row aj d1.1 []).toArray),(.slice om sC tc),(vI e_)] w fun e w'=>∃v,e= .returned v∧(∃(lo:Option Nat) (la:Option Addr) (lc:Nat) (vy:List Value) (ln:Nat),r.bp.length=ln∧yo lo la lc vy ln r.bp 4 [(wj,vA,a0.bp),(om,tc,aU)]∧v= .tuple #[]∧Mem w (bs [some aH]) [⟨some aH,153,[(vH r.ff.ag),(.slice bL bG bQ),(.slice dI db eA),(vH r.fc.bJ),(vH r.fc.ba),(vH r.fc.du),(.slice lT mJ nm),(.slice nu nK p9),(vI r.bA),(vI r.gi),(.bool r.ez),(.slice la ln lc),(vI r.d_)]⟩,⟨lo,72,row af r.bp vy⟩] w')) (a0:cz) (d1:av 96 Int) (aU:List ab) (e_:Int) (w:World) (r:cz) {bL:Option Addr} {bG:Nat} (bQ:Nat) (dL:Rw w bL 2 ay a0.ff.aa) (dU:a0.ff.aa.length=bG) {dI:Option Addr} {db:Nat} (eA:Nat) (g_:Rw w dI 2 aF a0.ft) (ga:a0.ft.length=db) {lT:Option Addr} {mJ:Nat} (nm:Nat) {kK:List Hd} (AT:Rw w lT 1 dZ kK) (A8:a0.fp.length=mJ) {nu:Option Addr} {nK:Nat} (p9:Nat) (Eb:Rw w nu 1 aG a0.b9) (Ec:a0.b9.length=nK) {wj:Option Addr} {sA:Nat} (vA:Nat) (Ed:a0.bp.length=sA) {om:Option Addr} {sC:Nat} (tc:Nat) (MJ:Rw w om 4 af aU) (Ee:aU.length=sC) (aH:Nat) (fG:Mem w (bs [some aH]) [⟨some aH,153,[(vH a0.ff.ag),(.slice bL bG bQ),(.slice dI db eA),(vH a0.fc.bJ),(vH a0.fc.ba),(vH a0.fc.du),(.slice lT mJ nm),(.slice nu nK p9),(vI a0.bA),(vI a0.gi),(.bool a0.ez),(.slice wj sA vA),(vI a0.d_)]⟩] w) (eL:a0.ff.aa≠ []→aB bL∉bs [some aH]) (gT:a0.ft≠ []→aB dI∉bs [some aH]) (re:kK≠ []→aB lT∉bs [some aH]) (zL:r8 w (bs [some aH]) 4 af kK a0.fp) (tL:a0.b9≠ []→aB nu∉bs [some aH]) (zi:aU≠ []→aB om∉bs [some aH]) (h:Fh.step dn a0 d1 aU e_=some r):
   Cr 98 #[(vP aH),(.agg (row aj d1.1 []).toArray),(.slice om sC tc),(vI e_)] w fun v w'=>∃(lo:Option Nat) (la:Option Addr) (lc:Nat) (vy:List Value) (ln:Nat),r.bp.length=ln∧yo lo la lc vy ln r.bp 4 [(wj,vA,a0.bp),(om,tc,aU)]∧v= .tuple #[]∧Mem w (bs [some aH]) [⟨some aH,153,[(vH r.ff.ag),(.slice bL bG bQ),(.slice dI db eA),(vH r.fc.bJ),(vH r.fc.ba),(vH r.fc.du),(.slice lT mJ nm),(.slice nu nK p9),(vI r.bA),(vI r.gi),(.bool r.ez),(.slice la ln lc),(vI r.d_)]⟩,⟨lo,72,row af r.bp vy⟩] w':=by
 subst dU ga A8 Ec Ed Ee
 rw [Fh.step] at h
 refine eN Tryz.func98 rfl Tryz.ntmps98 fG (xF 72 af a0.bp (ad (ao (oA 0 (fun x_=>eT (cT [0,0,0] (ad (cT [0,0,0,0,0,0,0] (qi h (fun h=> ?_) (fun h=> ?_))))))))))
 ·refine cR [0,0,0,0,0,0] (tO (qs 0 [0] (Si 1 72 af aU (oH [0,0] (oS 0 [0] (eT (rX ?_)))))))
  obtain rfl:=si h
  exact qr [] (fun w hm=>⟨(none:Option Nat),om,tc,[],aU.length,rfl,ls1,rfl,hm.pk [0,1]⟩)
 ·refine kT (cR [0,0,0,0,0] (bE h fun qS rq h=>oX 0 lT 1 rq rfl (AT.sp (zL.Ci rq)) (oL 0 false (fun w hm=>((hm.aM AT re).at (zL.Ci rq))) (tO (Yq 0 (vI (((hd kK (aU.length:Int)).n:Nat):Int)) (vI (qS.length:Int)) (by kernel_rfl) (by kernel_rfl) (fI (fun z:Nat=>Value.int .i64 (z:Int)) (Eq.symm (zL.get rq).2.1)) (oH [0] (eT (aK (fun(j:(List ab)×Int×Int×Int×Int×Int×Int×Bool×Int×(Option Nat)×(Option Addr)×Nat×(List Value)×Nat)=>match j with | ⟨nZ,gw,sy,ME,zh,MF,MG,MH,MI,Bg,Bh,oW,rp,Bi⟩=>Fh.vK a0 nZ gw sy ME zh MF MG MH MI=some r∧(nZ.length=Bi)∧(yo Bg Bh oW rp Bi nZ 4 [(wj,vA,a0.bp),(om,tc,aU)])) (fun⟨nZ,gw,sy,ME,zh,MF,MG,MH,MI,Bg,Bh,oW,rp,Bi⟩=> []) (fun⟨nZ,gw,sy,ME,zh,MF,MG,MH,MI,Bg,Bh,oW,rp,Bi⟩=> [⟨some aH,153,[(vH gw),(.slice bL a0.ff.aa.length bQ),(.slice dI a0.ft.length eA),(vH sy),(vH ME),(vH zh),(.slice lT a0.fp.length nm),(.slice nu a0.b9.length p9),(vI MF),(vI MG),(.bool MH),(.slice Bh Bi oW),(vI MI)]⟩,⟨Bg,72,row af nZ rp⟩,⟨(some x_),36,row aj d1.1 []⟩]) ?_ ?_))))))))
  ·refine ap ?_
   obtain⟨Ta,D3,Tr⟩:=bd h
   refine jl (fun(s:(List ab)×Int×Int×Int×Int×Int×Int×Bool×Int×Int) (x:(Option Nat)×(Option Addr)×Nat×(List Value)×Nat)=>match s,x with | ⟨a7,cS,ew,dW,eE,fR,gr,ja,cK,fL⟩,⟨gL,rH,bP,fQ,Bj⟩=>(a7.length=Bj)∧(yo gL rH bP fQ Bj a7 4 [(wj,vA,a0.bp),(om,tc,aU)])) (fun⟨a7,cS,ew,dW,eE,fR,gr,ja,cK,fL⟩ ⟨gL,rH,bP,fQ,Bj⟩=> [(0,[],(vP aH)),(2,[],(.slice om aU.length tc)),(3,[],(vI e_)),(5,[],(vP x_)),(8,[],(vI (aU.length:Int))),(36,[],(.slice (hd kK (aU.length:Int)).a ((hd kK (aU.length:Int)).n) ((hd kK (aU.length:Int)).c))),(37,[],(vI (qS.length:Int))),(38,[],(vI fL))]) (fun⟨a7,cS,ew,dW,eE,fR,gr,ja,cK,fL⟩ ⟨gL,rH,bP,fQ,Bj⟩=> [⟨some aH,153,[(vH cS),(.slice bL a0.ff.aa.length bQ),(.slice dI a0.ft.length eA),(vH ew),(vH dW),(vH eE),(.slice lT a0.fp.length nm),(.slice nu a0.b9.length p9),(vI fR),(vI gr),(.bool ja),(.slice rH Bj bP),(vI cK)]⟩,⟨gL,72,row af a7 fQ⟩,⟨(some x_),36,row aj d1.1 []⟩]) D3 ⟨(none:Option Nat),wj,vA,[],a0.bp.length⟩ ⟨rfl,ls0⟩ [0,1,2] ?_
   rintro⟨a7,cS,ew,dW,eE,fR,gr,ja,cK,fL⟩ ⟨gL,rH,bP,fQ,Bj⟩ aa5 ⟨rfl,Hf⟩ h
   rw [Fh.Gg] at h
   refine cT [0] (ad (qi h (fun h=> ?_) (fun h=> ?_)))
   ·refine kT (ad (ap (ad (ao (bE h fun j5 D8 h=>oX 0 (hd kK (aU.length:Int)).a 4 D8 (zL.get rq).2.1 ((zL.get rq).1.sp D8) (oL 0 true (fun w hm=>((hm.aM (zL.get rq).1 (zL.get rq).2.2).at D8)) (oA 0 (fun Gh=>oS 0 [3] (eT (ad (qg [⟨some aH,153,[(vH cS),(.slice bL a0.ff.aa.length bQ),(.slice dI a0.ft.length eA),(vH ew),(vH dW),(vH eE),(.slice lT a0.fp.length nm),(.slice nu a0.b9.length p9),(vI fR),(vI gr),(.bool ja),(.slice rH a7.length bP),(vI cK)]⟩,⟨gL,72,row af a7 fQ⟩,⟨(some x_),36,row aj d1.1 []⟩,⟨some Gh,72,cY j5⟩] 9 (qd [⟨0,0,0⟩,⟨1,0,0⟩,⟨2,0,0⟩,⟨3,0,0⟩,⟨4,0,0⟩,⟨5,3,0⟩] 3 [0,1,2,3] (bE h fun uy SI h=>dQ 6 0 (fun w hm=>MB.c (⟨ew,dW,eE⟩:aQ) j5 w _ SI) [0,1,2,3] (qd [⟨7,0,0⟩,⟨8,0,0⟩] 0 [0,1,2,3] (zT (ad (aK (fun(_:Unit)=>Fh.mV dn a0 d1 aU e_ a7 cS ew dW eE fR gr ja cK fL j5 uy=some aa5) (fun(_:Unit)=> [(0,[],(vP aH)),(2,[],(.slice om aU.length tc)),(3,[],(vI e_)),(5,[],(vP x_)),(8,[],(vI (aU.length:Int))),(10,[],(vP Gh)),(11,[],(vI (au (e_+uy)))),(36,[],(.slice (hd kK (aU.length:Int)).a ((hd kK (aU.length:Int)).n) ((hd kK (aU.length:Int)).c))),(37,[],(vI (qS.length:Int))),(38,[],(vI fL))]) (fun(_:Unit)=> [⟨some aH,153,[(vH cS),(.slice bL a0.ff.aa.length bQ),(.slice dI a0.ft.length eA),(vH ew),(vH dW),(vH eE),(.slice lT a0.fp.length nm),(.slice nu a0.b9.length p9),(vI fR),(vI gr),(.bool ja),(.slice rH a7.length bP),(vI cK)]⟩,⟨gL,72,row af a7 fQ⟩,⟨(some x_),36,row aj d1.1 []⟩,⟨some Gh,72,cY j5⟩]) ?_ ?_)))))))))))))))))
    ·refine ad (qg [⟨some aH,153,[(vH cS),(.slice bL a0.ff.aa.length bQ),(.slice dI a0.ft.length eA),(vH ew),(vH dW),(vH eE),(.slice lT a0.fp.length nm),(.slice nu a0.b9.length p9),(vI fR),(vI gr),(.bool ja),(.slice rH a7.length bP),(vI cK)]⟩,⟨gL,72,row af a7 fQ⟩,⟨(some x_),36,row aj d1.1 []⟩,⟨some Gh,72,cY j5⟩] 38 (qd [⟨0,0,0⟩,⟨1,0,0⟩,⟨2,0,0⟩,⟨3,0,0⟩,⟨4,0,0⟩,⟨5,0,0⟩,⟨6,0,0⟩,⟨7,0,0⟩,⟨8,0,0⟩,⟨11,3,0⟩] 28 [0,1,2,3] (bE h fun Xn D9 h=>qX 9 0 [0,1,2,3] dI 2 D9 rfl (g_.sp D9) (qL 10 0 [0,1,2,3] true (fun w hm=>(hm.aM g_ gT).at D9) (bE h fun PG Ts h=>dQ 12 0 (fun w hm=>Xl.c (⟨cS,a0.ff.aa⟩:ae) d1 Xn j5 w _ bQ (hm.aM dL eL) rfl (hm.ow 2 (some x_) 36 d1.1 [] (fun e=>nomatch e) an) Ts) [0,1,2,3] (qd [⟨13,0,0⟩,⟨14,0,0⟩,⟨15,0,1⟩,⟨16,0,1⟩,⟨17,0,1⟩,⟨18,0,1⟩,⟨19,0,1⟩] 18 [0,1,2,3] (js 64 (!PG) (fun Tt=> ?_) (fun Tt=> ?_))))))))
     ·replace h:=yi Tt h
      exact qd [⟨20,0,3⟩,⟨21,0,3⟩,⟨22,0,3⟩,⟨23,0,3⟩,⟨24,0,3⟩,⟨25,0,3⟩,⟨26,0,3⟩,⟨27,0,3⟩,⟨28,0,3⟩,⟨29,0,3⟩,⟨30,0,3⟩,⟨31,0,3⟩,⟨32,0,3⟩,⟨33,0,3⟩,⟨34,0,3⟩,⟨35,0,3⟩,⟨36,0,3⟩,⟨37,0,4⟩] 0 [0,1,2,3] (zT (jq true (fun YZ=>(lP (ib (ib (bo (aP (cH [0,0] (qe (qb (a7,cS,ew,dW,eE,fR,gr,ja,cK,(au (fL+1))) ⟨gL,rH,bP,fQ,a7.length⟩ h ⟨rfl,Hf⟩ [0,1,2]))))))))) (fun YZ=>nomatch YZ)))
     ·replace h:=yj Tt h
      refine qd [⟨20,0,2⟩,⟨21,0,1⟩,⟨22,0,1⟩,⟨23,0,1⟩,⟨24,0,1⟩,⟨25,0,1⟩,⟨26,0,1⟩,⟨27,0,1⟩,⟨31,0,1⟩,⟨32,0,1⟩,⟨33,0,1⟩,⟨34,0,1⟩] 6 [0,1,2,3] (js 70 (decide (cK≥0)) (fun Tu=> ?_) (fun Tu=> ?_))
      ·replace h:=yi Tu h
       refine bE h fun Tq Tv h=>qX 28 2 [0,1,2,3] nu 1 Tv rfl (Eb.sp Tv) (qL 29 2 [0,1,2,3] false (fun w hm=>(hm.aM Eb tL).at Tv) (qd [⟨30,0,2⟩,⟨35,0,2⟩,⟨36,0,4⟩,⟨37,0,5⟩] 0 [0,1,2,3] (zT (qi h (fun h=> ?_) (fun h=> ?_)))))
       ·exact lP (ib (ib (bo (aP (cH [0,0] (qe (qb (a7,cS,ew,dW,eE,fR,gr,ja,cK,(au (fL+1))) ⟨gL,rH,bP,fQ,a7.length⟩ h ⟨rfl,Hf⟩ [0,1,2])))))))
       ·exact bV (qm () h [0,1,2,3])
      ·replace h:=yj Tu h
       exact qd [⟨28,0,3⟩,⟨29,0,3⟩,⟨30,0,3⟩,⟨35,0,3⟩,⟨36,0,5⟩,⟨37,0,5⟩] 0 [0,1,2,3] (zT (jq false (fun KI=>nomatch KI) (fun KI=>(bV (qm () h [0,1,2,3])))))
    ·rintro _ h
     unfold Fh.mV at h
     refine aP (s2 (qg [⟨some aH,153,[(vH cS),(.slice bL a0.ff.aa.length bQ),(.slice dI a0.ft.length eA),(vH ew),(vH dW),(vH eE),(.slice lT a0.fp.length nm),(.slice nu a0.b9.length p9),(vI fR),(vI gr),(.bool ja),(.slice rH a7.length bP),(vI cK)]⟩,⟨gL,72,row af a7 fQ⟩,⟨(some x_),36,row aj d1.1 []⟩,⟨some Gh,72,cY j5⟩] 9 (qd [⟨0,0,0⟩,⟨1,0,0⟩,⟨2,0,0⟩,⟨3,0,0⟩,⟨4,0,0⟩,⟨5,0,0⟩,⟨6,0,0⟩,⟨7,0,0⟩,⟨8,0,0⟩] 0 [0,1,2,3] (zT (qi h (fun h=> ?_) (fun h=> ?_))))))
     ·refine cR [0,0,0] (oS 0 [0] (eT (rX (cg (aT (c_ (.inl (⟨(⟨cS,a0.ff.aa⟩:ae),a0.ft,(⟨ew,dW,eE⟩:aQ),a0.fp,a0.b9,fR,gr,true,a7,cK⟩:cz)) (sj h) (fun aii=> ?_)))))))
      subst aii
      refine cg (aT ?_)
      obtain rfl:=si Tr
      exact qr [] (fun w hm=>⟨gL,rH,bP,fQ,a7.length,rfl,Hf,rfl,hm.pk [0,1]⟩)
     ·refine kT (cR [0,0,0,0,0,0,0] (oS 0 [0] (eT (ad (ao (tO (pL 0 2 x_ 96 1 36 aj d1 an (fB (oA 0 (fun DM=>tO (pS 0 4 DM 96 1 36 aj (av.dC 96 0) d1 an bk (fB (eT (ad (qg [⟨some aH,153,[(vH cS),(.slice bL a0.ff.aa.length bQ),(.slice dI a0.ft.length eA),(vH ew),(vH dW),(vH eE),(.slice lT a0.fp.length nm),(.slice nu a0.b9.length p9),(vI fR),(vI (au (gr+1))),(.bool ja),(.slice rH a7.length bP),(vI cK)]⟩,⟨gL,72,row af a7 fQ⟩,⟨(some x_),36,row aj d1.1 []⟩,⟨some Gh,72,cY j5⟩] 9 (qd [⟨0,0,0⟩,⟨1,0,0⟩,⟨2,0,0⟩,⟨3,0,0⟩,⟨4,0,0⟩,⟨7,3,0⟩] 3 [0,1,2,3] (bE h fun DS Tw h=>qX 5 0 [0,1,2,3] dI 2 Tw rfl (g_.sp Tw) (qL 6 0 [0,1,2,3] true (fun w hm=>(hm.aM g_ gT).at Tw) (bE h fun mj aeQ h=>tD 8 (pc 0 (fun w hm=>Xm.c d1 DS j5 w _ DM (hm.ps [4]) aeQ) ?_))))))))))))))))))))
      rintro w v w' hm ⟨rfl,bn⟩
      refine ⟨_,hm.aW [(4,⟨(some DM),36,row aj mj.1 []⟩)] [] bn,kD [0,1,2,3] (zT (ad (aK (fun(j:(List ab)×Int×Int×Int×Int×Int×Int×Bool×Int×(Option Nat)×(Option Addr)×Nat×(List Value)×Nat)=>match j with | ⟨lu,tK,ka,j_,vb,ol,vc,Ea,mC,ux,zj,nL,sD,PO⟩=>Fh.Az a0 fL lu tK ka j_ vb ol vc Ea mC=some aa5∧(lu.length=PO)∧(yo ux zj nL sD PO lu 4 [(wj,vA,a0.bp),(om,tc,aU)])) (fun⟨lu,tK,ka,j_,vb,ol,vc,Ea,mC,ux,zj,nL,sD,PO⟩=> [(0,[],(vP aH)),(2,[],(.slice om aU.length tc)),(3,[],(vI e_)),(5,[],(vP x_)),(8,[],(vI (aU.length:Int))),(36,[],(.slice (hd kK (aU.length:Int)).a ((hd kK (aU.length:Int)).n) ((hd kK (aU.length:Int)).c))),(37,[],(vI (qS.length:Int))),(38,[],(vI fL))]) (fun⟨lu,tK,ka,j_,vb,ol,vc,Ea,mC,ux,zj,nL,sD,PO⟩=> [⟨some aH,153,[(vH tK),(.slice bL a0.ff.aa.length bQ),(.slice dI a0.ft.length eA),(vH ka),(vH j_),(vH vb),(.slice lT a0.fp.length nm),(.slice nu a0.b9.length p9),(vI ol),(vI vc),(.bool Ea),(.slice zj PO nL),(vI mC)]⟩,⟨ux,72,row af lu sD⟩,⟨(some x_),36,row aj d1.1 []⟩,⟨some Gh,72,cY j5⟩,⟨(some DM),36,row aj mj.1 []⟩]) ?_ ?_)))⟩
      ·refine qg [⟨(some x_),36,row aj d1.1 []⟩,⟨some Gh,72,cY j5⟩,⟨(some DM),36,row aj mj.1 []⟩] 9 (qd [⟨0,0,0⟩,⟨2,0,0⟩,⟨4,1,0⟩,⟨7,0,0⟩] 5 [2,3,4] (qv 1 0 [2,3,4] (fun w hm=>jM (b:=DM) (off:=0) (s:=96) (agg:=true) (vs:=row aj mj.1 []) (by kernel_rfl) ((gG an mj).trans rfl) (.inl rfl) (hm.all (hh:=2) (T:=36) (by kernel_rfl))) (t2 3 5 ?_ ?_)))
       ·refine bE h fun kI Kn h=>pc 0 (fun w hm=>VT.c aU w _ tc (hm.aM MJ zi) rfl Kn) ?_
        rintro w v w' hm ⟨aij,MK,aeR,_,rfl,aeS,aeT,rfl,bn⟩
        refine aq hm bn (kD [2,3,4] (tD 5 (qa 0 (fun Ge=>kD [2,3,4] ?_))))
        obtain⟨aeU,h⟩:=gd h
        refine tD 6 (pA 0 5 aij 72 kI.length 1 MK 4 4 (sB Ge) af kI ([j5]:List ab) aeR (.agg #[(.bool false),(vB 0),(vB 0),(vB 0)]) rfl rfl az eI aeS aeT (fun w hm=>(hm.ow 6 (some Ge) 72 ([j5]:List ab) [] (fun e=>nomatch e) az)) aeU (fun ML Ef Y0 Ov Eg=>kD [2,3,4] (bE h fun bz KH h=>tD 8 (pc 0 (fun w hm=>qN (⟨(⟨cS,a0.ff.aa⟩:ae),a0.ft,(⟨ew,dW,eE⟩:aQ),a0.fp,a0.b9,fR,(au (gr+1)),ja,a7,cK⟩:cz) mj (kI++([j5]:List ab)) (au (e_+uy)) w _ bQ (hm.aM dL eL) rfl eA (hm.aM g_ gT) rfl nm (hm.aM AT re) rfl p9 (hm.aM Eb tL) rfl bP rfl Ef (hm.ow 5 ML 72 (kI++([j5]:List ab)) Y0 (fun e=>(Eg e).1) az) rfl aH (hm.ps (N:= [⟨some aH,153,[(vH cS),(.slice bL a0.ff.aa.length bQ),(.slice dI a0.ft.length eA),(vH ew),(vH dW),(vH eE),(.slice lT a0.fp.length nm),(.slice nu a0.b9.length p9),(vI fR),(vI (au (gr+1))),(.bool ja),(.slice rH a7.length bP),(vI cK)]⟩]) [0]) (hm.xp dL eL [0]) (hm.xp g_ gT [0]) (hm.xp AT re [0]) (hm.ip zL [0]) (hm.xp Eb tL [0]) (hm.oa 5 ML (fun e=>(Eg e).1) [0]) KH) ?_))))
        rintro w v w' hm ⟨aik,Tx,Mo,aeV,_,rfl,aeW,rfl,bn⟩
        obtain⟨W6,Ox,aeX,OA⟩:=Mem.YF (T:=72) (bh:=af) (o1:=gL) (H7:=fQ) (H8:=a7) (o:=aik) (sp:=aeV) (xs:=bz.bp) (F:= [(wj,vA,a0.bp),(om,tc,aU)]) (o2:=ML) (Sh:=Y0) (LC:=(kI++([j5]:List ab))) (hm.aw [0] bn) 1 5 7 (by kernel_rfl) (by kernel_rfl) (by kernel_rfl) (by kernel_rfl) Hf rfl Ov Eg rfl rfl aeW
        refine⟨_,Mem.pick OA (N:= [⟨some aH,153,[(vH bz.ff.ag),(.slice bL a0.ff.aa.length bQ),(.slice dI a0.ft.length eA),(vH bz.fc.bJ),(vH bz.fc.ba),(vH bz.fc.du),(.slice lT a0.fp.length nm),(.slice nu a0.b9.length p9),(vI bz.bA),(vI bz.gi),(.bool bz.ez),(.slice Tx bz.bp.length Mo),(vI bz.d_)]⟩,⟨W6,72,row af bz.bp Ox⟩,⟨(some x_),36,row aj d1.1 []⟩,⟨some Gh,72,cY j5⟩,⟨(some DM),36,row aj mj.1 []⟩,⟨none,0,[]⟩,⟨(some Ge),72,row af ([j5]:List ab) []⟩]) [0,1,2,3,4,5,6] (by kernel_rfl) (by kernel_rfl),kD [2,3,4] ?_⟩
        clear hm bn OA
        exact qz (qm ⟨bz.bp,bz.ff.ag,bz.fc.bJ,bz.fc.ba,bz.fc.du,bz.bA,bz.gi,bz.ez,bz.d_,W6,Tx,Mo,Ox,bz.bp.length⟩ ⟨h,rfl,aeX⟩ [0,1,2,3,4])
       ·refine qa 0 (fun MM=>kD [2,3,4] (bE h fun kI KJ h=>tD 3 (pc 0 (fun w hm=>VT.c aU w _ tc (hm.aM MJ zi) rfl KJ) ?_)))
        rintro w v w' hm ⟨aa6,aa7,aeY,_,rfl,aeZ,ae0,rfl,bn⟩
        refine aq hm bn (kD [2,3,4] ?_)
        obtain⟨ae1,h⟩:=gd h
        refine tD 6 (pA 0 6 aa6 72 kI.length 1 aa7 4 4 (sB MM) af kI ([j5]:List ab) aeY (.agg #[(.bool false),(vB 0),(vB 0),(vB 0)]) rfl rfl az eI aeZ ae0 (fun w hm=>(hm.ow 5 (some MM) 72 ([j5]:List ab) [] (fun e=>nomatch e) az)) ae1 (fun MN MO Oq ae2 Eh=>kD [2,3,4] (bE h fun bz ae3 h=>tD 8 (pc 0 (fun w hm=>qN (⟨(⟨cS,a0.ff.aa⟩:ae),a0.ft,(⟨ew,dW,eE⟩:aQ),a0.fp,a0.b9,fR,(au (gr+1)),ja,a7,cK⟩:cz) mj (kI++([j5]:List ab)) (au (e_+uy)) w _ bQ (hm.aM dL eL) rfl eA (hm.aM g_ gT) rfl nm (hm.aM AT re) rfl p9 (hm.aM Eb tL) rfl bP rfl MO (hm.ow 6 MN 72 (kI++([j5]:List ab)) Oq (fun e=>(Eh e).1) az) rfl aH (hm.ps (N:= [⟨some aH,153,[(vH cS),(.slice bL a0.ff.aa.length bQ),(.slice dI a0.ft.length eA),(vH ew),(vH dW),(vH eE),(.slice lT a0.fp.length nm),(.slice nu a0.b9.length p9),(vI fR),(vI (au (gr+1))),(.bool ja),(.slice rH a7.length bP),(vI cK)]⟩]) [0]) (hm.xp dL eL [0]) (hm.xp g_ gT [0]) (hm.xp AT re [0]) (hm.ip zL [0]) (hm.xp Eb tL [0]) (hm.oa 6 MN (fun e=>(Eh e).1) [0]) ae3) ?_))))
        rintro w v w' hm ⟨ail,Tx,Ty,ae4,_,rfl,ae5,rfl,bn⟩
        obtain⟨ae6,Y3,ae7,OB⟩:=Mem.YF (T:=72) (bh:=af) (o1:=gL) (H7:=fQ) (H8:=a7) (o:=ail) (sp:=ae4) (xs:=bz.bp) (F:= [(wj,vA,a0.bp),(om,tc,aU)]) (o2:=MN) (Sh:=Oq) (LC:=(kI++([j5]:List ab))) (hm.aw [0] bn) 1 6 7 (by kernel_rfl) (by kernel_rfl) (by kernel_rfl) (by kernel_rfl) Hf rfl ae2 Eh rfl rfl ae5
        refine⟨_,Mem.pick OB (N:= [⟨some aH,153,[(vH bz.ff.ag),(.slice bL a0.ff.aa.length bQ),(.slice dI a0.ft.length eA),(vH bz.fc.bJ),(vH bz.fc.ba),(vH bz.fc.du),(.slice lT a0.fp.length nm),(.slice nu a0.b9.length p9),(vI bz.bA),(vI bz.gi),(.bool bz.ez),(.slice Tx bz.bp.length Ty),(vI bz.d_)]⟩,⟨ae6,72,row af bz.bp Y3⟩,⟨(some x_),36,row aj d1.1 []⟩,⟨some Gh,72,cY j5⟩,⟨(some DM),36,row aj mj.1 []⟩,⟨(some MM),72,row af ([j5]:List ab) []⟩,⟨none,0,[]⟩]) [0,1,2,3,4,5,6] (by kernel_rfl) (by kernel_rfl),kD [2,3,4] ?_⟩
        clear hm bn OB
        exact qz (qm ⟨bz.bp,bz.ff.ag,bz.fc.bJ,bz.fc.ba,bz.fc.du,bz.bA,bz.gi,bz.ez,bz.d_,ae6,Tx,Ty,Y3,bz.bp.length⟩ ⟨h,rfl,ae7⟩ [0,1,2,3,4])
      ·rintro⟨lu,tK,ka,j_,vb,ol,vc,Ea,mC,ux,zj,nL,sD,PO⟩ ⟨h,rfl,Y4⟩
       unfold Fh.Az at h
       refine aP (cT [0,0,0,0] (qi h (fun h=> ?_) (fun h=> ?_)))
       ·refine aI (cg (aT (c_ (.inl (⟨(⟨tK,a0.ff.aa⟩:ae),a0.ft,(⟨ka,j_,vb⟩:aQ),a0.fp,a0.b9,ol,vc,Ea,lu,mC⟩:cz)) (sj h) (fun aim=> ?_))))
        subst aim
        refine cg (aT ?_)
        obtain rfl:=si Tr
        exact qr [] (fun w hm=>⟨ux,zj,nL,sD,lu.length,rfl,Y4,rfl,hm.pk [0,1]⟩)
       ·exact bV (nT (cH [0,0] (qe (qb (lu,tK,ka,j_,vb,ol,vc,Ea,mC,(au (fL+1))) ⟨ux,zj,nL,sD,lu.length⟩ h ⟨rfl,Y4⟩ [0,1,2]))))
   ·exact lX (.inr (a7,cS,ew,dW,eE,fR,gr,ja,cK)) h (fun e=>by subst e;exact bo (qm ⟨a7,cS,ew,dW,eE,fR,gr,ja,cK,gL,rH,bP,fQ,a7.length⟩ ⟨Tr,rfl,Hf⟩ [0,1,2]))
  ·rintro⟨nZ,gw,sy,ME,zh,MF,MG,MH,MI,Bg,Bh,oW,rp,Bi⟩ ⟨h,rfl,ae8⟩
   unfold Fh.vK at h
   refine gn ?_
   obtain rfl:=si h
   exact qr [] (fun w hm=>⟨Bg,Bh,oW,rp,nZ.length,rfl,ae8,rfl,hm.pk [0,1]⟩)
theorem Fh.jW(fu:Nat):∀(a0:cz) (d1:av 96 Int) (aU:List ab) (e_:Int) (w:World) (r:cz) {bL:Option Addr} {bG:Nat} (bQ:Nat) (dL:Rw w bL 2 ay a0.ff.aa) (dU:a0.ff.aa.length=bG) {dI:Option Addr} {db:Nat} (eA:Nat) (g_:Rw w dI 2 aF a0.ft) (ga:a0.ft.length=db) {lT:Option Addr} {mJ:Nat} (nm:Nat) {kK:List Hd} (AT:Rw w lT 1 dZ kK) (A8:a0.fp.length=mJ) {nu:Option Addr} {nK:Nat} (p9:Nat) (Eb:Rw w nu 1 aG a0.b9) (Ec:a0.b9.length=nK) {wj:Option Addr} {sA:Nat} (vA:Nat) (Ed:a0.bp.length=sA) {om:Option Addr} {sC:Nat} (tc:Nat) (MJ:Rw w om 4 af aU) (Ee:aU.length=sC) (aH:Nat) (fG:Mem w (bs [some aH]) [⟨some aH,153,[(vH a0.ff.ag),(.slice bL bG bQ),(.slice dI db eA),(vH a0.fc.bJ),(vH a0.fc.ba),(vH a0.fc.du),(.slice lT mJ nm),(.slice nu nK p9),(vI a0.bA),(vI a0.gi),(.bool a0.ez),(.slice wj sA vA),(vI a0.d_)]⟩] w) (eL:a0.ff.aa≠ []→aB bL∉bs [some aH]) (gT:a0.ft≠ []→aB dI∉bs [some aH]) (re:kK≠ []→aB lT∉bs [some aH]) (zL:r8 w (bs [some aH]) 4 af kK a0.fp) (tL:a0.b9≠ []→aB nu∉bs [some aH]) (zi:aU≠ []→aB om∉bs [some aH]) (h:Fh.fW fu a0 d1 aU e_=some r),
   Cr 98 #[(vP aH),(.agg (row aj d1.1 []).toArray),(.slice om sC tc),(vI e_)] w fun v w'=>∃(lo:Option Nat) (la:Option Addr) (lc:Nat) (vy:List Value) (ln:Nat),r.bp.length=ln∧yo lo la lc vy ln r.bp 4 [(wj,vA,a0.bp),(om,tc,aU)]∧v= .tuple #[]∧Mem w (bs [some aH]) [⟨some aH,153,[(vH r.ff.ag),(.slice bL bG bQ),(.slice dI db eA),(vH r.fc.bJ),(vH r.fc.ba),(vH r.fc.du),(.slice lT mJ nm),(.slice nu nK p9),(vI r.bA),(vI r.gi),(.bool r.ez),(.slice la ln lc),(vI r.d_)]⟩,⟨lo,72,row af r.bp vy⟩] w':=by
 induction fu with
 | zero=>intros;rename_i h;cases h
 | succ fu ih=>exact @Fh.iS _ (Fh.fW fu) @ih
theorem Fh.c(a0:cz)(d1:av 96 Int)(aU:List ab)(e_:Int)(w:World)(r:cz){bL:Option Addr}{bG:Nat}(bQ:Nat)(dL:Rw w bL 2 ay a0.ff.aa)(dU:a0.ff.aa.length=bG){dI:Option Addr}{db:Nat}(eA:Nat)(g_:Rw w dI 2 aF a0.ft)(ga:a0.ft.length=db){lT:Option Addr}{mJ:Nat}(nm:Nat){kK:List Hd}(AT:Rw w lT 1 dZ kK)(A8:a0.fp.length=mJ){nu:Option Addr}{nK:Nat}(p9:Nat)(Eb:Rw w nu 1 aG a0.b9)(Ec:a0.b9.length=nK){wj:Option Addr}{sA:Nat}(vA:Nat)(Ed:a0.bp.length=sA){om:Option Addr}{sC:Nat}(tc:Nat)(MJ:Rw w om 4 af aU)(Ee:aU.length=sC)(aH:Nat)(fG:Mem w (bs [some aH]) [⟨some aH,153,[(vH a0.ff.ag),(.slice bL bG bQ),(.slice dI db eA),(vH a0.fc.bJ),(vH a0.fc.ba),(vH a0.fc.du),(.slice lT mJ nm),(.slice nu nK p9),(vI a0.bA),(vI a0.gi),(.bool a0.ez),(.slice wj sA vA),(vI a0.d_)]⟩] w)(eL:a0.ff.aa≠ []→aB bL∉bs [some aH])(gT:a0.ft≠ []→aB dI∉bs [some aH])(re:kK≠ []→aB lT∉bs [some aH])(zL:r8 w (bs [some aH]) 4 af kK a0.fp)(tL:a0.b9≠ []→aB nu∉bs [some aH])(zi:aU≠ []→aB om∉bs [some aH])(h:Fh a0 d1 aU e_=some r):
   Calls Tryz.prog 98 #[(vP aH),(.agg (row aj d1.1 []).toArray),(.slice om sC tc),(vI e_)] w fun e w'=>∃v,e= .returned v∧(∃(lo:Option Nat) (la:Option Addr) (lc:Nat) (vy:List Value) (ln:Nat),r.bp.length=ln∧yo lo la lc vy ln r.bp 4 [(wj,vA,a0.bp),(om,tc,aU)]∧v= .tuple #[]∧Mem w (bs [some aH]) [⟨some aH,153,[(vH r.ff.ag),(.slice bL bG bQ),(.slice dI db eA),(vH r.fc.bJ),(vH r.fc.ba),(vH r.fc.du),(.slice lT mJ nm),(.slice nu nK p9),(vI r.bA),(vI r.gi),(.bool r.ez),(.slice la ln lc),(vI r.d_)]⟩,⟨lo,72,row af r.bp vy⟩] w'):=
 Fh.jW 200 a0 d1 aU e_ w r bQ dL dU eA g_ ga nm AT A8 p9 Eb Ec vA Ed tc MJ Ee aH fG eL gT re zL tL zi h
end
end Go.Proofs.YtplklknkkaeniaaGreat
