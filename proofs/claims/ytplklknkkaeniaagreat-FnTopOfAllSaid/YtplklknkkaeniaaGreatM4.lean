/- Functions of the program that the law reaches: a plain function each, and that the call comes to its answer if the plain function has one. Printed by a program. -/
import Derived.Test.YtplklknkkaeniaaGreatT
import Derived.Test.YtplklknkkaeniaaGreatTab
import Derived.Test.YtplklknkkaeniaaGreatM0
import Derived.Test.YtplklknkkaeniaaGreatM1
import Derived.Test.YtplklknkkaeniaaGreatM3
namespace Go.Proofs.YtplklknkkaeniaaGreat
open Eng
set_option linter.unusedVariables false
set_option linter.unusedSectionVars false
set_option maxRecDepth 100000
variable [gj:wu]
noncomputable section
def Ii.po(f0:ae)(t1:List ai)(c2:aQ)(cO:Int)(bz:(List Int))(o5:List (List ab)):Option ((List ab)×Int×Int):=(Fh (⟨f0,t1,c2,o5,bz,cO,0,false,([]:List ab),(-1)⟩:cz) (av.dC 96 0) [] 0).bind fun aA=>(if aA.ez=true then some ([],0,7) else some (aA.bp,aA.d_,0))
def Ii.ko(f0:ae)(t1:List ai)(c2:aQ):((List (List ab))×Int)→Option (((List (List ab))×Int)⊕((List (List ab))))
 | (nM,fC)=>(if(decide (fC<(t1.length:Int)))=true then(ix t1 fC).bind fun jZ=>(Fm f0 jZ).bind fun iq=>(FG iq c2).bind fun lD=>(if nM.length+1≤4294967296 then some (.inl ((nM++ [lD]),(au (fC+1)))) else none) else some (.inr nM))
def Ii(f0:ae)(t1:List ai)(c2:aQ)(cO:Int):Option ((List ab)×Int×Int):=(FbA f0 t1 c2).bind fun dz=>(FB cO 0 20000).bind fun jU=>(FI jU 2).bind fun kY=>(Fe ([dz,kY]:List Int)).bind fun uy=>(if(uy !=0)=true then some ([],0,uy) else(I8 f0 t1 c2).bind fun bz=>(loop (Ii.ko f0 t1 c2) (([]:List (List ab)),0)).bind fun A6=>Ii.po f0 t1 c2 cO bz A6)
theorem Ii.c(f0:ae)(t1:List ai)(c2:aQ)(cO:Int)(w:World)(r:(List ab)×Int×Int){bj:Option Addr}{bm:Nat}(bi:Nat)(dr:Rw w bj 2 ay f0.aa)(cE:f0.aa.length=bm){bL:Option Addr}{bG:Nat}(bQ:Nat)(dL:Rw w bL 2 aF t1)(dU:t1.length=bG)(h:Ii f0 t1 c2 cO=some r):
   Cr 41 #[(.agg #[(vH f0.ag),(.slice bj bm bi)]),(.slice bL bG bQ),(.agg (aC c2)),(vI cO)] w fun v w'=>∃(o0:Option Nat) (c0:Nat) (s0:List Value) (n0:Nat),r.1.length=n0∧(hS o0 n0 c0 s0 4)∧(hO o0 r.1 c0)∧v= .tuple #[.slice (mB o0) n0 c0,(vI r.2.1),(vI r.2.2)]∧Mem w [] [⟨o0,72,row af r.1 s0⟩] w':=by
 subst cE dU
 rw [Ii] at h
 refine en Tryz.func41 rfl Tryz.ntmps41 (ad (ao (oA 0 (fun gC=>oA 0 (fun rO=>qh [0,0,0] (eT (ad (cR [0,0,1] (bE h fun dz mF h=>oQ 0 (fun w hm=>FbA.c f0 t1 c2 w _ bi (hm.xr dr) rfl bQ (hm.xr dL) rfl mF) (qh [0] (bE h fun jU qO h=>oQ 0 (fun w hm=>FB.c cO 0 20000 w _ qO) (bE h fun kY ug h=>oQ 0 (fun w hm=>FI.c jU 2 w _ ug) (oA 0 (fun A3=>bE h fun uy mH h=>oQ 0 (fun w hm=>Fe.c ([dz,kY]:List Int) w _ 2 (hm.ow 2 (some A3) 2 ([dz,kY]:List Int) [] (fun e=>nomatch e) bf) rfl mH) (qh [0] (eT (cT [0,0] (qi h (fun h=> ?_) (fun h=> ?_)))))))))))))))))))
 ·refine cT [0,0,0,0] (rX ?_)
  obtain rfl:=si h
  exact lg 72 af (qr [] (fun w hm=>⟨none,0,[],0,rfl,(fun e=>absurd rfl e),(fun _=>⟨rfl,rfl⟩),rfl,hm.pk [3]⟩))
 ·refine kT (ad (qg [⟨some gC,29,cF f0 bj bi⟩,⟨some rO,46,cC c2⟩,⟨(some A3),2,row aG ([dz,kY]:List Int) []⟩] 11 (qd [⟨0,0,0⟩,⟨1,0,0⟩,⟨2,1,0⟩,⟨3,0,0⟩,⟨4,0,0⟩,⟨5,1,0⟩,⟨7,0,0⟩] 4 [0,1,2] (bE h fun bz JF h=>tD 6 (pc 0 (fun w hm=>I8.c f0 t1 c2 w _ bi (hm.xr dr) rfl bQ (hm.xr dL) rfl JF) ?_)))))
  rintro w v w' hm ⟨j8,rh,sE,_,rfl,adz,z8,rfl,bn⟩
  refine aq hm bn (kD [0,1,2] (qd [⟨8,0,0⟩] 2 [0,1,2] (tD 9 (qa 0 (fun vW=>DC 42 dZ (Ba af (kD [0,1,2] (qd [⟨10,0,0⟩] 0 [0,1,2] (zT (ad (cT [0,0,0] (aK (fun(j:(List (List ab))×(List Hd)×(Option Nat)×Nat×(List Value)×Nat)=>match j with | ⟨o5,kP,nh,cu,fM,jY⟩=>Ii.po f0 t1 c2 cO bz o5=some r∧(kP.length=jY)∧(hS nh jY cu fM 1)∧(hO nh kP cu)∧(ph kP o5)) (fun⟨o5,kP,nh,cu,fM,jY⟩=> [(8,[],(.slice none 0 0)),(9,[],(vI 0)),(10,[],(vI 0)),(12,[],(vP vW))]) (fun⟨o5,kP,nh,cu,fM,jY⟩=> [⟨some gC,29,cF f0 bj bi⟩,⟨some rO,46,cC c2⟩,⟨(some A3),2,row aG ([dz,kY]:List Int) []⟩,⟨j8,2,row aG bz sE⟩,⟨some vW,153,[(vH f0.ag),(.slice bj f0.aa.length bi),(.slice bL t1.length bQ),(vH c2.bJ),(vH c2.ba),(vH c2.du),(.slice (mB nh) jY cu),(.slice (mB j8) bz.length rh),(vI cO),(vI 0),(.bool false),(.slice none 0 0),(vI (-1))]⟩,⟨nh,42,row dZ kP fM⟩,⟨none,kR,fJ af kP o5⟩]) ?_ ?_))))))))))))
  ·refine ap ?_
   obtain⟨A6,oT,J_⟩:=bd h
   refine jl (fun(s:(List (List ab))×Int) (x:(List Hd)×(Option Nat)×Nat×(List Value)×Nat)=>match s,x with | ⟨nM,fC⟩,⟨zk,kp,ec,hQ,lp⟩=>(zk.length=lp)∧(hS kp lp ec hQ 1)∧(hO kp zk ec)∧(ph zk nM)) (fun⟨nM,fC⟩ ⟨zk,kp,ec,hQ,lp⟩=> [(4,[],(vP gC)),(6,[],(vP rO)),(8,[],(.slice none 0 0)),(9,[],(vI 0)),(10,[],(vI 0)),(12,[],(vP vW)),(38,[],(.slice bL t1.length bQ)),(39,[],(vI (t1.length:Int))),(40,[],(vI fC))]) (fun⟨nM,fC⟩ ⟨zk,kp,ec,hQ,lp⟩=> [⟨some gC,29,cF f0 bj bi⟩,⟨some rO,46,cC c2⟩,⟨(some A3),2,row aG ([dz,kY]:List Int) []⟩,⟨j8,2,row aG bz sE⟩,⟨some vW,153,[(vH f0.ag),(.slice bj f0.aa.length bi),(.slice bL t1.length bQ),(vH c2.bJ),(vH c2.ba),(vH c2.du),(.slice (mB kp) lp ec),(.slice (mB j8) bz.length rh),(vI cO),(vI 0),(.bool false),(.slice none 0 0),(vI (-1))]⟩,⟨kp,42,row dZ zk hQ⟩,⟨none,kR,fJ af zk nM⟩]) oT ⟨([]:List Hd),(none:Option Nat),0,[],0⟩ ⟨rfl,(fun e=>absurd rfl e),(fun _=>⟨rfl,rfl⟩),ph.nil⟩ [0,1,2,3,4,5,6] ?_
   rintro⟨nM,fC⟩ ⟨zk,kp,ec,hQ,lp⟩ ahV ⟨rfl,Ap,Aq,Ij⟩ h
   rw [Ii.ko] at h
   refine cT [0] (ad (qi h (fun h=> ?_) (fun h=> ?_)))
   ·refine kT (ad (ap (ad (ao (bE h fun jZ wP h=>oX 0 bL 2 wP rfl (dL.sp wP) (oL 0 true (fun w hm=>((hm.xr dL).at wP)) (oA 0 (fun aa8=>oS 0 [7] (eT (cR [0,7] (bE h fun iq JG h=>oC 0 (fun w hm=>Fm.c f0 jZ w _ bi (hm.xr dr) rfl JG) ?_)))))))))))
    rintro w v w' hm ⟨pt,fU,jz,_,rfl,Am,Dv,rfl,bn⟩
    refine aq hm bn (oH [0] (eT (cR [0,0] (bE h fun lD DI h=>oC 0 (fun w hm=>FG.c iq c2 w _ pt rfl Am Dv rO (hm.ps (N:= [⟨pt,72,row af iq jz⟩,⟨some rO,46,cC c2⟩]) [8,1]) DI) ?_))))
    rintro w v w' hm ⟨Tp,D',rfl,bn⟩
    refine ⟨_,hm.aW [(8,⟨pt,72,row af lD jz⟩),(1,⟨some rO,46,cC c2⟩)] [] bn,fB (eT (cH [0,0,0,0,4,0] (oA 0 (fun Ka=>?_))))⟩
    obtain⟨ae9,h⟩:=gd h
    exact tO (pA 0 5 kp 42 zk.length 1 ec 1 24 (sB Ka) dZ zk [(Hd.mk (mB pt) iq.length fU)] hQ (.slice none 0 0) rfl rfl fe nI Ap Aq (fun w hm=>(hm.ow 9 (some Ka) 42 ([(Hd.mk (mB pt) iq.length fU)]) [] (fun e=>nomatch e) fe)) (y_ Ij ae9) (fun aio Ei KK Tz Ke=>A' (bh:=af) (hs:=zk) (iG:=nM) (o:=pt) (T:=72) (xs:=lD) (sp:=jz) 6 8 iq.length fU Ij (oH [0,0] (oS 0 [4] (qe (nT (cH [0,0] (qe (qb ((nM++ [lD]),(au (fC+1))) ⟨(zk++ [(Hd.mk (mB pt) iq.length fU)]),aio,Ei,KK,(zk++ [(Hd.mk (mB pt) iq.length fU)]).length⟩ h ⟨rfl,Tz,Ke,(Ij.snoc (o:=pt) Tp (fun e=>(D' e).1))⟩ [0,1,2,3,4,5,6])))))))))
   ·exact lX nM h (fun e=>by subst e;exact bo (qm ⟨nM,zk,kp,ec,hQ,zk.length⟩ ⟨J_,rfl,Ap,Aq,Ij⟩ [0,1,2,3,4,5,6]))
  ·rintro⟨o5,kP,nh,cu,fM,jY⟩ ⟨h,rfl,ajB,vq,TA⟩
   unfold Ii.po at h
   refine aP (cR [0,0] (bE h fun aA R7 h=>tO (C6 72 af (pc 0 (fun w hm=>Fh.c (⟨f0,t1,c2,o5,bz,cO,0,false,([]:List ab),(-1)⟩:cz) (av.dC 96 0) [] 0 w _ bi (hm.xr dr) rfl bQ (hm.xr dL) rfl cu (hm.ow 5 nh 42 kP fM (fun e=>(vq e).1) fe) (TA.1.symm.trans rfl) rh (hm.ow 3 j8 2 bz sE (fun e=>(z8 e).1) bf) rfl 0 rfl 0 Rw.nil rfl vW (hm.ps (N:= [⟨some vW,153,[(vH f0.ag),(.slice bj f0.aa.length bi),(.slice bL t1.length bQ),(vH c2.bJ),(vH c2.ba),(vH c2.du),(.slice (mB nh) kP.length cu),(.slice (mB j8) bz.length rh),(vI cO),(vI 0),(.bool false),(.slice ((none:Option Nat).map fun b=>⟨b,0,none⟩) 0 0),(vI (-1))]⟩]) [4]) (hm.xp dr (fun _=>cq) [4]) (hm.xp dL (fun _=>cq) [4]) (hm.oa 5 nh (fun e=>(vq e).1) [4]) (hm.tq (N:= [⟨some vW,153,[(vH f0.ag),(.slice bj f0.aa.length bi),(.slice bL t1.length bQ),(vH c2.bJ),(vH c2.ba),(vH c2.du),(.slice (mB nh) kP.length cu),(.slice (mB j8) bz.length rh),(vI cO),(vI 0),(.bool false),(.slice ((none:Option Nat).map fun b=>⟨b,0,none⟩) 0 0),(vI (-1))]⟩]) 6 TA az [4]) (hm.oa 3 j8 (fun e=>(z8 e).1) [4]) (fun e=>absurd rfl e) R7) ?_))))
   rintro w v w' hm ⟨aaH,akh,li,Sy,_,rfl,afa,rfl,bn⟩
   obtain⟨tB,wF,afb,TB⟩:=Mem.ls2 (T:=72) (bh:=af) (o1:=(none:Option Nat)) (H7:= []) (H8:=([]:List ab)) (o:=aaH) (sp:=Sy) (xs:=aA.bp) (F:= []) (hm.aw [4] bn) 7 8 (by kernel_rfl) (by kernel_rfl) (by kernel_rfl) (lsO (fun e=>absurd rfl e) (fun _=>⟨rfl,rfl⟩)) rfl (.inr ⟨rfl,rfl,rfl⟩) rfl afa
   obtain⟨rfl,JZ,Dx⟩:=afb.own
   refine⟨_,Mem.pick TB (N:= [⟨some gC,29,cF f0 bj bi⟩,⟨some rO,46,cC c2⟩,⟨(some A3),2,row aG ([dz,kY]:List Int) []⟩,⟨j8,2,row aG bz sE⟩,⟨some vW,153,[(vH aA.ff.ag),(.slice bj f0.aa.length bi),(.slice bL t1.length bQ),(vH aA.fc.bJ),(vH aA.fc.ba),(vH aA.fc.du),(.slice (mB nh) kP.length cu),(.slice (mB j8) bz.length rh),(vI aA.bA),(vI aA.gi),(.bool aA.ez),(.slice (mB tB) aA.bp.length li),(vI aA.d_)]⟩,⟨nh,42,row dZ kP fM⟩,⟨none,kR,fJ af kP o5⟩,⟨tB,72,row af aA.bp wF⟩]) [0,1,2,3,4,5,6,7] (by kernel_rfl) (by kernel_rfl),fB ?_⟩
   clear hm bn TB
   refine eT (ad (cT [0,0,0,4] (qi h (fun h=> ?_) (fun h=> ?_))))
   ·refine cT [0,0,0] (rX ?_)
    obtain rfl:=si h
    exact lg 72 af (qr [] (fun w hm=>⟨none,0,[],0,rfl,(fun e=>absurd rfl e),(fun _=>⟨rfl,rfl⟩),rfl,hm.pk [8]⟩))
   ·refine kT (ad (qg [⟨some gC,29,cF f0 bj bi⟩,⟨some rO,46,cC c2⟩,⟨(some A3),2,row aG ([dz,kY]:List Int) []⟩,⟨j8,2,row aG bz sE⟩,⟨some vW,153,[(vH aA.ff.ag),(.slice bj f0.aa.length bi),(.slice bL t1.length bQ),(vH aA.fc.bJ),(vH aA.fc.ba),(vH aA.fc.du),(.slice (mB nh) kP.length cu),(.slice (mB j8) bz.length rh),(vI aA.bA),(vI aA.gi),(.bool aA.ez),(.slice (mB tB) aA.bp.length li),(vI aA.d_)]⟩,⟨nh,42,row dZ kP fM⟩,⟨none,kR,fJ af kP o5⟩,⟨tB,72,row af aA.bp wF⟩] 11 (qd [⟨0,0,0⟩,⟨1,0,0⟩,⟨2,0,0⟩,⟨3,4,0⟩,⟨4,0,0⟩,⟨5,0,0⟩,⟨6,0,0⟩,⟨7,4,0⟩,⟨8,0,0⟩,⟨9,0,0⟩,⟨10,0,0⟩] 0 [0,1,2,3,4,5,6,7] (qz (xR ?_)))))
    obtain rfl:=si h
    exact qr [] (fun w hm=>⟨tB,li,wF,aA.bp.length,rfl,JZ,Dx,rfl,hm.pk [7]⟩)
def Fb1(c0:aQ):Option (Bool):=(FD (au c0.bJ) 0 1000).bind fun bz=>(if bz=true then(FD (au c0.ba) 0 1000).bind fun aA=>(if aA=true then(FD (au c0.du) 0 1000).bind fun dj=>some dj else some false) else some false)
theorem Fb1.c(c0:aQ)(w:World)(r:Bool)(h:Fb1 c0=some r):
   Cq 189 #[(.agg (aC c0))] w (.bool r) [] []:=by
 rw [Fb1] at h
 refine en Tryz.func189 rfl Tryz.ntmps189 (ad (ao (oA 0 (fun fa=>qh [0] (eT (cR [0,0,0] (bE h fun bz gv h=>oQ 0 (fun w hm=>FD.c (au c0.bJ) 0 1000 w _ gv) (qf [(0,0),(0,1),(0,1),(0,1)] (qp 7 h (fun h=> ?_) (fun h=> ?_))))))))))
 ·refine bE h fun aA jP h=>oQ 2 (fun w hm=>FD.c (au c0.ba) 0 1000 w _ jP) (qf [(0,4),(0,0),(0,1),(0,1),(0,1)] (qp 13 h (fun h=> ?_) (fun h=> ?_)))
  ·refine bE h fun dj jD h=>oQ 2 (fun w hm=>FD.c (au c0.du) 0 1000 w _ jD) (qf [(0,4),(0,0)] (eT (aI ?_)))
   cases h
   exact qP []
  ·refine qf [(0,3),(0,5),(0,0)] (eT (aI ?_))
   cases h
   exact qP []
 ·refine qf [(0,3),(0,5),(0,0),(0,3),(0,3),(0,3),(0,3),(0,5),(0,0)] (eT (aI ?_))
  cases h
  exact qP []
def OC.fk(yW:Bool):Option (Int):=(if yW=true then some 1 else some 0)
def OC(f0:ae)(t1:List ai)(c2:aQ):Option (Int):=(FC f0).bind fun dj=>(if(!dj)=true then OC.fk true else(yV t1).bind fun dz=>(if(!dz)=true then OC.fk true else(Fb1 c2).bind fun bz=>OC.fk (!bz)))
theorem OC.c(f0:ae)(t1:List ai)(c2:aQ)(w:World)(r:Int){bj:Option Addr}{bm:Nat}(bi:Nat)(dr:Rw w bj 2 ay f0.aa)(cE:f0.aa.length=bm){bL:Option Addr}{bG:Nat}(bQ:Nat)(dL:Rw w bL 2 aF t1)(dU:t1.length=bG)(aH:Nat)(fG:Mem w (bs [some aH]) [⟨some aH,29,cG f0 bj bm bi⟩] w)(fx:f0.aa≠ []→aB bj∉bs [some aH])(eL:t1≠ []→aB bL∉bs [some aH])(h:OC f0 t1 c2=some r):
   Cq 155 #[(vP aH),(.slice bL bG bQ),(.agg (aC c2))] w (vI r) (bs [some aH]) [⟨some aH,29,cG f0 bj bm bi⟩]:=by
 subst cE dU
 rw [OC] at h
 refine eN Tryz.func155 rfl Tryz.ntmps155 fG (ad (ao (oA 0 (fun cD=>qh [0] (eT (s2 (aK (fun(yW:Bool)=>OC.fk yW=some r) (fun yW=> [(6,[],(vI 0)),(19,[],(.bool yW))]) (fun yW=> [⟨some aH,29,cF f0 bj bi⟩,⟨some cD,46,cC c2⟩]) ?_ ?_)))))))
 ·refine cH [0] (bE h fun dj jD h=>oC 0 (fun w hm=>FC.c f0 w _ bi (hm.aM dr fx) rfl aH (hm.ps [0]) (hm.xp dr fx [0]) jD) ?_)
  rintro w v w' hm ⟨rfl,bn⟩
  refine ⟨_,hm.aW [(0,⟨some aH,29,cF f0 bj bi⟩)] [] bn,fB (qf [(0,0),(0,0),(0,1)] (qp 10 h (fun h=> ?_) (fun h=> ?_)))⟩
  ·exact qf [(0,3),(0,3),(0,4),(0,0),(0,3),(0,3),(0,3),(0,4)] (qe (qm true h [0,1]))
  ·refine bE h fun dz jf h=>oQ 2 (fun w hm=>yV.c t1 w _ bQ (hm.aM dL eL) rfl jf) (qf [(0,2),(0,5),(0,0),(1,1)] (qp 15 h (fun h=> ?_) (fun h=> ?_)))
   ·exact qf [(0,3),(0,3),(0,4)] (qe (qm true h [0,1]))
   ·exact bE h fun bz km h=>oQ 2 (fun w hm=>Fb1.c c2 w _ km) (qf [(0,2),(0,5)] (qe (qm (!bz) h [0,1])))
 ·rintro yW h
  unfold OC.fk at h
  refine aP (qi h (fun h=> ?_) (fun h=> ?_))
  ·refine cT [0] (rX ?_)
   cases h
   exact qP [0]
  ·refine kT (cT [0] (aI ?_))
   cases h
   exact qP [0]
def FW.fk(a7:List Int):Option ((List Int)):=some a7
def FW.fY(sx:Int):((List Int)×Int)→Option (((List Int)×Int)⊕((List Int)))
 | (aL,aR)=>(if(decide (aR≤sx))=true then(if aL.length+([(w8 (0-aR)),aR]:List Int).length≤4294967296 then some (.inl ((aL++([(w8 (0-aR)),aR]:List Int)),(w8 (aR+1)))) else none) else some (.inr aL))
def FW(sx:Int):Option ((List Int)):=(loop (FW.fY sx) (([0]:List Int),1)).bind fun iq=>FW.fk iq
theorem FW.c(sx:Int)(w:World)(r:(List Int))(h:FW sx=some r):
   Cr 116 #[(vB sx)] w fun v w'=>∃(o0:Option Nat) (c0:Nat) (s0:List Value) (n0:Nat),r.length=n0∧(hS o0 n0 c0 s0 1)∧(hO o0 r c0)∧v= .slice (mB o0) n0 c0∧Mem w [] [⟨o0,66,row f_ r s0⟩] w':=by
 rw [FW] at h
 refine en Tryz.func116 rfl Tryz.ntmps116 (cT [0] (ad (ao (oA 0 (fun fV=>qh [0] (eT (ad (cT [0] (aK (fun(j:(List Int)×(Option Nat)×Nat×(List Value)×Nat)=>match j with | ⟨a7,nh,gK,ji,PL⟩=>FW.fk a7=some r∧(a7.length=PL)∧(hS nh PL gK ji 1)∧(hO nh a7 gK)) (fun⟨a7,nh,gK,ji,PL⟩=> [(2,[],(.slice none 0 0)),(3,[],(.slice (mB nh) PL gK))]) (fun⟨a7,nh,gK,ji,PL⟩=> [⟨nh,66,row f_ a7 ji⟩]) ?_ ?_)))))))))
 ·refine ap ?_
  obtain⟨iq,nx,Ku⟩:=bd h
  refine jl (fun(s:(List Int)×Int) (x:(Option Nat)×Nat×(List Value)×Nat)=>match s,x with | ⟨aL,aR⟩,⟨kM,fH,rJ,um⟩=>(aL.length=um)∧(hS kM um fH rJ 1)∧(hO kM aL fH)) (fun⟨aL,aR⟩ ⟨kM,fH,rJ,um⟩=> [(0,[],(vB sx)),(2,[],(.slice none 0 0)),(3,[],(.slice (mB kM) um fH)),(4,[],(vB aR))]) (fun⟨aL,aR⟩ ⟨kM,fH,rJ,um⟩=> [⟨kM,66,row f_ aL rJ⟩]) nx ⟨(some fV),1,[],1⟩ ⟨rfl,(fun _=>⟨bt _,by simp⟩),(fun e=>nomatch e)⟩ [0] ?_
  rintro⟨aL,aR⟩ ⟨kM,fH,rJ,um⟩ aaT ⟨rfl,vw,kU⟩ h
  rw [FW.fY] at h
  refine ad (cT [0,0,0] (qi h (fun h=> ?_) (fun h=> ?_)))
  ·refine kT (ad (ap (cH [0,0,0,0] (oA 0 (fun pU=>?_)))))
   obtain⟨Di,h⟩:=gd h
   exact tO (pA 0 0 kM 66 aL.length 2 fH 1 1 (sB pU) f_ aL ([(w8 (0-aR)),aR]:List Int) rJ (vB 0) rfl rfl jy yS vw kU (fun w hm=>(hm.ow 1 (some pU) 66 ([(w8 (0-aR)),aR]:List Int) [] (fun e=>nomatch e) jy)) Di (fun kJ ec ig BZ wZ=>oH [0] (qe (nT (cH [0,0,0] (qe (qb ((aL++([(w8 (0-aR)),aR]:List Int)),(w8 (aR+1))) ⟨kJ,ec,ig,(aL++([(w8 (0-aR)),aR]:List Int)).length⟩ h ⟨rfl,BZ,wZ⟩ [0])))))))
  ·exact lX aL h (fun e=>by subst e;exact bo (qm ⟨aL,kM,fH,rJ,aL.length⟩ ⟨Ku,rfl,vw,kU⟩ [0]))
 ·rintro⟨a7,nh,gK,ji,PL⟩ ⟨h,rfl,SZ,J8⟩
  unfold FW.fk at h
  refine aP (cT [0,0] (aI ?_))
  obtain rfl:=si h
  exact qr [] (fun w hm=>⟨nh,gK,ji,a7.length,rfl,SZ,J8,rfl,hm.pk [0]⟩)
def FA.ki(eH:List ab):Option ((List ab)):=(if eH.length+([(⟨true,0,0,0⟩:ab)]:List ab).length≤4294967296 then some (eH++([(⟨true,0,0,0⟩:ab)]:List ab)) else none)
def FA.vK(bB:Int)(fX:List ab):Option (((List ab)×Int)⊕((List ab))):=some (.inl (fX,(au (bB+1))))
def FA.Ie(cK:Int)(jI:List ab):Option (((List ab)×Int)⊕((List ab))):=some (.inl (jI,(au (cK+1))))
def FA.j4(f0:ae)(n1:ai)(aA:(List Int))(dj:(List Int))(bB:Int)(cK:Int):((List ab)×Int)→Option (((List ab)×Int)⊕((List ab)))
 | (dc,gr)=>(if(decide (gr<(f0.aa.length:Int)))=true then(ix f0.aa gr).bind fun afc=>(ix dj cK).bind fun TC=>(if(afc.aD==(w8 (n1.aD+(w8 (12*TC)))))=true then(ix aA bB).bind fun uo=>(ix dj cK).bind fun y8=>(if dc.length+([(⟨false,uo,y8,(w8 gr)⟩:ab)]:List ab).length≤4294967296 then some (.inl ((dc++([(⟨false,uo,y8,(w8 gr)⟩:ab)]:List ab)),(au (gr+1)))) else none) else some (.inl (dc,(au (gr+1))))) else some (.inr dc))
def FA.Ax(f0:ae)(n1:ai)(aA:(List Int))(dj:(List Int))(bB:Int):((List ab)×Int)→Option (((List ab)×Int)⊕((List ab)))
 | (iK,cK)=>(if(decide (cK<(dj.length:Int)))=true then(loop (FA.j4 f0 n1 aA dj bB cK) (iK,0)).bind fun Xo=>FA.Ie cK Xo else some (.inr iK))
def FA.PN(f0:ae)(n1:ai)(aA:(List Int))(dj:(List Int)):((List ab)×Int)→Option (((List ab)×Int)⊕((List ab)))
 | (b_,bB)=>(if(decide (bB<(aA.length:Int)))=true then(ix aA bB).bind fun D1=>(FD (au ((au n1.cd)+(au D1))) 0 (au ((au f0.ag)-1))).bind fun i_=>(if(!i_)=true then some (.inl (b_,(au (bB+1)))) else(loop (FA.Ax f0 n1 aA dj bB) (b_,0)).bind fun afd=>FA.vK bB afd) else some (.inr b_))
def FA(f0:ae)(n1:ai):Option ((List ab)):=(FW 3).bind fun aA=>(FW 1).bind fun dj=>(loop (FA.PN f0 n1 aA dj) (([]:List ab),0)).bind fun tE=>FA.ki tE
theorem FA.c(f0:ae)(n1:ai)(w:World)(r:(List ab)){bj:Option Addr}{bm:Nat}(bi:Nat)(dr:Rw w bj 2 ay f0.aa)(cE:f0.aa.length=bm)(aH:Nat)(fG:Mem w (bs [some aH]) [⟨some aH,29,cG f0 bj bm bi⟩] w)(fx:f0.aa≠ []→aB bj∉bs [some aH])(h:FA f0 n1=some r):
   Cr 59 #[(vP aH),(.agg (aN n1))] w fun v w'=>∃(o0:Option Nat) (c0:Nat) (s0:List Value) (n0:Nat),r.length=n0∧(hS o0 n0 c0 s0 4)∧(hO o0 r c0)∧v= .slice (mB o0) n0 c0∧Mem w (bs [some aH]) [⟨some aH,29,cG f0 bj bm bi⟩,⟨o0,72,row af r s0⟩] w':=by
 subst cE
 rw [FA] at h
 refine eN Tryz.func59 rfl Tryz.ntmps59 fG (ad (ao (oA 0 (fun cD=>qh [0] (eT (ad (ao (oA 0 (fun fV=>qh [0] (eT (ad (ao (bE h fun aA mF h=>oC 0 (fun w hm=>FW.c 3 w _ mF) ?_)))))))))))))
 rintro w v w' hm ⟨gI,l_,vX,_,rfl,ajC,iz,rfl,bn⟩
 refine aq hm bn (oH [0] (eT (ad (ao (bE h fun dj oT h=>oC 0 (fun w hm=>FW.c 1 w _ oT) ?_)))))
 rintro w v w' hm ⟨gp,iU,dK,_,rfl,afe,ri,rfl,bn⟩
 refine aq hm bn (oH [0] (eT (ad (cT [0] (aK (fun(j:(List ab)×(Option Nat)×Nat×(List Value)×Nat)=>match j with | ⟨eH,lY,h_,rr,uD⟩=>FA.ki eH=some r∧(eH.length=uD)∧(hS lY uD h_ rr 4)∧(hO lY eH h_)) (fun⟨eH,lY,h_,rr,uD⟩=> [(4,[],(.slice none 0 0)),(5,[],(.slice (mB lY) uD h_))]) (fun⟨eH,lY,h_,rr,uD⟩=> [⟨some aH,29,cF f0 bj bi⟩,⟨some cD,70,cN n1⟩,⟨lY,72,row af eH rr⟩,⟨gI,66,row f_ aA vX⟩,⟨gp,66,row f_ dj dK⟩]) ?_ ?_)))))
 ·refine ap ?_
  obtain⟨tE,TD,aff⟩:=bd h
  refine jl (fun(s:(List ab)×Int) (x:(Option Nat)×Nat×(List Value)×Nat)=>match s,x with | ⟨b_,bB⟩,⟨gS,fS,fQ,Bk⟩=>(b_.length=Bk)∧(hS gS Bk fS fQ 4)∧(hO gS b_ fS)) (fun⟨b_,bB⟩ ⟨gS,fS,fQ,Bk⟩=> [(0,[],(vP aH)),(3,[],(vP cD)),(4,[],(.slice none 0 0)),(5,[],(.slice (mB gS) Bk fS)),(6,[],(.slice (mB gI) aA.length l_)),(7,[],(.slice (mB gp) dj.length iU)),(8,[],(vI bB))]) (fun⟨b_,bB⟩ ⟨gS,fS,fQ,Bk⟩=> [⟨some aH,29,cF f0 bj bi⟩,⟨some cD,70,cN n1⟩,⟨gS,72,row af b_ fQ⟩,⟨gI,66,row f_ aA vX⟩,⟨gp,66,row f_ dj dK⟩]) TD ⟨(some fV),0,[],0⟩ ⟨rfl,(fun _=>⟨bt _,by simp⟩),(fun e=>nomatch e)⟩ [0,1,2,3,4] ?_
  rintro⟨b_,bB⟩ ⟨gS,fS,fQ,Bk⟩ WL ⟨rfl,zY,zZ⟩ h
  rw [FA.PN] at h
  refine ad (cT [0,0,0,0] (qi h (fun h=> ?_) (fun h=> ?_)))
  ·refine kT (ad (ap (s2 (qg [⟨some aH,29,cF f0 bj bi⟩,⟨some cD,70,cN n1⟩,⟨gS,72,row af b_ fQ⟩,⟨gI,66,row f_ aA vX⟩,⟨gp,66,row f_ dj dK⟩] 17 (qd [⟨0,0,0⟩,⟨1,1,0⟩,⟨2,0,0⟩,⟨3,0,0⟩,⟨4,0,0⟩,⟨9,0,0⟩,⟨10,0,0⟩,⟨11,0,0⟩,⟨12,0,0⟩,⟨13,0,0⟩,⟨14,0,0⟩] 6 [0,1,2,3,4] (bE h fun D1 yn h=>qX 5 0 [0,1,2,3,4] (mB gI) 1 yn rfl (nl iz yn) (qL 6 0 [0,1,2,3,4] false (aX 3 gI 66 aA vX iz jy yn) (qd [⟨7,0,0⟩,⟨8,0,0⟩] 2 [0,1,2,3,4] (bE h fun i_ J2 h=>dQ 15 0 (fun w hm=>FD.c (au ((au n1.cd)+(au D1))) 0 (au ((au f0.ag)-1)) w _ J2) [0,1,2,3,4] (qd [⟨16,0,0⟩] 0 [0,1,2,3,4] (zT (qi h (fun h=> ?_) (fun h=> ?_)))))))))))))
   ·exact lP (ib (bo (aP (cH [0,0,0] (qe (qb (b_,(au (bB+1))) ⟨gS,fS,fQ,b_.length⟩ h ⟨rfl,zY,zZ⟩ [0,1,2,3,4]))))))
   ·refine kT (cT [0] (aK (fun(j:(List ab)×(Option Nat)×Nat×(List Value)×Nat)=>match j with | ⟨fX,vY,kO,uF,uG⟩=>FA.vK bB fX=some WL∧(fX.length=uG)∧(hS vY uG kO uF 4)∧(hO vY fX kO)) (fun⟨fX,vY,kO,uF,uG⟩=> [(0,[],(vP aH)),(3,[],(vP cD)),(4,[],(.slice none 0 0)),(5,[],(.slice (mB vY) uG kO)),(6,[],(.slice (mB gI) aA.length l_)),(7,[],(.slice (mB gp) dj.length iU)),(8,[],(vI bB))]) (fun⟨fX,vY,kO,uF,uG⟩=> [⟨some aH,29,cF f0 bj bi⟩,⟨some cD,70,cN n1⟩,⟨vY,72,row af fX uF⟩,⟨gI,66,row f_ aA vX⟩,⟨gp,66,row f_ dj dK⟩]) ?_ ?_))
    ·refine ap ?_
     obtain⟨afd,Dy,TE⟩:=bd h
     refine jl (fun(s:(List ab)×Int) (x:(Option Nat)×Nat×(List Value)×Nat)=>match s,x with | ⟨iK,cK⟩,⟨kJ,iT,sF,Bf⟩=>(iK.length=Bf)∧(hS kJ Bf iT sF 4)∧(hO kJ iK iT)) (fun⟨iK,cK⟩ ⟨kJ,iT,sF,Bf⟩=> [(0,[],(vP aH)),(3,[],(vP cD)),(4,[],(.slice none 0 0)),(5,[],(.slice (mB kJ) Bf iT)),(6,[],(.slice (mB gI) aA.length l_)),(7,[],(.slice (mB gp) dj.length iU)),(8,[],(vI bB)),(9,[],(vI cK))]) (fun⟨iK,cK⟩ ⟨kJ,iT,sF,Bf⟩=> [⟨some aH,29,cF f0 bj bi⟩,⟨some cD,70,cN n1⟩,⟨kJ,72,row af iK sF⟩,⟨gI,66,row f_ aA vX⟩,⟨gp,66,row f_ dj dK⟩]) Dy ⟨gS,fS,fQ,b_.length⟩ ⟨rfl,zY,zZ⟩ [0,1,2,3,4] ?_
     rintro⟨iK,cK⟩ ⟨kJ,iT,sF,Bf⟩ aip ⟨rfl,G8,G9⟩ h
     rw [FA.Ax] at h
     refine ad (cT [0,0,0,0] (qi h (fun h=> ?_) (fun h=> ?_)))
     ·refine kT (ad (ap (cT [0] (aK (fun(j:(List ab)×(Option Nat)×Nat×(List Value)×Nat)=>match j with | ⟨jI,w_,zl,uH,uB⟩=>FA.Ie cK jI=some aip∧(jI.length=uB)∧(hS w_ uB zl uH 4)∧(hO w_ jI zl)) (fun⟨jI,w_,zl,uH,uB⟩=> [(0,[],(vP aH)),(3,[],(vP cD)),(4,[],(.slice none 0 0)),(5,[],(.slice (mB w_) uB zl)),(6,[],(.slice (mB gI) aA.length l_)),(7,[],(.slice (mB gp) dj.length iU)),(8,[],(vI bB)),(9,[],(vI cK))]) (fun⟨jI,w_,zl,uH,uB⟩=> [⟨some aH,29,cF f0 bj bi⟩,⟨some cD,70,cN n1⟩,⟨w_,72,row af jI uH⟩,⟨gI,66,row f_ aA vX⟩,⟨gp,66,row f_ dj dK⟩]) ?_ ?_))))
      ·refine ap ?_
       obtain⟨Xo,J0,afg⟩:=bd h
       refine jl (fun(s:(List ab)×Int) (x:(Option Nat)×Nat×(List Value)×Nat)=>match s,x with | ⟨dc,gr⟩,⟨gL,ec,ig,uC⟩=>(dc.length=uC)∧(hS gL uC ec ig 4)∧(hO gL dc ec)) (fun⟨dc,gr⟩ ⟨gL,ec,ig,uC⟩=> [(0,[],(vP aH)),(3,[],(vP cD)),(4,[],(.slice none 0 0)),(5,[],(.slice (mB gL) uC ec)),(6,[],(.slice (mB gI) aA.length l_)),(7,[],(.slice (mB gp) dj.length iU)),(8,[],(vI bB)),(9,[],(vI cK)),(10,[],(vI gr))]) (fun⟨dc,gr⟩ ⟨gL,ec,ig,uC⟩=> [⟨some aH,29,cF f0 bj bi⟩,⟨some cD,70,cN n1⟩,⟨gL,72,row af dc ig⟩,⟨gI,66,row f_ aA vX⟩,⟨gp,66,row f_ dj dK⟩]) J0 ⟨kJ,iT,sF,iK.length⟩ ⟨rfl,G8,G9⟩ [0,1,2,3,4] ?_
       rintro⟨dc,gr⟩ ⟨gL,ec,ig,uC⟩ aki ⟨rfl,DU,DV⟩ h
       rw [FA.j4] at h
       refine ad (cT [0,0,0,0,0,0,0] (qi h (fun h=> ?_) (fun h=> ?_)))
       ·refine kT (ad (ap (ad (qg [⟨some aH,29,cF f0 bj bi⟩,⟨some cD,70,cN n1⟩,⟨gL,72,row af dc ig⟩,⟨gI,66,row f_ aA vX⟩,⟨gp,66,row f_ dj dK⟩] 17 (qd [⟨0,0,0⟩,⟨1,0,0⟩,⟨2,0,0⟩,⟨3,0,0⟩,⟨4,0,0⟩,⟨8,0,0⟩,⟨9,1,0⟩,⟨10,0,0⟩,⟨11,0,0⟩] 8 [0,1,2,3,4] (bE h fun afc D2 h=>qX 5 0 [0,1,2,3,4] bj 2 D2 rfl (dr.sp D2) (qd [⟨6,0,0⟩] 6 [0,1,2,3,4] (qL 7 0 [0,1,2,3,4] false (fun w hm=>((hm.aM dr fx).at D2).sub 0 1) (bE h fun TC w6 h=>qX 12 0 [0,1,2,3,4] (mB gp) 1 w6 rfl (nl ri w6) (qL 13 0 [0,1,2,3,4] false (aX 4 gp 66 dj dK ri jy w6) (qd [⟨14,0,0⟩,⟨15,0,0⟩,⟨16,0,0⟩] 0 [0,1,2,3,4] (zT (qi h (fun h=> ?_) (fun h=> ?_))))))))))))))
        ·refine qg [⟨some aH,29,cF f0 bj bi⟩,⟨some cD,70,cN n1⟩,⟨gI,66,row f_ aA vX⟩,⟨gp,66,row f_ dj dK⟩] 15 (qd [⟨0,0,0⟩,⟨1,0,0⟩,⟨2,0,0⟩,⟨5,0,0⟩,⟨6,0,0⟩,⟨9,0,0⟩,⟨10,0,0⟩] 8 [0,1,3,4] (bE h fun uo D4 h=>qX 3 0 [0,1,3,4] (mB gI) 1 D4 rfl (nl iz D4) (qL 4 0 [0,1,3,4] false (aX 2 gI 66 aA vX iz jy D4) (bE h fun y8 D5 h=>qX 7 0 [0,1,3,4] (mB gp) 1 D5 rfl (nl ri D5) (qL 8 0 [0,1,3,4] false (aX 3 gp 66 dj dK ri jy D5) (qd [⟨11,0,0⟩] 3 [0,1,3,4] (tD 12 (qa 0 (fun afh=>kD [0,1,3,4] ?_)))))))))
         obtain⟨TF,h⟩:=gd h
         exact tD 13 (pA 0 2 gL 72 dc.length 1 ec 4 4 (sB afh) af dc ([(⟨false,uo,y8,(w8 gr)⟩:ab)]:List ab) ig (.agg #[(.bool false),(vB 0),(vB 0),(vB 0)]) rfl rfl az eI DU DV (fun w hm=>(hm.ow 5 (some afh) 72 ([(⟨false,uo,y8,(w8 gr)⟩:ab)]:List ab) [] (fun e=>nomatch e) az)) TF (fun PP MP TG TH Hg=>kD [0,1,3,4] (qd [⟨14,0,0⟩] 0 [0,1,3,4] (qz (nT (cH [0,0,0] (qe (qb ((dc++([(⟨false,uo,y8,(w8 gr)⟩:ab)]:List ab)),(au (gr+1))) ⟨PP,MP,TG,(dc++([(⟨false,uo,y8,(w8 gr)⟩:ab)]:List ab)).length⟩ h ⟨rfl,TH,Hg⟩ [0,1,2,3,4]))))))))
        ·exact bV (nT (cH [0,0,0] (qe (qb (dc,(au (gr+1))) ⟨gL,ec,ig,dc.length⟩ h ⟨rfl,DU,DV⟩ [0,1,2,3,4]))))
       ·exact lX dc h (fun e=>by subst e;exact bo (qm ⟨dc,gL,ec,ig,dc.length⟩ ⟨afg,rfl,DU,DV⟩ [0,1,2,3,4]))
      ·rintro⟨jI,w_,zl,uH,uB⟩ ⟨h,rfl,afi,D_⟩
       unfold FA.Ie at h
       exact nT (cH [0,0,0] (qe (qb (jI,(au (cK+1))) ⟨w_,zl,uH,jI.length⟩ h ⟨rfl,afi,D_⟩ [0,1,2,3,4])))
     ·exact lX iK h (fun e=>by subst e;exact bo (qm ⟨iK,kJ,iT,sF,iK.length⟩ ⟨TE,rfl,G8,G9⟩ [0,1,2,3,4]))
    ·rintro⟨fX,vY,kO,uF,uG⟩ ⟨h,rfl,S1,S2⟩
     unfold FA.vK at h
     exact nT (cH [0,0,0] (qe (qb (fX,(au (bB+1))) ⟨vY,kO,uF,fX.length⟩ h ⟨rfl,S1,S2⟩ [0,1,2,3,4])))
  ·exact lX b_ h (fun e=>by subst e;exact bo (qm ⟨b_,gS,fS,fQ,b_.length⟩ ⟨aff,rfl,zY,zZ⟩ [0,1,2,3,4]))
 ·rintro⟨eH,lY,h_,rr,uD⟩ ⟨h,rfl,S3,S4⟩
  unfold FA.ki at h
  refine aP (cR [0,0] (oA 0 (fun afj=>?_)))
  obtain⟨SH,h⟩:=gd h
  refine tO (pA 0 2 lY 72 eH.length 1 h_ 4 4 (sB afj) af eH ([(⟨true,0,0,0⟩:ab)]:List ab) rr (.agg #[(.bool false),(vB 0),(vB 0),(vB 0)]) rfl rfl az eI S3 S4 (fun w hm=>(hm.ow 5 (some afj) 72 ([(⟨true,0,0,0⟩:ab)]:List ab) [] (fun e=>nomatch e) az)) SH (fun aiq Ik afk S6 Kx=>oH [0] (eT (aI ?_))))
  obtain rfl:=si h
  exact qr [] (fun w hm=>⟨aiq,Ik,afk,((eH++([(⟨true,0,0,0⟩:ab)]:List ab)).length),rfl,S6,Kx,rfl,hm.pk [0,2]⟩)
def FR.ki(bB:Int):Option (Int):=some bB
def FR.fk(c0:aQ)(x1:ab)(aR:Int):Option (Int):=(if(x1.ba !=0)=true then FR.ki (au ((au ((au c0.du)*aR))+(au c0.ba))) else FR.ki (au ((au c0.du)*aR)))
def FR(c0:aQ)(x1:ab):Option (Int):=(if x1.bJ=true then some (au c0.bJ) else(if(decide ((au x1.cP)<0))=true then FR.fk c0 x1 (au (0-(au x1.cP))) else FR.fk c0 x1 (au x1.cP)))
theorem FR.c(c0:aQ)(x1:ab)(w:World)(r:Int)(h:FR c0 x1=some r):
   Cq 190 #[(.agg (aC c0)),(.agg (aY x1))] w (vI r) [] []:=by
 rw [FR] at h
 refine en Tryz.func190 rfl Tryz.ntmps190 (ad (ao (oA 0 (fun cD=>oA 0 (fun fV=>qh [0] (eT (ad (cT [0,1] (qi h (fun h=> ?_) (fun h=> ?_))))))))))
 ·refine cT [0,0,0,0] (rX ?_)
  cases h
  exact qP []
 ·refine kT (cT [0,1,0,0] (ad (aK (fun(aR:Int)=>FR.fk c0 x1 aR=some r) (fun aR=> [(2,[],(vP cD)),(3,[],(vP fV)),(4,[],(vI 0)),(5,[],(vI aR))]) (fun aR=> [⟨some cD,46,cC c0⟩,⟨some fV,72,cY x1⟩]) ?_ ?_)))
  ·refine cT [0,0] (qi h (fun h=> ?_) (fun h=> ?_))
   ·exact cH [0,0,0] (qe (qm (au (0-(au x1.cP))) h [0,1]))
   ·exact bV (qm (au x1.cP) h [0,1])
  ·rintro aR h
   unfold FR.fk at h
   refine aP (cT [0,0,0,0,0,0] (ad (aK (fun(bB:Int)=>FR.ki bB=some r) (fun bB=> [(4,[],(vI 0)),(6,[],(vI bB))]) (fun bB=> [⟨some cD,46,cC c0⟩,⟨some fV,72,cY x1⟩]) ?_ ?_)))
   ·refine cT [0,1,0] (qi h (fun h=> ?_) (fun h=> ?_))
    ·exact cH [0,0,0,0,0,0] (qe (qm (au ((au ((au c0.du)*aR))+(au c0.ba))) h [0,1]))
    ·exact bV (qm (au ((au c0.du)*aR)) h [0,1])
   ·rintro bB h
    unfold FR.ki at h
    refine aP (cT [0,0] (aI ?_))
    cases h
    exact qP []
def FN.nS(dc:List ab):Option ((List ab)):=some dc
def FN.og(bK:Int)(fX:List ab):Option (((List ab)×Int)⊕((List ab))):=some (.inl (fX,(au (bK+1))))
def FN.jX(c2:aQ):((List ab)×Int)→Option (((List ab)×Int)⊕((List ab)))
 | (aL,cK)=>(if(decide (cK>0))=true then(ix aL cK).bind fun jZ=>(ix aL (au (cK-1))).bind fun vR=>(FR c2 jZ).bind fun uJ=>(FR c2 vR).bind fun qQ=>(if(decide (uJ<qQ))=true then(ix aL cK).bind fun qS=>(ix aL (au (cK-1))).bind fun wh=>(ix aL cK).bind fun H3=>(ix (aL.set cK.toNat wh) (au (cK-1))).bind fun H4=>some (.inl (((aL.set cK.toNat wh).set (au (cK-1)).toNat qS),(au (cK-1)))) else some (.inr aL)) else some (.inr aL))
def FN.Df(c2:aQ)(eo:(List ab)):((List ab)×Int)→Option (((List ab)×Int)⊕((List ab)))
 | (aZ,bK)=>(if(decide (bK<(eo.length:Int)))=true then(loop (FN.jX c2) (aZ,bK)).bind fun lD=>FN.og bK lD else some (.inr aZ))
def FN(f0:ae)(n1:ai)(c2:aQ):Option ((List ab)):=(FA f0 n1).bind fun eo=>(loop (FN.Df c2 eo) (eo,1)).bind fun s8=>FN.nS s8
theorem FN.c(f0:ae)(n1:ai)(c2:aQ)(w:World)(r:(List ab)){bj:Option Addr}{bm:Nat}(bi:Nat)(dr:Rw w bj 2 ay f0.aa)(cE:f0.aa.length=bm)(aH:Nat)(fG:Mem w (bs [some aH]) [⟨some aH,29,cG f0 bj bm bi⟩] w)(fx:f0.aa≠ []→aB bj∉bs [some aH])(h:FN f0 n1 c2=some r):
   Cr 156 #[(vP aH),(.agg (aN n1)),(.agg (aC c2))] w fun v w'=>∃(o0:Option Nat) (c0:Nat) (s0:List Value) (n0:Nat),r.length=n0∧(hS o0 n0 c0 s0 4)∧(hO o0 r c0)∧v= .slice (mB o0) n0 c0∧Mem w (bs [some aH]) [⟨some aH,29,cG f0 bj bm bi⟩,⟨o0,72,row af r s0⟩] w':=by
 subst cE
 rw [FN] at h
 refine eN Tryz.func156 rfl Tryz.ntmps156 fG (ad (ao (oA 0 (fun gx=>oA 0 (fun qu=>qh [0] (eT (cR [0,1] (bE h fun eo afl h=>oC 0 (fun w hm=>FA.c f0 n1 w _ bi (hm.aM dr fx) rfl aH (hm.ps [0]) (hm.xp dr fx [0]) afl) ?_))))))))
 rintro w v w' hm ⟨rf,yl,ji,_,rfl,vw,JW,rfl,bn⟩
 refine ⟨_,hm.aW [(0,⟨some aH,29,cF f0 bj bi⟩)] [⟨rf,72,row af eo ji⟩] bn,oH [0] (eT (ad (cT [0] (aK (fun(dc:(List ab))=>FN.nS dc=some r∧(dc.length=eo.length)∧(hO rf dc yl)) (fun dc=> [(6,[],(.slice none 0 0)),(7,[],(.slice (mB rf) eo.length yl))]) (fun dc=> [⟨some aH,29,cF f0 bj bi⟩,⟨some gx,70,cN n1⟩,⟨some qu,46,cC c2⟩,⟨rf,72,row af dc ji⟩]) ?_ ?_))))⟩
 ·refine ap ?_
  obtain⟨s8,uw,DF⟩:=bd h
  refine jl (fun(s:(List ab)×Int) (x:Unit)=>match s,x with | ⟨aZ,bK⟩,_=>(aZ.length=eo.length)∧(hO rf aZ yl)) (fun⟨aZ,bK⟩ _=> [(5,[],(vP qu)),(6,[],(.slice none 0 0)),(7,[],(.slice (mB rf) eo.length yl)),(8,[],(vI bK))]) (fun⟨aZ,bK⟩ _=> [⟨some aH,29,cF f0 bj bi⟩,⟨some gx,70,cN n1⟩,⟨some qu,46,cC c2⟩,⟨rf,72,row af aZ ji⟩]) uw () ⟨rfl,JW⟩ [0,1,2,3] ?_
  rintro⟨aZ,bK⟩ _ RO ⟨Oz,iz⟩ h
  rw [FN.Df] at h
  refine ad (cT [0,0,0,0] (qi h (fun h=> ?_) (fun h=> ?_)))
  ·refine kT (ad (ap (cT [0,0] (aK (fun(fX:(List ab))=>FN.og bK fX=some RO∧(fX.length=eo.length)∧(hO rf fX yl)) (fun fX=> [(5,[],(vP qu)),(6,[],(.slice none 0 0)),(7,[],(.slice (mB rf) eo.length yl)),(8,[],(vI bK))]) (fun fX=> [⟨some aH,29,cF f0 bj bi⟩,⟨some gx,70,cN n1⟩,⟨some qu,46,cC c2⟩,⟨rf,72,row af fX ji⟩]) ?_ ?_))))
   ·refine ap ?_
    obtain⟨lD,Ao,Ek⟩:=bd h
    refine jl (fun(s:(List ab)×Int) (x:Unit)=>match s,x with | ⟨aL,cK⟩,_=>(aL.length=eo.length)∧(hO rf aL yl)) (fun⟨aL,cK⟩ _=> [(5,[],(vP qu)),(6,[],(.slice none 0 0)),(7,[],(.slice (mB rf) eo.length yl)),(8,[],(vI bK)),(9,[],(vI cK))]) (fun⟨aL,cK⟩ _=> [⟨some aH,29,cF f0 bj bi⟩,⟨some gx,70,cN n1⟩,⟨some qu,46,cC c2⟩,⟨rf,72,row af aL ji⟩]) Ao () ⟨Oz,iz⟩ [0,1,2,3] ?_
    rintro⟨aL,cK⟩ _ air ⟨AB,u7⟩ h
    rw [FN.jX] at h
    refine s2 (qg [⟨some aH,29,cF f0 bj bi⟩,⟨some gx,70,cN n1⟩,⟨some qu,46,cC c2⟩,⟨rf,72,row af aL ji⟩] 18 (qd [⟨0,0,0⟩,⟨1,0,0⟩,⟨2,0,0⟩,⟨3,2,1⟩,⟨4,0,1⟩,⟨5,0,1⟩,⟨9,2,1⟩,⟨10,0,1⟩,⟨11,0,1⟩,⟨12,0,1⟩] 8 [0,1,2,3] (js 23 (decide (cK>0)) (fun DZ=> ?_) (fun DZ=> ?_))))
    ·replace h:=yi DZ h
     refine bE h fun jZ nb h=>qX 6 2 [0,1,2,3] (mB rf) 4 nb AB (nl u7 nb) (qL 7 2 [0,1,2,3] true (aX 3 rf 72 aL ji u7 az nb) (bE h fun vR lG h=>qX 13 2 [0,1,2,3] (mB rf) 4 lG AB (nl u7 lG) (qL 14 2 [0,1,2,3] true (aX 3 rf 72 aL ji u7 az lG) (bE h fun uJ oO h=>dQ 8 2 (fun w hm=>FR.c c2 jZ w _ oO) [0,1,2,3] (bE h fun qQ C7 h=>dQ 15 2 (fun w hm=>FR.c c2 vR w _ C7) [0,1,2,3] (qd [⟨16,0,2⟩,⟨17,0,4⟩] 0 [0,1,2,3] (zT (qi h (fun h=> ?_) (fun h=> ?_)))))))))
     ·exact kT (ad (ap (cR [0,0] (bE h fun qS sq h=>oX 0 (mB rf) 4 sq AB (nl u7 sq) (oL 0 true (aX 3 rf 72 aL ji u7 az sq) (oA 0 (fun aa9=>oS 0 [4] (eT (cR [0,0,0,0,0] (bE h fun wh ss h=>oX 0 (mB rf) 4 ss AB (nl u7 ss) (oL 0 true (aX 3 rf 72 aL ji u7 az ss) (bE h fun H3 su h=>oX 0 (mB rf) 4 su AB (nl u7 su) (tO (pO 0 3 rf 72 af aL ji cK wh 4 0 (cY wh) (fun e=>(u7 e).1) az su (fB (eT (cH [0,0,0,4] (bE h fun H4 wS h=>oX 0 (mB rf) 4 wS (eJ.trans AB) (nl (fK u7) wS) (tO (pO 0 3 rf 72 af (aL.set cK.toNat wh) ji (au (cK-1)) qS 4 0 (cY qS) (fun e=>((fK u7) e).1) az wS (fB (qe (nT (cH [0,0,0] (qe (qb (((aL.set cK.toNat wh).set (au (cK-1)).toNat qS),(au (cK-1))) () h ⟨(eJ.trans (eJ.trans AB)),(fK (fK u7))⟩ [0,1,2,3]))))))))))))))))))))))))))
     ·exact lX aL h (fun e=>by subst e;exact bo (qm aL ⟨Ek,AB,u7⟩ [0,1,2,3]))
    ·replace h:=yj DZ h
     refine qd [⟨6,0,3⟩,⟨7,0,3⟩,⟨8,0,3⟩,⟨13,0,3⟩,⟨14,0,3⟩,⟨15,0,3⟩,⟨16,0,3⟩,⟨17,0,5⟩] 0 [0,1,2,3] (zT (jq false (fun Y5=>nomatch Y5) (fun Y5=>(lP (ib (wz aL (sj h) (fun ais=> ?_)))))))
     subst ais
     exact bo (qm aL ⟨Ek,AB,u7⟩ [0,1,2,3])
   ·rintro fX ⟨h,S_,yp⟩
    unfold FN.og at h
    exact nT (cH [0,0,0] (qe (qb (fX,(au (bK+1))) () h ⟨S_,yp⟩ [0,1,2,3])))
  ·exact lX aZ h (fun e=>by subst e;exact bo (qm aZ ⟨DF,Oz,iz⟩ [0,1,2,3]))
 ·rintro dc ⟨h,To,nW⟩
  unfold FN.nS at h
  refine aP (cT [0,0] (aI ?_))
  obtain rfl:=si h
  exact qr [] (fun w hm=>⟨rf,yl,ji,eo.length,To,vw,nW,rfl,hm.pk [0,3]⟩)
def KL.ue(aR:Int):Option (Int):=some aR
def KL.pH(c2:aQ)(bz:(List ab)):(Int×Int)→Option ((Int×Int)⊕(Int))
 | (bK,cK)=>(if(decide (cK<(bz.length:Int)))=true then(ix bz cK).bind fun yA=>(FR c2 yA).bind fun lE=>(Wv bK lE).bind fun eO=>some (.inl (eO,(au (cK+1)))) else some (.inr bK))
def KL(f0:ae)(n1:ai)(c2:aQ):Option (Int):=(FA f0 n1).bind fun bz=>(ix bz 0).bind fun pd=>(FR c2 pd).bind fun jU=>(loop (KL.pH c2 bz) (jU,1)).bind fun gu=>KL.ue gu
theorem KL.c(f0:ae)(n1:ai)(c2:aQ)(w:World)(r:Int){bj:Option Addr}{bm:Nat}(bi:Nat)(dr:Rw w bj 2 ay f0.aa)(cE:f0.aa.length=bm)(aH:Nat)(fG:Mem w (bs [some aH]) [⟨some aH,29,cG f0 bj bm bi⟩] w)(fx:f0.aa≠ []→aB bj∉bs [some aH])(h:KL f0 n1 c2=some r):
   Cq 191 #[(vP aH),(.agg (aN n1)),(.agg (aC c2))] w (vI r) (bs [some aH]) [⟨some aH,29,cG f0 bj bm bi⟩]:=by
 subst cE
 rw [KL] at h
 refine eN Tryz.func191 rfl Tryz.ntmps191 fG (ad (ao (oA 0 (fun fa=>oA 0 (fun gx=>qh [0] (eT (cR [0,1] (bE h fun bz iR h=>oC 0 (fun w hm=>FA.c f0 n1 w _ bi (hm.aM dr fx) rfl aH (hm.ps [0]) (hm.xp dr fx [0]) iR) ?_))))))))
 rintro w v w' hm ⟨rf,cu,Gi,_,rfl,akj,oV,rfl,bn⟩
 refine ⟨_,hm.aW [(0,⟨some aH,29,cF f0 bj bi⟩)] [⟨rf,72,row af bz Gi⟩] bn,oH [0] (eT (ad (qg [⟨some aH,29,cF f0 bj bi⟩,⟨some fa,70,cN n1⟩,⟨some gx,46,cC c2⟩,⟨rf,72,row af bz Gi⟩] 6 (qd [⟨0,2,0⟩,⟨1,0,0⟩] 4 [0,1,2,3] (bE h fun pd Gj h=>qX 2 0 [0,1,2,3] (mB rf) 4 Gj rfl (nl oV Gj) (qL 3 0 [0,1,2,3] true (aX 3 rf 72 bz Gi oV az Gj) (bE h fun jU km h=>dQ 4 0 (fun w hm=>FR.c c2 pd w _ km) [0,1,2,3] (qd [⟨5,0,0⟩] 0 [0,1,2,3] (zT (ad (cT [0] (aK (fun(aR:Int)=>KL.ue aR=some r) (fun aR=> [(6,[],(vI 0)),(8,[],(vI aR))]) (fun aR=> [⟨some aH,29,cF f0 bj bi⟩,⟨some fa,70,cN n1⟩,⟨some gx,46,cC c2⟩,⟨rf,72,row af bz Gi⟩]) ?_ ?_))))))))))))⟩
 ·refine ap ?_
  obtain⟨gu,wG,afm⟩:=bd h
  refine jl (fun(s:Int×Int) (x:Unit)=>match s,x with | ⟨bK,cK⟩,_=>True) (fun⟨bK,cK⟩ _=> [(5,[],(vP gx)),(6,[],(vI 0)),(7,[],(.slice (mB rf) bz.length cu)),(8,[],(vI bK)),(9,[],(vI cK))]) (fun⟨bK,cK⟩ _=> [⟨some aH,29,cF f0 bj bi⟩,⟨some fa,70,cN n1⟩,⟨some gx,46,cC c2⟩,⟨rf,72,row af bz Gi⟩]) wG () trivial [0,1,2,3] ?_
  rintro⟨bK,cK⟩ _ aah _ h
  rw [KL.pH] at h
  refine ad (cT [0,0,0,0] (qi h (fun h=> ?_) (fun h=> ?_)))
  ·exact kT (ad (ap (qg [⟨some aH,29,cF f0 bj bi⟩,⟨some fa,70,cN n1⟩,⟨some gx,46,cC c2⟩,⟨rf,72,row af bz Gi⟩] 9 (qd [⟨0,0,0⟩,⟨1,2,0⟩,⟨2,0,0⟩,⟨3,0,0⟩] 5 [0,1,2,3] (bE h fun yA mI h=>qX 4 0 [0,1,2,3] (mB rf) 4 mI rfl (nl oV mI) (qL 5 0 [0,1,2,3] true (aX 3 rf 72 bz Gi oV az mI) (bE h fun lE nx h=>dQ 6 0 (fun w hm=>FR.c c2 yA w _ nx) [0,1,2,3] (bE h fun eO sd h=>dQ 7 0 (fun w hm=>Wv.c bK lE w _ sd) [0,1,2,3] (qd [⟨8,0,0⟩] 0 [0,1,2,3] (qz (nT (cH [0,0,0] (qe (qb (eO,(au (cK+1))) () h trivial [0,1,2,3]))))))))))))))
  ·exact lX bK h (fun e=>by subst e;exact bo (qm bK afm [0,1,2,3]))
 ·rintro aR h
  unfold KL.ue at h
  refine aP (cT [0,0] (aI ?_))
  cases h
  exact qP [0]
def Hh.fk(aR:Int):Option (Int):=some aR
def Hh.fY(f0:ae)(t1:List ai)(c2:aQ):(Int×Int)→Option ((Int×Int)⊕(Int))
 | (bB,bK)=>(if(decide (bK<(t1.length:Int)))=true then(ix t1 bK).bind fun pg=>(KL f0 pg c2).bind fun eo=>some (.inl ((au (bB+eo)),(au (bK+1)))) else some (.inr bB))
def Hh(f0:ae)(t1:List ai)(c2:aQ)(OD:Int):Option (Int):=(loop (Hh.fY f0 t1 c2) (0,OD)).bind fun i_=>Hh.fk i_
theorem Hh.c(f0:ae)(t1:List ai)(c2:aQ)(OD:Int)(w:World)(r:Int){bj:Option Addr}{bm:Nat}(bi:Nat)(dr:Rw w bj 2 ay f0.aa)(cE:f0.aa.length=bm){bL:Option Addr}{bG:Nat}(bQ:Nat)(dL:Rw w bL 2 aF t1)(dU:t1.length=bG)(aH:Nat)(fG:Mem w (bs [some aH]) [⟨some aH,29,cG f0 bj bm bi⟩] w)(fx:f0.aa≠ []→aB bj∉bs [some aH])(eL:t1≠ []→aB bL∉bs [some aH])(h:Hh f0 t1 c2 OD=some r):
   Cq 157 #[(vP aH),(.slice bL bG bQ),(.agg (aC c2)),(vI OD)] w (vI r) (bs [some aH]) [⟨some aH,29,cG f0 bj bm bi⟩]:=by
 subst cE dU
 rw [Hh] at h
 refine eN Tryz.func157 rfl Tryz.ntmps157 fG (ad (ao (oA 0 (fun cD=>qh [0] (eT (cT [0] (ad (cT [0,0] (aK (fun(aR:Int)=>Hh.fk aR=some r) (fun aR=> [(8,[],(vI 0)),(9,[],(vI aR))]) (fun aR=> [⟨some aH,29,cF f0 bj bi⟩,⟨some cD,46,cC c2⟩]) ?_ ?_)))))))))
 ·refine ap ?_
  obtain⟨i_,iR,Wz⟩:=bd h
  refine jl (fun(s:Int×Int) (x:Unit)=>match s,x with | ⟨bB,bK⟩,_=>True) (fun⟨bB,bK⟩ _=> [(0,[],(vP aH)),(1,[],(.slice bL t1.length bQ)),(6,[],(vP cD)),(8,[],(vI 0)),(9,[],(vI bB)),(10,[],(vI bK))]) (fun⟨bB,bK⟩ _=> [⟨some aH,29,cF f0 bj bi⟩,⟨some cD,46,cC c2⟩]) iR () trivial [0,1] ?_
  rintro⟨bB,bK⟩ _ acM _ h
  rw [Hh.fY] at h
  refine ad (cT [0,0,0,0] (qi h (fun h=> ?_) (fun h=> ?_)))
  ·refine kT (ad (ap (qg [⟨some aH,29,cF f0 bj bi⟩,⟨some cD,46,cC c2⟩] 10 (qd [⟨0,0,0⟩,⟨1,0,0⟩,⟨2,0,0⟩,⟨3,0,0⟩,⟨6,1,0⟩] 5 [0,1] (bE h fun pg Gj h=>qX 4 0 [0,1] bL 2 Gj rfl (dL.sp Gj) (qL 5 0 [0,1] true (fun w hm=>(hm.aM dL eL).at Gj) (bE h fun eo yY h=>tD 7 (pc 0 (fun w hm=>KL.c f0 pg c2 w _ bi (hm.aM dr fx) rfl aH (hm.ps [0]) (hm.xp dr fx [0]) yY) ?_))))))))
   rintro w v w' hm ⟨rfl,bn⟩
   exact ⟨_,hm.aW [(0,⟨some aH,29,cF f0 bj bi⟩)] [] bn,kD [0,1] (qd [⟨8,0,0⟩,⟨9,0,0⟩] 0 [0,1] (qz (nT (cH [0,0,0] (qe (qb ((au (bB+eo)),(au (bK+1))) () h trivial [0,1]))))))⟩
  ·exact lX bB h (fun e=>by subst e;exact bo (qm bB Wz [0,1]))
 ·rintro aR h
  unfold Hh.fk at h
  refine aP (cT [0,0] (aI ?_))
  cases h
  exact qP [0]
def TI(f0:ae)(d1:av 96 Int)(n2:ai)(x3:ab):Option (Bool×(av 96 Int)):=(if x3.bJ=true then some (true,d1) else(F2 f0 d1 (au ((au n2.cd)+(au x3.cP))) (au x3.eU)).bind fun bz=>(if(!bz)=true then some (false,d1) else(ix d1.1 (au ((au n2.cd)+(au x3.cP)))).bind fun j5=>(if 0≤(u64 x3.eU) then(ix d1.1 (au ((au n2.cd)+(au x3.cP)))).bind fun pg=>some (true,(av.set d1 (au ((au n2.cd)+(au x3.cP))) (wC .u32 j5 (fo .u32 1 (u64 x3.eU))))) else none)))
theorem TI.c(f0:ae)(d1:av 96 Int)(n2:ai)(x3:ab)(w:World)(r:Bool×(av 96 Int)){bj:Option Addr}{bm:Nat}(bi:Nat)(dr:Rw w bj 2 ay f0.aa)(cE:f0.aa.length=bm)(aH:Nat)(fZ:Nat)(fG:Mem w (bs [some aH,some fZ]) [⟨some aH,29,cG f0 bj bm bi⟩,⟨(some fZ),36,row aj d1.1 []⟩] w)(fx:f0.aa≠ []→aB bj∉bs [some aH,some fZ])(h:TI f0 d1 n2 x3=some r):
   Cq 60 #[(vP aH),(vP fZ),(.agg (aN n2)),(.agg (aY x3))] w (.bool r.1) (bs [some aH,some fZ]) [⟨some aH,29,cG f0 bj bm bi⟩,⟨(some fZ),36,row aj r.2.1 []⟩]:=by
 subst cE
 rw [TI] at h
 refine eN Tryz.func60 rfl Tryz.ntmps60 fG (ad (ao (oA 0 (fun fa=>oA 0 (fun cD=>qh [0] (eT (ad (cT [0,3] (qi h (fun h=> ?_) (fun h=> ?_))))))))))
 ·refine cT [0] (rX ?_)
  cases h
  exact qP [0,1]
 ·refine kT (cT [0,2,0,0,3,0,0,0] (ad (cR [0,0,0,0,3,0] (bE h fun bz km h=>oC 0 (fun w hm=>F2.c f0 d1 (au ((au n2.cd)+(au x3.cP))) (au x3.eU) w _ bi (hm.aM dr fx) rfl (hm.ow 1 (some fZ) 36 d1.1 [] (fun e=>nomatch e) an) aH (hm.ps [0]) (hm.xp dr fx [0]) (hm.oa 1 (some fZ) (fun e=>nomatch e) [0]) km) ?_))))
  rintro w v w' hm ⟨rfl,bn⟩
  refine ⟨_,hm.aW [(0,⟨some aH,29,cF f0 bj bi⟩)] [] bn,oH [0] (eT (qi h (fun h=> ?_) (fun h=> ?_)))⟩
  ·refine cT [0] (rX ?_)
   cases h
   exact qP [0,1]
  ·refine kT (ad (qg [⟨some aH,29,cF f0 bj bi⟩,⟨some fa,70,cN n2⟩,⟨some cD,72,cY x3⟩] 15 (qd [⟨0,0,0⟩,⟨1,0,0⟩,⟨2,0,0⟩,⟨3,0,0⟩,⟨4,0,0⟩,⟨7,0,0⟩,⟨8,2,0⟩,⟨9,0,0⟩,⟨12,0,0⟩] 6 [0,2,3] (bE h fun j5 jV h=>qX 5 0 [0,2,3] (sB fZ) 1 jV d1.2 rfl (t2 6 10 ?_ ?_)))))
   ·refine ql 0 false (fun w hm=>((hm.ow 1 (some fZ) 36 d1.1 [] (fun e=>nomatch e) an).at jV)) (kD [0,2,3] ?_)
    obtain⟨Al,h⟩:=gd h
    refine tD 10 (pV 0 .u32 1 .u64 (u64 x3.eU) Al (kD [0,2,3] (qd [⟨11,0,0⟩] 2 [0,2,3] (bE h fun pg vJ h=>qX 13 0 [0,2,3] (sB fZ) 1 vJ d1.2 rfl (tD 14 (pT 0 1 fZ 36 aj d1.1 [] (au ((au n2.cd)+(au x3.cP))) (wC .u32 j5 (fo .u32 1 (u64 x3.eU))) 1 0 [(vU (wC .u32 j5 (fo .u32 1 (u64 x3.eU))))] an vJ (kD [0,2,3] (zT (cT [0] (aI ?_))))))))))
    cases h
    exact qP [0,1]
   ·obtain⟨ait,h⟩:=gd h
    refine pV 0 .u32 1 .u64 (u64 x3.eU) ait (kD [0,2,3] (tD 6 (ql 0 false (fun w hm=>((hm.ow 1 (some fZ) 36 d1.1 [] (fun e=>nomatch e) an).at jV)) (kD [0,2,3] (qd [⟨11,0,0⟩] 2 [0,2,3] (bE h fun pg Gj h=>qX 13 0 [0,2,3] (sB fZ) 1 Gj d1.2 rfl (tD 14 (pT 0 1 fZ 36 aj d1.1 [] (au ((au n2.cd)+(au x3.cP))) (wC .u32 j5 (fo .u32 1 (u64 x3.eU))) 1 0 [(vU (wC .u32 j5 (fo .u32 1 (u64 x3.eU))))] an Gj (kD [0,2,3] (zT (cT [0] (aI ?_))))))))))))
    cases h
    exact qP [0,1]
def Fv.s_(s0:bS)(eH:List ab)(mC:Int)(x8:Int)(x9:Int)(zg:Int)(sy:Int)(MQ:Bool)(zh:Int):Option (Bool×bS):=some (true,(⟨(⟨s0.ff.ag,s0.ff.aa⟩:ae),s0.ft,(⟨mC,x8,x9⟩:aQ),s0.gN,s0.b9,zg,sy,MQ,eH,zh⟩:bS))
def Fv.TJ(s0:bS)(fy:Int)(tu:List ab)(mi:Int)(oh:Int)(tK:Int)(ka:Int)(j_:Int)(Gk:Bool)(ol:Int)(MR:Bool):Option (((List ab)×Int×Int×Int×Int×Int×Bool×Int×Int)⊕((Bool×bS)⊕((List ab)×Int×Int×Int×Int×Int×Bool×Int))):=(if MR=true then some (.inr (.inl (false,(⟨(⟨s0.ff.ag,s0.ff.aa⟩:ae),s0.ft,(⟨mi,oh,tK⟩:aQ),s0.gN,s0.b9,ka,j_,Gk,tu,ol⟩:bS)))) else some (.inl (tu,mi,oh,tK,ka,j_,Gk,ol,(au (fy+1)))))
def Fv.mV(dn:bS→(av 96 Int)→(List ab)→Int→Option (Bool×bS))(s0:bS)(aU:List ab)(e_:Int)(a7:List ab)(cK:Int)(ew:Int)(cS:Int)(dW:Int)(eE:Int)(qU:Bool)(gr:Int)(fy:Int)(eW:ab)(kn:Int)(vZ:av 96 Int):Option (((List ab)×Int×Int×Int×Int×Int×Bool×Int×Int)⊕((Bool×bS)⊕((List ab)×Int×Int×Int×Int×Int×Bool×Int))):=(if(eE==dW)=true then some (.inr (.inl (false,(⟨(⟨s0.ff.ag,s0.ff.aa⟩:ae),s0.ft,(⟨cK,ew,cS⟩:aQ),s0.gN,s0.b9,dW,eE,qU,a7,gr⟩:bS)))) else(if([]:List ab).length+aU.length≤4294967296 then(if(([]:List ab)++aU).length+([eW]:List ab).length≤4294967296 then(dn (⟨(⟨s0.ff.ag,s0.ff.aa⟩:ae),s0.ft,(⟨cK,ew,cS⟩:aQ),s0.gN,s0.b9,dW,(au (eE+1)),qU,a7,gr⟩:bS) vZ ((([]:List ab)++aU)++([eW]:List ab)) (au (e_+kn))).bind fun aA=>Fv.TJ s0 fy aA.2.bp aA.2.fc.bJ aA.2.fc.ba aA.2.fc.du aA.2.bA aA.2.gi aA.2.c7 aA.2.d_ (!aA.1) else none) else none))
def Fv.j4(dn:bS→(av 96 Int)→(List ab)→Int→Option (Bool×bS))(s0:bS)(d1:av 96 Int)(aU:List ab)(e_:Int):((List ab)×Int×Int×Int×Int×Int×Bool×Int×Int)→Option (((List ab)×Int×Int×Int×Int×Int×Bool×Int×Int)⊕((Bool×bS)⊕((List ab)×Int×Int×Int×Int×Int×Bool×Int)))
 | (a7,cK,ew,cS,dW,eE,qU,gr,fy)=>(ix s0.gN (aU.length:Int)).bind fun Kh=>(if(decide (fy<(Kh.length:Int)))=true then(ix s0.gN (aU.length:Int)).bind fun Tq=>(ix Tq fy).bind fun eW=>(FR (⟨cK,ew,cS⟩:aQ) eW).bind fun kn=>(ix s0.ft (aU.length:Int)).bind fun DS=>(TI (⟨s0.ff.ag,s0.ff.aa⟩:ae) d1 DS eW).bind fun KM=>(if(!KM.1)=true then some (.inl (a7,cK,ew,cS,dW,eE,qU,gr,(au (fy+1)))) else(if qU=true then(ix s0.b9 (au ((aU.length:Int)+1))).bind fun afn=>(if(decide ((au ((au (e_+kn))+afn))≥gr))=true then some (.inl (a7,cK,ew,cS,dW,eE,qU,gr,(au (fy+1)))) else Fv.mV dn s0 aU e_ a7 cK ew cS dW eE qU gr fy eW kn KM.2) else Fv.mV dn s0 aU e_ a7 cK ew cS dW eE qU gr fy eW kn KM.2)) else some (.inr (.inr (a7,cK,ew,cS,dW,eE,qU,gr))))
def Fv.step(dn:bS→(av 96 Int)→(List ab)→Int→Option (Bool×bS))(s0:bS)(d1:av 96 Int)(aU:List ab)(e_:Int):Option (Bool×bS):=(if((aU.length:Int)==(s0.ft.length:Int))=true then(if([]:List ab).length+aU.length≤4294967296 then some (true,(⟨(⟨s0.ff.ag,s0.ff.aa⟩:ae),s0.ft,(⟨s0.fc.bJ,s0.fc.ba,s0.fc.du⟩:aQ),s0.gN,s0.b9,s0.bA,s0.gi,true,(([]:List ab)++aU),e_⟩:bS)) else none) else(loop (Fv.j4 dn s0 d1 aU e_) (s0.bp,s0.fc.bJ,s0.fc.ba,s0.fc.du,s0.bA,s0.gi,s0.c7,s0.d_,0)).bind fun afo=>match afo with | .inl p=>some p | .inr p=>Fv.s_ s0 p.1 p.2.1 p.2.2.1 p.2.2.2.1 p.2.2.2.2.1 p.2.2.2.2.2.1 p.2.2.2.2.2.2.1 p.2.2.2.2.2.2.2)
def Fv.fW:Nat→bS→(av 96 Int)→(List ab)→Int→Option (Bool×bS)
 | 0=>fun s0 d1 aU e_=>none
 | fu+1=>Fv.step (Fv.fW fu)
def Fv(s0:bS)(d1:av 96 Int)(aU:List ab)(e_:Int):Option (Bool×bS):=Fv.fW 130 s0 d1 aU e_
set_option maxHeartbeats 8000000 in
theorem Fv.iS(dn:bS→(av 96 Int)→(List ab)→Int→Option (Bool×bS))(qN:∀(s0:bS) (d1:av 96 Int) (aU:List ab) (e_:Int) (w:World) (r:Bool×bS) {bL:Option Addr} {bG:Nat} (bQ:Nat) (dL:Rw w bL 2 ay s0.ff.aa) (dU:s0.ff.aa.length=bG) {dI:Option Addr} {db:Nat} (eA:Nat) (g_:Rw w dI 2 aF s0.ft) (ga:s0.ft.length=db) {lT:Option Addr} {mJ:Nat} (nm:Nat) {kK:List Hd} (AT:Rw w lT 1 dZ kK) (A8:s0.gN.length=mJ) {nu:Option Addr} {nK:Nat} (p9:Nat) (Eb:Rw w nu 1 aG s0.b9) (Ec:s0.b9.length=nK) {wj:Option Addr} {sA:Nat} (vA:Nat) (Ed:s0.bp.length=sA) {om:Option Addr} {sC:Nat} (tc:Nat) (MJ:Rw w om 4 af aU) (Ee:aU.length=sC) (aH:Nat) (eG:Nat) (fG:Mem w (bs [some aH,some eG]) [⟨some aH,214,[(vP eG),(.slice dI db eA),(vH s0.fc.bJ),(vH s0.fc.ba),(vH s0.fc.du),(.slice lT mJ nm),(.slice nu nK p9),(vI s0.bA),(vI s0.gi),(.bool s0.c7),(.slice wj sA vA),(vI s0.d_)]⟩,⟨some eG,29,cG s0.ff bL bG bQ⟩] w) (eL:s0.ff.aa≠ []→aB bL∉bs [some aH,some eG]) (gT:s0.ft≠ []→aB dI∉bs [some aH,some eG]) (re:kK≠ []→aB lT∉bs [some aH,some eG]) (zL:r8 w (bs [some aH,some eG]) 4 af kK s0.gN) (tL:s0.b9≠ []→aB nu∉bs [some aH,some eG]) (zi:aU≠ []→aB om∉bs [some aH,some eG]) (h:dn s0 d1 aU e_=some r),
   Calls Tryz.prog 158 #[(vP aH),(.agg (row aj d1.1 []).toArray),(.slice om sC tc),(vI e_)] w fun e w'=>∃v,e= .returned v∧(∃(lo:Option Nat) (la:Option Addr) (lc:Nat) (vy:List Value) (ln:Nat),r.2.bp.length=ln∧yo lo la lc vy ln r.2.bp 4 [(wj,vA,s0.bp),(om,tc,aU)]∧v=(.bool r.1)∧Mem w (bs [some aH,some eG]) [⟨some aH,214,[(vP eG),(.slice dI db eA),(vH r.2.fc.bJ),(vH r.2.fc.ba),(vH r.2.fc.du),(.slice lT mJ nm),(.slice nu nK p9),(vI r.2.bA),(vI r.2.gi),(.bool r.2.c7),(.slice la ln lc),(vI r.2.d_)]⟩,⟨some eG,29,cG s0.ff bL bG bQ⟩,⟨lo,72,row af r.2.bp vy⟩] w')) (s0:bS) (d1:av 96 Int) (aU:List ab) (e_:Int) (w:World) (r:Bool×bS) {bL:Option Addr} {bG:Nat} (bQ:Nat) (dL:Rw w bL 2 ay s0.ff.aa) (dU:s0.ff.aa.length=bG) {dI:Option Addr} {db:Nat} (eA:Nat) (g_:Rw w dI 2 aF s0.ft) (ga:s0.ft.length=db) {lT:Option Addr} {mJ:Nat} (nm:Nat) {kK:List Hd} (AT:Rw w lT 1 dZ kK) (A8:s0.gN.length=mJ) {nu:Option Addr} {nK:Nat} (p9:Nat) (Eb:Rw w nu 1 aG s0.b9) (Ec:s0.b9.length=nK) {wj:Option Addr} {sA:Nat} (vA:Nat) (Ed:s0.bp.length=sA) {om:Option Addr} {sC:Nat} (tc:Nat) (MJ:Rw w om 4 af aU) (Ee:aU.length=sC) (aH:Nat) (eG:Nat) (fG:Mem w (bs [some aH,some eG]) [⟨some aH,214,[(vP eG),(.slice dI db eA),(vH s0.fc.bJ),(vH s0.fc.ba),(vH s0.fc.du),(.slice lT mJ nm),(.slice nu nK p9),(vI s0.bA),(vI s0.gi),(.bool s0.c7),(.slice wj sA vA),(vI s0.d_)]⟩,⟨some eG,29,cG s0.ff bL bG bQ⟩] w) (eL:s0.ff.aa≠ []→aB bL∉bs [some aH,some eG]) (gT:s0.ft≠ []→aB dI∉bs [some aH,some eG]) (re:kK≠ []→aB lT∉bs [some aH,some eG]) (zL:r8 w (bs [some aH,some eG]) 4 af kK s0.gN) (tL:s0.b9≠ []→aB nu∉bs [some aH,some eG]) (zi:aU≠ []→aB om∉bs [some aH,some eG]) (h:Fv.step dn s0 d1 aU e_=some r):
   Cr 158 #[(vP aH),(.agg (row aj d1.1 []).toArray),(.slice om sC tc),(vI e_)] w fun v w'=>∃(lo:Option Nat) (la:Option Addr) (lc:Nat) (vy:List Value) (ln:Nat),r.2.bp.length=ln∧yo lo la lc vy ln r.2.bp 4 [(wj,vA,s0.bp),(om,tc,aU)]∧v=(.bool r.1)∧Mem w (bs [some aH,some eG]) [⟨some aH,214,[(vP eG),(.slice dI db eA),(vH r.2.fc.bJ),(vH r.2.fc.ba),(vH r.2.fc.du),(.slice lT mJ nm),(.slice nu nK p9),(vI r.2.bA),(vI r.2.gi),(.bool r.2.c7),(.slice la ln lc),(vI r.2.d_)]⟩,⟨some eG,29,cG s0.ff bL bG bQ⟩,⟨lo,72,row af r.2.bp vy⟩] w':=by
 subst dU ga A8 Ec Ed Ee
 rw [Fv.step] at h
 refine eN Tryz.func158 rfl Tryz.ntmps158 fG (xF 72 af s0.bp (ad (ao (oA 0 (fun p_=>qh [0] (eT (cT [0,0,0] (ad (cT [0,0,0,0,0,0,0] (qi h (fun h=> ?_) (fun h=> ?_)))))))))))
 ·refine cR [0,0,0] (oS 0 [0] (eT (cR [0] (oA 0 (fun fV=>qh [0] ?_)))))
  obtain⟨Dh,h⟩:=gd h
  refine tO (pA 0 4 (some fV) 72 0 aU.length 0 4 4 om af ([]:List ab) aU [] (.agg #[(.bool false),(vB 0),(vB 0),(vB 0)]) rfl rfl az eI (fun _=>⟨bt _,by simp⟩) (fun e=>nomatch e) (fun w hm=>(hm.aM MJ zi)) Dh (fun kM fH A_ WG JW=>oH [0,0] (tO (qs 0 [0] (aaF 2 4 ⟨kM,72,row af (([]:List ab)++aU) A_⟩ (fB (eT (cR [0,0,0,0] (oS 0 [0] (eT (cT [0] (rX ?_))))))))))))
  obtain rfl:=si h
  exact qr [] (fun w hm=>⟨kM,(mB kM),fH,A_,((([]:List ab)++aU).length),rfl,(lsO WG JW),rfl,hm.pk [0,1,2]⟩)
 ·refine kT (ad (cT [0] (aK (fun(j:(List ab)×Int×Int×Int×Int×Int×Bool×Int×(Option Nat)×(Option Addr)×Nat×(List Value)×Nat)=>match j with | ⟨eH,mC,x8,x9,zg,sy,MQ,zh,Bg,Bh,oW,rp,Bi⟩=>Fv.s_ s0 eH mC x8 x9 zg sy MQ zh=some r∧(eH.length=Bi)∧(yo Bg Bh oW rp Bi eH 4 [(wj,vA,s0.bp),(om,tc,aU)])) (fun⟨eH,mC,x8,x9,zg,sy,MQ,zh,Bg,Bh,oW,rp,Bi⟩=> [(8,[],(.bool false))]) (fun⟨eH,mC,x8,x9,zg,sy,MQ,zh,Bg,Bh,oW,rp,Bi⟩=> [⟨some aH,214,[(vP eG),(.slice dI s0.ft.length eA),(vH mC),(vH x8),(vH x9),(.slice lT s0.gN.length nm),(.slice nu s0.b9.length p9),(vI zg),(vI sy),(.bool MQ),(.slice Bh Bi oW),(vI zh)]⟩,⟨some eG,29,cF s0.ff bL bQ⟩,⟨Bg,72,row af eH rp⟩,⟨(some p_),36,row aj d1.1 []⟩]) ?_ ?_)))
  ·refine ap ?_
   obtain⟨afo,TK,TL⟩:=bd h
   refine jl (fun(s:(List ab)×Int×Int×Int×Int×Int×Bool×Int×Int) (x:(Option Nat)×(Option Addr)×Nat×(List Value)×Nat)=>match s,x with | ⟨a7,cK,ew,cS,dW,eE,qU,gr,fy⟩,⟨gL,ya,bP,eZ,Bj⟩=>(a7.length=Bj)∧(yo gL ya bP eZ Bj a7 4 [(wj,vA,s0.bp),(om,tc,aU)])) (fun⟨a7,cK,ew,cS,dW,eE,qU,gr,fy⟩ ⟨gL,ya,bP,eZ,Bj⟩=> [(0,[],(vP aH)),(2,[],(.slice om aU.length tc)),(3,[],(vI e_)),(5,[],(vP p_)),(8,[],(.bool false)),(9,[],(vI (aU.length:Int))),(10,[],(vI fy))]) (fun⟨a7,cK,ew,cS,dW,eE,qU,gr,fy⟩ ⟨gL,ya,bP,eZ,Bj⟩=> [⟨some aH,214,[(vP eG),(.slice dI s0.ft.length eA),(vH cK),(vH ew),(vH cS),(.slice lT s0.gN.length nm),(.slice nu s0.b9.length p9),(vI dW),(vI eE),(.bool qU),(.slice ya Bj bP),(vI gr)]⟩,⟨some eG,29,cF s0.ff bL bQ⟩,⟨gL,72,row af a7 eZ⟩,⟨(some p_),36,row aj d1.1 []⟩]) TK ⟨(none:Option Nat),wj,vA,[],s0.bp.length⟩ ⟨rfl,ls0⟩ [0,1,2,3] ?_
   rintro⟨a7,cK,ew,cS,dW,eE,qU,gr,fy⟩ ⟨gL,ya,bP,eZ,Bj⟩ Mh ⟨rfl,El⟩ h
   rw [Fv.j4] at h
   refine ad (cR [0,0,0,0,0,0] (bE h fun Kh vz h=>oX 0 lT 1 vz rfl (AT.sp (zL.Ci vz)) (oL 0 false (fun w hm=>((hm.aM AT re).at (zL.Ci vz))) (tO (Yq 0 (vI (((hd kK (aU.length:Int)).n:Nat):Int)) (vI (Kh.length:Int)) (by kernel_rfl) (by kernel_rfl) (fI (fun z:Nat=>Value.int .i64 (z:Int)) (Eq.symm (zL.get vz).2.1)) (oH [0] (eT (qi h (fun h=> ?_) (fun h=> ?_)))))))))
   ·refine kT (ad (ap (cR [0,0,0,0,0] (bE h fun Tq wV h=>oX 0 lT 1 wV rfl (AT.sp (zL.Ci wV)) (oL 0 false (fun w hm=>((hm.aM AT re).at (zL.Ci wV))) (qh [0] (bE h fun eW D6 h=>oX 0 (hd kK (aU.length:Int)).a 4 D6 (zL.get wV).2.1 ((zL.get wV).1.sp D6) (oL 0 true (fun w hm=>((hm.aM (zL.get wV).1 (zL.get wV).2.2).at D6)) (oA 0 (fun vV=>oS 0 [4] (eT (ad (qg [⟨some aH,214,[(vP eG),(.slice dI s0.ft.length eA),(vH cK),(vH ew),(vH cS),(.slice lT s0.gN.length nm),(.slice nu s0.b9.length p9),(vI dW),(vI eE),(.bool qU),(.slice ya a7.length bP),(vI gr)]⟩,⟨some eG,29,cF s0.ff bL bQ⟩,⟨gL,72,row af a7 eZ⟩,⟨(some p_),36,row aj d1.1 []⟩,⟨some vV,72,cY eW⟩] 9 (qd [⟨0,0,0⟩,⟨1,0,0⟩,⟨2,0,0⟩,⟨3,0,0⟩,⟨4,0,0⟩,⟨5,4,0⟩] 3 [0,1,2,3,4] (bE h fun kn Tg h=>dQ 6 0 (fun w hm=>FR.c (⟨cK,ew,cS⟩:aQ) eW w _ Tg) [0,1,2,3,4] (qd [⟨7,0,0⟩,⟨8,0,0⟩] 0 [0,1,2,3,4] (zT (ad (ao (tO (pL 0 3 p_ 96 1 36 aj d1 an (fB (oA 0 (fun sY=>tO (pS 0 5 sY 96 1 36 aj (av.dC 96 0) d1 an bk (fB (eT (ad (aK (fun(vZ:(av 96 Int))=>Fv.mV dn s0 aU e_ a7 cK ew cS dW eE qU gr fy eW kn vZ=some Mh) (fun vZ=> [(0,[],(vP aH)),(2,[],(.slice om aU.length tc)),(3,[],(vI e_)),(5,[],(vP p_)),(8,[],(.bool false)),(9,[],(vI (aU.length:Int))),(10,[],(vI fy)),(11,[],(vP vV)),(12,[],(vI (au (e_+kn)))),(13,[],(vP sY))]) (fun vZ=> [⟨some aH,214,[(vP eG),(.slice dI s0.ft.length eA),(vH cK),(vH ew),(vH cS),(.slice lT s0.gN.length nm),(.slice nu s0.b9.length p9),(vI dW),(vI eE),(.bool qU),(.slice ya a7.length bP),(vI gr)]⟩,⟨some eG,29,cF s0.ff bL bQ⟩,⟨gL,72,row af a7 eZ⟩,⟨(some p_),36,row aj d1.1 []⟩,⟨some vV,72,cY eW⟩,⟨(some sY),36,row aj vZ.1 []⟩]) ?_ ?_)))))))))))))))))))))))))))))
    ·refine ad (qg [⟨some aH,214,[(vP eG),(.slice dI s0.ft.length eA),(vH cK),(vH ew),(vH cS),(.slice lT s0.gN.length nm),(.slice nu s0.b9.length p9),(vI dW),(vI eE),(.bool qU),(.slice ya a7.length bP),(vI gr)]⟩,⟨some eG,29,cF s0.ff bL bQ⟩,⟨gL,72,row af a7 eZ⟩,⟨(some p_),36,row aj d1.1 []⟩,⟨some vV,72,cY eW⟩] 37 (qd [⟨0,0,0⟩,⟨1,0,0⟩,⟨2,0,0⟩,⟨3,0,0⟩,⟨4,0,0⟩,⟨5,0,0⟩,⟨6,0,0⟩,⟨7,0,0⟩,⟨8,0,0⟩,⟨11,4,0⟩] 27 [0,1,2,3,4] (bE h fun DS D7 h=>qX 9 0 [0,1,2,3,4] dI 2 D7 rfl (g_.sp D7) (qL 10 0 [0,1,2,3,4] true (fun w hm=>(hm.aM g_ gT).at D7) (bE h fun KM SL h=>tD 12 (pc 0 (fun w hm=>TI.c (⟨s0.ff.ag,s0.ff.aa⟩:ae) d1 DS eW w _ bQ (hm.aM dL eL) rfl eG sY (hm.ps [1,5]) (hm.xp dL eL [1,5]) SL) ?_))))))
     rintro w v w' hm ⟨rfl,bn⟩
     refine ⟨_,hm.aW [(1,⟨some eG,29,cF s0.ff bL bQ⟩),(5,⟨(some sY),36,row aj KM.2.1 []⟩)] [] bn,kD [0,1,2,3,4] (qd [⟨13,0,0⟩,⟨14,0,0⟩,⟨15,0,1⟩,⟨16,0,1⟩,⟨17,0,1⟩,⟨18,0,1⟩] 18 [0,1,2,3,4] (js 81 (!KM.1) (fun TM=> ?_) (fun TM=> ?_)))⟩
     ·replace h:=yi TM h
      exact qd [⟨19,0,3⟩,⟨20,0,3⟩,⟨21,0,3⟩,⟨22,0,3⟩,⟨23,0,3⟩,⟨24,0,3⟩,⟨25,0,3⟩,⟨26,0,3⟩,⟨27,0,3⟩,⟨28,0,3⟩,⟨29,0,3⟩,⟨30,0,3⟩,⟨31,0,3⟩,⟨32,0,3⟩,⟨33,0,3⟩,⟨34,0,3⟩,⟨35,0,3⟩,⟨36,0,4⟩] 0 [0,1,2,3,4] (zT (jq true (fun KI=>(lP (ib (ib (bo (aP (cH [0,0,0] (qe (qb (a7,cK,ew,cS,dW,eE,qU,gr,(au (fy+1))) ⟨gL,ya,bP,eZ,a7.length⟩ h ⟨rfl,El⟩ [0,1,2,3]))))))))) (fun KI=>nomatch KI)))
     ·replace h:=yj TM h
      refine qd [⟨19,0,2⟩,⟨20,0,1⟩,⟨21,0,1⟩,⟨22,0,1⟩,⟨23,0,1⟩,⟨24,0,1⟩,⟨25,0,1⟩,⟨26,0,1⟩,⟨30,0,1⟩,⟨31,0,1⟩,⟨32,0,1⟩,⟨33,0,1⟩] 6 [0,1,2,3,4] (js 86 qU (fun TN=> ?_) (fun TN=> ?_))
      ·replace h:=yi TN h
       refine bE h fun afn G_ h=>qX 27 2 [0,1,2,3,4] nu 1 G_ rfl (Eb.sp G_) (qL 28 2 [0,1,2,3,4] false (fun w hm=>(hm.aM Eb tL).at G_) (qd [⟨29,0,2⟩,⟨34,0,2⟩,⟨35,0,4⟩,⟨36,0,5⟩] 0 [0,1,2,3,4] (zT (qi h (fun h=> ?_) (fun h=> ?_)))))
       ·exact lP (ib (ib (bo (aP (cH [0,0,0] (qe (qb (a7,cK,ew,cS,dW,eE,qU,gr,(au (fy+1))) ⟨gL,ya,bP,eZ,a7.length⟩ h ⟨rfl,El⟩ [0,1,2,3])))))))
       ·exact bV (qm KM.2 h [0,1,2,3,4,5])
      ·replace h:=yj TN h
       exact qd [⟨27,0,3⟩,⟨28,0,3⟩,⟨29,0,3⟩,⟨34,0,3⟩,⟨35,0,5⟩,⟨36,0,5⟩] 0 [0,1,2,3,4] (zT (jq false (fun Y6=>nomatch Y6) (fun Y6=>(bV (qm KM.2 h [0,1,2,3,4,5])))))
    ·rintro vZ h
     unfold Fv.mV at h
     refine aP (s2 (qg [⟨some aH,214,[(vP eG),(.slice dI s0.ft.length eA),(vH cK),(vH ew),(vH cS),(.slice lT s0.gN.length nm),(.slice nu s0.b9.length p9),(vI dW),(vI eE),(.bool qU),(.slice ya a7.length bP),(vI gr)]⟩,⟨some eG,29,cF s0.ff bL bQ⟩,⟨gL,72,row af a7 eZ⟩,⟨(some p_),36,row aj d1.1 []⟩,⟨some vV,72,cY eW⟩,⟨(some sY),36,row aj vZ.1 []⟩] 9 (qd [⟨0,0,0⟩,⟨1,0,0⟩,⟨2,0,0⟩,⟨3,0,0⟩,⟨4,0,0⟩,⟨5,0,0⟩,⟨6,0,0⟩,⟨7,0,0⟩,⟨8,0,0⟩] 0 [0,1,2,3,4,5] (zT (qi h (fun h=> ?_) (fun h=> ?_))))))
     ·refine cT [0] (rX (cg (aT (c_ (.inl (false,(⟨(⟨s0.ff.ag,s0.ff.aa⟩:ae),s0.ft,(⟨cK,ew,cS⟩:aQ),s0.gN,s0.b9,dW,eE,qU,a7,gr⟩:bS))) (sj h) (fun aiu=> ?_)))))
      subst aiu
      refine cg (aT (aT ?_))
      obtain rfl:=si TL
      exact qr [] (fun w hm=>⟨gL,ya,bP,eZ,a7.length,rfl,El,rfl,hm.pk [0,1,2]⟩)
     ·refine kT (cR [0,0,0,0,0,0,0] (oS 0 [0] (eT (ad (aK (fun(j:(List ab)×Int×Int×Int×Int×Int×Bool×Int×Bool×(Option Nat)×(Option Addr)×Nat×(List Value)×Nat)=>match j with | ⟨tu,mi,oh,tK,ka,j_,Gk,ol,MR,ux,zj,nL,sD,PQ⟩=>Fv.TJ s0 fy tu mi oh tK ka j_ Gk ol MR=some Mh∧(tu.length=PQ)∧(yo ux zj nL sD PQ tu 4 [(wj,vA,s0.bp),(om,tc,aU)])) (fun⟨tu,mi,oh,tK,ka,j_,Gk,ol,MR,ux,zj,nL,sD,PQ⟩=> [(0,[],(vP aH)),(2,[],(.slice om aU.length tc)),(3,[],(vI e_)),(5,[],(vP p_)),(8,[],(.bool false)),(9,[],(vI (aU.length:Int))),(10,[],(vI fy)),(130,[],(.bool MR))]) (fun⟨tu,mi,oh,tK,ka,j_,Gk,ol,MR,ux,zj,nL,sD,PQ⟩=> [⟨some aH,214,[(vP eG),(.slice dI s0.ft.length eA),(vH mi),(vH oh),(vH tK),(.slice lT s0.gN.length nm),(.slice nu s0.b9.length p9),(vI ka),(vI j_),(.bool Gk),(.slice zj PQ nL),(vI ol)]⟩,⟨some eG,29,cF s0.ff bL bQ⟩,⟨ux,72,row af tu sD⟩,⟨(some p_),36,row aj d1.1 []⟩,⟨some vV,72,cY eW⟩,⟨(some sY),36,row aj vZ.1 []⟩]) ?_ ?_)))))
      ·refine qg [⟨some eG,29,cF s0.ff bL bQ⟩,⟨(some p_),36,row aj d1.1 []⟩,⟨some vV,72,cY eW⟩,⟨(some sY),36,row aj vZ.1 []⟩] 11 (qd [⟨0,0,0⟩,⟨3,0,0⟩,⟨5,2,0⟩,⟨8,0,0⟩] 7 [1,3,4,5] (qv 1 0 [1,3,4,5] (fun w hm=>jM (b:=sY) (off:=0) (s:=96) (agg:=true) (vs:=row aj vZ.1 []) (by kernel_rfl) ((gG an vZ).trans rfl) (.inl rfl) (hm.all (hh:=3) (T:=36) (by kernel_rfl))) (t2 2 6 ?_ ?_)))
       ·refine qa 0 (fun afp=>kD [1,3,4,5] (t2 4 6 ?_ ?_))
        ·obtain⟨TO,h⟩:=gd h
         refine pA 0 6 (some afp) 72 0 aU.length 0 4 4 om af ([]:List ab) aU [] (.agg #[(.bool false),(vB 0),(vB 0),(vB 0)]) rfl rfl az eI (fun _=>⟨bt _,by simp⟩) (fun e=>nomatch e) (fun w hm=>(hm.aM MJ zi)) TO (fun aba Ef TP TQ TR=>kD [1,3,4,5] (tD 6 (qa 0 (fun Ia=>kD [1,3,4,5] ?_))))
         obtain⟨TS,h⟩:=gd h
         refine tD 7 (pA 0 6 aba 72 ((([]:List ab)++aU).length) 1 Ef 4 4 (sB Ia) af (([]:List ab)++aU) ([eW]:List ab) TP (.agg #[(.bool false),(vB 0),(vB 0),(vB 0)]) rfl rfl az eI TQ TR (fun w hm=>(hm.ow 7 (some Ia) 72 ([eW]:List ab) [] (fun e=>nomatch e) az)) TS (fun abb abc R3 SM Kf=>kD [1,3,4,5] (bE h fun aA KJ h=>tD 9 (pc 0 (fun w hm=>qN (⟨(⟨s0.ff.ag,s0.ff.aa⟩:ae),s0.ft,(⟨cK,ew,cS⟩:aQ),s0.gN,s0.b9,dW,(au (eE+1)),qU,a7,gr⟩:bS) vZ ((([]:List ab)++aU)++([eW]:List ab)) (au (e_+kn)) w _ bQ (hm.aM dL eL) rfl eA (hm.aM g_ gT) rfl nm (hm.aM AT re) rfl p9 (hm.aM Eb tL) rfl bP rfl abc (hm.ow 6 abb 72 ((([]:List ab)++aU)++([eW]:List ab)) R3 (fun e=>(Kf e).1) az) rfl aH eG (hm.ps (N:= [⟨some aH,214,[(vP eG),(.slice dI s0.ft.length eA),(vH cK),(vH ew),(vH cS),(.slice lT s0.gN.length nm),(.slice nu s0.b9.length p9),(vI dW),(vI (au (eE+1))),(.bool qU),(.slice ya a7.length bP),(vI gr)]⟩,⟨some eG,29,cF s0.ff bL bQ⟩]) [0,1]) (hm.xp dL eL [0,1]) (hm.xp g_ gT [0,1]) (hm.xp AT re [0,1]) (hm.ip zL [0,1]) (hm.xp Eb tL [0,1]) (hm.oa 6 abb (fun e=>(Kf e).1) [0,1]) KJ) ?_))))
         rintro w v w' hm ⟨aa6,KN,zd,afq,_,rfl,afr,rfl,bn⟩
         obtain⟨afs,Hi,aft,OE⟩:=Mem.YF (T:=72) (bh:=af) (o1:=gL) (H7:=eZ) (H8:=a7) (o:=aa6) (sp:=afq) (xs:=aA.2.bp) (F:= [(wj,vA,s0.bp),(om,tc,aU)]) (o2:=abb) (Sh:=R3) (LC:=((([]:List ab)++aU)++([eW]:List ab))) (hm.aw [0,1] bn) 2 6 8 (by kernel_rfl) (by kernel_rfl) (by kernel_rfl) (by kernel_rfl) El rfl SM Kf rfl rfl afr
         refine⟨_,Mem.pick OE (N:= [⟨some aH,214,[(vP eG),(.slice dI s0.ft.length eA),(vH aA.2.fc.bJ),(vH aA.2.fc.ba),(vH aA.2.fc.du),(.slice lT s0.gN.length nm),(.slice nu s0.b9.length p9),(vI aA.2.bA),(vI aA.2.gi),(.bool aA.2.c7),(.slice KN aA.2.bp.length zd),(vI aA.2.d_)]⟩,⟨some eG,29,cF s0.ff bL bQ⟩,⟨afs,72,row af aA.2.bp Hi⟩,⟨(some p_),36,row aj d1.1 []⟩,⟨some vV,72,cY eW⟩,⟨(some sY),36,row aj vZ.1 []⟩,⟨none,0,[]⟩,⟨(some Ia),72,row af ([eW]:List ab) []⟩]) [0,1,2,3,4,5,6,7] (by kernel_rfl) (by kernel_rfl),kD [1,3,4,5] ?_⟩
         clear hm bn OE
         exact qd [⟨10,0,0⟩] 0 [1,3,4,5] (qz (qm ⟨aA.2.bp,aA.2.fc.bJ,aA.2.fc.ba,aA.2.fc.du,aA.2.bA,aA.2.gi,aA.2.c7,aA.2.d_,(!aA.1),afs,KN,zd,Hi,aA.2.bp.length⟩ ⟨h,rfl,aft⟩ [0,1,2,3,4,5]))
        ·refine qa 0 (fun Ge=>kD [1,3,4,5] ?_)
         obtain⟨afu,h⟩:=gd h
         refine tD 4 (pA 0 6 (some afp) 72 0 aU.length 0 4 4 om af ([]:List ab) aU [] (.agg #[(.bool false),(vB 0),(vB 0),(vB 0)]) rfl rfl az eI (fun _=>⟨bt _,by simp⟩) (fun e=>nomatch e) (fun w hm=>(hm.aM MJ zi)) afu (fun aiv MO afv TT TU=>kD [1,3,4,5] ?_))
         obtain⟨afw,h⟩:=gd h
         refine tD 7 (pA 0 6 aiv 72 ((([]:List ab)++aU).length) 1 MO 4 4 (sB Ge) af (([]:List ab)++aU) ([eW]:List ab) afv (.agg #[(.bool false),(vB 0),(vB 0),(vB 0)]) rfl rfl az eI TT TU (fun w hm=>(hm.ow 7 (some Ge) 72 ([eW]:List ab) [] (fun e=>nomatch e) az)) afw (fun ML abd Y7 Y8 Eg=>kD [1,3,4,5] (bE h fun aA afx h=>tD 9 (pc 0 (fun w hm=>qN (⟨(⟨s0.ff.ag,s0.ff.aa⟩:ae),s0.ft,(⟨cK,ew,cS⟩:aQ),s0.gN,s0.b9,dW,(au (eE+1)),qU,a7,gr⟩:bS) vZ ((([]:List ab)++aU)++([eW]:List ab)) (au (e_+kn)) w _ bQ (hm.aM dL eL) rfl eA (hm.aM g_ gT) rfl nm (hm.aM AT re) rfl p9 (hm.aM Eb tL) rfl bP rfl abd (hm.ow 6 ML 72 ((([]:List ab)++aU)++([eW]:List ab)) Y7 (fun e=>(Eg e).1) az) rfl aH eG (hm.ps (N:= [⟨some aH,214,[(vP eG),(.slice dI s0.ft.length eA),(vH cK),(vH ew),(vH cS),(.slice lT s0.gN.length nm),(.slice nu s0.b9.length p9),(vI dW),(vI (au (eE+1))),(.bool qU),(.slice ya a7.length bP),(vI gr)]⟩,⟨some eG,29,cF s0.ff bL bQ⟩]) [0,1]) (hm.xp dL eL [0,1]) (hm.xp g_ gT [0,1]) (hm.xp AT re [0,1]) (hm.ip zL [0,1]) (hm.xp Eb tL [0,1]) (hm.oa 6 ML (fun e=>(Eg e).1) [0,1]) afx) ?_))))
         rintro w v w' hm ⟨aiw,KN,TV,afy,_,rfl,afz,rfl,bn⟩
         obtain⟨afA,Y9,afB,OF⟩:=Mem.YF (T:=72) (bh:=af) (o1:=gL) (H7:=eZ) (H8:=a7) (o:=aiw) (sp:=afy) (xs:=aA.2.bp) (F:= [(wj,vA,s0.bp),(om,tc,aU)]) (o2:=ML) (Sh:=Y7) (LC:=((([]:List ab)++aU)++([eW]:List ab))) (hm.aw [0,1] bn) 2 6 8 (by kernel_rfl) (by kernel_rfl) (by kernel_rfl) (by kernel_rfl) El rfl Y8 Eg rfl rfl afz
         refine⟨_,Mem.pick OF (N:= [⟨some aH,214,[(vP eG),(.slice dI s0.ft.length eA),(vH aA.2.fc.bJ),(vH aA.2.fc.ba),(vH aA.2.fc.du),(.slice lT s0.gN.length nm),(.slice nu s0.b9.length p9),(vI aA.2.bA),(vI aA.2.gi),(.bool aA.2.c7),(.slice KN aA.2.bp.length TV),(vI aA.2.d_)]⟩,⟨some eG,29,cF s0.ff bL bQ⟩,⟨afA,72,row af aA.2.bp Y9⟩,⟨(some p_),36,row aj d1.1 []⟩,⟨some vV,72,cY eW⟩,⟨(some sY),36,row aj vZ.1 []⟩,⟨none,0,[]⟩,⟨(some Ge),72,row af ([eW]:List ab) []⟩]) [0,1,2,3,4,5,6,7] (by kernel_rfl) (by kernel_rfl),kD [1,3,4,5] ?_⟩
         clear hm bn OF
         exact qd [⟨10,0,0⟩] 0 [1,3,4,5] (qz (qm ⟨aA.2.bp,aA.2.fc.bJ,aA.2.fc.ba,aA.2.fc.du,aA.2.bA,aA.2.gi,aA.2.c7,aA.2.d_,(!aA.1),afA,KN,TV,Y9,aA.2.bp.length⟩ ⟨h,rfl,afB⟩ [0,1,2,3,4,5]))
       ·refine qa 0 (fun MM=>kD [1,3,4,5] (tD 2 (qa 0 (fun aix=>kD [1,3,4,5] ?_))))
        obtain⟨afC,h⟩:=gd h
        refine tD 4 (pA 0 7 (some aix) 72 0 aU.length 0 4 4 om af ([]:List ab) aU [] (.agg #[(.bool false),(vB 0),(vB 0),(vB 0)]) rfl rfl az eI (fun _=>⟨bt _,by simp⟩) (fun e=>nomatch e) (fun w hm=>(hm.aM MJ zi)) afC (fun aiy abe afD Y_ afE=>kD [1,3,4,5] ?_))
        obtain⟨afF,h⟩:=gd h
        refine tD 7 (pA 0 7 aiy 72 ((([]:List ab)++aU).length) 1 abe 4 4 (sB MM) af (([]:List ab)++aU) ([eW]:List ab) afD (.agg #[(.bool false),(vB 0),(vB 0),(vB 0)]) rfl rfl az eI Y_ afE (fun w hm=>(hm.ow 6 (some MM) 72 ([eW]:List ab) [] (fun e=>nomatch e) az)) afF (fun MN abf Y' Za Eh=>kD [1,3,4,5] (bE h fun aA afG h=>tD 9 (pc 0 (fun w hm=>qN (⟨(⟨s0.ff.ag,s0.ff.aa⟩:ae),s0.ft,(⟨cK,ew,cS⟩:aQ),s0.gN,s0.b9,dW,(au (eE+1)),qU,a7,gr⟩:bS) vZ ((([]:List ab)++aU)++([eW]:List ab)) (au (e_+kn)) w _ bQ (hm.aM dL eL) rfl eA (hm.aM g_ gT) rfl nm (hm.aM AT re) rfl p9 (hm.aM Eb tL) rfl bP rfl abf (hm.ow 7 MN 72 ((([]:List ab)++aU)++([eW]:List ab)) Y' (fun e=>(Eh e).1) az) rfl aH eG (hm.ps (N:= [⟨some aH,214,[(vP eG),(.slice dI s0.ft.length eA),(vH cK),(vH ew),(vH cS),(.slice lT s0.gN.length nm),(.slice nu s0.b9.length p9),(vI dW),(vI (au (eE+1))),(.bool qU),(.slice ya a7.length bP),(vI gr)]⟩,⟨some eG,29,cF s0.ff bL bQ⟩]) [0,1]) (hm.xp dL eL [0,1]) (hm.xp g_ gT [0,1]) (hm.xp AT re [0,1]) (hm.ip zL [0,1]) (hm.xp Eb tL [0,1]) (hm.oa 7 MN (fun e=>(Eh e).1) [0,1]) afG) ?_))))
        rintro w v w' hm ⟨aiz,KN,Ik,afH,_,rfl,afI,rfl,bn⟩
        obtain⟨afJ,Zb,afK,OG⟩:=Mem.YF (T:=72) (bh:=af) (o1:=gL) (H7:=eZ) (H8:=a7) (o:=aiz) (sp:=afH) (xs:=aA.2.bp) (F:= [(wj,vA,s0.bp),(om,tc,aU)]) (o2:=MN) (Sh:=Y') (LC:=((([]:List ab)++aU)++([eW]:List ab))) (hm.aw [0,1] bn) 2 7 8 (by kernel_rfl) (by kernel_rfl) (by kernel_rfl) (by kernel_rfl) El rfl Za Eh rfl rfl afI
        refine⟨_,Mem.pick OG (N:= [⟨some aH,214,[(vP eG),(.slice dI s0.ft.length eA),(vH aA.2.fc.bJ),(vH aA.2.fc.ba),(vH aA.2.fc.du),(.slice lT s0.gN.length nm),(.slice nu s0.b9.length p9),(vI aA.2.bA),(vI aA.2.gi),(.bool aA.2.c7),(.slice KN aA.2.bp.length Ik),(vI aA.2.d_)]⟩,⟨some eG,29,cF s0.ff bL bQ⟩,⟨afJ,72,row af aA.2.bp Zb⟩,⟨(some p_),36,row aj d1.1 []⟩,⟨some vV,72,cY eW⟩,⟨(some sY),36,row aj vZ.1 []⟩,⟨(some MM),72,row af ([eW]:List ab) []⟩,⟨none,0,[]⟩]) [0,1,2,3,4,5,6,7] (by kernel_rfl) (by kernel_rfl),kD [1,3,4,5] ?_⟩
        clear hm bn OG
        exact qd [⟨10,0,0⟩] 0 [1,3,4,5] (qz (qm ⟨aA.2.bp,aA.2.fc.bJ,aA.2.fc.ba,aA.2.fc.du,aA.2.bA,aA.2.gi,aA.2.c7,aA.2.d_,(!aA.1),afJ,KN,Ik,Zb,aA.2.bp.length⟩ ⟨h,rfl,afK⟩ [0,1,2,3,4,5]))
      ·rintro⟨tu,mi,oh,tK,ka,j_,Gk,ol,MR,ux,zj,nL,sD,PQ⟩ ⟨h,rfl,Zc⟩
       unfold Fv.TJ at h
       refine aP (qi h (fun h=> ?_) (fun h=> ?_))
       ·refine cT [0] (aI (cg (aT (c_ (.inl (false,(⟨(⟨s0.ff.ag,s0.ff.aa⟩:ae),s0.ft,(⟨mi,oh,tK⟩:aQ),s0.gN,s0.b9,ka,j_,Gk,tu,ol⟩:bS))) (sj h) (fun aiA=> ?_)))))
        subst aiA
        refine cg (aT (aT ?_))
        obtain rfl:=si TL
        exact qr [] (fun w hm=>⟨ux,zj,nL,sD,tu.length,rfl,Zc,rfl,hm.pk [0,1,2]⟩)
       ·exact bV (nT (cH [0,0,0] (qe (qb (tu,mi,oh,tK,ka,j_,Gk,ol,(au (fy+1))) ⟨ux,zj,nL,sD,tu.length⟩ h ⟨rfl,Zc⟩ [0,1,2,3]))))
   ·exact lX (.inr (a7,cK,ew,cS,dW,eE,qU,gr)) h (fun e=>by subst e;exact bo (qm ⟨a7,cK,ew,cS,dW,eE,qU,gr,gL,ya,bP,eZ,a7.length⟩ ⟨TL,rfl,El⟩ [0,1,2,3]))
  ·rintro⟨eH,mC,x8,x9,zg,sy,MQ,zh,Bg,Bh,oW,rp,Bi⟩ ⟨h,rfl,afL⟩
   unfold Fv.s_ at h
   refine aP (cT [0] (aI ?_))
   obtain rfl:=si h
   exact qr [] (fun w hm=>⟨Bg,Bh,oW,rp,eH.length,rfl,afL,rfl,hm.pk [0,1,2]⟩)
theorem Fv.jW(fu:Nat):∀(s0:bS) (d1:av 96 Int) (aU:List ab) (e_:Int) (w:World) (r:Bool×bS) {bL:Option Addr} {bG:Nat} (bQ:Nat) (dL:Rw w bL 2 ay s0.ff.aa) (dU:s0.ff.aa.length=bG) {dI:Option Addr} {db:Nat} (eA:Nat) (g_:Rw w dI 2 aF s0.ft) (ga:s0.ft.length=db) {lT:Option Addr} {mJ:Nat} (nm:Nat) {kK:List Hd} (AT:Rw w lT 1 dZ kK) (A8:s0.gN.length=mJ) {nu:Option Addr} {nK:Nat} (p9:Nat) (Eb:Rw w nu 1 aG s0.b9) (Ec:s0.b9.length=nK) {wj:Option Addr} {sA:Nat} (vA:Nat) (Ed:s0.bp.length=sA) {om:Option Addr} {sC:Nat} (tc:Nat) (MJ:Rw w om 4 af aU) (Ee:aU.length=sC) (aH:Nat) (eG:Nat) (fG:Mem w (bs [some aH,some eG]) [⟨some aH,214,[(vP eG),(.slice dI db eA),(vH s0.fc.bJ),(vH s0.fc.ba),(vH s0.fc.du),(.slice lT mJ nm),(.slice nu nK p9),(vI s0.bA),(vI s0.gi),(.bool s0.c7),(.slice wj sA vA),(vI s0.d_)]⟩,⟨some eG,29,cG s0.ff bL bG bQ⟩] w) (eL:s0.ff.aa≠ []→aB bL∉bs [some aH,some eG]) (gT:s0.ft≠ []→aB dI∉bs [some aH,some eG]) (re:kK≠ []→aB lT∉bs [some aH,some eG]) (zL:r8 w (bs [some aH,some eG]) 4 af kK s0.gN) (tL:s0.b9≠ []→aB nu∉bs [some aH,some eG]) (zi:aU≠ []→aB om∉bs [some aH,some eG]) (h:Fv.fW fu s0 d1 aU e_=some r),
   Cr 158 #[(vP aH),(.agg (row aj d1.1 []).toArray),(.slice om sC tc),(vI e_)] w fun v w'=>∃(lo:Option Nat) (la:Option Addr) (lc:Nat) (vy:List Value) (ln:Nat),r.2.bp.length=ln∧yo lo la lc vy ln r.2.bp 4 [(wj,vA,s0.bp),(om,tc,aU)]∧v=(.bool r.1)∧Mem w (bs [some aH,some eG]) [⟨some aH,214,[(vP eG),(.slice dI db eA),(vH r.2.fc.bJ),(vH r.2.fc.ba),(vH r.2.fc.du),(.slice lT mJ nm),(.slice nu nK p9),(vI r.2.bA),(vI r.2.gi),(.bool r.2.c7),(.slice la ln lc),(vI r.2.d_)]⟩,⟨some eG,29,cG s0.ff bL bG bQ⟩,⟨lo,72,row af r.2.bp vy⟩] w':=by
 induction fu with
 | zero=>intros;rename_i h;cases h
 | succ fu ih=>exact @Fv.iS _ (Fv.fW fu) @ih
theorem Fv.c(s0:bS)(d1:av 96 Int)(aU:List ab)(e_:Int)(w:World)(r:Bool×bS){bL:Option Addr}{bG:Nat}(bQ:Nat)(dL:Rw w bL 2 ay s0.ff.aa)(dU:s0.ff.aa.length=bG){dI:Option Addr}{db:Nat}(eA:Nat)(g_:Rw w dI 2 aF s0.ft)(ga:s0.ft.length=db){lT:Option Addr}{mJ:Nat}(nm:Nat){kK:List Hd}(AT:Rw w lT 1 dZ kK)(A8:s0.gN.length=mJ){nu:Option Addr}{nK:Nat}(p9:Nat)(Eb:Rw w nu 1 aG s0.b9)(Ec:s0.b9.length=nK){wj:Option Addr}{sA:Nat}(vA:Nat)(Ed:s0.bp.length=sA){om:Option Addr}{sC:Nat}(tc:Nat)(MJ:Rw w om 4 af aU)(Ee:aU.length=sC)(aH:Nat)(eG:Nat)(fG:Mem w (bs [some aH,some eG]) [⟨some aH,214,[(vP eG),(.slice dI db eA),(vH s0.fc.bJ),(vH s0.fc.ba),(vH s0.fc.du),(.slice lT mJ nm),(.slice nu nK p9),(vI s0.bA),(vI s0.gi),(.bool s0.c7),(.slice wj sA vA),(vI s0.d_)]⟩,⟨some eG,29,cG s0.ff bL bG bQ⟩] w)(eL:s0.ff.aa≠ []→aB bL∉bs [some aH,some eG])(gT:s0.ft≠ []→aB dI∉bs [some aH,some eG])(re:kK≠ []→aB lT∉bs [some aH,some eG])(zL:r8 w (bs [some aH,some eG]) 4 af kK s0.gN)(tL:s0.b9≠ []→aB nu∉bs [some aH,some eG])(zi:aU≠ []→aB om∉bs [some aH,some eG])(h:Fv s0 d1 aU e_=some r):
   Calls Tryz.prog 158 #[(vP aH),(.agg (row aj d1.1 []).toArray),(.slice om sC tc),(vI e_)] w fun e w'=>∃v,e= .returned v∧(∃(lo:Option Nat) (la:Option Addr) (lc:Nat) (vy:List Value) (ln:Nat),r.2.bp.length=ln∧yo lo la lc vy ln r.2.bp 4 [(wj,vA,s0.bp),(om,tc,aU)]∧v=(.bool r.1)∧Mem w (bs [some aH,some eG]) [⟨some aH,214,[(vP eG),(.slice dI db eA),(vH r.2.fc.bJ),(vH r.2.fc.ba),(vH r.2.fc.du),(.slice lT mJ nm),(.slice nu nK p9),(vI r.2.bA),(vI r.2.gi),(.bool r.2.c7),(.slice la ln lc),(vI r.2.d_)]⟩,⟨some eG,29,cG s0.ff bL bG bQ⟩,⟨lo,72,row af r.2.bp vy⟩] w'):=
 Fv.jW 130 s0 d1 aU e_ w r bQ dL dU eA g_ ga nm AT A8 p9 Eb Ec vA Ed tc MJ Ee aH eG fG eL gT re zL tL zi h
def FF.ue(f0:ae)(t1:List ai)(c2:aQ)(cO:Int)(nM:List (List ab))(fX:List Int):Option ((List ab)×Int×Int):=(Fv (⟨f0,t1,c2,nM,fX,cO,0,false,([]:List ab),0⟩:bS) (av.dC 96 0) ([]:List ab) 0).bind fun eo=>(if(!eo.1)=true then some (([]:List ab),0,7) else some (eo.2.bp,eo.2.d_,0))
def FF.ko(f0:ae)(t1:List ai)(c2:aQ):((List Int)×Int)→Option (((List Int)×Int)⊕((List Int)))
 | (aL,fL)=>(if(decide (fL≤(t1.length:Int)))=true then(Hh f0 t1 c2 fL).bind fun lE=>(if aL.length+([lE]:List Int).length≤4294967296 then some (.inl ((aL++([lE]:List Int)),(au (fL+1)))) else none) else some (.inr aL))
def FF.nS(f0:ae)(t1:List ai)(c2:aQ)(cO:Int)(nM:List (List ab)):Option ((List ab)×Int×Int):=(loop (FF.ko f0 t1 c2) ([],0)).bind fun F'=>FF.ue f0 t1 c2 cO nM F'
def FF.p7(f0:ae)(t1:List ai)(c2:aQ):((List (List ab))×Int)→Option (((List (List ab))×Int)⊕((List (List ab))))
 | (o5,jb)=>(if(decide (jb<(t1.length:Int)))=true then(ix t1 jb).bind fun Xp=>(FN f0 Xp c2).bind fun aA=>(if o5.length+1≤4294967296 then some (.inl ((o5++ [aA]),(au (jb+1)))) else none) else some (.inr o5))
def FF(f0:ae)(t1:List ai)(c2:aQ)(cO:Int):Option ((List ab)×Int×Int):=(OC f0 t1 c2).bind fun eO=>(if(eO !=0)=true then some (([]:List ab),0,eO) else(FD cO 0 20000).bind fun afM=>(if(!afM)=true then some (([]:List ab),0,2) else(loop (FF.p7 f0 t1 c2) (([]:List (List ab)),0)).bind fun R5=>FF.nS f0 t1 c2 cO R5))
set_option maxHeartbeats 8000000 in
theorem FF.c(f0:ae)(t1:List ai)(c2:aQ)(cO:Int)(w:World)(r:(List ab)×Int×Int){bj:Option Addr}{bm:Nat}(bi:Nat)(dr:Rw w bj 2 ay f0.aa)(cE:f0.aa.length=bm){bL:Option Addr}{bG:Nat}(bQ:Nat)(dL:Rw w bL 2 aF t1)(dU:t1.length=bG)(aH:Nat)(fG:Mem w (bs [some aH]) [⟨some aH,29,cG f0 bj bm bi⟩] w)(fx:f0.aa≠ []→aB bj∉bs [some aH])(eL:t1≠ []→aB bL∉bs [some aH])(h:FF f0 t1 c2 cO=some r):
   Cr 99 #[(vP aH),(.slice bL bG bQ),(.agg (aC c2)),(vI cO)] w fun v w'=>∃(o0:Option Nat) (c0:Nat) (s0:List Value) (n0:Nat),r.1.length=n0∧(hS o0 n0 c0 s0 4)∧(hO o0 r.1 c0)∧v= .tuple #[.slice (mB o0) n0 c0,(vI r.2.1),(vI r.2.2)]∧Mem w (bs [some aH]) [⟨some aH,29,cG f0 bj bm bi⟩,⟨o0,72,row af r.1 s0⟩] w':=by
 subst cE dU
 rw [FF] at h
 refine eN Tryz.func99 rfl Tryz.ntmps99 fG (ad (ao (oA 0 (fun p_=>qh [0,0,0] (eT (ad (cR [0,0,1] (bE h fun eO afN h=>oC 0 (fun w hm=>OC.c f0 t1 c2 w _ bi (hm.aM dr fx) rfl bQ (hm.aM dL eL) rfl aH (hm.ps [0]) (hm.xp dr fx [0]) (hm.xp dL eL [0]) afN) ?_))))))))
 rintro w v w' hm ⟨rfl,bn⟩
 refine ⟨_,hm.aW [(0,⟨some aH,29,cF f0 bj bi⟩)] [] bn,oH [0] (eT (cT [0,0] (qi h (fun h=> ?_) (fun h=> ?_))))⟩
 ·refine ad (ao (oA 0 (fun Dw=>qh [0,0,0,0] (eT (rX ?_)))))
  obtain rfl:=si h
  exact qr [] (fun w hm=>⟨(some Dw),0,[],0,rfl,(fun _=>⟨bt _,by simp⟩),(fun e=>nomatch e),rfl,hm.pk [0,2]⟩)
 ·refine kT (ad (cR [0] (bE h fun afM Kz h=>oQ 0 (fun w hm=>FD.c cO 0 20000 w _ Kz) (qh [0] (eT (qi h (fun h=> ?_) (fun h=> ?_)))))))
  ·refine ad (ao (oA 0 (fun A3=>qh [0,0,0] (eT (rX ?_)))))
   obtain rfl:=si h
   exact qr [] (fun w hm=>⟨(some A3),0,[],0,rfl,(fun _=>⟨bt _,by simp⟩),(fun e=>nomatch e),rfl,hm.pk [0,2]⟩)
  ·refine kT (cR [0,0,1,0,0] (tO (qa 0 (fun pU=>DC 42 dZ (Ba af (oH [0] (eT (ad (cT [0] (aK (fun(j:(List (List ab))×(List Hd)×(Option Nat)×Nat×(List Value)×Nat)=>match j with | ⟨nM,kP,lU,ct,fQ,PR⟩=>FF.nS f0 t1 c2 cO nM=some r∧(kP.length=PR)∧(hS lU PR ct fQ 1)∧(hO lU kP ct)∧(ph kP nM)) (fun⟨nM,kP,lU,ct,fQ,PR⟩=> [(0,[],(vP aH)),(1,[],(.slice bL t1.length bQ)),(6,[],(vP p_)),(8,[],(.slice none 0 0)),(9,[],(vI 0)),(10,[],(vI 0)),(12,[],(vP pU))]) (fun⟨nM,kP,lU,ct,fQ,PR⟩=> [⟨some aH,29,cF f0 bj bi⟩,⟨some p_,46,cC c2⟩,⟨some pU,214,[(vP aH),(.slice bL t1.length bQ),(vH c2.bJ),(vH c2.ba),(vH c2.du),(.slice (mB lU) PR ct),(.slice none 0 0),(vI cO),(vI 0),(.bool false),(.slice none 0 0),(vI 0)]⟩,⟨lU,42,row dZ kP fQ⟩,⟨none,kR,fJ af kP nM⟩]) ?_ ?_))))))))))
   ·refine ap ?_
    obtain⟨R5,R9,afO⟩:=bd h
    refine jl (fun(s:(List (List ab))×Int) (x:(List Hd)×(Option Nat)×Nat×(List Value)×Nat)=>match s,x with | ⟨o5,jb⟩,⟨j0,kJ,gV,jT,PT⟩=>(j0.length=PT)∧(hS kJ PT gV jT 1)∧(hO kJ j0 gV)∧(ph j0 o5)) (fun⟨o5,jb⟩ ⟨j0,kJ,gV,jT,PT⟩=> [(0,[],(vP aH)),(1,[],(.slice bL t1.length bQ)),(6,[],(vP p_)),(8,[],(.slice none 0 0)),(9,[],(vI 0)),(10,[],(vI 0)),(12,[],(vP pU)),(13,[],(vI jb))]) (fun⟨o5,jb⟩ ⟨j0,kJ,gV,jT,PT⟩=> [⟨some aH,29,cF f0 bj bi⟩,⟨some p_,46,cC c2⟩,⟨some pU,214,[(vP aH),(.slice bL t1.length bQ),(vH c2.bJ),(vH c2.ba),(vH c2.du),(.slice (mB kJ) PT gV),(.slice none 0 0),(vI cO),(vI 0),(.bool false),(.slice none 0 0),(vI 0)]⟩,⟨kJ,42,row dZ j0 jT⟩,⟨none,kR,fJ af j0 o5⟩]) R9 ⟨([]:List Hd),(none:Option Nat),0,[],0⟩ ⟨rfl,(fun e=>absurd rfl e),(fun _=>⟨rfl,rfl⟩),ph.nil⟩ [0,1,2,3,4] ?_
    rintro⟨o5,jb⟩ ⟨j0,kJ,gV,jT,PT⟩ akk ⟨rfl,BU,OH,qA⟩ h
    rw [FF.p7] at h
    refine ad (cT [0,0,0,0] (qi h (fun h=> ?_) (fun h=> ?_)))
    ·refine kT (ad (ap (qg [⟨some aH,29,cF f0 bj bi⟩,⟨some p_,46,cC c2⟩] 17 (qd [⟨0,0,0⟩,⟨1,0,0⟩,⟨2,0,0⟩,⟨3,0,0⟩,⟨5,0,0⟩,⟨6,0,0⟩,⟨7,0,0⟩,⟨10,1,0⟩] 9 [0,1] (bE h fun Xp DA h=>qX 8 0 [0,1] bL 2 DA rfl (dL.sp DA) (qL 9 0 [0,1] true (fun w hm=>(hm.aM dL eL).at DA) (t2 4 11 ?_ ?_)))))))
     ·refine qs 0 [2] (kD [0,1] (bE h fun aA TD h=>tD 11 (pc 0 (fun w hm=>FN.c f0 Xp c2 w _ bi (hm.aM dr fx) rfl aH (hm.ps [0]) (hm.xp dr fx [0]) TD) ?_)))
      rintro w v w' hm ⟨tB,li,GO,_,rfl,Y8,Dx,rfl,bn⟩
      refine ⟨_,hm.aW [(0,⟨some aH,29,cF f0 bj bi⟩)] [⟨tB,72,row af aA GO⟩] bn,kD [0,1] (tD 12 (qa 0 (fun WR=>kD [0,1] ?_)))⟩
      obtain⟨Sr,h⟩:=gd h
      exact tD 13 (pA 0 3 kJ 42 j0.length 1 gV 1 24 (sB WR) dZ j0 [(Hd.mk (mB tB) aA.length li)] jT (.slice none 0 0) rfl rfl fe nI BU OH (fun w hm=>(hm.ow 6 (some WR) 42 ([(Hd.mk (mB tB) aA.length li)]) [] (fun e=>nomatch e) fe)) (y_ qA Sr) (fun aaJ Mx Ss Su Sv=>A' (bh:=af) (hs:=j0) (iG:=o5) (o:=tB) (T:=72) (xs:=aA) (sp:=GO) 4 5 aA.length li qA (kD [0,1] (qd [⟨14,0,0⟩,⟨15,0,0⟩] 1 [0,1] (tD 16 (qs 0 [2] (kD [0,1] (qz (nT (cH [0,0,0] (qe (qb ((o5++ [aA]),(au (jb+1))) ⟨(j0++ [(Hd.mk (mB tB) aA.length li)]),aaJ,Mx,Ss,(j0++ [(Hd.mk (mB tB) aA.length li)]).length⟩ h ⟨rfl,Su,Sv,(qA.snoc (o:=tB) rfl (fun e=>(Dx e).1))⟩ [0,1,2,3,4]))))))))))))
     ·refine bE h fun aA afP h=>pc 0 (fun w hm=>FN.c f0 Xp c2 w _ bi (hm.aM dr fx) rfl aH (hm.ps [0]) (hm.xp dr fx [0]) afP) ?_
      rintro w v w' hm ⟨kp,ls,rl,_,rfl,ajD,th,rfl,bn⟩
      refine ⟨_,hm.aW [(0,⟨some aH,29,cF f0 bj bi⟩)] [⟨kp,72,row af aA rl⟩] bn,kD [0,1] (t2 4 12 ?_ ?_)⟩
      ·refine qs 0 [2] (kD [0,1] (tD 12 (qa 0 (fun afQ=>kD [0,1] ?_))))
       obtain⟨SF,h⟩:=gd h
       exact tD 13 (pA 0 3 kJ 42 j0.length 1 gV 1 24 (sB afQ) dZ j0 [(Hd.mk (mB kp) aA.length ls)] jT (.slice none 0 0) rfl rfl fe nI BU OH (fun w hm=>(hm.ow 6 (some afQ) 42 ([(Hd.mk (mB kp) aA.length ls)]) [] (fun e=>nomatch e) fe)) (y_ qA SF) (fun Xq abg afR afS TW=>A' (bh:=af) (hs:=j0) (iG:=o5) (o:=kp) (T:=72) (xs:=aA) (sp:=rl) 4 5 aA.length ls qA (kD [0,1] (qd [⟨14,0,0⟩,⟨15,0,0⟩] 1 [0,1] (tD 16 (qs 0 [2] (kD [0,1] (qz (nT (cH [0,0,0] (qe (qb ((o5++ [aA]),(au (jb+1))) ⟨(j0++ [(Hd.mk (mB kp) aA.length ls)]),Xq,abg,afR,(j0++ [(Hd.mk (mB kp) aA.length ls)]).length⟩ h ⟨rfl,afS,TW,(qA.snoc (o:=kp) rfl (fun e=>(th e).1))⟩ [0,1,2,3,4]))))))))))))
      ·refine qa 0 (fun R'=>kD [0,1] (tD 4 (qs 0 [2] (kD [0,1] ?_))))
       obtain⟨afT,h⟩:=gd h
       exact tD 13 (pA 0 3 kJ 42 j0.length 1 gV 1 24 (sB R') dZ j0 [(Hd.mk (mB kp) aA.length ls)] jT (.slice none 0 0) rfl rfl fe nI BU OH (fun w hm=>(hm.ow 6 (some R') 42 ([(Hd.mk (mB kp) aA.length ls)]) [] (fun e=>nomatch e) fe)) (y_ qA afT) (fun abh MS Hi TX TY=>A' (bh:=af) (hs:=j0) (iG:=o5) (o:=kp) (T:=72) (xs:=aA) (sp:=rl) 4 5 aA.length ls qA (kD [0,1] (qd [⟨14,0,0⟩,⟨15,0,0⟩] 1 [0,1] (tD 16 (qs 0 [2] (kD [0,1] (qz (nT (cH [0,0,0] (qe (qb ((o5++ [aA]),(au (jb+1))) ⟨(j0++ [(Hd.mk (mB kp) aA.length ls)]),abh,MS,Hi,(j0++ [(Hd.mk (mB kp) aA.length ls)]).length⟩ h ⟨rfl,TX,TY,(qA.snoc (o:=kp) rfl (fun e=>(th e).1))⟩ [0,1,2,3,4]))))))))))))
    ·exact lX o5 h (fun e=>by subst e;exact bo (qm ⟨o5,j0,kJ,gV,jT,j0.length⟩ ⟨afO,rfl,BU,OH,qA⟩ [0,1,2,3,4]))
   ·rintro⟨nM,kP,lU,ct,fQ,PR⟩ ⟨h,rfl,ajE,vx,TZ⟩
    unfold FF.nS at h
    refine aP (ad (cT [0] (aK (fun(j:(List Int)×(Option Nat)×Nat×(List Value)×Nat)=>match j with | ⟨fX,fj,ec,yB,PU⟩=>FF.ue f0 t1 c2 cO nM fX=some r∧(fX.length=PU)∧(hS fj PU ec yB 1)∧(hO fj fX ec)) (fun⟨fX,fj,ec,yB,PU⟩=> [(8,[],(.slice none 0 0)),(9,[],(vI 0)),(10,[],(vI 0)),(12,[],(vP pU))]) (fun⟨fX,fj,ec,yB,PU⟩=> [⟨some aH,29,cF f0 bj bi⟩,⟨some p_,46,cC c2⟩,⟨some pU,214,[(vP aH),(.slice bL t1.length bQ),(vH c2.bJ),(vH c2.ba),(vH c2.du),(.slice (mB lU) kP.length ct),(.slice (mB fj) PU ec),(vI cO),(vI 0),(.bool false),(.slice none 0 0),(vI 0)]⟩,⟨lU,42,row dZ kP fQ⟩,⟨none,kR,fJ af kP nM⟩,⟨fj,2,row aG fX yB⟩]) ?_ ?_)))
    ·refine ap ?_
     obtain⟨F',D3,Td⟩:=bd h
     refine wA 2 aG (jl (fun(s:(List Int)×Int) (x:(Option Nat)×Nat×(List Value)×Nat)=>match s,x with | ⟨aL,fL⟩,⟨ta,iT,sE,PV⟩=>(aL.length=PV)∧(hS ta PV iT sE 1)∧(hO ta aL iT)) (fun⟨aL,fL⟩ ⟨ta,iT,sE,PV⟩=> [(0,[],(vP aH)),(1,[],(.slice bL t1.length bQ)),(6,[],(vP p_)),(8,[],(.slice none 0 0)),(9,[],(vI 0)),(10,[],(vI 0)),(12,[],(vP pU)),(14,[],(vI fL))]) (fun⟨aL,fL⟩ ⟨ta,iT,sE,PV⟩=> [⟨some aH,29,cF f0 bj bi⟩,⟨some p_,46,cC c2⟩,⟨some pU,214,[(vP aH),(.slice bL t1.length bQ),(vH c2.bJ),(vH c2.ba),(vH c2.du),(.slice (mB lU) kP.length ct),(.slice (mB ta) PV iT),(vI cO),(vI 0),(.bool false),(.slice none 0 0),(vI 0)]⟩,⟨lU,42,row dZ kP fQ⟩,⟨none,kR,fJ af kP nM⟩,⟨ta,2,row aG aL sE⟩]) D3 ⟨none,0,[],0⟩ ⟨rfl,(fun e=>absurd rfl e),(fun _=>⟨rfl,rfl⟩)⟩ [0,1,2,3,4,5] ?_)
     rintro⟨aL,fL⟩ ⟨ta,iT,sE,PV⟩ akl ⟨rfl,KO,B0⟩ h
     rw [FF.ko] at h
     refine ad (cT [0,0,0,0] (qi h (fun h=> ?_) (fun h=> ?_)))
     ·refine kT (ad (ap (qg [⟨some aH,29,cF f0 bj bi⟩,⟨some p_,46,cC c2⟩,⟨lU,42,row dZ kP fQ⟩,⟨none,kR,fJ af kP nM⟩] 15 (qd [⟨0,0,0⟩,⟨1,0,0⟩,⟨2,0,0⟩,⟨3,0,0⟩,⟨5,0,0⟩,⟨6,0,0⟩,⟨7,1,0⟩,⟨8,0,0⟩] 7 [0,1,3,4] (t2 4 9 ?_ ?_)))))
      ·refine qs 0 [2] (kD [0,1,3,4] (bE h fun lE Ts h=>tD 9 (pc 0 (fun w hm=>Hh.c f0 t1 c2 fL w _ bi (hm.aM dr fx) rfl bQ (hm.aM dL eL) rfl aH (hm.ps [0]) (hm.xp dr fx [0]) (hm.xp dL eL [0]) Ts) ?_)))
       rintro w v w' hm ⟨rfl,bn⟩
       refine ⟨_,hm.aW [(0,⟨some aH,29,cF f0 bj bi⟩)] [] bn,kD [0,1,3,4] (tD 10 (qa 0 (fun afU=>kD [0,1,3,4] ?_)))⟩
       obtain⟨afV,h⟩:=gd h
       exact tD 11 (pA 0 5 ta 2 aL.length 1 iT 1 8 (sB afU) aG aL ([lE]:List Int) sE (vI 0) rfl rfl bf fT KO B0 (fun w hm=>(hm.ow 6 (some afU) 2 ([lE]:List Int) [] (fun e=>nomatch e) bf)) afV (fun aiB abi afW afX T0=>kD [0,1,3,4] (qd [⟨12,0,0⟩,⟨13,0,0⟩] 1 [0,1,3,4] (tD 14 (qs 0 [2] (kD [0,1,3,4] (qz (nT (cH [0,0,0] (qe (qb ((aL++([lE]:List Int)),(au (fL+1))) ⟨aiB,abi,afW,(aL++([lE]:List Int)).length⟩ h ⟨rfl,afX,T0⟩ [0,1,2,3,4,5])))))))))))
      ·refine bE h fun lE KG h=>pc 0 (fun w hm=>Hh.c f0 t1 c2 fL w _ bi (hm.aM dr fx) rfl bQ (hm.aM dL eL) rfl aH (hm.ps [0]) (hm.xp dr fx [0]) (hm.xp dL eL [0]) KG) ?_
       rintro w v w' hm ⟨rfl,bn⟩
       refine ⟨_,hm.aW [(0,⟨some aH,29,cF f0 bj bi⟩)] [] bn,kD [0,1,3,4] (t2 4 10 ?_ ?_)⟩
       ·refine qs 0 [2] (kD [0,1,3,4] (tD 10 (qa 0 (fun afY=>kD [0,1,3,4] ?_))))
        obtain⟨TO,h⟩:=gd h
        exact tD 11 (pA 0 5 ta 2 aL.length 1 iT 1 8 (sB afY) aG aL ([lE]:List Int) sE (vI 0) rfl rfl bf fT KO B0 (fun w hm=>(hm.ow 6 (some afY) 2 ([lE]:List Int) [] (fun e=>nomatch e) bf)) TO (fun aba Ef TP TQ TR=>kD [0,1,3,4] (qd [⟨12,0,0⟩,⟨13,0,0⟩] 1 [0,1,3,4] (tD 14 (qs 0 [2] (kD [0,1,3,4] (qz (nT (cH [0,0,0] (qe (qb ((aL++([lE]:List Int)),(au (fL+1))) ⟨aba,Ef,TP,(aL++([lE]:List Int)).length⟩ h ⟨rfl,TQ,TR⟩ [0,1,2,3,4,5])))))))))))
       ·refine qa 0 (fun afZ=>kD [0,1,3,4] (tD 4 (qs 0 [2] (kD [0,1,3,4] ?_))))
        obtain⟨TS,h⟩:=gd h
        exact tD 11 (pA 0 5 ta 2 aL.length 1 iT 1 8 (sB afZ) aG aL ([lE]:List Int) sE (vI 0) rfl rfl bf fT KO B0 (fun w hm=>(hm.ow 6 (some afZ) 2 ([lE]:List Int) [] (fun e=>nomatch e) bf)) TS (fun aiC abj af0 af1 af2=>kD [0,1,3,4] (qd [⟨12,0,0⟩,⟨13,0,0⟩] 1 [0,1,3,4] (tD 14 (qs 0 [2] (kD [0,1,3,4] (qz (nT (cH [0,0,0] (qe (qb ((aL++([lE]:List Int)),(au (fL+1))) ⟨aiC,abj,af0,(aL++([lE]:List Int)).length⟩ h ⟨rfl,af1,af2⟩ [0,1,2,3,4,5])))))))))))
     ·exact lX aL h (fun e=>by subst e;exact bo (qm ⟨aL,ta,iT,sE,aL.length⟩ ⟨Td,rfl,KO,B0⟩ [0,1,2,3,4,5]))
    ·rintro⟨fX,fj,ec,yB,PU⟩ ⟨h,rfl,ajF,Kw⟩
     unfold FF.ue at h
     refine aP (ad (cR [0,0] (oA 0 (fun PW=>bE h fun eo af3 h=>tO (C6 72 af (pc 0 (fun w hm=>Fv.c (⟨f0,t1,c2,nM,fX,cO,0,false,([]:List ab),0⟩:bS) (av.dC 96 0) ([]:List ab) 0 w _ bi (hm.aM dr fx) rfl bQ (hm.aM dL eL) rfl ct (hm.ow 3 lU 42 kP fQ (fun e=>(vx e).1) fe) (TZ.1.symm.trans rfl) ec (hm.ow 5 fj 2 fX yB (fun e=>(Kw e).1) bf) rfl 0 rfl 0 (hm.ow 6 (some PW) 72 ([]:List ab) [] (fun e=>nomatch e) az) rfl pU aH (hm.ps (N:= [⟨some pU,214,[(vP aH),(.slice bL t1.length bQ),(vH c2.bJ),(vH c2.ba),(vH c2.du),(.slice (mB lU) kP.length ct),(.slice (mB fj) fX.length ec),(vI cO),(vI 0),(.bool false),(.slice ((none:Option Nat).map fun b=>⟨b,0,none⟩) 0 0),(vI 0)]⟩,⟨some aH,29,cF f0 bj bi⟩]) [2,0]) (hm.xp dr fx [2,0]) (hm.xp dL eL [2,0]) (hm.oa 3 lU (fun e=>(vx e).1) [2,0]) (hm.tq (N:= [⟨some pU,214,[(vP aH),(.slice bL t1.length bQ),(vH c2.bJ),(vH c2.ba),(vH c2.du),(.slice (mB lU) kP.length ct),(.slice (mB fj) fX.length ec),(vI cO),(vI 0),(.bool false),(.slice ((none:Option Nat).map fun b=>⟨b,0,none⟩) 0 0),(vI 0)]⟩,⟨some aH,29,cF f0 bj bi⟩]) 4 TZ az [2,0]) (hm.oa 5 fj (fun e=>(Kw e).1) [2,0]) (hm.oa 6 (some PW) (fun e=>nomatch e) [2,0]) af3) ?_))))))
     rintro w v w' hm ⟨aiD,akm,u',af4,_,rfl,af5,rfl,bn⟩
     obtain⟨Gl,yx,af6,OI⟩:=Mem.YF (T:=72) (bh:=af) (o1:=(none:Option Nat)) (H7:= []) (H8:=([]:List ab)) (o:=aiD) (sp:=af4) (xs:=eo.2.bp) (F:= []) (o2:=(some PW)) (Sh:= []) (LC:=([]:List ab)) (hm.aw [2,0] bn) 7 6 8 (by kernel_rfl) (by kernel_rfl) (by kernel_rfl) (by kernel_rfl) (lsO (fun e=>absurd rfl e) (fun _=>⟨rfl,rfl⟩)) rfl (fun _=>⟨bt _,by simp⟩) (fun e=>nomatch e) rfl rfl af5
     obtain⟨rfl,TT,TU⟩:=af6.own
     refine⟨_,Mem.pick OI (N:= [⟨some aH,29,cF f0 bj bi⟩,⟨some p_,46,cC c2⟩,⟨some pU,214,[(vP aH),(.slice bL t1.length bQ),(vH eo.2.fc.bJ),(vH eo.2.fc.ba),(vH eo.2.fc.du),(.slice (mB lU) kP.length ct),(.slice (mB fj) fX.length ec),(vI eo.2.bA),(vI eo.2.gi),(.bool eo.2.c7),(.slice (mB Gl) eo.2.bp.length u'),(vI eo.2.d_)]⟩,⟨lU,42,row dZ kP fQ⟩,⟨none,kR,fJ af kP nM⟩,⟨fj,2,row aG fX yB⟩,⟨none,0,[]⟩,⟨Gl,72,row af eo.2.bp yx⟩]) [0,1,2,3,4,5,6,7] (by kernel_rfl) (by kernel_rfl),fB ?_⟩
     clear hm bn OI
     refine qh [0] (eT (qi h (fun h=> ?_) (fun h=> ?_)))
     ·refine ad (ao (oA 0 (fun aiE=>qh [0,0,0] (eT (rX ?_)))))
      obtain rfl:=si h
      exact qr [] (fun w hm=>⟨(some aiE),0,[],0,rfl,(fun _=>⟨bt _,by simp⟩),(fun e=>nomatch e),rfl,hm.pk [0,8]⟩)
     ·refine kT (ad (qg [⟨some aH,29,cF f0 bj bi⟩,⟨some p_,46,cC c2⟩,⟨some pU,214,[(vP aH),(.slice bL t1.length bQ),(vH eo.2.fc.bJ),(vH eo.2.fc.ba),(vH eo.2.fc.du),(.slice (mB lU) kP.length ct),(.slice (mB fj) fX.length ec),(vI eo.2.bA),(vI eo.2.gi),(.bool eo.2.c7),(.slice (mB Gl) eo.2.bp.length u'),(vI eo.2.d_)]⟩,⟨lU,42,row dZ kP fQ⟩,⟨none,kR,fJ af kP nM⟩,⟨fj,2,row aG fX yB⟩,⟨none,0,[]⟩,⟨Gl,72,row af eo.2.bp yx⟩] 11 (qd [⟨0,0,0⟩,⟨1,0,0⟩,⟨2,0,0⟩,⟨3,2,0⟩,⟨4,0,0⟩,⟨5,0,0⟩,⟨6,0,0⟩,⟨7,2,0⟩,⟨8,0,0⟩,⟨9,0,0⟩,⟨10,0,0⟩] 0 [0,1,2,3,4,5,6,7] (qz (xR ?_)))))
      obtain rfl:=si h
      exact qr [] (fun w hm=>⟨Gl,u',yx,eo.2.bp.length,rfl,TT,TU,rfl,hm.pk [0,7]⟩)
def Fb5(f0:ae)(t1:List ai)(c2:aQ)(cO:Int):Option ((List ab)×Int×Int):=(FF f0 t1 c2 cO).bind fun aA=>some (aA.1,aA.2.1,aA.2.2)
theorem Fb5.c(f0:ae)(t1:List ai)(c2:aQ)(cO:Int)(w:World)(r:(List ab)×Int×Int){bj:Option Addr}{bm:Nat}(bi:Nat)(dr:Rw w bj 2 ay f0.aa)(cE:f0.aa.length=bm){bL:Option Addr}{bG:Nat}(bQ:Nat)(dL:Rw w bL 2 aF t1)(dU:t1.length=bG)(h:Fb5 f0 t1 c2 cO=some r):
   Cr 42 #[(.agg #[(vH f0.ag),(.slice bj bm bi)]),(.slice bL bG bQ),(.agg (aC c2)),(vI cO)] w fun v w'=>∃(o0:Option Nat) (c0:Nat) (s0:List Value) (n0:Nat),r.1.length=n0∧(hS o0 n0 c0 s0 4)∧(hO o0 r.1 c0)∧v= .tuple #[.slice (mB o0) n0 c0,(vI r.2.1),(vI r.2.2)]∧Mem w [] [⟨o0,72,row af r.1 s0⟩] w':=by
 subst cE dU
 rw [Fb5] at h
 refine en Tryz.func42 rfl Tryz.ntmps42 (ad (ao (oA 0 (fun cD=>oA 0 (fun rO=>qh [0,0,0] (eT (cR [0,1,0] (bE h fun aA jP h=>oC 0 (fun w hm=>FF.c f0 t1 c2 cO w _ bi (hm.xr dr) rfl bQ (hm.xr dL) rfl cD (hm.ps [0]) (hm.xp dr (fun _=>cq) [0]) (hm.xp dL (fun _=>cq) [0]) jP) ?_))))))))
 rintro w v w' hm ⟨vT,l_,Gi,_,rfl,aaz,u7,rfl,bn⟩
 refine ⟨_,hm.aW [(0,⟨some cD,29,cF f0 bj bi⟩)] [⟨vT,72,row af aA.1 Gi⟩] bn,oH [0,0,0,0,0,0] (eT (aI ?_))⟩
 obtain rfl:=si h
 exact qr [] (fun w hm=>⟨vT,l_,Gi,aA.1.length,rfl,aaz,u7,rfl,hm.pk [2]⟩)
def F7.iQ:Option (Int):=some (-1)
def F7.e7(s0:List ab)(v1:ab):Int→Option ((Int)⊕(Int⊕Unit))
 | aR=>(if(decide (aR<(s0.length:Int)))=true then(ix s0 aR).bind fun eW=>(if((v1.bJ==eW.bJ)&&((v1.cP==eW.cP)&&((v1.ba==eW.ba)&&(v1.eU==eW.eU))))=true then some (.inr (.inl aR)) else some (.inl (au (aR+1)))) else some (.inr (.inr ())))
def F7(s0:List ab)(v1:ab):Option (Int):=(loop (F7.e7 s0 v1) 0).bind fun eo=>match eo with | .inl p=>some p | .inr p=>F7.iQ
theorem F7.c(s0:List ab)(v1:ab)(w:World)(r:Int){cQ:Option Addr}{ck:Nat}(bX:Nat)(eX:Rw w cQ 4 af s0)(dH:s0.length=ck)(h:F7 s0 v1=some r):
   Cq 207 #[(.slice cQ ck bX),(.agg (aY v1))] w (vI r) [] []:=by
 subst dH
 rw [F7] at h
 refine en Tryz.func207 rfl Tryz.ntmps207 (ad (ao (oA 0 (fun fV=>qh [0] (eT (ad (cT [0,0,0] (aK (fun(_:Unit)=>F7.iQ=some r) (fun(_:Unit)=> [(4,[],(vI 0))]) (fun(_:Unit)=> [⟨some fV,72,cY v1⟩]) ?_ ?_))))))))
 ·refine ap ?_
  obtain⟨eo,km,sZ⟩:=bd h
  refine jl (fun(aR:Int) (_:Unit)=>True) (fun aR _=> [(0,[],(.slice cQ s0.length bX)),(3,[],(vP fV)),(4,[],(vI 0)),(7,[],(vI (s0.length:Int))),(8,[],(vI aR))]) (fun aR _=> [⟨some fV,72,cY v1⟩]) km () trivial [0] ?_
  rintro aR _ y_9 _ h
  rw [F7.e7] at h
  refine cT [0] (ad (qi h (fun h=> ?_) (fun h=> ?_)))
  ·refine kT (ad (ap (cT [0,0] (ad (qg [⟨some fV,72,cY v1⟩] 6 (qd [⟨0,0,0⟩,⟨1,0,0⟩,⟨2,0,0⟩] 3 [0] (bE h fun eW pP h=>qX 3 0 [0] cQ 4 pP rfl (eX.sp pP) (qL 4 0 [0] true (fun w hm=>(hm.xr eX).at pP) (qd [⟨5,0,0⟩] 0 [0] (zT (qi h (fun h=> ?_) (fun h=> ?_))))))))))))
   ·refine cT [0,0] (aI (cg (aT (c_ (.inl aR) (sj h) (fun e_7=> ?_)))))
    subst e_7
    refine cg (aT (aT ?_))
    obtain rfl:=si sZ
    exact qP []
   ·exact bV (nT (cH [0,0] (qe (qb (au (aR+1)) () h trivial [0]))))
  ·exact lX (.inr ()) h (fun e=>by subst e;exact bo (qm () sZ [0]))
 ·rintro _ h
  unfold F7.iQ at h
  refine aP (cT [0] (aI ?_))
  cases h
  exact qP []
def Fa1(s0:List ab)(v1:ab):Option (Bool):=(F7 s0 v1).bind fun aA=>some (decide (aA≥0))
theorem Fa1.c(s0:List ab)(v1:ab)(w:World)(r:Bool){cQ:Option Addr}{ck:Nat}(bX:Nat)(eX:Rw w cQ 4 af s0)(dH:s0.length=ck)(h:Fa1 s0 v1=some r):
   Cq 192 #[(.slice cQ ck bX),(.agg (aY v1))] w (.bool r) [] []:=by
 subst dH
 rw [Fa1] at h
 refine en Tryz.func192 rfl Tryz.ntmps192 (ad (ao (oA 0 (fun cD=>qh [0] (eT (cR [0,0] (bE h fun aA iD h=>oQ 0 (fun w hm=>F7.c s0 v1 w _ bX (hm.xr eX) rfl iD) (qh [0,0] (eT (aI ?_))))))))))
 cases h
 exact qP []
def FZ.fk(aU:List ab)(rm:av 96 Int):Option ((av 96 Int)×Int):=some (rm,(aU.length:Int))
def FZ.og(t1:List ai)(gJ:av 96 Int)(bK:Int)(eW:ab)(sW:Bool):Option (((av 96 Int)×Int)⊕(((av 96 Int)×Int)⊕(av 96 Int))):=(if sW=true then some (.inr (.inl ((av.dC 96 0),bK))) else(ix t1 bK).bind fun wh=>(Xm gJ wh eW).bind fun i_=>some (.inl (i_,(au (bK+1)))))
def FZ.fY(f0:ae)(t1:List ai)(aU:List ab):((av 96 Int)×Int)→Option (((av 96 Int)×Int)⊕(((av 96 Int)×Int)⊕(av 96 Int)))
 | (gJ,bK)=>(if(decide (bK<(aU.length:Int)))=true then(ix aU bK).bind fun eW=>(ix t1 bK).bind fun my=>(Fm f0 my).bind fun jU=>(Fa1 jU eW).bind fun iq=>(if(!iq)=true then FZ.og t1 gJ bK eW true else(ix t1 bK).bind fun oj=>(Xl f0 gJ oj eW).bind fun lj=>FZ.og t1 gJ bK eW (!lj)) else some (.inr (.inr gJ)))
def FZ(f0:ae)(t1:List ai)(aU:List ab):Option ((av 96 Int)×Int):=(loop (FZ.fY f0 t1 aU) ((av.dC 96 0),0)).bind fun kI=>match kI with | .inl p=>some p | .inr p=>FZ.fk aU p
theorem FZ.c(f0:ae)(t1:List ai)(aU:List ab)(w:World)(r:(av 96 Int)×Int){bj:Option Addr}{bm:Nat}(bi:Nat)(dr:Rw w bj 2 ay f0.aa)(cE:f0.aa.length=bm){bL:Option Addr}{bG:Nat}(bQ:Nat)(dL:Rw w bL 2 aF t1)(dU:t1.length=bG){dI:Option Addr}{db:Nat}(eA:Nat)(g_:Rw w dI 4 af aU)(ga:aU.length=db)(h:FZ f0 t1 aU=some r):
   Cr 159 #[(.agg #[(vH f0.ag),(.slice bj bm bi)]),(.slice bL bG bQ),(.slice dI db eA)] w fun v w'=>v= .tuple #[(.agg (row aj r.1.1 []).toArray),(vI r.2)]∧Mem w [] [] w':=by
 subst cE dU ga
 rw [FZ] at h
 refine en Tryz.func159 rfl Tryz.ntmps159 (ad (ao (oA 0 (fun gC=>oA 0 (fun gx=>qh [0] (eT (cR [0] (oA 0 (fun cD=>tO (pS 0 2 cD 96 1 36 aj (av.dC 96 0) (av.dC 96 0) an bk (fB (eT (ad (cT [0,0,0] (aK (fun(rm:(av 96 Int))=>FZ.fk aU rm=some r) (fun rm=> [(2,[],(.slice dI aU.length eA)),(6,[],(vP gx)),(7,[],(vI 0)),(8,[],(vP cD))]) (fun rm=> [⟨some gC,29,cF f0 bj bi⟩,⟨(some gx),36,row aj ((av.dC 96 0).1) []⟩,⟨(some cD),36,row aj rm.1 []⟩]) ?_ ?_)))))))))))))))
 ·refine ap ?_
  obtain⟨kI,sa,Zd⟩:=bd h
  refine jl (fun(s:(av 96 Int)×Int) (x:Unit)=>match s,x with | ⟨gJ,bK⟩,_=>True) (fun⟨gJ,bK⟩ _=> [(1,[],(.slice bL t1.length bQ)),(2,[],(.slice dI aU.length eA)),(3,[],(vP gC)),(6,[],(vP gx)),(7,[],(vI 0)),(8,[],(vP cD)),(12,[],(.slice dI aU.length eA)),(13,[],(vI (aU.length:Int))),(14,[],(vI bK))]) (fun⟨gJ,bK⟩ _=> [⟨some gC,29,cF f0 bj bi⟩,⟨(some gx),36,row aj ((av.dC 96 0).1) []⟩,⟨(some cD),36,row aj gJ.1 []⟩]) sa () trivial [0,1,2] ?_
  rintro⟨gJ,bK⟩ _ aaZ _ h
  rw [FZ.fY] at h
  refine cT [0] (ad (qi h (fun h=> ?_) (fun h=> ?_)))
  ·refine kT (ad (ap (cR [0] (bE h fun eW rq h=>oX 0 dI 4 rq rfl (g_.sp rq) (oL 0 true (fun w hm=>((hm.xr g_).at rq)) (oA 0 (fun A4=>qh [0] (oS 0 [3] (eT (s2 (aK (fun(sW:Bool)=>FZ.og t1 gJ bK eW sW=some aaZ) (fun sW=> [(1,[],(.slice bL t1.length bQ)),(2,[],(.slice dI aU.length eA)),(3,[],(vP gC)),(6,[],(vP gx)),(7,[],(vI 0)),(8,[],(vP cD)),(9,[],(vI bK)),(10,[],(vP A4)),(12,[],(.slice dI aU.length eA)),(13,[],(vI (aU.length:Int))),(14,[],(vI bK)),(37,[],(.bool sW))]) (fun sW=> [⟨some gC,29,cF f0 bj bi⟩,⟨(some gx),36,row aj ((av.dC 96 0).1) []⟩,⟨(some cD),36,row aj gJ.1 []⟩,⟨some A4,72,cY eW⟩]) ?_ ?_)))))))))))
   ·refine qg [⟨some gC,29,cF f0 bj bi⟩,⟨(some gx),36,row aj ((av.dC 96 0).1) []⟩,⟨(some cD),36,row aj gJ.1 []⟩,⟨some A4,72,cY eW⟩] 19 (qd [⟨0,0,0⟩,⟨1,0,0⟩,⟨2,0,0⟩,⟨6,3,0⟩] 15 [0,1,2,3] (bE h fun my wX h=>qX 3 0 [0,1,2,3] bL 2 wX rfl (dL.sp wX) (qL 4 0 [0,1,2,3] true (fun w hm=>(hm.xr dL).at wX) (bE h fun jU l8 h=>tD 5 (pc 0 (fun w hm=>Fm.c f0 my w _ bi (hm.xr dr) rfl l8) ?_)))))
    rintro w v w' hm ⟨w_,abk,yB,_,rfl,BN,iz,rfl,bn⟩
    refine aq hm bn (kD [0,1,2,3] (bE h fun iq ug h=>dQ 7 0 (fun w hm=>Fa1.c jU eW w _ abk (hm.ow 4 w_ 72 jU yB (fun e=>(iz e).1) az) rfl ug) [0,1,2,3] (qd [⟨8,0,0⟩,⟨9,0,0⟩,⟨10,0,1⟩,⟨11,0,1⟩,⟨12,0,1⟩,⟨15,3,1⟩] 5 [0,1,2,3] (js 28 (!iq) (fun T1=> ?_) (fun T1=> ?_)))))
    ·replace h:=yi T1 h
     exact qd [⟨13,0,3⟩,⟨14,0,3⟩,⟨16,0,3⟩,⟨17,0,3⟩,⟨18,0,4⟩] 0 [0,1,2,3] (qz (qm true h [0,1,2,3]))
    ·replace h:=yj T1 h
     exact bE h fun oj lG h=>qX 13 2 [0,1,2,3] bL 2 lG rfl (dL.sp lG) (qL 14 2 [0,1,2,3] true (fun w hm=>(hm.xr dL).at lG) (bE h fun lj zX h=>dQ 16 2 (fun w hm=>Xl.c f0 gJ oj eW w _ bi (hm.xr dr) rfl (hm.ow 2 (some cD) 36 gJ.1 [] (fun e=>nomatch e) an) zX) [0,1,2,3] (qd [⟨17,0,2⟩,⟨18,0,5⟩] 0 [0,1,2,3] (qz (qm (!lj) h [0,1,2,3])))))
   ·rintro sW h
    unfold FZ.og at h
    refine aP (qi h (fun h=> ?_) (fun h=> ?_))
    ·refine cR [0,0] (tO (pS 0 1 gx 96 1 36 aj (av.dC 96 0) (av.dC 96 0) an bk (oH [0] (eT (rX (cg (aT (c_ (.inl ((av.dC 96 0),bK)) (sj h) (fun aiF=> ?_)))))))))
     subst aiF
     refine cg (aT (aT ?_))
     obtain rfl:=si Zd
     exact gH rfl (ra (b:=gx) (T':=36) (hh:=1) (mm:=1) aj (av.dC 96 0) an (rt iP)) (fun w hm=>⟨rfl,hm.pk []⟩)
    ·refine kT (qg [⟨some gC,29,cF f0 bj bi⟩,⟨(some gx),36,row aj ((av.dC 96 0).1) []⟩,⟨some A4,72,cY eW⟩] 6 (qd [⟨0,0,0⟩,⟨1,0,0⟩,⟨4,2,0⟩] 3 [0,1,3] (bE h fun wh sq h=>qX 2 0 [0,1,3] bL 2 sq rfl (dL.sp sq) (qL 3 0 [0,1,3] true (fun w hm=>(hm.xr dL).at sq) (bE h fun i_ uu h=>tD 5 (pc 0 (fun w hm=>Xm.c gJ wh eW w _ cD (hm.ps [2]) uu) ?_))))))
     rintro w v w' hm ⟨rfl,bn⟩
     exact ⟨_,hm.aW [(2,⟨(some cD),36,row aj i_.1 []⟩)] [] bn,kD [0,1,3] (qz (nT (cH [0,0] (qe (qb (i_,(au (bK+1))) () h trivial [0,1,2])))))⟩
  ·exact lX (.inr gJ) h (fun e=>by subst e;exact bo (qm gJ Zd [0,1,2]))
 ·rintro rm h
  unfold FZ.fk at h
  refine aP (ad (ao (tO (pL 0 2 cD 96 1 36 aj rm an (oH [0,0] (tO (pS 0 1 gx 96 1 36 aj (av.dC 96 0) rm an bk (oH [0] (eT (aI ?_))))))))))
  obtain rfl:=si h
  exact gH rfl (ra (b:=gx) (T':=36) (hh:=1) (mm:=1) aj rm an (rt iP)) (fun w hm=>⟨rfl,hm.pk []⟩)
def Xs(f0:ae)(t1:List ai)(aU:List ab):Option ((av 96 Int)×Int×Int):=(VS f0 t1 aU).bind fun dj=>(FI ((aU.length:Int)==(t1.length:Int)) 2).bind fun bz=>(Fe ([dj,bz]:List Int)).bind fun dz=>(if(dz !=0)=true then some ((av.dC 96 0),0,dz) else(FZ f0 t1 aU).bind fun aA=>(FI (aA.2==(t1.length:Int)) 4).bind fun gu=>some (aA.1,aA.2,gu))
theorem Xs.c(f0:ae)(t1:List ai)(aU:List ab)(w:World)(r:(av 96 Int)×Int×Int){bj:Option Addr}{bm:Nat}(bi:Nat)(dr:Rw w bj 2 ay f0.aa)(cE:f0.aa.length=bm){bL:Option Addr}{bG:Nat}(bQ:Nat)(dL:Rw w bL 2 aF t1)(dU:t1.length=bG){dI:Option Addr}{db:Nat}(eA:Nat)(g_:Rw w dI 4 af aU)(ga:aU.length=db)(h:Xs f0 t1 aU=some r):
   Cr 100 #[(.agg #[(vH f0.ag),(.slice bj bm bi)]),(.slice bL bG bQ),(.slice dI db eA)] w fun v w'=>v= .tuple #[(.agg (row aj r.1.1 []).toArray),(vI r.2.1),(vI r.2.2)]∧Mem w [] [] w':=by
 subst cE dU ga
 rw [Xs] at h
 refine en Tryz.func100 rfl Tryz.ntmps100 (ad (ao (oA 0 (fun fV=>oA 0 (fun fa=>qh [0,0] (eT (ad (cR [0,0,0] (bE h fun dj iR h=>oQ 0 (fun w hm=>VS.c f0 t1 aU w _ bi (hm.xr dr) rfl bQ (hm.xr dL) rfl eA (hm.xr g_) rfl iR) (qh [0,0,0,0,0] (bE h fun bz u5 h=>oQ 0 (fun w hm=>FI.c ((aU.length:Int)==(t1.length:Int)) 2 w _ u5) (oA 0 (fun ur=>bE h fun dz yY h=>oQ 0 (fun w hm=>Fe.c ([dj,bz]:List Int) w _ 2 (hm.ow 2 (some ur) 2 ([dj,bz]:List Int) [] (fun e=>nomatch e) bf) rfl yY) (qh [0] (eT (cT [0,0] (qi h (fun h=> ?_) (fun h=> ?_))))))))))))))))))
 ·refine cR [0,0] (tO (pS 0 1 fa 96 1 36 aj (av.dC 96 0) (av.dC 96 0) an bk (oH [0,0] (eT (rX ?_)))))
  obtain rfl:=si h
  exact gH rfl (ra (b:=fa) (T':=36) (hh:=1) (mm:=1) aj (av.dC 96 0) an (rt (rt iP))) (fun w hm=>⟨rfl,hm.pk []⟩)
 ·refine kT (cR [0,0,0] (bE h fun aA mF h=>oQ 0 (fun w hm=>FZ.c f0 t1 aU w _ bi (hm.xr dr) rfl bQ (hm.xr dL) rfl eA (hm.xr g_) rfl mF) (qh [0,0,0] (oA 0 (fun gx=>tO (pS 0 3 gx 96 1 36 aj (av.dC 96 0) aA.1 an bk (oH [0] (eT (ad (qg [⟨some fV,29,cF f0 bj bi⟩,⟨(some ur),2,row aG ([dj,bz]:List Int) []⟩,⟨(some gx),36,row aj aA.1.1 []⟩] 10 (qd [⟨1,0,0⟩,⟨2,0,0⟩,⟨3,0,0⟩,⟨4,0,0⟩,⟨5,0,0⟩] 5 [0,2,3] (qv 0 0 [0,2,3] (fun w hm=>jM (b:=gx) (off:=0) (s:=96) (agg:=true) (vs:=row aj aA.1.1 []) (by kernel_rfl) ((gG an aA.1).trans rfl) (.inl rfl) (hm.all (hh:=2) (T:=36) (by kernel_rfl))) (bE h fun gu mH h=>dQ 6 0 (fun w hm=>FI.c (aA.2==(t1.length:Int)) 4 w _ mH) [0,2,3] (tD 7 (pS 0 1 fa 96 1 36 aj (av.dC 96 0) aA.1 an bk (kD [0,2,3] (qd [⟨8,0,0⟩,⟨9,0,0⟩] 0 [0,2,3] (qz (xR ?_)))))))))))))))))))
  obtain rfl:=si h
  exact gH rfl (ra (b:=fa) (T':=36) (hh:=1) (mm:=1) aj aA.1 an (rt (rt iP))) (fun w hm=>⟨rfl,hm.pk []⟩)
def T2(f0:ae)(t1:List ai)(aU:List ab):Option (Bool×Int):=(Xs f0 t1 aU).bind fun aA=>(if(aA.2.2==1)=true then some (false,aA.2.2) else some ((aA.2.2==0),0))
theorem T2.c(f0:ae)(t1:List ai)(aU:List ab)(w:World)(r:Bool×Int){bj:Option Addr}{bm:Nat}(bi:Nat)(dr:Rw w bj 2 ay f0.aa)(cE:f0.aa.length=bm){bL:Option Addr}{bG:Nat}(bQ:Nat)(dL:Rw w bL 2 aF t1)(dU:t1.length=bG){dI:Option Addr}{db:Nat}(eA:Nat)(g_:Rw w dI 4 af aU)(ga:aU.length=db)(h:T2 f0 t1 aU=some r):
   Cr 43 #[(.agg #[(vH f0.ag),(.slice bj bm bi)]),(.slice bL bG bQ),(.slice dI db eA)] w fun v w'=>v= .tuple #[(.bool r.1),(vI r.2)]∧Mem w [] [] w':=by
 subst cE dU ga
 rw [T2] at h
 refine en Tryz.func43 rfl Tryz.ntmps43 (ad (ao (oA 0 (fun cD=>qh [0,0] (eT (cR [0,0,0] (bE h fun aA iD h=>oQ 0 (fun w hm=>Xs.c f0 t1 aU w _ bi (hm.xr dr) rfl bQ (hm.xr dL) rfl eA (hm.xr g_) rfl iD) (qh [0,0,0,0] (oA 0 (fun fV=>tO (pS 0 1 fV 96 1 36 aj (av.dC 96 0) aA.1 an bk (oH [0,0] (eT (ad (cT [0,0] (qi h (fun h=> ?_) (fun h=> ?_)))))))))))))))))
 ·refine cT [0,0,0] (rX ?_)
  cases h
  exact qP []
 ·refine kT (cT [0,0,0,0] (aI ?_))
  cases h
  exact qP []
def Em.qw(bK:Int):Option (Int×Int):=some (bK,0)
def Em.ko(c0:aQ)(bw:List ab):(Int×Int)→Option ((Int×Int)⊕(Int))
 | (bB,aR)=>(if(decide (aR<(bw.length:Int)))=true then(ix bw aR).bind fun LD=>(MB c0 LD).bind fun dz=>some (.inl ((au (bB+dz)),(au (aR+1)))) else some (.inr bB))
def Em(c0:aQ)(bw:List ab):Option (Int×Int):=(Xh c0).bind fun eo=>(FI eo 1).bind fun gu=>(SY bw).bind fun i_=>(FI (decide ((bw.length:Int)≤120)) 3).bind fun jU=>(Fe ([gu,i_,jU]:List Int)).bind fun eO=>(if(eO !=0)=true then some (0,eO) else(loop (Em.ko c0 bw) (0,0)).bind fun lE=>Em.qw lE)
theorem Em.c(c0:aQ)(bw:List ab)(w:World)(r:Int×Int){dI:Option Addr}{db:Nat}(eA:Nat)(g_:Rw w dI 4 af bw)(ga:bw.length=db)(h:Em c0 bw=some r):
   Cr 44 #[(.agg (aC c0)),(.slice dI db eA)] w fun v w'=>v= .tuple #[(vI r.1),(vI r.2)]∧Mem w [] [] w':=by
 subst ga
 rw [Em] at h
 refine en Tryz.func44 rfl Tryz.ntmps44 (ad (ao (oA 0 (fun gx=>qh [0,0] (eT (ad (cR [0] (bE h fun eo gv h=>oQ 0 (fun w hm=>Xh.c c0 w _ gv) (bE h fun gu wL h=>oQ 0 (fun w hm=>FI.c eo 1 w _ wL) (qh [0] (bE h fun i_ yY h=>oQ 0 (fun w hm=>SY.c bw w _ eA (hm.xr g_) rfl yY) (qh [0,0,0] (bE h fun jU u5 h=>oQ 0 (fun w hm=>FI.c (decide ((bw.length:Int)≤120)) 3 w _ u5) (oA 0 (fun gC=>bE h fun eO wG h=>oQ 0 (fun w hm=>Fe.c ([gu,i_,jU]:List Int) w _ 3 (hm.ow 1 (some gC) 2 ([gu,i_,jU]:List Int) [] (fun e=>nomatch e) bf) rfl wG) (qh [0] (eT (cT [0,0] (qi h (fun h=> ?_) (fun h=> ?_))))))))))))))))))))
 ·refine cT [0,0,0] (rX ?_)
  cases h
  exact qP []
 ·refine kT (cT [0] (ad (cT [0,0,0] (aK (fun(bK:Int)=>Em.qw bK=some r) (fun bK=> [(4,[],(vI 0)),(5,[],(vI 0)),(7,[],(vI bK))]) (fun bK=> [⟨some gx,46,cC c0⟩,⟨(some gC),2,row aG ([gu,i_,jU]:List Int) []⟩]) ?_ ?_))))
  ·refine ap ?_
   obtain⟨lE,wH,af7⟩:=bd h
   refine jl (fun(s:Int×Int) (x:Unit)=>match s,x with | ⟨bB,aR⟩,_=>True) (fun⟨bB,aR⟩ _=> [(2,[],(vP gx)),(4,[],(vI 0)),(5,[],(vI 0)),(7,[],(vI bB)),(24,[],(.slice dI bw.length eA)),(25,[],(vI (bw.length:Int))),(26,[],(vI aR))]) (fun⟨bB,aR⟩ _=> [⟨some gx,46,cC c0⟩,⟨(some gC),2,row aG ([gu,i_,jU]:List Int) []⟩]) wH () trivial [0,1] ?_
   rintro⟨bB,aR⟩ _ aah _ h
   rw [Em.ko] at h
   refine cT [0] (ad (qi h (fun h=> ?_) (fun h=> ?_)))
   ·exact kT (ad (ap (ad (ao (bE h fun LD mI h=>oX 0 dI 4 mI rfl (g_.sp mI) (oL 0 true (fun w hm=>((hm.xr g_).at mI)) (oA 0 (fun sY=>oS 0 [2] (eT (cH [0,0,2] (bE h fun dz sd h=>oQ 0 (fun w hm=>MB.c c0 LD w _ sd) (qh [0,0] (qe (nT (cH [0,0] (qe (qb ((au (bB+dz)),(au (aR+1))) () h trivial [0,1])))))))))))))))))
   ·exact lX bB h (fun e=>by subst e;exact bo (qm bB af7 [0,1]))
  ·rintro bK h
   unfold Em.qw at h
   refine aP (cT [0,0,0] (aI ?_))
   cases h
   exact qP []
def FbQ(x0:ab):Option (Bool):=(if x0.bJ=true then some ((x0.bJ==true)&&((x0.cP==0)&&((x0.ba==0)&&(x0.eU==0)))) else(FD (au x0.cP) (-3) 3).bind fun aA=>(if aA=true then(FD (au x0.ba) (-1) 1).bind fun bz=>(if bz=true then(FD (au x0.eU) 0 23).bind fun dj=>some dj else some false) else some false))
theorem FbQ.c(x0:ab)(w:World)(r:Bool)(h:FbQ x0=some r):
   Cq 194 #[(.agg (aY x0))] w (.bool r) [] []:=by
 rw [FbQ] at h
 refine en Tryz.func194 rfl Tryz.ntmps194 (ad (ao (oA 0 (fun cD=>qh [0] (eT (ad (cT [0,0] (qi h (fun h=> ?_) (fun h=> ?_)))))))))
 ·refine cT [0,0,0,0] (rX ?_)
  cases h
  exact qP []
 ·refine kT (cR [0,0,0] (bE h fun aA jP h=>oQ 0 (fun w hm=>FD.c (au x0.cP) (-3) 3 w _ jP) (qf [(0,0),(0,1),(0,1),(0,1)] (qp 12 h (fun h=> ?_) (fun h=> ?_)))))
  ·refine bE h fun bz jD h=>oQ 2 (fun w hm=>FD.c (au x0.ba) (-1) 1 w _ jD) (qf [(0,4),(0,0),(0,1),(0,1),(0,1)] (qp 18 h (fun h=> ?_) (fun h=> ?_)))
   ·refine bE h fun dj jf h=>oQ 2 (fun w hm=>FD.c (au x0.eU) 0 23 w _ jf) (qf [(0,4),(0,0)] (eT (aI ?_)))
    cases h
    exact qP []
   ·refine qf [(0,3),(0,5),(0,0)] (eT (aI ?_))
    cases h
    exact qP []
  ·refine qf [(0,3),(0,5),(0,0),(0,3),(0,3),(0,3),(0,3),(0,5),(0,0)] (eT (aI ?_))
   cases h
   exact qP []
def I9.iQ:Option (Bool):=some true
def I9.e7(ci:List ab):Int→Option ((Int)⊕(Bool⊕Unit))
 | aR=>(if(decide (aR<(ci.length:Int)))=true then(ix ci aR).bind fun eW=>(FbQ eW).bind fun dz=>(if(!dz)=true then some (.inr (.inl false)) else some (.inl (au (aR+1)))) else some (.inr (.inr ())))
def I9(ci:List ab):Option (Bool):=(loop (I9.e7 ci) 0).bind fun eo=>match eo with | .inl p=>some p | .inr p=>I9.iQ
theorem I9.c(ci:List ab)(w:World)(r:Bool){cQ:Option Addr}{ck:Nat}(bX:Nat)(eX:Rw w cQ 4 af ci)(dH:ci.length=ck)(h:I9 ci=some r):
   Cq 163 #[(.slice cQ ck bX)] w (.bool r) [] []:=by
 subst dH
 rw [I9] at h
 refine en Tryz.func163 rfl Tryz.ntmps163 (cT [0] (ad (cT [0] (aK (fun(_:Unit)=>I9.iQ=some r) (fun(_:Unit)=> [(2,[],(.bool false))]) (fun(_:Unit)=> []) ?_ ?_))))
 ·refine ap ?_
  obtain⟨eo,km,sZ⟩:=bd h
  refine jl (fun(aR:Int) (_:Unit)=>True) (fun aR _=> [(0,[],(.slice cQ ci.length bX)),(2,[],(.bool false)),(3,[],(vI aR))]) (fun aR _=> []) km () trivial [] ?_
  rintro aR _ Jz _ h
  rw [I9.e7] at h
  refine ad (cT [0,0,0,0] (qi h (fun h=> ?_) (fun h=> ?_)))
  ·refine kT (ad (ap (cR [0,0] (bE h fun eW jV h=>oX 0 cQ 4 jV rfl (eX.sp jV) (oL 0 true (fun w hm=>((hm.xr eX).at jV)) (bE h fun dz iR h=>oQ 0 (fun w hm=>FbQ.c eW w _ iR) (qh [0] (eT (qi h (fun h=> ?_) (fun h=> ?_))))))))))
   ·refine cT [0] (aI (cg (aT (c_ (.inl false) (sj h) (fun Pn=> ?_)))))
    subst Pn
    refine cg (aT (aT ?_))
    obtain rfl:=si sZ
    exact qP []
   ·exact bV (nT (cH [0,0,0] (qe (qb (au (aR+1)) () h trivial []))))
  ·exact lX (.inr ()) h (fun e=>by subst e;exact bo (qm () sZ []))
 ·rintro _ h
  unfold I9.iQ at h
  refine aP (cT [0] (aI ?_))
  cases h
  exact qP []
def OJ.fk(t1:List ai)(aU:List ab)(yW:Bool):Option (Int):=(if yW=true then some 1 else(if((aU.length:Int) !=(t1.length:Int))=true then some 2 else some 0))
def OJ(f0:ae)(t1:List ai)(aU:List ab):Option (Int):=(FC f0).bind fun dj=>(if(!dj)=true then OJ.fk t1 aU true else(yV t1).bind fun dz=>(if(!dz)=true then OJ.fk t1 aU true else(I9 aU).bind fun bz=>OJ.fk t1 aU (!bz)))
theorem OJ.c(f0:ae)(t1:List ai)(aU:List ab)(w:World)(r:Int){bj:Option Addr}{bm:Nat}(bi:Nat)(dr:Rw w bj 2 ay f0.aa)(cE:f0.aa.length=bm){bL:Option Addr}{bG:Nat}(bQ:Nat)(dL:Rw w bL 2 aF t1)(dU:t1.length=bG){dI:Option Addr}{db:Nat}(eA:Nat)(g_:Rw w dI 4 af aU)(ga:aU.length=db)(aH:Nat)(fG:Mem w (bs [some aH]) [⟨some aH,29,cG f0 bj bm bi⟩] w)(fx:f0.aa≠ []→aB bj∉bs [some aH])(eL:t1≠ []→aB bL∉bs [some aH])(gT:aU≠ []→aB dI∉bs [some aH])(h:OJ f0 t1 aU=some r):
   Cq 103 #[(vP aH),(.slice bL bG bQ),(.slice dI db eA)] w (vI r) (bs [some aH]) [⟨some aH,29,cG f0 bj bm bi⟩]:=by
 subst cE dU ga
 rw [OJ] at h
 refine eN Tryz.func103 rfl Tryz.ntmps103 fG (cT [0] (s2 (aK (fun(yW:Bool)=>OJ.fk t1 aU yW=some r) (fun yW=> [(1,[],(.slice bL t1.length bQ)),(2,[],(.slice dI aU.length eA)),(6,[],(vI 0)),(19,[],(.bool yW))]) (fun yW=> [⟨some aH,29,cF f0 bj bi⟩]) ?_ ?_)))
 ·refine cH [0] (bE h fun dj jD h=>oC 0 (fun w hm=>FC.c f0 w _ bi (hm.aM dr fx) rfl aH (hm.ps [0]) (hm.xp dr fx [0]) jD) ?_)
  rintro w v w' hm ⟨rfl,bn⟩
  refine ⟨_,hm.aW [(0,⟨some aH,29,cF f0 bj bi⟩)] [] bn,fB (qf [(0,0),(0,0),(0,1)] (qp 10 h (fun h=> ?_) (fun h=> ?_)))⟩
  ·exact qf [(0,3),(0,3),(0,4),(0,0),(0,3),(0,3),(0,3),(0,4)] (qe (qm true h [0]))
  ·refine bE h fun dz jf h=>oQ 2 (fun w hm=>yV.c t1 w _ bQ (hm.aM dL eL) rfl jf) (qf [(0,2),(0,5),(0,0),(0,1)] (qp 15 h (fun h=> ?_) (fun h=> ?_)))
   ·exact qf [(0,3),(0,3),(0,4)] (qe (qm true h [0]))
   ·exact bE h fun bz km h=>oQ 2 (fun w hm=>I9.c aU w _ eA (hm.aM g_ gT) rfl km) (qf [(0,2),(0,5)] (qe (qm (!bz) h [0])))
 ·rintro yW h
  unfold OJ.fk at h
  refine aP (qi h (fun h=> ?_) (fun h=> ?_))
  ·refine cT [0] (rX ?_)
   cases h
   exact qP [0]
  ·refine kT (ad (cT [0,0,0,0,0] (qi h (fun h=> ?_) (fun h=> ?_))))
   ·refine cT [0] (rX ?_)
    cases h
    exact qP [0]
   ·refine kT (cT [0] (aI ?_))
    cases h
    exact qP [0]
def FM.fk(gJ:av 96 Int):Option ((av 96 Int)×Int):=some (gJ,(-1))
def FM.nJ(bB:Int)(Ze:av 96 Int)(yZ:Bool):Option (((av 96 Int)×Int)⊕(((av 96 Int)×Int)⊕(av 96 Int))):=(if yZ=true then some (.inr (.inl ((av.dC 96 0),bB))) else some (.inl (Ze,(au (bB+1)))))
def FM.s_(f0:ae)(t1:List ai)(aU:List ab)(kf:av 96 Int)(bB:Int)(qU:Bool):Option (((av 96 Int)×Int)⊕(((av 96 Int)×Int)⊕(av 96 Int))):=(if(!qU)=true then FM.nJ bB kf true else(ix t1 bB).bind fun PE=>(ix aU bB).bind fun p8=>(TI f0 kf PE p8).bind fun kY=>FM.nJ bB kY.2 (!kY.1))
def FM.PX(aU:List ab)(bB:Int)(eo:(List ab)):(Bool×Int)→Option ((Bool×Int)⊕(Bool))
 | (xH,ew)=>(if(decide (ew<(eo.length:Int)))=true then(if xH=true then some (.inl (true,(au (ew+1)))) else(ix eo ew).bind fun wh=>(ix aU bB).bind fun my=>some (.inl (((wh.bJ==my.bJ)&&((wh.cP==my.cP)&&((wh.ba==my.ba)&&(wh.eU==my.eU)))),(au (ew+1))))) else some (.inr xH))
def FM.fY(f0:ae)(t1:List ai)(aU:List ab):((av 96 Int)×Int)→Option (((av 96 Int)×Int)⊕(((av 96 Int)×Int)⊕(av 96 Int)))
 | (kf,bB)=>(if(decide (bB<(t1.length:Int)))=true then(ix t1 bB).bind fun sw=>(FA f0 sw).bind fun eo=>(loop (FM.PX aU bB eo) (false,0)).bind fun sf=>FM.s_ f0 t1 aU kf bB sf else some (.inr (.inr kf)))
def FM(f0:ae)(t1:List ai)(aU:List ab):Option ((av 96 Int)×Int):=(loop (FM.fY f0 t1 aU) ((av.dC 96 0),0)).bind fun tE=>match tE with | .inl p=>some p | .inr p=>FM.fk p
theorem FM.c(f0:ae)(t1:List ai)(aU:List ab)(w:World)(r:(av 96 Int)×Int){bj:Option Addr}{bm:Nat}(bi:Nat)(dr:Rw w bj 2 ay f0.aa)(cE:f0.aa.length=bm){bL:Option Addr}{bG:Nat}(bQ:Nat)(dL:Rw w bL 2 aF t1)(dU:t1.length=bG){dI:Option Addr}{db:Nat}(eA:Nat)(g_:Rw w dI 4 af aU)(ga:aU.length=db)(aH:Nat)(fG:Mem w (bs [some aH]) [⟨some aH,29,cG f0 bj bm bi⟩] w)(fx:f0.aa≠ []→aB bj∉bs [some aH])(eL:t1≠ []→aB bL∉bs [some aH])(gT:aU≠ []→aB dI∉bs [some aH])(h:FM f0 t1 aU=some r):
   Cr 104 #[(vP aH),(.slice bL bG bQ),(.slice dI db eA)] w fun v w'=>v= .tuple #[(.agg (row aj r.1.1 []).toArray),(vI r.2)]∧Mem w (bs [some aH]) [⟨some aH,29,cG f0 bj bm bi⟩] w':=by
 subst cE dU ga
 rw [FM] at h
 refine eN Tryz.func104 rfl Tryz.ntmps104 fG (ad (ao (oA 0 (fun cD=>qh [0] (eT (cR [0] (oA 0 (fun gC=>tO (pS 0 2 gC 96 1 36 aj (av.dC 96 0) (av.dC 96 0) an bk (fB (eT (ad (cT [0] (aK (fun(gJ:(av 96 Int))=>FM.fk gJ=some r) (fun gJ=> [(6,[],(vP cD)),(7,[],(vI 0)),(8,[],(vP gC))]) (fun gJ=> [⟨some aH,29,cF f0 bj bi⟩,⟨(some cD),36,row aj ((av.dC 96 0).1) []⟩,⟨(some gC),36,row aj gJ.1 []⟩]) ?_ ?_))))))))))))))
 ·refine ap ?_
  obtain⟨tE,Du,Ek⟩:=bd h
  refine jl (fun(s:(av 96 Int)×Int) (x:Unit)=>match s,x with | ⟨kf,bB⟩,_=>True) (fun⟨kf,bB⟩ _=> [(0,[],(vP aH)),(1,[],(.slice bL t1.length bQ)),(2,[],(.slice dI aU.length eA)),(6,[],(vP cD)),(7,[],(vI 0)),(8,[],(vP gC)),(9,[],(vI bB))]) (fun⟨kf,bB⟩ _=> [⟨some aH,29,cF f0 bj bi⟩,⟨(some cD),36,row aj ((av.dC 96 0).1) []⟩,⟨(some gC),36,row aj kf.1 []⟩]) Du () trivial [0,1,2] ?_
  rintro⟨kf,bB⟩ _ PB _ h
  rw [FM.fY] at h
  refine ad (cT [0,0,0,0] (qi h (fun h=> ?_) (fun h=> ?_)))
  ·refine kT (ad (ap (cR [0,0,0] (bE h fun sw ss h=>oX 0 bL 2 ss rfl (dL.sp ss) (oL 0 true (fun w hm=>((hm.aM dL eL).at ss)) (bE h fun eo uu h=>oC 0 (fun w hm=>FA.c f0 sw w _ bi (hm.aM dr fx) rfl aH (hm.ps [0]) (hm.xp dr fx [0]) uu) ?_))))))
   rintro w v w' hm ⟨fj,li,dK,_,rfl,adm,pz,rfl,bn⟩
   refine ⟨_,hm.aW [(0,⟨some aH,29,cF f0 bj bi⟩)] [⟨fj,72,row af eo dK⟩] bn,oH [0] (eT (cT [0] (ad (cT [0] (aK (fun(qU:Bool)=>FM.s_ f0 t1 aU kf bB qU=some PB) (fun qU=> [(0,[],(vP aH)),(1,[],(.slice bL t1.length bQ)),(2,[],(.slice dI aU.length eA)),(6,[],(vP cD)),(7,[],(vI 0)),(8,[],(vP gC)),(9,[],(vI bB)),(11,[],(.bool qU))]) (fun qU=> [⟨some aH,29,cF f0 bj bi⟩,⟨(some cD),36,row aj ((av.dC 96 0).1) []⟩,⟨(some gC),36,row aj kf.1 []⟩,⟨fj,72,row af eo dK⟩]) ?_ ?_)))))⟩
   ·refine ap ?_
    obtain⟨sf,uw,DF⟩:=bd h
    refine jl (fun(s:Bool×Int) (x:Unit)=>match s,x with | ⟨xH,ew⟩,_=>True) (fun⟨xH,ew⟩ _=> [(0,[],(vP aH)),(1,[],(.slice bL t1.length bQ)),(2,[],(.slice dI aU.length eA)),(6,[],(vP cD)),(7,[],(vI 0)),(8,[],(vP gC)),(9,[],(vI bB)),(10,[],(.slice (mB fj) eo.length li)),(11,[],(.bool xH)),(12,[],(vI ew))]) (fun⟨xH,ew⟩ _=> [⟨some aH,29,cF f0 bj bi⟩,⟨(some cD),36,row aj ((av.dC 96 0).1) []⟩,⟨(some gC),36,row aj kf.1 []⟩,⟨fj,72,row af eo dK⟩]) uw () trivial [0,1,2,3] ?_
    rintro⟨xH,ew⟩ _ akn _ h
    rw [FM.PX] at h
    refine ad (cT [0,0,0,0] (qi h (fun h=> ?_) (fun h=> ?_)))
    ·refine kT (ad (ap (qg [⟨some aH,29,cF f0 bj bi⟩,⟨(some cD),36,row aj ((av.dC 96 0).1) []⟩,⟨(some gC),36,row aj kf.1 []⟩,⟨fj,72,row af eo dK⟩] 13 (qd [⟨0,0,0⟩,⟨1,0,0⟩,⟨2,0,1⟩,⟨3,0,1⟩,⟨6,0,1⟩,⟨7,0,1⟩] 7 [0,1,2,3] (js 33 xH (fun T3=> ?_) (fun T3=> ?_))))))
     ·replace h:=yi T3 h
      exact qd [⟨4,0,3⟩,⟨5,0,3⟩,⟨8,0,3⟩,⟨9,0,3⟩,⟨10,0,3⟩,⟨11,0,4⟩,⟨12,0,0⟩] 0 [0,1,2,3] (qz (nT (cH [0,0,0] (qe (qb (true,(au (ew+1))) () h trivial [0,1,2,3])))))
     ·replace h:=yj T3 h
      exact bE h fun wh wS h=>qX 4 2 [0,1,2,3] (mB fj) 4 wS rfl (nl pz wS) (qL 5 2 [0,1,2,3] true (aX 3 fj 72 eo dK pz az wS) (bE h fun my oU h=>qX 8 2 [0,1,2,3] dI 4 oU rfl (g_.sp oU) (qL 9 2 [0,1,2,3] true (fun w hm=>(hm.aM g_ gT).at oU) (qd [⟨10,0,2⟩,⟨11,0,5⟩,⟨12,0,0⟩] 0 [0,1,2,3] (qz (nT (cH [0,0,0] (qe (qb (((wh.bJ==my.bJ)&&((wh.cP==my.cP)&&((wh.ba==my.ba)&&(wh.eU==my.eU)))),(au (ew+1))) () h trivial [0,1,2,3])))))))))
    ·exact lX xH h (fun e=>by subst e;exact bo (qm xH DF [0,1,2,3]))
   ·rintro qU h
    unfold FM.s_ at h
    refine aP (ad (aK (fun(j:(av 96 Int)×Bool)=>match j with | ⟨Ze,yZ⟩=>FM.nJ bB Ze yZ=some PB) (fun⟨Ze,yZ⟩=> [(0,[],(vP aH)),(1,[],(.slice bL t1.length bQ)),(2,[],(.slice dI aU.length eA)),(6,[],(vP cD)),(7,[],(vI 0)),(8,[],(vP gC)),(9,[],(vI bB)),(58,[],(.bool yZ))]) (fun⟨Ze,yZ⟩=> [⟨some aH,29,cF f0 bj bi⟩,⟨(some cD),36,row aj ((av.dC 96 0).1) []⟩,⟨(some gC),36,row aj Ze.1 []⟩,⟨fj,72,row af eo dK⟩]) ?_ ?_))
    ·refine qg [⟨some aH,29,cF f0 bj bi⟩,⟨(some cD),36,row aj ((av.dC 96 0).1) []⟩,⟨fj,72,row af eo dK⟩] 15 (qd [⟨0,0,0⟩,⟨1,0,0⟩,⟨2,0,0⟩,⟨3,0,1⟩,⟨4,0,1⟩,⟨5,0,1⟩,⟨8,0,1⟩,⟨9,0,1⟩] 7 [0,1,3] (js 46 (!qU) (fun T4=> ?_) (fun T4=> ?_)))
     ·replace h:=yi T4 h
      exact qd [⟨6,0,3⟩,⟨7,0,3⟩,⟨10,0,3⟩,⟨11,0,3⟩,⟨12,0,3⟩,⟨13,0,3⟩,⟨14,0,4⟩] 0 [0,1,3] (qz (qm ⟨kf,true⟩ h [0,1,2,3]))
     ·replace h:=yj T4 h
      refine bE h fun PE T5 h=>qX 6 2 [0,1,3] bL 2 T5 rfl (dL.sp T5) (qL 7 2 [0,1,3] true (fun w hm=>(hm.aM dL eL).at T5) (bE h fun p8 xd h=>qX 10 2 [0,1,3] dI 4 xd rfl (g_.sp xd) (qL 11 2 [0,1,3] true (fun w hm=>(hm.aM g_ gT).at xd) (bE h fun kY oO h=>tD 12 (pc 2 (fun w hm=>TI.c f0 kf PE p8 w _ bi (hm.aM dr fx) rfl aH gC (hm.ps [0,2]) (hm.xp dr fx [0,2]) oO) ?_)))))
      rintro w v w' hm ⟨rfl,bn⟩
      exact ⟨_,hm.aW [(0,⟨some aH,29,cF f0 bj bi⟩),(2,⟨(some gC),36,row aj kY.2.1 []⟩)] [] bn,kD [0,1,3] (qd [⟨13,0,2⟩,⟨14,0,5⟩] 0 [0,1,3] (qz (qm ⟨kY.2,(!kY.1)⟩ h [0,1,2,3])))⟩
    ·rintro⟨Ze,yZ⟩ h
     unfold FM.nJ at h
     refine aP (qi h (fun h=> ?_) (fun h=> ?_))
     ·refine cR [0,0] (tO (pS 0 1 cD 96 1 36 aj (av.dC 96 0) (av.dC 96 0) an bk (oH [0] (eT (aI (cg (aT (c_ (.inl ((av.dC 96 0),bB)) (sj h) (fun aiG=> ?_)))))))))
      subst aiG
      refine cg (aT (aT ?_))
      obtain rfl:=si Ek
      exact gH rfl (ra (b:=cD) (T':=36) (hh:=1) (mm:=1) aj (av.dC 96 0) an (rt iP)) (fun w hm=>⟨rfl,hm.pk [0]⟩)
     ·exact bV (nT (cH [0,0,0] (qe (qb (Ze,(au (bB+1))) () h trivial [0,1,2]))))
  ·exact lX (.inr kf) h (fun e=>by subst e;exact bo (qm kf Ek [0,1,2]))
 ·rintro gJ h
  unfold FM.fk at h
  refine aP (ad (ao (tO (pL 0 2 gC 96 1 36 aj gJ an (fB (tO (pS 0 1 cD 96 1 36 aj (av.dC 96 0) gJ an bk (oH [0] (eT (aI ?_))))))))))
  obtain rfl:=si h
  exact gH rfl (ra (b:=cD) (T':=36) (hh:=1) (mm:=1) aj gJ an (rt iP)) (fun w hm=>⟨rfl,hm.pk [0]⟩)
end
end Go.Proofs.YtplklknkkaeniaaGreat
