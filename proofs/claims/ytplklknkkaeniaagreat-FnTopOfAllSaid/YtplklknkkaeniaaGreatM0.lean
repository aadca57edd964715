/- Functions of the program that the law reaches: a plain function each, and that the call comes to its answer if the plain function has one. Printed by a program. -/
import Derived.Test.YtplklknkkaeniaaGreatT
import Derived.Test.YtplklknkkaeniaaGreatSeg
namespace Go.Proofs.YtplklknkkaeniaaGreat
open Eng
set_option linter.unusedVariables false
set_option linter.unusedSectionVars false
set_option maxRecDepth 100000
variable [gj:wu]
noncomputable section
def eS(c0:a_):Option (Int×a_):=(if(decide (c0.dy≥(c0.aJ.length:Int)))=true then some (0,c0) else(ix c0.aJ (au ((au (c0.dy+1))-1))).bind fun eW=>some ((au eW),(⟨c0.aJ,(au (c0.dy+1))⟩:a_)))
theorem eS.c(c0:a_)(w:World)(r:Int×a_){ej:Option Addr}{eY:Nat}(dV:Nat)(fD:Rw w ej 1 jS c0.aJ)(jC:c0.aJ.length=eY)(aH:Nat)(fG:Mem w (bs [some aH]) [⟨some aH,25,[(.slice ej eY dV),(vI c0.dy)]⟩] w)(dE:c0.aJ≠ []→aB ej∉bs [some aH])(h:eS c0=some r):
   Cq 27 #[(vP aH)] w (vI r.1) (bs [some aH]) [⟨some aH,25,[(.slice ej eY dV),(vI r.2.dy)]⟩]:=by
 subst jC
 rw [eS] at h
 refine eN Tryz.func27 rfl Tryz.ntmps27 fG (cT [0] (s2 (qg [⟨some aH,25,[(.slice ej c0.aJ.length dV),(vI c0.dy)]⟩] 10 (qd [⟨0,0,0⟩,⟨1,0,0⟩,⟨2,0,0⟩,⟨3,0,0⟩,⟨4,0,0⟩,⟨5,0,0⟩,⟨6,0,0⟩,⟨7,0,0⟩,⟨8,0,0⟩,⟨9,0,0⟩] 0 [0] (zT (qi h (fun h=> ?_) (fun h=> ?_)))))))
 ·refine cT [0] (rX ?_)
  cases h
  exact qP [0]
 ·refine kT (cR [0,0,0,0,0,0,0] (oS 0 [0] (eT (ad (qg [⟨some aH,25,[(.slice ej c0.aJ.length dV),(vI (au (c0.dy+1)))]⟩] 13 (qd [⟨0,0,0⟩,⟨1,0,0⟩,⟨2,0,0⟩,⟨3,0,0⟩,⟨4,0,0⟩,⟨5,0,0⟩,⟨6,0,0⟩,⟨7,0,0⟩,⟨8,0,0⟩] 4 [0] (bE h fun eW oN h=>qX 9 0 [0] ej 1 oN rfl (fD.sp oN) (qL 10 0 [0] false (fun w hm=>(hm.aM fD dE).at oN) (qd [⟨11,0,0⟩,⟨12,0,0⟩] 0 [0] (qz (xR ?_)))))))))))
  cases h
  exact qP [0]
def aS.ki(c0:a_)(cS:Int)(ew:Int):Option (Int×a_):=some (ew,(⟨c0.aJ,cS⟩:a_))
def aS.pH(c0:a_)(dz:Int×a_):(Int×Int×Int)→Option ((Int×Int×Int)⊕((Int×Int)))
 | (bB,bK,aR)=>(if(decide (aR<(Int.tmod dz.1 9)))=true then(eS (⟨c0.aJ,bB⟩:a_)).bind fun i_=>(if 0≤(au (8*aR)) then some (.inl (i_.2.dy,(wC .i64 bK (fo .i64 i_.1 (au (8*aR)))),(au (aR+1)))) else none) else some (.inr (bB,bK)))
def aS(c0:a_):Option (Int×a_):=(eS c0).bind fun dz=>(loop (aS.pH c0 dz) (dz.2.dy,0,0)).bind fun jU=>aS.ki c0 jU.1 jU.2
theorem aS.c(c0:a_)(w:World)(r:Int×a_){ej:Option Addr}{eY:Nat}(dV:Nat)(fD:Rw w ej 1 jS c0.aJ)(jC:c0.aJ.length=eY)(aH:Nat)(fG:Mem w (bs [some aH]) [⟨some aH,25,[(.slice ej eY dV),(vI c0.dy)]⟩] w)(dE:c0.aJ≠ []→aB ej∉bs [some aH])(h:aS c0=some r):
   Cq 10 #[(vP aH)] w (vI r.1) (bs [some aH]) [⟨some aH,25,[(.slice ej eY dV),(vI r.2.dy)]⟩]:=by
 subst jC
 rw [aS] at h
 refine eN Tryz.func10 rfl Tryz.ntmps10 fG (cT [0] (cT [0] (cR [0] (bE h fun dz jP h=>oC 0 (fun w hm=>eS.c c0 w _ dV (hm.aM fD dE) rfl aH (hm.ps [0]) (hm.xp fD dE [0]) jP) ?_))))
 rintro w v w' hm ⟨rfl,bn⟩
 refine ⟨_,hm.aW [(0,⟨some aH,25,[(.slice ej c0.aJ.length dV),(vI dz.2.dy)]⟩)] [] bn,oH [0,0] (eT (ad (cT [0] (aK (fun(j:Int×Int)=>match j with | ⟨cS,ew⟩=>aS.ki c0 cS ew=some r) (fun⟨cS,ew⟩=> [(2,[],(vI 0)),(3,[],(vI ew))]) (fun⟨cS,ew⟩=> [⟨some aH,25,[(.slice ej c0.aJ.length dV),(vI cS)]⟩]) ?_ ?_))))⟩
 ·refine ap ?_
  obtain⟨jU,u5,Wm⟩:=bd h
  refine jl (fun(s:Int×Int×Int) (x:Unit)=>match s,x with | ⟨bB,bK,aR⟩,_=>True) (fun⟨bB,bK,aR⟩ _=> [(0,[],(vP aH)),(2,[],(vI 0)),(3,[],(vI bK)),(4,[],(vI (Int.tmod dz.1 9))),(5,[],(vI aR))]) (fun⟨bB,bK,aR⟩ _=> [⟨some aH,25,[(.slice ej c0.aJ.length dV),(vI bB)]⟩]) u5 () trivial [0] ?_
  rintro⟨bB,bK,aR⟩ _ aab _ h
  rw [aS.pH] at h
  refine ad (cT [0,0,0] (qi h (fun h=> ?_) (fun h=> ?_)))
  ·refine kT (ad (ap (cH [0,0] (bE h fun i_ mF h=>oC 0 (fun w hm=>eS.c (⟨c0.aJ,bB⟩:a_) w _ dV (hm.aM fD dE) rfl aH (hm.ps [0]) (hm.xp fD dE [0]) mF) ?_))))
   rintro w v w' hm ⟨rfl,bn⟩
   refine ⟨_,hm.aW [(0,⟨some aH,25,[(.slice ej c0.aJ.length dV),(vI i_.2.dy)]⟩)] [] bn,oH [0,0] ?_⟩
   obtain⟨Rt,h⟩:=gd h
   exact tO (pV 0 .i64 i_.1 .i64 (au (8*aR)) Rt (oH [0,0] (qe (nT (cH [0,0,0] (qe (qb (i_.2.dy,(wC .i64 bK (fo .i64 i_.1 (au (8*aR)))),(au (aR+1))) () h trivial [0])))))))
  ·exact lX (bB,bK) h (fun e=>by subst e;exact bo (qm ⟨bB,bK⟩ Wm [0]))
 ·rintro⟨cS,ew⟩ h
  unfold aS.ki at h
  refine aP (cT [0,0] (aI ?_))
  cases h
  exact qP [0]
def dO(c0:a_)(k1:Int)(n2:Int):Option (Bool):=some ((decide (k1<n2))&&(decide (c0.dy<(c0.aJ.length:Int))))
theorem dO.c(c0:a_)(k1:Int)(n2:Int)(w:World)(r:Bool){ej:Option Addr}{eY:Nat}(dV:Nat)(fD:Rw w ej 1 jS c0.aJ)(jC:c0.aJ.length=eY)(aH:Nat)(fG:Mem w (bs [some aH]) [⟨some aH,25,[(.slice ej eY dV),(vI c0.dy)]⟩] w)(dE:c0.aJ≠ []→aB ej∉bs [some aH])(h:dO c0 k1 n2=some r):
   Cq 26 #[(vP aH),(vI k1),(vI n2)] w (.bool r) (bs [some aH]) [⟨some aH,25,[(.slice ej eY dV),(vI c0.dy)]⟩]:=by
 subst jC
 rw [dO] at h
 refine eN Tryz.func26 rfl Tryz.ntmps26 fG (cT [0] (ad (qg [⟨some aH,25,[(.slice ej c0.aJ.length dV),(vI c0.dy)]⟩] 16 (qd [⟨0,0,0⟩,⟨1,0,0⟩,⟨2,0,0⟩,⟨3,0,0⟩,⟨4,0,1⟩,⟨5,0,1⟩,⟨6,0,1⟩,⟨7,0,1⟩,⟨8,0,1⟩,⟨9,0,1⟩,⟨10,0,1⟩,⟨11,0,1⟩,⟨12,0,1⟩,⟨13,0,1⟩,⟨14,0,0⟩,⟨15,0,0⟩] 0 [0] (qz (xR ?_))))))
 cases h
 exact qP [0]
def dp.ue(c0:a_)(dz:Int×a_)(ew:Int)(lR:List bq):Option (ae×a_):=some ((⟨(ot dz.1),lR⟩:ae),(⟨c0.aJ,ew⟩:a_))
def dp.I4(c0:a_)(eO:Int×a_):(Int×(List bq)×Int)→Option ((Int×(List bq)×Int)⊕((Int×(List bq))))
 | (cS,aZ,eE)=>(dO (⟨c0.aJ,cS⟩:a_) eE eO.1).bind fun j7=>(if j7=true then(aS (⟨c0.aJ,cS⟩:a_)).bind fun dj=>(aS (⟨c0.aJ,dj.2.dy⟩:a_)).bind fun bz=>(if aZ.length+([(⟨(w8 dj.1),(w8 bz.1)⟩:bq)]:List bq).length≤4294967296 then some (.inl (bz.2.dy,(aZ++([(⟨(w8 dj.1),(w8 bz.1)⟩:bq)]:List bq)),(au (eE+1)))) else none) else some (.inr (cS,aZ)))
def dp(c0:a_):Option (ae×a_):=(aS c0).bind fun dz=>(aS (⟨c0.aJ,dz.2.dy⟩:a_)).bind fun eO=>(loop (dp.I4 c0 eO) (eO.2.dy,[],0)).bind fun kI=>dp.ue c0 dz kI.1 kI.2
theorem dp.c(c0:a_)(w:World)(r:ae×a_){ej:Option Addr}{eY:Nat}(dV:Nat)(fD:Rw w ej 1 jS c0.aJ)(jC:c0.aJ.length=eY)(aH:Nat)(fG:Mem w (bs [some aH]) [⟨some aH,25,[(.slice ej eY dV),(vI c0.dy)]⟩] w)(dE:c0.aJ≠ []→aB ej∉bs [some aH])(h:dp c0=some r):
   Cr 4 #[(vP aH)] w fun v w'=>∃(o0:Option Nat) (c0:Nat) (s0:List Value) (n0:Nat),r.1.aa.length=n0∧(hS o0 n0 c0 s0 2)∧(hO o0 r.1.aa c0)∧v= .agg #[(vH r.1.ag), .slice (mB o0) n0 c0]∧Mem w (bs [some aH]) [⟨some aH,25,[(.slice ej eY dV),(vI r.2.dy)]⟩,⟨o0,68,row ay r.1.aa s0⟩] w':=by
 subst jC
 rw [dp] at h
 refine eN Tryz.func4 rfl Tryz.ntmps4 fG (ad (ao (oA 0 (fun gC=>eT (cR [0] (bE h fun dz mF h=>oC 0 (fun w hm=>aS.c c0 w _ dV (hm.aM fD dE) rfl aH (hm.ps [0]) (hm.xp fD dE [0]) mF) ?_))))))
 rintro w v w' hm ⟨rfl,bn⟩
 refine ⟨_,hm.aW [(0,⟨some aH,25,[(.slice ej c0.aJ.length dV),(vI dz.2.dy)]⟩)] [] bn,oH [0,0] (oA 0 (fun qu=>oS 0 [2] (eT (cR [0] (bE h fun eO km h=>oC 0 (fun w hm=>aS.c (⟨c0.aJ,dz.2.dy⟩:a_) w _ dV (hm.aM fD dE) rfl aH (hm.ps [0]) (hm.xp fD dE [0]) km) ?_)))))⟩
 rintro w v w' hm ⟨rfl,bn⟩
 refine ⟨_,hm.aW [(0,⟨some aH,25,[(.slice ej c0.aJ.length dV),(vI eO.2.dy)]⟩)] [] bn,oH [0] (eT (ad (cT [0] (aK (fun(j:Int×(List bq)×(Option Nat)×Nat×(List Value)×Nat)=>match j with | ⟨ew,lR,im,bP,dN,pI⟩=>dp.ue c0 dz ew lR=some r∧(lR.length=pI)∧(hS im pI bP dN 2)∧(hO im lR bP)) (fun⟨ew,lR,im,bP,dN,pI⟩=> [(2,[],(vP gC)),(3,[],(vP qu))]) (fun⟨ew,lR,im,bP,dN,pI⟩=> [⟨some aH,25,[(.slice ej c0.aJ.length dV),(vI ew)]⟩,⟨some gC,29,[(vH 0),(.slice none 0 0)]⟩,⟨some qu,29,[(vH (ot dz.1)),(.slice (mB im) pI bP)]⟩,⟨im,68,row ay lR dN⟩]) ?_ ?_))))⟩
 ·refine ap ?_
  obtain⟨kI,uf,acD⟩:=bd h
  refine wA 68 ay (jl (fun(s:Int×(List bq)×Int) (x:(Option Nat)×Nat×(List Value)×Nat)=>match s,x with | ⟨cS,aZ,eE⟩,⟨gI,dv,eQ,lh⟩=>(aZ.length=lh)∧(hS gI lh dv eQ 2)∧(hO gI aZ dv)) (fun⟨cS,aZ,eE⟩ ⟨gI,dv,eQ,lh⟩=> [(0,[],(vP aH)),(2,[],(vP gC)),(3,[],(vP qu)),(4,[],(vI eO.1)),(5,[],(vI eE))]) (fun⟨cS,aZ,eE⟩ ⟨gI,dv,eQ,lh⟩=> [⟨some aH,25,[(.slice ej c0.aJ.length dV),(vI cS)]⟩,⟨some gC,29,[(vH 0),(.slice none 0 0)]⟩,⟨some qu,29,[(vH (ot dz.1)),(.slice (mB gI) lh dv)]⟩,⟨gI,68,row ay aZ eQ⟩]) uf ⟨none,0,[],0⟩ ⟨rfl,(fun e=>absurd rfl e),(fun _=>⟨rfl,rfl⟩)⟩ [0,1,2,3] ?_)
  rintro⟨cS,aZ,eE⟩ ⟨gI,dv,eQ,lh⟩ ajY ⟨rfl,vp,tg⟩ h
  rw [dp.I4] at h
  refine ad (cR [0,0,0] (bE h fun j7 r_ h=>oC 0 (fun w hm=>dO.c (⟨c0.aJ,cS⟩:a_) eE eO.1 w _ dV (hm.aM fD dE) rfl aH (hm.ps [0]) (hm.xp fD dE [0]) r_) ?_))
  rintro w v w' hm ⟨rfl,bn⟩
  refine ⟨_,hm.aW [(0,⟨some aH,25,[(.slice ej c0.aJ.length dV),(vI cS)]⟩)] [] bn,fB (eT (qi h (fun h=> ?_) (fun h=> ?_)))⟩
  ·refine kT (ad (ap (qg [⟨some gC,29,[(vH 0),(.slice none 0 0)]⟩] 13 (qd [⟨0,0,0⟩,⟨2,0,0⟩,⟨5,0,0⟩] 10 [1] (t2 1 3 ?_ ?_)))))
   ·refine qs 0 [2] (kD [1] (bE h fun dj ug h=>tD 3 (pc 0 (fun w hm=>aS.c (⟨c0.aJ,cS⟩:a_) w _ dV (hm.aM fD dE) rfl aH (hm.ps [0]) (hm.xp fD dE [0]) ug) ?_)))
    rintro w v w' hm ⟨rfl,bn⟩
    refine ⟨_,hm.aW [(0,⟨some aH,25,[(.slice ej c0.aJ.length dV),(vI dj.2.dy)]⟩)] [] bn,kD [1] (qd [⟨4,0,0⟩] 7 [1] (bE h fun bz zX h=>tD 6 (pc 0 (fun w hm=>aS.c (⟨c0.aJ,dj.2.dy⟩:a_) w _ dV (hm.aM fD dE) rfl aH (hm.ps [0]) (hm.xp fD dE [0]) zX) ?_)))⟩
    rintro w v w' hm ⟨rfl,bn⟩
    refine ⟨_,hm.aW [(0,⟨some aH,25,[(.slice ej c0.aJ.length dV),(vI bz.2.dy)]⟩)] [] bn,kD [1] (qd [⟨7,0,0⟩,⟨8,0,0⟩] 4 [1] (tD 9 (qa 0 (fun L1=>kD [1] ?_))))⟩
    obtain⟨Ru,h⟩:=gd h
    exact tD 10 (pA 0 3 gI 68 aZ.length 1 dv 2 2 (sB L1) ay aZ ([(⟨(w8 dj.1),(w8 bz.1)⟩:bq)]:List bq) eQ (.agg #[(vB 0),(vB 0)]) rfl rfl cW kv vp tg (fun w hm=>(hm.ow 4 (some L1) 68 ([(⟨(w8 dj.1),(w8 bz.1)⟩:bq)]:List bq) [] (fun e=>nomatch e) cW)) Ru (fun Rv li wF na mG=>kD [1] (qd [⟨11,0,0⟩] 1 [1] (tD 12 (qs 0 [2] (kD [1] (qz (nT (cH [0,0,0] (qe (qb (bz.2.dy,(aZ++([(⟨(w8 dj.1),(w8 bz.1)⟩:bq)]:List bq)),(au (eE+1))) ⟨Rv,li,wF,(aZ++([(⟨(w8 dj.1),(w8 bz.1)⟩:bq)]:List bq)).length⟩ h ⟨rfl,na,mG⟩ [0,1,2,3])))))))))))
   ·refine bE h fun dj oO h=>pc 0 (fun w hm=>aS.c (⟨c0.aJ,cS⟩:a_) w _ dV (hm.aM fD dE) rfl aH (hm.ps [0]) (hm.xp fD dE [0]) oO) ?_
    rintro w v w' hm ⟨rfl,bn⟩
    refine ⟨_,hm.aW [(0,⟨some aH,25,[(.slice ej c0.aJ.length dV),(vI dj.2.dy)]⟩)] [] bn,kD [1] (qd [⟨4,0,0⟩] 8 [1] (t2 1 6 ?_ ?_))⟩
    ·refine qs 0 [2] (kD [1] (bE h fun bz C7 h=>tD 6 (pc 0 (fun w hm=>aS.c (⟨c0.aJ,dj.2.dy⟩:a_) w _ dV (hm.aM fD dE) rfl aH (hm.ps [0]) (hm.xp fD dE [0]) C7) ?_)))
     rintro w v w' hm ⟨rfl,bn⟩
     refine ⟨_,hm.aW [(0,⟨some aH,25,[(.slice ej c0.aJ.length dV),(vI bz.2.dy)]⟩)] [] bn,kD [1] (qd [⟨7,0,0⟩,⟨8,0,0⟩] 4 [1] (tD 9 (qa 0 (fun Cj=>kD [1] ?_))))⟩
     obtain⟨Rx,h⟩:=gd h
     exact tD 10 (pA 0 3 gI 68 aZ.length 1 dv 2 2 (sB Cj) ay aZ ([(⟨(w8 dj.1),(w8 bz.1)⟩:bq)]:List bq) eQ (.agg #[(vB 0),(vB 0)]) rfl rfl cW kv vp tg (fun w hm=>(hm.ow 4 (some Cj) 68 ([(⟨(w8 dj.1),(w8 bz.1)⟩:bq)]:List bq) [] (fun e=>nomatch e) cW)) Rx (fun Ry C8 rl zY zZ=>kD [1] (qd [⟨11,0,0⟩] 1 [1] (tD 12 (qs 0 [2] (kD [1] (qz (nT (cH [0,0,0] (qe (qb (bz.2.dy,(aZ++([(⟨(w8 dj.1),(w8 bz.1)⟩:bq)]:List bq)),(au (eE+1))) ⟨Ry,C8,rl,(aZ++([(⟨(w8 dj.1),(w8 bz.1)⟩:bq)]:List bq)).length⟩ h ⟨rfl,zY,zZ⟩ [0,1,2,3])))))))))))
    ·refine bE h fun bz z6 h=>pc 0 (fun w hm=>aS.c (⟨c0.aJ,dj.2.dy⟩:a_) w _ dV (hm.aM fD dE) rfl aH (hm.ps [0]) (hm.xp fD dE [0]) z6) ?_
     rintro w v w' hm ⟨rfl,bn⟩
     refine ⟨_,hm.aW [(0,⟨some aH,25,[(.slice ej c0.aJ.length dV),(vI bz.2.dy)]⟩)] [] bn,kD [1] (qd [⟨7,0,0⟩,⟨8,0,0⟩] 5 [1] (t2 1 9 ?_ ?_))⟩
     ·refine qs 0 [2] (kD [1] (tD 9 (qa 0 (fun C9=>kD [1] ?_))))
      obtain⟨Rz,h⟩:=gd h
      exact tD 10 (pA 0 3 gI 68 aZ.length 1 dv 2 2 (sB C9) ay aZ ([(⟨(w8 dj.1),(w8 bz.1)⟩:bq)]:List bq) eQ (.agg #[(vB 0),(vB 0)]) rfl rfl cW kv vp tg (fun w hm=>(hm.ow 4 (some C9) 68 ([(⟨(w8 dj.1),(w8 bz.1)⟩:bq)]:List bq) [] (fun e=>nomatch e) cW)) Rz (fun RA L2 GO z7 th=>kD [1] (qd [⟨11,0,0⟩] 1 [1] (tD 12 (qs 0 [2] (kD [1] (qz (nT (cH [0,0,0] (qe (qb (bz.2.dy,(aZ++([(⟨(w8 dj.1),(w8 bz.1)⟩:bq)]:List bq)),(au (eE+1))) ⟨RA,L2,GO,(aZ++([(⟨(w8 dj.1),(w8 bz.1)⟩:bq)]:List bq)).length⟩ h ⟨rfl,z7,th⟩ [0,1,2,3])))))))))))
     ·refine qa 0 (fun acE=>kD [1] (tD 1 (qs 0 [2] (kD [1] ?_))))
      obtain⟨acF,h⟩:=gd h
      exact tD 10 (pA 0 3 gI 68 aZ.length 1 dv 2 2 (sB acE) ay aZ ([(⟨(w8 dj.1),(w8 bz.1)⟩:bq)]:List bq) eQ (.agg #[(vB 0),(vB 0)]) rfl rfl cW kv vp tg (fun w hm=>(hm.ow 4 (some acE) 68 ([(⟨(w8 dj.1),(w8 bz.1)⟩:bq)]:List bq) [] (fun e=>nomatch e) cW)) acF (fun ahi aac Jt N8 N9=>kD [1] (qd [⟨11,0,0⟩] 1 [1] (tD 12 (qs 0 [2] (kD [1] (qz (nT (cH [0,0,0] (qe (qb (bz.2.dy,(aZ++([(⟨(w8 dj.1),(w8 bz.1)⟩:bq)]:List bq)),(au (eE+1))) ⟨ahi,aac,Jt,(aZ++([(⟨(w8 dj.1),(w8 bz.1)⟩:bq)]:List bq)).length⟩ h ⟨rfl,N8,N9⟩ [0,1,2,3])))))))))))
  ·exact lX (cS,aZ) h (fun e=>by subst e;exact bo (qm ⟨cS,aZ,gI,dv,eQ,aZ.length⟩ ⟨acD,rfl,vp,tg⟩ [0,1,2,3]))
 ·rintro⟨ew,lR,im,bP,dN,pI⟩ ⟨h,rfl,BK,BL⟩
  unfold dp.ue at h
  refine aP (cR [2] (oS 0 [1] (eT (aI ?_))))
  obtain rfl:=si h
  exact qr [1] (fun w hm=>⟨im,bP,dN,lR.length,rfl,BK,BL,rfl,hm.pk [0,3]⟩)
def dA.ki(c0:a_)(aL:List ai)(fR:Int):Option ((List ai)×a_):=some (aL,(⟨c0.aJ,fR⟩:a_))
def dA.pH(c0:a_)(dz:Int×a_):((List ai)×Int×Int)→Option (((List ai)×Int×Int)⊕(((List ai)×Int)))
 | (aZ,bK,dW)=>(dO (⟨c0.aJ,bK⟩:a_) dW dz.1).bind fun uh=>(if uh=true then(aS (⟨c0.aJ,bK⟩:a_)).bind fun eo=>(aS (⟨c0.aJ,eo.2.dy⟩:a_)).bind fun gu=>(if aZ.length+([(⟨(ot eo.1),(w8 gu.1)⟩:ai)]:List ai).length≤4294967296 then some (.inl ((aZ++([(⟨(ot eo.1),(w8 gu.1)⟩:ai)]:List ai)),gu.2.dy,(au (dW+1)))) else none) else some (.inr (aZ,bK)))
def dA(c0:a_):Option ((List ai)×a_):=(aS c0).bind fun dz=>(loop (dA.pH c0 dz) (([]:List ai),dz.2.dy,0)).bind fun iI=>dA.ki c0 iI.1 iI.2
theorem dA.c(c0:a_)(w:World)(r:(List ai)×a_){ej:Option Addr}{eY:Nat}(dV:Nat)(fD:Rw w ej 1 jS c0.aJ)(jC:c0.aJ.length=eY)(aH:Nat)(fG:Mem w (bs [some aH]) [⟨some aH,25,[(.slice ej eY dV),(vI c0.dy)]⟩] w)(dE:c0.aJ≠ []→aB ej∉bs [some aH])(h:dA c0=some r):
   Cr 5 #[(vP aH)] w fun v w'=>∃(o0:Option Nat) (c0:Nat) (s0:List Value) (n0:Nat),r.1.length=n0∧(hS o0 n0 c0 s0 2)∧(hO o0 r.1 c0)∧v= .slice (mB o0) n0 c0∧Mem w (bs [some aH]) [⟨some aH,25,[(.slice ej eY dV),(vI r.2.dy)]⟩,⟨o0,70,row aF r.1 s0⟩] w':=by
 subst jC
 rw [dA] at h
 refine eN Tryz.func5 rfl Tryz.ntmps5 fG (cT [0] (ad (ao (oA 0 (fun gC=>qh [0] (eT (cR [0] (bE h fun dz iD h=>oC 0 (fun w hm=>aS.c c0 w _ dV (hm.aM fD dE) rfl aH (hm.ps [0]) (hm.xp fD dE [0]) iD) ?_))))))))
 rintro w v w' hm ⟨rfl,bn⟩
 refine ⟨_,hm.aW [(0,⟨some aH,25,[(.slice ej c0.aJ.length dV),(vI dz.2.dy)]⟩)] [] bn,oH [0] (eT (ad (cT [0] (aK (fun(j:(List ai)×Int×(Option Nat)×Nat×(List Value)×Nat)=>match j with | ⟨aL,fR,j8,et,dK,pJ⟩=>dA.ki c0 aL fR=some r∧(aL.length=pJ)∧(hS j8 pJ et dK 2)∧(hO j8 aL et)) (fun⟨aL,fR,j8,et,dK,pJ⟩=> [(2,[],(.slice none 0 0)),(3,[],(.slice (mB j8) pJ et))]) (fun⟨aL,fR,j8,et,dK,pJ⟩=> [⟨some aH,25,[(.slice ej c0.aJ.length dV),(vI fR)]⟩,⟨j8,70,row aF aL dK⟩]) ?_ ?_))))⟩
 ·refine ap ?_
  obtain⟨iI,Ju,RB⟩:=bd h
  refine jl (fun(s:(List ai)×Int×Int) (x:(Option Nat)×Nat×(List Value)×Nat)=>match s,x with | ⟨aZ,bK,dW⟩,⟨kj,fh,eV,pI⟩=>(aZ.length=pI)∧(hS kj pI fh eV 2)∧(hO kj aZ fh)) (fun⟨aZ,bK,dW⟩ ⟨kj,fh,eV,pI⟩=> [(0,[],(vP aH)),(2,[],(.slice none 0 0)),(3,[],(.slice (mB kj) pI fh)),(4,[],(vI dz.1)),(5,[],(vI dW))]) (fun⟨aZ,bK,dW⟩ ⟨kj,fh,eV,pI⟩=> [⟨some aH,25,[(.slice ej c0.aJ.length dV),(vI bK)]⟩,⟨kj,70,row aF aZ eV⟩]) Ju ⟨(some gC),0,[],0⟩ ⟨rfl,(fun _=>⟨bt _,by simp⟩),(fun e=>nomatch e)⟩ [0,1] ?_
  rintro⟨aZ,bK,dW⟩ ⟨kj,fh,eV,pI⟩ ahj ⟨rfl,RC,C_⟩ h
  rw [dA.pH] at h
  refine ad (cR [0,0,0] (bE h fun uh l8 h=>oC 0 (fun w hm=>dO.c (⟨c0.aJ,bK⟩:a_) dW dz.1 w _ dV (hm.aM fD dE) rfl aH (hm.ps [0]) (hm.xp fD dE [0]) l8) ?_))
  rintro w v w' hm ⟨rfl,bn⟩
  refine ⟨_,hm.aW [(0,⟨some aH,25,[(.slice ej c0.aJ.length dV),(vI bK)]⟩)] [] bn,fB (eT (qi h (fun h=> ?_) (fun h=> ?_)))⟩
  ·refine kT (ad (ap (cH [0,0] (bE h fun eo ui h=>oC 0 (fun w hm=>aS.c (⟨c0.aJ,bK⟩:a_) w _ dV (hm.aM fD dE) rfl aH (hm.ps [0]) (hm.xp fD dE [0]) ui) ?_))))
   rintro w v w' hm ⟨rfl,bn⟩
   refine ⟨_,hm.aW [(0,⟨some aH,25,[(.slice ej c0.aJ.length dV),(vI eo.2.dy)]⟩)] [] bn,oH [0,0] (bE h fun gu uf h=>oC 0 (fun w hm=>aS.c (⟨c0.aJ,eo.2.dy⟩:a_) w _ dV (hm.aM fD dE) rfl aH (hm.ps [0]) (hm.xp fD dE [0]) uf) ?_)⟩
   rintro w v w' hm ⟨rfl,bn⟩
   refine ⟨_,hm.aW [(0,⟨some aH,25,[(.slice ej c0.aJ.length dV),(vI gu.2.dy)]⟩)] [] bn,oH [0,0] (oA 0 (fun RD=>?_))⟩
   obtain⟨BM,h⟩:=gd h
   exact tO (pA 0 1 kj 70 aZ.length 1 fh 2 4 (sB RD) aF aZ ([(⟨(ot eo.1),(w8 gu.1)⟩:ai)]:List ai) eV (.agg #[(vH 0),(vB 0)]) rfl rfl br iZ RC C_ (fun w hm=>(hm.ow 2 (some RD) 70 ([(⟨(ot eo.1),(w8 gu.1)⟩:ai)]:List ai) [] (fun e=>nomatch e) br)) BM (fun tB h_ kS C' Da=>oH [0] (qe (nT (cH [0,0,0] (qe (qb ((aZ++([(⟨(ot eo.1),(w8 gu.1)⟩:ai)]:List ai)),gu.2.dy,(au (dW+1))) ⟨tB,h_,kS,(aZ++([(⟨(ot eo.1),(w8 gu.1)⟩:ai)]:List ai)).length⟩ h ⟨rfl,C',Da⟩ [0,1])))))))
  ·exact lX (aZ,bK) h (fun e=>by subst e;exact bo (qm ⟨aZ,bK,kj,fh,eV,aZ.length⟩ ⟨RB,rfl,RC,C_⟩ [0,1]))
 ·rintro⟨aL,fR,j8,et,dK,pJ⟩ ⟨h,rfl,BN,z8⟩
  unfold dA.ki at h
  refine aP (cT [0,0] (aI ?_))
  obtain rfl:=si h
  exact qr [] (fun w hm=>⟨j8,et,dK,aL.length,rfl,BN,z8,rfl,hm.pk [0,1]⟩)
def cA.ki(c0:a_)(gJ:av 96 Int)(ew:Int):Option ((av 96 Int)×a_):=some (gJ,(⟨c0.aJ,ew⟩:a_))
def cA.pH(c0:a_)(bz:Int×a_):((av 96 Int)×Int×Int)→Option (((av 96 Int)×Int×Int)⊕(((av 96 Int)×Int)))
 | (rm,cS,bK)=>(dO (⟨c0.aJ,cS⟩:a_) bK bz.1).bind fun qI=>(if(qI&&(decide (bK<96)))=true then(aS (⟨c0.aJ,cS⟩:a_)).bind fun i_=>(ix rm.1 bK).bind fun my=>some (.inl ((av.set rm bK (u32 i_.1)),i_.2.dy,(au (bK+1)))) else some (.inr (rm,cS)))
def cA(c0:a_):Option ((av 96 Int)×a_):=(aS c0).bind fun bz=>(loop (cA.pH c0 bz) ((av.dC 96 0),bz.2.dy,0)).bind fun jU=>cA.ki c0 jU.1 jU.2
theorem cA.c(c0:a_)(w:World)(r:(av 96 Int)×a_){ej:Option Addr}{eY:Nat}(dV:Nat)(fD:Rw w ej 1 jS c0.aJ)(jC:c0.aJ.length=eY)(aH:Nat)(fG:Mem w (bs [some aH]) [⟨some aH,25,[(.slice ej eY dV),(vI c0.dy)]⟩] w)(dE:c0.aJ≠ []→aB ej∉bs [some aH])(h:cA c0=some r):
   Cq 6 #[(vP aH)] w (.agg (row aj r.1.1 []).toArray) (bs [some aH]) [⟨some aH,25,[(.slice ej eY dV),(vI r.2.dy)]⟩]:=by
 subst jC
 rw [cA] at h
 refine eN Tryz.func6 rfl Tryz.ntmps6 fG (ad (ao (oA 0 (fun fa=>eT (cR [0] (oA 0 (fun cD=>tO (pS 0 2 cD 96 1 36 aj (av.dC 96 0) (av.dC 96 0) an bk (fB (eT (cR [0] (bE h fun bz jf h=>oC 0 (fun w hm=>aS.c c0 w _ dV (hm.aM fD dE) rfl aH (hm.ps [0]) (hm.xp fD dE [0]) jf) ?_))))))))))))
 rintro w v w' hm ⟨rfl,bn⟩
 refine ⟨_,hm.aW [(0,⟨some aH,25,[(.slice ej c0.aJ.length dV),(vI bz.2.dy)]⟩)] [] bn,oH [0] (eT (ad (cT [0] (aK (fun(j:(av 96 Int)×Int)=>match j with | ⟨gJ,ew⟩=>cA.ki c0 gJ ew=some r) (fun⟨gJ,ew⟩=> [(2,[],(vP fa)),(3,[],(vP cD))]) (fun⟨gJ,ew⟩=> [⟨some aH,25,[(.slice ej c0.aJ.length dV),(vI ew)]⟩,⟨(some fa),36,row aj ((av.dC 96 0).1) []⟩,⟨(some cD),36,row aj gJ.1 []⟩]) ?_ ?_))))⟩
 ·refine ap ?_
  obtain⟨jU,mH,Db⟩:=bd h
  refine jl (fun(s:(av 96 Int)×Int×Int) (x:Unit)=>match s,x with | ⟨rm,cS,bK⟩,_=>True) (fun⟨rm,cS,bK⟩ _=> [(0,[],(vP aH)),(2,[],(vP fa)),(3,[],(vP cD)),(4,[],(vI bz.1)),(5,[],(vI bK))]) (fun⟨rm,cS,bK⟩ _=> [⟨some aH,25,[(.slice ej c0.aJ.length dV),(vI cS)]⟩,⟨(some fa),36,row aj ((av.dC 96 0).1) []⟩,⟨(some cD),36,row aj rm.1 []⟩]) mH () trivial [0,1,2] ?_
  rintro⟨rm,cS,bK⟩ _ aad _ h
  rw [cA.pH] at h
  refine ad (cR [0,0,0] (bE h fun qI wG h=>oC 0 (fun w hm=>dO.c (⟨c0.aJ,cS⟩:a_) bK bz.1 w _ dV (hm.aM fD dE) rfl aH (hm.ps [0]) (hm.xp fD dE [0]) wG) ?_))
  rintro w v w' hm ⟨rfl,bn⟩
  refine ⟨_,hm.aW [(0,⟨some aH,25,[(.slice ej c0.aJ.length dV),(vI cS)]⟩)] [] bn,fB (qf [(0,0),(0,1),(0,1),(0,0)] (eT (qi h (fun h=> ?_) (fun h=> ?_))))⟩
  ·refine kT (ad (ap (cH [0,0] (bE h fun i_ wH h=>oC 0 (fun w hm=>aS.c (⟨c0.aJ,cS⟩:a_) w _ dV (hm.aM fD dE) rfl aH (hm.ps [0]) (hm.xp fD dE [0]) wH) ?_))))
   rintro w v w' hm ⟨rfl,bn⟩
   exact ⟨_,hm.aW [(0,⟨some aH,25,[(.slice ej c0.aJ.length dV),(vI i_.2.dy)]⟩)] [] bn,oH [0] (bE h fun my wJ h=>oX 0 (sB cD) 1 wJ rm.2 rfl (tO (pT 0 2 cD 36 aj rm.1 [] bK (u32 i_.1) 1 0 [(vU (u32 i_.1))] an wJ (fB (qe (nT (cH [0,0,0] (qe (qb ((av.set rm bK (u32 i_.1)),i_.2.dy,(au (bK+1))) () h trivial [0,1,2])))))))))⟩
  ·exact lX (rm,cS) h (fun e=>by subst e;exact bo (qm ⟨rm,cS⟩ Db [0,1,2]))
 ·rintro⟨gJ,ew⟩ h
  unfold cA.ki at h
  refine aP (ad (ao (tO (pL 0 2 cD 96 1 36 aj gJ an (fB (tO (pS 0 1 fa 96 1 36 aj (av.dC 96 0) gJ an bk (fB (eT (aI ?_))))))))))
  obtain rfl:=si h
  exact gH rfl (ra (b:=fa) (T':=36) (hh:=1) (mm:=1) aj gJ an iP) (fun w hm=>⟨rfl,hm.pk [0]⟩)
def dq.ki(c0:a_)(aL:List (av 96 Int))(eE:Int):Option ((List (av 96 Int))×a_):=some (aL,(⟨c0.aJ,eE⟩:a_))
def dq.pH(c0:a_)(eo:Int×a_):((List (av 96 Int))×Int×Int)→Option (((List (av 96 Int))×Int×Int)⊕(((List (av 96 Int))×Int)))
 | (aZ,bK,ew)=>(dO (⟨c0.aJ,bK⟩:a_) ew eo.1).bind fun iI=>(if iI=true then(cA (⟨c0.aJ,bK⟩:a_)).bind fun dz=>(if aZ.length+([dz.1]:List (av 96 Int)).length≤4294967296 then some (.inl ((aZ++([dz.1]:List (av 96 Int))),dz.2.dy,(au (ew+1)))) else none) else some (.inr (aZ,bK)))
def dq(c0:a_):Option ((List (av 96 Int))×a_):=(aS c0).bind fun eo=>(loop (dq.pH c0 eo) (([]:List (av 96 Int)),eo.2.dy,0)).bind fun jo=>dq.ki c0 jo.1 jo.2
theorem dq.c(c0:a_)(w:World)(r:(List (av 96 Int))×a_){ej:Option Addr}{eY:Nat}(dV:Nat)(fD:Rw w ej 1 jS c0.aJ)(jC:c0.aJ.length=eY)(aH:Nat)(fG:Mem w (bs [some aH]) [⟨some aH,25,[(.slice ej eY dV),(vI c0.dy)]⟩] w)(dE:c0.aJ≠ []→aB ej∉bs [some aH])(h:dq c0=some r):
   Cr 7 #[(vP aH)] w fun v w'=>∃(o0:Option Nat) (c0:Nat) (s0:List Value) (n0:Nat),r.1.length=n0∧(hS o0 n0 c0 s0 96)∧(hO o0 r.1 c0)∧v= .slice (mB o0) n0 c0∧Mem w (bs [some aH]) [⟨some aH,25,[(.slice ej eY dV),(vI r.2.dy)]⟩,⟨o0,36,row da r.1 s0⟩] w':=by
 subst jC
 rw [dq] at h
 refine eN Tryz.func7 rfl Tryz.ntmps7 fG (cT [0] (ad (ao (oA 0 (fun gx=>qh [0] (eT (cR [0] (bE h fun eo iD h=>oC 0 (fun w hm=>aS.c c0 w _ dV (hm.aM fD dE) rfl aH (hm.ps [0]) (hm.xp fD dE [0]) iD) ?_))))))))
 rintro w v w' hm ⟨rfl,bn⟩
 refine ⟨_,hm.aW [(0,⟨some aH,25,[(.slice ej c0.aJ.length dV),(vI eo.2.dy)]⟩)] [] bn,oH [0] (eT (ad (cT [0] (aK (fun(j:(List (av 96 Int))×Int×(Option Nat)×Nat×(List Value)×Nat)=>match j with | ⟨aL,eE,gI,fh,eV,uj⟩=>dq.ki c0 aL eE=some r∧(aL.length=uj)∧(hS gI uj fh eV 96)∧(hO gI aL fh)) (fun⟨aL,eE,gI,fh,eV,uj⟩=> [(2,[],(.slice none 0 0)),(3,[],(.slice (mB gI) uj fh))]) (fun⟨aL,eE,gI,fh,eV,uj⟩=> [⟨some aH,25,[(.slice ej c0.aJ.length dV),(vI eE)]⟩,⟨gI,36,row da aL eV⟩]) ?_ ?_))))⟩
 ·refine ap ?_
  obtain⟨jo,qJ,Jv⟩:=bd h
  refine jl (fun(s:(List (av 96 Int))×Int×Int) (x:(Option Nat)×Nat×(List Value)×Nat)=>match s,x with | ⟨aZ,bK,ew⟩,⟨gp,dv,eQ,pJ⟩=>(aZ.length=pJ)∧(hS gp pJ dv eQ 96)∧(hO gp aZ dv)) (fun⟨aZ,bK,ew⟩ ⟨gp,dv,eQ,pJ⟩=> [(0,[],(vP aH)),(2,[],(.slice none 0 0)),(3,[],(.slice (mB gp) pJ dv)),(4,[],(vI eo.1)),(5,[],(vI ew))]) (fun⟨aZ,bK,ew⟩ ⟨gp,dv,eQ,pJ⟩=> [⟨some aH,25,[(.slice ej c0.aJ.length dV),(vI bK)]⟩,⟨gp,36,row da aZ eQ⟩]) qJ ⟨(some gx),0,[],0⟩ ⟨rfl,(fun _=>⟨bt _,by simp⟩),(fun e=>nomatch e)⟩ [0,1] ?_
  rintro⟨aZ,bK,ew⟩ ⟨gp,dv,eQ,pJ⟩ L3 ⟨rfl,vp,tg⟩ h
  rw [dq.pH] at h
  refine ad (cR [0,0,0] (bE h fun iI sa h=>oC 0 (fun w hm=>dO.c (⟨c0.aJ,bK⟩:a_) ew eo.1 w _ dV (hm.aM fD dE) rfl aH (hm.ps [0]) (hm.xp fD dE [0]) sa) ?_))
  rintro w v w' hm ⟨rfl,bn⟩
  refine ⟨_,hm.aW [(0,⟨some aH,25,[(.slice ej c0.aJ.length dV),(vI bK)]⟩)] [] bn,fB (eT (qi h (fun h=> ?_) (fun h=> ?_)))⟩
  ·refine kT (ad (ap (cH [0,0] (bE h fun dz l8 h=>oC 0 (fun w hm=>cA.c (⟨c0.aJ,bK⟩:a_) w _ dV (hm.aM fD dE) rfl aH (hm.ps [0]) (hm.xp fD dE [0]) l8) ?_))))
   rintro w v w' hm ⟨rfl,bn⟩
   refine ⟨_,hm.aW [(0,⟨some aH,25,[(.slice ej c0.aJ.length dV),(vI dz.2.dy)]⟩)] [] bn,fB (tO (Rq 0 36 96 1 da [(.agg (row aj dz.1.1 []).toArray)] [dz.1] rfl dD (fun sY=>fB ?_)))⟩
   obtain⟨RE,h⟩:=gd h
   exact tO (pA 0 1 gp 36 aZ.length 1 dv 96 384 (sB sY) da aZ ([dz.1]:List (av 96 Int)) eQ (.agg (row aj (av.dC 96 0).1 []).toArray) rfl rfl dD wE vp tg (fun w hm=>(hm.ow 2 (some sY) 36 ([dz.1]:List (av 96 Int)) [] (fun e=>nomatch e) dD)) RE (fun nw fU rn uk pz=>oH [0] (qe (nT (cH [0,0,0] (qe (qb ((aZ++([dz.1]:List (av 96 Int))),dz.2.dy,(au (ew+1))) ⟨nw,fU,rn,(aZ++([dz.1]:List (av 96 Int))).length⟩ h ⟨rfl,uk,pz⟩ [0,1])))))))
  ·exact lX (aZ,bK) h (fun e=>by subst e;exact bo (qm ⟨aZ,bK,gp,dv,eQ,aZ.length⟩ ⟨Jv,rfl,vp,tg⟩ [0,1]))
 ·rintro⟨aL,eE,gI,fh,eV,uj⟩ ⟨h,rfl,RF,RG⟩
  unfold dq.ki at h
  refine aP (cT [0,0] (aI ?_))
  obtain rfl:=si h
  exact qr [] (fun w hm=>⟨gI,fh,eV,aL.length,rfl,RF,RG,rfl,hm.pk [0,1]⟩)
def dB.ki(c0:a_)(aL:List Int)(eE:Int):Option ((List Int)×a_):=some (aL,(⟨c0.aJ,eE⟩:a_))
def dB.pH(c0:a_)(dz:Int×a_):((List Int)×Int×Int)→Option (((List Int)×Int×Int)⊕(((List Int)×Int)))
 | (aZ,bK,ew)=>(dO (⟨c0.aJ,bK⟩:a_) ew dz.1).bind fun iI=>(if iI=true then(aS (⟨c0.aJ,bK⟩:a_)).bind fun eo=>(if aZ.length+([eo.1]:List Int).length≤4294967296 then some (.inl ((aZ++([eo.1]:List Int)),eo.2.dy,(au (ew+1)))) else none) else some (.inr (aZ,bK)))
def dB(c0:a_):Option ((List Int)×a_):=(aS c0).bind fun dz=>(loop (dB.pH c0 dz) (([]:List Int),dz.2.dy,0)).bind fun jo=>dB.ki c0 jo.1 jo.2
theorem dB.c(c0:a_)(w:World)(r:(List Int)×a_){ej:Option Addr}{eY:Nat}(dV:Nat)(fD:Rw w ej 1 jS c0.aJ)(jC:c0.aJ.length=eY)(aH:Nat)(fG:Mem w (bs [some aH]) [⟨some aH,25,[(.slice ej eY dV),(vI c0.dy)]⟩] w)(dE:c0.aJ≠ []→aB ej∉bs [some aH])(h:dB c0=some r):
   Cr 8 #[(vP aH)] w fun v w'=>∃(o0:Option Nat) (c0:Nat) (s0:List Value) (n0:Nat),r.1.length=n0∧(hS o0 n0 c0 s0 1)∧(hO o0 r.1 c0)∧v= .slice (mB o0) n0 c0∧Mem w (bs [some aH]) [⟨some aH,25,[(.slice ej eY dV),(vI r.2.dy)]⟩,⟨o0,2,row aG r.1 s0⟩] w':=by
 subst jC
 rw [dB] at h
 refine eN Tryz.func8 rfl Tryz.ntmps8 fG (cT [0] (ad (ao (oA 0 (fun gC=>qh [0] (eT (cR [0] (bE h fun dz iD h=>oC 0 (fun w hm=>aS.c c0 w _ dV (hm.aM fD dE) rfl aH (hm.ps [0]) (hm.xp fD dE [0]) iD) ?_))))))))
 rintro w v w' hm ⟨rfl,bn⟩
 refine ⟨_,hm.aW [(0,⟨some aH,25,[(.slice ej c0.aJ.length dV),(vI dz.2.dy)]⟩)] [] bn,oH [0] (eT (ad (cT [0] (aK (fun(j:(List Int)×Int×(Option Nat)×Nat×(List Value)×Nat)=>match j with | ⟨aL,eE,gI,fh,eV,uj⟩=>dB.ki c0 aL eE=some r∧(aL.length=uj)∧(hS gI uj fh eV 1)∧(hO gI aL fh)) (fun⟨aL,eE,gI,fh,eV,uj⟩=> [(2,[],(.slice none 0 0)),(3,[],(.slice (mB gI) uj fh))]) (fun⟨aL,eE,gI,fh,eV,uj⟩=> [⟨some aH,25,[(.slice ej c0.aJ.length dV),(vI eE)]⟩,⟨gI,2,row aG aL eV⟩]) ?_ ?_))))⟩
 ·refine ap ?_
  obtain⟨jo,qJ,Jv⟩:=bd h
  refine jl (fun(s:(List Int)×Int×Int) (x:(Option Nat)×Nat×(List Value)×Nat)=>match s,x with | ⟨aZ,bK,ew⟩,⟨gp,dv,eQ,pJ⟩=>(aZ.length=pJ)∧(hS gp pJ dv eQ 1)∧(hO gp aZ dv)) (fun⟨aZ,bK,ew⟩ ⟨gp,dv,eQ,pJ⟩=> [(0,[],(vP aH)),(2,[],(.slice none 0 0)),(3,[],(.slice (mB gp) pJ dv)),(4,[],(vI dz.1)),(5,[],(vI ew))]) (fun⟨aZ,bK,ew⟩ ⟨gp,dv,eQ,pJ⟩=> [⟨some aH,25,[(.slice ej c0.aJ.length dV),(vI bK)]⟩,⟨gp,2,row aG aZ eQ⟩]) qJ ⟨(some gC),0,[],0⟩ ⟨rfl,(fun _=>⟨bt _,by simp⟩),(fun e=>nomatch e)⟩ [0,1] ?_
  rintro⟨aZ,bK,ew⟩ ⟨gp,dv,eQ,pJ⟩ L3 ⟨rfl,vp,tg⟩ h
  rw [dB.pH] at h
  refine ad (cR [0,0,0] (bE h fun iI sa h=>oC 0 (fun w hm=>dO.c (⟨c0.aJ,bK⟩:a_) ew dz.1 w _ dV (hm.aM fD dE) rfl aH (hm.ps [0]) (hm.xp fD dE [0]) sa) ?_))
  rintro w v w' hm ⟨rfl,bn⟩
  refine ⟨_,hm.aW [(0,⟨some aH,25,[(.slice ej c0.aJ.length dV),(vI bK)]⟩)] [] bn,fB (eT (qi h (fun h=> ?_) (fun h=> ?_)))⟩
  ·refine kT (ad (ap (cH [0,0] (bE h fun eo l8 h=>oC 0 (fun w hm=>aS.c (⟨c0.aJ,bK⟩:a_) w _ dV (hm.aM fD dE) rfl aH (hm.ps [0]) (hm.xp fD dE [0]) l8) ?_))))
   rintro w v w' hm ⟨rfl,bn⟩
   refine ⟨_,hm.aW [(0,⟨some aH,25,[(.slice ej c0.aJ.length dV),(vI eo.2.dy)]⟩)] [] bn,fB (oA 0 (fun sY=>?_))⟩
   obtain⟨RE,h⟩:=gd h
   exact tO (pA 0 1 gp 2 aZ.length 1 dv 1 8 (sB sY) aG aZ ([eo.1]:List Int) eQ (vI 0) rfl rfl bf fT vp tg (fun w hm=>(hm.ow 2 (some sY) 2 ([eo.1]:List Int) [] (fun e=>nomatch e) bf)) RE (fun nw fU rn uk pz=>oH [0] (qe (nT (cH [0,0,0] (qe (qb ((aZ++([eo.1]:List Int)),eo.2.dy,(au (ew+1))) ⟨nw,fU,rn,(aZ++([eo.1]:List Int)).length⟩ h ⟨rfl,uk,pz⟩ [0,1])))))))
  ·exact lX (aZ,bK) h (fun e=>by subst e;exact bo (qm ⟨aZ,bK,gp,dv,eQ,aZ.length⟩ ⟨Jv,rfl,vp,tg⟩ [0,1]))
 ·rintro⟨aL,eE,gI,fh,eV,uj⟩ ⟨h,rfl,RF,RG⟩
  unfold dB.ki at h
  refine aP (cT [0,0] (aI ?_))
  obtain rfl:=si h
  exact qr [] (fun w hm=>⟨gI,fh,eV,aL.length,rfl,RF,RG,rfl,hm.pk [0,1]⟩)
def cy.ki(c0:a_)(aL:List ab)(fC:Int):Option ((List ab)×a_):=some (aL,(⟨c0.aJ,fC⟩:a_))
def cy.pH(c0:a_)(dz:Int×a_):((List ab)×Int×Int)→Option (((List ab)×Int×Int)⊕(((List ab)×Int)))
 | (aZ,bK,fR)=>(dO (⟨c0.aJ,bK⟩:a_) fR dz.1).bind fun kI=>(if kI=true then(eS (⟨c0.aJ,bK⟩:a_)).bind fun eo=>(aS (⟨c0.aJ,eo.2.dy⟩:a_)).bind fun gu=>(aS (⟨c0.aJ,gu.2.dy⟩:a_)).bind fun i_=>(aS (⟨c0.aJ,i_.2.dy⟩:a_)).bind fun jU=>(if aZ.length+([(⟨((Int.tmod eo.1 2)==1),(w8 gu.1),(w8 i_.1),(w8 jU.1)⟩:ab)]:List ab).length≤4294967296 then some (.inl ((aZ++([(⟨((Int.tmod eo.1 2)==1),(w8 gu.1),(w8 i_.1),(w8 jU.1)⟩:ab)]:List ab)),jU.2.dy,(au (fR+1)))) else none) else some (.inr (aZ,bK)))
def cy(c0:a_):Option ((List ab)×a_):=(aS c0).bind fun dz=>(loop (cy.pH c0 dz) (([]:List ab),dz.2.dy,0)).bind fun kn=>cy.ki c0 kn.1 kn.2
theorem cy.c(c0:a_)(w:World)(r:(List ab)×a_){ej:Option Addr}{eY:Nat}(dV:Nat)(fD:Rw w ej 1 jS c0.aJ)(jC:c0.aJ.length=eY)(aH:Nat)(fG:Mem w (bs [some aH]) [⟨some aH,25,[(.slice ej eY dV),(vI c0.dy)]⟩] w)(dE:c0.aJ≠ []→aB ej∉bs [some aH])(h:cy c0=some r):
   Cr 9 #[(vP aH)] w fun v w'=>∃(o0:Option Nat) (c0:Nat) (s0:List Value) (n0:Nat),r.1.length=n0∧(hS o0 n0 c0 s0 4)∧(hO o0 r.1 c0)∧v= .slice (mB o0) n0 c0∧Mem w (bs [some aH]) [⟨some aH,25,[(.slice ej eY dV),(vI r.2.dy)]⟩,⟨o0,72,row af r.1 s0⟩] w':=by
 subst jC
 rw [cy] at h
 refine eN Tryz.func9 rfl Tryz.ntmps9 fG (cT [0] (ad (ao (oA 0 (fun gC=>qh [0] (eT (cR [0] (bE h fun dz iD h=>oC 0 (fun w hm=>aS.c c0 w _ dV (hm.aM fD dE) rfl aH (hm.ps [0]) (hm.xp fD dE [0]) iD) ?_))))))))
 rintro w v w' hm ⟨rfl,bn⟩
 refine ⟨_,hm.aW [(0,⟨some aH,25,[(.slice ej c0.aJ.length dV),(vI dz.2.dy)]⟩)] [] bn,oH [0] (eT (ad (cT [0] (aK (fun(j:(List ab)×Int×(Option Nat)×Nat×(List Value)×Nat)=>match j with | ⟨aL,fC,fj,bP,fP,lh⟩=>cy.ki c0 aL fC=some r∧(aL.length=lh)∧(hS fj lh bP fP 4)∧(hO fj aL bP)) (fun⟨aL,fC,fj,bP,fP,lh⟩=> [(2,[],(.slice none 0 0)),(3,[],(.slice (mB fj) lh bP))]) (fun⟨aL,fC,fj,bP,fP,lh⟩=> [⟨some aH,25,[(.slice ej c0.aJ.length dV),(vI fC)]⟩,⟨fj,72,row af aL fP⟩]) ?_ ?_))))⟩
 ·refine ap ?_
  obtain⟨kn,l8,BO⟩:=bd h
  refine jl (fun(s:(List ab)×Int×Int) (x:(Option Nat)×Nat×(List Value)×Nat)=>match s,x with | ⟨aZ,bK,fR⟩,⟨j8,cu,dN,mT⟩=>(aZ.length=mT)∧(hS j8 mT cu dN 4)∧(hO j8 aZ cu)) (fun⟨aZ,bK,fR⟩ ⟨j8,cu,dN,mT⟩=> [(0,[],(vP aH)),(2,[],(.slice none 0 0)),(3,[],(.slice (mB j8) mT cu)),(4,[],(vI dz.1)),(5,[],(vI fR))]) (fun⟨aZ,bK,fR⟩ ⟨j8,cu,dN,mT⟩=> [⟨some aH,25,[(.slice ej c0.aJ.length dV),(vI bK)]⟩,⟨j8,72,row af aZ dN⟩]) l8 ⟨(some gC),0,[],0⟩ ⟨rfl,(fun _=>⟨bt _,by simp⟩),(fun e=>nomatch e)⟩ [0,1] ?_
  rintro⟨aZ,bK,fR⟩ ⟨j8,cu,dN,mT⟩ acG ⟨rfl,GQ,Jw⟩ h
  rw [cy.pH] at h
  refine ad (cR [0,0,0] (bE h fun kI uf h=>oC 0 (fun w hm=>dO.c (⟨c0.aJ,bK⟩:a_) fR dz.1 w _ dV (hm.aM fD dE) rfl aH (hm.ps [0]) (hm.xp fD dE [0]) uf) ?_))
  rintro w v w' hm ⟨rfl,bn⟩
  refine ⟨_,hm.aW [(0,⟨some aH,25,[(.slice ej c0.aJ.length dV),(vI bK)]⟩)] [] bn,fB (eT (qi h (fun h=> ?_) (fun h=> ?_)))⟩
  ·refine kT (ad (ap (cH [0,0] (bE h fun eo wK h=>oC 0 (fun w hm=>eS.c (⟨c0.aJ,bK⟩:a_) w _ dV (hm.aM fD dE) rfl aH (hm.ps [0]) (hm.xp fD dE [0]) wK) ?_))))
   rintro w v w' hm ⟨rfl,bn⟩
   refine ⟨_,hm.aW [(0,⟨some aH,25,[(.slice ej c0.aJ.length dV),(vI eo.2.dy)]⟩)] [] bn,oH [0,0,0] (bE h fun gu r_ h=>oC 0 (fun w hm=>aS.c (⟨c0.aJ,eo.2.dy⟩:a_) w _ dV (hm.aM fD dE) rfl aH (hm.ps [0]) (hm.xp fD dE [0]) r_) ?_)⟩
   rintro w v w' hm ⟨rfl,bn⟩
   refine ⟨_,hm.aW [(0,⟨some aH,25,[(.slice ej c0.aJ.length dV),(vI gu.2.dy)]⟩)] [] bn,oH [0,0] (bE h fun i_ ug h=>oC 0 (fun w hm=>aS.c (⟨c0.aJ,gu.2.dy⟩:a_) w _ dV (hm.aM fD dE) rfl aH (hm.ps [0]) (hm.xp fD dE [0]) ug) ?_)⟩
   rintro w v w' hm ⟨rfl,bn⟩
   refine ⟨_,hm.aW [(0,⟨some aH,25,[(.slice ej c0.aJ.length dV),(vI i_.2.dy)]⟩)] [] bn,oH [0,0] (bE h fun jU zX h=>oC 0 (fun w hm=>aS.c (⟨c0.aJ,i_.2.dy⟩:a_) w _ dV (hm.aM fD dE) rfl aH (hm.ps [0]) (hm.xp fD dE [0]) zX) ?_)⟩
   rintro w v w' hm ⟨rfl,bn⟩
   refine ⟨_,hm.aW [(0,⟨some aH,25,[(.slice ej c0.aJ.length dV),(vI jU.2.dy)]⟩)] [] bn,oH [0,0] (oA 0 (fun Cj=>?_))⟩
   obtain⟨Ru,h⟩:=gd h
   exact tO (pA 0 1 j8 72 aZ.length 1 cu 4 4 (sB Cj) af aZ ([(⟨((Int.tmod eo.1 2)==1),(w8 gu.1),(w8 i_.1),(w8 jU.1)⟩:ab)]:List ab) dN (.agg #[(.bool false),(vB 0),(vB 0),(vB 0)]) rfl rfl az eI GQ Jw (fun w hm=>(hm.ow 2 (some Cj) 72 ([(⟨((Int.tmod eo.1 2)==1),(w8 gu.1),(w8 i_.1),(w8 jU.1)⟩:ab)]:List ab) [] (fun e=>nomatch e) az)) Ru (fun Rv li wF na mG=>oH [0] (qe (nT (cH [0,0,0] (qe (qb ((aZ++([(⟨((Int.tmod eo.1 2)==1),(w8 gu.1),(w8 i_.1),(w8 jU.1)⟩:ab)]:List ab)),jU.2.dy,(au (fR+1))) ⟨Rv,li,wF,(aZ++([(⟨((Int.tmod eo.1 2)==1),(w8 gu.1),(w8 i_.1),(w8 jU.1)⟩:ab)]:List ab)).length⟩ h ⟨rfl,na,mG⟩ [0,1])))))))
  ·exact lX (aZ,bK) h (fun e=>by subst e;exact bo (qm ⟨aZ,bK,j8,cu,dN,aZ.length⟩ ⟨BO,rfl,GQ,Jw⟩ [0,1]))
 ·rintro⟨aL,fC,fj,bP,fP,lh⟩ ⟨h,rfl,Jy,vq⟩
  unfold cy.ki at h
  refine aP (cT [0,0] (aI ?_))
  obtain rfl:=si h
  exact qr [] (fun w hm=>⟨fj,bP,fP,aL.length,rfl,Jy,vq,rfl,hm.pk [0,1]⟩)
def FB(n0:Int)(HW:Int)(z_:Int):Option (Bool):=some ((decide (HW≤n0))&&(decide (n0≤z_)))
theorem FB.c(n0:Int)(HW:Int)(z_:Int)(w:World)(r:Bool)(h:FB n0 HW z_=some r):
   Cq 91 #[(vI n0),(vI HW),(vI z_)] w (.bool r) [] []:=by
 rw [FB] at h
 refine en Tryz.func91 rfl Tryz.ntmps91 (cT [0] (ad (ao (qf [(0,0),(0,0),(0,0),(0,0),(0,1),(0,1),(0,1),(0,0),(0,0)] (eT (aI ?_))))))
 cases h
 exact qP []
def GR(ci:List bq):Option (Int):=some (ci.length:Int)
theorem GR.c(ci:List bq)(w:World)(r:Int){cQ:Option Addr}{ck:Nat}(bX:Nat)(eX:Rw w cQ 2 ay ci)(dH:ci.length=ck)(h:GR ci=some r):
   Cq 124 #[(.slice cQ ck bX)] w (vI r) [] []:=by
 subst dH
 rw [GR] at h
 refine en Tryz.func124 rfl Tryz.ntmps124 (cT [0] (cT [0,0,0] (aI ?_)))
 cases h
 exact qP []
def Wn(n0:Int):Option (Bool):=(FB n0 0 47).bind fun aA=>some aA
theorem Wn.c(n0:Int)(w:World)(r:Bool)(h:Wn n0=some r):
   Cq 175 #[(vI n0)] w (.bool r) [] []:=by
 rw [Wn] at h
 refine en Tryz.func175 rfl Tryz.ntmps175 (cT [0] (cR [0] (bE h fun aA gv h=>oQ 0 (fun w hm=>FB.c n0 0 47 w _ gv) (qh [0] (eT (aI ?_))))))
 cases h
 exact qP []
def Fbm(h0:bq)(p1:ae):Option (Bool):=(Wn (au h0.aD)).bind fun bz=>(if(!bz)=true then some true else(FB (au h0.fg) 1 (if(au p1.ag)<20 then(au p1.ag) else 20)).bind fun aA=>some (!aA))
theorem Fbm.c(h0:bq)(p1:ae)(w:World)(r:Bool){F_a:Option Addr}{Pm:Nat}(F_c:Nat)(F_h:Rw w F_a 2 ay p1.aa)(aae:p1.aa.length=Pm)(fZ:Nat)(fG:Mem w (bs [some fZ]) [⟨some fZ,29,cG p1 F_a Pm F_c⟩] w)(acH:p1.aa≠ []→aB F_a∉bs [some fZ])(h:Fbm h0 p1=some r):
   Cq 174 #[(.agg #[(vB h0.aD),(vB h0.fg)]),(vP fZ)] w (.bool r) (bs [some fZ]) [⟨some fZ,29,cG p1 F_a Pm F_c⟩]:=by
 subst aae
 rw [Fbm] at h
 refine eN Tryz.func174 rfl Tryz.ntmps174 fG (ad (ao (oA 0 (fun fa=>qh [0] (eT (cR [0,1,0] (bE h fun bz gv h=>oQ 0 (fun w hm=>Wn.c (au h0.aD) w _ gv) (qf [(0,0),(0,0),(0,1),(1,1),(0,1),(0,1),(0,1),(0,1),(0,1)] (qp 9 h (fun h=> ?_) (fun h=> ?_))))))))))
 ·refine qf [(0,3),(0,3),(0,4),(0,0)] (eT (aI ?_))
  cases h
  exact qP [0]
 ·refine bE h fun aA kN h=>oQ 2 (fun w hm=>FB.c (au h0.fg) 1 (if(au p1.ag)<20 then(au p1.ag) else 20) w _ kN) (qf [(0,2),(0,5),(0,0)] (eT (aI ?_)))
  cases h
  exact qP [0]
def Fp.iQ:Option (Int):=some (-1)
def Fp.e7(s0:List bq)(io:ae):Int→Option ((Int)⊕(Int⊕Unit))
 | aR=>(if(decide (aR<(s0.length:Int)))=true then(ix s0 aR).bind fun eW=>(Fbm eW io).bind fun dz=>(if dz=true then some (.inr (.inl aR)) else some (.inl (au (aR+1)))) else some (.inr (.inr ())))
def Fp(s0:List bq)(io:ae):Option (Int):=(loop (Fp.e7 s0 io) 0).bind fun eo=>match eo with | .inl p=>some p | .inr p=>Fp.iQ
theorem Fp.c(s0:List bq)(io:ae)(w:World)(r:Int){cQ:Option Addr}{ck:Nat}(bX:Nat)(eX:Rw w cQ 2 ay s0)(dH:s0.length=ck){bL:Option Addr}{bG:Nat}(bQ:Nat)(dL:Rw w bL 2 ay io.aa)(dU:io.aa.length=bG)(eG:Nat)(fG:Mem w (bs [some eG]) [⟨some eG,29,cG io bL bG bQ⟩] w)(ul:s0≠ []→aB cQ∉bs [some eG])(eL:io.aa≠ []→aB bL∉bs [some eG])(h:Fp s0 io=some r):
   Cq 198 #[(.slice cQ ck bX),(.func (.func 174) #[] #[(vP eG)])] w (vI r) (bs [some eG]) [⟨some eG,29,cG io bL bG bQ⟩]:=by
 subst dH dU
 rw [Fp] at h
 refine eN Tryz.func198 rfl Tryz.ntmps198 fG (cT [0] (ad (cT [0,0,0] (aK (fun(_:Unit)=>Fp.iQ=some r) (fun(_:Unit)=> [(4,[],(vI 0))]) (fun(_:Unit)=> [⟨some eG,29,cF io bL bQ⟩]) ?_ ?_))))
 ·refine ap ?_
  obtain⟨eo,km,sZ⟩:=bd h
  refine jl (fun(aR:Int) (_:Unit)=>True) (fun aR _=> [(0,[],(.slice cQ s0.length bX)),(1,[],(.func (.func 174) #[] #[(vP eG)])),(4,[],(vI 0)),(7,[],(vI (s0.length:Int))),(8,[],(vI aR))]) (fun aR _=> [⟨some eG,29,cF io bL bQ⟩]) km () trivial [0] ?_
  rintro aR _ Jz _ h
  rw [Fp.e7] at h
  refine cT [0] (ad (qi h (fun h=> ?_) (fun h=> ?_)))
  ·refine kT (ad (ap (cT [0,0] (cR [0,0,0] (bE h fun eW jV h=>oX 0 cQ 2 jV rfl (eX.sp jV) (oL 0 true (fun w hm=>((hm.aM eX ul).at jV)) (bE h fun dz iR h=>oC 0 (fun w hm=>Fbm.c eW io w _ bQ (hm.aM dL eL) rfl eG (hm.ps [0]) (hm.xp dL eL [0]) iR) ?_)))))))
   rintro w v w' hm ⟨rfl,bn⟩
   refine ⟨_,hm.aW [(0,⟨some eG,29,cF io bL bQ⟩)] [] bn,fB (eT (qi h (fun h=> ?_) (fun h=> ?_)))⟩
   ·refine cT [0,0] (aI (cg (aT (c_ (.inl aR) (sj h) (fun Pn=> ?_)))))
    subst Pn
    refine cg (aT (aT ?_))
    obtain rfl:=si sZ
    exact qP [0]
   ·exact bV (nT (cH [0,0] (qe (qb (au (aR+1)) () h trivial [0]))))
  ·exact lX (.inr ()) h (fun e=>by subst e;exact bo (qm () sZ [0]))
 ·rintro _ h
  unfold Fp.iQ at h
  refine aP (cT [0] (aI ?_))
  cases h
  exact qP [0]
def F5(s0:List bq)(io:ae):Option (Bool):=(Fp s0 io).bind fun aA=>some (decide (aA≥0))
theorem F5.c(s0:List bq)(io:ae)(w:World)(r:Bool){cQ:Option Addr}{ck:Nat}(bX:Nat)(eX:Rw w cQ 2 ay s0)(dH:s0.length=ck){bL:Option Addr}{bG:Nat}(bQ:Nat)(dL:Rw w bL 2 ay io.aa)(dU:io.aa.length=bG)(eG:Nat)(fG:Mem w (bs [some eG]) [⟨some eG,29,cG io bL bG bQ⟩] w)(ul:s0≠ []→aB cQ∉bs [some eG])(eL:io.aa≠ []→aB bL∉bs [some eG])(h:F5 s0 io=some r):
   Cq 173 #[(.slice cQ ck bX),(.func (.func 174) #[] #[(vP eG)])] w (.bool r) (bs [some eG]) [⟨some eG,29,cG io bL bG bQ⟩]:=by
 subst dH dU
 rw [F5] at h
 refine eN Tryz.func173 rfl Tryz.ntmps173 fG (cT [0] (cR [0,0] (bE h fun aA gv h=>oC 0 (fun w hm=>Fp.c s0 io w _ bX (hm.aM eX ul) rfl bQ (hm.aM dL eL) rfl eG (hm.ps [0]) (hm.xp eX ul [0]) (hm.xp dL eL [0]) gv) ?_)))
 rintro w v w' hm ⟨rfl,bn⟩
 refine ⟨_,hm.aW [(0,⟨some eG,29,cF io bL bQ⟩)] [] bn,oH [0,0] (eT (aI ?_))⟩
 cases h
 exact qP [0]
def Wo(f0:ae):Option (Bool):=(FB (au f0.ag) 2 96).bind fun aA=>(if aA=true then(GR f0.aa).bind fun bz=>(FB bz 1 24).bind fun dz=>(if dz=true then(F5 f0.aa f0).bind fun dj=>some (!dj) else some false) else some false)
theorem Wo.c(f0:ae)(w:World)(r:Bool){bj:Option Addr}{bm:Nat}(bi:Nat)(dr:Rw w bj 2 ay f0.aa)(cE:f0.aa.length=bm)(h:Wo f0=some r):
   Cq 128 #[(.agg #[(vH f0.ag),(.slice bj bm bi)])] w (.bool r) [] []:=by
 subst cE
 rw [Wo] at h
 refine en Tryz.func128 rfl Tryz.ntmps128 (ad (ao (oA 0 (fun cD=>qh [0] (eT (cR [0,0,0] (bE h fun aA iD h=>oQ 0 (fun w hm=>FB.c (au f0.ag) 2 96 w _ iD) (qf [(0,0),(0,1),(0,1)] (qp 7 h (fun h=> ?_) (fun h=> ?_))))))))))
 ·refine bE h fun bz kN h=>oQ 2 (fun w hm=>GR.c f0.aa w _ bi (hm.xr dr) rfl kN) (bE h fun dz jD h=>oQ 2 (fun w hm=>FB.c bz 1 24 w _ jD) (qf [(0,4),(0,0),(0,1),(0,1),(0,1)] (qp 13 h (fun h=> ?_) (fun h=> ?_))))
  ·refine bE h fun dj jf h=>oC 2 (fun w hm=>F5.c f0.aa f0 w _ bi (hm.xr dr) rfl bi (hm.xr dr) rfl cD (hm.ps [0]) (hm.xp dr (fun _=>cq) [0]) (hm.xp dr (fun _=>cq) [0]) jf) ?_
   rintro w v w' hm ⟨rfl,bn⟩
   refine ⟨_,hm.aW [(0,⟨some cD,29,cF f0 bj bi⟩)] [] bn,fB (qf [(0,2),(0,4),(0,0)] (eT (aI ?_)))⟩
   cases h
   exact qP []
  ·refine qf [(0,3),(0,3),(0,5),(0,0)] (eT (aI ?_))
   cases h
   exact qP []
 ·refine qf [(0,3),(0,3),(0,5),(0,0),(0,3),(0,3),(0,3),(0,3),(0,3),(0,5),(0,0)] (eT (aI ?_))
  cases h
  exact qP []
def FS.iQ:Option (Bool):=some true
def FS.qw(aR:Int)(sb:Bool):Option ((Int)⊕(Bool⊕Unit)):=(if sb=true then some (.inr (.inl false)) else some (.inl (au (aR+1))))
def FS.e7(f0:ae)(d1:av 96 Int):Int→Option ((Int)⊕(Bool⊕Unit))
 | aR=>(if(decide (aR<96))=true then(ix d1.1 aR).bind fun pb=>(if 0≤(f0.aa.length:Int) then(if((eC .u32 pb (f0.aa.length:Int)) !=0)=true then FS.qw aR true else FS.qw aR ((decide (aR≥(au f0.ag)))&&(pb !=0))) else none) else some (.inr (.inr ())))
def FS(f0:ae)(d1:av 96 Int):Option (Bool):=(loop (FS.e7 f0 d1) 0).bind fun eo=>match eo with | .inl p=>some p | .inr p=>FS.iQ
theorem FS.c(f0:ae)(d1:av 96 Int)(w:World)(r:Bool){bj:Option Addr}{bm:Nat}(bi:Nat)(dr:Rw w bj 2 ay f0.aa)(cE:f0.aa.length=bm)(h:FS f0 d1=some r):
   Cq 131 #[(.agg #[(vH f0.ag),(.slice bj bm bi)]),(.agg (row aj d1.1 []).toArray)] w (.bool r) [] []:=by
 subst cE
 rw [FS] at h
 refine en Tryz.func131 rfl Tryz.ntmps131 (ad (ao (oA 0 (fun gC=>oA 0 (fun cD=>qh [0] (eT (s2 (ao (tO (pL 0 1 cD 96 1 36 aj d1 an (oH [0] (eT (aK (fun(_:Unit)=>FS.iQ=some r) (fun(_:Unit)=> [(4,[],(.bool false))]) (fun(_:Unit)=> [⟨some gC,29,cF f0 bj bi⟩,⟨(some cD),36,row aj d1.1 []⟩]) ?_ ?_)))))))))))))
 ·refine ap ?_
  obtain⟨eo,iR,sZ⟩:=bd h
  refine jl (fun(aR:Int) (_:Unit)=>True) (fun aR _=> [(2,[],(vP gC)),(4,[],(.bool false)),(7,[],(.agg (row aj d1.1 []).toArray)),(8,[],(vI aR))]) (fun aR _=> [⟨some gC,29,cF f0 bj bi⟩,⟨(some cD),36,row aj d1.1 []⟩]) iR () trivial [0,1] ?_
  rintro aR _ y_6 _ h
  rw [FS.e7] at h
  refine cT [0] (ad (qi h (fun h=> ?_) (fun h=> ?_)))
  ·refine kT (ad (ap (cR [0] (bE h fun pb kV h=>tO (pX 0 aj (fun x=>(vU x)) d1 aR (fun _=>rfl) kV (oH [0,0] (eT (ad (aK (fun(sb:Bool)=>FS.qw aR sb=some y_6) (fun sb=> [(2,[],(vP gC)),(4,[],(.bool false)),(7,[],(.agg (row aj d1.1 []).toArray)),(8,[],(vI aR)),(28,[],(.bool sb))]) (fun sb=> [⟨some gC,29,cF f0 bj bi⟩,⟨(some cD),36,row aj d1.1 []⟩]) ?_ ?_)))))))))
   ·refine cH [0,0,0,0] ?_
    obtain⟨ahk,h⟩:=gd h
    refine tO (pW 0 .u32 pb .i64 (f0.aa.length:Int) ahk (fB (qf [(0,0),(0,0),(0,1),(0,1),(0,1),(0,1),(0,1)] (qp 18 h (fun h=> ?_) (fun h=> ?_)))))
    ·exact qf [(0,3),(0,3),(0,3),(0,3),(0,4)] (qe (qm true h [0,1]))
    ·exact qf [(0,2),(0,1),(0,1),(0,2),(0,5)] (qe (qm ((decide (aR≥(au f0.ag)))&&(pb !=0)) h [0,1]))
   ·rintro sb h
    unfold FS.qw at h
    refine aP (qi h (fun h=> ?_) (fun h=> ?_))
    ·refine cT [0] (aI (cg (aT (c_ (.inl false) (sj h) (fun ahl=> ?_)))))
     subst ahl
     refine cg (aT (aT ?_))
     obtain rfl:=si sZ
     exact qP []
    ·exact bV (nT (cH [0,0] (qe (qb (au (aR+1)) () h trivial [0,1]))))
  ·exact lX (.inr ()) h (fun e=>by subst e;exact bo (qm () sZ [0,1]))
 ·rintro _ h
  unfold FS.iQ at h
  refine aP (cT [0] (aI ?_))
  cases h
  exact qP []
def FbX(d0:av 96 Int)(p1:ae):Option (Bool):=(FS p1 d0).bind fun aA=>some (!aA)
theorem FbX.c(d0:av 96 Int)(p1:ae)(w:World)(r:Bool){bL:Option Addr}{bG:Nat}(bQ:Nat)(dL:Rw w bL 2 ay p1.aa)(dU:p1.aa.length=bG)(eG:Nat)(fG:Mem w (bs [some eG]) [⟨some eG,29,cG p1 bL bG bQ⟩] w)(eL:p1.aa≠ []→aB bL∉bs [some eG])(h:FbX d0 p1=some r):
   Cq 130 #[(.agg (row aj d0.1 []).toArray),(vP eG)] w (.bool r) (bs [some eG]) [⟨some eG,29,cG p1 bL bG bQ⟩]:=by
 subst dU
 rw [FbX] at h
 refine eN Tryz.func130 rfl Tryz.ntmps130 fG (ad (ao (oA 0 (fun cD=>qh [0] (eT (cR [0] (tO (pL 0 1 cD 96 1 36 aj d0 an (fB (bE h fun aA iD h=>oQ 0 (fun w hm=>FS.c p1 d0 w _ bQ (hm.aM dL eL) rfl iD) (qh [0,0] (eT (aI ?_)))))))))))))
 cases h
 exact qP [0]
def Fs.iQ:Option (Int):=some (-1)
def Fs.e7(s0:List (av 96 Int))(io:ae):Int→Option ((Int)⊕(Int⊕Unit))
 | aR=>(if(decide (aR<(s0.length:Int)))=true then(ix s0 aR).bind fun eW=>(FbX eW io).bind fun dz=>(if dz=true then some (.inr (.inl aR)) else some (.inl (au (aR+1)))) else some (.inr (.inr ())))
def Fs(s0:List (av 96 Int))(io:ae):Option (Int):=(loop (Fs.e7 s0 io) 0).bind fun eo=>match eo with | .inl p=>some p | .inr p=>Fs.iQ
theorem Fs.c(s0:List (av 96 Int))(io:ae)(w:World)(r:Int){cQ:Option Addr}{ck:Nat}(bX:Nat)(eX:Rw w cQ 96 da s0)(dH:s0.length=ck){bL:Option Addr}{bG:Nat}(bQ:Nat)(dL:Rw w bL 2 ay io.aa)(dU:io.aa.length=bG)(eG:Nat)(fG:Mem w (bs [some eG]) [⟨some eG,29,cG io bL bG bQ⟩] w)(ul:s0≠ []→aB cQ∉bs [some eG])(eL:io.aa≠ []→aB bL∉bs [some eG])(h:Fs s0 io=some r):
   Cq 176 #[(.slice cQ ck bX),(.func (.func 130) #[] #[(vP eG)])] w (vI r) (bs [some eG]) [⟨some eG,29,cG io bL bG bQ⟩]:=by
 subst dH dU
 rw [Fs] at h
 refine eN Tryz.func176 rfl Tryz.ntmps176 fG (cT [0] (ad (cT [0,0,0] (aK (fun(_:Unit)=>Fs.iQ=some r) (fun(_:Unit)=> [(4,[],(vI 0))]) (fun(_:Unit)=> [⟨some eG,29,cF io bL bQ⟩]) ?_ ?_))))
 ·refine ap ?_
  obtain⟨eo,km,sZ⟩:=bd h
  refine jl (fun(aR:Int) (_:Unit)=>True) (fun aR _=> [(0,[],(.slice cQ s0.length bX)),(1,[],(.func (.func 130) #[] #[(vP eG)])),(4,[],(vI 0)),(7,[],(vI (s0.length:Int))),(8,[],(vI aR))]) (fun aR _=> [⟨some eG,29,cF io bL bQ⟩]) km () trivial [0] ?_
  rintro aR _ Jz _ h
  rw [Fs.e7] at h
  refine cT [0] (ad (qi h (fun h=> ?_) (fun h=> ?_)))
  ·refine kT (ad (ap (cT [0,0] (cR [0,0,0] (bE h fun eW jV h=>oX 0 cQ 96 jV rfl (eX.sp jV) (tO (NZ 0 (aB cQ) (aO cQ+aR.toNat*96) (da eW) 96 (by kernel_rfl) (by kernel_rfl) (dD eW) (fun w hm=>((hm.aM eX ul).at jV)) (fB (bE h fun dz iR h=>oC 0 (fun w hm=>FbX.c eW io w _ bQ (hm.aM dL eL) rfl eG (hm.ps [0]) (hm.xp dL eL [0]) iR) ?_)))))))))
   rintro w v w' hm ⟨rfl,bn⟩
   refine ⟨_,hm.aW [(0,⟨some eG,29,cF io bL bQ⟩)] [] bn,fB (eT (qi h (fun h=> ?_) (fun h=> ?_)))⟩
   ·refine cT [0,0] (aI (cg (aT (c_ (.inl aR) (sj h) (fun Pn=> ?_)))))
    subst Pn
    refine cg (aT (aT ?_))
    obtain rfl:=si sZ
    exact qP [0]
   ·exact bV (nT (cH [0,0] (qe (qb (au (aR+1)) () h trivial [0]))))
  ·exact lX (.inr ()) h (fun e=>by subst e;exact bo (qm () sZ [0]))
 ·rintro _ h
  unfold Fs.iQ at h
  refine aP (cT [0] (aI ?_))
  cases h
  exact qP [0]
def Fab(s0:List (av 96 Int))(io:ae):Option (Bool):=(Fs s0 io).bind fun aA=>some (decide (aA≥0))
theorem Fab.c(s0:List (av 96 Int))(io:ae)(w:World)(r:Bool){cQ:Option Addr}{ck:Nat}(bX:Nat)(eX:Rw w cQ 96 da s0)(dH:s0.length=ck){bL:Option Addr}{bG:Nat}(bQ:Nat)(dL:Rw w bL 2 ay io.aa)(dU:io.aa.length=bG)(eG:Nat)(fG:Mem w (bs [some eG]) [⟨some eG,29,cG io bL bG bQ⟩] w)(ul:s0≠ []→aB cQ∉bs [some eG])(eL:io.aa≠ []→aB bL∉bs [some eG])(h:Fab s0 io=some r):
   Cq 129 #[(.slice cQ ck bX),(.func (.func 130) #[] #[(vP eG)])] w (.bool r) (bs [some eG]) [⟨some eG,29,cG io bL bG bQ⟩]:=by
 subst dH dU
 rw [Fab] at h
 refine eN Tryz.func129 rfl Tryz.ntmps129 fG (cT [0] (cR [0,0] (bE h fun aA gv h=>oC 0 (fun w hm=>Fs.c s0 io w _ bX (hm.aM eX ul) rfl bQ (hm.aM dL eL) rfl eG (hm.ps [0]) (hm.xp eX ul [0]) (hm.xp dL eL [0]) gv) ?_)))
 rintro w v w' hm ⟨rfl,bn⟩
 refine ⟨_,hm.aW [(0,⟨some eG,29,cF io bL bQ⟩)] [] bn,oH [0,0] (eT (aI ?_))⟩
 cases h
 exact qP [0]
def FI(is0:Bool)(z':Int):Option (Int):=(if is0=true then some 0 else some z')
theorem FI.c(is0:Bool)(z':Int)(w:World)(r:Int)(h:FI is0 z'=some r):
   Cq 76 #[(.bool is0),(vI z')] w (vI r) [] []:=by
 rw [FI] at h
 refine en Tryz.func76 rfl Tryz.ntmps76 (cT [0] (ad (cT [0] (qi h (fun h=> ?_) (fun h=> ?_)))))
 ·refine cT [0] (rX ?_)
  cases h
  exact qP []
 ·refine kT (cT [0,0] (aI ?_))
  cases h
  exact qP []
def GU(f0:ae)(bw:List (av 96 Int)):Option (Int):=(Wo f0).bind fun aA=>(if aA=true then(Fab bw f0).bind fun bz=>(FI (!bz) 1).bind fun dz=>some dz else(FI false 1).bind fun dj=>some dj)
theorem GU.c(f0:ae)(bw:List (av 96 Int))(w:World)(r:Int){bj:Option Addr}{bm:Nat}(bi:Nat)(dr:Rw w bj 2 ay f0.aa)(cE:f0.aa.length=bm){bL:Option Addr}{bG:Nat}(bQ:Nat)(dL:Rw w bL 96 da bw)(dU:bw.length=bG)(h:GU f0 bw=some r):
   Cq 65 #[(.agg #[(vH f0.ag),(.slice bj bm bi)]),(.slice bL bG bQ)] w (vI r) [] []:=by
 subst cE dU
 rw [GU] at h
 refine en Tryz.func65 rfl Tryz.ntmps65 (ad (ao (oA 0 (fun cD=>qh [0] (eT (cR [0] (bE h fun aA iD h=>oQ 0 (fun w hm=>Wo.c f0 w _ bi (hm.xr dr) rfl iD) (qf [(0,0),(0,1),(0,1)] (qp 7 h (fun h=> ?_) (fun h=> ?_))))))))))
 ·refine bE h fun bz kN h=>oC 2 (fun w hm=>Fab.c bw f0 w _ bQ (hm.xr dL) rfl bi (hm.xr dr) rfl cD (hm.ps [0]) (hm.xp dL (fun _=>cq) [0]) (hm.xp dr (fun _=>cq) [0]) kN) ?_
  rintro w v w' hm ⟨rfl,bn⟩
  refine ⟨_,hm.aW [(0,⟨some cD,29,cF f0 bj bi⟩)] [] bn,fB (qf [(0,2),(0,4)] (bE h fun dz jD h=>oQ 0 (fun w hm=>FI.c (!bz) 1 w _ jD) (qh [0] (eT (aI ?_)))))⟩
  cases h
  exact qP []
 ·refine qf [(0,3),(0,3),(0,5)] (bE h fun dj jf h=>oQ 0 (fun w hm=>FI.c false 1 w _ jf) (qh [0] (eT (aI ?_))))
  cases h
  exact qP []
def Fca(n0:ai):Option (Bool):=(FB (au n0.cd) 0 199).bind fun bz=>(if bz=true then(Wn (au n0.aD)).bind fun aA=>some aA else some false)
theorem Fca.c(n0:ai)(w:World)(r:Bool)(h:Fca n0=some r):
   Cq 179 #[(.agg (aN n0))] w (.bool r) [] []:=by
 rw [Fca] at h
 refine en Tryz.func179 rfl Tryz.ntmps179 (ad (ao (oA 0 (fun fa=>qh [0] (eT (cR [0,0,0] (bE h fun bz gv h=>oQ 0 (fun w hm=>FB.c (au n0.cd) 0 199 w _ gv) (qf [(0,0),(0,1),(0,1),(0,1)] (qp 7 h (fun h=> ?_) (fun h=> ?_))))))))))
 ·refine bE h fun aA kN h=>oQ 2 (fun w hm=>Wn.c (au n0.aD) w _ kN) (qf [(0,4),(0,0)] (eT (aI ?_)))
  cases h
  exact qP []
 ·refine qf [(0,3),(0,5),(0,0)] (eT (aI ?_))
  cases h
  exact qP []
def Yy(x0:Int):Option (Bool):=some (x0 !=x0)
theorem Yy.c(x0:Int)(w:World)(r:Bool)(h:Yy x0=some r):
   Cq 208 #[(vH x0)] w (.bool r) [] []:=by
 rw [Yy] at h
 refine en Tryz.func208 rfl Tryz.ntmps208 (cT [0] (cT [0,0,0,0] (aI ?_)))
 cases h
 exact qP []
def Fbn(x0:Int)(y1:Int):Option (Int):=(Yy x0).bind fun bz=>(Yy y1).bind fun aA=>(if bz=true then(if aA=true then some 0 else some (-1)) else(if aA=true then some 1 else(if(decide (x0<y1))=true then some (-1) else(if(decide (x0>y1))=true then some 1 else some 0))))
theorem Fbn.c(x0:Int)(y1:Int)(w:World)(r:Int)(h:Fbn x0 y1=some r):
   Cq 201 #[(vH x0),(vH y1)] w (vI r) [] []:=by
 rw [Fbn] at h
 refine en Tryz.func201 rfl Tryz.ntmps201 (cT [0] (cR [0] (bE h fun bz iD h=>oQ 0 (fun w hm=>Yy.c x0 w _ iD) (qh [0] (eT (cR [0] (bE h fun aA gv h=>oQ 0 (fun w hm=>Yy.c y1 w _ gv) (qh [0] (eT (ad (cT [0] (qi h (fun h=> ?_) (fun h=> ?_)))))))))))))
 ·refine ad (cT [0] (qi h (fun h=> ?_) (fun h=> ?_)))
  ·refine cT [0] (rX (aT ?_))
   cases h
   exact qP []
  ·refine kT (cT [0] (rX ?_))
   cases h
   exact qP []
 ·refine kT (ad (cT [0] (qi h (fun h=> ?_) (fun h=> ?_))))
  ·refine cT [0] (rX ?_)
   cases h
   exact qP []
  ·refine kT (ad (cT [0,0,0] (qi h (fun h=> ?_) (fun h=> ?_))))
   ·refine cT [0] (rX ?_)
    cases h
    exact qP []
   ·refine kT (ad (cT [0,0,0] (qi h (fun h=> ?_) (fun h=> ?_))))
    ·refine cT [0] (rX ?_)
     cases h
     exact qP []
    ·refine kT (cT [0] (aI ?_))
     cases h
     exact qP []
def Yz(x0:Int):Option (Bool):=some (x0 !=x0)
theorem Yz.c(x0:Int)(w:World)(r:Bool)(h:Yz x0=some r):
   Cq 209 #[(vB x0)] w (.bool r) [] []:=by
 rw [Yz] at h
 refine en Tryz.func209 rfl Tryz.ntmps209 (cT [0] (cT [0,0,0,0] (aI ?_)))
 cases h
 exact qP []
def Fbx(x0:Int)(y1:Int):Option (Int):=(Yz x0).bind fun bz=>(Yz y1).bind fun aA=>(if bz=true then(if aA=true then some 0 else some (-1)) else(if aA=true then some 1 else(if(decide (x0<y1))=true then some (-1) else(if(decide (x0>y1))=true then some 1 else some 0))))
theorem Fbx.c(x0:Int)(y1:Int)(w:World)(r:Int)(h:Fbx x0 y1=some r):
   Cq 202 #[(vB x0),(vB y1)] w (vI r) [] []:=by
 rw [Fbx] at h
 refine en Tryz.func202 rfl Tryz.ntmps202 (cT [0] (cR [0] (bE h fun bz iD h=>oQ 0 (fun w hm=>Yz.c x0 w _ iD) (qh [0] (eT (cR [0] (bE h fun aA gv h=>oQ 0 (fun w hm=>Yz.c y1 w _ gv) (qh [0] (eT (ad (cT [0] (qi h (fun h=> ?_) (fun h=> ?_)))))))))))))
 ·refine ad (cT [0] (qi h (fun h=> ?_) (fun h=> ?_)))
  ·refine cT [0] (rX (aT ?_))
   cases h
   exact qP []
  ·refine kT (cT [0] (rX ?_))
   cases h
   exact qP []
 ·refine kT (ad (cT [0] (qi h (fun h=> ?_) (fun h=> ?_))))
  ·refine cT [0] (rX ?_)
   cases h
   exact qP []
  ·refine kT (ad (cT [0,0,0] (qi h (fun h=> ?_) (fun h=> ?_))))
   ·refine cT [0] (rX ?_)
    cases h
    exact qP []
   ·refine kT (ad (cT [0,0,0] (qi h (fun h=> ?_) (fun h=> ?_))))
    ·refine cT [0] (rX ?_)
     cases h
     exact qP []
    ·refine kT (cT [0] (aI ?_))
     cases h
     exact qP []
def Ck.iQ:Option (Int):=some 0
def Ck.e7(yk:List Int):Int→Option ((Int)⊕(Int⊕Unit))
 | aR=>(if(decide (aR<(yk.length:Int)))=true then(ix yk aR).bind fun eW=>(if(eW !=0)=true then some (.inr (.inl eW)) else some (.inl (au (aR+1)))) else some (.inr (.inr ())))
def Ck(yk:List Int):Option (Int):=(loop (Ck.e7 yk) 0).bind fun dz=>match dz with | .inl p=>some p | .inr p=>Ck.iQ
theorem Ck.c(yk:List Int)(w:World)(r:Int){cQ:Option Addr}{ck:Nat}(bX:Nat)(eX:Rw w cQ 1 aG yk)(dH:yk.length=ck)(h:Ck yk=some r):
   Cq 200 #[(.slice cQ ck bX)] w (vI r) [] []:=by
 subst dH
 rw [Ck] at h
 refine en Tryz.func200 rfl Tryz.ntmps200 (cT [0] (cT [0] (ad (cT [0,0,0] (aK (fun(_:Unit)=>Ck.iQ=some r) (fun(_:Unit)=> [(2,[],(vI 0)),(3,[],(vI 0))]) (fun(_:Unit)=> []) ?_ ?_)))))
 ·refine ap ?_
  obtain⟨dz,jf,Dc⟩:=bd h
  refine jl (fun(aR:Int) (_:Unit)=>True) (fun aR _=> [(2,[],(vI 0)),(3,[],(vI 0)),(6,[],(.slice cQ yk.length bX)),(7,[],(vI (yk.length:Int))),(8,[],(vI aR))]) (fun aR _=> []) jf () trivial [] ?_
  rintro aR _ y_8 _ h
  rw [Ck.e7] at h
  refine cT [0] (ad (qi h (fun h=> ?_) (fun h=> ?_)))
  ·refine kT (ad (ap (ad (ao (bE h fun eW jV h=>oX 0 cQ 1 jV rfl (eX.sp jV) (oL 0 false (fun w hm=>((hm.xr eX).at jV)) (qh [0] (eT (cT [0,0,0] (qi h (fun h=> ?_) (fun h=> ?_)))))))))))
   ·refine cT [0,0] (aI (cg (aT (c_ (.inl eW) (sj h) (fun e_6=> ?_)))))
    subst e_6
    refine cg (aT (aT ?_))
    obtain rfl:=si Dc
    exact qP []
   ·exact bV (nT (cH [0,0] (qe (qb (au (aR+1)) () h trivial []))))
  ·exact lX (.inr ()) h (fun e=>by subst e;exact bo (qm () Dc []))
 ·rintro _ h
  unfold Ck.iQ at h
  refine aP (cT [0,0] (aI ?_))
  cases h
  exact qP []
def L4(a0:ai)(b1:ai):Option (Int):=(Fbn a0.cd b1.cd).bind fun aA=>(Fbx a0.aD b1.aD).bind fun bz=>(Ck ([aA,bz]:List Int)).bind fun dj=>some dj
theorem L4.c(a0:ai)(b1:ai)(w:World)(r:Int)(h:L4 a0 b1=some r):
   Cq 180 #[(.agg (aN a0)),(.agg (aN b1))] w (vI r) [] []:=by
 rw [L4] at h
 refine en Tryz.func180 rfl Tryz.ntmps180 (ad (ao (oA 0 (fun cD=>oA 0 (fun fa=>qh [0] (eT (ad (qg [⟨some cD,70,cN a0⟩,⟨some fa,70,cN b1⟩] 13 (qd [⟨0,0,0⟩,⟨1,0,0⟩,⟨2,0,0⟩,⟨3,1,0⟩,⟨5,0,0⟩,⟨6,0,0⟩,⟨7,0,0⟩,⟨8,1,0⟩] 5 [0,1] (bE h fun aA kN h=>dQ 4 0 (fun w hm=>Fbn.c a0.cd b1.cd w _ kN) [0,1] (bE h fun bz jP h=>dQ 9 0 (fun w hm=>Fbx.c a0.aD b1.aD w _ jP) [0,1] (tD 10 (qa 0 (fun gx=>kD [0,1] (bE h fun dj jf h=>dQ 11 0 (fun w hm=>Ck.c ([aA,bz]:List Int) w _ 2 (hm.ow 2 (some gx) 3 ([aA,bz]:List Int) [] (fun e=>nomatch e) bf) rfl jf) [0,1] (qd [⟨12,0,0⟩] 0 [0,1] (qz (xR ?_))))))))))))))))))
 cases h
 exact qP []
def FT.iQ(t0:List ai):Option (Bool):=some (decide ((t0.length:Int)≤120))
def FT.qw(aR:Int)(yU:Bool):Option ((Int)⊕(Bool⊕Unit)):=(if yU=true then some (.inr (.inl false)) else some (.inl (au (aR+1))))
def FT.e7(t0:List ai):Int→Option ((Int)⊕(Bool⊕Unit))
 | aR=>(if(decide (aR<(t0.length:Int)))=true then(ix t0 aR).bind fun eW=>(Fca eW).bind fun dz=>(if(!dz)=true then FT.qw aR true else(if(decide (aR>0))=true then(ix t0 (au (aR-1))).bind fun pd=>(L4 pd eW).bind fun gu=>FT.qw aR (decide (gu≥0)) else FT.qw aR false)) else some (.inr (.inr ())))
def FT(t0:List ai):Option (Bool):=(loop (FT.e7 t0) 0).bind fun eO=>match eO with | .inl p=>some p | .inr p=>FT.iQ t0
theorem FT.c(t0:List ai)(w:World)(r:Bool){cQ:Option Addr}{ck:Nat}(bX:Nat)(eX:Rw w cQ 2 aF t0)(dH:t0.length=ck)(h:FT t0=some r):
   Cq 137 #[(.slice cQ ck bX)] w (.bool r) [] []:=by
 subst dH
 rw [FT] at h
 refine en Tryz.func137 rfl Tryz.ntmps137 (cT [0] (ad (cT [0,0,0] (aK (fun(_:Unit)=>FT.iQ t0=some r) (fun(_:Unit)=> [(0,[],(.slice cQ t0.length bX)),(2,[],(.bool false))]) (fun(_:Unit)=> []) ?_ ?_))))
 ·refine ap ?_
  obtain⟨eO,wH,Dd⟩:=bd h
  refine jl (fun(aR:Int) (_:Unit)=>True) (fun aR _=> [(0,[],(.slice cQ t0.length bX)),(2,[],(.bool false)),(5,[],(.slice cQ t0.length bX)),(6,[],(vI (t0.length:Int))),(7,[],(vI aR))]) (fun aR _=> []) wH () trivial [] ?_
  rintro aR _ aaf _ h
  rw [FT.e7] at h
  refine cT [0] (ad (qi h (fun h=> ?_) (fun h=> ?_)))
  ·refine kT (ad (ap (cR [0] (bE h fun eW oP h=>oX 0 cQ 2 oP rfl (eX.sp oP) (oL 0 true (fun w hm=>((hm.xr eX).at oP)) (oA 0 (fun A3=>qh [0] (oS 0 [0] (eT (ad (aK (fun(yU:Bool)=>FT.qw aR yU=some aaf) (fun yU=> [(0,[],(.slice cQ t0.length bX)),(2,[],(.bool false)),(5,[],(.slice cQ t0.length bX)),(6,[],(vI (t0.length:Int))),(7,[],(vI aR)),(28,[],(.bool yU))]) (fun yU=> [⟨some A3,70,cN eW⟩]) ?_ ?_)))))))))))
   ·refine qg [⟨some A3,70,cN eW⟩] 17 (qd [⟨0,0,0⟩] 16 [0] (bE h fun dz nx h=>dQ 1 0 (fun w hm=>Fca.c eW w _ nx) [0] (qd [⟨2,0,0⟩,⟨3,0,0⟩,⟨4,0,1⟩,⟨5,0,1⟩] 11 [0] (js 15 (!dz) (fun aag=> ?_) (fun aag=> ?_)))))
    ·replace h:=yi aag h
     exact qd [⟨6,0,3⟩,⟨7,0,3⟩,⟨8,0,3⟩,⟨9,0,3⟩,⟨10,0,3⟩,⟨11,0,3⟩,⟨12,0,3⟩,⟨13,0,3⟩,⟨14,0,3⟩,⟨15,0,3⟩,⟨16,0,4⟩] 0 [0] (qz (qm true h [0]))
    ·replace h:=yj aag h
     refine qd [⟨6,0,2⟩,⟨7,0,1⟩,⟨8,0,1⟩,⟨9,0,1⟩,⟨12,0,1⟩] 6 [0] (js 18 (decide (aR>0)) (fun L5=> ?_) (fun L5=> ?_))
     ·replace h:=yi L5 h
      exact bE h fun pd wJ h=>qX 10 2 [0] cQ 2 wJ rfl (eX.sp wJ) (qL 11 2 [0] true (fun w hm=>(hm.xr eX).at wJ) (bE h fun gu sd h=>dQ 13 2 (fun w hm=>L4.c pd eW w _ sd) [0] (qd [⟨14,0,2⟩,⟨15,0,4⟩,⟨16,0,5⟩] 0 [0] (qz (qm (decide (gu≥0)) h [0])))))
     ·replace h:=yj L5 h
      exact qd [⟨10,0,3⟩,⟨11,0,3⟩,⟨13,0,3⟩,⟨14,0,3⟩,⟨15,0,5⟩,⟨16,0,5⟩] 0 [0] (qz (qm false h [0]))
   ·rintro yU h
    unfold FT.qw at h
    refine aP (qi h (fun h=> ?_) (fun h=> ?_))
    ·refine cT [0] (aI (cg (aT (c_ (.inl false) (sj h) (fun ahm=> ?_)))))
     subst ahm
     refine cg (aT (aT ?_))
     obtain rfl:=si Dd
     exact qP []
    ·exact bV (nT (cH [0,0] (qe (qb (au (aR+1)) () h trivial []))))
  ·exact lX (.inr ()) h (fun e=>by subst e;exact bo (qm () Dd []))
 ·rintro _ h
  unfold FT.iQ at h
  refine aP (cT [0,0,0,0] (aI ?_))
  cases h
  exact qP []
def FbY(t0:List ai):Option (Bool):=(FT t0).bind fun aA=>some (!aA)
theorem FbY.c(t0:List ai)(w:World)(r:Bool){cQ:Option Addr}{ck:Nat}(bX:Nat)(eX:Rw w cQ 2 aF t0)(dH:t0.length=ck)(h:FbY t0=some r):
   Cq 165 #[(.slice cQ ck bX)] w (.bool r) [] []:=by
 subst dH
 rw [FbY] at h
 refine en Tryz.func165 rfl Tryz.ntmps165 (cT [0] (cR [0] (bE h fun aA gv h=>oQ 0 (fun w hm=>FT.c t0 w _ bX (hm.xr eX) rfl gv) (qh [0,0] (eT (aI ?_))))))
 cases h
 exact qP []
def Ft.iQ:Option (Int):=some (-1)
def Ft.e7(s0:List (List ai)):Int→Option ((Int)⊕(Int⊕Unit))
 | aR=>(if(decide (aR<(s0.length:Int)))=true then(ix s0 aR).bind fun pb=>(FbY pb).bind fun dz=>(if dz=true then some (.inr (.inl aR)) else some (.inl (au (aR+1)))) else some (.inr (.inr ())))
def Ft(s0:List (List ai)):Option (Int):=(loop (Ft.e7 s0) 0).bind fun eo=>match eo with | .inl p=>some p | .inr p=>Ft.iQ
theorem Ft.c(s0:List (List ai))(w:World)(r:Int){cQ:Option Addr}{ck:Nat}(bX:Nat){gq:List Hd}(eX:Rw w cQ 1 dZ gq)(dH:s0.length=ck)(sV:r8 w [] 2 aF gq s0)(h:Ft s0=some r):
   Cq 195 #[(.slice cQ ck bX),(.func (.func 165) #[] #[])] w (vI r) [] []:=by
 subst dH
 rw [Ft] at h
 refine en Tryz.func195 rfl Tryz.ntmps195 (cT [0] (ad (cT [0,0,0] (aK (fun(_:Unit)=>Ft.iQ=some r) (fun(_:Unit)=> [(4,[],(vI 0))]) (fun(_:Unit)=> []) ?_ ?_))))
 ·refine ap ?_
  obtain⟨eo,km,sZ⟩:=bd h
  refine jl (fun(aR:Int) (_:Unit)=>True) (fun aR _=> [(0,[],(.slice cQ s0.length bX)),(1,[],(.func (.func 165) #[] #[])),(4,[],(vI 0)),(7,[],(vI (s0.length:Int))),(8,[],(vI aR))]) (fun aR _=> []) km () trivial [] ?_
  rintro aR _ Jz _ h
  rw [Ft.e7] at h
  refine cT [0] (ad (qi h (fun h=> ?_) (fun h=> ?_)))
  ·refine kT (ad (ap (cT [0,0] (cR [0,0,0] (bE h fun pb lC h=>oX 0 cQ 1 lC rfl (eX.sp (sV.Ci lC)) (oL 0 false (fun w hm=>((hm.xr eX).at (sV.Ci lC))) (bE h fun dz iR h=>oQ 0 (fun w hm=>FbY.c pb w _ ((hd gq aR).c) (hm.GH (sV.get lC).1 cq) (sV.get lC).2.1 iR) (eT (qi h (fun h=> ?_) (fun h=> ?_))))))))))
   ·refine cT [0,0] (aI (cg (aT (c_ (.inl aR) (sj h) (fun Pn=> ?_)))))
    subst Pn
    refine cg (aT (aT ?_))
    obtain rfl:=si sZ
    exact qP []
   ·exact bV (nT (cH [0,0] (qe (qb (au (aR+1)) () h trivial []))))
  ·exact lX (.inr ()) h (fun e=>by subst e;exact bo (qm () sZ []))
 ·rintro _ h
  unfold Ft.iQ at h
  refine aP (cT [0] (aI ?_))
  cases h
  exact qP []
def Fac(s0:List (List ai)):Option (Bool):=(Ft s0).bind fun aA=>some (decide (aA≥0))
theorem Fac.c(s0:List (List ai))(w:World)(r:Bool){cQ:Option Addr}{ck:Nat}(bX:Nat){gq:List Hd}(eX:Rw w cQ 1 dZ gq)(dH:s0.length=ck)(sV:r8 w [] 2 aF gq s0)(h:Fac s0=some r):
   Cq 164 #[(.slice cQ ck bX),(.func (.func 165) #[] #[])] w (.bool r) [] []:=by
 subst dH
 rw [Fac] at h
 refine en Tryz.func164 rfl Tryz.ntmps164 (cT [0] (cR [0,0] (bE h fun aA gv h=>oQ 0 (fun w hm=>Ft.c s0 w _ bX (hm.xr eX) rfl (hm.ip sV []) gv) (qh [0,0] (eT (aI ?_))))))
 cases h
 exact qP []
def Wp(ci:List (List ai)):Option (Int):=(Fac ci).bind fun aA=>(FI (!aA) 1).bind fun bz=>some bz
theorem Wp.c(ci:List (List ai))(w:World)(r:Int){cQ:Option Addr}{ck:Nat}(bX:Nat){gq:List Hd}(eX:Rw w cQ 1 dZ gq)(dH:ci.length=ck)(sV:r8 w [] 2 aF gq ci)(h:Wp ci=some r):
   Cq 109 #[(.slice cQ ck bX)] w (vI r) [] []:=by
 subst dH
 rw [Wp] at h
 refine en Tryz.func109 rfl Tryz.ntmps109 (cT [0] (cR [0] (bE h fun aA gv h=>oQ 0 (fun w hm=>Fac.c ci w _ bX (hm.xr eX) rfl (hm.ip sV []) gv) (qh [0] (bE h fun bz iD h=>oQ 0 (fun w hm=>FI.c (!aA) 1 w _ iD) (qh [0] (eT (aI ?_))))))))
 cases h
 exact qP []
def Fe.iQ:Option (Int):=some 0
def Fe.e7(tC:List Int):Int→Option ((Int)⊕(Int⊕Unit))
 | aR=>(if(decide (aR<(tC.length:Int)))=true then(ix tC aR).bind fun eW=>(if(eW !=0)=true then some (.inr (.inl eW)) else some (.inl (au (aR+1)))) else some (.inr (.inr ())))
def Fe(tC:List Int):Option (Int):=(loop (Fe.e7 tC) 0).bind fun dz=>match dz with | .inl p=>some p | .inr p=>Fe.iQ
theorem Fe.c(tC:List Int)(w:World)(r:Int){cQ:Option Addr}{ck:Nat}(bX:Nat)(eX:Rw w cQ 1 aG tC)(dH:tC.length=ck)(h:Fe tC=some r):
   Cq 74 #[(.slice cQ ck bX)] w (vI r) [] []:=by
 subst dH
 rw [Fe] at h
 refine en Tryz.func74 rfl Tryz.ntmps74 (cT [0] (ad (cT [0,0,0] (aK (fun(_:Unit)=>Fe.iQ=some r) (fun(_:Unit)=> [(2,[],(vI 0))]) (fun(_:Unit)=> []) ?_ ?_))))
 ·refine ap ?_
  obtain⟨dz,jf,Dc⟩:=bd h
  refine jl (fun(aR:Int) (_:Unit)=>True) (fun aR _=> [(2,[],(vI 0)),(5,[],(.slice cQ tC.length bX)),(6,[],(vI (tC.length:Int))),(7,[],(vI aR))]) (fun aR _=> []) jf () trivial [] ?_
  rintro aR _ y_8 _ h
  rw [Fe.e7] at h
  refine cT [0] (ad (qi h (fun h=> ?_) (fun h=> ?_)))
  ·refine kT (ad (ap (ad (ao (bE h fun eW jV h=>oX 0 cQ 1 jV rfl (eX.sp jV) (oL 0 false (fun w hm=>((hm.xr eX).at jV)) (qh [0] (eT (cT [0,0] (qi h (fun h=> ?_) (fun h=> ?_)))))))))))
   ·refine cT [0,0] (aI (cg (aT (c_ (.inl eW) (sj h) (fun e_6=> ?_)))))
    subst e_6
    refine cg (aT (aT ?_))
    obtain rfl:=si Dc
    exact qP []
   ·exact bV (nT (cH [0,0] (qe (qb (au (aR+1)) () h trivial []))))
  ·exact lX (.inr ()) h (fun e=>by subst e;exact bo (qm () Dc []))
 ·rintro _ h
  unfold Fe.iQ at h
  refine aP (cT [0] (aI ?_))
  cases h
  exact qP []
def Fby(t0:List ai):Option (Int):=(if((t0.length:Int)==0)=true then some 0 else(ix t0 (au ((t0.length:Int)-1))).bind fun eW=>some (au ((au eW.cd)+1)))
theorem Fby.c(t0:List ai)(w:World)(r:Int){cQ:Option Addr}{ck:Nat}(bX:Nat)(eX:Rw w cQ 2 aF t0)(dH:t0.length=ck)(h:Fby t0=some r):
   Cq 110 #[(.slice cQ ck bX)] w (vI r) [] []:=by
 subst dH
 rw [Fby] at h
 refine en Tryz.func110 rfl Tryz.ntmps110 (cT [0] (ad (cT [0,0,0] (qi h (fun h=> ?_) (fun h=> ?_)))))
 ·refine cT [0] (rX ?_)
  cases h
  exact qP []
 ·refine kT (cR [0,0,0,0] (bE h fun eW oN h=>oX 0 cQ 2 oN rfl (eX.sp oN) (qh [0] (oL 0 false (fun w hm=>(((hm.xr eX).at oN).sub 0 1)) (qh [0,0,0] (eT (aI ?_)))))))
  cases h
  exact qP []
def F8(f0:ae)(t1:List ai)(ij:Int)(ie:List (av 96 Int)):Option (Int):=(GU f0 ie).bind fun aA=>(Wp [t1]).bind fun bz=>(Fe ([aA,bz]:List Int)).bind fun dj=>(if(dj !=0)=true then some dj else(Fby t1).bind fun dz=>(if(decide (dz≤(au f0.ag)))=true then(FB ij 0 20000).bind fun eo=>(FI eo 2).bind fun i_=>some i_ else(FI false 2).bind fun jU=>some jU))
theorem F8.c(f0:ae)(t1:List ai)(ij:Int)(ie:List (av 96 Int))(w:World)(r:Int){bj:Option Addr}{bm:Nat}(bi:Nat)(dr:Rw w bj 2 ay f0.aa)(cE:f0.aa.length=bm){bL:Option Addr}{bG:Nat}(bQ:Nat)(dL:Rw w bL 2 aF t1)(dU:t1.length=bG){F_a:Option Addr}{Pm:Nat}(F_c:Nat)(F_h:Rw w F_a 96 da ie)(aae:ie.length=Pm)(h:F8 f0 t1 ij ie=some r):
   Cq 53 #[(.agg #[(vH f0.ag),(.slice bj bm bi)]),(.slice bL bG bQ),(vI ij),(.slice F_a Pm F_c)] w (vI r) [] []:=by
 subst cE dU aae
 rw [F8] at h
 refine en Tryz.func53 rfl Tryz.ntmps53 (ad (ao (oA 0 (fun cD=>qh [0] (eT (ad (cR [0,0] (bE h fun aA mF h=>oQ 0 (fun w hm=>GU.c f0 ie w _ bi (hm.xr dr) rfl F_c (hm.xr F_h) rfl mF) (qh [0] (oA 0 (fun A4=>bE h fun bz mH h=>oQ 0 (fun w hm=>Wp.c [t1] w _ 1 (hm.ow 1 (some A4) 32 ([(Hd.mk bL t1.length bQ)]) [] (fun e=>nomatch e) fe) rfl (r8.cons (hm.xr dL) rfl (fun _=>cq) r8.nil) mH) (oA 0 (fun VJ=>bE h fun dj wL h=>oQ 0 (fun w hm=>Fe.c ([aA,bz]:List Int) w _ 2 (hm.ow 2 (some VJ) 2 ([aA,bz]:List Int) [] (fun e=>nomatch e) bf) rfl wL) (qh [0] (eT (cT [0,0] (qi h (fun h=> ?_) (fun h=> ?_))))))))))))))))))
 ·refine cT [0,0] (rX ?_)
  cases h
  exact qP []
 ·refine kT (ad (qg [⟨some cD,29,cF f0 bj bi⟩,⟨(some A4),32,row dZ [(Hd.mk bL t1.length bQ)] []⟩,⟨(some VJ),2,row aG ([aA,bz]:List Int) []⟩] 12 (qd [⟨0,0,0⟩,⟨2,0,0⟩,⟨3,0,0⟩,⟨4,0,0⟩] 8 [0,1,2] (bE h fun dz wG h=>dQ 1 0 (fun w hm=>Fby.c t1 w _ bQ (hm.xr dL) rfl wG) [0,1,2] (qd [⟨5,0,0⟩,⟨6,0,0⟩,⟨7,0,1⟩] 4 [0,1,2] (js 27 (decide (dz≤(au f0.ag))) (fun De=> ?_) (fun De=> ?_)))))))
  ·replace h:=yi De h
   refine bE h fun eo wH h=>dQ 8 2 (fun w hm=>FB.c ij 0 20000 w _ wH) [0,1,2] (qd [⟨9,0,4⟩] 2 [0,1,2] (bE h fun i_ nx h=>dQ 10 0 (fun w hm=>FI.c eo 2 w _ nx) [0,1,2] (qd [⟨11,0,0⟩] 0 [0,1,2] (qz (xR ?_)))))
   cases h
   exact qP []
  ·replace h:=yj De h
   refine qd [⟨8,0,3⟩,⟨9,0,5⟩] 2 [0,1,2] (bE h fun jU sd h=>dQ 10 0 (fun w hm=>FI.c false 2 w _ sd) [0,1,2] (qd [⟨11,0,0⟩] 0 [0,1,2] (qz (xR ?_))))
   cases h
   exact qP []
def FbK(f0:ae)(gO:Int):Option (Int):=(ix f0.aa gO).bind fun j5=>some (au j5.aD)
theorem FbK.c(f0:ae)(gO:Int)(w:World)(r:Int){bj:Option Addr}{bm:Nat}(bi:Nat)(dr:Rw w bj 2 ay f0.aa)(cE:f0.aa.length=bm)(h:FbK f0 gO=some r):
   Cq 166 #[(.agg #[(vH f0.ag),(.slice bj bm bi)]),(vI gO)] w (vI r) [] []:=by
 subst cE
 rw [FbK] at h
 refine en Tryz.func166 rfl Tryz.ntmps166 (ad (ao (oA 0 (fun cD=>qh [0] (eT (cR [0,0,0] (bE h fun j5 lC h=>oX 0 bj 2 lC rfl (dr.sp lC) (qh [0] (oL 0 false (fun w hm=>(((hm.xr dr).at lC).sub 0 1)) (qh [0,0] (eT (aI ?_))))))))))))
 cases h
 exact qP []
def E0(d0:av 96 Int)(step1:Int)(dP:Int):Option (Bool):=(ix d0.1 step1).bind fun j5=>(if 0≤dP then some ((qH .u32 (eC .u32 j5 dP) 1)==1) else none)
theorem E0.c(d0:av 96 Int)(step1:Int)(dP:Int)(w:World)(r:Bool){aH L6:Nat}(eX:Rw w (some ⟨aH,L6,none⟩) 1 aj d0.1)(h:E0 d0 step1 dP=some r):
   Cq 113 #[(.pointer (some ⟨aH,L6,none⟩)),(vI step1),(vI dP)] w (.bool r) [] []:=by
 rw [E0] at h
 refine en Tryz.func113 rfl Tryz.ntmps113 (cT [0] (cR [0,0,0] (bE h fun j5 oN h=>oX 0 (some ⟨aH,L6,none⟩) 1 oN d0.2 (eX.sp oN) (oL 0 false (fun w hm=>((hm.xr eX).at oN)) (qh [0] ?_)))))
 obtain⟨L7,h⟩:=gd h
 refine tO (pW 0 .u32 j5 .i64 dP L7 (oH [0,0,0] (eT (aI ?_))))
 cases h
 exact qP []
def FV.iQ(f0:ae):Option (Int):=some (au f0.ag)
def FV.e7(f0:ae)(d1:av 96 Int)(step2:Int)(c8:Int)(HX:Int):Int→Option ((Int)⊕(Int⊕Unit))
 | aR=>(if(decide (aR<(au f0.ag)))=true then(if(au f0.ag)≠0 then(E0 d1 (Int.tmod (au ((au (step2+(au (HX*aR))))+(au f0.ag))) (au f0.ag)) c8).bind fun bz=>(if bz=true then some (.inr (.inl aR)) else some (.inl (au (aR+1)))) else none) else some (.inr (.inr ())))
def FV(f0:ae)(d1:av 96 Int)(step2:Int)(c8:Int)(HX:Int):Option (Int):=(loop (FV.e7 f0 d1 step2 c8 HX) 1).bind fun dj=>match dj with | .inl p=>some p | .inr p=>FV.iQ f0
theorem FV.c(f0:ae)(d1:av 96 Int)(step2:Int)(c8:Int)(HX:Int)(w:World)(r:Int){bj:Option Addr}{bm:Nat}(bi:Nat)(dr:Rw w bj 2 ay f0.aa)(cE:f0.aa.length=bm){fZ qK:Nat}(dL:Rw w (some ⟨fZ,qK,none⟩) 1 aj d1.1)(h:FV f0 d1 step2 c8 HX=some r):
   Cq 196 #[(.agg #[(vH f0.ag),(.slice bj bm bi)]),(.pointer (some ⟨fZ,qK,none⟩)),(vI step2),(vI c8),(vI HX)] w (vI r) [] []:=by
 subst cE
 rw [FV] at h
 refine en Tryz.func196 rfl Tryz.ntmps196 (ad (ao (oA 0 (fun gC=>qh [0] (eT (cT [0,0,0,0] (ad (cT [0] (aK (fun(_:Unit)=>FV.iQ f0=some r) (fun(_:Unit)=> [(10,[],(vI 0)),(11,[],(vI (au f0.ag)))]) (fun(_:Unit)=> [⟨some gC,29,cF f0 bj bi⟩]) ?_ ?_)))))))))
 ·refine ap ?_
  obtain⟨dj,jf,Dc⟩:=bd h
  refine jl (fun(aR:Int) (_:Unit)=>True) (fun aR _=> [(1,[],(.pointer (some ⟨fZ,qK,none⟩))),(2,[],(vI step2)),(3,[],(vI c8)),(4,[],(vI HX)),(10,[],(vI 0)),(11,[],(vI (au f0.ag))),(12,[],(vI aR))]) (fun aR _=> [⟨some gC,29,cF f0 bj bi⟩]) jf () trivial [0] ?_
  rintro aR _ Jz _ h
  rw [FV.e7] at h
  refine ad (cT [0,0,0] (qi h (fun h=> ?_) (fun h=> ?_)))
  ·refine kT (ad (ap (cR [0,0,0,0,0,0,0,0,0] ?_)))
   obtain⟨ahn,h⟩:=gd h
   refine tO (pM 0 .i64 (au ((au (step2+(au (HX*aR))))+(au f0.ag))) (au f0.ag) ahn (oH [0] (bE h fun bz iR h=>oQ 0 (fun w hm=>E0.c d1 (Int.tmod (au ((au (step2+(au (HX*aR))))+(au f0.ag))) (au f0.ag)) c8 w _ (hm.xr dL) iR) (eT (qi h (fun h=> ?_) (fun h=> ?_))))))
   ·refine cT [0,0] (aI (cg (aT (c_ (.inl aR) (sj h) (fun Pn=> ?_)))))
    subst Pn
    refine cg (aT (aT ?_))
    obtain rfl:=si Dc
    exact qP []
   ·exact bV (nT (cH [0,0,0] (qe (qb (au (aR+1)) () h trivial [0]))))
  ·exact lX (.inr ()) h (fun e=>by subst e;exact bo (qm () Dc [0]))
 ·rintro _ h
  unfold FV.iQ at h
  refine aP (cT [0,0] (aI ?_))
  cases h
  exact qP []
def Wq(f0:ae)(d1:av 96 Int)(step2:Int)(c8:Int):Option (Bool):=(ix f0.aa c8).bind fun eW=>(E0 d1 step2 c8).bind fun aA=>(if(!aA)=true then(FV f0 d1 step2 c8 1).bind fun dj=>(if(decide (dj≥(au eW.fg)))=true then(FV f0 d1 step2 c8 (-1)).bind fun dz=>some (decide (dz≥(au eW.fg))) else some false) else some false)
theorem Wq.c(f0:ae)(d1:av 96 Int)(step2:Int)(c8:Int)(w:World)(r:Bool){bj:Option Addr}{bm:Nat}(bi:Nat)(dr:Rw w bj 2 ay f0.aa)(cE:f0.aa.length=bm){fZ qK:Nat}(dL:Rw w (some ⟨fZ,qK,none⟩) 1 aj d1.1)(h:Wq f0 d1 step2 c8=some r):
   Cq 167 #[(.agg #[(vH f0.ag),(.slice bj bm bi)]),(.pointer (some ⟨fZ,qK,none⟩)),(vI step2),(vI c8)] w (.bool r) [] []:=by
 subst cE
 rw [Wq] at h
 refine en Tryz.func167 rfl Tryz.ntmps167 (ad (ao (oA 0 (fun fa=>qh [0] (eT (cR [0,0,0] (bE h fun eW oN h=>oX 0 bj 2 oN rfl (dr.sp oN) (qh [0] (oL 0 false (fun w hm=>(((hm.xr dr).at oN).sub 1 1)) (qh [0,0] (eT (cR [0,0,0] (bE h fun aA kN h=>oQ 0 (fun w hm=>E0.c d1 step2 c8 w _ (hm.xr dL) kN) (qf [(0,0),(0,0),(0,1),(0,1),(0,1),(0,1)] (qp 22 h (fun h=> ?_) (fun h=> ?_))))))))))))))))
 ·refine bE h fun dj jD h=>oQ 2 (fun w hm=>FV.c f0 d1 step2 c8 1 w _ bi (hm.xr dr) rfl (hm.xr dL) jD) (qf [(0,2),(0,2),(0,4),(0,0),(0,1),(0,1),(0,1),(0,1)] (qp 31 h (fun h=> ?_) (fun h=> ?_)))
  ·refine bE h fun dz jf h=>oQ 2 (fun w hm=>FV.c f0 d1 step2 c8 (-1) w _ bi (hm.xr dr) rfl (hm.xr dL) jf) (qf [(0,2),(0,2),(0,4),(0,0)] (eT (aI ?_)))
   cases h
   exact qP []
  ·refine qf [(0,3),(0,3),(0,3),(0,5),(0,0)] (eT (aI ?_))
   cases h
   exact qP []
 ·refine qf [(0,3),(0,3),(0,3),(0,5),(0,0),(0,3),(0,3),(0,3),(0,3),(0,3),(0,3),(0,3),(0,5),(0,0)] (eT (aI ?_))
  cases h
  exact qP []
def Fy.nS(a7:List Int):Option ((List Int)):=some a7
def Fy.og(aZ:List Int)(bB:Int)(qy:Bool):Option (((List Int)×Int)⊕((List Int))):=(if qy=true then(if aZ.length+([bB]:List Int).length≤4294967296 then some (.inl ((aZ++([bB]:List Int)),(au (bB+1)))) else none) else some (.inl (aZ,(au (bB+1)))))
def Fy.Df(f0:ae)(d1:av 96 Int)(step2:Int)(wM:Int)(dz:Int):((List Int)×Int)→Option (((List Int)×Int)⊕((List Int)))
 | (aZ,bB)=>(if(decide (bB<dz))=true then(FbK f0 bB).bind fun iI=>(if(iI==wM)=true then(Wq f0 d1 step2 bB).bind fun lj=>Fy.og aZ bB lj else Fy.og aZ bB false) else some (.inr aZ))
def Fy(f0:ae)(d1:av 96 Int)(step2:Int)(wM:Int):Option ((List Int)):=(GR f0.aa).bind fun dz=>(loop (Fy.Df f0 d1 step2 wM dz) (([]:List Int),0)).bind fun uh=>Fy.nS uh
theorem Fy.c(f0:ae)(d1:av 96 Int)(step2:Int)(wM:Int)(w:World)(r:(List Int)){bj:Option Addr}{bm:Nat}(bi:Nat)(dr:Rw w bj 2 ay f0.aa)(cE:f0.aa.length=bm){fZ qK:Nat}(dL:Rw w (some ⟨fZ,qK,none⟩) 1 aj d1.1)(h:Fy f0 d1 step2 wM=some r):
   Cr 111 #[(.agg #[(vH f0.ag),(.slice bj bm bi)]),(.pointer (some ⟨fZ,qK,none⟩)),(vI step2),(vI wM)] w fun v w'=>∃(o0:Option Nat) (c0:Nat) (s0:List Value) (n0:Nat),r.length=n0∧(hS o0 n0 c0 s0 1)∧(hO o0 r c0)∧v= .slice (mB o0) n0 c0∧Mem w [] [⟨o0,2,row aG r s0⟩] w':=by
 subst cE
 rw [Fy] at h
 refine en Tryz.func111 rfl Tryz.ntmps111 (ad (ao (oA 0 (fun gC=>qh [0] (eT (ad (ao (oA 0 (fun fV=>qh [0] (eT (ad (cR [0,0] (bE h fun dz qJ h=>oQ 0 (fun w hm=>GR.c f0.aa w _ bi (hm.xr dr) rfl qJ) (qh [0] (eT (aK (fun(j:(List Int)×(Option Nat)×Nat×(List Value)×Nat)=>match j with | ⟨a7,gI,dv,nU,A5⟩=>Fy.nS a7=some r∧(a7.length=A5)∧(hS gI A5 dv nU 1)∧(hO gI a7 dv)) (fun⟨a7,gI,dv,nU,A5⟩=> [(8,[],(.slice none 0 0)),(9,[],(.slice (mB gI) A5 dv))]) (fun⟨a7,gI,dv,nU,A5⟩=> [⟨some gC,29,cF f0 bj bi⟩,⟨gI,2,row aG a7 nU⟩]) ?_ ?_))))))))))))))))
 ·refine ap ?_
  obtain⟨uh,Ju,RB⟩:=bd h
  refine jl (fun(s:(List Int)×Int) (x:(Option Nat)×Nat×(List Value)×Nat)=>match s,x with | ⟨aZ,bB⟩,⟨nh,fH,l9,Po⟩=>(aZ.length=Po)∧(hS nh Po fH l9 1)∧(hO nh aZ fH)) (fun⟨aZ,bB⟩ ⟨nh,fH,l9,Po⟩=> [(1,[],(.pointer (some ⟨fZ,qK,none⟩))),(2,[],(vI step2)),(3,[],(vI wM)),(4,[],(vP gC)),(8,[],(.slice none 0 0)),(9,[],(.slice (mB nh) Po fH)),(14,[],(vI dz)),(15,[],(vI bB))]) (fun⟨aZ,bB⟩ ⟨nh,fH,l9,Po⟩=> [⟨some gC,29,cF f0 bj bi⟩,⟨nh,2,row aG aZ l9⟩]) Ju ⟨(some fV),0,[],0⟩ ⟨rfl,(fun _=>⟨bt _,by simp⟩),(fun e=>nomatch e)⟩ [0,1] ?_
  rintro⟨aZ,bB⟩ ⟨nh,fH,l9,Po⟩ aah ⟨rfl,Aa,wN⟩ h
  rw [Fy.Df] at h
  refine cT [0] (ad (qi h (fun h=> ?_) (fun h=> ?_)))
  ·refine kT (ad (ap (cT [0,0] (ad (aK (fun(qy:Bool)=>Fy.og aZ bB qy=some aah) (fun qy=> [(1,[],(.pointer (some ⟨fZ,qK,none⟩))),(2,[],(vI step2)),(3,[],(vI wM)),(4,[],(vP gC)),(8,[],(.slice none 0 0)),(9,[],(.slice (mB nh) aZ.length fH)),(10,[],(vI bB)),(14,[],(vI dz)),(15,[],(vI bB)),(29,[],(.bool qy))]) (fun qy=> [⟨some gC,29,cF f0 bj bi⟩,⟨nh,2,row aG aZ l9⟩]) ?_ ?_)))))
   ·refine cH [0,0] (bE h fun iI l8 h=>oQ 0 (fun w hm=>FbK.c f0 bB w _ bi (hm.xr dr) rfl l8) (qf [(0,0),(0,0),(0,0),(0,1),(0,1),(0,1),(0,1)] (qp 23 h (fun h=> ?_) (fun h=> ?_))))
    ·exact bE h fun lj ui h=>oQ 2 (fun w hm=>Wq.c f0 d1 step2 bB w _ bi (hm.xr dr) rfl (hm.xr dL) ui) (qf [(0,4)] (qe (qm lj h [0,1])))
    ·exact qf [(0,3),(0,5)] (qe (qm false h [0,1]))
   ·rintro qy h
    unfold Fy.og at h
    refine aP (qi h (fun h=> ?_) (fun h=> ?_))
    ·refine cH [0,0] (oA 0 (fun sY=>?_))
     obtain⟨Dg,h⟩:=gd h
     exact tO (pA 0 1 nh 2 aZ.length 1 fH 1 8 (sB sY) aG aZ ([bB]:List Int) l9 (vI 0) rfl rfl bf fT Aa wN (fun w hm=>(hm.ow 2 (some sY) 2 ([bB]:List Int) [] (fun e=>nomatch e) bf)) Dg (fun Pp j9 nV Ab se=>oH [0] (qe (nT (cH [0,0] (qe (qb ((aZ++([bB]:List Int)),(au (bB+1))) ⟨Pp,j9,nV,(aZ++([bB]:List Int)).length⟩ h ⟨rfl,Ab,se⟩ [0,1])))))))
    ·exact bV (nT (cH [0,0] (qe (qb (aZ,(au (bB+1))) ⟨nh,fH,l9,aZ.length⟩ h ⟨rfl,Aa,wN⟩ [0,1]))))
  ·exact lX aZ h (fun e=>by subst e;exact bo (qm ⟨aZ,nh,fH,l9,aZ.length⟩ ⟨RB,rfl,Aa,wN⟩ [0,1]))
 ·rintro⟨a7,gI,dv,nU,A5⟩ ⟨h,rfl,Ac,wO⟩
  unfold Fy.nS at h
  refine aP (cT [0,0] (aI ?_))
  obtain rfl:=si h
  exact qr [] (fun w hm=>⟨gI,dv,nU,a7.length,rfl,Ac,wO,rfl,hm.pk [1]⟩)
def Pq(b0:Bool):Option (Int):=(if b0=true then some 1 else some 0)
theorem Pq.c(b0:Bool)(w:World)(r:Int)(h:Pq b0=some r):
   Cq 112 #[(.bool b0)] w (vI r) [] []:=by
 rw [Pq] at h
 refine en Tryz.func112 rfl Tryz.ntmps112 (cT [0] (ad (cT [0] (qi h (fun h=> ?_) (fun h=> ?_)))))
 ·refine cT [0] (rX ?_)
  cases h
  exact qP []
 ·refine kT (cT [0] (aI ?_))
  cases h
  exact qP []
def QU(d0:av 96 Int)(step1:Int)(dP:Int)(on3:Bool):Option ((av 96 Int)):=(ix d0.1 step1).bind fun j5=>(if 0≤dP then(ix d0.1 step1).bind fun q_=>(if on3=true then(ix ((av.set d0 step1 (kl .u32 j5 (fo .u32 1 dP))).1) step1).bind fun eW=>(if 0≤dP then(ix ((av.set d0 step1 (kl .u32 j5 (fo .u32 1 dP))).1) step1).bind fun pb=>some (av.set (av.set d0 step1 (kl .u32 j5 (fo .u32 1 dP))) step1 (wC .u32 eW (fo .u32 1 dP))) else none) else some (av.set d0 step1 (kl .u32 j5 (fo .u32 1 dP)))) else none)
theorem QU.c(d0:av 96 Int)(step1:Int)(dP:Int)(on3:Bool)(w:World)(r:(av 96 Int))(aH:Nat)(fG:Mem w (bs [some aH]) [⟨(some aH),36,row aj d0.1 []⟩] w)(h:QU d0 step1 dP on3=some r):
   Cr 114 #[(vP aH),(vI step1),(vI dP),(.bool on3)] w fun v w'=>v= .tuple #[]∧Mem w (bs [some aH]) [⟨(some aH),36,row aj r.1 []⟩] w':=by
 rw [QU] at h
 refine eN Tryz.func114 rfl Tryz.ntmps114 fG (ad (qg [] 11 (qd [⟨0,0,0⟩,⟨1,0,0⟩,⟨2,0,0⟩,⟨5,0,0⟩,⟨8,0,0⟩] 6 [] (bE h fun j5 jV h=>qX 3 0 [] (sB aH) 1 jV d0.2 rfl (t2 4 6 ?_ ?_)))))
 ·refine ql 0 false (fun w hm=>((hm.ow 0 (some aH) 36 d0.1 [] (fun e=>nomatch e) an).at jV)) (kD [] ?_)
  obtain⟨JA,h⟩:=gd h
  refine tD 6 (pV 0 .u32 1 .i64 dP JA (kD [] (qd [⟨7,0,0⟩] 2 [] (bE h fun q_ oP h=>qX 9 0 [] (sB aH) 1 oP d0.2 rfl (tD 10 (pT 0 0 aH 36 aj d0.1 [] step1 (kl .u32 j5 (fo .u32 1 dP)) 1 0 [(vU (kl .u32 j5 (fo .u32 1 dP)))] an oP (kD [] (zT (cT [0] (qi h (fun h=> ?_) (fun h=> ?_)))))))))))
  ·refine qg [] 11 (qd [⟨0,0,0⟩,⟨1,0,0⟩,⟨2,0,0⟩,⟨5,0,0⟩,⟨8,0,0⟩] 6 [] (bE h fun eW pP h=>qX 3 0 [] (sB aH) 1 pP (av.set d0 step1 (kl .u32 j5 (fo .u32 1 dP))).2 rfl (t2 4 6 ?_ ?_)))
   ·refine ql 0 false (fun w hm=>((hm.ow 0 (some aH) 36 ((av.set d0 step1 (kl .u32 j5 (fo .u32 1 dP))).1) [] (fun e=>nomatch e) an).at pP)) (kD [] ?_)
    obtain⟨acI,h⟩:=gd h
    refine tD 6 (pV 0 .u32 1 .i64 dP acI (kD [] (qd [⟨7,0,0⟩] 2 [] (bE h fun pb kW h=>qX 9 0 [] (sB aH) 1 kW (av.set d0 step1 (kl .u32 j5 (fo .u32 1 dP))).2 rfl (tD 10 (pT 0 0 aH 36 aj ((av.set d0 step1 (kl .u32 j5 (fo .u32 1 dP))).1) [] step1 (wC .u32 eW (fo .u32 1 dP)) 1 0 [(vU (wC .u32 eW (fo .u32 1 dP)))] an kW (kD [] (qz (gn ?_)))))))))
    cases h
    exact qP [0]
   ·obtain⟨Dh,h⟩:=gd h
    refine pV 0 .u32 1 .i64 dP Dh (kD [] (tD 4 (ql 0 false (fun w hm=>((hm.ow 0 (some aH) 36 ((av.set d0 step1 (kl .u32 j5 (fo .u32 1 dP))).1) [] (fun e=>nomatch e) an).at pP)) (kD [] (qd [⟨7,0,0⟩] 2 [] (bE h fun pb kV h=>qX 9 0 [] (sB aH) 1 kV (av.set d0 step1 (kl .u32 j5 (fo .u32 1 dP))).2 rfl (tD 10 (pT 0 0 aH 36 aj ((av.set d0 step1 (kl .u32 j5 (fo .u32 1 dP))).1) [] step1 (wC .u32 eW (fo .u32 1 dP)) 1 0 [(vU (wC .u32 eW (fo .u32 1 dP)))] an kV (kD [] (qz (gn ?_)))))))))))
    cases h
    exact qP [0]
  ·refine bV (gn ?_)
   cases h
   exact qP [0]
 ·obtain⟨RH,h⟩:=gd h
  refine pV 0 .u32 1 .i64 dP RH (kD [] (tD 4 (ql 0 false (fun w hm=>((hm.ow 0 (some aH) 36 d0.1 [] (fun e=>nomatch e) an).at jV)) (kD [] (qd [⟨7,0,0⟩] 2 [] (bE h fun q_ wJ h=>qX 9 0 [] (sB aH) 1 wJ d0.2 rfl (tD 10 (pT 0 0 aH 36 aj d0.1 [] step1 (kl .u32 j5 (fo .u32 1 dP)) 1 0 [(vU (kl .u32 j5 (fo .u32 1 dP)))] an wJ (kD [] (zT (cT [0] (qi h (fun h=> ?_) (fun h=> ?_)))))))))))))
  ·refine qg [] 11 (qd [⟨0,0,0⟩,⟨1,0,0⟩,⟨2,0,0⟩,⟨5,0,0⟩,⟨8,0,0⟩] 6 [] (bE h fun eW vJ h=>qX 3 0 [] (sB aH) 1 vJ (av.set d0 step1 (kl .u32 j5 (fo .u32 1 dP))).2 rfl (t2 4 6 ?_ ?_)))
   ·refine ql 0 false (fun w hm=>((hm.ow 0 (some aH) 36 ((av.set d0 step1 (kl .u32 j5 (fo .u32 1 dP))).1) [] (fun e=>nomatch e) an).at vJ)) (kD [] ?_)
    obtain⟨acJ,h⟩:=gd h
    refine tD 6 (pV 0 .u32 1 .i64 dP acJ (kD [] (qd [⟨7,0,0⟩] 2 [] (bE h fun pb oR h=>qX 9 0 [] (sB aH) 1 oR (av.set d0 step1 (kl .u32 j5 (fo .u32 1 dP))).2 rfl (tD 10 (pT 0 0 aH 36 aj ((av.set d0 step1 (kl .u32 j5 (fo .u32 1 dP))).1) [] step1 (wC .u32 eW (fo .u32 1 dP)) 1 0 [(vU (wC .u32 eW (fo .u32 1 dP)))] an oR (kD [] (qz (gn ?_)))))))))
    cases h
    exact qP [0]
   ·obtain⟨Di,h⟩:=gd h
    refine pV 0 .u32 1 .i64 dP Di (kD [] (tD 4 (ql 0 false (fun w hm=>((hm.ow 0 (some aH) 36 ((av.set d0 step1 (kl .u32 j5 (fo .u32 1 dP))).1) [] (fun e=>nomatch e) an).at vJ)) (kD [] (qd [⟨7,0,0⟩] 2 [] (bE h fun pb mI h=>qX 9 0 [] (sB aH) 1 mI (av.set d0 step1 (kl .u32 j5 (fo .u32 1 dP))).2 rfl (tD 10 (pT 0 0 aH 36 aj ((av.set d0 step1 (kl .u32 j5 (fo .u32 1 dP))).1) [] step1 (wC .u32 eW (fo .u32 1 dP)) 1 0 [(vU (wC .u32 eW (fo .u32 1 dP)))] an mI (kD [] (qz (gn ?_)))))))))))
    cases h
    exact qP [0]
  ·refine bV (gn ?_)
   cases h
   exact qP [0]
def Fr.vK(p0:dx)(j_:Int)(rH:av 96 Int)(fL:Int)(mi:Int)(mz:Bool)(vL:Bool)(gw:Int)(L8:av 96 Int)(mU:Bool):Option (dx):=some (⟨(⟨j_,p0.ff.aa⟩:ae),p0.ft,rH,fL,mi,mz,vL,gw,L8,mU⟩:dx)
def Fr.mV(dn:dx→(av 96 Int)→Int→Int→Option (dx))(p0:dx)(k2:Int)(eW:ai)(fR:Int)(kf:av 96 Int)(cK:Int)(cS:Int)(ja:Bool)(sW:Bool)(dW:Int)(ti:av 96 Int)(qy:Bool)(jb:Int)(rI:Int)(JB:av 96 Int)(oh:Int):Option ((Int×(av 96 Int)×Int×Int×Bool×Bool×Int×(av 96 Int)×Bool×Int)⊕(dx⊕(Int×(av 96 Int)×Int×Int×Bool×Bool×Int×(av 96 Int)×Bool))):=(QU JB (au eW.cd) rI true).bind fun A6=>(if((qy&&sW)&&(decide (oh≥dW)))=true then some (.inl (fR,kf,cK,(au (cS+1)),ja,sW,dW,ti,qy,(au (jb+1)))) else(dn (⟨(⟨fR,p0.ff.aa⟩:ae),p0.ft,kf,cK,(au (cS+1)),ja,sW,dW,ti,qy⟩:dx) A6 (au (k2+1)) oh).bind fun aA=>(if aA.ez=true then some (.inr (.inl (⟨(⟨aA.ff.ag,p0.ff.aa⟩:ae),p0.ft,aA.fold,aA.bA,aA.eD,aA.ez,aA.c7,aA.j6,aA.bp,aA.gN⟩:dx))) else(if(aA.c7&&(!aA.gN))=true then some (.inr (.inl (⟨(⟨aA.ff.ag,p0.ff.aa⟩:ae),p0.ft,aA.fold,aA.bA,aA.eD,aA.ez,aA.c7,aA.j6,aA.bp,aA.gN⟩:dx))) else some (.inl (aA.ff.ag,aA.fold,aA.bA,aA.eD,aA.ez,aA.c7,aA.j6,aA.bp,aA.gN,(au (jb+1)))))))
def Fr.s6(dn:dx→(av 96 Int)→Int→Int→Option (dx))(p0:dx)(d1:av 96 Int)(k2:Int)(jE:Int)(eW:ai)(jo:(List Int)):(Int×(av 96 Int)×Int×Int×Bool×Bool×Int×(av 96 Int)×Bool×Int)→Option ((Int×(av 96 Int)×Int×Int×Bool×Bool×Int×(av 96 Int)×Bool×Int)⊕(dx⊕(Int×(av 96 Int)×Int×Int×Bool×Bool×Int×(av 96 Int)×Bool)))
 | (fR,kf,cK,cS,ja,sW,dW,ti,qy,jb)=>(if(decide (jb<(jo.length:Int)))=true then(ix jo jb).bind fun rI=>(if(cS==cK)=true then some (.inr (.inl (⟨(⟨fR,p0.ff.aa⟩:ae),p0.ft,kf,cK,cS,true,sW,dW,ti,qy⟩:dx))) else(E0 kf (au eW.cd) rI).bind fun tE=>(Pq (!tE)).bind fun sf=>Fr.mV dn p0 k2 eW fR kf cK cS ja sW dW ti qy jb rI d1 (au (jE+sf))) else some (.inr (.inr (fR,kf,cK,cS,ja,sW,dW,ti,qy))))
def Fr.step(dn:dx→(av 96 Int)→Int→Int→Option (dx))(p0:dx)(d1:av 96 Int)(k2:Int)(jE:Int):Option (dx):=(if(k2==(p0.ft.length:Int))=true then some (⟨(⟨p0.ff.ag,p0.ff.aa⟩:ae),p0.ft,p0.fold,p0.bA,p0.eD,p0.ez,true,jE,d1,p0.gN⟩:dx) else(ix p0.ft k2).bind fun eW=>(Fy (⟨p0.ff.ag,p0.ff.aa⟩:ae) d1 (au eW.cd) (au eW.aD)).bind fun jo=>(loop (Fr.s6 dn p0 d1 k2 jE eW jo) (p0.ff.ag,p0.fold,p0.bA,p0.eD,p0.ez,p0.c7,p0.j6,p0.bp,p0.gN,0)).bind fun qM=>match qM with | .inl p=>some p | .inr p=>Fr.vK p0 p.1 p.2.1 p.2.2.1 p.2.2.2.1 p.2.2.2.2.1 p.2.2.2.2.2.1 p.2.2.2.2.2.2.1 p.2.2.2.2.2.2.2.1 p.2.2.2.2.2.2.2.2)
def Fr.fW:Nat→dx→(av 96 Int)→Int→Int→Option (dx)
 | 0=>fun p0 d1 k2 jE=>none
 | fu+1=>Fr.step (Fr.fW fu)
def Fr(p0:dx)(d1:av 96 Int)(k2:Int)(jE:Int):Option (dx):=Fr.fW 200 p0 d1 k2 jE
set_option maxHeartbeats 8000000 in
theorem Fr.iS(dn:dx→(av 96 Int)→Int→Int→Option (dx))(qN:∀(p0:dx) (d1:av 96 Int) (k2:Int) (jE:Int) (w:World) (r:dx) {bL:Option Addr} {bG:Nat} (bQ:Nat) (dL:Rw w bL 2 ay p0.ff.aa) (dU:p0.ff.aa.length=bG) {dI:Option Addr} {db:Nat} (eA:Nat) (g_:Rw w dI 2 aF p0.ft) (ga:p0.ft.length=db) (aH:Nat) (fG:Mem w (bs [some aH]) [⟨some aH,105,((vH p0.ff.ag)::(.slice bL bG bQ)::(.slice dI db eA)::(iC (Value.int .u32) 96 p0.fold.1 ((vI p0.bA)::(vI p0.eD)::(.bool p0.ez)::(.bool p0.c7)::(vI p0.j6)::(iC (Value.int .u32) 96 p0.bp.1 [(.bool p0.gN)]))))⟩] w) (eL:p0.ff.aa≠ []→aB bL∉bs [some aH]) (gT:p0.ft≠ []→aB dI∉bs [some aH]) (h:dn p0 d1 k2 jE=some r),
   Calls Tryz.prog 54 #[(vP aH),(.agg (row aj d1.1 []).toArray),(vI k2),(vI jE)] w fun e w'=>∃v,e= .returned v∧(v= .tuple #[]∧Mem w (bs [some aH]) [⟨some aH,105,((vH r.ff.ag)::(.slice bL bG bQ)::(.slice dI db eA)::(iC (Value.int .u32) 96 r.fold.1 ((vI r.bA)::(vI r.eD)::(.bool r.ez)::(.bool r.c7)::(vI r.j6)::(iC (Value.int .u32) 96 r.bp.1 [(.bool r.gN)]))))⟩] w')) (p0:dx) (d1:av 96 Int) (k2:Int) (jE:Int) (w:World) (r:dx) {bL:Option Addr} {bG:Nat} (bQ:Nat) (dL:Rw w bL 2 ay p0.ff.aa) (dU:p0.ff.aa.length=bG) {dI:Option Addr} {db:Nat} (eA:Nat) (g_:Rw w dI 2 aF p0.ft) (ga:p0.ft.length=db) (aH:Nat) (fG:Mem w (bs [some aH]) [⟨some aH,105,((vH p0.ff.ag)::(.slice bL bG bQ)::(.slice dI db eA)::(iC (Value.int .u32) 96 p0.fold.1 ((vI p0.bA)::(vI p0.eD)::(.bool p0.ez)::(.bool p0.c7)::(vI p0.j6)::(iC (Value.int .u32) 96 p0.bp.1 [(.bool p0.gN)]))))⟩] w) (eL:p0.ff.aa≠ []→aB bL∉bs [some aH]) (gT:p0.ft≠ []→aB dI∉bs [some aH]) (h:Fr.step dn p0 d1 k2 jE=some r):
   Cr 54 #[(vP aH),(.agg (row aj d1.1 []).toArray),(vI k2),(vI jE)] w fun v w'=>v= .tuple #[]∧Mem w (bs [some aH]) [⟨some aH,105,((vH r.ff.ag)::(.slice bL bG bQ)::(.slice dI db eA)::(iC (Value.int .u32) 96 r.fold.1 ((vI r.bA)::(vI r.eD)::(.bool r.ez)::(.bool r.c7)::(vI r.j6)::(iC (Value.int .u32) 96 r.bp.1 [(.bool r.gN)]))))⟩] w':=by
 subst dU ga
 rw [Fr.step] at h
 refine eN Tryz.func54 rfl Tryz.ntmps54 fG (ad (ao (oA 0 (fun fa=>eT (ad (cT [0,0,0,0,0,0,0] (qi h (fun h=> ?_) (fun h=> ?_))))))))
 ·refine cR [0,0,0] (tO (pL 0 1 fa 96 1 36 aj d1 an (oH [0,0,0] (tO (Yw 0 0 aH 104 (Value.int .u32) (bh:=aj) (fun _=>rfl) bk p0.bp d1 (oH [0,0] (oS 0 [0] (qh [0,0] (oS 0 [0] (eT (rX ?_)))))))))))
  cases h
  exact qP [0]
 ·refine kT (cR [0,0,0,0,0] (bE h fun eW nb h=>oX 0 dI 2 nb rfl (g_.sp nb) (oL 0 true (fun w hm=>((hm.aM g_ gT).at nb)) (oA 0 (fun pR=>oS 0 [2] (eT (ad (qg [⟨some aH,105,((vH p0.ff.ag)::(.slice bL p0.ff.aa.length bQ)::(.slice dI p0.ft.length eA)::(iC (Value.int .u32) 96 p0.fold.1 ((vI p0.bA)::(vI p0.eD)::(.bool p0.ez)::(.bool p0.c7)::(vI p0.j6)::(iC (Value.int .u32) 96 p0.bp.1 [(.bool p0.gN)]))))⟩,⟨(some fa),36,row aj d1.1 []⟩,⟨some pR,70,cN eW⟩] 13 (qd [⟨0,0,0⟩,⟨1,0,0⟩,⟨2,0,0⟩,⟨3,0,0⟩,⟨4,0,0⟩,⟨5,2,0⟩,⟨6,0,0⟩,⟨7,0,0⟩,⟨8,2,0⟩,⟨9,0,0⟩,⟨12,0,0⟩] 2 [0,1,2] (bE h fun jo qJ h=>tD 10 (pc 0 (fun w hm=>Fy.c (⟨p0.ff.ag,p0.ff.aa⟩:ae) d1 (au eW.cd) (au eW.aD) w _ bQ (hm.aM dL eL) rfl (hm.ow 1 (some fa) 36 d1.1 [] (fun e=>nomatch e) an) qJ) ?_)))))))))))
  rintro w v w' hm ⟨fj,fw,dN,_,rfl,JE,tg,rfl,bn⟩
  refine aq hm bn (kD [0,1,2] (qd [⟨11,0,0⟩] 0 [0,1,2] (zT (aK (fun(j:Int×(av 96 Int)×Int×Int×Bool×Bool×Int×(av 96 Int)×Bool)=>match j with | ⟨j_,rH,fL,mi,mz,vL,gw,L8,mU⟩=>Fr.vK p0 j_ rH fL mi mz vL gw L8 mU=some r) (fun⟨j_,rH,fL,mi,mz,vL,gw,L8,mU⟩=> []) (fun⟨j_,rH,fL,mi,mz,vL,gw,L8,mU⟩=> [⟨some aH,105,((vH j_)::(.slice bL p0.ff.aa.length bQ)::(.slice dI p0.ft.length eA)::(iC (Value.int .u32) 96 rH.1 ((vI fL)::(vI mi)::(.bool mz)::(.bool vL)::(vI gw)::(iC (Value.int .u32) 96 L8.1 [(.bool mU)]))))⟩,⟨(some fa),36,row aj d1.1 []⟩,⟨some pR,70,cN eW⟩,⟨fj,2,row aG jo dN⟩]) ?_ ?_))))
  ·refine ap ?_
   obtain⟨qM,C7,Dj⟩:=bd h
   refine jl (fun(s:Int×(av 96 Int)×Int×Int×Bool×Bool×Int×(av 96 Int)×Bool×Int) (x:Unit)=>match s,x with | ⟨fR,kf,cK,cS,ja,sW,dW,ti,qy,jb⟩,_=>True) (fun⟨fR,kf,cK,cS,ja,sW,dW,ti,qy,jb⟩ _=> [(0,[],(vP aH)),(2,[],(vI k2)),(3,[],(vI jE)),(5,[],(vP fa)),(8,[],(vP pR)),(48,[],(.slice (mB fj) jo.length fw)),(49,[],(vI (jo.length:Int))),(50,[],(vI jb))]) (fun⟨fR,kf,cK,cS,ja,sW,dW,ti,qy,jb⟩ _=> [⟨some aH,105,((vH fR)::(.slice bL p0.ff.aa.length bQ)::(.slice dI p0.ft.length eA)::(iC (Value.int .u32) 96 kf.1 ((vI cK)::(vI cS)::(.bool ja)::(.bool sW)::(vI dW)::(iC (Value.int .u32) 96 ti.1 [(.bool qy)]))))⟩,⟨(some fa),36,row aj d1.1 []⟩,⟨some pR,70,cN eW⟩,⟨fj,2,row aG jo dN⟩]) C7 () trivial [0,1,2,3] ?_
   rintro⟨fR,kf,cK,cS,ja,sW,dW,ti,qy,jb⟩ _ aai _ h
   rw [Fr.s6] at h
   refine cT [0] (ad (qi h (fun h=> ?_) (fun h=> ?_)))
   ·refine kT (ad (ap (ad (ao (bE h fun rI wP h=>oX 0 (mB fj) 1 wP rfl (nl tg wP) (oL 0 false (aX 3 fj 2 jo dN tg bf wP) (qh [0] (eT (s2 (qg [⟨some aH,105,((vH fR)::(.slice bL p0.ff.aa.length bQ)::(.slice dI p0.ft.length eA)::(iC (Value.int .u32) 96 kf.1 ((vI cK)::(vI cS)::(.bool ja)::(.bool sW)::(vI dW)::(iC (Value.int .u32) 96 ti.1 [(.bool qy)]))))⟩,⟨(some fa),36,row aj d1.1 []⟩,⟨some pR,70,cN eW⟩,⟨fj,2,row aG jo dN⟩] 9 (qd [⟨0,0,0⟩,⟨1,0,0⟩,⟨2,0,0⟩,⟨3,0,0⟩,⟨4,0,0⟩,⟨5,0,0⟩,⟨6,0,0⟩,⟨7,0,0⟩,⟨8,0,0⟩] 0 [0,1,2,3] (zT (qi h (fun h=> ?_) (fun h=> ?_))))))))))))))
    ·refine cR [0,0,0] (oS 0 [0] (eT (rX (cg (aT (c_ (.inl (⟨(⟨fR,p0.ff.aa⟩:ae),p0.ft,kf,cK,cS,true,sW,dW,ti,qy⟩:dx)) (sj h) (fun aho=> ?_)))))))
     subst aho
     refine cg (aT ?_)
     obtain rfl:=si Dj
     exact qP [0]
    ·refine kT (cR [0,0,0,0,0,0,0] (oS 0 [0] (eT (ad (aK (fun(j:(av 96 Int)×Int×Nat)=>match j with | ⟨JB,oh,vM⟩=>Fr.mV dn p0 k2 eW fR kf cK cS ja sW dW ti qy jb rI JB oh=some aai) (fun⟨JB,oh,vM⟩=> [(0,[],(vP aH)),(2,[],(vI k2)),(3,[],(vI jE)),(5,[],(vP fa)),(8,[],(vP pR)),(10,[],(vI rI)),(11,[],(vP vM)),(12,[],(vI oh)),(48,[],(.slice (mB fj) jo.length fw)),(49,[],(vI (jo.length:Int))),(50,[],(vI jb))]) (fun⟨JB,oh,vM⟩=> [⟨some aH,105,((vH fR)::(.slice bL p0.ff.aa.length bQ)::(.slice dI p0.ft.length eA)::(iC (Value.int .u32) 96 kf.1 ((vI cK)::(vI (au (cS+1)))::(.bool ja)::(.bool sW)::(vI dW)::(iC (Value.int .u32) 96 ti.1 [(.bool qy)]))))⟩,⟨(some fa),36,row aj d1.1 []⟩,⟨some pR,70,cN eW⟩,⟨fj,2,row aG jo dN⟩,⟨(some vM),36,row aj JB.1 []⟩]) ?_ ?_)))))
     ·refine qg [⟨some aH,105,((vH fR)::(.slice bL p0.ff.aa.length bQ)::(.slice dI p0.ft.length eA)::(iC (Value.int .u32) 96 kf.1 ((vI cK)::(vI (au (cS+1)))::(.bool ja)::(.bool sW)::(vI dW)::(iC (Value.int .u32) 96 ti.1 [(.bool qy)]))))⟩,⟨(some fa),36,row aj d1.1 []⟩,⟨some pR,70,cN eW⟩,⟨fj,2,row aG jo dN⟩] 16 (qd [⟨1,0,0⟩,⟨2,0,0⟩,⟨3,0,0⟩,⟨4,0,0⟩,⟨5,0,0⟩,⟨6,2,0⟩,⟨7,0,0⟩,⟨8,0,0⟩] 8 [0,1,2,3] (qv 0 0 [0,1,2,3] (fun w hm=>jM (b:=fa) (off:=0) (s:=96) (agg:=true) (vs:=row aj d1.1 []) (by kernel_rfl) ((gG an d1).trans rfl) (.inl rfl) (hm.all (hh:=1) (T:=36) (by kernel_rfl))) (t2 9 13 ?_ ?_)))
      ·refine bE h fun tE qO h=>pc 0 (fun w hm=>E0.c kf (au eW.cd) rI w _ (hm.A0 0 aH 3 (Value.int .u32) (bh:=aj) (fun _=>rfl) kf) qO) ?_
       rintro w v w' hm ⟨rfl,bn⟩
       refine aq hm bn (kD [0,1,2,3] (qd [⟨10,0,0⟩] 5 [0,1,2,3] (t2 11 13 ?_ ?_)))
       ·refine bE h fun sf JF h=>pc 0 (fun w hm=>Pq.c (!tE) w _ JF) ?_
        rintro w v w' hm ⟨rfl,bn⟩
        exact aq hm bn (kD [0,1,2,3] (qd [⟨12,0,0⟩] 3 [0,1,2,3] (tD 13 (qa 0 (fun acK=>kD [0,1,2,3] (tD 14 (pS 0 4 acK 96 1 36 aj (av.dC 96 0) d1 an bk (kD [0,1,2,3] (qd [⟨15,0,0⟩] 0 [0,1,2,3] (qz (qm ⟨d1,(au (jE+sf)),acK⟩ h [0,1,2,3,4])))))))))))
       ·exact qa 0 (fun Pr=>kD [0,1,2,3] (bE h fun sf oT h=>dQ 11 0 (fun w hm=>Pq.c (!tE) w _ oT) [0,1,2,3] (qd [⟨12,0,0⟩] 2 [0,1,2,3] (tD 14 (pS 0 4 Pr 96 1 36 aj (av.dC 96 0) d1 an bk (kD [0,1,2,3] (qd [⟨15,0,0⟩] 0 [0,1,2,3] (qz (qm ⟨d1,(au (jE+sf)),Pr⟩ h [0,1,2,3,4])))))))))
      ·exact qa 0 (fun Wr=>kD [0,1,2,3] (bE h fun tE sg h=>dQ 9 0 (fun w hm=>E0.c kf (au eW.cd) rI w _ (hm.A0 0 aH 3 (Value.int .u32) (bh:=aj) (fun _=>rfl) kf) sg) [0,1,2,3] (qd [⟨10,0,0⟩] 4 [0,1,2,3] (bE h fun sf JG h=>dQ 11 0 (fun w hm=>Pq.c (!tE) w _ JG) [0,1,2,3] (qd [⟨12,0,0⟩] 2 [0,1,2,3] (tD 14 (pS 0 4 Wr 96 1 36 aj (av.dC 96 0) d1 an bk (kD [0,1,2,3] (qd [⟨15,0,0⟩] 0 [0,1,2,3] (qz (qm ⟨d1,(au (jE+sf)),Wr⟩ h [0,1,2,3,4])))))))))))
     ·rintro⟨JB,oh,vM⟩ h
      unfold Fr.mV at h
      refine aP (cR [0,2,0,0] (bE h fun A6 z6 h=>oC 0 (fun w hm=>QU.c JB (au eW.cd) rI true w _ vM (hm.ps [4]) z6) ?_))
      rintro w v w' hm ⟨rfl,bn⟩
      refine ⟨_,hm.aW [(4,⟨(some vM),36,row aj A6.1 []⟩)] [] bn,fB (eT (s2 (ao (qf [(0,0),(0,0),(0,0),(0,0),(0,0),(0,1),(0,1),(0,1),(0,1),(0,0),(0,0),(0,1),(0,1),(0,1),(0,1),(0,1),(0,1),(0,0)] (eT (qi h (fun h=> ?_) (fun h=> ?_)))))))⟩
      ·exact lP (ib (bo (aP (cH [0,0] (qe (qb (fR,kf,cK,(au (cS+1)),ja,sW,dW,ti,qy,(au (jb+1))) () h trivial [0,1,2,3]))))))
      ·refine kT (cR [0] (tO (pL 0 4 vM 96 1 36 aj A6 an (oH [0,0,0] (bE h fun aA JH h=>oC 0 (fun w hm=>qN (⟨(⟨fR,p0.ff.aa⟩:ae),p0.ft,kf,cK,(au (cS+1)),ja,sW,dW,ti,qy⟩:dx) A6 (au (k2+1)) oh w _ bQ (hm.aM dL eL) rfl eA (hm.aM g_ gT) rfl aH (hm.ps (N:= [⟨some aH,105,((vH fR)::(.slice bL p0.ff.aa.length bQ)::(.slice dI p0.ft.length eA)::(iC (Value.int .u32) 96 kf.1 ((vI cK)::(vI (au (cS+1)))::(.bool ja)::(.bool sW)::(vI dW)::(iC (Value.int .u32) 96 ti.1 [(.bool qy)]))))⟩]) [0]) (hm.xp dL eL [0]) (hm.xp g_ gT [0]) JH) ?_)))))
       rintro w v w' hm ⟨rfl,bn⟩
       refine ⟨_,hm.aW [(0,⟨some aH,105,((vH aA.ff.ag)::(.slice bL p0.ff.aa.length bQ)::(.slice dI p0.ft.length eA)::(iC (Value.int .u32) 96 aA.fold.1 ((vI aA.bA)::(vI aA.eD)::(.bool aA.ez)::(.bool aA.c7)::(vI aA.j6)::(iC (Value.int .u32) 96 aA.bp.1 [(.bool aA.gN)]))))⟩)] [] bn,fB (eT (ad (ao (qf [(0,0),(0,0),(0,0),(0,0),(0,0),(0,1),(0,1),(0,1),(0,1)] (qp 119 h (fun h=> ?_) (fun h=> ?_))))))⟩
       ·refine qf [(0,3),(0,3),(0,3),(0,3),(0,3),(0,3),(0,3),(0,4)] (eT (jq true (fun GV=>(aI (cg (aT (c_ (.inl (⟨(⟨aA.ff.ag,p0.ff.aa⟩:ae),p0.ft,aA.fold,aA.bA,aA.eD,aA.ez,aA.c7,aA.j6,aA.bp,aA.gN⟩:dx)) (sj h) (fun ahp=> ?_)))))) (fun GV=>nomatch GV)))
        subst ahp
        refine cg (aT ?_)
        obtain rfl:=si Dj
        exact qP [0]
       ·refine qf [(0,2),(0,1),(0,1),(0,1),(0,1),(0,1),(0,2),(0,5)] (eT (qi h (fun h=> ?_) (fun h=> ?_)))
        ·refine aI (cg (aT (c_ (.inl (⟨(⟨aA.ff.ag,p0.ff.aa⟩:ae),p0.ft,aA.fold,aA.bA,aA.eD,aA.ez,aA.c7,aA.j6,aA.bp,aA.gN⟩:dx)) (sj h) (fun ahq=> ?_))))
         subst ahq
         refine cg (aT ?_)
         obtain rfl:=si Dj
         exact qP [0]
        ·exact bV (nT (cH [0,0] (qe (qb (aA.ff.ag,aA.fold,aA.bA,aA.eD,aA.ez,aA.c7,aA.j6,aA.bp,aA.gN,(au (jb+1))) () h trivial [0,1,2,3]))))
   ·exact lX (.inr (fR,kf,cK,cS,ja,sW,dW,ti,qy)) h (fun e=>by subst e;exact bo (qm ⟨fR,kf,cK,cS,ja,sW,dW,ti,qy⟩ Dj [0,1,2,3]))
  ·rintro⟨j_,rH,fL,mi,mz,vL,gw,L8,mU⟩ h
   unfold Fr.vK at h
   refine gn ?_
   cases h
   exact qP [0]
theorem Fr.jW(fu:Nat):∀(p0:dx) (d1:av 96 Int) (k2:Int) (jE:Int) (w:World) (r:dx) {bL:Option Addr} {bG:Nat} (bQ:Nat) (dL:Rw w bL 2 ay p0.ff.aa) (dU:p0.ff.aa.length=bG) {dI:Option Addr} {db:Nat} (eA:Nat) (g_:Rw w dI 2 aF p0.ft) (ga:p0.ft.length=db) (aH:Nat) (fG:Mem w (bs [some aH]) [⟨some aH,105,((vH p0.ff.ag)::(.slice bL bG bQ)::(.slice dI db eA)::(iC (Value.int .u32) 96 p0.fold.1 ((vI p0.bA)::(vI p0.eD)::(.bool p0.ez)::(.bool p0.c7)::(vI p0.j6)::(iC (Value.int .u32) 96 p0.bp.1 [(.bool p0.gN)]))))⟩] w) (eL:p0.ff.aa≠ []→aB bL∉bs [some aH]) (gT:p0.ft≠ []→aB dI∉bs [some aH]) (h:Fr.fW fu p0 d1 k2 jE=some r),
   Cr 54 #[(vP aH),(.agg (row aj d1.1 []).toArray),(vI k2),(vI jE)] w fun v w'=>v= .tuple #[]∧Mem w (bs [some aH]) [⟨some aH,105,((vH r.ff.ag)::(.slice bL bG bQ)::(.slice dI db eA)::(iC (Value.int .u32) 96 r.fold.1 ((vI r.bA)::(vI r.eD)::(.bool r.ez)::(.bool r.c7)::(vI r.j6)::(iC (Value.int .u32) 96 r.bp.1 [(.bool r.gN)]))))⟩] w':=by
 induction fu with
 | zero=>intros;rename_i h;cases h
 | succ fu ih=>exact @Fr.iS _ (Fr.fW fu) @ih
theorem Fr.c(p0:dx)(d1:av 96 Int)(k2:Int)(jE:Int)(w:World)(r:dx){bL:Option Addr}{bG:Nat}(bQ:Nat)(dL:Rw w bL 2 ay p0.ff.aa)(dU:p0.ff.aa.length=bG){dI:Option Addr}{db:Nat}(eA:Nat)(g_:Rw w dI 2 aF p0.ft)(ga:p0.ft.length=db)(aH:Nat)(fG:Mem w (bs [some aH]) [⟨some aH,105,((vH p0.ff.ag)::(.slice bL bG bQ)::(.slice dI db eA)::(iC (Value.int .u32) 96 p0.fold.1 ((vI p0.bA)::(vI p0.eD)::(.bool p0.ez)::(.bool p0.c7)::(vI p0.j6)::(iC (Value.int .u32) 96 p0.bp.1 [(.bool p0.gN)]))))⟩] w)(eL:p0.ff.aa≠ []→aB bL∉bs [some aH])(gT:p0.ft≠ []→aB dI∉bs [some aH])(h:Fr p0 d1 k2 jE=some r):
   Calls Tryz.prog 54 #[(vP aH),(.agg (row aj d1.1 []).toArray),(vI k2),(vI jE)] w fun e w'=>∃v,e= .returned v∧(v= .tuple #[]∧Mem w (bs [some aH]) [⟨some aH,105,((vH r.ff.ag)::(.slice bL bG bQ)::(.slice dI db eA)::(iC (Value.int .u32) 96 r.fold.1 ((vI r.bA)::(vI r.eD)::(.bool r.ez)::(.bool r.c7)::(vI r.j6)::(iC (Value.int .u32) 96 r.bp.1 [(.bool r.gN)]))))⟩] w'):=
 Fr.jW 200 p0 d1 k2 jE w r bQ dL dU eA g_ ga aH fG eL gT h
def Wt(p0:dx):Option (Int):=(if p0.ez=true then some 7 else(if(!p0.c7)=true then some 6 else some 0))
theorem Wt.c(p0:dx)(w:World)(r:Int){bL:Option Addr}{bG:Nat}(bQ:Nat)(dL:Rw w bL 2 ay p0.ff.aa)(dU:p0.ff.aa.length=bG){dI:Option Addr}{db:Nat}(eA:Nat)(g_:Rw w dI 2 aF p0.ft)(ga:p0.ft.length=db)(aH:Nat)(fG:Mem w (bs [some aH]) [⟨some aH,105,((vH p0.ff.ag)::(.slice bL bG bQ)::(.slice dI db eA)::(iC (Value.int .u32) 96 p0.fold.1 ((vI p0.bA)::(vI p0.eD)::(.bool p0.ez)::(.bool p0.c7)::(vI p0.j6)::(iC (Value.int .u32) 96 p0.bp.1 [(.bool p0.gN)]))))⟩] w)(eL:p0.ff.aa≠ []→aB bL∉bs [some aH])(gT:p0.ft≠ []→aB dI∉bs [some aH])(h:Wt p0=some r):
   Cq 55 #[(vP aH)] w (vI r) (bs [some aH]) [⟨some aH,105,((vH p0.ff.ag)::(.slice bL bG bQ)::(.slice dI db eA)::(iC (Value.int .u32) 96 p0.fold.1 ((vI p0.bA)::(vI p0.eD)::(.bool p0.ez)::(.bool p0.c7)::(vI p0.j6)::(iC (Value.int .u32) 96 p0.bp.1 [(.bool p0.gN)]))))⟩]:=by
 subst dU ga
 rw [Wt] at h
 refine eN Tryz.func55 rfl Tryz.ntmps55 fG (cT [0] (ad (ap (cT [0,0,0,0,0] (qi h (fun h=> ?_) (fun h=> ?_))))))
 ·refine cT [0] (aI (cg (aT ?_)))
  cases h
  exact qP [0]
 ·refine cT [0,0,0,0,0,0] (qi h (fun h=> ?_) (fun h=> ?_))
  ·refine cT [0] (aI (cg (aT ?_)))
   cases h
   exact qP [0]
  ·refine bV (nT (cT [0] (aI ?_)))
   cases h
   exact qP [0]
def Wu(f0:ae)(ny:av 96 Int)(t2:List ai)(cO:Int):Option ((av 96 Int)×Int×Int×Int):=(F8 f0 t2 cO ([ny]:List (av 96 Int))).bind fun dz=>(if(dz !=0)=true then some ((av.dC 96 0),0,0,dz) else(Fr (⟨f0,t2,ny,cO,0,false,false,0,(av.dC 96 0),true⟩:dx) (av.dC 96 0) 0 0).bind fun aA=>(Wt (⟨(⟨aA.ff.ag,f0.aa⟩:ae),t2,aA.fold,aA.bA,aA.eD,aA.ez,aA.c7,aA.j6,aA.bp,aA.gN⟩:dx)).bind fun bz=>(if(bz !=0)=true then some ((av.dC 96 0),0,0,bz) else some (aA.bp,aA.j6,aA.eD,0)))
theorem Wu.c(f0:ae)(ny:av 96 Int)(t2:List ai)(cO:Int)(w:World)(r:(av 96 Int)×Int×Int×Int){bj:Option Addr}{bm:Nat}(bi:Nat)(dr:Rw w bj 2 ay f0.aa)(cE:f0.aa.length=bm){dI:Option Addr}{db:Nat}(eA:Nat)(g_:Rw w dI 2 aF t2)(ga:t2.length=db)(h:Wu f0 ny t2 cO=some r):
   Cr 28 #[(.agg #[(vH f0.ag),(.slice bj bm bi)]),(.agg (row aj ny.1 []).toArray),(.slice dI db eA),(vI cO)] w fun v w'=>v= .tuple #[(.agg (row aj r.1.1 []).toArray),(vI r.2.1),(vI r.2.2.1),(vI r.2.2.2)]∧Mem w [] [] w':=by
 subst cE ga
 rw [Wu] at h
 refine en Tryz.func28 rfl Tryz.ntmps28 (ad (ao (oA 0 (fun gC=>oA 0 (fun cD=>oA 0 (fun fa=>qh [0,0,0] (eT (ad (cR [0,0,0] (tO (pL 0 1 cD 96 1 36 aj ny an (fB (tO (Rq 0 36 96 1 da [(.agg (row aj ny.1 []).toArray)] [ny] rfl dD (fun gx=>fB (bE h fun dz jf h=>oQ 0 (fun w hm=>F8.c f0 t2 cO ([ny]:List (av 96 Int)) w _ bi (hm.xr dr) rfl eA (hm.xr g_) rfl 1 (hm.ow 3 (some gx) 36 ([ny]:List (av 96 Int)) [] (fun e=>nomatch e) dD) rfl jf) (qh [0] (eT (cT [0,0] (qi h (fun h=> ?_) (fun h=> ?_)))))))))))))))))))))
 ·refine cR [0,0] (tO (pS 0 2 fa 96 1 36 aj (av.dC 96 0) (av.dC 96 0) an bk (oH [0,0,0] (eT (rX ?_)))))
  obtain rfl:=si h
  exact gH rfl (ra (b:=fa) (T':=36) (hh:=2) (mm:=1) aj (av.dC 96 0) an (rt (rt (rt iP)))) (fun w hm=>⟨rfl,hm.pk []⟩)
 ·refine kT (cR [0,0] (tO (pL 0 1 cD 96 1 36 aj ny an (oH [0] (N7 27 96 (Value.int .u32) (bh:=aj) (fun _=>rfl) ny (qh [0] (oA 0 (fun fV=>qh [0] (eT (cR [0,0] (bE h fun aA km h=>oC 0 (fun w hm=>Fr.c (⟨f0,t2,ny,cO,0,false,false,0,(av.dC 96 0),true⟩:dx) (av.dC 96 0) 0 0 w _ bi (hm.xr dr) rfl eA (hm.xr g_) rfl fV (hm.ps [4]) (hm.xp dr (fun _=>cq) [4]) (hm.xp g_ (fun _=>cq) [4]) km) ?_)))))))))))
  rintro w v w' hm ⟨rfl,bn⟩
  refine ⟨_,hm.aW [(4,⟨some fV,105,((vH aA.ff.ag)::(.slice bj f0.aa.length bi)::(.slice dI t2.length eA)::(iC (Value.int .u32) 96 aA.fold.1 ((vI aA.bA)::(vI aA.eD)::(.bool aA.ez)::(.bool aA.c7)::(vI aA.j6)::(iC (Value.int .u32) 96 aA.bp.1 [(.bool aA.gN)]))))⟩)] [] bn,fB (eT (ad (cR [0] (bE h fun bz iR h=>oC 0 (fun w hm=>Wt.c (⟨(⟨aA.ff.ag,f0.aa⟩:ae),t2,aA.fold,aA.bA,aA.eD,aA.ez,aA.c7,aA.j6,aA.bp,aA.gN⟩:dx) w _ bi (hm.xr dr) rfl eA (hm.xr g_) rfl fV (hm.ps [4]) (hm.xp dr (fun _=>cq) [4]) (hm.xp g_ (fun _=>cq) [4]) iR) ?_))))⟩
  rintro w v w' hm ⟨rfl,bn⟩
  refine ⟨_,hm.aW [(4,⟨some fV,105,((vH aA.ff.ag)::(.slice bj f0.aa.length bi)::(.slice dI t2.length eA)::(iC (Value.int .u32) 96 aA.fold.1 ((vI aA.bA)::(vI aA.eD)::(.bool aA.ez)::(.bool aA.c7)::(vI aA.j6)::(iC (Value.int .u32) 96 aA.bp.1 [(.bool aA.gN)]))))⟩)] [] bn,oH [0] (eT (cT [0,0] (qi h (fun h=> ?_) (fun h=> ?_))))⟩
  ·refine cR [0,0] (tO (pS 0 2 fa 96 1 36 aj (av.dC 96 0) (av.dC 96 0) an bk (oH [0,0,0] (eT (rX ?_)))))
   obtain rfl:=si h
   exact gH rfl (ra (b:=fa) (T':=36) (hh:=2) (mm:=1) aj (av.dC 96 0) an (rt (rt (rt iP)))) (fun w hm=>⟨rfl,hm.pk []⟩)
  ·refine kT (ad (qg [⟨some gC,29,cF f0 bj bi⟩,⟨(some cD),36,row aj ny.1 []⟩,⟨(some gx),36,row da ([ny]:List (av 96 Int)) []⟩,⟨some fV,105,((vH aA.ff.ag)::(.slice bj f0.aa.length bi)::(.slice dI t2.length eA)::(iC (Value.int .u32) 96 aA.fold.1 ((vI aA.bA)::(vI aA.eD)::(.bool aA.ez)::(.bool aA.c7)::(vI aA.j6)::(iC (Value.int .u32) 96 aA.bp.1 [(.bool aA.gN)]))))⟩] 16 (qd [⟨0,0,0⟩,⟨1,0,0⟩,⟨2,0,0⟩,⟨4,0,0⟩,⟨5,0,0⟩,⟨6,0,0⟩,⟨7,3,0⟩,⟨8,0,0⟩,⟨9,0,0⟩,⟨10,0,0⟩,⟨11,3,0⟩] 5 [0,1,3,4] (qv 3 0 [0,1,3,4] (fun w hm=>jM (b:=fV) (off:=104) (s:=96) (agg:=true) (vs:=row aj aA.bp.1 []) (by kernel_rfl) ((gG an aA.bp).trans rfl) (.inl rfl) (hm.Jr 3 fV 104 (Value.int .u32) (fun _=>rfl) aA.bp)) (tD 12 (pS 0 2 fa 96 1 36 aj (av.dC 96 0) aA.bp an bk (kD [0,1,3,4] (qd [⟨13,0,0⟩,⟨14,0,0⟩,⟨15,0,0⟩] 0 [0,1,3,4] (qz (xR ?_))))))))))
   obtain rfl:=si h
   exact gH rfl (ra (b:=fa) (T':=36) (hh:=2) (mm:=1) aj aA.bp an (rt (rt (rt iP)))) (fun w hm=>⟨rfl,hm.pk []⟩)
def FD(n0:Int)(HW:Int)(z_:Int):Option (Bool):=some ((decide (n0≥HW))&&(decide (n0≤z_)))
theorem FD.c(n0:Int)(HW:Int)(z_:Int)(w:World)(r:Bool)(h:FD n0 HW z_=some r):
   Cq 117 #[(vI n0),(vI HW),(vI z_)] w (.bool r) [] []:=by
 rw [FD] at h
 refine en Tryz.func117 rfl Tryz.ntmps117 (cT [0] (ad (ao (qf [(0,0),(0,0),(0,0),(0,0),(0,1),(0,1),(0,1),(0,0),(0,0)] (eT (aI ?_))))))
 cases h
 exact qP []
def Wv(a0:Int)(b1:Int):Option (Int):=(if(decide (a0<b1))=true then some a0 else some b1)
theorem Wv.c(a0:Int)(b1:Int)(w:World)(r:Int)(h:Wv a0 b1=some r):
   Cq 168 #[(vI a0),(vI b1)] w (vI r) [] []:=by
 rw [Wv] at h
 refine en Tryz.func168 rfl Tryz.ntmps168 (cT [0] (ad (cT [0,0,0] (qi h (fun h=> ?_) (fun h=> ?_)))))
 ·refine cT [0,0] (rX ?_)
  cases h
  exact qP []
 ·refine kT (cT [0,0] (aI ?_))
  cases h
  exact qP []
def FC.nS:Option (Bool):=some true
def FC.og(aR:Int)(yU:Bool):Option ((Int)⊕(Bool⊕Unit)):=(if yU=true then some (.inr (.inl false)) else some (.inl (au (aR+1))))
def FC.fY(f0:ae):Int→Option ((Int)⊕(Bool⊕Unit))
 | aR=>(if(decide (aR<(f0.aa.length:Int)))=true then(ix f0.aa aR).bind fun eW=>(FD (au eW.aD) 0 47).bind fun eo=>(if(!eo)=true then FC.og aR true else(Wv 20 (au f0.ag)).bind fun gu=>(FD (au eW.fg) 1 gu).bind fun i_=>FC.og aR (!i_)) else some (.inr (.inr ())))
def FC.fk(f0:ae)(L9:Bool):Option (Bool):=(if L9=true then some false else(loop (FC.fY f0) 0).bind fun eO=>match eO with | .inl p=>some p | .inr p=>FC.nS)
def FC(f0:ae):Option (Bool):=(FD (au f0.ag) 2 96).bind fun iq=>(if(!iq)=true then FC.fk f0 true else(FD (f0.aa.length:Int) 1 24).bind fun jU=>FC.fk f0 (!jU))
theorem FC.c(f0:ae)(w:World)(r:Bool){bj:Option Addr}{bm:Nat}(bi:Nat)(dr:Rw w bj 2 ay f0.aa)(cE:f0.aa.length=bm)(aH:Nat)(fG:Mem w (bs [some aH]) [⟨some aH,29,cG f0 bj bm bi⟩] w)(fx:f0.aa≠ []→aB bj∉bs [some aH])(h:FC f0=some r):
   Cq 118 #[(vP aH)] w (.bool r) (bs [some aH]) [⟨some aH,29,cG f0 bj bm bi⟩]:=by
 subst cE
 rw [FC] at h
 refine eN Tryz.func118 rfl Tryz.ntmps118 fG (cT [0] (s2 (aK (fun(L9:Bool)=>FC.fk f0 L9=some r) (fun L9=> [(0,[],(vP aH)),(2,[],(.bool false)),(20,[],(.bool L9))]) (fun L9=> [⟨some aH,29,cF f0 bj bi⟩]) ?_ ?_)))
 ·refine cH [0,0,0,0,0] (bE h fun iq nx h=>oQ 0 (fun w hm=>FD.c (au f0.ag) 2 96 w _ nx) (qf [(0,0),(0,0),(0,1),(0,1),(0,1),(0,1),(0,1)] (qp 12 h (fun h=> ?_) (fun h=> ?_))))
  ·exact qf [(0,3),(0,3),(0,4)] (qe (qm true h [0]))
  ·exact bE h fun jU sd h=>oQ 2 (fun w hm=>FD.c (f0.aa.length:Int) 1 24 w _ sd) (qf [(0,2),(0,5)] (qe (qm (!jU) h [0])))
 ·rintro L9 h
  unfold FC.fk at h
  refine aP (qi h (fun h=> ?_) (fun h=> ?_))
  ·refine cT [0] (rX ?_)
   cases h
   exact qP [0]
  ·refine kT (ad (cT [0] (aK (fun(_:Unit)=>FC.nS=some r) (fun(_:Unit)=> [(2,[],(.bool false))]) (fun(_:Unit)=> [⟨some aH,29,cF f0 bj bi⟩]) ?_ ?_)))
   ·refine ap ?_
    obtain⟨eO,wQ,Db⟩:=bd h
    refine jl (fun(aR:Int) (_:Unit)=>True) (fun aR _=> [(0,[],(vP aH)),(2,[],(.bool false)),(3,[],(vI aR))]) (fun aR _=> [⟨some aH,29,cF f0 bj bi⟩]) wQ () trivial [0] ?_
    rintro aR _ aab _ h
    rw [FC.fY] at h
    refine ad (cT [0,0,0,0,0,0,0] (qi h (fun h=> ?_) (fun h=> ?_)))
    ·refine kT (ad (ap (cR [0,0,0,0,0] (bE h fun eW kV h=>oX 0 bj 2 kV rfl (dr.sp kV) (oL 0 true (fun w hm=>((hm.aM dr fx).at kV)) (oA 0 (fun pU=>oS 0 [1] (eT (ad (aK (fun(yU:Bool)=>FC.og aR yU=some aab) (fun yU=> [(0,[],(vP aH)),(2,[],(.bool false)),(3,[],(vI aR)),(54,[],(.bool yU))]) (fun yU=> [⟨some aH,29,cF f0 bj bi⟩,⟨some pU,68,[(vB eW.aD),(vB eW.fg)]⟩]) ?_ ?_))))))))))
     ·refine qg [⟨some aH,29,cF f0 bj bi⟩,⟨some pU,68,[(vB eW.aD),(vB eW.fg)]⟩] 18 (qd [⟨0,0,0⟩,⟨1,1,0⟩,⟨2,0,0⟩] 15 [0,1] (bE h fun eo Dk h=>dQ 3 0 (fun w hm=>FD.c (au eW.aD) 0 47 w _ Dk) [0,1] (qd [⟨4,0,0⟩,⟨5,0,0⟩,⟨6,0,1⟩,⟨7,1,1⟩,⟨8,0,1⟩,⟨9,0,1⟩,⟨10,0,1⟩,⟨11,0,1⟩,⟨12,0,1⟩,⟨13,0,1⟩] 4 [0,1] (js 42 (!eo) (fun L_=> ?_) (fun L_=> ?_)))))
      ·replace h:=yi L_ h
       exact qd [⟨14,0,3⟩,⟨15,0,3⟩,⟨16,0,3⟩,⟨17,0,4⟩] 0 [0,1] (qz (qm true h [0,1]))
      ·replace h:=yj L_ h
       exact bE h fun gu Ad h=>dQ 14 2 (fun w hm=>Wv.c 20 (au f0.ag) w _ Ad) [0,1] (bE h fun i_ qJ h=>dQ 15 2 (fun w hm=>FD.c (au eW.fg) 1 gu w _ qJ) [0,1] (qd [⟨16,0,2⟩,⟨17,0,5⟩] 0 [0,1] (qz (qm (!i_) h [0,1]))))
     ·rintro yU h
      unfold FC.og at h
      refine aP (qi h (fun h=> ?_) (fun h=> ?_))
      ·refine cT [0] (aI (cg (aT (c_ (.inl false) (sj h) (fun ahr=> ?_)))))
       subst ahr
       refine cg (aT (aT ?_))
       obtain rfl:=si Db
       exact qP [0]
      ·exact bV (nT (cH [0,0,0] (qe (qb (au (aR+1)) () h trivial [0]))))
    ·exact lX (.inr ()) h (fun e=>by subst e;exact bo (qm () Db [0]))
   ·rintro _ h
    unfold FC.nS at h
    refine aP (cT [0] (aI ?_))
    cases h
    exact qP [0]
def YA(n0:ai):Option (Bool):=(FD (au n0.cd) 0 199).bind fun bz=>(if bz=true then(FD (au n0.aD) 0 47).bind fun aA=>some aA else some false)
theorem YA.c(n0:ai)(w:World)(r:Bool)(h:YA n0=some r):
   Cq 169 #[(.agg (aN n0))] w (.bool r) [] []:=by
 rw [YA] at h
 refine en Tryz.func169 rfl Tryz.ntmps169 (ad (ao (oA 0 (fun fa=>qh [0] (eT (cR [0,0,0] (bE h fun bz gv h=>oQ 0 (fun w hm=>FD.c (au n0.cd) 0 199 w _ gv) (qf [(0,0),(0,1),(0,1),(0,1)] (qp 7 h (fun h=> ?_) (fun h=> ?_))))))))))
 ·refine bE h fun aA kN h=>oQ 2 (fun w hm=>FD.c (au n0.aD) 0 47 w _ kN) (qf [(0,4),(0,0)] (eT (aI ?_)))
  cases h
  exact qP []
 ·refine qf [(0,3),(0,5),(0,0)] (eT (aI ?_))
  cases h
  exact qP []
def Ww(a0:ai)(b1:ai):Option (Bool):=(if(decide (a0.cd<b1.cd))=true then some true else some ((a0.cd==b1.cd)&&(decide (a0.aD<b1.aD))))
theorem Ww.c(a0:ai)(b1:ai)(w:World)(r:Bool)(h:Ww a0 b1=some r):
   Cq 106 #[(.agg (aN a0)),(.agg (aN b1))] w (.bool r) [] []:=by
 rw [Ww] at h
 refine en Tryz.func106 rfl Tryz.ntmps106 (ad (ao (oA 0 (fun cD=>oA 0 (fun fa=>qh [0] (eT (ad (ao (qf [(0,0),(0,0),(0,0),(1,0),(0,0),(0,0),(0,1),(0,1),(0,1),(1,1),(0,1)] (qp 10 h (fun h=> ?_) (fun h=> ?_)))))))))))
 ·refine qf [(0,3),(0,3),(0,3),(0,3),(0,3),(0,3),(0,3),(0,4),(0,0)] (eT (aI ?_))
  cases h
  exact qP []
 ·refine qf [(0,2),(0,1),(0,1),(0,1),(1,1),(0,1),(0,2),(0,5),(0,0)] (eT (aI ?_))
  cases h
  exact qP []
def yV.iQ(t0:List ai):Option (Bool):=some (decide ((t0.length:Int)≤120))
def yV.po(aR:Int)(sb:Bool):Option ((Int)⊕(Bool⊕Unit)):=(if sb=true then some (.inr (.inl false)) else some (.inl (au (aR+1))))
def yV.e7(t0:List ai):Int→Option ((Int)⊕(Bool⊕Unit))
 | aR=>(if(decide (aR<(t0.length:Int)))=true then(ix t0 aR).bind fun pb=>(YA pb).bind fun dz=>(if(!dz)=true then yV.po aR true else(if(decide (aR>0))=true then(ix t0 (au (aR-1))).bind fun pd=>(ix t0 aR).bind fun q_=>(Ww pd q_).bind fun i_=>yV.po aR (!i_) else yV.po aR false)) else some (.inr (.inr ())))
def yV(t0:List ai):Option (Bool):=(loop (yV.e7 t0) 0).bind fun s8=>match s8 with | .inl p=>some p | .inr p=>yV.iQ t0
theorem yV.c(t0:List ai)(w:World)(r:Bool){cQ:Option Addr}{ck:Nat}(bX:Nat)(eX:Rw w cQ 2 aF t0)(dH:t0.length=ck)(h:yV t0=some r):
   Cq 119 #[(.slice cQ ck bX)] w (.bool r) [] []:=by
 subst dH
 rw [yV] at h
 refine en Tryz.func119 rfl Tryz.ntmps119 (cT [0] (ad (cT [0] (aK (fun(_:Unit)=>yV.iQ t0=some r) (fun(_:Unit)=> [(0,[],(.slice cQ t0.length bX)),(2,[],(.bool false))]) (fun(_:Unit)=> []) ?_ ?_))))
 ·refine ap ?_
  obtain⟨s8,nx,GX⟩:=bd h
  refine jl (fun(aR:Int) (_:Unit)=>True) (fun aR _=> [(0,[],(.slice cQ t0.length bX)),(2,[],(.bool false)),(3,[],(vI aR))]) (fun aR _=> []) nx () trivial [] ?_
  rintro aR _ Wx _ h
  rw [yV.e7] at h
  refine ad (cT [0,0,0,0] (qi h (fun h=> ?_) (fun h=> ?_)))
  ·refine kT (ad (ap (ad (aK (fun(sb:Bool)=>yV.po aR sb=some Wx) (fun sb=> [(0,[],(.slice cQ t0.length bX)),(2,[],(.bool false)),(3,[],(vI aR)),(32,[],(.bool sb))]) (fun sb=> []) ?_ ?_))))
   ·refine qg [] 23 (qd [⟨0,0,0⟩,⟨1,0,0⟩] 21 [] (bE h fun pb kW h=>qX 2 0 [] cQ 2 kW rfl (eX.sp kW) (qL 3 0 [] true (fun w hm=>(hm.xr eX).at kW) (bE h fun dz sd h=>dQ 4 0 (fun w hm=>YA.c pb w _ sd) [] (qd [⟨5,0,0⟩,⟨6,0,0⟩,⟨7,0,1⟩,⟨8,0,1⟩] 14 [] (js 16 (!dz) (fun L5=> ?_) (fun L5=> ?_)))))))
    ·replace h:=yi L5 h
     exact qd [⟨9,0,3⟩,⟨10,0,3⟩,⟨11,0,3⟩,⟨12,0,3⟩,⟨13,0,3⟩,⟨14,0,3⟩,⟨15,0,3⟩,⟨16,0,3⟩,⟨17,0,3⟩,⟨18,0,3⟩,⟨19,0,3⟩,⟨20,0,3⟩,⟨21,0,3⟩,⟨22,0,4⟩] 0 [] (qz (qm true h []))
    ·replace h:=yj L5 h
     refine qd [⟨9,0,2⟩,⟨10,0,1⟩,⟨11,0,1⟩,⟨12,0,1⟩,⟨15,0,1⟩,⟨16,0,1⟩] 8 [] (js 19 (decide (aR>0)) (fun L_=> ?_) (fun L_=> ?_))
     ·replace h:=yi L_ h
      exact bE h fun pd oR h=>qX 13 2 [] cQ 2 oR rfl (eX.sp oR) (qL 14 2 [] true (fun w hm=>(hm.xr eX).at oR) (bE h fun q_ mI h=>qX 17 2 [] cQ 2 mI rfl (eX.sp mI) (qL 18 2 [] true (fun w hm=>(hm.xr eX).at mI) (bE h fun i_ wQ h=>dQ 19 2 (fun w hm=>Ww.c pd q_ w _ wQ) [] (qd [⟨20,0,2⟩,⟨21,0,4⟩,⟨22,0,5⟩] 0 [] (qz (qm (!i_) h [])))))))
     ·replace h:=yj L_ h
      exact qd [⟨13,0,3⟩,⟨14,0,3⟩,⟨17,0,3⟩,⟨18,0,3⟩,⟨19,0,3⟩,⟨20,0,3⟩,⟨21,0,5⟩,⟨22,0,5⟩] 0 [] (qz (qm false h []))
   ·rintro sb h
    unfold yV.po at h
    refine aP (qi h (fun h=> ?_) (fun h=> ?_))
    ·refine cT [0] (aI (cg (aT (c_ (.inl false) (sj h) (fun aaj=> ?_)))))
     subst aaj
     refine cg (aT (aT ?_))
     obtain rfl:=si GX
     exact qP []
    ·exact bV (nT (cH [0,0,0] (qe (qb (au (aR+1)) () h trivial []))))
  ·exact lX (.inr ()) h (fun e=>by subst e;exact bo (qm () GX []))
 ·rintro _ h
  unfold yV.iQ at h
  refine aP (cT [0,0,0,0] (aI ?_))
  cases h
  exact qP []
def Cl.iQ:Option (Bool):=some true
def Cl.po(aR:Int)(sb:Bool):Option ((Int)⊕(Bool⊕Unit)):=(if sb=true then some (.inr (.inl false)) else some (.inl (au (aR+1))))
def Cl.e7(f0:ae)(d1:av 96 Int):Int→Option ((Int)⊕(Bool⊕Unit))
 | aR=>(if(decide (aR<96))=true then(ix d1.1 aR).bind fun pb=>(if 0≤(u64 (f0.aa.length:Int)) then(if((eC .u32 pb (u64 (f0.aa.length:Int))) !=0)=true then Cl.po aR true else(if(decide (aR≥(au f0.ag)))=true then(ix d1.1 aR).bind fun pg=>Cl.po aR (pg !=0) else Cl.po aR false)) else none) else some (.inr (.inr ())))
def Cl(f0:ae)(d1:av 96 Int):Option (Bool):=(loop (Cl.e7 f0 d1) 0).bind fun qI=>match qI with | .inl p=>some p | .inr p=>Cl.iQ
theorem Cl.c(f0:ae)(d1:av 96 Int)(w:World)(r:Bool){bj:Option Addr}{bm:Nat}(bi:Nat)(dr:Rw w bj 2 ay f0.aa)(cE:f0.aa.length=bm){fZ qK:Nat}(dL:Rw w (some ⟨fZ,qK,none⟩) 1 aj d1.1)(aH:Nat)(fG:Mem w (bs [some aH]) [⟨some aH,29,cG f0 bj bm bi⟩] w)(fx:f0.aa≠ []→aB bj∉bs [some aH])(eL:d1.1≠ []→aB (some ⟨fZ,qK,none⟩)∉bs [some aH])(h:Cl f0 d1=some r):
   Cq 120 #[(vP aH),(.pointer (some ⟨fZ,qK,none⟩))] w (.bool r) (bs [some aH]) [⟨some aH,29,cG f0 bj bm bi⟩]:=by
 subst cE
 rw [Cl] at h
 refine eN Tryz.func120 rfl Tryz.ntmps120 fG (cT [0] (ad (cT [0] (aK (fun(_:Unit)=>Cl.iQ=some r) (fun(_:Unit)=> [(4,[],(.bool false))]) (fun(_:Unit)=> [⟨some aH,29,cF f0 bj bi⟩]) ?_ ?_))))
 ·refine ap ?_
  obtain⟨qI,mH,Wm⟩:=bd h
  refine jl (fun(aR:Int) (_:Unit)=>True) (fun aR _=> [(0,[],(vP aH)),(1,[],(.pointer (some ⟨fZ,qK,none⟩))),(4,[],(.bool false)),(5,[],(vI aR))]) (fun aR _=> [⟨some aH,29,cF f0 bj bi⟩]) mH () trivial [0] ?_
  rintro aR _ Jz _ h
  rw [Cl.e7] at h
  refine ad (cT [0,0] (qi h (fun h=> ?_) (fun h=> ?_)))
  ·refine kT (ad (ap (ad (aK (fun(sb:Bool)=>Cl.po aR sb=some Jz) (fun sb=> [(0,[],(vP aH)),(1,[],(.pointer (some ⟨fZ,qK,none⟩))),(4,[],(.bool false)),(5,[],(vI aR)),(39,[],(.bool sb))]) (fun sb=> [⟨some aH,29,cF f0 bj bi⟩]) ?_ ?_))))
   ·refine qg [⟨some aH,29,cF f0 bj bi⟩] 30 (qd [⟨0,0,0⟩,⟨1,0,0⟩,⟨2,0,0⟩,⟨5,0,0⟩,⟨6,0,0⟩,⟨7,0,0⟩,⟨8,0,0⟩,⟨9,0,0⟩,⟨10,0,0⟩] 21 [0] (bE h fun pb vJ h=>qX 3 0 [0] (some ⟨fZ,qK,none⟩) 1 vJ d1.2 (dL.sp vJ) (qL 4 0 [0] false (fun w hm=>(hm.aM dL eL).at vJ) ?_)))
    obtain⟨JA,h⟩:=gd h
    refine tD 11 (pW 0 .u32 pb .u64 (u64 (f0.aa.length:Int)) JA (kD [0] (qd [⟨12,0,0⟩,⟨13,0,0⟩,⟨14,0,1⟩,⟨15,0,1⟩,⟨16,0,1⟩,⟨17,0,1⟩,⟨18,0,1⟩,⟨19,0,1⟩,⟨20,0,1⟩] 9 [0] (js 23 ((eC .u32 pb (u64 (f0.aa.length:Int))) !=0) (fun De=> ?_) (fun De=> ?_)))))
    ·replace h:=yi De h
     exact qd [⟨21,0,3⟩,⟨22,0,3⟩,⟨23,0,3⟩,⟨24,0,3⟩,⟨25,0,3⟩,⟨26,0,3⟩,⟨27,0,3⟩,⟨28,0,3⟩,⟨29,0,4⟩] 0 [0] (qz (qm true h [0]))
    ·replace h:=yj De h
     refine qd [⟨21,0,2⟩,⟨22,0,1⟩,⟨23,0,1⟩,⟨24,0,1⟩] 5 [0] (js 31 (decide (aR≥(au f0.ag))) (fun aak=> ?_) (fun aak=> ?_))
     ·replace h:=yi aak h
      exact bE h fun pg kW h=>qX 25 2 [0] (some ⟨fZ,qK,none⟩) 1 kW d1.2 (dL.sp kW) (qL 26 2 [0] false (fun w hm=>(hm.aM dL eL).at kW) (qd [⟨27,0,2⟩,⟨28,0,4⟩,⟨29,0,5⟩] 0 [0] (qz (qm (pg !=0) h [0]))))
     ·replace h:=yj aak h
      exact qd [⟨25,0,3⟩,⟨26,0,3⟩,⟨27,0,3⟩,⟨28,0,5⟩,⟨29,0,5⟩] 0 [0] (qz (qm false h [0]))
   ·rintro sb h
    unfold Cl.po at h
    refine aP (qi h (fun h=> ?_) (fun h=> ?_))
    ·refine cT [0] (aI (cg (aT (c_ (.inl false) (sj h) (fun ahs=> ?_)))))
     subst ahs
     refine cg (aT (aT ?_))
     obtain rfl:=si Wm
     exact qP [0]
    ·exact bV (nT (cH [0,0,0] (qe (qb (au (aR+1)) () h trivial [0]))))
  ·exact lX (.inr ()) h (fun e=>by subst e;exact bo (qm () Wm [0]))
 ·rintro _ h
  unfold Cl.iQ at h
  refine aP (cT [0] (aI ?_))
  cases h
  exact qP [0]
def Wy(t0:List ai):Option (Int):=(if((t0.length:Int)==0)=true then some 0 else(ix t0 (au ((t0.length:Int)-1))).bind fun eW=>some (au ((au eW.cd)+1)))
theorem Wy.c(t0:List ai)(w:World)(r:Int){cQ:Option Addr}{ck:Nat}(bX:Nat)(eX:Rw w cQ 2 aF t0)(dH:t0.length=ck)(h:Wy t0=some r):
   Cq 121 #[(.slice cQ ck bX)] w (vI r) [] []:=by
 subst dH
 rw [Wy] at h
 refine en Tryz.func121 rfl Tryz.ntmps121 (cT [0] (ad (cT [0,0,0] (qi h (fun h=> ?_) (fun h=> ?_)))))
 ·refine cT [0] (rX ?_)
  cases h
  exact qP []
 ·refine kT (cR [0,0,0,0] (bE h fun eW oN h=>oX 0 cQ 2 oN rfl (eX.sp oN) (qh [0] (oL 0 false (fun w hm=>(((hm.xr eX).at oN).sub 0 1)) (qh [0,0,0] (eT (aI ?_)))))))
  cases h
  exact qP []
def F9.fk(f0:ae)(t1:List ai)(yW:Bool):Option (Int):=(if yW=true then some 1 else(Wy t1).bind fun dj=>(if(decide (dj>(au f0.ag)))=true then some 2 else some 0))
def F9(f0:ae)(t1:List ai)(d2:av 96 Int):Option (Int):=(FC f0).bind fun dz=>(if(!dz)=true then F9.fk f0 t1 true else(yV t1).bind fun eo=>(if(!eo)=true then F9.fk f0 t1 true else(Cl f0 d2).bind fun bz=>F9.fk f0 t1 (!bz)))
theorem F9.c(f0:ae)(t1:List ai)(d2:av 96 Int)(w:World)(r:Int){bj:Option Addr}{bm:Nat}(bi:Nat)(dr:Rw w bj 2 ay f0.aa)(cE:f0.aa.length=bm){bL:Option Addr}{bG:Nat}(bQ:Nat)(dL:Rw w bL 2 aF t1)(dU:t1.length=bG){dY YB:Nat}(g_:Rw w (some ⟨dY,YB,none⟩) 1 aj d2.1)(aH:Nat)(fG:Mem w (bs [some aH]) [⟨some aH,29,cG f0 bj bm bi⟩] w)(fx:f0.aa≠ []→aB bj∉bs [some aH])(eL:t1≠ []→aB bL∉bs [some aH])(gT:d2.1≠ []→aB (some ⟨dY,YB,none⟩)∉bs [some aH])(h:F9 f0 t1 d2=some r):
   Cq 61 #[(vP aH),(.slice bL bG bQ),(.pointer (some ⟨dY,YB,none⟩))] w (vI r) (bs [some aH]) [⟨some aH,29,cG f0 bj bm bi⟩]:=by
 subst cE dU
 rw [F9] at h
 refine eN Tryz.func61 rfl Tryz.ntmps61 fG (cT [0] (s2 (aK (fun(yW:Bool)=>F9.fk f0 t1 yW=some r) (fun yW=> [(0,[],(vP aH)),(1,[],(.slice bL t1.length bQ)),(6,[],(vI 0)),(20,[],(.bool yW))]) (fun yW=> [⟨some aH,29,cF f0 bj bi⟩]) ?_ ?_)))
 ·refine cH [0] (bE h fun dz jf h=>oC 0 (fun w hm=>FC.c f0 w _ bi (hm.aM dr fx) rfl aH (hm.ps [0]) (hm.xp dr fx [0]) jf) ?_)
  rintro w v w' hm ⟨rfl,bn⟩
  refine ⟨_,hm.aW [(0,⟨some aH,29,cF f0 bj bi⟩)] [] bn,fB (qf [(0,0),(0,0),(0,1)] (qp 10 h (fun h=> ?_) (fun h=> ?_)))⟩
  ·exact qf [(0,3),(0,3),(0,4),(0,0),(0,3),(0,3),(0,3),(0,3),(0,4)] (qe (qm true h [0]))
  ·refine bE h fun eo km h=>oQ 2 (fun w hm=>yV.c t1 w _ bQ (hm.aM dL eL) rfl km) (qf [(0,2),(0,5),(0,0),(0,1),(0,1)] (qp 15 h (fun h=> ?_) (fun h=> ?_)))
   ·exact qf [(0,3),(0,3),(0,4)] (qe (qm true h [0]))
   ·refine bE h fun bz iR h=>oC 2 (fun w hm=>Cl.c f0 d2 w _ bi (hm.aM dr fx) rfl (hm.aM g_ gT) aH (hm.ps [0]) (hm.xp dr fx [0]) (hm.xp g_ gT [0]) iR) ?_
    rintro w v w' hm ⟨rfl,bn⟩
    exact ⟨_,hm.aW [(0,⟨some aH,29,cF f0 bj bi⟩)] [] bn,fB (qf [(0,2),(0,5)] (qe (qm (!bz) h [0])))⟩
 ·rintro yW h
  unfold F9.fk at h
  refine aP (qi h (fun h=> ?_) (fun h=> ?_))
  ·refine cT [0] (rX ?_)
   cases h
   exact qP [0]
  ·refine kT (s2 (qg [⟨some aH,29,cF f0 bj bi⟩] 8 (qd [⟨0,0,0⟩,⟨2,0,0⟩,⟨3,0,0⟩,⟨4,0,0⟩,⟨5,0,0⟩,⟨6,0,0⟩] 2 [0] (bE h fun dj u5 h=>dQ 1 0 (fun w hm=>Wy.c t1 w _ bQ (hm.aM dL eL) rfl u5) [0] (qd [⟨7,0,0⟩] 0 [0] (zT (qi h (fun h=> ?_) (fun h=> ?_))))))))
   ·refine cT [0] (rX ?_)
    cases h
    exact qP [0]
   ·refine kT (cT [0] (aI ?_))
    cases h
    exact qP [0]
end
end Go.Proofs.YtplklknkkaeniaaGreat
