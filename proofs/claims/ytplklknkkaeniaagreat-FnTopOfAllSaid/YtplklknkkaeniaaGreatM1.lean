/- Functions of the program that the law reaches: a plain function each, and that the call comes to its answer if the plain function has one. Printed by a program. -/
import Derived.Test.YtplklknkkaeniaaGreatT
import Derived.Test.YtplklknkkaeniaaGreatSeg
import Derived.Test.YtplklknkkaeniaaGreatSort
import Derived.Test.YtplklknkkaeniaaGreatM0
namespace Go.Proofs.YtplklknkkaeniaaGreat
open Eng
set_option linter.unusedVariables false
set_option linter.unusedSectionVars false
set_option maxRecDepth 100000
variable [gj:wu]
noncomputable section
def Dn.ki(yW:Bool):Option (Int):=(if yW=true then some 2 else some 0)
def Dn.fk(f0:ae)(t1:List ai)(ij:Int)(sb:Bool):Option (Int):=(if sb=true then some 1 else(Wy t1).bind fun dj=>(if(decide (dj>(au f0.ag)))=true then Dn.ki true else(FD ij 0 20000).bind fun dz=>Dn.ki (!dz)))
def Dn(f0:ae)(t1:List ai)(ij:Int):Option (Int):=(FC f0).bind fun i_=>(if(!i_)=true then Dn.fk f0 t1 ij true else(yV t1).bind fun eo=>Dn.fk f0 t1 ij (!eo))
theorem Dn.c(f0:ae)(t1:List ai)(ij:Int)(w:World)(r:Int){bj:Option Addr}{bm:Nat}(bi:Nat)(dr:Rw w bj 2 ay f0.aa)(cE:f0.aa.length=bm){bL:Option Addr}{bG:Nat}(bQ:Nat)(dL:Rw w bL 2 aF t1)(dU:t1.length=bG)(aH:Nat)(fG:Mem w (bs [some aH]) [⟨some aH,29,cG f0 bj bm bi⟩] w)(fx:f0.aa≠ []→aB bj∉bs [some aH])(eL:t1≠ []→aB bL∉bs [some aH])(h:Dn f0 t1 ij=some r):
   Cq 62 #[(vP aH),(.slice bL bG bQ),(vI ij)] w (vI r) (bs [some aH]) [⟨some aH,29,cG f0 bj bm bi⟩]:=by
 subst cE dU
 rw [Dn] at h
 refine eN Tryz.func62 rfl Tryz.ntmps62 fG (cT [0] (s2 (aK (fun(sb:Bool)=>Dn.fk f0 t1 ij sb=some r) (fun sb=> [(0,[],(vP aH)),(1,[],(.slice bL t1.length bQ)),(2,[],(vI ij)),(6,[],(vI 0)),(14,[],(.bool sb))]) (fun sb=> [⟨some aH,29,cF f0 bj bi⟩]) ?_ ?_)))
 ·refine cH [0] (bE h fun i_ iR h=>oC 0 (fun w hm=>FC.c f0 w _ bi (hm.aM dr fx) rfl aH (hm.ps [0]) (hm.xp dr fx [0]) iR) ?_)
  rintro w v w' hm ⟨rfl,bn⟩
  refine ⟨_,hm.aW [(0,⟨some aH,29,cF f0 bj bi⟩)] [] bn,fB (qf [(0,0),(0,0),(0,1)] (qp 10 h (fun h=> ?_) (fun h=> ?_)))⟩
  ·exact qf [(0,3),(0,3),(0,4)] (qe (qm true h [0]))
  ·exact bE h fun eo u5 h=>oQ 2 (fun w hm=>yV.c t1 w _ bQ (hm.aM dL eL) rfl u5) (qf [(0,2),(0,5)] (qe (qm (!eo) h [0])))
 ·rintro sb h
  unfold Dn.fk at h
  refine aP (qi h (fun h=> ?_) (fun h=> ?_))
  ·refine cT [0] (rX ?_)
   cases h
   exact qP [0]
  ·refine kT (s2 (aK (fun(yW:Bool)=>Dn.ki yW=some r) (fun yW=> [(6,[],(vI 0)),(27,[],(.bool yW))]) (fun yW=> [⟨some aH,29,cF f0 bj bi⟩]) ?_ ?_))
   ·refine qg [⟨some aH,29,cF f0 bj bi⟩] 13 (qd [⟨0,0,0⟩,⟨2,0,0⟩,⟨3,0,0⟩,⟨4,0,0⟩,⟨5,0,0⟩,⟨6,0,0⟩] 7 [0] (bE h fun dj yY h=>dQ 1 0 (fun w hm=>Wy.c t1 w _ bQ (hm.aM dL eL) rfl yY) [0] (qd [⟨7,0,0⟩,⟨8,0,0⟩,⟨9,0,1⟩] 3 [0] (js 23 (decide (dj>(au f0.ag))) (fun De=> ?_) (fun De=> ?_)))))
    ·replace h:=yi De h
     exact qd [⟨10,0,3⟩,⟨11,0,3⟩,⟨12,0,4⟩] 0 [0] (qz (qm true h [0]))
    ·replace h:=yj De h
     exact bE h fun dz mF h=>dQ 10 2 (fun w hm=>FD.c ij 0 20000 w _ mF) [0] (qd [⟨11,0,2⟩,⟨12,0,5⟩] 0 [0] (qz (qm (!dz) h [0])))
   ·rintro yW h
    unfold Dn.ki at h
    refine aP (qi h (fun h=> ?_) (fun h=> ?_))
    ·refine cT [0] (rX ?_)
     cases h
     exact qP [0]
    ·refine kT (cT [0] (aI ?_))
     cases h
     exact qP [0]
def JN(d0:av 96 Int)(step1:Int)(dP:Int):Option (Bool):=(ix d0.1 step1).bind fun j5=>(if 0≤(u64 dP) then some ((Int.tmod (eC .u32 j5 (u64 dP)) 2)==1) else none)
theorem JN.c(d0:av 96 Int)(step1:Int)(dP:Int)(w:World)(r:Bool){aH L6:Nat}(eX:Rw w (some ⟨aH,L6,none⟩) 1 aj d0.1)(h:JN d0 step1 dP=some r):
   Cq 136 #[(.pointer (some ⟨aH,L6,none⟩)),(vI step1),(vI dP)] w (.bool r) [] []:=by
 rw [JN] at h
 refine en Tryz.func136 rfl Tryz.ntmps136 (cT [0] (cR [0,0,0] (bE h fun j5 oN h=>oX 0 (some ⟨aH,L6,none⟩) 1 oN d0.2 (eX.sp oN) (oL 0 false (fun w hm=>((hm.xr eX).at oN)) (qh [0,0] ?_)))))
 obtain⟨L7,h⟩:=gd h
 refine tO (pW 0 .u32 j5 .u64 (u64 dP) L7 (oH [0,0,0] (eT (aI ?_))))
 cases h
 exact qP []
def F2.nS:Option (Bool):=some true
def F2.u6(aR:Int)(sb:Bool):Option ((Int)⊕(Bool⊕Unit)):=(if sb=true then some (.inr (.inl false)) else some (.inl (au (aR+1))))
def F2.fY(f0:ae)(d1:av 96 Int)(step2:Int)(c8:Int)(pb:bq):Int→Option ((Int)⊕(Bool⊕Unit))
 | aR=>(if(decide (aR<(au pb.fg)))=true then(if(au f0.ag)≠0 then(JN d1 (Int.tmod (au (step2+aR)) (au f0.ag)) c8).bind fun gu=>(if gu=true then F2.u6 aR true else(if(au f0.ag)≠0 then(JN d1 (Int.tmod (au ((au (step2+(au f0.ag)))-aR)) (au f0.ag)) c8).bind fun dz=>F2.u6 aR dz else none)) else none) else some (.inr (.inr ())))
def F2(f0:ae)(d1:av 96 Int)(step2:Int)(c8:Int):Option (Bool):=(JN d1 step2 c8).bind fun i_=>(if i_=true then some false else(ix f0.aa c8).bind fun pb=>(loop (F2.fY f0 d1 step2 c8 pb) 1).bind fun jU=>match jU with | .inl p=>some p | .inr p=>F2.nS)
theorem F2.c(f0:ae)(d1:av 96 Int)(step2:Int)(c8:Int)(w:World)(r:Bool){bj:Option Addr}{bm:Nat}(bi:Nat)(dr:Rw w bj 2 ay f0.aa)(cE:f0.aa.length=bm){fZ qK:Nat}(dL:Rw w (some ⟨fZ,qK,none⟩) 1 aj d1.1)(aH:Nat)(fG:Mem w (bs [some aH]) [⟨some aH,29,cG f0 bj bm bi⟩] w)(fx:f0.aa≠ []→aB bj∉bs [some aH])(eL:d1.1≠ []→aB (some ⟨fZ,qK,none⟩)∉bs [some aH])(h:F2 f0 d1 step2 c8=some r):
   Cq 108 #[(vP aH),(.pointer (some ⟨fZ,qK,none⟩)),(vI step2),(vI c8)] w (.bool r) (bs [some aH]) [⟨some aH,29,cG f0 bj bm bi⟩]:=by
 subst cE
 rw [F2] at h
 refine eN Tryz.func108 rfl Tryz.ntmps108 fG (cT [0] (ad (cR [0,0,0] (bE h fun i_ mF h=>oQ 0 (fun w hm=>JN.c d1 step2 c8 w _ (hm.aM dL eL) mF) (eT (qi h (fun h=> ?_) (fun h=> ?_)))))))
 ·refine cT [0] (rX ?_)
  cases h
  exact qP [0]
 ·refine kT (cT [0,0,0,0,0,0] (cR [0,0,0,0,0] (bE h fun pb vJ h=>oX 0 bj 2 vJ rfl (dr.sp vJ) (qh [0] (oL 0 false (fun w hm=>(((hm.aM dr fx).at vJ).sub 1 1)) (qh [0,0] (eT (ad (cT [0] (aK (fun(_:Unit)=>F2.nS=some r) (fun(_:Unit)=> [(8,[],(.bool false))]) (fun(_:Unit)=> [⟨some aH,29,cF f0 bj bi⟩]) ?_ ?_))))))))))
  ·refine ap ?_
   obtain⟨jU,mH,Wz⟩:=bd h
   refine jl (fun(aR:Int) (_:Unit)=>True) (fun aR _=> [(1,[],(.pointer (some ⟨fZ,qK,none⟩))),(2,[],(vI step2)),(3,[],(vI c8)),(8,[],(.bool false)),(9,[],(vI (au f0.ag))),(10,[],(vI (au pb.fg))),(11,[],(vI aR))]) (fun aR _=> [⟨some aH,29,cF f0 bj bi⟩]) mH () trivial [0] ?_
   rintro aR _ y_9 _ h
   rw [F2.fY] at h
   refine ad (cT [0,0,0] (qi h (fun h=> ?_) (fun h=> ?_)))
   ·refine kT (ad (ap (ad (aK (fun(sb:Bool)=>F2.u6 aR sb=some y_9) (fun sb=> [(1,[],(.pointer (some ⟨fZ,qK,none⟩))),(2,[],(vI step2)),(3,[],(vI c8)),(8,[],(.bool false)),(9,[],(vI (au f0.ag))),(10,[],(vI (au pb.fg))),(11,[],(vI aR)),(54,[],(.bool sb))]) (fun sb=> [⟨some aH,29,cF f0 bj bi⟩]) ?_ ?_))))
    ·refine cH [0,0,0,0,0] ?_
     obtain⟨JA,h⟩:=gd h
     refine tO (pM 0 .i64 (au (step2+aR)) (au f0.ag) JA (oH [0] (bE h fun gu wG h=>oQ 0 (fun w hm=>JN.c d1 (Int.tmod (au (step2+aR)) (au f0.ag)) c8 w _ (hm.aM dL eL) wG) (qf [(0,0),(0,1),(0,1),(0,1),(0,1),(0,1),(0,1),(0,1)] (qp 43 h (fun h=> ?_) (fun h=> ?_))))))
     ·exact qf [(0,3),(0,3),(0,3),(0,4)] (qe (qm true h [0]))
     ·obtain⟨Dh,h⟩:=gd h
      exact tO (pM 2 .i64 (au ((au (step2+(au f0.ag)))-aR)) (au f0.ag) Dh (fB (qf [(0,2)] (bE h fun dz nx h=>oQ 2 (fun w hm=>JN.c d1 (Int.tmod (au ((au (step2+(au f0.ag)))-aR)) (au f0.ag)) c8 w _ (hm.aM dL eL) nx) (qf [(0,5)] (qe (qm dz h [0])))))))
    ·rintro sb h
     unfold F2.u6 at h
     refine aP (qi h (fun h=> ?_) (fun h=> ?_))
     ·refine cT [0] (aI (cg (aT (c_ (.inl false) (sj h) (fun aal=> ?_)))))
      subst aal
      refine cg (aT (aT ?_))
      obtain rfl:=si Wz
      exact qP [0]
     ·exact bV (nT (cH [0,0,0] (qe (qb (au (aR+1)) () h trivial [0]))))
   ·exact lX (.inr ()) h (fun e=>by subst e;exact bo (qm () Wz [0]))
  ·rintro _ h
   unfold F2.nS at h
   refine aP (cT [0] (aI ?_))
   cases h
   exact qP [0]
def F4.fk(a7:List Int):Option ((List Int)):=some a7
def F4.u6(aZ:List Int)(bB:Int)(xH:Bool):Option (((List Int)×Int)⊕((List Int))):=(if xH=true then(if aZ.length+([bB]:List Int).length≤4294967296 then some (.inl ((aZ++([bB]:List Int)),(au (bB+1)))) else none) else some (.inl (aZ,(au (bB+1)))))
def F4.fY(f0:ae)(d1:av 96 Int)(n2:ai):((List Int)×Int)→Option (((List Int)×Int)⊕((List Int)))
 | (aZ,bB)=>(if(decide (bB<(f0.aa.length:Int)))=true then(ix f0.aa bB).bind fun oj=>(if(oj.aD==n2.aD)=true then(F2 f0 d1 (au n2.cd) bB).bind fun lj=>F4.u6 aZ bB lj else F4.u6 aZ bB false) else some (.inr aZ))
def F4(f0:ae)(d1:av 96 Int)(n2:ai):Option ((List Int)):=(loop (F4.fY f0 d1 n2) (([]:List Int),0)).bind fun kn=>F4.fk kn
theorem F4.c(f0:ae)(d1:av 96 Int)(n2:ai)(w:World)(r:(List Int)){bj:Option Addr}{bm:Nat}(bi:Nat)(dr:Rw w bj 2 ay f0.aa)(cE:f0.aa.length=bm){fZ qK:Nat}(dL:Rw w (some ⟨fZ,qK,none⟩) 1 aj d1.1)(aH:Nat)(fG:Mem w (bs [some aH]) [⟨some aH,29,cG f0 bj bm bi⟩] w)(fx:f0.aa≠ []→aB bj∉bs [some aH])(eL:d1.1≠ []→aB (some ⟨fZ,qK,none⟩)∉bs [some aH])(h:F4 f0 d1 n2=some r):
   Cr 122 #[(vP aH),(.pointer (some ⟨fZ,qK,none⟩)),(.agg (aN n2))] w fun v w'=>∃(o0:Option Nat) (c0:Nat) (s0:List Value) (n0:Nat),r.length=n0∧(hS o0 n0 c0 s0 1)∧(hO o0 r c0)∧v= .slice (mB o0) n0 c0∧Mem w (bs [some aH]) [⟨some aH,29,cG f0 bj bm bi⟩,⟨o0,2,row aG r s0⟩] w':=by
 subst cE
 rw [F4] at h
 refine eN Tryz.func122 rfl Tryz.ntmps122 fG (ad (ao (oA 0 (fun fV=>qh [0] (eT (ad (ao (oA 0 (fun L1=>qh [0] (eT (ad (cT [0] (aK (fun(j:(List Int)×(Option Nat)×Nat×(List Value)×Nat)=>match j with | ⟨a7,kj,iy,vO,um⟩=>F4.fk a7=some r∧(a7.length=um)∧(hS kj um iy vO 1)∧(hO kj a7 iy)) (fun⟨a7,kj,iy,vO,um⟩=> [(6,[],(.slice none 0 0)),(7,[],(.slice (mB kj) um iy))]) (fun⟨a7,kj,iy,vO,um⟩=> [⟨some aH,29,cF f0 bj bi⟩,⟨some fV,70,cN n2⟩,⟨kj,2,row aG a7 vO⟩]) ?_ ?_)))))))))))))
 ·refine ap ?_
  obtain⟨kn,sa,acL⟩:=bd h
  refine jl (fun(s:(List Int)×Int) (x:(Option Nat)×Nat×(List Value)×Nat)=>match s,x with | ⟨aZ,bB⟩,⟨kM,l_,s9,A5⟩=>(aZ.length=A5)∧(hS kM A5 l_ s9 1)∧(hO kM aZ l_)) (fun⟨aZ,bB⟩ ⟨kM,l_,s9,A5⟩=> [(0,[],(vP aH)),(1,[],(.pointer (some ⟨fZ,qK,none⟩))),(5,[],(vP fV)),(6,[],(.slice none 0 0)),(7,[],(.slice (mB kM) A5 l_)),(8,[],(vI bB))]) (fun⟨aZ,bB⟩ ⟨kM,l_,s9,A5⟩=> [⟨some aH,29,cF f0 bj bi⟩,⟨some fV,70,cN n2⟩,⟨kM,2,row aG aZ s9⟩]) sa ⟨(some L1),0,[],0⟩ ⟨rfl,(fun _=>⟨bt _,by simp⟩),(fun e=>nomatch e)⟩ [0,1,2] ?_
  rintro⟨aZ,bB⟩ ⟨kM,l_,s9,A5⟩ WA ⟨rfl,Aa,wN⟩ h
  rw [F4.fY] at h
  refine ad (cT [0,0,0,0,0,0,0] (qi h (fun h=> ?_) (fun h=> ?_)))
  ·refine kT (ad (ap (ad (aK (fun(xH:Bool)=>F4.u6 aZ bB xH=some WA) (fun xH=> [(0,[],(vP aH)),(1,[],(.pointer (some ⟨fZ,qK,none⟩))),(5,[],(vP fV)),(6,[],(.slice none 0 0)),(7,[],(.slice (mB kM) aZ.length l_)),(8,[],(vI bB)),(38,[],(.bool xH))]) (fun xH=> [⟨some aH,29,cF f0 bj bi⟩,⟨some fV,70,cN n2⟩,⟨kM,2,row aG aZ s9⟩]) ?_ ?_))))
   ·refine qg [⟨some aH,29,cF f0 bj bi⟩,⟨some fV,70,cN n2⟩,⟨kM,2,row aG aZ s9⟩] 20 (qd [⟨0,0,0⟩,⟨1,0,0⟩,⟨2,0,0⟩,⟨3,0,0⟩,⟨4,0,0⟩,⟨8,0,0⟩,⟨9,1,0⟩] 13 [0,1,2] (bE h fun oj nb h=>qX 5 0 [0,1,2] bj 2 nb rfl (dr.sp nb) (qd [⟨6,0,0⟩] 11 [0,1,2] (qL 7 0 [0,1,2] false (fun w hm=>((hm.aM dr fx).at nb).sub 0 1) (qd [⟨10,0,0⟩,⟨11,0,0⟩,⟨12,0,1⟩,⟨13,0,1⟩,⟨14,0,1⟩,⟨15,1,1⟩,⟨16,0,1⟩,⟨17,0,1⟩] 2 [0,1,2] (js 30 (oj.aD==n2.aD) (fun RJ=> ?_) (fun RJ=> ?_)))))))
    ·replace h:=yi RJ h
     refine bE h fun lj ui h=>tD 18 (pc 2 (fun w hm=>F2.c f0 d1 (au n2.cd) bB w _ bi (hm.aM dr fx) rfl (hm.aM dL eL) aH (hm.ps [0]) (hm.xp dr fx [0]) (hm.xp dL eL [0]) ui) ?_)
     rintro w v w' hm ⟨rfl,bn⟩
     exact ⟨_,hm.aW [(0,⟨some aH,29,cF f0 bj bi⟩)] [] bn,kD [0,1,2] (qd [⟨19,0,4⟩] 0 [0,1,2] (qz (qm lj h [0,1,2])))⟩
    ·replace h:=yj RJ h
     exact qd [⟨18,0,3⟩,⟨19,0,5⟩] 0 [0,1,2] (qz (qm false h [0,1,2]))
   ·rintro xH h
    unfold F4.u6 at h
    refine aP (qi h (fun h=> ?_) (fun h=> ?_))
    ·refine cH [0,0] (oA 0 (fun RD=>?_))
     obtain⟨Dg,h⟩:=gd h
     exact tO (pA 0 2 kM 2 aZ.length 1 l_ 1 8 (sB RD) aG aZ ([bB]:List Int) s9 (vI 0) rfl rfl bf fT Aa wN (fun w hm=>(hm.ow 3 (some RD) 2 ([bB]:List Int) [] (fun e=>nomatch e) bf)) Dg (fun Pp j9 nV Ab se=>oH [0] (qe (nT (cH [0,0,0] (qe (qb ((aZ++([bB]:List Int)),(au (bB+1))) ⟨Pp,j9,nV,(aZ++([bB]:List Int)).length⟩ h ⟨rfl,Ab,se⟩ [0,1,2])))))))
    ·exact bV (nT (cH [0,0,0] (qe (qb (aZ,(au (bB+1))) ⟨kM,l_,s9,aZ.length⟩ h ⟨rfl,Aa,wN⟩ [0,1,2]))))
  ·exact lX aZ h (fun e=>by subst e;exact bo (qm ⟨aZ,kM,l_,s9,aZ.length⟩ ⟨acL,rfl,Aa,wN⟩ [0,1,2]))
 ·rintro⟨a7,kj,iy,vO,um⟩ ⟨h,rfl,Ac,wO⟩
  unfold F4.fk at h
  refine aP (cT [0,0] (aI ?_))
  obtain rfl:=si h
  exact qr [] (fun w hm=>⟨kj,iy,vO,a7.length,rfl,Ac,wO,rfl,hm.pk [0,2]⟩)
def VK(A7:Int):Option (Int):=(if 0≤(u64 A7) then some (fo .u32 1 (u64 A7)) else none)
theorem VK.c(A7:Int)(w:World)(r:Int)(h:VK A7=some r):
   Cq 123 #[(vI A7)] w (vU r) [] []:=by
 rw [VK] at h
 refine en Tryz.func123 rfl Tryz.ntmps123 (cT [0] (cR [0,0] ?_))
 obtain⟨ahv,h⟩:=gd h
 refine tO (pV 0 .u32 1 .u64 (u64 A7) ahv (oH [0] (eT (aI ?_))))
 cases h
 exact qP []
def Fk.vK(p0:bZ)(x6:av 96 Int)(yZ:Bool)(mi:Int)(fC:Int)(mU:Bool)(rc:av 96 Int)(y5:Bool)(Md:av 96 Int)(ka:Int):Option (Bool×bZ):=some (false,(⟨(⟨p0.eR.ag,p0.eR.aa⟩:ae),p0.kh,x6,yZ,mi,fC,mU,rc,y5,Md,ka⟩:bZ))
def Fk.mV(dn:bZ→Int→Int→Option (Bool×bZ))(p0:bZ)(i1:Int)(eW:ai)(rm:av 96 Int)(y7:Bool)(ew:Int)(dW:Int)(mz:Bool)(kf:av 96 Int)(qy:Bool)(ti:av 96 Int)(fR:Int)(gw:Int)(iI:Int)(oh:Int):Option (((av 96 Int)×Bool×Int×Int×Bool×(av 96 Int)×Bool×(av 96 Int)×Int×Int)⊕((Bool×bZ)⊕((av 96 Int)×Bool×Int×Int×Bool×(av 96 Int)×Bool×(av 96 Int)×Int))):=(if((y7&&qy)&&(decide (oh≥fR)))=true then some (.inl (rm,y7,ew,(au (dW+1)),mz,kf,qy,ti,fR,(au (gw+1)))) else(ix kf.1 eW.cd).bind fun wR=>(ix kf.1 eW.cd).bind fun ahw=>(dn (⟨(⟨p0.eR.ag,p0.eR.aa⟩:ae),p0.kh,rm,y7,ew,(au (dW+1)),mz,(av.set kf eW.cd (wC .u32 wR iI)),qy,ti,fR⟩:bZ) (au (i1+1)) oh).bind fun aA=>(if aA.1=true then some (.inr (.inl (true,(⟨(⟨p0.eR.ag,p0.eR.aa⟩:ae),p0.kh,aA.2.fold,aA.2.nv,aA.2.bA,aA.2.eD,aA.2.ez,aA.2.jx,aA.2.c7,aA.2.bp,aA.2.d_⟩:bZ)))) else(ix aA.2.jx.1 eW.cd).bind fun uo=>(ix aA.2.jx.1 eW.cd).bind fun ahx=>some (.inl (aA.2.fold,aA.2.nv,aA.2.bA,aA.2.eD,aA.2.ez,(av.set aA.2.jx eW.cd (kl .u32 uo iI)),aA.2.c7,aA.2.bp,aA.2.d_,(au (gw+1))))))
def Fk.s6(dn:bZ→Int→Int→Option (Bool×bZ))(p0:bZ)(i1:Int)(ma:Int)(eW:ai)(jo:(List Int)):((av 96 Int)×Bool×Int×Int×Bool×(av 96 Int)×Bool×(av 96 Int)×Int×Int)→Option (((av 96 Int)×Bool×Int×Int×Bool×(av 96 Int)×Bool×(av 96 Int)×Int×Int)⊕((Bool×bZ)⊕((av 96 Int)×Bool×Int×Int×Bool×(av 96 Int)×Bool×(av 96 Int)×Int)))
 | (rm,y7,ew,dW,mz,kf,qy,ti,fR,gw)=>(if(decide (gw<(jo.length:Int)))=true then(if(dW==ew)=true then some (.inr (.inl (true,(⟨(⟨p0.eR.ag,p0.eR.aa⟩:ae),p0.kh,rm,y7,ew,dW,true,kf,qy,ti,fR⟩:bZ)))) else(ix jo gw).bind fun y8=>(VK y8).bind fun iI=>(ix rm.1 eW.cd).bind fun Pt=>(if((qH .u32 Pt iI)==0)=true then Fk.mV dn p0 i1 eW rm y7 ew dW mz kf qy ti fR gw iI (au (ma+1)) else Fk.mV dn p0 i1 eW rm y7 ew dW mz kf qy ti fR gw iI ma)) else some (.inr (.inr (rm,y7,ew,dW,mz,kf,qy,ti,fR))))
def Fk.step(dn:bZ→Int→Int→Option (Bool×bZ))(p0:bZ)(i1:Int)(ma:Int):Option (Bool×bZ):=(if(i1==(p0.kh.length:Int))=true then some ((!p0.nv),(⟨(⟨p0.eR.ag,p0.eR.aa⟩:ae),p0.kh,p0.fold,p0.nv,p0.bA,p0.eD,p0.ez,p0.jx,true,p0.jx,ma⟩:bZ)) else(ix p0.kh i1).bind fun eW=>(F4 (⟨p0.eR.ag,p0.eR.aa⟩:ae) p0.jx eW).bind fun jo=>(loop (Fk.s6 dn p0 i1 ma eW jo) (p0.fold,p0.nv,p0.bA,p0.eD,p0.ez,p0.jx,p0.c7,p0.bp,p0.d_,0)).bind fun mj=>match mj with | .inl p=>some p | .inr p=>Fk.vK p0 p.1 p.2.1 p.2.2.1 p.2.2.2.1 p.2.2.2.2.1 p.2.2.2.2.2.1 p.2.2.2.2.2.2.1 p.2.2.2.2.2.2.2.1 p.2.2.2.2.2.2.2.2)
def Fk.fW:Nat→bZ→Int→Int→Option (Bool×bZ)
 | 0=>fun p0 i1 ma=>none
 | fu+1=>Fk.step (Fk.fW fu)
def Fk(p0:bZ)(i1:Int)(ma:Int):Option (Bool×bZ):=Fk.fW 200 p0 i1 ma
set_option maxHeartbeats 8000000 in
theorem Fk.iS(dn:bZ→Int→Int→Option (Bool×bZ))(qN:∀(p0:bZ) (i1:Int) (ma:Int) (w:World) (r:Bool×bZ) {bL:Option Addr} {bG:Nat} (bQ:Nat) (dL:Rw w bL 2 ay p0.eR.aa) (dU:p0.eR.aa.length=bG) {dI:Option Addr} {db:Nat} (eA:Nat) (g_:Rw w dI 2 aF p0.kh) (ga:p0.kh.length=db) (aH:Nat) (eG:Nat) (fG:Mem w (bs [some aH,some eG]) [⟨some aH,118,((vP eG)::(.slice dI db eA)::(iC (Value.int .u32) 96 p0.fold.1 ((.bool p0.nv)::(vI p0.bA)::(vI p0.eD)::(.bool p0.ez)::(iC (Value.int .u32) 96 p0.jx.1 ((.bool p0.c7)::(iC (Value.int .u32) 96 p0.bp.1 [(vI p0.d_)]))))))⟩,⟨some eG,29,cG p0.eR bL bG bQ⟩] w) (eL:p0.eR.aa≠ []→aB bL∉bs [some aH,some eG]) (gT:p0.kh≠ []→aB dI∉bs [some aH,some eG]) (h:dn p0 i1 ma=some r),
   Calls Tryz.prog 63 #[(vP aH),(vI i1),(vI ma)] w fun e w'=>∃v,e= .returned v∧(v=(.bool r.1)∧Mem w (bs [some aH,some eG]) [⟨some aH,118,((vP eG)::(.slice dI db eA)::(iC (Value.int .u32) 96 r.2.fold.1 ((.bool r.2.nv)::(vI r.2.bA)::(vI r.2.eD)::(.bool r.2.ez)::(iC (Value.int .u32) 96 r.2.jx.1 ((.bool r.2.c7)::(iC (Value.int .u32) 96 r.2.bp.1 [(vI r.2.d_)]))))))⟩,⟨some eG,29,cG p0.eR bL bG bQ⟩] w')) (p0:bZ) (i1:Int) (ma:Int) (w:World) (r:Bool×bZ) {bL:Option Addr} {bG:Nat} (bQ:Nat) (dL:Rw w bL 2 ay p0.eR.aa) (dU:p0.eR.aa.length=bG) {dI:Option Addr} {db:Nat} (eA:Nat) (g_:Rw w dI 2 aF p0.kh) (ga:p0.kh.length=db) (aH:Nat) (eG:Nat) (fG:Mem w (bs [some aH,some eG]) [⟨some aH,118,((vP eG)::(.slice dI db eA)::(iC (Value.int .u32) 96 p0.fold.1 ((.bool p0.nv)::(vI p0.bA)::(vI p0.eD)::(.bool p0.ez)::(iC (Value.int .u32) 96 p0.jx.1 ((.bool p0.c7)::(iC (Value.int .u32) 96 p0.bp.1 [(vI p0.d_)]))))))⟩,⟨some eG,29,cG p0.eR bL bG bQ⟩] w) (eL:p0.eR.aa≠ []→aB bL∉bs [some aH,some eG]) (gT:p0.kh≠ []→aB dI∉bs [some aH,some eG]) (h:Fk.step dn p0 i1 ma=some r):
   Cq 63 #[(vP aH),(vI i1),(vI ma)] w (.bool r.1) (bs [some aH,some eG]) [⟨some aH,118,((vP eG)::(.slice dI db eA)::(iC (Value.int .u32) 96 r.2.fold.1 ((.bool r.2.nv)::(vI r.2.bA)::(vI r.2.eD)::(.bool r.2.ez)::(iC (Value.int .u32) 96 r.2.jx.1 ((.bool r.2.c7)::(iC (Value.int .u32) 96 r.2.bp.1 [(vI r.2.d_)]))))))⟩,⟨some eG,29,cG p0.eR bL bG bQ⟩]:=by
 subst dU ga
 rw [Fk.step] at h
 refine eN Tryz.func63 rfl Tryz.ntmps63 fG (cT [0] (ad (cT [0,0,0,0,0,0,0] (qi h (fun h=> ?_) (fun h=> ?_)))))
 ·refine cR [0,0,0] (oS 0 [0] (eT (cR [0,0,0,0] (tO (acC 0 0 aH 102 (Value.int .u32) (bh:=aj) (fun _=>rfl) p0.jx (oH [0,0] (tO (Yw 0 0 aH 199 (Value.int .u32) (bh:=aj) (fun _=>rfl) bk p0.bp p0.jx (fB (eT (cR [0,0,0,0] (oS 0 [0] (eT (cT [0,0,0,0,0,0] (rX ?_)))))))))))))))
  cases h
  exact qP [0,1]
 ·refine kT (cR [0,0,0,0,0] (bE h fun eW lG h=>oX 0 dI 2 lG rfl (g_.sp lG) (oL 0 true (fun w hm=>((hm.aM g_ gT).at lG)) (oA 0 (fun pR=>oS 0 [2] (eT (ad (qg [⟨some aH,118,((vP eG)::(.slice dI p0.kh.length eA)::(iC (Value.int .u32) 96 p0.fold.1 ((.bool p0.nv)::(vI p0.bA)::(vI p0.eD)::(.bool p0.ez)::(iC (Value.int .u32) 96 p0.jx.1 ((.bool p0.c7)::(iC (Value.int .u32) 96 p0.bp.1 [(vI p0.d_)]))))))⟩,⟨some eG,29,cF p0.eR bL bQ⟩,⟨some pR,70,cN eW⟩] 10 (qd [⟨0,0,0⟩,⟨1,0,0⟩,⟨2,0,0⟩,⟨3,0,0⟩,⟨4,0,0⟩,⟨5,0,0⟩,⟨6,0,0⟩,⟨7,2,0⟩] 2 [0,1,2] (bE h fun jo qJ h=>tD 8 (pc 0 (fun w hm=>F4.c (⟨p0.eR.ag,p0.eR.aa⟩:ae) p0.jx eW w _ bQ (hm.aM dL eL) rfl (hm.A0 0 aH 102 (Value.int .u32) (bh:=aj) (fun _=>rfl) p0.jx) eG (hm.ps [1]) (hm.xp dL eL [1]) (hm.Rs 0 aH 102 [1]) qJ) ?_)))))))))))
  rintro w v w' hm ⟨jc,jg,dK,_,rfl,JE,C_,rfl,bn⟩
  refine ⟨_,hm.aW [(1,⟨some eG,29,cF p0.eR bL bQ⟩)] [⟨jc,2,row aG jo dK⟩] bn,kD [0,1,2] (qd [⟨9,0,0⟩] 0 [0,1,2] (zT (ad (cT [0] (aK (fun(j:(av 96 Int)×Bool×Int×Int×Bool×(av 96 Int)×Bool×(av 96 Int)×Int)=>match j with | ⟨x6,yZ,mi,fC,mU,rc,y5,Md,ka⟩=>Fk.vK p0 x6 yZ mi fC mU rc y5 Md ka=some r) (fun⟨x6,yZ,mi,fC,mU,rc,y5,Md,ka⟩=> [(6,[],(.bool false))]) (fun⟨x6,yZ,mi,fC,mU,rc,y5,Md,ka⟩=> [⟨some aH,118,((vP eG)::(.slice dI p0.kh.length eA)::(iC (Value.int .u32) 96 x6.1 ((.bool yZ)::(vI mi)::(vI fC)::(.bool mU)::(iC (Value.int .u32) 96 rc.1 ((.bool y5)::(iC (Value.int .u32) 96 Md.1 [(vI ka)]))))))⟩,⟨some eG,29,cF p0.eR bL bQ⟩,⟨some pR,70,cN eW⟩,⟨jc,2,row aG jo dK⟩]) ?_ ?_)))))⟩
  ·refine ap ?_
   obtain⟨mj,qO,Dp⟩:=bd h
   refine jl (fun(s:(av 96 Int)×Bool×Int×Int×Bool×(av 96 Int)×Bool×(av 96 Int)×Int×Int) (x:Unit)=>match s,x with | ⟨rm,y7,ew,dW,mz,kf,qy,ti,fR,gw⟩,_=>True) (fun⟨rm,y7,ew,dW,mz,kf,qy,ti,fR,gw⟩ _=> [(0,[],(vP aH)),(1,[],(vI i1)),(2,[],(vI ma)),(6,[],(.bool false)),(7,[],(vP pR)),(8,[],(.slice (mB jc) jo.length jg)),(9,[],(vI gw))]) (fun⟨rm,y7,ew,dW,mz,kf,qy,ti,fR,gw⟩ _=> [⟨some aH,118,((vP eG)::(.slice dI p0.kh.length eA)::(iC (Value.int .u32) 96 rm.1 ((.bool y7)::(vI ew)::(vI dW)::(.bool mz)::(iC (Value.int .u32) 96 kf.1 ((.bool qy)::(iC (Value.int .u32) 96 ti.1 [(vI fR)]))))))⟩,⟨some eG,29,cF p0.eR bL bQ⟩,⟨some pR,70,cN eW⟩,⟨jc,2,row aG jo dK⟩]) qO () trivial [0,1,2,3] ?_
   rintro⟨rm,y7,ew,dW,mz,kf,qy,ti,fR,gw⟩ _ aam _ h
   rw [Fk.s6] at h
   refine ad (cT [0,0,0,0] (qi h (fun h=> ?_) (fun h=> ?_)))
   ·refine kT (ad (ap (s2 (qg [⟨some aH,118,((vP eG)::(.slice dI p0.kh.length eA)::(iC (Value.int .u32) 96 rm.1 ((.bool y7)::(vI ew)::(vI dW)::(.bool mz)::(iC (Value.int .u32) 96 kf.1 ((.bool qy)::(iC (Value.int .u32) 96 ti.1 [(vI fR)]))))))⟩,⟨some eG,29,cF p0.eR bL bQ⟩,⟨some pR,70,cN eW⟩,⟨jc,2,row aG jo dK⟩] 9 (qd [⟨0,0,0⟩,⟨1,0,0⟩,⟨2,0,0⟩,⟨3,0,0⟩,⟨4,0,0⟩,⟨5,0,0⟩,⟨6,0,0⟩,⟨7,0,0⟩,⟨8,0,0⟩] 0 [0,1,2,3] (zT (qi h (fun h=> ?_) (fun h=> ?_))))))))
    ·refine cR [0,0,0] (oS 0 [0] (eT (cT [0] (rX (cg (aT (c_ (.inl (true,(⟨(⟨p0.eR.ag,p0.eR.aa⟩:ae),p0.kh,rm,y7,ew,dW,true,kf,qy,ti,fR⟩:bZ))) (sj h) (fun ahy=> ?_))))))))
     subst ahy
     refine cg (aT (aT ?_))
     obtain rfl:=si Dp
     exact qP [0,1]
    ·refine kT (cR [0,0,0,0,0,0,0] (oS 0 [0] (eT (cR [0,0] (bE h fun y8 sh h=>oX 0 (mB jc) 1 sh rfl (nl C_ sh) (oL 0 false (aX 3 jc 2 jo dK C_ bf sh) (bE h fun iI oT h=>oQ 0 (fun w hm=>VK.c y8 w _ oT) (qh [0] (eT (cT [0,0] (ad (aK (fun(oh:Int)=>Fk.mV dn p0 i1 eW rm y7 ew dW mz kf qy ti fR gw iI oh=some aam) (fun oh=> [(0,[],(vP aH)),(1,[],(vI i1)),(2,[],(vI ma)),(6,[],(.bool false)),(7,[],(vP pR)),(8,[],(.slice (mB jc) jo.length jg)),(9,[],(vI gw)),(10,[],(vU iI)),(11,[],(vI oh))]) (fun oh=> [⟨some aH,118,((vP eG)::(.slice dI p0.kh.length eA)::(iC (Value.int .u32) 96 rm.1 ((.bool y7)::(vI ew)::(vI (au (dW+1)))::(.bool mz)::(iC (Value.int .u32) 96 kf.1 ((.bool qy)::(iC (Value.int .u32) 96 ti.1 [(vI fR)]))))))⟩,⟨some eG,29,cF p0.eR bL bQ⟩,⟨some pR,70,cN eW⟩,⟨jc,2,row aG jo dK⟩]) ?_ ?_))))))))))))
     ·refine ad (qg [⟨some aH,118,((vP eG)::(.slice dI p0.kh.length eA)::(iC (Value.int .u32) 96 rm.1 ((.bool y7)::(vI ew)::(vI (au (dW+1)))::(.bool mz)::(iC (Value.int .u32) 96 kf.1 ((.bool qy)::(iC (Value.int .u32) 96 ti.1 [(vI fR)]))))))⟩,⟨some eG,29,cF p0.eR bL bQ⟩,⟨some pR,70,cN eW⟩,⟨jc,2,row aG jo dK⟩] 10 (qd [⟨0,0,0⟩,⟨1,0,0⟩,⟨2,2,0⟩,⟨3,0,0⟩,⟨4,0,0⟩,⟨7,0,0⟩] 4 [0,1,2,3] (bE h fun Pt GY h=>qX 5 0 [0,1,2,3] (some ⟨aH,2,none⟩) 1 GY rm.2 rfl (qL 6 0 [0,1,2,3] false (fun w hm=>(hm.A0 0 aH 2 (Value.int .u32) (bh:=aj) (fun _=>rfl) rm).at GY) (qd [⟨8,0,0⟩,⟨9,0,0⟩] 0 [0,1,2,3] (zT (qi h (fun h=> ?_) (fun h=> ?_))))))))
      ·exact cH [0,0,0] (qe (qm (au (ma+1)) h [0,1,2,3]))
      ·exact bV (qm ma h [0,1,2,3])
     ·rintro oh h
      unfold Fk.mV at h
      refine aP (s2 (ao (qf [(0,0),(0,0),(0,0),(0,0),(0,0),(0,1),(0,1),(0,1),(0,1),(0,0),(0,0),(0,1),(0,1),(0,1),(0,1),(0,1),(0,1),(0,0)] (eT (qi h (fun h=> ?_) (fun h=> ?_))))))
      ·exact lP (ib (bo (aP (cH [0,0,0] (qe (qb (rm,y7,ew,(au (dW+1)),mz,kf,qy,ti,fR,(au (gw+1))) () h trivial [0,1,2,3]))))))
      ·refine kT (ad (qg [⟨some eG,29,cF p0.eR bL bQ⟩,⟨some pR,70,cN eW⟩,⟨jc,2,row aG jo dK⟩] 13 (qd [⟨0,0,0⟩,⟨1,0,0⟩,⟨2,1,0⟩,⟨3,0,0⟩,⟨4,0,0⟩,⟨7,0,0⟩,⟨9,0,0⟩,⟨10,0,0⟩] 5 [1,2,3] (bE h fun wR tj h=>qX 5 0 [1,2,3] (some ⟨aH,102,none⟩) 1 tj kf.2 rfl (tD 6 (ql 0 false (fun w hm=>((hm.A0 0 aH 102 (Value.int .u32) (bh:=aj) (fun _=>rfl) kf).at tj)) (kD [1,2,3] (qd [⟨8,0,0⟩] 2 [1,2,3] (bE h fun ahw GZ h=>qX 11 0 [1,2,3] (some ⟨aH,102,none⟩) 1 GZ kf.2 rfl (tD 12 (Yx 0 0 aH 102 (Value.int .u32) (bh:=aj) (fun _=>rfl) kf eW.cd (wC .u32 wR iI) GZ (kD [1,2,3] (zT (ad (cR [0,0,0,0] (bE h fun aA sg h=>oC 0 (fun w hm=>qN (⟨(⟨p0.eR.ag,p0.eR.aa⟩:ae),p0.kh,rm,y7,ew,(au (dW+1)),mz,(av.set kf eW.cd (wC .u32 wR iI)),qy,ti,fR⟩:bZ) (au (i1+1)) oh w _ bQ (hm.aM dL eL) rfl eA (hm.aM g_ gT) rfl aH eG (hm.ps (N:= [⟨some aH,118,((vP eG)::(.slice dI p0.kh.length eA)::(iC (Value.int .u32) 96 rm.1 ((.bool y7)::(vI ew)::(vI (au (dW+1)))::(.bool mz)::(iC (Value.int .u32) 96 (av.set kf eW.cd (wC .u32 wR iI)).1 ((.bool qy)::(iC (Value.int .u32) 96 ti.1 [(vI fR)]))))))⟩,⟨some eG,29,cF p0.eR bL bQ⟩]) [0,1]) (hm.xp dL eL [0,1]) (hm.xp g_ gT [0,1]) sg) ?_))))))))))))))))
       rintro w v w' hm ⟨rfl,bn⟩
       refine ⟨_,hm.aW [(0,⟨some aH,118,((vP eG)::(.slice dI p0.kh.length eA)::(iC (Value.int .u32) 96 aA.2.fold.1 ((.bool aA.2.nv)::(vI aA.2.bA)::(vI aA.2.eD)::(.bool aA.2.ez)::(iC (Value.int .u32) 96 aA.2.jx.1 ((.bool aA.2.c7)::(iC (Value.int .u32) 96 aA.2.bp.1 [(vI aA.2.d_)]))))))⟩),(1,⟨some eG,29,cF p0.eR bL bQ⟩)] [] bn,fB (eT (qi h (fun h=> ?_) (fun h=> ?_)))⟩
       ·refine cT [0] (rX (cg (aT (c_ (.inl (true,(⟨(⟨p0.eR.ag,p0.eR.aa⟩:ae),p0.kh,aA.2.fold,aA.2.nv,aA.2.bA,aA.2.eD,aA.2.ez,aA.2.jx,aA.2.c7,aA.2.bp,aA.2.d_⟩:bZ))) (sj h) (fun ahz=> ?_)))))
        subst ahz
        refine cg (aT (aT ?_))
        obtain rfl:=si Dp
        exact qP [0,1]
       ·exact kT (qg [⟨some eG,29,cF p0.eR bL bQ⟩,⟨some pR,70,cN eW⟩,⟨jc,2,row aG jo dK⟩] 13 (qd [⟨0,0,0⟩,⟨1,0,0⟩,⟨2,1,0⟩,⟨3,0,0⟩,⟨4,0,0⟩,⟨7,0,0⟩,⟨9,0,0⟩,⟨10,0,0⟩] 5 [1,2,3] (bE h fun uo sk h=>qX 5 0 [1,2,3] (some ⟨aH,102,none⟩) 1 sk aA.2.jx.2 rfl (tD 6 (ql 0 false (fun w hm=>((hm.A0 0 aH 102 (Value.int .u32) (bh:=aj) (fun _=>rfl) aA.2.jx).at sk)) (kD [1,2,3] (qd [⟨8,0,0⟩] 2 [1,2,3] (bE h fun ahx Dq h=>qX 11 0 [1,2,3] (some ⟨aH,102,none⟩) 1 Dq aA.2.jx.2 rfl (tD 12 (Yx 0 0 aH 102 (Value.int .u32) (bh:=aj) (fun _=>rfl) aA.2.jx eW.cd (kl .u32 uo iI) Dq (kD [1,2,3] (qz (nT (cH [0,0,0] (qe (qb (aA.2.fold,aA.2.nv,aA.2.bA,aA.2.eD,aA.2.ez,(av.set aA.2.jx eW.cd (kl .u32 uo iI)),aA.2.c7,aA.2.bp,aA.2.d_,(au (gw+1))) () h trivial [0,1,2,3]))))))))))))))))
   ·exact lX (.inr (rm,y7,ew,dW,mz,kf,qy,ti,fR)) h (fun e=>by subst e;exact bo (qm ⟨rm,y7,ew,dW,mz,kf,qy,ti,fR⟩ Dp [0,1,2,3]))
  ·rintro⟨x6,yZ,mi,fC,mU,rc,y5,Md,ka⟩ h
   unfold Fk.vK at h
   refine aP (cT [0] (aI ?_))
   cases h
   exact qP [0,1]
theorem Fk.jW(fu:Nat):∀(p0:bZ) (i1:Int) (ma:Int) (w:World) (r:Bool×bZ) {bL:Option Addr} {bG:Nat} (bQ:Nat) (dL:Rw w bL 2 ay p0.eR.aa) (dU:p0.eR.aa.length=bG) {dI:Option Addr} {db:Nat} (eA:Nat) (g_:Rw w dI 2 aF p0.kh) (ga:p0.kh.length=db) (aH:Nat) (eG:Nat) (fG:Mem w (bs [some aH,some eG]) [⟨some aH,118,((vP eG)::(.slice dI db eA)::(iC (Value.int .u32) 96 p0.fold.1 ((.bool p0.nv)::(vI p0.bA)::(vI p0.eD)::(.bool p0.ez)::(iC (Value.int .u32) 96 p0.jx.1 ((.bool p0.c7)::(iC (Value.int .u32) 96 p0.bp.1 [(vI p0.d_)]))))))⟩,⟨some eG,29,cG p0.eR bL bG bQ⟩] w) (eL:p0.eR.aa≠ []→aB bL∉bs [some aH,some eG]) (gT:p0.kh≠ []→aB dI∉bs [some aH,some eG]) (h:Fk.fW fu p0 i1 ma=some r),
   Cq 63 #[(vP aH),(vI i1),(vI ma)] w (.bool r.1) (bs [some aH,some eG]) [⟨some aH,118,((vP eG)::(.slice dI db eA)::(iC (Value.int .u32) 96 r.2.fold.1 ((.bool r.2.nv)::(vI r.2.bA)::(vI r.2.eD)::(.bool r.2.ez)::(iC (Value.int .u32) 96 r.2.jx.1 ((.bool r.2.c7)::(iC (Value.int .u32) 96 r.2.bp.1 [(vI r.2.d_)]))))))⟩,⟨some eG,29,cG p0.eR bL bG bQ⟩]:=by
 induction fu with
 | zero=>intros;rename_i h;cases h
 | succ fu ih=>exact @Fk.iS _ (Fk.fW fu) @ih
theorem Fk.c(p0:bZ)(i1:Int)(ma:Int)(w:World)(r:Bool×bZ){bL:Option Addr}{bG:Nat}(bQ:Nat)(dL:Rw w bL 2 ay p0.eR.aa)(dU:p0.eR.aa.length=bG){dI:Option Addr}{db:Nat}(eA:Nat)(g_:Rw w dI 2 aF p0.kh)(ga:p0.kh.length=db)(aH:Nat)(eG:Nat)(fG:Mem w (bs [some aH,some eG]) [⟨some aH,118,((vP eG)::(.slice dI db eA)::(iC (Value.int .u32) 96 p0.fold.1 ((.bool p0.nv)::(vI p0.bA)::(vI p0.eD)::(.bool p0.ez)::(iC (Value.int .u32) 96 p0.jx.1 ((.bool p0.c7)::(iC (Value.int .u32) 96 p0.bp.1 [(vI p0.d_)]))))))⟩,⟨some eG,29,cG p0.eR bL bG bQ⟩] w)(eL:p0.eR.aa≠ []→aB bL∉bs [some aH,some eG])(gT:p0.kh≠ []→aB dI∉bs [some aH,some eG])(h:Fk p0 i1 ma=some r):
   Calls Tryz.prog 63 #[(vP aH),(vI i1),(vI ma)] w fun e w'=>∃v,e= .returned v∧(v=(.bool r.1)∧Mem w (bs [some aH,some eG]) [⟨some aH,118,((vP eG)::(.slice dI db eA)::(iC (Value.int .u32) 96 r.2.fold.1 ((.bool r.2.nv)::(vI r.2.bA)::(vI r.2.eD)::(.bool r.2.ez)::(iC (Value.int .u32) 96 r.2.jx.1 ((.bool r.2.c7)::(iC (Value.int .u32) 96 r.2.bp.1 [(vI r.2.d_)]))))))⟩,⟨some eG,29,cG p0.eR bL bG bQ⟩] w'):=
 Fk.jW 200 p0 i1 ma w r bQ dL dU eA g_ ga aH eG fG eL gT h
def LB.nS(f0:ae)(ny:av 96 Int)(t2:List ai)(cO:Int)(bB:Int):Option ((av 96 Int)×Int×Int×Int):=(if(bB !=0)=true then some ((av.dC 96 0),0,0,bB) else(Fk (⟨f0,t2,ny,true,cO,0,false,(av.dC 96 0),false,(av.dC 96 0),0⟩:bZ) 0 0).bind fun aA=>(if aA.2.ez=true then some ((av.dC 96 0),0,0,7) else(if(!aA.2.c7)=true then some ((av.dC 96 0),0,0,6) else some (aA.2.bp,aA.2.d_,aA.2.eD,0))))
def LB(f0:ae)(ny:av 96 Int)(t2:List ai)(cO:Int):Option ((av 96 Int)×Int×Int×Int):=(F9 f0 t2 ny).bind fun dj=>(if(dj==0)=true then(Dn f0 t2 cO).bind fun gu=>LB.nS f0 ny t2 cO gu else LB.nS f0 ny t2 cO dj)
theorem LB.c(f0:ae)(ny:av 96 Int)(t2:List ai)(cO:Int)(w:World)(r:(av 96 Int)×Int×Int×Int){bj:Option Addr}{bm:Nat}(bi:Nat)(dr:Rw w bj 2 ay f0.aa)(cE:f0.aa.length=bm){dI:Option Addr}{db:Nat}(eA:Nat)(g_:Rw w dI 2 aF t2)(ga:t2.length=db)(h:LB f0 ny t2 cO=some r):
   Cr 29 #[(.agg #[(vH f0.ag),(.slice bj bm bi)]),(.agg (row aj ny.1 []).toArray),(.slice dI db eA),(vI cO)] w fun v w'=>v= .tuple #[(.agg (row aj r.1.1 []).toArray),(vI r.2.1),(vI r.2.2.1),(vI r.2.2.2)]∧Mem w [] [] w':=by
 subst cE ga
 rw [LB] at h
 refine en Tryz.func29 rfl Tryz.ntmps29 (ad (ao (oA 0 (fun fV=>oA 0 (fun fa=>oA 0 (fun gC=>qh [0,0,0] (eT (cR [0] (bE h fun dj gv h=>oC 0 (fun w hm=>F9.c f0 t2 ny w _ bi (hm.xr dr) rfl eA (hm.xr g_) rfl (hm.ow 1 (some fa) 36 ny.1 [] (fun e=>nomatch e) an) fV (hm.ps [0]) (hm.xp dr (fun _=>cq) [0]) (hm.xp g_ (fun _=>cq) [0]) (hm.oa 1 (some fa) (fun e=>nomatch e) [0]) gv) ?_)))))))))
 rintro w v w' hm ⟨rfl,bn⟩
 refine ⟨_,hm.aW [(0,⟨some fV,29,cF f0 bj bi⟩)] [] bn,oH [0] (eT (ad (aK (fun(bB:Int)=>LB.nS f0 ny t2 cO bB=some r) (fun bB=> [(2,[],(.slice dI t2.length eA)),(3,[],(vI cO)),(4,[],(vP fV)),(5,[],(vP fa)),(8,[],(vP gC)),(9,[],(vI 0)),(10,[],(vI 0)),(11,[],(vI 0)),(12,[],(vI bB))]) (fun bB=> [⟨some fV,29,cF f0 bj bi⟩,⟨(some fa),36,row aj ny.1 []⟩,⟨(some gC),36,row aj ((av.dC 96 0).1) []⟩]) ?_ ?_)))⟩
 ·refine cT [0,0] (qi h (fun h=> ?_) (fun h=> ?_))
  ·refine cH [0,0] (bE h fun gu km h=>oC 0 (fun w hm=>Dn.c f0 t2 cO w _ bi (hm.xr dr) rfl eA (hm.xr g_) rfl fV (hm.ps [0]) (hm.xp dr (fun _=>cq) [0]) (hm.xp g_ (fun _=>cq) [0]) km) ?_)
   rintro w v w' hm ⟨rfl,bn⟩
   exact ⟨_,hm.aW [(0,⟨some fV,29,cF f0 bj bi⟩)] [] bn,oH [0] (qe (qm gu h [0,1,2]))⟩
  ·exact bV (qm dj h [0,1,2])
 ·rintro bB h
  unfold LB.nS at h
  refine aP (ad (cT [0,0] (qi h (fun h=> ?_) (fun h=> ?_))))
  ·refine cR [0,0] (tO (pS 0 2 gC 96 1 36 aj (av.dC 96 0) (av.dC 96 0) an bk (oH [0,0,0] (eT (rX ?_)))))
   obtain rfl:=si h
   exact gH rfl (ra (b:=gC) (T':=36) (hh:=2) (mm:=1) aj (av.dC 96 0) an (rt (rt (rt iP)))) (fun w hm=>⟨rfl,hm.pk []⟩)
  ·refine kT (cR [0] (tO (pL 0 1 fa 96 1 36 aj ny an (oH [0] (N7 26 96 (Value.int .u32) (bh:=aj) (fun _=>rfl) ny (qh [0] (oA 0 (fun gx=>qh [0] (eT (cR [0] (bE h fun aA iR h=>oC 0 (fun w hm=>Fk.c (⟨f0,t2,ny,true,cO,0,false,(av.dC 96 0),false,(av.dC 96 0),0⟩:bZ) 0 0 w _ bi (hm.xr dr) rfl eA (hm.xr g_) rfl gx fV (hm.ps [3,0]) (hm.xp dr (fun _=>cq) [3,0]) (hm.xp g_ (fun _=>cq) [3,0]) iR) ?_)))))))))))
   rintro w v w' hm ⟨rfl,bn⟩
   refine ⟨_,hm.aW [(3,⟨some gx,118,((vP fV)::(.slice dI t2.length eA)::(iC (Value.int .u32) 96 aA.2.fold.1 ((.bool aA.2.nv)::(vI aA.2.bA)::(vI aA.2.eD)::(.bool aA.2.ez)::(iC (Value.int .u32) 96 aA.2.jx.1 ((.bool aA.2.c7)::(iC (Value.int .u32) 96 aA.2.bp.1 [(vI aA.2.d_)]))))))⟩),(0,⟨some fV,29,cF f0 bj bi⟩)] [] bn,fB (eT (ad (cT [0,0,0,3] (qi h (fun h=> ?_) (fun h=> ?_)))))⟩
   ·refine cR [0] (tO (pS 0 2 gC 96 1 36 aj (av.dC 96 0) (av.dC 96 0) an bk (oH [0,0,0] (eT (rX ?_)))))
    obtain rfl:=si h
    exact gH rfl (ra (b:=gC) (T':=36) (hh:=2) (mm:=1) aj (av.dC 96 0) an (rt (rt (rt iP)))) (fun w hm=>⟨rfl,hm.pk []⟩)
   ·refine kT (ad (cT [0,0,0,3,0] (qi h (fun h=> ?_) (fun h=> ?_))))
    ·refine cR [0] (tO (pS 0 2 gC 96 1 36 aj (av.dC 96 0) (av.dC 96 0) an bk (oH [0,0,0] (eT (rX ?_)))))
     obtain rfl:=si h
     exact gH rfl (ra (b:=gC) (T':=36) (hh:=2) (mm:=1) aj (av.dC 96 0) an (rt (rt (rt iP)))) (fun w hm=>⟨rfl,hm.pk []⟩)
    ·refine kT (ad (qg [⟨some fV,29,cF f0 bj bi⟩,⟨(some fa),36,row aj ny.1 []⟩,⟨some gx,118,((vP fV)::(.slice dI t2.length eA)::(iC (Value.int .u32) 96 aA.2.fold.1 ((.bool aA.2.nv)::(vI aA.2.bA)::(vI aA.2.eD)::(.bool aA.2.ez)::(iC (Value.int .u32) 96 aA.2.jx.1 ((.bool aA.2.c7)::(iC (Value.int .u32) 96 aA.2.bp.1 [(vI aA.2.d_)]))))))⟩] 16 (qd [⟨0,0,0⟩,⟨1,0,0⟩,⟨2,0,0⟩,⟨4,0,0⟩,⟨5,0,0⟩,⟨6,0,0⟩,⟨7,2,0⟩,⟨8,0,0⟩,⟨9,0,0⟩,⟨10,0,0⟩,⟨11,2,0⟩] 5 [0,1,3] (qv 3 0 [0,1,3] (fun w hm=>jM (b:=gx) (off:=199) (s:=96) (agg:=true) (vs:=row aj aA.2.bp.1 []) (by kernel_rfl) ((gG an aA.2.bp).trans rfl) (.inl rfl) (hm.Jr 2 gx 199 (Value.int .u32) (fun _=>rfl) aA.2.bp)) (tD 12 (pS 0 2 gC 96 1 36 aj (av.dC 96 0) aA.2.bp an bk (kD [0,1,3] (qd [⟨13,0,0⟩,⟨14,0,0⟩,⟨15,0,0⟩] 0 [0,1,3] (qz (xR ?_))))))))))
     obtain rfl:=si h
     exact gH rfl (ra (b:=gC) (T':=36) (hh:=2) (mm:=1) aj aA.2.bp an (rt (rt (rt iP)))) (fun w hm=>⟨rfl,hm.pk []⟩)
def Fa7(x0:Int):Option (Int):=(Pl (ByteArray.mk #[0,1,1,2,1,2,2,3,1,2,2,3,2,3,3,4,1,2,2,3,2,3,3,4,2,3,3,4,3,4,4,5,1,2,2,3,2,3,3,4,2,3,3,4,3,4,4,5,2,3,3,4,3,4,4,5,3,4,4,5,4,5,5,6,1,2,2,3,2,3,3,4,2,3,3,4,3,4,4,5,2,3,3,4,3,4,4,5,3,4,4,5,4,5,5,6,2,3,3,4,3,4,4,5,3,4,4,5,4,5,5,6,3,4,4,5,4,5,5,6,4,5,5,6,5,6,6,7,1,2,2,3,2,3,3,4,2,3,3,4,3,4,4,5,2,3,3,4,3,4,4,5,3,4,4,5,4,5,5,6,2,3,3,4,3,4,4,5,3,4,4,5,4,5,5,6,3,4,4,5,4,5,5,6,4,5,5,6,5,6,6,7,2,3,3,4,3,4,4,5,3,4,4,5,4,5,5,6,3,4,4,5,4,5,5,6,4,5,5,6,5,6,6,7,3,4,4,5,4,5,5,6,4,5,5,6,5,6,6,7,4,5,5,6,5,6,6,7,5,6,6,7,6,7,7,8]) (eC .u32 x0 24)).bind fun j5=>(Pl (ByteArray.mk #[0,1,1,2,1,2,2,3,1,2,2,3,2,3,3,4,1,2,2,3,2,3,3,4,2,3,3,4,3,4,4,5,1,2,2,3,2,3,3,4,2,3,3,4,3,4,4,5,2,3,3,4,3,4,4,5,3,4,4,5,4,5,5,6,1,2,2,3,2,3,3,4,2,3,3,4,3,4,4,5,2,3,3,4,3,4,4,5,3,4,4,5,4,5,5,6,2,3,3,4,3,4,4,5,3,4,4,5,4,5,5,6,3,4,4,5,4,5,5,6,4,5,5,6,5,6,6,7,1,2,2,3,2,3,3,4,2,3,3,4,3,4,4,5,2,3,3,4,3,4,4,5,3,4,4,5,4,5,5,6,2,3,3,4,3,4,4,5,3,4,4,5,4,5,5,6,3,4,4,5,4,5,5,6,4,5,5,6,5,6,6,7,2,3,3,4,3,4,4,5,3,4,4,5,4,5,5,6,3,4,4,5,4,5,5,6,4,5,5,6,5,6,6,7,3,4,4,5,4,5,5,6,4,5,5,6,5,6,6,7,4,5,5,6,5,6,6,7,5,6,6,7,6,7,7,8]) (qH .u32 (eC .u32 x0 16) 255)).bind fun eW=>(Pl (ByteArray.mk #[0,1,1,2,1,2,2,3,1,2,2,3,2,3,3,4,1,2,2,3,2,3,3,4,2,3,3,4,3,4,4,5,1,2,2,3,2,3,3,4,2,3,3,4,3,4,4,5,2,3,3,4,3,4,4,5,3,4,4,5,4,5,5,6,1,2,2,3,2,3,3,4,2,3,3,4,3,4,4,5,2,3,3,4,3,4,4,5,3,4,4,5,4,5,5,6,2,3,3,4,3,4,4,5,3,4,4,5,4,5,5,6,3,4,4,5,4,5,5,6,4,5,5,6,5,6,6,7,1,2,2,3,2,3,3,4,2,3,3,4,3,4,4,5,2,3,3,4,3,4,4,5,3,4,4,5,4,5,5,6,2,3,3,4,3,4,4,5,3,4,4,5,4,5,5,6,3,4,4,5,4,5,5,6,4,5,5,6,5,6,6,7,2,3,3,4,3,4,4,5,3,4,4,5,4,5,5,6,3,4,4,5,4,5,5,6,4,5,5,6,5,6,6,7,3,4,4,5,4,5,5,6,4,5,5,6,5,6,6,7,4,5,5,6,5,6,6,7,5,6,6,7,6,7,7,8]) (qH .u32 (eC .u32 x0 8) 255)).bind fun pb=>(Pl (ByteArray.mk #[0,1,1,2,1,2,2,3,1,2,2,3,2,3,3,4,1,2,2,3,2,3,3,4,2,3,3,4,3,4,4,5,1,2,2,3,2,3,3,4,2,3,3,4,3,4,4,5,2,3,3,4,3,4,4,5,3,4,4,5,4,5,5,6,1,2,2,3,2,3,3,4,2,3,3,4,3,4,4,5,2,3,3,4,3,4,4,5,3,4,4,5,4,5,5,6,2,3,3,4,3,4,4,5,3,4,4,5,4,5,5,6,3,4,4,5,4,5,5,6,4,5,5,6,5,6,6,7,1,2,2,3,2,3,3,4,2,3,3,4,3,4,4,5,2,3,3,4,3,4,4,5,3,4,4,5,4,5,5,6,2,3,3,4,3,4,4,5,3,4,4,5,4,5,5,6,3,4,4,5,4,5,5,6,4,5,5,6,5,6,6,7,2,3,3,4,3,4,4,5,3,4,4,5,4,5,5,6,3,4,4,5,4,5,5,6,4,5,5,6,5,6,6,7,3,4,4,5,4,5,5,6,4,5,5,6,5,6,6,7,4,5,5,6,5,6,6,7,5,6,6,7,6,7,7,8]) (qH .u32 x0 255)).bind fun pg=>some (au (u8 ((u8 ((u8 (j5+eW))+pb))+pg)))
theorem Fa7.c(x0:Int)(w:World)(r:Int)(h:Fa7 x0=some r):
   Cq 197 #[(vU x0)] w (vI r) [] []:=by
 rw [Fa7] at h
 refine en Tryz.func197 rfl Tryz.ntmps197 (cT [0] (ad (qg [] 19 (qd [⟨0,0,0⟩,⟨1,0,0⟩,⟨3,0,0⟩,⟨4,0,0⟩,⟨5,0,0⟩,⟨8,0,0⟩,⟨9,0,0⟩,⟨10,0,0⟩,⟨13,0,0⟩,⟨14,0,0⟩] 9 [] (bE h fun j5 oN h=>qv 2 0 [] (fun w hm=>CB (s:=(ByteArray.mk #[0,1,1,2,1,2,2,3,1,2,2,3,2,3,3,4,1,2,2,3,2,3,3,4,2,3,3,4,3,4,4,5,1,2,2,3,2,3,3,4,2,3,3,4,3,4,4,5,2,3,3,4,3,4,4,5,3,4,4,5,4,5,5,6,1,2,2,3,2,3,3,4,2,3,3,4,3,4,4,5,2,3,3,4,3,4,4,5,3,4,4,5,4,5,5,6,2,3,3,4,3,4,4,5,3,4,4,5,4,5,5,6,3,4,4,5,4,5,5,6,4,5,5,6,5,6,6,7,1,2,2,3,2,3,3,4,2,3,3,4,3,4,4,5,2,3,3,4,3,4,4,5,3,4,4,5,4,5,5,6,2,3,3,4,3,4,4,5,3,4,4,5,4,5,5,6,3,4,4,5,4,5,5,6,4,5,5,6,5,6,6,7,2,3,3,4,3,4,4,5,3,4,4,5,4,5,5,6,3,4,4,5,4,5,5,6,4,5,5,6,5,6,6,7,3,4,4,5,4,5,5,6,4,5,5,6,5,6,6,7,4,5,5,6,5,6,6,7,5,6,6,7,6,7,7,8])) (j:=(eC .u32 x0 24)) (by kernel_rfl) oN) (bE h fun eW lC h=>qv 6 0 [] (fun w hm=>CB (s:=(ByteArray.mk #[0,1,1,2,1,2,2,3,1,2,2,3,2,3,3,4,1,2,2,3,2,3,3,4,2,3,3,4,3,4,4,5,1,2,2,3,2,3,3,4,2,3,3,4,3,4,4,5,2,3,3,4,3,4,4,5,3,4,4,5,4,5,5,6,1,2,2,3,2,3,3,4,2,3,3,4,3,4,4,5,2,3,3,4,3,4,4,5,3,4,4,5,4,5,5,6,2,3,3,4,3,4,4,5,3,4,4,5,4,5,5,6,3,4,4,5,4,5,5,6,4,5,5,6,5,6,6,7,1,2,2,3,2,3,3,4,2,3,3,4,3,4,4,5,2,3,3,4,3,4,4,5,3,4,4,5,4,5,5,6,2,3,3,4,3,4,4,5,3,4,4,5,4,5,5,6,3,4,4,5,4,5,5,6,4,5,5,6,5,6,6,7,2,3,3,4,3,4,4,5,3,4,4,5,4,5,5,6,3,4,4,5,4,5,5,6,4,5,5,6,5,6,6,7,3,4,4,5,4,5,5,6,4,5,5,6,5,6,6,7,4,5,5,6,5,6,6,7,5,6,6,7,6,7,7,8])) (j:=(qH .u32 (eC .u32 x0 16) 255)) (by kernel_rfl) lC) (qd [⟨7,0,0⟩] 6 [] (bE h fun pb jV h=>qv 11 0 [] (fun w hm=>CB (s:=(ByteArray.mk #[0,1,1,2,1,2,2,3,1,2,2,3,2,3,3,4,1,2,2,3,2,3,3,4,2,3,3,4,3,4,4,5,1,2,2,3,2,3,3,4,2,3,3,4,3,4,4,5,2,3,3,4,3,4,4,5,3,4,4,5,4,5,5,6,1,2,2,3,2,3,3,4,2,3,3,4,3,4,4,5,2,3,3,4,3,4,4,5,3,4,4,5,4,5,5,6,2,3,3,4,3,4,4,5,3,4,4,5,4,5,5,6,3,4,4,5,4,5,5,6,4,5,5,6,5,6,6,7,1,2,2,3,2,3,3,4,2,3,3,4,3,4,4,5,2,3,3,4,3,4,4,5,3,4,4,5,4,5,5,6,2,3,3,4,3,4,4,5,3,4,4,5,4,5,5,6,3,4,4,5,4,5,5,6,4,5,5,6,5,6,6,7,2,3,3,4,3,4,4,5,3,4,4,5,4,5,5,6,3,4,4,5,4,5,5,6,4,5,5,6,5,6,6,7,3,4,4,5,4,5,5,6,4,5,5,6,5,6,6,7,4,5,5,6,5,6,6,7,5,6,6,7,6,7,7,8])) (j:=(qH .u32 (eC .u32 x0 8) 255)) (by kernel_rfl) jV) (qd [⟨12,0,0⟩] 4 [] (bE h fun pg pP h=>qv 15 0 [] (fun w hm=>CB (s:=(ByteArray.mk #[0,1,1,2,1,2,2,3,1,2,2,3,2,3,3,4,1,2,2,3,2,3,3,4,2,3,3,4,3,4,4,5,1,2,2,3,2,3,3,4,2,3,3,4,3,4,4,5,2,3,3,4,3,4,4,5,3,4,4,5,4,5,5,6,1,2,2,3,2,3,3,4,2,3,3,4,3,4,4,5,2,3,3,4,3,4,4,5,3,4,4,5,4,5,5,6,2,3,3,4,3,4,4,5,3,4,4,5,4,5,5,6,3,4,4,5,4,5,5,6,4,5,5,6,5,6,6,7,1,2,2,3,2,3,3,4,2,3,3,4,3,4,4,5,2,3,3,4,3,4,4,5,3,4,4,5,4,5,5,6,2,3,3,4,3,4,4,5,3,4,4,5,4,5,5,6,3,4,4,5,4,5,5,6,4,5,5,6,5,6,6,7,2,3,3,4,3,4,4,5,3,4,4,5,4,5,5,6,3,4,4,5,4,5,5,6,4,5,5,6,5,6,6,7,3,4,4,5,4,5,5,6,4,5,5,6,5,6,6,7,4,5,5,6,5,6,6,7,5,6,6,7,6,7,7,8])) (j:=(qH .u32 x0 255)) (by kernel_rfl) pP) (qd [⟨16,0,0⟩,⟨17,0,0⟩,⟨18,0,0⟩] 0 [] (qz (xR ?_)))))))))))))
 cases h
 exact qP []
def Fb2(n0:Int):Option (Int):=(Fa7 n0).bind fun aA=>some aA
theorem Fb2.c(n0:Int)(w:World)(r:Int)(h:Fb2 n0=some r):
   Cq 170 #[(vU n0)] w (vI r) [] []:=by
 rw [Fb2] at h
 refine en Tryz.func170 rfl Tryz.ntmps170 (cT [0] (cR [0] (bE h fun aA gv h=>oQ 0 (fun w hm=>Fa7.c n0 w _ gv) (qh [0] (eT (aI ?_))))))
 cases h
 exact qP []
def F6.fk(aR:Int):Option (Int):=some aR
def F6.fY(d0:av 96 Int):(Int×Int)→Option ((Int×Int)⊕(Int))
 | (bB,bK)=>(if(decide (bK<96))=true then(ix d0.1 bK).bind fun pg=>(Fb2 pg).bind fun eo=>some (.inl ((au (bB+eo)),(au (bK+1)))) else some (.inr bB))
def F6(d0:av 96 Int):Option (Int):=(loop (F6.fY d0) (0,0)).bind fun gu=>F6.fk gu
theorem F6.c(d0:av 96 Int)(w:World)(r:Int)(h:F6 d0=some r):
   Cq 125 #[(.agg (row aj d0.1 []).toArray)] w (vI r) [] []:=by
 rw [F6] at h
 refine en Tryz.func125 rfl Tryz.ntmps125 (ad (ao (oA 0 (fun cD=>qh [0] (eT (cT [0] (s2 (ao (tO (pL 0 0 cD 96 1 36 aj d0 an (oH [0] (eT (aK (fun(aR:Int)=>F6.fk aR=some r) (fun aR=> [(2,[],(vI 0)),(3,[],(vI aR))]) (fun aR=> [⟨(some cD),36,row aj d0.1 []⟩]) ?_ ?_)))))))))))))
 ·refine ap ?_
  obtain⟨gu,km,ahA⟩:=bd h
  refine jl (fun(s:Int×Int) (x:Unit)=>match s,x with | ⟨bB,bK⟩,_=>True) (fun⟨bB,bK⟩ _=> [(2,[],(vI 0)),(3,[],(vI bB)),(6,[],(.agg (row aj d0.1 []).toArray)),(7,[],(vI bK))]) (fun⟨bB,bK⟩ _=> [⟨(some cD),36,row aj d0.1 []⟩]) km () trivial [0] ?_
  rintro⟨bB,bK⟩ _ acM _ h
  rw [F6.fY] at h
  refine cT [0] (ad (qi h (fun h=> ?_) (fun h=> ?_)))
  ·exact kT (ad (ap (ad (ao (bE h fun pg kV h=>tO (pX 0 aj (fun x=>(vU x)) d0 bK (fun _=>rfl) kV (oH [0] (eT (cH [0,0] (bE h fun eo yY h=>oQ 0 (fun w hm=>Fb2.c pg w _ yY) (qh [0,0] (qe (nT (cH [0,0] (qe (qb ((au (bB+eo)),(au (bK+1))) () h trivial [0]))))))))))))))))
  ·exact lX bB h (fun e=>by subst e;exact bo (qm bB ahA [0]))
 ·rintro aR h
  unfold F6.fk at h
  refine aP (cT [0,0] (aI ?_))
  cases h
  exact qP []
def FbM(ci:List ai):Option (Int):=some (ci.length:Int)
theorem FbM.c(ci:List ai)(w:World)(r:Int){cQ:Option Addr}{ck:Nat}(bX:Nat)(eX:Rw w cQ 2 aF ci)(dH:ci.length=ck)(h:FbM ci=some r):
   Cq 126 #[(.slice cQ ck bX)] w (vI r) [] []:=by
 subst dH
 rw [FbM] at h
 refine en Tryz.func126 rfl Tryz.ntmps126 (cT [0] (cT [0,0,0] (aI ?_)))
 cases h
 exact qP []
def Fbs(iJ:Int)(gO:Int)(p2:Int)(p3:Int)(p4:List ai)(p5:ae):Option ((List ai)):=(FB iJ p2 (au ((au (p2+p3))-1))).bind fun bz=>(if bz=true then(ix p5.aa gO).bind fun j5=>(if p4.length+([(⟨(ot (au (iJ-p2))),j5.aD⟩:ai)]:List ai).length≤4294967296 then some (p4++([(⟨(ot (au (iJ-p2))),j5.aD⟩:ai)]:List ai)) else none) else some p4)
theorem Fbs.c(iJ:Int)(gO:Int)(p2:Int)(p3:Int)(p4:List ai)(p5:ae)(w:World)(r:(List ai)){H_a:Option Addr}{aan:Nat}(H_c:Nat)(H_h:Rw w H_a 2 ay p5.aa)(ahB:p5.aa.length=aan)(jh:Nat)(fZ:Nat)(dY:Nat)(HY:Option Nat){Me:Nat}{eA:Nat}{HZ:List Value}(ga:p4.length=Me)(gU:hS HY Me eA HZ 2)(RL:hO HY p4 eA)(zK:Nat)(fG:Mem w (bs [some jh,some fZ,some dY,HY,some zK]) [⟨some jh,2,[(vI p2)]⟩,⟨some fZ,2,[(vI p3)]⟩,⟨some dY,31,[(.slice (mB HY) Me eA)]⟩,⟨HY,70,row aF p4 HZ⟩,⟨some zK,29,cG p5 H_a aan H_c⟩] w)(WB:p5.aa≠ []→aB H_a∉bs [some jh,some fZ,some dY,HY,some zK])(h:Fbs iJ gO p2 p3 p4 p5=some r):
   Cr 138 #[(vI iJ),(vI gO),(vP jh),(vP fZ),(vP dY),(vP zK)] w fun v w'=>∃(Ae:Option Nat) (Dr:Nat) (JQ:List Value) (Ds:Nat),r.length=Ds∧(hS Ae Ds Dr JQ 2)∧(hO Ae r Dr)∧v= .tuple #[]∧Mem w (bs [some jh,some fZ,some dY,HY,some zK]) [⟨some jh,2,[(vI p2)]⟩,⟨some fZ,2,[(vI p3)]⟩,⟨some dY,31,[(.slice (mB Ae) Ds Dr)]⟩,⟨some zK,29,cG p5 H_a aan H_c⟩,⟨Ae,70,row aF r JQ⟩] w':=by
 subst ahB ga
 rw [Fbs] at h
 refine eN Tryz.func138 rfl Tryz.ntmps138 fG (cR [0,0,0,1,0,0] (bE h fun bz iD h=>oQ 0 (fun w hm=>FB.c iJ p2 (au ((au (p2+p3))-1)) w _ iD) (eT (qi h (fun h=> ?_) (fun h=> ?_)))))
 ·refine qg [⟨some jh,2,[(vI p2)]⟩,⟨some fZ,2,[(vI p3)]⟩,⟨some zK,29,cF p5 H_a H_c⟩] 15 (qd [⟨1,0,0⟩,⟨2,0,0⟩,⟨3,0,0⟩,⟨4,0,0⟩,⟨5,0,0⟩,⟨6,2,0⟩,⟨7,0,0⟩] 8 [0,1,4] (bE h fun j5 jV h=>qX 8 0 [0,1,4] H_a 2 jV rfl (H_h.sp jV) (qd [⟨9,0,0⟩] 6 [0,1,4] (qL 10 0 [0,1,4] false (fun w hm=>((hm.aM H_h WB).at jV).sub 0 1) (qd [⟨11,0,0⟩] 4 [0,1,4] (t2 0 12 ?_ ?_))))))
  ·refine qs 0 [2] (kD [0,1,4] (tD 12 (qa 0 (fun gC=>kD [0,1,4] ?_))))
   obtain⟨aao,h⟩:=gd h
   refine tD 13 (pA 0 3 HY 70 p4.length 1 eA 2 4 (sB gC) aF p4 ([(⟨(ot (au (iJ-p2))),j5.aD⟩:ai)]:List ai) HZ (.agg #[(vH 0),(vB 0)]) rfl rfl br iZ gU RL (fun w hm=>(hm.ow 5 (some gC) 70 ([(⟨(ot (au (iJ-p2))),j5.aD⟩:ai)]:List ai) [] (fun e=>nomatch e) br)) aao (fun gp iU ji aap Af=>kD [0,1,4] (tD 14 (qs 0 [2] (kD [0,1,4] (qz (gn ?_)))))))
   obtain rfl:=si h
   exact qr [] (fun w hm=>⟨gp,iU,ji,((p4++([(⟨(ot (au (iJ-p2))),j5.aD⟩:ai)]:List ai)).length),rfl,aap,Af,rfl,hm.pk [0,1,2,4,3]⟩)
  ·refine qa 0 (fun gx=>kD [0,1,4] (tD 0 (qs 0 [2] (kD [0,1,4] ?_))))
   obtain⟨Rt,h⟩:=gd h
   refine tD 13 (pA 0 3 HY 70 p4.length 1 eA 2 4 (sB gx) aF p4 ([(⟨(ot (au (iJ-p2))),j5.aD⟩:ai)]:List ai) HZ (.agg #[(vH 0),(vB 0)]) rfl rfl br iZ gU RL (fun w hm=>(hm.ow 5 (some gx) 70 ([(⟨(ot (au (iJ-p2))),j5.aD⟩:ai)]:List ai) [] (fun e=>nomatch e) br)) Rt (fun im bP dN Ag BQ=>kD [0,1,4] (tD 14 (qs 0 [2] (kD [0,1,4] (qz (gn ?_)))))))
   obtain rfl:=si h
   exact qr [] (fun w hm=>⟨im,bP,dN,((p4++([(⟨(ot (au (iJ-p2))),j5.aD⟩:ai)]:List ai)).length),rfl,Ag,BQ,rfl,hm.pk [0,1,2,4,3]⟩)
 ·refine bV (gn ?_)
  obtain rfl:=si h
  exact qr [] (fun w hm=>⟨HY,eA,HZ,p4.length,rfl,gU,RL,rfl,hm.pk [0,1,2,4,3]⟩)
def Ff.fk(aL:List ai):Option ((List ai)):=some aL
def Ff.og(aR:Int)(dc:List ai):Option (((List ai)×Int)⊕((List ai))):=some (.inl (dc,(au (aR+1))))
def Ff.jX(d1:av 96 Int)(dR:Int)(jm:Int)(uq:ae)(aR:Int)(lD:Int):((List ai)×Int)→Option (((List ai)×Int)⊕((List ai)))
 | (a7,cK)=>(if(decide (cK<lD))=true then(E0 d1 aR cK).bind fun mj=>(if mj=true then(Fbs aR cK dR jm a7 uq).bind fun eO=>some (.inl (eO,(au (cK+1)))) else some (.inl (a7,(au (cK+1))))) else some (.inr a7))
def Ff.fY(f0:ae)(d1:av 96 Int)(dR:Int)(jm:Int)(uq:ae):((List ai)×Int)→Option (((List ai)×Int)⊕((List ai)))
 | (b_,aR)=>(if(decide (aR<(au f0.ag)))=true then(GR f0.aa).bind fun lD=>(loop (Ff.jX d1 dR jm uq aR lD) (b_,0)).bind fun qM=>Ff.og aR qM else some (.inr b_))
def Ff(f0:ae)(d1:av 96 Int)(dR:Int)(jm:Int)(jF:List ai)(uq:ae):Option ((List ai)):=(loop (Ff.fY f0 d1 dR jm uq) (jF,0)).bind fun sn=>Ff.fk sn
theorem Ff.c(f0:ae)(d1:av 96 Int)(dR:Int)(jm:Int)(jF:List ai)(uq:ae)(w:World)(r:(List ai)){bj:Option Addr}{bm:Nat}(bi:Nat)(dr:Rw w bj 2 ay f0.aa)(cE:f0.aa.length=bm){lT:Option Addr}{mJ:Nat}(nm:Nat)(AT:Rw w lT 2 ay uq.aa)(A8:uq.aa.length=mJ)(dY:Nat)(zK:Nat)(BR:Nat)(G0:Option Nat){Mf:Nat}{Ah:Nat}{JS:List Value}(Mg:jF.length=Mf)(WC:hS G0 Mf Ah JS 2)(WD:hO G0 jF Ah)(Cm:Nat)(fG:Mem w (bs [some dY,some zK,some BR,G0,some Cm]) [⟨some dY,2,[(vI dR)]⟩,⟨some zK,2,[(vI jm)]⟩,⟨some BR,31,[(.slice (mB G0) Mf Ah)]⟩,⟨G0,70,row aF jF JS⟩,⟨some Cm,29,cG uq lT mJ nm⟩] w)(fx:f0.aa≠ []→aB bj∉bs [some dY,some zK,some BR,G0,some Cm])(re:uq.aa≠ []→aB lT∉bs [some dY,some zK,some BR,G0,some Cm])(h:Ff f0 d1 dR jm jF uq=some r):
   Cr 132 #[(.agg #[(vH f0.ag),(.slice bj bm bi)]),(.agg (row aj d1.1 []).toArray),(.func (.func 138) #[] #[(vP dY),(vP zK),(vP BR),(vP Cm)])] w fun v w'=>∃(Ae:Option Nat) (Dr:Nat) (JQ:List Value) (Ds:Nat),r.length=Ds∧(hS Ae Ds Dr JQ 2)∧(hO Ae r Dr)∧v= .tuple #[]∧Mem w (bs [some dY,some zK,some BR,G0,some Cm]) [⟨some dY,2,[(vI dR)]⟩,⟨some zK,2,[(vI jm)]⟩,⟨some BR,31,[(.slice (mB Ae) Ds Dr)]⟩,⟨some Cm,29,cG uq lT mJ nm⟩,⟨Ae,70,row aF r JQ⟩] w':=by
 subst cE A8 Mg
 rw [Ff] at h
 refine eN Tryz.func132 rfl Tryz.ntmps132 fG (ad (ao (oA 0 (fun fa=>oA 0 (fun rO=>eT (cT [0,5,0,0] (aK (fun(j:(List ai)×(Option Nat)×Nat×(List Value)×Nat)=>match j with | ⟨aL,fj,ct,fM,pY⟩=>Ff.fk aL=some r∧(aL.length=pY)∧(hS fj pY ct fM 2)∧(hO fj aL ct)) (fun⟨aL,fj,ct,fM,pY⟩=> []) (fun⟨aL,fj,ct,fM,pY⟩=> [⟨some dY,2,[(vI dR)]⟩,⟨some zK,2,[(vI jm)]⟩,⟨some BR,31,[(.slice (mB fj) pY ct)]⟩,⟨fj,70,row aF aL fM⟩,⟨some Cm,29,cF uq lT nm⟩,⟨some fa,29,cF f0 bj bi⟩,⟨(some rO),36,row aj d1.1 []⟩]) ?_ ?_)))))))
 ·refine ap ?_
  obtain⟨sn,oO,Ai⟩:=bd h
  refine jl (fun(s:(List ai)×Int) (x:(Option Nat)×Nat×(List Value)×Nat)=>match s,x with | ⟨b_,aR⟩,⟨gI,cu,eZ,lm⟩=>(b_.length=lm)∧(hS gI lm cu eZ 2)∧(hO gI b_ cu)) (fun⟨b_,aR⟩ ⟨gI,cu,eZ,lm⟩=> [(2,[],(.func (.func 138) #[] #[(vP dY),(vP zK),(vP BR),(vP Cm)])),(3,[],(vP fa)),(4,[],(vP rO)),(10,[],(vI (au f0.ag))),(11,[],(vI aR))]) (fun⟨b_,aR⟩ ⟨gI,cu,eZ,lm⟩=> [⟨some dY,2,[(vI dR)]⟩,⟨some zK,2,[(vI jm)]⟩,⟨some BR,31,[(.slice (mB gI) lm cu)]⟩,⟨gI,70,row aF b_ eZ⟩,⟨some Cm,29,cF uq lT nm⟩,⟨some fa,29,cF f0 bj bi⟩,⟨(some rO),36,row aj d1.1 []⟩]) oO ⟨G0,Ah,JS,jF.length⟩ ⟨rfl,WC,WD⟩ [0,1,2,3,4,5,6] ?_
  rintro⟨b_,aR⟩ ⟨gI,cu,eZ,lm⟩ L3 ⟨rfl,na,mG⟩ h
  rw [Ff.fY] at h
  refine cT [0] (ad (qi h (fun h=> ?_) (fun h=> ?_)))
  ·refine kT (ad (ap (cT [0,0] (cR [0,5] (bE h fun lD Aj h=>oQ 0 (fun w hm=>GR.c f0.aa w _ bi (hm.aM dr fx) rfl Aj) (qh [0] (eT (aK (fun(j:(List ai)×(Option Nat)×Nat×(List Value)×Nat)=>match j with | ⟨dc,mA,fw,hQ,jY⟩=>Ff.og aR dc=some L3∧(dc.length=jY)∧(hS mA jY fw hQ 2)∧(hO mA dc fw)) (fun⟨dc,mA,fw,hQ,jY⟩=> [(2,[],(.func (.func 138) #[] #[(vP dY),(vP zK),(vP BR),(vP Cm)])),(3,[],(vP fa)),(4,[],(vP rO)),(10,[],(vI (au f0.ag))),(11,[],(vI aR))]) (fun⟨dc,mA,fw,hQ,jY⟩=> [⟨some dY,2,[(vI dR)]⟩,⟨some zK,2,[(vI jm)]⟩,⟨some BR,31,[(.slice (mB mA) jY fw)]⟩,⟨mA,70,row aF dc hQ⟩,⟨some Cm,29,cF uq lT nm⟩,⟨some fa,29,cF f0 bj bi⟩,⟨(some rO),36,row aj d1.1 []⟩]) ?_ ?_))))))))
   ·refine ap ?_
    obtain⟨qM,qO,vr⟩:=bd h
    refine jl (fun(s:(List ai)×Int) (x:(Option Nat)×Nat×(List Value)×Nat)=>match s,x with | ⟨a7,cK⟩,⟨gp,dv,dN,lp⟩=>(a7.length=lp)∧(hS gp lp dv dN 2)∧(hO gp a7 dv)) (fun⟨a7,cK⟩ ⟨gp,dv,dN,lp⟩=> [(2,[],(.func (.func 138) #[] #[(vP dY),(vP zK),(vP BR),(vP Cm)])),(3,[],(vP fa)),(4,[],(vP rO)),(6,[],(vI aR)),(10,[],(vI (au f0.ag))),(11,[],(vI aR)),(16,[],(vI lD)),(17,[],(vI cK))]) (fun⟨a7,cK⟩ ⟨gp,dv,dN,lp⟩=> [⟨some dY,2,[(vI dR)]⟩,⟨some zK,2,[(vI jm)]⟩,⟨some BR,31,[(.slice (mB gp) lp dv)]⟩,⟨gp,70,row aF a7 dN⟩,⟨some Cm,29,cF uq lT nm⟩,⟨some fa,29,cF f0 bj bi⟩,⟨(some rO),36,row aj d1.1 []⟩]) qO ⟨gI,cu,eZ,b_.length⟩ ⟨rfl,na,mG⟩ [0,1,2,3,4,5,6] ?_
    rintro⟨a7,cK⟩ ⟨gp,dv,dN,lp⟩ Mh ⟨rfl,tm,iz⟩ h
    rw [Ff.jX] at h
    refine cT [0] (ad (qi h (fun h=> ?_) (fun h=> ?_)))
    ·refine kT (ad (ap (cT [0,0] (cR [0,0] (bE h fun mj oT h=>oQ 0 (fun w hm=>E0.c d1 aR cK w _ (hm.ow 6 (some rO) 36 d1.1 [] (fun e=>nomatch e) an) oT) (eT (qi h (fun h=> ?_) (fun h=> ?_))))))))
     ·refine cH [0,0,0] (bE h fun eO sg h=>oC 0 (fun w hm=>Fbs.c aR cK dR jm a7 uq w _ nm (hm.aM AT re) rfl dY zK BR gp rfl tm iz Cm (hm.ps (N:= [⟨some dY,2,[(vI dR)]⟩,⟨some zK,2,[(vI jm)]⟩,⟨some BR,31,[(.slice (mB gp) a7.length dv)]⟩,⟨gp,70,row aF a7 dN⟩,⟨some Cm,29,cF uq lT nm⟩]) [0,1,2,3,4]) (hm.xp AT re [0,1,2,3,4]) sg) ?_)
      rintro w v w' hm ⟨nw,h_,kS,_,rfl,vt,nW,rfl,bn⟩
      exact ⟨_,Mem.pick (hm.Jp (ps:= [(0,⟨some dY,2,[(vI dR)]⟩),(1,⟨some zK,2,[(vI jm)]⟩),(2,⟨some BR,31,[(.slice (mB nw) eO.length h_)]⟩),(4,⟨some Cm,29,cF uq lT nm⟩)]) (ds:= [3]) (N:= [⟨nw,70,row aF eO kS⟩]) bn [0,1,2,4,3] (by kernel_rfl) (by kernel_rfl) (by kernel_rfl)) (N:= [⟨some dY,2,[(vI dR)]⟩,⟨some zK,2,[(vI jm)]⟩,⟨some BR,31,[(.slice (mB nw) eO.length h_)]⟩,⟨nw,70,row aF eO kS⟩,⟨some Cm,29,cF uq lT nm⟩,⟨some fa,29,cF f0 bj bi⟩,⟨(some rO),36,row aj d1.1 []⟩]) [0,1,2,7,4,5,6] (by kernel_rfl) (by kernel_rfl),fB (qe (nT (cH [0,0] (qe (qb (eO,(au (cK+1))) ⟨nw,h_,kS,eO.length⟩ h ⟨rfl,vt,nW⟩ [0,1,2,3,4,5,6])))))⟩
     ·exact bV (nT (cH [0,0] (qe (qb (a7,(au (cK+1))) ⟨gp,dv,dN,a7.length⟩ h ⟨rfl,tm,iz⟩ [0,1,2,3,4,5,6]))))
    ·exact lX a7 h (fun e=>by subst e;exact bo (qm ⟨a7,gp,dv,dN,a7.length⟩ ⟨vr,rfl,tm,iz⟩ [0,1,2,3,4,5,6]))
   ·rintro⟨dc,mA,fw,hQ,jY⟩ ⟨h,rfl,to,nX⟩
    unfold Ff.og at h
    exact nT (cH [0,0] (qe (qb (dc,(au (aR+1))) ⟨mA,fw,hQ,dc.length⟩ h ⟨rfl,to,nX⟩ [0,1,2,3,4,5,6])))
  ·exact lX b_ h (fun e=>by subst e;exact bo (qm ⟨b_,gI,cu,eZ,b_.length⟩ ⟨Ai,rfl,na,mG⟩ [0,1,2,3,4,5,6]))
 ·rintro⟨aL,fj,ct,fM,pY⟩ ⟨h,rfl,z7,th⟩
  unfold Ff.fk at h
  refine gn ?_
  obtain rfl:=si h
  exact qr [] (fun w hm=>⟨fj,ct,fM,aL.length,rfl,z7,th,rfl,hm.pk [0,1,2,4,3]⟩)
def FbI(s0:List ai):Option ((List ai)):=(if([]:List ai).length+s0.length≤4294967296 then some (([]:List ai)++s0) else none)
theorem FbI.c(s0:List ai)(w:World)(r:(List ai)){cQ:Option Addr}{ck:Nat}(bX:Nat)(eX:Rw w cQ 2 aF s0)(dH:s0.length=ck)(h:FbI s0=some r):
   Cr 181 #[(.slice cQ ck bX)] w fun v w'=>∃(o0:Option Nat) (c0:Nat) (s0:List Value) (n0:Nat),r.length=n0∧(hS o0 n0 c0 s0 2)∧(hO o0 r c0)∧v= .slice (mB o0) n0 c0∧Mem w [] [⟨o0,70,row aF r s0⟩] w':=by
 subst dH
 rw [FbI] at h
 refine en Tryz.func181 rfl Tryz.ntmps181 (cT [0] (ad (cR [0] ?_)))
 by_cases Dt:cQ=none
 ·have LR:s0= []:=(LY eX Dt)
  replace h:some []=some r:=by simpa [LR] using h
  refine tO (pN 0 cQ true true (by rw [Dt];rfl) (fB (eT (jq true (fun JT=>(cT [0] (rX ?_))) (fun JT=>nomatch JT)))))
  obtain rfl:=si h
  exact lg 70 aF (qr [] (fun w hm=>⟨none,0,[],0,rfl,(fun e=>absurd rfl e),(fun _=>⟨rfl,rfl⟩),rfl,hm.pk [0]⟩))
 ·refine tO (pN 0 cQ true false (by rw [Option.isNone_eq_false_iff.2 (Option.ne_none_iff_isSome.1 Dt)];rfl) (fB (eT (jq false (fun JU=>nomatch JU) (fun JU=>(kT (ad (ao (oA 0 (fun gC=>qh [0] ?_))))))))))
  obtain⟨RM,h⟩:=gd h
  refine tO (pA 0 0 (some gC) 70 0 s0.length 0 2 4 cQ aF ([]:List ai) s0 [] (.agg #[(vH 0),(vB 0)]) rfl rfl br iZ (fun _=>⟨bt _,by simp⟩) (fun e=>nomatch e) (fun w hm=>(hm.xr eX)) RM (fun lU gK rJ Cn lq=>oH [0] (eT (aI ?_))))
  obtain rfl:=si h
  exact qr [] (fun w hm=>⟨lU,gK,rJ,((([]:List ai)++s0).length),rfl,Cn,lq,rfl,hm.pk [0]⟩)
def kg:Go.Shelf.Ren:=⟨fun | 6=>182 | 15=>204 | 14=>203 | 28=>218 | 29=>219 | 20=>210 | 21=>211 | 22=>212 | 23=>213 | 24=>214 | 25=>215 | 26=>216 | 27=>217 | 46=>221 | 47=>222 | 48=>223 | 49=>224 | 50=>225 | 57=>226 | n=>n,fun | 22=>31 | 24=>70 | 25=>230 | 3=>3 | 39=>173 | 0=>0 | 53=>34 | 55=>167 | 4=>4 | 46=>256 | 45=>255 | 50=>260 | 5=>5 | 9=>9 | 66=>263 | 70=>267 | 76=>269 | 77=>270 | n=>n,fun | n=>n⟩
theorem kX:Go.Proofs.SlLaysF0.n6 Tryz.prog kg where
 mixed:=by kernel_rfl
 f6:=⟨ "slices.SortFunc[[]loop.example/g01311/impl.Note,loop.example/g01311/impl.Note]",by decide,Tryz.func182.trans (fI some (by kernel_rfl))⟩
 f14:=⟨ "slices.pdqsortCmpFunc[loop.example/g01311/impl.Note]",by decide,Tryz.func203.trans (fI some (by kernel_rfl))⟩
 f15:=Tryz.func204.trans (fI some (by kernel_rfl))
 f20:=⟨ "slices.insertionSortCmpFunc[loop.example/g01311/impl.Note]",by decide,Tryz.func210.trans (fI some (by kernel_rfl))⟩
 f21:=⟨ "slices.heapSortCmpFunc[loop.example/g01311/impl.Note]",by decide,Tryz.func211.trans (fI some (by kernel_rfl))⟩
 f22:=⟨ "slices.breakPatternsCmpFunc[loop.example/g01311/impl.Note]",by decide,Tryz.func212.trans (fI some (by kernel_rfl))⟩
 f23:=⟨ "slices.choosePivotCmpFunc[loop.example/g01311/impl.Note]",by decide,Tryz.func213.trans (fI some (by kernel_rfl))⟩
 f24:=⟨ "slices.reverseRangeCmpFunc[loop.example/g01311/impl.Note]",by decide,Tryz.func214.trans (fI some (by kernel_rfl))⟩
 f25:=⟨ "slices.partialInsertionSortCmpFunc[loop.example/g01311/impl.Note]",by decide,Tryz.func215.trans (fI some (by kernel_rfl))⟩
 f26:=⟨ "slices.partitionEqualCmpFunc[loop.example/g01311/impl.Note]",by decide,Tryz.func216.trans (fI some (by kernel_rfl))⟩
 f27:=⟨ "slices.partitionCmpFunc[loop.example/g01311/impl.Note]",by decide,Tryz.func217.trans (fI some (by kernel_rfl))⟩
 f28:=Tryz.func218.trans (fI some (by kernel_rfl))
 f29:=Tryz.func219.trans (fI some (by kernel_rfl))
 f46:=⟨ "slices.siftDownCmpFunc[loop.example/g01311/impl.Note]",by decide,Tryz.func221.trans (fI some (by kernel_rfl))⟩
 f47:=Tryz.func222.trans (fI some (by kernel_rfl))
 f48:=Tryz.func223.trans (fI some (by kernel_rfl))
 f49:=⟨ "slices.medianAdjacentCmpFunc[loop.example/g01311/impl.Note]",by decide,Tryz.func224.trans (fI some (by kernel_rfl))⟩
 f50:=⟨ "slices.medianCmpFunc[loop.example/g01311/impl.Note]",by decide,Tryz.func225.trans (fI some (by kernel_rfl))⟩
 f57:=⟨ "slices.order2CmpFunc[loop.example/g01311/impl.Note]",by decide,Tryz.func226.trans (fI some (by kernel_rfl))⟩
 t0:=Tryz.underlying0
 a0:=Tryz.isAgg0
 z0:=Tryz.sizeOf0
 v0:=Tryz.zeroValue0
 t3:=Tryz.underlying3
 a3:=Tryz.isAgg3
 z3:=Tryz.sizeOf3
 v3:=Tryz.zeroValue3
 t4:=Tryz.underlying4
 a4:=Tryz.isAgg4
 z4:=Tryz.sizeOf4
 v4:=Tryz.zeroValue4
 t5:=Tryz.underlying5
 a5:=Tryz.isAgg5
 z5:=Tryz.sizeOf5
 v5:=Tryz.zeroValue5
 t9:=Tryz.underlying9
 a9:=Tryz.isAgg9
 z9:=Tryz.sizeOf9
 v9:=Tryz.zeroValue9
 t22:=Tryz.underlying31
 a22:=Tryz.isAgg31
 z22:=Tryz.sizeOf31
 v22:=Tryz.zeroValue31
 t25:=Tryz.underlying230
 a25:=Tryz.isAgg230
 z25:=Tryz.sizeOf230
 v25:=Tryz.zeroValue230
 t39:=Tryz.underlying173
 a39:=Tryz.isAgg173
 z39:=Tryz.sizeOf173
 v39:=Tryz.zeroValue173
 t45:=Tryz.underlying255
 a45:=Tryz.isAgg255
 z45:=Tryz.sizeOf255
 v45:=Tryz.zeroValue255
 t46:=Tryz.underlying256
 a46:=Tryz.isAgg256
 z46:=Tryz.sizeOf256
 v46:=Tryz.zeroValue256
 t50:=Tryz.underlying260
 a50:=Tryz.isAgg260
 z50:=Tryz.sizeOf260
 v50:=Tryz.zeroValue260
 t53:=Tryz.underlying34
 a53:=Tryz.isAgg34
 z53:=Tryz.sizeOf34
 v53:=Tryz.zeroValue34
 t55:=Tryz.underlying167
 a55:=Tryz.isAgg167
 z55:=Tryz.sizeOf167
 v55:=Tryz.zeroValue167
 t66:=Tryz.underlying263
 a66:=Tryz.isAgg263
 z66:=Tryz.sizeOf263
 v66:=Tryz.zeroValue263
 t70:=Tryz.underlying267
 a70:=Tryz.isAgg267
 z70:=Tryz.sizeOf267
 v70:=Tryz.zeroValue267
 t76:=Tryz.underlying269
 a76:=Tryz.isAgg269
 z76:=Tryz.sizeOf269
 v76:=Tryz.zeroValue269
 t77:=Tryz.underlying270
 a77:=Tryz.isAgg270
 z77:=Tryz.sizeOf270
 v77:=Tryz.zeroValue270
def Faq(x0:List ai):Option ((List ai)):=Ob (fun a b=>L4 a b) x0
theorem Faq.c(x0:List ai)(w:World)(r:(List ai))(H0:Option Nat){JV:Nat}{RN:Nat}{Oc:List Value}(acN:x0.length=JV)(acO:hS H0 JV RN Oc 2)(acP:hO H0 x0 RN)(fG:Mem w (bs [H0]) [⟨H0,70,row aF x0 Oc⟩] w)(h:Faq x0=some r):
   Cr 182 #[(.slice (mB H0) JV RN),(.func (.func 180) #[] #[])] w fun v w'=>r.length=JV∧(hO H0 r RN)∧v= .tuple #[]∧Mem w (bs [H0]) [⟨H0,70,row aF r Oc⟩] w':=by
 exact Mc kX 2 Tryz.isAgg70 Tryz.sizeOf70 aF br (fun x v hv=>by simp [aF] at hv;rcases hv with rfl | rfl<;>rfl) (fun a b=>L4 a b) 180 (enters_of Tryz.func180 (by kernel_rfl) rfl) (fun x y r w vu=>L4.c (gj:=⟨True⟩) x y w r vu) 70 x0 w r H0 JV RN Oc acN acO acP fG (by rw [Faq] at h;exact h)
def Fx.iQ(s0:List ai):Option ((List ai)):=some s0
def Fx.og(bO:List ai)(bB:Int):Option ((Int)⊕((List ai)⊕Unit)):=(if 0≤bB∧bB≤(bO.length:Int) then some (.inr (.inl (bO.take bB.toNat))) else none)
def Fx.vQ(s0:List ai)(aR:Int):((List ai)×Int×Int)→Option (((List ai)×Int×Int)⊕(((List ai)×Int)))
 | (a7,cS,dW)=>(if(decide (dW<(((s0.length-aR.toNat):Nat):Int)))=true then(ix (a7.drop aR.toNat) dW).bind fun oj=>(ix (a7.drop aR.toNat) (au (dW-1))).bind fun jZ=>(if(!((oj.cd==jZ.cd)&&(oj.aD==jZ.aD)))=true then(ix (a7.drop aR.toNat) dW).bind fun my=>(ix a7 cS).bind fun ahC=>some (.inl ((a7.set cS.toNat my),(au (cS+1)),(au (dW+1)))) else some (.inl (a7,cS,(au (dW+1))))) else some (.inr (a7,cS)))
def Fx.e7(s0:List ai):Int→Option ((Int)⊕((List ai)⊕Unit))
 | aR=>(if(decide (aR<(s0.length:Int)))=true then(ix s0 aR).bind fun vR=>(ix s0 (au (aR-1))).bind fun aaq=>(if((vR.cd==aaq.cd)&&(vR.aD==aaq.aD))=true then(if 0≤aR∧aR≤(s0.length:Int) then(loop (Fx.vQ s0 aR) (s0,aR,1)).bind fun iI=>Fx.og iI.1 iI.2 else none) else some (.inl (au (aR+1)))) else some (.inr (.inr ())))
def Fx(s0:List ai):Option ((List ai)):=(if(decide ((s0.length:Int)<2))=true then some s0 else(loop (Fx.e7 s0) 1).bind fun qQ=>match qQ with | .inl p=>some p | .inr p=>Fx.iQ s0)
theorem Fx.c(s0:List ai)(w:World)(r:(List ai))(cw:Option Nat){jp:Nat}{bX:Nat}{cI:List Value}(dH:s0.length=jp)(gq:hS cw jp bX cI 2)(lr:hO cw s0 bX)(fG:Mem w (bs [cw]) [⟨cw,70,row aF s0 cI⟩] w)(h:Fx s0=some r):
   Cr 183 #[(.slice (mB cw) jp bX)] w fun v w'=>∃(o0:Option Nat) (c0:Nat) (s0:List Value) (n0:Nat),r.length=n0∧(hS o0 n0 c0 s0 2)∧(hO o0 r c0)∧v= .slice (mB o0) n0 c0∧Mem w (bs [cw]) [⟨o0,70,row aF r s0⟩] w':=by
 subst dH
 rw [Fx] at h
 refine eN Tryz.func183 rfl Tryz.ntmps183 fG (cT [0] (ad (cT [0,0,0] (qi h (fun h=> ?_) (fun h=> ?_)))))
 ·refine cT [0,0] (rX ?_)
  obtain rfl:=si h
  exact qr [] (fun w hm=>⟨cw,bX,cI,s0.length,rfl,gq,lr,rfl,hm.pk [0]⟩)
 ·refine kT (ad (cT [0] (aK (fun(_:Unit)=>Fx.iQ s0=some r) (fun(_:Unit)=> [(0,[],(.slice (mB cw) s0.length bX)),(2,[],(.slice none 0 0))]) (fun(_:Unit)=> [⟨cw,70,row aF s0 cI⟩]) ?_ ?_)))
  ·refine ap ?_
   obtain⟨qQ,zX,BO⟩:=bd h
   refine jl (fun(aR:Int) (_:Unit)=>True) (fun aR _=> [(0,[],(.slice (mB cw) s0.length bX)),(2,[],(.slice none 0 0)),(3,[],(vI aR))]) (fun aR _=> [⟨cw,70,row aF s0 cI⟩]) zX () trivial [0] ?_
   rintro aR _ RO _ h
   rw [Fx.e7] at h
   refine ad (cT [0,0,0,0] (qi h (fun h=> ?_) (fun h=> ?_)))
   ·refine kT (ad (ap (ad (qg [⟨cw,70,row aF s0 cI⟩] 10 (qd [⟨0,0,0⟩,⟨1,0,0⟩,⟨4,0,0⟩,⟨5,0,0⟩,⟨6,0,0⟩] 5 [0] (bE h fun vR lG h=>qX 2 0 [0] (mB cw) 2 lG rfl (nl lr lG) (qL 3 0 [0] true (aX 0 cw 70 s0 cI lr br lG) (bE h fun aaq sq h=>qX 7 0 [0] (mB cw) 2 sq rfl (nl lr sq) (qL 8 0 [0] true (aX 0 cw 70 s0 cI lr br sq) (qd [⟨9,0,0⟩] 0 [0] (zT (qi h (fun h=> ?_) (fun h=> ?_)))))))))))))
    ·refine cR [0,0] ?_
     obtain⟨BM,h⟩:=gd h
     refine tO (pK 0 (mB cw) s0.length bX 2 aR BM.1 (Int.le_trans BM.2 (Int.ofNat_le.2 (Nat.le_of_eq rfl))) (oH [0] (eT (ad (cT [0] (aK (fun(j:(List ai)×Int)=>match j with | ⟨bO,bB⟩=>Fx.og bO bB=some RO∧(bO.length=s0.length)∧(hO cw bO bX)) (fun⟨bO,bB⟩=> [(0,[],(.slice (mB cw) s0.length bX)),(2,[],(.slice none 0 0)),(3,[],(vI bB))]) (fun⟨bO,bB⟩=> [⟨cw,70,row aF bO cI⟩]) ?_ ?_))))))
     ·refine ap ?_
      obtain⟨iI,Du,acQ⟩:=bd h
      refine jl (fun(s:(List ai)×Int×Int) (x:Unit)=>match s,x with | ⟨a7,cS,dW⟩,_=>(a7.length=s0.length)∧(hO cw a7 bX)) (fun⟨a7,cS,dW⟩ _=> [(0,[],(.slice (mB cw) s0.length bX)),(2,[],(.slice none 0 0)),(3,[],(vI cS)),(4,[],(.slice (pa (mB cw) aR.toNat bX 2) (s0.length-aR.toNat) (bX-aR.toNat))),(5,[],(vI dW))]) (fun⟨a7,cS,dW⟩ _=> [⟨cw,70,row aF a7 cI⟩]) Du () ⟨rfl,lr⟩ [0] ?_
      rintro⟨a7,cS,dW⟩ _ acR ⟨E9,sr⟩ h
      rw [Fx.vQ] at h
      refine ad (cT [0,0,0,0] (qi h (fun h=> ?_) (fun h=> ?_)))
      ·refine kT (ad (ap (ad (qg [⟨cw,70,row aF a7 cI⟩] 10 (qd [⟨0,0,0⟩,⟨1,0,0⟩,⟨4,0,0⟩,⟨5,0,0⟩,⟨6,0,0⟩] 5 [0] (bE h fun oj ss h=>qX 2 0 [0] (pa (mB cw) aR.toNat bX 2) 2 ss (wD E9 (aR)) (LW (o:=cw) (m:=2) sr ss) (qL 3 0 [0] true (fun w hm=>((hm.ow 0 cw 70 a7 cI (fun e=>(sr e).1) br).tl aR.toNat bX (yR E9 gq sr)).at ss) (bE h fun jZ su h=>qX 7 0 [0] (pa (mB cw) aR.toNat bX 2) 2 su (wD E9 (aR)) (LW (o:=cw) (m:=2) sr su) (qL 8 0 [0] true (fun w hm=>((hm.ow 0 cw 70 a7 cI (fun e=>(sr e).1) br).tl aR.toNat bX (yR E9 gq sr)).at su) (qd [⟨9,0,0⟩] 0 [0] (zT (qi h (fun h=> ?_) (fun h=> ?_)))))))))))))
       ·exact cR [0,0,0,0] (bE h fun my wS h=>oX 0 (pa (mB cw) aR.toNat bX 2) 2 wS (wD E9 (aR)) (LW (o:=cw) (m:=2) sr wS) (oL 0 true (fun w hm=>(((hm.ow 0 cw 70 a7 cI (fun e=>(sr e).1) br).tl aR.toNat bX (yR E9 gq sr)).at wS)) (bE h fun ahC oU h=>oX 0 (mB cw) 2 oU E9 (nl sr oU) (tO (pO 0 0 cw 70 aF a7 cI cS my 2 0 (cN my) (fun e=>(sr e).1) br oU (fB (eT (cH [0,0,0] (qe (nT (cH [0,0,0] (qe (qb ((a7.set cS.toNat my),(au (cS+1)),(au (dW+1))) () h ⟨(eJ.trans E9),(fK sr)⟩ [0])))))))))))))
       ·exact bV (nT (cH [0,0,0] (qe (qb (a7,cS,(au (dW+1))) () h ⟨E9,sr⟩ [0]))))
      ·exact lX (a7,cS) h (fun e=>by subst e;exact bo (qm ⟨a7,cS⟩ ⟨acQ,E9,sr⟩ [0]))
     ·rintro⟨bO,bB⟩ ⟨h,vS,Ak⟩
      unfold Fx.og at h
      refine aP (cR [0,0] ?_)
      obtain⟨Al,h⟩:=gd h
      refine tO (pK 0 (mB cw) s0.length bX 2 bB Al.1 (Int.le_trans Al.2 (Int.ofNat_le.2 (Nat.le_of_eq vS))) (fB (tO (aaa (hh:=0) (o:=cw) (T:=70) (bh:=aF) (xs:=bO) (sp:=cI) bB.toNat (by kernel_rfl) (pC 0 0 cw 70 bB.toNat bB.toNat (s0.length-bB.toNat) bX 2 [(vH 0),(vB 0)] aF (bO.take bB.toNat) ((bO.drop bB.toNat).flatMap aF++cI) (HT Al) rfl br (C5 br (show bB.toNat≤bO.length by have:=Al;omega) vS gq) (LX bB.toNat Ak) (by have:=(yR vS gq Ak);have:bO.length=s0.length:=vS;omega) (fun wF YC=>fB (eT (cR [0,0] (tO (acv 0 (mB cw) s0.length bX 2 bB (by kernel_rfl) (by kernel_rfl) Al.1 (by have h1:=(yR (HT Al) (fun e=>⟨((C5 br (show bB.toNat≤bO.length by have:=Al;omega) vS gq) e).1,YC.trans ((C5 br (show bB.toNat≤bO.length by have:=Al;omega) vS gq) e).2⟩) (LX bB.toNat Ak));have h2:=(HT Al);omega) (oH [0] (eT (aI (cg (aT (c_ (.inl (bO.take bB.toNat)) (sj h) (fun ahD=> ?_)))))))))))))))))
      subst ahD
      refine cg (aT (aT ?_))
      obtain rfl:=si BO
      exact qr [] (fun w hm=>⟨cw,bX,wF,bB.toNat,(HT Al),(fun e=>⟨((C5 br (show bB.toNat≤bO.length by have:=Al;omega) vS gq) e).1,YC.trans ((C5 br (show bB.toNat≤bO.length by have:=Al;omega) vS gq) e).2⟩),(LX bB.toNat Ak),rfl,hm.pk [0]⟩)
    ·exact bV (nT (cH [0,0,0] (qe (qb (au (aR+1)) () h trivial [0]))))
   ·exact lX (.inr ()) h (fun e=>by subst e;exact bo (qm () BO [0]))
  ·rintro _ h
   unfold Fx.iQ at h
   refine aP (cT [0,0] (aI ?_))
   obtain rfl:=si h
   exact qr [] (fun w hm=>⟨cw,bX,cI,s0.length,rfl,gq,lr,rfl,hm.pk [0]⟩)
def Od(ci:List ai):Option ((List ai)):=(FbI ci).bind fun bz=>(Faq bz).bind fun aA=>(Fx aA).bind fun dj=>some dj
theorem Od.c(ci:List ai)(w:World)(r:(List ai)){cQ:Option Addr}{ck:Nat}(bX:Nat)(eX:Rw w cQ 2 aF ci)(dH:ci.length=ck)(h:Od ci=some r):
   Cr 139 #[(.slice cQ ck bX)] w fun v w'=>∃(o0:Option Nat) (c0:Nat) (s0:List Value) (n0:Nat),r.length=n0∧(hS o0 n0 c0 s0 2)∧(hO o0 r c0)∧v= .slice (mB o0) n0 c0∧Mem w [] [⟨o0,70,row aF r s0⟩] w':=by
 subst dH
 rw [Od] at h
 refine en Tryz.func139 rfl Tryz.ntmps139 (cT [0] (cR [0] (bE h fun bz iD h=>oC 0 (fun w hm=>FbI.c ci w _ bX (hm.xr eX) rfl iD) ?_)))
 rintro w v w' hm ⟨rf,yl,RP,_,rfl,acS,JW,rfl,bn⟩
 refine aq hm bn (oH [0] (eT (cR [0] (bE h fun aA u5 h=>oC 0 (fun w hm=>Faq.c bz w _ rf rfl acS JW (hm.ps (N:= [⟨rf,70,row aF bz RP⟩]) [0]) u5) ?_))))
 rintro w v w' hm ⟨vS,Af,rfl,bn⟩
 refine ⟨_,hm.aW [(0,⟨rf,70,row aF aA RP⟩)] [] bn,fB (eT (cR [0] (bE h fun dj mH h=>oC 0 (fun w hm=>Fx.c aA w _ rf vS acS Af (hm.ps (N:= [⟨rf,70,row aF aA RP⟩]) [0]) mH) ?_)))⟩
 rintro w v w' hm ⟨lU,cu,l9,_,rfl,acT,Oe,rfl,bn⟩
 refine ⟨_,hm.Jp (ps:= []) (ds:= [0]) (N:= [⟨lU,70,row aF dj l9⟩]) bn [0] (by kernel_rfl) (by kernel_rfl) (by kernel_rfl),oH [0] (eT (aI ?_))⟩
 obtain rfl:=si h
 exact qr [] (fun w hm=>⟨lU,cu,l9,dj.length,rfl,acT,Oe,rfl,hm.pk [1]⟩)
def RR(f0:ae)(d1:av 96 Int)(BS:Int)(wT:Int):Option ((List ai)):=(Ff f0 d1 BS wT ([]:List ai) f0).bind fun aA=>(Od aA).bind fun bz=>some bz
theorem RR.c(f0:ae)(d1:av 96 Int)(BS:Int)(wT:Int)(w:World)(r:(List ai)){bj:Option Addr}{bm:Nat}(bi:Nat)(dr:Rw w bj 2 ay f0.aa)(cE:f0.aa.length=bm)(h:RR f0 d1 BS wT=some r):
   Cr 71 #[(.agg #[(vH f0.ag),(.slice bj bm bi)]),(.agg (row aj d1.1 []).toArray),(vI BS),(vI wT)] w fun v w'=>∃(o0:Option Nat) (c0:Nat) (s0:List Value) (n0:Nat),r.length=n0∧(hS o0 n0 c0 s0 2)∧(hO o0 r c0)∧v= .slice (mB o0) n0 c0∧Mem w [] [⟨o0,70,row aF r s0⟩] w':=by
 subst cE
 rw [RR] at h
 refine en Tryz.func71 rfl Tryz.ntmps71 (ad (ao (oA 0 (fun cD=>oA 0 (fun fa=>oA 0 (fun gC=>oA 0 (fun gx=>qh [0] (eT (ad (ao (oA 0 (fun ur=>oA 0 (fun qu=>oS 0 [5] (eT (cR [0] (tO (pL 0 1 fa 96 1 36 aj d1 an (oH [0] (bE h fun aA yY h=>oC 0 (fun w hm=>Ff.c f0 d1 BS wT ([]:List ai) f0 w _ bi (hm.xr dr) rfl bi (hm.xr dr) rfl gC gx qu (some ur) rfl (fun _=>⟨bt _,by simp⟩) (fun e=>nomatch e) cD (hm.ps (N:= [⟨some gC,2,[(vI BS)]⟩,⟨some gx,2,[(vI wT)]⟩,⟨some qu,31,[(.slice (sB ur) 0 0)]⟩,⟨(some ur),70,row aF ([]:List ai) []⟩,⟨some cD,29,cF f0 bj bi⟩]) [2,3,5,4,0]) (hm.xp dr (fun _=>cq) [2,3,5,4,0]) (hm.xp dr (fun _=>cq) [2,3,5,4,0]) yY) ?_)))))))))))))))))))
 rintro w v w' hm ⟨qR,iU,ji,_,rfl,vp,Af,rfl,bn⟩
 refine ⟨_,Mem.pick (hm.Jp (ps:= [(2,⟨some gC,2,[(vI BS)]⟩),(3,⟨some gx,2,[(vI wT)]⟩),(5,⟨some qu,31,[(.slice (mB qR) aA.length iU)]⟩),(0,⟨some cD,29,cF f0 bj bi⟩)]) (ds:= [4]) (N:= [⟨qR,70,row aF aA ji⟩]) bn [0,1,2,4,3] (by kernel_rfl) (by kernel_rfl) (by kernel_rfl)) (N:= [⟨some cD,29,cF f0 bj bi⟩,⟨(some fa),36,row aj d1.1 []⟩,⟨some gC,2,[(vI BS)]⟩,⟨some gx,2,[(vI wT)]⟩,⟨qR,70,row aF aA ji⟩,⟨some qu,31,[(.slice (mB qR) aA.length iU)]⟩]) [0,1,2,3,6,5] (by kernel_rfl) (by kernel_rfl),fB (eT (cR [5] (bE h fun bz mH h=>oC 0 (fun w hm=>Od.c aA w _ iU (hm.ow 4 qR 70 aA ji (fun e=>(Af e).1) br) rfl mH) ?_)))⟩
 rintro w v w' hm ⟨im,bP,dN,_,rfl,Ag,BQ,rfl,bn⟩
 refine aq hm bn (oH [0] (eT (aI ?_)))
 obtain rfl:=si h
 exact qr [] (fun w hm=>⟨im,bP,dN,bz.length,rfl,Ag,BQ,rfl,hm.pk [6]⟩)
def FE.iQ:Option (Bool):=some true
def FE.e7(RS:List ai)(RT:List ai):Int→Option ((Int)⊕(Bool⊕Unit))
 | aR=>(if(decide (aR<(RS.length:Int)))=true then(ix RS aR).bind fun eW=>(ix RT aR).bind fun pb=>(if(!((eW.cd==pb.cd)&&(eW.aD==pb.aD)))=true then some (.inr (.inl false)) else some (.inl (au (aR+1)))) else some (.inr (.inr ())))
def FE(RS:List ai)(RT:List ai):Option (Bool):=(if((RS.length:Int) !=(RT.length:Int))=true then some false else(loop (FE.e7 RS RT) 0).bind fun gu=>match gu with | .inl p=>some p | .inr p=>FE.iQ)
theorem FE.c(RS:List ai)(RT:List ai)(w:World)(r:Bool){cQ:Option Addr}{ck:Nat}(bX:Nat)(eX:Rw w cQ 2 aF RS)(dH:RS.length=ck){ej:Option Addr}{eY:Nat}(dV:Nat)(fD:Rw w ej 2 aF RT)(jC:RT.length=eY)(h:FE RS RT=some r):
   Cq 73 #[(.slice cQ ck bX),(.slice ej eY dV)] w (.bool r) [] []:=by
 subst dH jC
 rw [FE] at h
 refine en Tryz.func73 rfl Tryz.ntmps73 (cT [0] (ad (cT [0,0,0,0,0] (qi h (fun h=> ?_) (fun h=> ?_)))))
 ·refine cT [0] (rX ?_)
  cases h
  exact qP []
 ·refine kT (ad (cT [0,0,0] (aK (fun(_:Unit)=>FE.iQ=some r) (fun(_:Unit)=> [(4,[],(.bool false))]) (fun(_:Unit)=> []) ?_ ?_)))
  ·refine ap ?_
   obtain⟨gu,iR,RU⟩:=bd h
   refine jl (fun(aR:Int) (_:Unit)=>True) (fun aR _=> [(0,[],(.slice cQ RS.length bX)),(1,[],(.slice ej RT.length dV)),(4,[],(.bool false)),(12,[],(vI (RS.length:Int))),(13,[],(vI aR))]) (fun aR _=> []) iR () trivial [] ?_
   rintro aR _ Jz _ h
   rw [FE.e7] at h
   refine cT [0] (ad (qi h (fun h=> ?_) (fun h=> ?_)))
   ·refine kT (ad (ap (cT [0,0] (ad (qg [] 9 (qd [⟨0,0,0⟩,⟨1,0,0⟩,⟨4,0,0⟩,⟨5,0,0⟩] 5 [] (bE h fun eW pP h=>qX 2 0 [] cQ 2 pP rfl (eX.sp pP) (qL 3 0 [] true (fun w hm=>(hm.xr eX).at pP) (bE h fun pb vJ h=>qX 6 0 [] ej 2 vJ rfl (fD.sp vJ) (qL 7 0 [] true (fun w hm=>(hm.xr fD).at vJ) (qd [⟨8,0,0⟩] 0 [] (zT (qi h (fun h=> ?_) (fun h=> ?_))))))))))))))
    ·refine cT [0] (aI (cg (aT (c_ (.inl false) (sj h) (fun Pn=> ?_)))))
     subst Pn
     refine cg (aT (aT ?_))
     obtain rfl:=si RU
     exact qP []
    ·exact bV (nT (cH [0,0] (qe (qb (au (aR+1)) () h trivial []))))
   ·exact lX (.inr ()) h (fun e=>by subst e;exact bo (qm () RU []))
  ·rintro _ h
   unfold FE.iQ at h
   refine aP (cT [0] (aI ?_))
   cases h
   exact qP []
def WE(f0:ae)(d1:av 96 Int)(step2:Int)(c8:Int):Option (Bool):=(ix f0.aa c8).bind fun eW=>(FV f0 d1 step2 c8 1).bind fun aA=>some (decide (aA<(au eW.fg)))
theorem WE.c(f0:ae)(d1:av 96 Int)(step2:Int)(c8:Int)(w:World)(r:Bool){bj:Option Addr}{bm:Nat}(bi:Nat)(dr:Rw w bj 2 ay f0.aa)(cE:f0.aa.length=bm){fZ qK:Nat}(dL:Rw w (some ⟨fZ,qK,none⟩) 1 aj d1.1)(h:WE f0 d1 step2 c8=some r):
   Cq 172 #[(.agg #[(vH f0.ag),(.slice bj bm bi)]),(.pointer (some ⟨fZ,qK,none⟩)),(vI step2),(vI c8)] w (.bool r) [] []:=by
 subst cE
 rw [WE] at h
 refine en Tryz.func172 rfl Tryz.ntmps172 (ad (ao (oA 0 (fun fa=>qh [0] (eT (ad (qg [⟨some fa,29,cF f0 bj bi⟩] 14 (qd [⟨0,0,0⟩,⟨1,0,0⟩,⟨2,0,0⟩,⟨3,0,0⟩,⟨5,0,0⟩,⟨6,0,0⟩,⟨7,0,0⟩] 7 [0] (bE h fun eW oN h=>qX 8 0 [0] bj 2 oN rfl (dr.sp oN) (qd [⟨9,0,0⟩] 5 [0] (qL 10 0 [0] false (fun w hm=>((hm.xr dr).at oN).sub 1 1) (qd [⟨11,0,0⟩] 3 [0] (bE h fun aA kN h=>dQ 4 0 (fun w hm=>FV.c f0 d1 step2 c8 1 w _ bi (hm.xr dr) rfl (hm.xr dL) kN) [0] (qd [⟨12,0,0⟩,⟨13,0,0⟩] 0 [0] (qz (xR ?_))))))))))))))))
 cases h
 exact qP []
def FaX(iJ:Int)(gO:Int)(p2:ae)(p3:av 96 Int)(p4:List (av 2 Int)):Option ((List (av 2 Int))):=(WE p2 p3 iJ gO).bind fun aA=>(if aA=true then(if p4.length+([(av.set (av.set (av.dC 2 0) 0 iJ) 1 gO)]:List (av 2 Int)).length≤4294967296 then some (p4++([(av.set (av.set (av.dC 2 0) 0 iJ) 1 gO)]:List (av 2 Int))) else none) else some p4)
theorem FaX.c(iJ:Int)(gO:Int)(p2:ae)(p3:av 96 Int)(p4:List (av 2 Int))(w:World)(r:(List (av 2 Int))){dI:Option Addr}{db:Nat}(eA:Nat)(g_:Rw w dI 2 ay p2.aa)(ga:p2.aa.length=db){zK F_q:Nat}(F_h:Rw w (some ⟨zK,F_q,none⟩) 1 aj p3.1)(jh:Nat)(BR:Nat)(G0:Option Nat){Mf:Nat}{Ah:Nat}{JS:List Value}(Mg:p4.length=Mf)(WC:hS G0 Mf Ah JS 2)(WD:hO G0 p4 Ah)(fG:Mem w (bs [some jh,some BR,G0]) [⟨some jh,29,cG p2 dI db eA⟩,⟨some BR,77,[(.slice (mB G0) Mf Ah)]⟩,⟨G0,192,row ca p4 JS⟩] w)(gT:p2.aa≠ []→aB dI∉bs [some jh,some BR,G0])(acH:p3.1≠ []→aB (some ⟨zK,F_q,none⟩)∉bs [some jh,some BR,G0])(h:FaX iJ gO p2 p3 p4=some r):
   Cr 171 #[(vI iJ),(vI gO),(vP jh),(.pointer (some ⟨zK,F_q,none⟩)),(vP BR)] w fun v w'=>∃(Ae:Option Nat) (Dr:Nat) (JQ:List Value) (Ds:Nat),r.length=Ds∧(hS Ae Ds Dr JQ 2)∧(hO Ae r Dr)∧v= .tuple #[]∧Mem w (bs [some jh,some BR,G0]) [⟨some jh,29,cG p2 dI db eA⟩,⟨some BR,77,[(.slice (mB Ae) Ds Dr)]⟩,⟨Ae,192,row ca r JQ⟩] w':=by
 subst ga Mg
 rw [FaX] at h
 refine eN Tryz.func171 rfl Tryz.ntmps171 fG (cR [0,0,0] (bE h fun aA gv h=>oQ 0 (fun w hm=>WE.c p2 p3 iJ gO w _ eA (hm.aM g_ gT) rfl (hm.aM F_h acH) gv) (eT (qi h (fun h=> ?_) (fun h=> ?_)))))
 ·refine cH [1,0,0,0] (tO (Rq 0 192 2 1 ca [(.agg (row aG (av.set (av.set (av.dC 2 0) 0 iJ) 1 gO).1 []).toArray)] [(av.set (av.set (av.dC 2 0) 0 iJ) 1 gO)] rfl jO (fun fa=>fB ?_)))
  obtain⟨aar,h⟩:=gd h
  refine tO (pA 0 2 G0 192 p4.length 1 Ah 2 16 (sB fa) ca p4 ([(av.set (av.set (av.dC 2 0) 0 iJ) 1 gO)]:List (av 2 Int)) JS (.agg (row aG (av.dC 2 0).1 []).toArray) rfl rfl jO tA WC WD (fun w hm=>(hm.ow 3 (some fa) 192 ([(av.set (av.set (av.dC 2 0) 0 iJ) 1 gO)]:List (av 2 Int)) [] (fun e=>nomatch e) jO)) aar (fun kM l_ s9 WG JW=>fB (oS 0 [1] (qe (gn ?_)))))
  obtain rfl:=si h
  exact qr [] (fun w hm=>⟨kM,l_,s9,((p4++([(av.set (av.set (av.dC 2 0) 0 iJ) 1 gO)]:List (av 2 Int))).length),rfl,WG,JW,rfl,hm.pk [0,1,2]⟩)
 ·refine bV (gn ?_)
  obtain rfl:=si h
  exact qr [] (fun w hm=>⟨G0,Ah,JS,p4.length,rfl,WC,WD,rfl,hm.pk [0,1,2]⟩)
def Fc.fk(aL:List (av 2 Int)):Option ((List (av 2 Int))):=some aL
def Fc.og(aR:Int)(dc:List (av 2 Int)):Option (((List (av 2 Int))×Int)⊕((List (av 2 Int)))):=some (.inl (dc,(au (aR+1))))
def Fc.jX(d1:av 96 Int)(dR:ae)(jm:av 96 Int)(aR:Int)(lD:Int):((List (av 2 Int))×Int)→Option (((List (av 2 Int))×Int)⊕((List (av 2 Int))))
 | (a7,cK)=>(if(decide (cK<lD))=true then(E0 d1 aR cK).bind fun mj=>(if mj=true then(FaX aR cK dR jm a7).bind fun eO=>some (.inl (eO,(au (cK+1)))) else some (.inl (a7,(au (cK+1))))) else some (.inr a7))
def Fc.fY(f0:ae)(d1:av 96 Int)(dR:ae)(jm:av 96 Int):((List (av 2 Int))×Int)→Option (((List (av 2 Int))×Int)⊕((List (av 2 Int))))
 | (b_,aR)=>(if(decide (aR<(au f0.ag)))=true then(GR f0.aa).bind fun lD=>(loop (Fc.jX d1 dR jm aR lD) (b_,0)).bind fun qM=>Fc.og aR qM else some (.inr b_))
def Fc(f0:ae)(d1:av 96 Int)(dR:ae)(jm:av 96 Int)(jF:List (av 2 Int)):Option ((List (av 2 Int))):=(loop (Fc.fY f0 d1 dR jm) (jF,0)).bind fun sn=>Fc.fk sn
theorem Fc.c(f0:ae)(d1:av 96 Int)(dR:ae)(jm:av 96 Int)(jF:List (av 2 Int))(w:World)(r:(List (av 2 Int))){bj:Option Addr}{bm:Nat}(bi:Nat)(dr:Rw w bj 2 ay f0.aa)(cE:f0.aa.length=bm){G1:Option Addr}{Mi:Nat}(Ah:Nat)(G_h:Rw w G1 2 ay dR.aa)(Mg:dR.aa.length=Mi){Cm H_q:Nat}(H_h:Rw w (some ⟨Cm,H_q,none⟩) 1 aj jm.1)(dY:Nat)(H2:Nat)(VL:Option Nat){aas:Nat}{Mj:Nat}{aat:List Value}(aau:jF.length=aas)(ahE:hS VL aas Mj aat 2)(ahF:hO VL jF Mj)(fG:Mem w (bs [some dY,some H2,VL]) [⟨some dY,29,cG dR G1 Mi Ah⟩,⟨some H2,77,[(.slice (mB VL) aas Mj)]⟩,⟨VL,192,row ca jF aat⟩] w)(fx:f0.aa≠ []→aB bj∉bs [some dY,some H2,VL])(RV:dR.aa≠ []→aB G1∉bs [some dY,some H2,VL])(WB:jm.1≠ []→aB (some ⟨Cm,H_q,none⟩)∉bs [some dY,some H2,VL])(h:Fc f0 d1 dR jm jF=some r):
   Cr 132 #[(.agg #[(vH f0.ag),(.slice bj bm bi)]),(.agg (row aj d1.1 []).toArray),(.func (.func 171) #[] #[(vP dY),(.pointer (some ⟨Cm,H_q,none⟩)),(vP H2)])] w fun v w'=>∃(Ae:Option Nat) (Dr:Nat) (JQ:List Value) (Ds:Nat),r.length=Ds∧(hS Ae Ds Dr JQ 2)∧(hO Ae r Dr)∧v= .tuple #[]∧Mem w (bs [some dY,some H2,VL]) [⟨some dY,29,cG dR G1 Mi Ah⟩,⟨some H2,77,[(.slice (mB Ae) Ds Dr)]⟩,⟨Ae,192,row ca r JQ⟩] w':=by
 subst cE Mg aau
 rw [Fc] at h
 refine eN Tryz.func132 rfl Tryz.ntmps132 fG (ad (ao (oA 0 (fun fa=>oA 0 (fun rO=>eT (cT [0,3,0,0] (aK (fun(j:(List (av 2 Int))×(Option Nat)×Nat×(List Value)×Nat)=>match j with | ⟨aL,fj,ct,fM,pY⟩=>Fc.fk aL=some r∧(aL.length=pY)∧(hS fj pY ct fM 2)∧(hO fj aL ct)) (fun⟨aL,fj,ct,fM,pY⟩=> []) (fun⟨aL,fj,ct,fM,pY⟩=> [⟨some dY,29,cF dR G1 Ah⟩,⟨some H2,77,[(.slice (mB fj) pY ct)]⟩,⟨fj,192,row ca aL fM⟩,⟨some fa,29,cF f0 bj bi⟩,⟨(some rO),36,row aj d1.1 []⟩]) ?_ ?_)))))))
 ·refine ap ?_
  obtain⟨sn,oO,Ai⟩:=bd h
  refine jl (fun(s:(List (av 2 Int))×Int) (x:(Option Nat)×Nat×(List Value)×Nat)=>match s,x with | ⟨b_,aR⟩,⟨gI,cu,eZ,lm⟩=>(b_.length=lm)∧(hS gI lm cu eZ 2)∧(hO gI b_ cu)) (fun⟨b_,aR⟩ ⟨gI,cu,eZ,lm⟩=> [(2,[],(.func (.func 171) #[] #[(vP dY),(.pointer (some ⟨Cm,H_q,none⟩)),(vP H2)])),(3,[],(vP fa)),(4,[],(vP rO)),(10,[],(vI (au f0.ag))),(11,[],(vI aR))]) (fun⟨b_,aR⟩ ⟨gI,cu,eZ,lm⟩=> [⟨some dY,29,cF dR G1 Ah⟩,⟨some H2,77,[(.slice (mB gI) lm cu)]⟩,⟨gI,192,row ca b_ eZ⟩,⟨some fa,29,cF f0 bj bi⟩,⟨(some rO),36,row aj d1.1 []⟩]) oO ⟨VL,Mj,aat,jF.length⟩ ⟨rfl,ahE,ahF⟩ [0,1,2,3,4] ?_
  rintro⟨b_,aR⟩ ⟨gI,cu,eZ,lm⟩ L3 ⟨rfl,na,mG⟩ h
  rw [Fc.fY] at h
  refine cT [0] (ad (qi h (fun h=> ?_) (fun h=> ?_)))
  ·refine kT (ad (ap (cT [0,0] (cR [0,3] (bE h fun lD Aj h=>oQ 0 (fun w hm=>GR.c f0.aa w _ bi (hm.aM dr fx) rfl Aj) (qh [0] (eT (aK (fun(j:(List (av 2 Int))×(Option Nat)×Nat×(List Value)×Nat)=>match j with | ⟨dc,mA,fw,hQ,jY⟩=>Fc.og aR dc=some L3∧(dc.length=jY)∧(hS mA jY fw hQ 2)∧(hO mA dc fw)) (fun⟨dc,mA,fw,hQ,jY⟩=> [(2,[],(.func (.func 171) #[] #[(vP dY),(.pointer (some ⟨Cm,H_q,none⟩)),(vP H2)])),(3,[],(vP fa)),(4,[],(vP rO)),(10,[],(vI (au f0.ag))),(11,[],(vI aR))]) (fun⟨dc,mA,fw,hQ,jY⟩=> [⟨some dY,29,cF dR G1 Ah⟩,⟨some H2,77,[(.slice (mB mA) jY fw)]⟩,⟨mA,192,row ca dc hQ⟩,⟨some fa,29,cF f0 bj bi⟩,⟨(some rO),36,row aj d1.1 []⟩]) ?_ ?_))))))))
   ·refine ap ?_
    obtain⟨qM,qO,vr⟩:=bd h
    refine jl (fun(s:(List (av 2 Int))×Int) (x:(Option Nat)×Nat×(List Value)×Nat)=>match s,x with | ⟨a7,cK⟩,⟨gp,dv,dN,lp⟩=>(a7.length=lp)∧(hS gp lp dv dN 2)∧(hO gp a7 dv)) (fun⟨a7,cK⟩ ⟨gp,dv,dN,lp⟩=> [(2,[],(.func (.func 171) #[] #[(vP dY),(.pointer (some ⟨Cm,H_q,none⟩)),(vP H2)])),(3,[],(vP fa)),(4,[],(vP rO)),(6,[],(vI aR)),(10,[],(vI (au f0.ag))),(11,[],(vI aR)),(16,[],(vI lD)),(17,[],(vI cK))]) (fun⟨a7,cK⟩ ⟨gp,dv,dN,lp⟩=> [⟨some dY,29,cF dR G1 Ah⟩,⟨some H2,77,[(.slice (mB gp) lp dv)]⟩,⟨gp,192,row ca a7 dN⟩,⟨some fa,29,cF f0 bj bi⟩,⟨(some rO),36,row aj d1.1 []⟩]) qO ⟨gI,cu,eZ,b_.length⟩ ⟨rfl,na,mG⟩ [0,1,2,3,4] ?_
    rintro⟨a7,cK⟩ ⟨gp,dv,dN,lp⟩ Mh ⟨rfl,tm,iz⟩ h
    rw [Fc.jX] at h
    refine cT [0] (ad (qi h (fun h=> ?_) (fun h=> ?_)))
    ·refine kT (ad (ap (cT [0,0] (cR [0,0] (bE h fun mj oT h=>oQ 0 (fun w hm=>E0.c d1 aR cK w _ (hm.ow 4 (some rO) 36 d1.1 [] (fun e=>nomatch e) an) oT) (eT (qi h (fun h=> ?_) (fun h=> ?_))))))))
     ·refine cH [0,0,0] (bE h fun eO sg h=>oC 0 (fun w hm=>FaX.c aR cK dR jm a7 w _ Ah (hm.aM G_h RV) rfl (hm.aM H_h WB) dY H2 gp rfl tm iz (hm.ps (N:= [⟨some dY,29,cF dR G1 Ah⟩,⟨some H2,77,[(.slice (mB gp) a7.length dv)]⟩,⟨gp,192,row ca a7 dN⟩]) [0,1,2]) (hm.xp G_h RV [0,1,2]) (hm.xp H_h WB [0,1,2]) sg) ?_)
      rintro w v w' hm ⟨nw,h_,kS,_,rfl,vt,nW,rfl,bn⟩
      exact ⟨_,Mem.pick (hm.Jp (ps:= [(0,⟨some dY,29,cF dR G1 Ah⟩),(1,⟨some H2,77,[(.slice (mB nw) eO.length h_)]⟩)]) (ds:= [2]) (N:= [⟨nw,192,row ca eO kS⟩]) bn [0,1,2] (by kernel_rfl) (by kernel_rfl) (by kernel_rfl)) (N:= [⟨some dY,29,cF dR G1 Ah⟩,⟨some H2,77,[(.slice (mB nw) eO.length h_)]⟩,⟨nw,192,row ca eO kS⟩,⟨some fa,29,cF f0 bj bi⟩,⟨(some rO),36,row aj d1.1 []⟩]) [0,1,5,3,4] (by kernel_rfl) (by kernel_rfl),fB (qe (nT (cH [0,0] (qe (qb (eO,(au (cK+1))) ⟨nw,h_,kS,eO.length⟩ h ⟨rfl,vt,nW⟩ [0,1,2,3,4])))))⟩
     ·exact bV (nT (cH [0,0] (qe (qb (a7,(au (cK+1))) ⟨gp,dv,dN,a7.length⟩ h ⟨rfl,tm,iz⟩ [0,1,2,3,4]))))
    ·exact lX a7 h (fun e=>by subst e;exact bo (qm ⟨a7,gp,dv,dN,a7.length⟩ ⟨vr,rfl,tm,iz⟩ [0,1,2,3,4]))
   ·rintro⟨dc,mA,fw,hQ,jY⟩ ⟨h,rfl,to,nX⟩
    unfold Fc.og at h
    exact nT (cH [0,0] (qe (qb (dc,(au (aR+1))) ⟨mA,fw,hQ,dc.length⟩ h ⟨rfl,to,nX⟩ [0,1,2,3,4])))
  ·exact lX b_ h (fun e=>by subst e;exact bo (qm ⟨b_,gI,cu,eZ,b_.length⟩ ⟨Ai,rfl,na,mG⟩ [0,1,2,3,4]))
 ·rintro⟨aL,fj,ct,fM,pY⟩ ⟨h,rfl,z7,th⟩
  unfold Fc.fk at h
  refine gn ?_
  obtain rfl:=si h
  exact qr [] (fun w hm=>⟨fj,ct,fM,aL.length,rfl,z7,th,rfl,hm.pk [0,1,2]⟩)
def RW(f0:ae)(d1:av 96 Int):Option ((List (av 2 Int))):=(Fc f0 d1 f0 d1 ([]:List (av 2 Int))).bind fun aA=>some aA
theorem RW.c(f0:ae)(d1:av 96 Int)(w:World)(r:(List (av 2 Int))){bj:Option Addr}{bm:Nat}(bi:Nat)(dr:Rw w bj 2 ay f0.aa)(cE:f0.aa.length=bm)(h:RW f0 d1=some r):
   Cr 127 #[(.agg #[(vH f0.ag),(.slice bj bm bi)]),(.agg (row aj d1.1 []).toArray)] w fun v w'=>∃(o0:Option Nat) (c0:Nat) (s0:List Value) (n0:Nat),r.length=n0∧(hS o0 n0 c0 s0 2)∧(hO o0 r c0)∧v= .slice (mB o0) n0 c0∧Mem w [] [⟨o0,192,row ca r s0⟩] w':=by
 subst cE
 rw [RW] at h
 refine en Tryz.func127 rfl Tryz.ntmps127 (ad (ao (oA 0 (fun cD=>oA 0 (fun fV=>qh [0] (eT (ad (ao (oA 0 (fun gx=>oA 0 (fun gC=>oS 0 [3] (eT (cR [0] (tO (pL 0 1 fV 96 1 36 aj d1 an (oH [0] (bE h fun aA iR h=>oC 0 (fun w hm=>Fc.c f0 d1 f0 d1 ([]:List (av 2 Int)) w _ bi (hm.xr dr) rfl bi (hm.xr dr) rfl (hm.ow 1 (some fV) 36 d1.1 [] (fun e=>nomatch e) an) cD gC (some gx) rfl (fun _=>⟨bt _,by simp⟩) (fun e=>nomatch e) (hm.ps (N:= [⟨some cD,29,cF f0 bj bi⟩,⟨some gC,77,[(.slice (sB gx) 0 0)]⟩,⟨(some gx),192,row ca ([]:List (av 2 Int)) []⟩]) [0,3,2]) (hm.xp dr (fun _=>cq) [0,3,2]) (hm.xp dr (fun _=>cq) [0,3,2]) (hm.oa 1 (some fV) (fun e=>nomatch e) [0,3,2]) iR) ?_)))))))))))))))))
 rintro w v w' hm ⟨vT,fH,l9,_,rfl,Cn,lq,rfl,bn⟩
 refine ⟨_,Mem.pick (hm.Jp (ps:= [(0,⟨some cD,29,cF f0 bj bi⟩),(3,⟨some gC,77,[(.slice (mB vT) aA.length fH)]⟩)]) (ds:= [2]) (N:= [⟨vT,192,row ca aA l9⟩]) bn [0,1,2] (by kernel_rfl) (by kernel_rfl) (by kernel_rfl)) (N:= [⟨some cD,29,cF f0 bj bi⟩,⟨(some fV),36,row aj d1.1 []⟩,⟨vT,192,row ca aA l9⟩,⟨some gC,77,[(.slice (mB vT) aA.length fH)]⟩]) [0,1,4,3] (by kernel_rfl) (by kernel_rfl),fB (eT (cT [3,0] (aI ?_)))⟩
 obtain rfl:=si h
 exact qr [] (fun w hm=>⟨vT,fH,l9,aA.length,rfl,Cn,lq,rfl,hm.pk [2]⟩)
def Fz.fk(f0:ae)(t1:List ai)(d2:av 96 Int)(aZ:List Int):Option ((List Int)×Bool):=(if((aZ.length:Int)==(t1.length:Int))=true then(F6 d2).bind fun tE=>(FbM t1).bind fun tF=>(if(tE==tF)=true then(RR f0 d2 0 (au f0.ag)).bind fun A6=>(FE A6 t1).bind fun E_=>(if E_=true then(RW f0 d2).bind fun Pu=>some (aZ,((Pu.length:Int)==0)) else some (aZ,false)) else some (aZ,false)) else some (aZ,false))
def Fz.y9(cK:Int)(mb:List Int):Option (((List Int)×Int)⊕((List Int))):=some (.inl (mb,(au (cK+1))))
def Fz.x7(aL:List Int)(bK:Int)(Mk:Bool):Option (((List Int)×Int)⊕((List Int))):=(if Mk=true then(if aL.length+([bK]:List Int).length≤4294967296 then some (.inl ((aL++([bK]:List Int)),(au (bK+1)))) else none) else some (.inl (aL,(au (bK+1)))))
def Fz.A9(f0:ae)(d2:av 96 Int)(pd:ai)(j7:Int):((List Int)×Int)→Option (((List Int)×Int)⊕((List Int)))
 | (aL,bK)=>(if(decide (bK<j7))=true then(E0 d2 (au pd.cd) bK).bind fun qM=>(if qM=true then(ix f0.aa bK).bind fun Ml=>Fz.x7 aL bK (Ml.aD==pd.aD) else Fz.x7 aL bK false) else some (.inr aL))
def Fz.ko(f0:ae)(t1:List ai)(d2:av 96 Int):((List Int)×Int)→Option (((List Int)×Int)⊕((List Int)))
 | (lR,cK)=>(if(decide (cK<(t1.length:Int)))=true then(ix t1 cK).bind fun pd=>(GR f0.aa).bind fun j7=>(loop (Fz.A9 f0 d2 pd j7) (lR,0)).bind fun acU=>Fz.y9 cK acU else some (.inr lR))
def Fz(f0:ae)(t1:List ai)(d2:av 96 Int):Option ((List Int)×Bool):=(loop (Fz.ko f0 t1 d2) (([]:List Int),0)).bind fun acV=>Fz.fk f0 t1 d2 acV
theorem Fz.c(f0:ae)(t1:List ai)(d2:av 96 Int)(w:World)(r:(List Int)×Bool){bj:Option Addr}{bm:Nat}(bi:Nat)(dr:Rw w bj 2 ay f0.aa)(cE:f0.aa.length=bm){bL:Option Addr}{bG:Nat}(bQ:Nat)(dL:Rw w bL 2 aF t1)(dU:t1.length=bG)(h:Fz f0 t1 d2=some r):
   Cr 64 #[(.agg #[(vH f0.ag),(.slice bj bm bi)]),(.slice bL bG bQ),(.agg (row aj d2.1 []).toArray)] w fun v w'=>∃(o0:Option Nat) (c0:Nat) (s0:List Value) (n0:Nat),r.1.length=n0∧(hS o0 n0 c0 s0 1)∧(hO o0 r.1 c0)∧v= .tuple #[.slice (mB o0) n0 c0,(.bool r.2)]∧Mem w [] [⟨o0,2,row aG r.1 s0⟩] w':=by
 subst cE dU
 rw [Fz] at h
 refine en Tryz.func64 rfl Tryz.ntmps64 (ad (ao (oA 0 (fun cD=>oA 0 (fun qu=>qh [0,0] (eT (ad (ao (oA 0 (fun vV=>qh [0] (eT (ad (cT [0,0,0] (aK (fun(j:(List Int)×(Option Nat)×Nat×(List Value)×Nat)=>match j with | ⟨aZ,j8,fh,dK,mW⟩=>Fz.fk f0 t1 d2 aZ=some r∧(aZ.length=mW)∧(hS j8 mW fh dK 1)∧(hO j8 aZ fh)) (fun⟨aZ,j8,fh,dK,mW⟩=> [(1,[],(.slice bL t1.length bQ)),(3,[],(vP cD)),(5,[],(vP qu)),(6,[],(.slice none 0 0)),(7,[],(.bool false)),(8,[],(.slice (mB j8) mW fh))]) (fun⟨aZ,j8,fh,dK,mW⟩=> [⟨some cD,29,cF f0 bj bi⟩,⟨(some qu),36,row aj d2.1 []⟩,⟨j8,2,row aG aZ dK⟩]) ?_ ?_))))))))))))))
 ·refine ap ?_
  obtain⟨acV,JY,acW⟩:=bd h
  refine jl (fun(s:(List Int)×Int) (x:(Option Nat)×Nat×(List Value)×Nat)=>match s,x with | ⟨lR,cK⟩,⟨gS,fS,fM,jY⟩=>(lR.length=jY)∧(hS gS jY fS fM 1)∧(hO gS lR fS)) (fun⟨lR,cK⟩ ⟨gS,fS,fM,jY⟩=> [(1,[],(.slice bL t1.length bQ)),(3,[],(vP cD)),(5,[],(vP qu)),(6,[],(.slice none 0 0)),(7,[],(.bool false)),(8,[],(.slice (mB gS) jY fS)),(13,[],(.slice bL t1.length bQ)),(14,[],(vI (t1.length:Int))),(15,[],(vI cK))]) (fun⟨lR,cK⟩ ⟨gS,fS,fM,jY⟩=> [⟨some cD,29,cF f0 bj bi⟩,⟨(some qu),36,row aj d2.1 []⟩,⟨gS,2,row aG lR fM⟩]) JY ⟨(some vV),0,[],0⟩ ⟨rfl,(fun _=>⟨bt _,by simp⟩),(fun e=>nomatch e)⟩ [0,1,2] ?_
  rintro⟨lR,cK⟩ ⟨gS,fS,fM,jY⟩ ahG ⟨rfl,Am,Dv⟩ h
  rw [Fz.ko] at h
  refine cT [0] (ad (qi h (fun h=> ?_) (fun h=> ?_)))
  ·refine kT (ad (ap (ad (ao (bE h fun pd tj h=>oX 0 bL 2 tj rfl (dL.sp tj) (oL 0 true (fun w hm=>((hm.xr dL).at tj)) (oA 0 (fun C9=>oS 0 [3] (eT (cR [0,0] (bE h fun j7 acX h=>oQ 0 (fun w hm=>GR.c f0.aa w _ bi (hm.xr dr) rfl acX) (qh [0] (eT (aK (fun(j:(List Int)×(Option Nat)×Nat×(List Value)×Nat)=>match j with | ⟨mb,pt,ec,jT,pZ⟩=>Fz.y9 cK mb=some ahG∧(mb.length=pZ)∧(hS pt pZ ec jT 1)∧(hO pt mb ec)) (fun⟨mb,pt,ec,jT,pZ⟩=> [(1,[],(.slice bL t1.length bQ)),(3,[],(vP cD)),(5,[],(vP qu)),(6,[],(.slice none 0 0)),(7,[],(.bool false)),(8,[],(.slice (mB pt) pZ ec)),(13,[],(.slice bL t1.length bQ)),(14,[],(vI (t1.length:Int))),(15,[],(vI cK))]) (fun⟨mb,pt,ec,jT,pZ⟩=> [⟨some cD,29,cF f0 bj bi⟩,⟨(some qu),36,row aj d2.1 []⟩,⟨pt,2,row aG mb jT⟩,⟨some C9,70,cN pd⟩]) ?_ ?_))))))))))))))
   ·refine ap ?_
    obtain⟨acU,RX,acY⟩:=bd h
    refine jl (fun(s:(List Int)×Int) (x:(Option Nat)×Nat×(List Value)×Nat)=>match s,x with | ⟨aL,bK⟩,⟨kj,et,eV,p6⟩=>(aL.length=p6)∧(hS kj p6 et eV 1)∧(hO kj aL et)) (fun⟨aL,bK⟩ ⟨kj,et,eV,p6⟩=> [(1,[],(.slice bL t1.length bQ)),(3,[],(vP cD)),(5,[],(vP qu)),(6,[],(.slice none 0 0)),(7,[],(.bool false)),(8,[],(.slice (mB kj) p6 et)),(10,[],(vP C9)),(13,[],(.slice bL t1.length bQ)),(14,[],(vI (t1.length:Int))),(15,[],(vI cK)),(21,[],(vI j7)),(22,[],(vI bK))]) (fun⟨aL,bK⟩ ⟨kj,et,eV,p6⟩=> [⟨some cD,29,cF f0 bj bi⟩,⟨(some qu),36,row aj d2.1 []⟩,⟨kj,2,row aG aL eV⟩,⟨some C9,70,cN pd⟩]) RX ⟨gS,fS,fM,lR.length⟩ ⟨rfl,Am,Dv⟩ [0,1,2,3] ?_
    rintro⟨aL,bK⟩ ⟨kj,et,eV,p6⟩ ahH ⟨rfl,na,mG⟩ h
    rw [Fz.A9] at h
    refine cT [0] (ad (qi h (fun h=> ?_) (fun h=> ?_)))
    ·refine kT (ad (ap (cT [0,0] (ad (aK (fun(Mk:Bool)=>Fz.x7 aL bK Mk=some ahH) (fun Mk=> [(1,[],(.slice bL t1.length bQ)),(3,[],(vP cD)),(5,[],(vP qu)),(6,[],(.slice none 0 0)),(7,[],(.bool false)),(8,[],(.slice (mB kj) aL.length et)),(10,[],(vP C9)),(11,[],(vI bK)),(13,[],(.slice bL t1.length bQ)),(14,[],(vI (t1.length:Int))),(15,[],(vI cK)),(21,[],(vI j7)),(22,[],(vI bK)),(40,[],(.bool Mk))]) (fun Mk=> [⟨some cD,29,cF f0 bj bi⟩,⟨(some qu),36,row aj d2.1 []⟩,⟨kj,2,row aG aL eV⟩,⟨some C9,70,cN pd⟩]) ?_ ?_)))))
     ·refine qg [⟨some cD,29,cF f0 bj bi⟩,⟨(some qu),36,row aj d2.1 []⟩,⟨kj,2,row aG aL eV⟩,⟨some C9,70,cN pd⟩] 16 (qd [⟨0,0,0⟩,⟨1,3,0⟩,⟨2,0,0⟩,⟨3,0,0⟩] 12 [0,1,2,3] (bE h fun qM acZ h=>dQ 4 0 (fun w hm=>E0.c d2 (au pd.cd) bK w _ (hm.ow 1 (some qu) 36 d2.1 [] (fun e=>nomatch e) an) acZ) [0,1,2,3] (qd [⟨5,0,0⟩,⟨6,0,1⟩,⟨7,0,1⟩,⟨8,0,1⟩,⟨12,0,1⟩,⟨13,3,1⟩] 5 [0,1,2,3] (js 30 qM (fun GV=> ?_) (fun GV=> ?_)))))
      ·replace h:=yi GV h
       exact bE h fun Ml BT h=>qX 9 2 [0,1,2,3] bj 2 BT rfl (dr.sp BT) (qd [⟨10,0,2⟩] 3 [0,1,2,3] (qL 11 2 [0,1,2,3] false (fun w hm=>((hm.xr dr).at BT).sub 0 1) (qd [⟨14,0,2⟩,⟨15,0,4⟩] 0 [0,1,2,3] (qz (qm (Ml.aD==pd.aD) h [0,1,2,3])))))
      ·replace h:=yj GV h
       exact qd [⟨9,0,3⟩,⟨10,0,3⟩,⟨11,0,3⟩,⟨14,0,3⟩,⟨15,0,5⟩] 0 [0,1,2,3] (qz (qm false h [0,1,2,3]))
     ·rintro Mk h
      unfold Fz.x7 at h
      refine aP (qi h (fun h=> ?_) (fun h=> ?_))
      ·refine cH [0,0] (oA 0 (fun Dw=>?_))
       obtain⟨RY,h⟩:=gd h
       exact tO (pA 0 2 kj 2 aL.length 1 et 1 8 (sB Dw) aG aL ([bK]:List Int) eV (vI 0) rfl rfl bf fT na mG (fun w hm=>(hm.ow 4 (some Dw) 2 ([bK]:List Int) [] (fun e=>nomatch e) bf)) RY (fun aav Mm RZ BK BL=>oH [0] (qe (nT (cH [0,0] (qe (qb ((aL++([bK]:List Int)),(au (bK+1))) ⟨aav,Mm,RZ,(aL++([bK]:List Int)).length⟩ h ⟨rfl,BK,BL⟩ [0,1,2,3])))))))
      ·exact bV (nT (cH [0,0] (qe (qb (aL,(au (bK+1))) ⟨kj,et,eV,aL.length⟩ h ⟨rfl,na,mG⟩ [0,1,2,3]))))
    ·exact lX aL h (fun e=>by subst e;exact bo (qm ⟨aL,kj,et,eV,aL.length⟩ ⟨acY,rfl,na,mG⟩ [0,1,2,3]))
   ·rintro⟨mb,pt,ec,jT,pZ⟩ ⟨h,rfl,JZ,Dx⟩
    unfold Fz.y9 at h
    exact nT (cH [0,0] (qe (qb (mb,(au (cK+1))) ⟨pt,ec,jT,mb.length⟩ h ⟨rfl,JZ,Dx⟩ [0,1,2])))
  ·exact lX lR h (fun e=>by subst e;exact bo (qm ⟨lR,gS,fS,fM,lR.length⟩ ⟨acW,rfl,Am,Dv⟩ [0,1,2]))
 ·rintro⟨aZ,j8,fh,dK,mW⟩ ⟨h,rfl,Ab,se⟩
  unfold Fz.fk at h
  refine aP (cR [0,0,0,0,0,0,0] (qp 53 h (fun h=> ?_) (fun h=> ?_)))
  ·refine tO (pL 2 1 qu 96 1 36 aj d2 an (fB (bE h fun tE Dy h=>oQ 2 (fun w hm=>F6.c d2 w _ Dy) (qf [(0,2)] (bE h fun tF R0 h=>oQ 2 (fun w hm=>FbM.c t1 w _ bQ (hm.xr dL) rfl R0) (qf [(0,2),(0,4),(0,0),(0,1)] (qp 60 h (fun h=> ?_) (fun h=> ?_))))))))
   ·refine tO (pL 2 1 qu 96 1 36 aj d2 an (fB (qf [(0,2),(0,2),(0,2)] (bE h fun A6 J0 h=>oC 2 (fun w hm=>RR.c f0 d2 0 (au f0.ag) w _ bi (hm.xr dr) rfl J0) ?_))))
    rintro w v w' hm ⟨Pv,Mn,R1,_,rfl,aju,ac0,rfl,bn⟩
    refine aq hm bn (fB (qf [(0,2)] (bE h fun E_ R2 h=>oQ 2 (fun w hm=>FE.c A6 t1 w _ Mn (hm.ow 3 Pv 70 A6 R1 (fun e=>(ac0 e).1) br) rfl bQ (hm.xr dL) rfl R2) (qf [(0,4),(0,0),(0,1)] (qp 70 h (fun h=> ?_) (fun h=> ?_))))))
    ·refine tO (pL 2 1 qu 96 1 36 aj d2 an (fB (bE h fun Pu ac1 h=>oC 2 (fun w hm=>RW.c f0 d2 w _ bi (hm.xr dr) rfl ac1) ?_)))
     rintro w v w' hm ⟨aaw,Mo,R3,_,rfl,ajv,G2,rfl,bn⟩
     refine aq hm bn (fB (qf [(0,2),(0,2),(0,4),(0,0),(0,0)] (eT (aI ?_))))
     obtain rfl:=si h
     exact qr [] (fun w hm=>⟨j8,fh,dK,aZ.length,rfl,Ab,se,rfl,hm.pk [2]⟩)
    ·refine qf [(0,3),(0,3),(0,3),(0,3),(0,5),(0,0),(0,0)] (eT (aI ?_))
     obtain rfl:=si h
     exact qr [] (fun w hm=>⟨j8,fh,dK,aZ.length,rfl,Ab,se,rfl,hm.pk [2]⟩)
   ·refine qf [(0,3),(0,3),(0,3),(0,3),(0,3),(0,3),(0,3),(0,5),(0,0),(0,3),(0,3),(0,3),(0,3),(0,3),(0,5),(0,0),(0,0)] (eT (aI ?_))
    obtain rfl:=si h
    exact qr [] (fun w hm=>⟨j8,fh,dK,aZ.length,rfl,Ab,se,rfl,hm.pk [2]⟩)
  ·refine qf [(0,3),(0,3),(0,3),(0,3),(0,3),(0,5),(0,0),(0,3),(0,3),(0,3),(0,3),(0,3),(0,3),(0,3),(0,3),(0,5),(0,0),(0,3),(0,3),(0,3),(0,3),(0,3),(0,5),(0,0),(0,0)] (eT (aI ?_))
   obtain rfl:=si h
   exact qr [] (fun w hm=>⟨j8,fh,dK,aZ.length,rfl,Ab,se,rfl,hm.pk [2]⟩)
def QV(f0:ae)(t1:List ai)(d2:av 96 Int):Option (Bool×Int):=(F8 f0 t1 0 ([d2]:List (av 96 Int))).bind fun bz=>(if(bz !=0)=true then some (false,bz) else(Fz f0 t1 d2).bind fun aA=>some (aA.2,0))
theorem QV.c(f0:ae)(t1:List ai)(d2:av 96 Int)(w:World)(r:Bool×Int){bj:Option Addr}{bm:Nat}(bi:Nat)(dr:Rw w bj 2 ay f0.aa)(cE:f0.aa.length=bm){bL:Option Addr}{bG:Nat}(bQ:Nat)(dL:Rw w bL 2 aF t1)(dU:t1.length=bG)(h:QV f0 t1 d2=some r):
   Cr 30 #[(.agg #[(vH f0.ag),(.slice bj bm bi)]),(.slice bL bG bQ),(.agg (row aj d2.1 []).toArray)] w fun v w'=>v= .tuple #[(.bool r.1),(vI r.2)]∧Mem w [] [] w':=by
 subst cE dU
 rw [QV] at h
 refine en Tryz.func30 rfl Tryz.ntmps30 (ad (ao (oA 0 (fun fa=>oA 0 (fun cD=>qh [0,0] (eT (ad (cR [0,0] (tO (pL 0 1 cD 96 1 36 aj d2 an (fB (tO (Rq 0 36 96 1 da [(.agg (row aj d2.1 []).toArray)] [d2] rfl dD (fun fV=>fB (bE h fun bz jP h=>oQ 0 (fun w hm=>F8.c f0 t1 0 ([d2]:List (av 96 Int)) w _ bi (hm.xr dr) rfl bQ (hm.xr dL) rfl 1 (hm.ow 2 (some fV) 36 ([d2]:List (av 96 Int)) [] (fun e=>nomatch e) dD) rfl jP) (qh [0] (eT (cT [0,0] (qi h (fun h=> ?_) (fun h=> ?_))))))))))))))))))))
 ·refine cT [0,0,0] (rX ?_)
  cases h
  exact qP []
 ·refine kT (cR [0,0] (tO (pL 0 1 cD 96 1 36 aj d2 an (fB (bE h fun aA jD h=>oC 0 (fun w hm=>Fz.c f0 t1 d2 w _ bi (hm.xr dr) rfl bQ (hm.xr dL) rfl jD) ?_)))))
  rintro w v w' hm ⟨lU,gK,rJ,_,rfl,Cn,lq,rfl,bn⟩
  refine aq hm bn (oH [0,0,0,0,0] (eT (cT [0,0,0] (aI ?_))))
  cases h
  exact qP []
def FY.fk(F_:av 96 Int):Option ((av 96 Int)):=some F_
def FY.fY(e1:av 96 Int):((av 96 Int)×Int)→Option (((av 96 Int)×Int)⊕((av 96 Int)))
 | (gJ,bK)=>(if(decide (bK<96))=true then(ix e1.1 bK).bind fun pg=>(ix gJ.1 bK).bind fun pd=>(ix gJ.1 bK).bind fun wh=>some (.inl ((av.set gJ bK (kl .u32 pd pg)),(au (bK+1)))) else some (.inr gJ))
def FY(d0:av 96 Int)(e1:av 96 Int):Option ((av 96 Int)):=(loop (FY.fY e1) (d0,0)).bind fun i_=>FY.fk i_
theorem FY.c(d0:av 96 Int)(e1:av 96 Int)(w:World)(r:(av 96 Int))(h:FY d0 e1=some r):
   Cq 67 #[(.agg (row aj d0.1 []).toArray),(.agg (row aj e1.1 []).toArray)] w (.agg (row aj r.1 []).toArray) [] []:=by
 rw [FY] at h
 refine en Tryz.func67 rfl Tryz.ntmps67 (ad (ao (oA 0 (fun fa=>oA 0 (fun qu=>oA 0 (fun cD=>eT (s2 (ao (tO (pL 0 1 qu 96 1 36 aj e1 an (oH [0] (eT (aK (fun(F_:(av 96 Int))=>FY.fk F_=some r) (fun F_=> [(2,[],(vP fa)),(4,[],(vP cD))]) (fun F_=> [⟨(some fa),36,row aj F_.1 []⟩,⟨(some qu),36,row aj e1.1 []⟩,⟨(some cD),36,row aj ((av.dC 96 0).1) []⟩]) ?_ ?_)))))))))))))
 ·refine ap ?_
  obtain⟨i_,mF,Dd⟩:=bd h
  refine jl (fun(s:(av 96 Int)×Int) (x:Unit)=>match s,x with | ⟨gJ,bK⟩,_=>True) (fun⟨gJ,bK⟩ _=> [(2,[],(vP fa)),(4,[],(vP cD)),(7,[],(.agg (row aj e1.1 []).toArray)),(8,[],(vI bK))]) (fun⟨gJ,bK⟩ _=> [⟨(some fa),36,row aj gJ.1 []⟩,⟨(some qu),36,row aj e1.1 []⟩,⟨(some cD),36,row aj ((av.dC 96 0).1) []⟩]) mF () trivial [0,1,2] ?_
  rintro⟨gJ,bK⟩ _ Wx _ h
  rw [FY.fY] at h
  refine cT [0] (ad (qi h (fun h=> ?_) (fun h=> ?_)))
  ·exact kT (ad (ap (cR [0] (bE h fun pg vv h=>tO (pX 0 aj (fun x=>(vU x)) e1 bK (fun _=>rfl) vv (oH [0,0] (eT (cH [0] (bE h fun pd kW h=>oX 0 (sB fa) 1 kW gJ.2 rfl (oL 0 false (fun w hm=>((hm.ow 0 (some fa) 36 gJ.1 [] (fun e=>nomatch e) an).at kW)) (qh [0,0] (bE h fun wh kV h=>oX 0 (sB fa) 1 kV gJ.2 rfl (tO (pT 0 0 fa 36 aj gJ.1 [] bK (kl .u32 pd pg) 1 0 [(vU (kl .u32 pd pg))] an kV (fB (qe (nT (cH [0,0] (qe (qb ((av.set gJ bK (kl .u32 pd pg)),(au (bK+1))) () h trivial [0,1,2]))))))))))))))))))))
  ·exact lX gJ h (fun e=>by subst e;exact bo (qm gJ Dd [0,1,2]))
 ·rintro F_ h
  unfold FY.fk at h
  refine aP (ad (ao (tO (pL 0 0 fa 96 1 36 aj F_ an (fB (tO (pS 0 2 cD 96 1 36 aj (av.dC 96 0) F_ an bk (fB (eT (aI ?_))))))))))
  obtain rfl:=si h
  exact gH rfl (ra (b:=cD) (T':=36) (hh:=2) (mm:=1) aj F_ an iP) (fun w hm=>⟨rfl,hm.pk []⟩)
def Fbt(iJ:Int)(gO:Int)(p2:List (av 2 Int)):Option ((List (av 2 Int))):=(if p2.length+([(av.set (av.set (av.dC 2 0) 0 iJ) 1 gO)]:List (av 2 Int)).length≤4294967296 then some (p2++([(av.set (av.set (av.dC 2 0) 0 iJ) 1 gO)]:List (av 2 Int))) else none)
theorem Fbt.c(iJ:Int)(gO:Int)(p2:List (av 2 Int))(w:World)(r:(List (av 2 Int)))(jh:Nat)(C_o:Option Nat){aax:Nat}{bi:Nat}{aay:List Value}(cE:p2.length=aax)(wU:hS C_o aax bi aay 2)(ahI:hO C_o p2 bi)(fG:Mem w (bs [some jh,C_o]) [⟨some jh,77,[(.slice (mB C_o) aax bi)]⟩,⟨C_o,192,row ca p2 aay⟩] w)(h:Fbt iJ gO p2=some r):
   Cr 133 #[(vI iJ),(vI gO),(vP jh)] w fun v w'=>∃(Ae:Option Nat) (Dr:Nat) (JQ:List Value) (Ds:Nat),r.length=Ds∧(hS Ae Ds Dr JQ 2)∧(hO Ae r Dr)∧v= .tuple #[]∧Mem w (bs [some jh,C_o]) [⟨some jh,77,[(.slice (mB Ae) Ds Dr)]⟩,⟨Ae,192,row ca r JQ⟩] w':=by
 subst cE
 rw [Fbt] at h
 refine eN Tryz.func133 rfl Tryz.ntmps133 fG (cH [0,0,0,0] (tO (Rq 0 192 2 1 ca [(.agg (row aG (av.set (av.set (av.dC 2 0) 0 iJ) 1 gO).1 []).toArray)] [(av.set (av.set (av.dC 2 0) 0 iJ) 1 gO)] rfl jO (fun cD=>fB ?_))))
 obtain⟨L7,h⟩:=gd h
 refine tO (pA 0 1 C_o 192 p2.length 1 bi 2 16 (sB cD) ca p2 ([(av.set (av.set (av.dC 2 0) 0 iJ) 1 gO)]:List (av 2 Int)) aay (.agg (row aG (av.dC 2 0).1 []).toArray) rfl rfl jO tA wU ahI (fun w hm=>(hm.ow 2 (some cD) 192 ([(av.set (av.set (av.dC 2 0) 0 iJ) 1 gO)]:List (av 2 Int)) [] (fun e=>nomatch e) jO)) L7 (fun qR ac2 A_ aaz u7=>fB (oS 0 [0] (qe (gn ?_)))))
 obtain rfl:=si h
 exact qr [] (fun w hm=>⟨qR,ac2,A_,((p2++([(av.set (av.set (av.dC 2 0) 0 iJ) 1 gO)]:List (av 2 Int))).length),rfl,aaz,u7,rfl,hm.pk [0,1]⟩)
def Fg.fk(aL:List (av 2 Int)):Option ((List (av 2 Int))):=some aL
def Fg.og(aR:Int)(dc:List (av 2 Int)):Option (((List (av 2 Int))×Int)⊕((List (av 2 Int)))):=some (.inl (dc,(au (aR+1))))
def Fg.jX(d1:av 96 Int)(aR:Int)(lD:Int):((List (av 2 Int))×Int)→Option (((List (av 2 Int))×Int)⊕((List (av 2 Int))))
 | (a7,cK)=>(if(decide (cK<lD))=true then(E0 d1 aR cK).bind fun mj=>(if mj=true then(Fbt aR cK a7).bind fun eO=>some (.inl (eO,(au (cK+1)))) else some (.inl (a7,(au (cK+1))))) else some (.inr a7))
def Fg.fY(f0:ae)(d1:av 96 Int):((List (av 2 Int))×Int)→Option (((List (av 2 Int))×Int)⊕((List (av 2 Int))))
 | (b_,aR)=>(if(decide (aR<(au f0.ag)))=true then(GR f0.aa).bind fun lD=>(loop (Fg.jX d1 aR lD) (b_,0)).bind fun qM=>Fg.og aR qM else some (.inr b_))
def Fg(f0:ae)(d1:av 96 Int)(dR:List (av 2 Int)):Option ((List (av 2 Int))):=(loop (Fg.fY f0 d1) (dR,0)).bind fun sn=>Fg.fk sn
theorem Fg.c(f0:ae)(d1:av 96 Int)(dR:List (av 2 Int))(w:World)(r:(List (av 2 Int))){bj:Option Addr}{bm:Nat}(bi:Nat)(dr:Rw w bj 2 ay f0.aa)(cE:f0.aa.length=bm)(dY:Nat)(HY:Option Nat){Me:Nat}{eA:Nat}{HZ:List Value}(ga:dR.length=Me)(gU:hS HY Me eA HZ 2)(RL:hO HY dR eA)(fG:Mem w (bs [some dY,HY]) [⟨some dY,77,[(.slice (mB HY) Me eA)]⟩,⟨HY,192,row ca dR HZ⟩] w)(fx:f0.aa≠ []→aB bj∉bs [some dY,HY])(h:Fg f0 d1 dR=some r):
   Cr 132 #[(.agg #[(vH f0.ag),(.slice bj bm bi)]),(.agg (row aj d1.1 []).toArray),(.func (.func 133) #[] #[(vP dY)])] w fun v w'=>∃(Ae:Option Nat) (Dr:Nat) (JQ:List Value) (Ds:Nat),r.length=Ds∧(hS Ae Ds Dr JQ 2)∧(hO Ae r Dr)∧v= .tuple #[]∧Mem w (bs [some dY,HY]) [⟨some dY,77,[(.slice (mB Ae) Ds Dr)]⟩,⟨Ae,192,row ca r JQ⟩] w':=by
 subst cE ga
 rw [Fg] at h
 refine eN Tryz.func132 rfl Tryz.ntmps132 fG (ad (ao (oA 0 (fun fa=>oA 0 (fun rO=>eT (cT [0,2,0,0] (aK (fun(j:(List (av 2 Int))×(Option Nat)×Nat×(List Value)×Nat)=>match j with | ⟨aL,fj,ct,fM,pY⟩=>Fg.fk aL=some r∧(aL.length=pY)∧(hS fj pY ct fM 2)∧(hO fj aL ct)) (fun⟨aL,fj,ct,fM,pY⟩=> []) (fun⟨aL,fj,ct,fM,pY⟩=> [⟨some dY,77,[(.slice (mB fj) pY ct)]⟩,⟨fj,192,row ca aL fM⟩,⟨some fa,29,cF f0 bj bi⟩,⟨(some rO),36,row aj d1.1 []⟩]) ?_ ?_)))))))
 ·refine ap ?_
  obtain⟨sn,oO,Ai⟩:=bd h
  refine jl (fun(s:(List (av 2 Int))×Int) (x:(Option Nat)×Nat×(List Value)×Nat)=>match s,x with | ⟨b_,aR⟩,⟨gI,cu,eZ,lm⟩=>(b_.length=lm)∧(hS gI lm cu eZ 2)∧(hO gI b_ cu)) (fun⟨b_,aR⟩ ⟨gI,cu,eZ,lm⟩=> [(2,[],(.func (.func 133) #[] #[(vP dY)])),(3,[],(vP fa)),(4,[],(vP rO)),(10,[],(vI (au f0.ag))),(11,[],(vI aR))]) (fun⟨b_,aR⟩ ⟨gI,cu,eZ,lm⟩=> [⟨some dY,77,[(.slice (mB gI) lm cu)]⟩,⟨gI,192,row ca b_ eZ⟩,⟨some fa,29,cF f0 bj bi⟩,⟨(some rO),36,row aj d1.1 []⟩]) oO ⟨HY,eA,HZ,dR.length⟩ ⟨rfl,gU,RL⟩ [0,1,2,3] ?_
  rintro⟨b_,aR⟩ ⟨gI,cu,eZ,lm⟩ L3 ⟨rfl,na,mG⟩ h
  rw [Fg.fY] at h
  refine cT [0] (ad (qi h (fun h=> ?_) (fun h=> ?_)))
  ·refine kT (ad (ap (cT [0,0] (cR [0,2] (bE h fun lD Aj h=>oQ 0 (fun w hm=>GR.c f0.aa w _ bi (hm.aM dr fx) rfl Aj) (qh [0] (eT (aK (fun(j:(List (av 2 Int))×(Option Nat)×Nat×(List Value)×Nat)=>match j with | ⟨dc,mA,fw,hQ,jY⟩=>Fg.og aR dc=some L3∧(dc.length=jY)∧(hS mA jY fw hQ 2)∧(hO mA dc fw)) (fun⟨dc,mA,fw,hQ,jY⟩=> [(2,[],(.func (.func 133) #[] #[(vP dY)])),(3,[],(vP fa)),(4,[],(vP rO)),(10,[],(vI (au f0.ag))),(11,[],(vI aR))]) (fun⟨dc,mA,fw,hQ,jY⟩=> [⟨some dY,77,[(.slice (mB mA) jY fw)]⟩,⟨mA,192,row ca dc hQ⟩,⟨some fa,29,cF f0 bj bi⟩,⟨(some rO),36,row aj d1.1 []⟩]) ?_ ?_))))))))
   ·refine ap ?_
    obtain⟨qM,qO,vr⟩:=bd h
    refine jl (fun(s:(List (av 2 Int))×Int) (x:(Option Nat)×Nat×(List Value)×Nat)=>match s,x with | ⟨a7,cK⟩,⟨gp,dv,dN,lp⟩=>(a7.length=lp)∧(hS gp lp dv dN 2)∧(hO gp a7 dv)) (fun⟨a7,cK⟩ ⟨gp,dv,dN,lp⟩=> [(2,[],(.func (.func 133) #[] #[(vP dY)])),(3,[],(vP fa)),(4,[],(vP rO)),(6,[],(vI aR)),(10,[],(vI (au f0.ag))),(11,[],(vI aR)),(16,[],(vI lD)),(17,[],(vI cK))]) (fun⟨a7,cK⟩ ⟨gp,dv,dN,lp⟩=> [⟨some dY,77,[(.slice (mB gp) lp dv)]⟩,⟨gp,192,row ca a7 dN⟩,⟨some fa,29,cF f0 bj bi⟩,⟨(some rO),36,row aj d1.1 []⟩]) qO ⟨gI,cu,eZ,b_.length⟩ ⟨rfl,na,mG⟩ [0,1,2,3] ?_
    rintro⟨a7,cK⟩ ⟨gp,dv,dN,lp⟩ Mh ⟨rfl,tm,iz⟩ h
    rw [Fg.jX] at h
    refine cT [0] (ad (qi h (fun h=> ?_) (fun h=> ?_)))
    ·refine kT (ad (ap (cT [0,0] (cR [0,0] (bE h fun mj oT h=>oQ 0 (fun w hm=>E0.c d1 aR cK w _ (hm.ow 3 (some rO) 36 d1.1 [] (fun e=>nomatch e) an) oT) (eT (qi h (fun h=> ?_) (fun h=> ?_))))))))
     ·refine cH [0,0,0] (bE h fun eO sg h=>oC 0 (fun w hm=>Fbt.c aR cK a7 w _ dY gp rfl tm iz (hm.ps (N:= [⟨some dY,77,[(.slice (mB gp) a7.length dv)]⟩,⟨gp,192,row ca a7 dN⟩]) [0,1]) sg) ?_)
      rintro w v w' hm ⟨nw,h_,kS,_,rfl,vt,nW,rfl,bn⟩
      exact ⟨_,Mem.pick (hm.Jp (ps:= [(0,⟨some dY,77,[(.slice (mB nw) eO.length h_)]⟩)]) (ds:= [1]) (N:= [⟨nw,192,row ca eO kS⟩]) bn [0,1] (by kernel_rfl) (by kernel_rfl) (by kernel_rfl)) (N:= [⟨some dY,77,[(.slice (mB nw) eO.length h_)]⟩,⟨nw,192,row ca eO kS⟩,⟨some fa,29,cF f0 bj bi⟩,⟨(some rO),36,row aj d1.1 []⟩]) [0,4,2,3] (by kernel_rfl) (by kernel_rfl),fB (qe (nT (cH [0,0] (qe (qb (eO,(au (cK+1))) ⟨nw,h_,kS,eO.length⟩ h ⟨rfl,vt,nW⟩ [0,1,2,3])))))⟩
     ·exact bV (nT (cH [0,0] (qe (qb (a7,(au (cK+1))) ⟨gp,dv,dN,a7.length⟩ h ⟨rfl,tm,iz⟩ [0,1,2,3]))))
    ·exact lX a7 h (fun e=>by subst e;exact bo (qm ⟨a7,gp,dv,dN,a7.length⟩ ⟨vr,rfl,tm,iz⟩ [0,1,2,3]))
   ·rintro⟨dc,mA,fw,hQ,jY⟩ ⟨h,rfl,to,nX⟩
    unfold Fg.og at h
    exact nT (cH [0,0] (qe (qb (dc,(au (aR+1))) ⟨mA,fw,hQ,dc.length⟩ h ⟨rfl,to,nX⟩ [0,1,2,3])))
  ·exact lX b_ h (fun e=>by subst e;exact bo (qm ⟨b_,gI,cu,eZ,b_.length⟩ ⟨Ai,rfl,na,mG⟩ [0,1,2,3]))
 ·rintro⟨aL,fj,ct,fM,pY⟩ ⟨h,rfl,z7,th⟩
  unfold Fg.fk at h
  refine gn ?_
  obtain rfl:=si h
  exact qr [] (fun w hm=>⟨fj,ct,fM,aL.length,rfl,z7,th,rfl,hm.pk [0,1]⟩)
def WH(f0:ae)(d1:av 96 Int):Option ((List (av 2 Int))):=(Fg f0 d1 ([]:List (av 2 Int))).bind fun aA=>some aA
theorem WH.c(f0:ae)(d1:av 96 Int)(w:World)(r:(List (av 2 Int))){bj:Option Addr}{bm:Nat}(bi:Nat)(dr:Rw w bj 2 ay f0.aa)(cE:f0.aa.length=bm)(h:WH f0 d1=some r):
   Cr 66 #[(.agg #[(vH f0.ag),(.slice bj bm bi)]),(.agg (row aj d1.1 []).toArray)] w fun v w'=>∃(o0:Option Nat) (c0:Nat) (s0:List Value) (n0:Nat),r.length=n0∧(hS o0 n0 c0 s0 2)∧(hO o0 r c0)∧v= .slice (mB o0) n0 c0∧Mem w [] [⟨o0,192,row ca r s0⟩] w':=by
 subst cE
 rw [WH] at h
 refine en Tryz.func66 rfl Tryz.ntmps66 (ad (ao (oA 0 (fun cD=>oA 0 (fun ur=>qh [0] (eT (ad (ao (oA 0 (fun gC=>oA 0 (fun fV=>oS 0 [3] (eT (cR [0] (tO (pL 0 1 ur 96 1 36 aj d1 an (oH [0] (bE h fun aA iR h=>oC 0 (fun w hm=>Fg.c f0 d1 ([]:List (av 2 Int)) w _ bi (hm.xr dr) rfl fV (some gC) rfl (fun _=>⟨bt _,by simp⟩) (fun e=>nomatch e) (hm.ps (N:= [⟨some fV,77,[(.slice (sB gC) 0 0)]⟩,⟨(some gC),192,row ca ([]:List (av 2 Int)) []⟩]) [3,2]) (hm.xp dr (fun _=>cq) [3,2]) iR) ?_)))))))))))))))))
 rintro w v w' hm ⟨vT,l_,s9,_,rfl,Cn,lq,rfl,bn⟩
 refine ⟨_,Mem.pick (hm.Jp (ps:= [(3,⟨some fV,77,[(.slice (mB vT) aA.length l_)]⟩)]) (ds:= [2]) (N:= [⟨vT,192,row ca aA s9⟩]) bn [0,1] (by kernel_rfl) (by kernel_rfl) (by kernel_rfl)) (N:= [⟨some cD,29,cF f0 bj bi⟩,⟨(some ur),36,row aj d1.1 []⟩,⟨vT,192,row ca aA s9⟩,⟨some fV,77,[(.slice (mB vT) aA.length l_)]⟩]) [0,1,4,3] (by kernel_rfl) (by kernel_rfl),fB (eT (cT [3,0] (aI ?_)))⟩
 obtain rfl:=si h
 exact qr [] (fun w hm=>⟨vT,l_,s9,aA.length,rfl,Cn,lq,rfl,hm.pk [2]⟩)
def R4(f0:ae)(a1:av 96 Int)(b2:av 96 Int):Option ((List (av 2 Int))×(List (av 2 Int))×Int):=(GU f0 ([a1,b2]:List (av 96 Int))).bind fun dj=>(if(dj !=0)=true then some ([],[],dj) else(FY a1 b2).bind fun aA=>(WH f0 aA).bind fun bz=>(FY b2 a1).bind fun dz=>(WH f0 dz).bind fun eo=>some (bz,eo,0))
theorem R4.c(f0:ae)(a1:av 96 Int)(b2:av 96 Int)(w:World)(r:(List (av 2 Int))×(List (av 2 Int))×Int){bj:Option Addr}{bm:Nat}(bi:Nat)(dr:Rw w bj 2 ay f0.aa)(cE:f0.aa.length=bm)(h:R4 f0 a1 b2=some r):
   Cr 31 #[(.agg #[(vH f0.ag),(.slice bj bm bi)]),(.agg (row aj a1.1 []).toArray),(.agg (row aj b2.1 []).toArray)] w fun v w'=>∃(o0:Option Nat) (c0:Nat) (s0:List Value) (n0:Nat),r.1.length=n0∧(hS o0 n0 c0 s0 2)∧(hO o0 r.1 c0)∧∃(o1:Option Nat) (c1:Nat) (s1:List Value) (n1:Nat),r.2.1.length=n1∧(hS o1 n1 c1 s1 2)∧(hO o1 r.2.1 c1)∧v= .tuple #[.slice (mB o0) n0 c0, .slice (mB o1) n1 c1,(vI r.2.2)]∧Mem w [] [⟨o0,192,row ca r.1 s0⟩,⟨o1,192,row ca r.2.1 s1⟩] w':=by
 subst cE
 rw [R4] at h
 refine en Tryz.func31 rfl Tryz.ntmps31 (ad (ao (oA 0 (fun fV=>oA 0 (fun cD=>oA 0 (fun fa=>qh [0,0,0] (eT (ad (cR [0] (tO (pL 0 1 cD 96 1 36 aj a1 an (fB (tO (pL 0 2 fa 96 1 36 aj b2 an (fB (tO (Rq 0 36 96 2 da [(.agg (row aj a1.1 []).toArray),(.agg (row aj b2.1 []).toArray)] [a1,b2] rfl dD (fun qu=>fB (bE h fun dj km h=>oQ 0 (fun w hm=>GU.c f0 ([a1,b2]:List (av 96 Int)) w _ bi (hm.xr dr) rfl 2 (hm.ow 3 (some qu) 36 ([a1,b2]:List (av 96 Int)) [] (fun e=>nomatch e) dD) rfl km) (qh [0] (eT (cT [0,0] (qi h (fun h=> ?_) (fun h=> ?_))))))))))))))))))))))))
 ·refine cT [0,0,0,0] (rX ?_)
  obtain rfl:=si h
  exact lg 192 ca (lg 192 ca (qr [] (fun w hm=>⟨none,0,[],0,rfl,(fun e=>absurd rfl e),(fun _=>⟨rfl,rfl⟩),none,0,[],0,rfl,(fun e=>absurd rfl e),(fun _=>⟨rfl,rfl⟩),rfl,hm.pk [4,5]⟩)))
 ·refine kT (ad (qg [⟨some fV,29,cF f0 bj bi⟩,⟨(some cD),36,row aj a1.1 []⟩,⟨(some fa),36,row aj b2.1 []⟩,⟨(some qu),36,row da ([a1,b2]:List (av 96 Int)) []⟩] 13 (qd [⟨0,0,0⟩,⟨5,0,0⟩] 11 [0,1,2,3] (qv 1 0 [0,1,2,3] (fun w hm=>jM (b:=cD) (off:=0) (s:=96) (agg:=true) (vs:=row aj a1.1 []) (by kernel_rfl) ((gG an a1).trans rfl) (.inl rfl) (hm.all (hh:=1) (T:=36) (by kernel_rfl))) (qv 2 0 [0,1,2,3] (fun w hm=>jM (b:=fa) (off:=0) (s:=96) (agg:=true) (vs:=row aj b2.1 []) (by kernel_rfl) ((gG an b2).trans rfl) (.inl rfl) (hm.all (hh:=2) (T:=36) (by kernel_rfl))) (qv 6 0 [0,1,2,3] (fun w hm=>jM (b:=fa) (off:=0) (s:=96) (agg:=true) (vs:=row aj b2.1 []) (by kernel_rfl) ((gG an b2).trans rfl) (.inl rfl) (hm.all (hh:=2) (T:=36) (by kernel_rfl))) (qv 7 0 [0,1,2,3] (fun w hm=>jM (b:=cD) (off:=0) (s:=96) (agg:=true) (vs:=row aj a1.1 []) (by kernel_rfl) ((gG an a1).trans rfl) (.inl rfl) (hm.all (hh:=1) (T:=36) (by kernel_rfl))) (bE h fun aA iR h=>dQ 3 0 (fun w hm=>FY.c a1 b2 w _ iR) [0,1,2,3] (bE h fun bz u5 h=>tD 4 (pc 0 (fun w hm=>WH.c f0 aA w _ bi (hm.xr dr) rfl u5) ?_))))))))))
  rintro w v w' hm ⟨j8,fh,eQ,_,rfl,vw,kU,rfl,bn⟩
  refine aq hm bn (kD [0,1,2,3] (bE h fun dz wH h=>dQ 8 0 (fun w hm=>FY.c b2 a1 w _ wH) [0,1,2,3] (bE h fun eo nx h=>tD 9 (pc 0 (fun w hm=>WH.c f0 dz w _ bi (hm.xr dr) rfl nx) ?_))))
  rintro w v w' hm ⟨kp,fw,fM,_,rfl,J1,G3,rfl,bn⟩
  refine aq hm bn (kD [0,1,2,3] (qd [⟨10,0,0⟩,⟨11,0,0⟩,⟨12,0,0⟩] 0 [0,1,2,3] (qz (xR ?_))))
  obtain rfl:=si h
  exact qr [] (fun w hm=>⟨j8,fh,eQ,bz.length,rfl,vw,kU,kp,fw,fM,eo.length,rfl,J1,G3,rfl,hm.pk [4,5]⟩)
def YD(t0:List ai)(z':Int):Option ((List ai)×Int):=(FT t0).bind fun aA=>(if(!aA)=true then some ([],z') else some (t0,0))
theorem YD.c(t0:List ai)(z':Int)(w:World)(r:(List ai)×Int)(cw:Option Nat){jp:Nat}{bX:Nat}{cI:List Value}(dH:t0.length=jp)(gq:hS cw jp bX cI 2)(lr:hO cw t0 bX)(fG:Mem w (bs [cw]) [⟨cw,70,row aF t0 cI⟩] w)(h:YD t0 z'=some r):
   Cr 70 #[(.slice (mB cw) jp bX),(vI z')] w fun v w'=>∃(o0:Option Nat) (c0:Nat) (s0:List Value) (n0:Nat),r.1.length=n0∧(hS o0 n0 c0 s0 2)∧(hO o0 r.1 c0)∧v= .tuple #[.slice (mB o0) n0 c0,(vI r.2)]∧Mem w (bs [cw]) [⟨o0,70,row aF r.1 s0⟩] w':=by
 subst dH
 rw [YD] at h
 refine eN Tryz.func70 rfl Tryz.ntmps70 fG (cT [0,0] (ad (cR [0] (bE h fun aA iD h=>oQ 0 (fun w hm=>FT.c t0 w _ bX (hm.ow 0 cw 70 t0 cI (fun e=>(lr e).1) br) rfl iD) (qh [0] (eT (qi h (fun h=> ?_) (fun h=> ?_))))))))
 ·refine cT [0,0,0] (rX ?_)
  obtain rfl:=si h
  exact lg 70 aF (qr [] (fun w hm=>⟨none,0,[],0,rfl,(fun e=>absurd rfl e),(fun _=>⟨rfl,rfl⟩),rfl,hm.pk [1]⟩))
 ·refine kT (cT [0,0,0] (aI ?_))
  obtain rfl:=si h
  exact qr [] (fun w hm=>⟨cw,bX,cI,t0.length,rfl,gq,lr,rfl,hm.pk [0]⟩)
def Mp(f0:ae)(d1:av 96 Int):Option ((List ai)×Int):=(GU f0 ([d1]:List (av 96 Int))).bind fun dj=>(if(dj !=0)=true then some ([],dj) else(RR f0 d1 0 (au f0.ag)).bind fun aA=>(YD aA 3).bind fun bz=>some (bz.1,bz.2))
theorem Mp.c(f0:ae)(d1:av 96 Int)(w:World)(r:(List ai)×Int){bj:Option Addr}{bm:Nat}(bi:Nat)(dr:Rw w bj 2 ay f0.aa)(cE:f0.aa.length=bm)(h:Mp f0 d1=some r):
   Cr 34 #[(.agg #[(vH f0.ag),(.slice bj bm bi)]),(.agg (row aj d1.1 []).toArray)] w fun v w'=>∃(o0:Option Nat) (c0:Nat) (s0:List Value) (n0:Nat),r.1.length=n0∧(hS o0 n0 c0 s0 2)∧(hO o0 r.1 c0)∧v= .tuple #[.slice (mB o0) n0 c0,(vI r.2)]∧Mem w [] [⟨o0,70,row aF r.1 s0⟩] w':=by
 subst cE
 rw [Mp] at h
 refine en Tryz.func34 rfl Tryz.ntmps34 (ad (ao (oA 0 (fun fV=>oA 0 (fun cD=>qh [0,0] (eT (ad (cR [0] (tO (pL 0 1 cD 96 1 36 aj d1 an (fB (tO (Rq 0 36 96 1 da [(.agg (row aj d1.1 []).toArray)] [d1] rfl dD (fun ur=>fB (bE h fun dj iR h=>oQ 0 (fun w hm=>GU.c f0 ([d1]:List (av 96 Int)) w _ bi (hm.xr dr) rfl 1 (hm.ow 2 (some ur) 36 ([d1]:List (av 96 Int)) [] (fun e=>nomatch e) dD) rfl iR) (qh [0] (eT (cT [0,0] (qi h (fun h=> ?_) (fun h=> ?_))))))))))))))))))))
 ·refine cT [0,0,0] (rX ?_)
  obtain rfl:=si h
  exact lg 70 aF (qr [] (fun w hm=>⟨none,0,[],0,rfl,(fun e=>absurd rfl e),(fun _=>⟨rfl,rfl⟩),rfl,hm.pk [3]⟩))
 ·refine kT (cR [0] (tO (pL 0 1 cD 96 1 36 aj d1 an (oH [0,0,0] (bE h fun aA u5 h=>oC 0 (fun w hm=>RR.c f0 d1 0 (au f0.ag) w _ bi (hm.xr dr) rfl u5) ?_)))))
  rintro w v w' hm ⟨kM,fS,vO,_,rfl,ac3,Ak,rfl,bn⟩
  refine aq hm bn (fB (bE h fun bz wL h=>oC 0 (fun w hm=>YD.c aA 3 w _ kM rfl ac3 Ak (hm.ps (N:= [⟨kM,70,row aF aA vO⟩]) [3]) wL) ?_))
  rintro w v w' hm ⟨nh,bP,s9,_,rfl,Aa,wN,rfl,bn⟩
  refine ⟨_,hm.Jp (ps:= []) (ds:= [3]) (N:= [⟨nh,70,row aF bz.1 s9⟩]) bn [0] (by kernel_rfl) (by kernel_rfl) (by kernel_rfl),oH [0,0,0,0] (eT (aI ?_))⟩
  obtain rfl:=si h
  exact qr [] (fun w hm=>⟨nh,bP,s9,bz.1.length,rfl,Aa,wN,rfl,hm.pk [4]⟩)
def Fbg(f0:ae)(step1:Int)(dP:Int):Option (Bool):=(FB step1 0 (au ((au f0.ag)-1))).bind fun bz=>(if bz=true then(GR f0.aa).bind fun aA=>(FB dP 0 (au (aA-1))).bind fun dj=>some dj else some false)
theorem Fbg.c(f0:ae)(step1:Int)(dP:Int)(w:World)(r:Bool){bj:Option Addr}{bm:Nat}(bi:Nat)(dr:Rw w bj 2 ay f0.aa)(cE:f0.aa.length=bm)(h:Fbg f0 step1 dP=some r):
   Cq 177 #[(.agg #[(vH f0.ag),(.slice bj bm bi)]),(vI step1),(vI dP)] w (.bool r) [] []:=by
 subst cE
 rw [Fbg] at h
 refine en Tryz.func177 rfl Tryz.ntmps177 (ad (ao (oA 0 (fun fa=>qh [0] (eT (cR [0,0,0,0,0] (bE h fun bz gv h=>oQ 0 (fun w hm=>FB.c step1 0 (au ((au f0.ag)-1)) w _ gv) (qf [(0,0),(0,1),(0,1),(0,1)] (qp 13 h (fun h=> ?_) (fun h=> ?_))))))))))
 ·refine bE h fun aA jP h=>oQ 2 (fun w hm=>GR.c f0.aa w _ bi (hm.xr dr) rfl jP) (qf [(0,2)] (bE h fun dj jD h=>oQ 2 (fun w hm=>FB.c dP 0 (au (aA-1)) w _ jD) (qf [(0,4),(0,0)] (eT (aI ?_)))))
  cases h
  exact qP []
 ·refine qf [(0,3),(0,3),(0,3),(0,5),(0,0)] (eT (aI ?_))
  cases h
  exact qP []
def FbN(f0:ae)(d1:av 96 Int)(step2:Int)(c8:Int):Option (Int):=(GU f0 ([d1]:List (av 96 Int))).bind fun aA=>(Fbg f0 step2 c8).bind fun bz=>(FI bz 2).bind fun dj=>(Fe ([aA,dj]:List Int)).bind fun dz=>some dz
theorem FbN.c(f0:ae)(d1:av 96 Int)(step2:Int)(c8:Int)(w:World)(r:Int){bj:Option Addr}{bm:Nat}(bi:Nat)(dr:Rw w bj 2 ay f0.aa)(cE:f0.aa.length=bm)(h:FbN f0 d1 step2 c8=some r):
   Cq 134 #[(.agg #[(vH f0.ag),(.slice bj bm bi)]),(.agg (row aj d1.1 []).toArray),(vI step2),(vI c8)] w (vI r) [] []:=by
 subst cE
 rw [FbN] at h
 refine en Tryz.func134 rfl Tryz.ntmps134 (ad (ao (oA 0 (fun cD=>oA 0 (fun fa=>qh [0] (eT (ad (qg [⟨some cD,29,cF f0 bj bi⟩,⟨(some fa),36,row aj d1.1 []⟩] 12 (qd [⟨0,0,0⟩,⟨4,0,0⟩,⟨5,0,0⟩,⟨6,0,0⟩] 8 [0,1] (qv 1 0 [0,1] (fun w hm=>jM (b:=fa) (off:=0) (s:=96) (agg:=true) (vs:=row aj d1.1 []) (by kernel_rfl) ((gG an d1).trans rfl) (.inl rfl) (hm.all (hh:=1) (T:=36) (by kernel_rfl))) (tD 2 (Rq 0 36 96 1 da [(.agg (row aj d1.1 []).toArray)] [d1] rfl dD (fun fV=>kD [0,1] (bE h fun aA jP h=>dQ 3 0 (fun w hm=>GU.c f0 ([d1]:List (av 96 Int)) w _ bi (hm.xr dr) rfl 1 (hm.ow 2 (some fV) 36 ([d1]:List (av 96 Int)) [] (fun e=>nomatch e) dD) rfl jP) [0,1] (bE h fun bz jD h=>dQ 7 0 (fun w hm=>Fbg.c f0 step2 c8 w _ bi (hm.xr dr) rfl jD) [0,1] (bE h fun dj jf h=>dQ 8 0 (fun w hm=>FI.c bz 2 w _ jf) [0,1] (tD 9 (qa 0 (fun ur=>kD [0,1] (bE h fun dz iR h=>dQ 10 0 (fun w hm=>Fe.c ([aA,dj]:List Int) w _ 2 (hm.ow 3 (some ur) 2 ([aA,dj]:List Int) [] (fun e=>nomatch e) bf) rfl iR) [0,1] (qd [⟨11,0,0⟩] 0 [0,1] (qz (xR ?_)))))))))))))))))))))))
 cases h
 exact qP []
def Fcb(f0:ae)(d1:av 96 Int)(step2:Int)(c8:Int):Option (Bool×Int):=(FbN f0 d1 step2 c8).bind fun bz=>(if(bz !=0)=true then some (false,bz) else(E0 d1 step2 c8).bind fun aA=>some (aA,0))
theorem Fcb.c(f0:ae)(d1:av 96 Int)(step2:Int)(c8:Int)(w:World)(r:Bool×Int){bj:Option Addr}{bm:Nat}(bi:Nat)(dr:Rw w bj 2 ay f0.aa)(cE:f0.aa.length=bm)(h:Fcb f0 d1 step2 c8=some r):
   Cr 68 #[(.agg #[(vH f0.ag),(.slice bj bm bi)]),(.agg (row aj d1.1 []).toArray),(vI step2),(vI c8)] w fun v w'=>v= .tuple #[(.bool r.1),(vI r.2)]∧Mem w [] [] w':=by
 subst cE
 rw [Fcb] at h
 refine en Tryz.func68 rfl Tryz.ntmps68 (ad (ao (oA 0 (fun fa=>oA 0 (fun cD=>qh [0,0] (eT (ad (cR [0] (tO (pL 0 1 cD 96 1 36 aj d1 an (oH [0,0] (bE h fun bz kN h=>oQ 0 (fun w hm=>FbN.c f0 d1 step2 c8 w _ bi (hm.xr dr) rfl kN) (qh [0] (eT (cT [0,0] (qi h (fun h=> ?_) (fun h=> ?_)))))))))))))))))
 ·refine cT [0,0,0] (rX ?_)
  cases h
  exact qP []
 ·refine kT (cR [0,0] (bE h fun aA jP h=>oQ 0 (fun w hm=>E0.c d1 step2 c8 w _ (hm.ow 1 (some cD) 36 d1.1 [] (fun e=>nomatch e) an) jP) (qh [0,0] (eT (aI ?_)))))
  cases h
  exact qP []
def aV.nS(aA:(List ai)×Int)(cS:Int):Option (Bool):=some (cS==(aA.1.length:Int))
def aV.tG(bB:Int)(u9:Int):Option ((Int×Int)⊕(Bool⊕Int)):=some (.inl (u9,(au (bB+1))))
def aV.WI(fC:Int)(eE:Int)(y5:Bool):Option ((Int×Int)⊕(Bool⊕Int)):=(if(!y5)=true then some (.inr (.inl false)) else some (.inl ((au (fC+1)),(au (eE+1)))))
def aV.Pw(aA:(List ai)×Int)(bB:Int)(dc:List Int)(eE:Int):(Bool×Int)→Option ((Bool×Int)⊕(Bool))
 | (vL,fy)=>(if(decide (fy<(aA.1.length:Int)))=true then(if vL=true then some (.inl (true,(au (fy+1)))) else(ix aA.1 fy).bind fun Pt=>(if((au Pt.cd)==bB)=true then(ix aA.1 fy).bind fun H3=>(ix dc eE).bind fun H4=>some (.inl ((H3.aD==H4),(au (fy+1)))) else some (.inl (false,(au (fy+1)))))) else some (.inr vL))
def aV.p7(aA:(List ai)×Int)(bB:Int)(dc:List Int):(Int×Int)→Option ((Int×Int)⊕(Bool⊕Int))
 | (fC,eE)=>(if(decide (eE<(dc.length:Int)))=true then(loop (aV.Pw aA bB dc eE) (false,0)).bind fun R5=>aV.WI fC eE R5 else some (.inr (.inr fC)))
def aV.og(aA:(List ai)×Int)(bK:Int)(bB:Int)(dc:List Int):Option ((Int×Int)⊕(Bool⊕Int)):=(loop (aV.p7 aA bB dc) (bK,0)).bind fun WJ=>match WJ with | .inl p=>some (.inr (.inl p)) | .inr p=>aV.tG bB p
def aV.WK(f0:ae)(bO:List Int)(dW:Int)(j7:Bool×Int)(Mq:Bool):Option (((List Int)×Int)⊕(Bool⊕(List Int))):=(if(j7.1&&(!Mq))=true then(ix f0.aa dW).bind fun wR=>(if bO.length+([wR.aD]:List Int).length≤4294967296 then some (.inl ((bO++([wR.aD]:List Int)),(au (dW+1)))) else none) else some (.inl (bO,(au (dW+1)))))
def aV.Px(f0:ae)(bO:List Int)(dW:Int):(Bool×Int)→Option ((Bool×Int)⊕(Bool))
 | (mU,gw)=>(if(decide (gw<(bO.length:Int)))=true then(if mU=true then some (.inl (true,(au (gw+1)))) else(ix bO gw).bind fun Ml=>(ix f0.aa dW).bind fun R6=>some (.inl ((Ml==R6.aD),(au (gw+1))))) else some (.inr mU))
def aV.u_(f0:ae)(d1:av 96 Int)(bB:Int):((List Int)×Int)→Option (((List Int)×Int)⊕(Bool⊕(List Int)))
 | (bO,dW)=>(if(decide (dW<(f0.aa.length:Int)))=true then(Fcb f0 d1 bB dW).bind fun j7=>(if(j7.2 !=0)=true then some (.inr (.inl false)) else(loop (aV.Px f0 bO dW) (false,0)).bind fun Dz=>aV.WK f0 bO dW j7 Dz) else some (.inr (.inr bO)))
def aV.Df(f0:ae)(d1:av 96 Int)(aA:(List ai)×Int):(Int×Int)→Option ((Int×Int)⊕(Bool⊕Int))
 | (bK,bB)=>(if(decide (bB<(au f0.ag)))=true then(loop (aV.u_ f0 d1 bB) (([]:List Int),0)).bind fun Mr=>match Mr with | .inl p=>some (.inr (.inl p)) | .inr p=>aV.og aA bK bB p else some (.inr (.inr bK)))
def aV(f0:ae)(d1:av 96 Int):Option (Bool):=(Mp f0 d1).bind fun aA=>(if(aA.2 !=0)=true then some true else(loop (aV.Df f0 d1 aA) (0,0)).bind fun F'=>match F' with | .inl p=>some p | .inr p=>aV.nS aA p)
set_option maxHeartbeats 8000000 in
theorem aV.c(f0:ae)(d1:av 96 Int)(w:World)(r:Bool){bj:Option Addr}{bm:Nat}(bi:Nat)(dr:Rw w bj 2 ay f0.aa)(cE:f0.aa.length=bm)(h:aV f0 d1=some r):
   Cq 32 #[(.agg #[(vH f0.ag),(.slice bj bm bi)]),(.agg (row aj d1.1 []).toArray)] w (.bool r) [] []:=by
 subst cE
 rw [aV] at h
 refine en Tryz.func32 rfl Tryz.ntmps32 (ad (ao (oA 0 (fun cD=>oA 0 (fun gx=>qh [0] (eT (cR [0] (tO (pL 0 1 gx 96 1 36 aj d1 an (fB (bE h fun aA R7 h=>oC 0 (fun w hm=>Mp.c f0 d1 w _ bi (hm.xr dr) rfl R7) ?_)))))))))))
 rintro w v w' hm ⟨qR,sv,eV,_,rfl,na,sr,rfl,bn⟩
 refine aq hm bn (oH [0,0,0,0,0] (eT (ad (cT [0,0] (qi h (fun h=> ?_) (fun h=> ?_))))))
 ·refine cT [0] (rX ?_)
  cases h
  exact qP []
 ·refine kT (cT [0] (ad (cT [0] (aK (fun(cS:Int)=>aV.nS aA cS=some r) (fun cS=> [(4,[],(.bool false)),(5,[],(.slice (mB qR) aA.1.length sv)),(7,[],(vI cS))]) (fun cS=> [⟨some cD,29,cF f0 bj bi⟩,⟨(some gx),36,row aj d1.1 []⟩,⟨qR,70,row aF aA.1 eV⟩]) ?_ ?_))))
  ·refine ap ?_
   obtain⟨F',ac4,R8⟩:=bd h
   refine jl (fun(s:Int×Int) (x:Unit)=>match s,x with | ⟨bK,bB⟩,_=>True) (fun⟨bK,bB⟩ _=> [(2,[],(vP cD)),(3,[],(vP gx)),(4,[],(.bool false)),(5,[],(.slice (mB qR) aA.1.length sv)),(7,[],(vI bK)),(8,[],(vI bB))]) (fun⟨bK,bB⟩ _=> [⟨some cD,29,cF f0 bj bi⟩,⟨(some gx),36,row aj d1.1 []⟩,⟨qR,70,row aF aA.1 eV⟩]) ac4 () trivial [0,1,2] ?_
   rintro⟨bK,bB⟩ _ ac5 _ h
   rw [aV.Df] at h
   refine ad (cT [0,0,0,0,0] (qi h (fun h=> ?_) (fun h=> ?_)))
   ·refine kT (ad (ap (ad (ao (oA 0 (fun ahJ=>qh [0] (eT (ad (cT [0] (aK (fun(j:(List Int)×(Option Nat)×Nat×(List Value)×Nat)=>match j with | ⟨dc,gI,gV,fP,pZ⟩=>aV.og aA bK bB dc=some ac5∧(dc.length=pZ)∧(hS gI pZ gV fP 1)∧(hO gI dc gV)) (fun⟨dc,gI,gV,fP,pZ⟩=> [(2,[],(vP cD)),(3,[],(vP gx)),(4,[],(.bool false)),(5,[],(.slice (mB qR) aA.1.length sv)),(7,[],(vI bK)),(8,[],(vI bB)),(9,[],(.slice (mB gI) pZ gV))]) (fun⟨dc,gI,gV,fP,pZ⟩=> [⟨some cD,29,cF f0 bj bi⟩,⟨(some gx),36,row aj d1.1 []⟩,⟨qR,70,row aF aA.1 eV⟩,⟨gI,66,row f_ dc fP⟩]) ?_ ?_))))))))))
    ·refine ap ?_
     obtain⟨Mr,R9,Of⟩:=bd h
     refine jl (fun(s:(List Int)×Int) (x:(Option Nat)×Nat×(List Value)×Nat)=>match s,x with | ⟨bO,dW⟩,⟨j8,fS,dK,p6⟩=>(bO.length=p6)∧(hS j8 p6 fS dK 1)∧(hO j8 bO fS)) (fun⟨bO,dW⟩ ⟨j8,fS,dK,p6⟩=> [(2,[],(vP cD)),(3,[],(vP gx)),(4,[],(.bool false)),(5,[],(.slice (mB qR) aA.1.length sv)),(7,[],(vI bK)),(8,[],(vI bB)),(9,[],(.slice (mB j8) p6 fS)),(10,[],(vI dW))]) (fun⟨bO,dW⟩ ⟨j8,fS,dK,p6⟩=> [⟨some cD,29,cF f0 bj bi⟩,⟨(some gx),36,row aj d1.1 []⟩,⟨qR,70,row aF aA.1 eV⟩,⟨j8,66,row f_ bO dK⟩]) R9 ⟨(some ahJ),0,[],0⟩ ⟨rfl,(fun _=>⟨bt _,by simp⟩),(fun e=>nomatch e)⟩ [0,1,2,3] ?_
     rintro⟨bO,dW⟩ ⟨j8,fS,dK,p6⟩ Mh ⟨rfl,BU,iz⟩ h
     rw [aV.u_] at h
     refine ad (cT [0,0,0,0,0] (qi h (fun h=> ?_) (fun h=> ?_)))
     ·refine kT (ad (ap (cR [0] (tO (pL 0 1 gx 96 1 36 aj d1 an (oH [0,0] (bE h fun j7 ac6 h=>oQ 0 (fun w hm=>Fcb.c f0 d1 bB dW w _ bi (hm.xr dr) rfl ac6) (qh [0,0,0,0,0] (eT (ad (cT [0,0] (qi h (fun h=> ?_) (fun h=> ?_)))))))))))))
      ·refine cT [0] (rX (cg (aT (c_ (.inl false) (sj h) (fun ahK=> ?_)))))
       subst ahK
       refine cg (aT (aT (cg (aT (c_ (.inl false) (sj Of) (fun ahL=> ?_))))))
       subst ahL
       refine cg (aT (aT ?_))
       obtain rfl:=si R8
       exact qP []
      ·refine kT (cT [0] (ad (cT [0] (aK (fun(Mq:Bool)=>aV.WK f0 bO dW j7 Mq=some Mh) (fun Mq=> [(2,[],(vP cD)),(3,[],(vP gx)),(4,[],(.bool false)),(5,[],(.slice (mB qR) aA.1.length sv)),(7,[],(vI bK)),(8,[],(vI bB)),(9,[],(.slice (mB j8) bO.length fS)),(10,[],(vI dW)),(11,[],(.bool j7.1)),(13,[],(.bool Mq))]) (fun Mq=> [⟨some cD,29,cF f0 bj bi⟩,⟨(some gx),36,row aj d1.1 []⟩,⟨qR,70,row aF aA.1 eV⟩,⟨j8,66,row f_ bO dK⟩]) ?_ ?_))))
       ·refine ap ?_
        obtain⟨Dz,J2,ac7⟩:=bd h
        refine jl (fun(s:Bool×Int) (x:Unit)=>match s,x with | ⟨mU,gw⟩,_=>True) (fun⟨mU,gw⟩ _=> [(2,[],(vP cD)),(3,[],(vP gx)),(4,[],(.bool false)),(5,[],(.slice (mB qR) aA.1.length sv)),(7,[],(vI bK)),(8,[],(vI bB)),(9,[],(.slice (mB j8) bO.length fS)),(10,[],(vI dW)),(11,[],(.bool j7.1)),(13,[],(.bool mU)),(14,[],(vI gw))]) (fun⟨mU,gw⟩ _=> [⟨some cD,29,cF f0 bj bi⟩,⟨(some gx),36,row aj d1.1 []⟩,⟨qR,70,row aF aA.1 eV⟩,⟨j8,66,row f_ bO dK⟩]) J2 () trivial [0,1,2,3] ?_
        rintro⟨mU,gw⟩ _ ajZ _ h
        rw [aV.Px] at h
        refine ad (cT [0,0,0,0] (qi h (fun h=> ?_) (fun h=> ?_)))
        ·refine kT (ad (ap (qg [⟨some cD,29,cF f0 bj bi⟩,⟨(some gx),36,row aj d1.1 []⟩,⟨qR,70,row aF aA.1 eV⟩,⟨j8,66,row f_ bO dK⟩] 15 (qd [⟨0,0,0⟩,⟨1,0,0⟩,⟨2,0,1⟩,⟨3,0,1⟩,⟨6,0,1⟩,⟨7,0,1⟩,⟨8,0,1⟩] 8 [0,1,2,3] (js 58 mU (fun R_=> ?_) (fun R_=> ?_))))))
         ·replace h:=yi R_ h
          exact qd [⟨4,0,3⟩,⟨5,0,3⟩,⟨9,0,3⟩,⟨10,0,3⟩,⟨11,0,3⟩,⟨12,0,3⟩,⟨13,0,4⟩,⟨14,0,0⟩] 0 [0,1,2,3] (qz (nT (cH [0,0,0] (qe (qb (true,(au (gw+1))) () h trivial [0,1,2,3])))))
         ·replace h:=yj R_ h
          exact bE h fun Ml BV h=>qX 4 2 [0,1,2,3] (mB j8) 1 BV rfl (nl iz BV) (qL 5 2 [0,1,2,3] false (aX 3 j8 66 bO dK iz jy BV) (bE h fun R6 wV h=>qX 9 2 [0,1,2,3] bj 2 wV rfl (dr.sp wV) (qd [⟨10,0,2⟩] 4 [0,1,2,3] (qL 11 2 [0,1,2,3] false (fun w hm=>((hm.xr dr).at wV).sub 0 1) (qd [⟨12,0,2⟩,⟨13,0,5⟩,⟨14,0,0⟩] 0 [0,1,2,3] (qz (nT (cH [0,0,0] (qe (qb ((Ml==R6.aD),(au (gw+1))) () h trivial [0,1,2,3]))))))))))
        ·exact lX mU h (fun e=>by subst e;exact bo (qm mU ac7 [0,1,2,3]))
       ·rintro Mq h
        unfold aV.WK at h
        refine aP (ad (ao (qf [(0,0),(0,0),(0,1),(0,1),(0,0)] (eT (qi h (fun h=> ?_) (fun h=> ?_))))))
        ·refine cH [0,0,0,0] (bE h fun wR DA h=>oX 0 bj 2 DA rfl (dr.sp DA) (qh [0] (oL 0 false (fun w hm=>(((hm.xr dr).at DA).sub 0 1)) (oA 0 (fun R'=>?_)))))
         obtain⟨ac8,h⟩:=gd h
         exact tO (pA 0 3 j8 66 bO.length 1 fS 1 1 (sB R') f_ bO ([wR.aD]:List Int) dK (vB 0) rfl rfl jy yS BU iz (fun w hm=>(hm.ow 4 (some R') 66 ([wR.aD]:List Int) [] (fun e=>nomatch e) jy)) ac8 (fun Pv Mn R1 Sa Sb=>oH [0] (qe (nT (cH [0,0,0] (qe (qb ((bO++([wR.aD]:List Int)),(au (dW+1))) ⟨Pv,Mn,R1,(bO++([wR.aD]:List Int)).length⟩ h ⟨rfl,Sa,Sb⟩ [0,1,2,3])))))))
        ·exact bV (nT (cH [0,0,0] (qe (qb (bO,(au (dW+1))) ⟨j8,fS,dK,bO.length⟩ h ⟨rfl,BU,iz⟩ [0,1,2,3]))))
     ·exact lX (.inr bO) h (fun e=>by subst e;exact bo (qm ⟨bO,j8,fS,dK,bO.length⟩ ⟨Of,rfl,BU,iz⟩ [0,1,2,3]))
    ·rintro⟨dc,gI,gV,fP,pZ⟩ ⟨h,rfl,ajw,vx⟩
     unfold aV.og at h
     refine aP (cT [0] (aK (fun(u9:Int)=>aV.tG bB u9=some ac5) (fun u9=> [(2,[],(vP cD)),(3,[],(vP gx)),(4,[],(.bool false)),(5,[],(.slice (mB qR) aA.1.length sv)),(7,[],(vI u9)),(8,[],(vI bB))]) (fun u9=> [⟨some cD,29,cF f0 bj bi⟩,⟨(some gx),36,row aj d1.1 []⟩,⟨qR,70,row aF aA.1 eV⟩,⟨gI,66,row f_ dc fP⟩]) ?_ ?_))
     ·refine ap ?_
      obtain⟨WJ,Sc,YE⟩:=bd h
      refine jl (fun(s:Int×Int) (x:Unit)=>match s,x with | ⟨fC,eE⟩,_=>True) (fun⟨fC,eE⟩ _=> [(2,[],(vP cD)),(3,[],(vP gx)),(4,[],(.bool false)),(5,[],(.slice (mB qR) aA.1.length sv)),(7,[],(vI fC)),(8,[],(vI bB)),(9,[],(.slice (mB gI) dc.length gV)),(15,[],(vI eE))]) (fun⟨fC,eE⟩ _=> [⟨some cD,29,cF f0 bj bi⟩,⟨(some gx),36,row aj d1.1 []⟩,⟨qR,70,row aF aA.1 eV⟩,⟨gI,66,row f_ dc fP⟩]) Sc () trivial [0,1,2,3] ?_
      rintro⟨fC,eE⟩ _ WL _ h
      rw [aV.p7] at h
      refine ad (cT [0,0,0,0] (qi h (fun h=> ?_) (fun h=> ?_)))
      ·refine kT (ad (ap (cT [0] (ad (cT [0] (aK (fun(y5:Bool)=>aV.WI fC eE y5=some WL) (fun y5=> [(2,[],(vP cD)),(3,[],(vP gx)),(4,[],(.bool false)),(5,[],(.slice (mB qR) aA.1.length sv)),(7,[],(vI fC)),(8,[],(vI bB)),(9,[],(.slice (mB gI) dc.length gV)),(15,[],(vI eE)),(16,[],(.bool y5))]) (fun y5=> [⟨some cD,29,cF f0 bj bi⟩,⟨(some gx),36,row aj d1.1 []⟩,⟨qR,70,row aF aA.1 eV⟩,⟨gI,66,row f_ dc fP⟩]) ?_ ?_))))))
       ·refine ap ?_
        obtain⟨R5,ac9,ada⟩:=bd h
        refine jl (fun(s:Bool×Int) (x:Unit)=>match s,x with | ⟨vL,fy⟩,_=>True) (fun⟨vL,fy⟩ _=> [(2,[],(vP cD)),(3,[],(vP gx)),(4,[],(.bool false)),(5,[],(.slice (mB qR) aA.1.length sv)),(7,[],(vI fC)),(8,[],(vI bB)),(9,[],(.slice (mB gI) dc.length gV)),(15,[],(vI eE)),(16,[],(.bool vL)),(17,[],(vI fy))]) (fun⟨vL,fy⟩ _=> [⟨some cD,29,cF f0 bj bi⟩,⟨(some gx),36,row aj d1.1 []⟩,⟨qR,70,row aF aA.1 eV⟩,⟨gI,66,row f_ dc fP⟩]) ac9 () trivial [0,1,2,3] ?_
        rintro⟨vL,fy⟩ _ aj0 _ h
        rw [aV.Pw] at h
        refine ad (cT [0,0,0,0] (qi h (fun h=> ?_) (fun h=> ?_)))
        ·refine kT (ad (ap (qg [⟨some cD,29,cF f0 bj bi⟩,⟨(some gx),36,row aj d1.1 []⟩,⟨qR,70,row aF aA.1 eV⟩,⟨gI,66,row f_ dc fP⟩] 24 (qd [⟨0,0,0⟩,⟨1,0,0⟩,⟨2,0,1⟩,⟨3,0,1⟩,⟨8,0,1⟩] 19 [0,1,2,3] (js 98 vL (fun Sd=> ?_) (fun Sd=> ?_))))))
         ·replace h:=yi Sd h
          exact qd [⟨4,0,3⟩,⟨5,0,3⟩,⟨6,0,3⟩,⟨7,0,3⟩,⟨9,0,3⟩,⟨10,0,3⟩,⟨11,0,3⟩,⟨12,0,3⟩,⟨13,0,3⟩,⟨14,0,3⟩,⟨15,0,3⟩,⟨16,0,3⟩,⟨17,0,3⟩,⟨18,0,3⟩,⟨19,0,3⟩,⟨20,0,3⟩,⟨21,0,3⟩,⟨22,0,4⟩,⟨23,0,0⟩] 0 [0,1,2,3] (qz (nT (cH [0,0,0] (qe (qb (true,(au (fy+1))) () h trivial [0,1,2,3])))))
         ·replace h:=yj Sd h
          refine bE h fun Pt ym h=>qX 4 2 [0,1,2,3] (mB qR) 2 ym rfl (nl sr ym) (qd [⟨5,0,2⟩] 17 [0,1,2,3] (qL 6 2 [0,1,2,3] false (fun w hm=>((hm.ow 2 qR 70 aA.1 eV (fun e=>(sr e).1) br).at ym).sub 0 1) (qd [⟨7,0,2⟩,⟨9,0,2⟩,⟨10,0,2⟩,⟨11,0,1⟩,⟨12,0,1⟩,⟨16,0,1⟩,⟨17,0,1⟩] 9 [0,1,2,3] (js 107 ((au Pt.cd)==bB) (fun Se=> ?_) (fun Se=> ?_)))))
          ·replace h:=yi Se h
           exact bE h fun H3 yn h=>qX 13 2 [0,1,2,3] (mB qR) 2 yn rfl (nl sr yn) (qd [⟨14,0,2⟩] 7 [0,1,2,3] (qL 15 2 [0,1,2,3] false (fun w hm=>((hm.ow 2 qR 70 aA.1 eV (fun e=>(sr e).1) br).at yn).sub 1 1) (bE h fun H4 DB h=>qX 18 2 [0,1,2,3] (mB gI) 1 DB rfl (nl vx DB) (qL 19 2 [0,1,2,3] false (aX 3 gI 66 dc fP vx jy DB) (qd [⟨20,0,2⟩,⟨21,0,4⟩,⟨22,0,5⟩,⟨23,0,0⟩] 0 [0,1,2,3] (qz (nT (cH [0,0,0] (qe (qb ((H3.aD==H4),(au (fy+1))) () h trivial [0,1,2,3]))))))))))
          ·replace h:=yj Se h
           exact qd [⟨13,0,3⟩,⟨14,0,3⟩,⟨15,0,3⟩,⟨18,0,3⟩,⟨19,0,3⟩,⟨20,0,3⟩,⟨21,0,5⟩,⟨22,0,5⟩,⟨23,0,0⟩] 0 [0,1,2,3] (qz (nT (cH [0,0,0] (qe (qb (false,(au (fy+1))) () h trivial [0,1,2,3])))))
        ·exact lX vL h (fun e=>by subst e;exact bo (qm vL ada [0,1,2,3]))
       ·rintro y5 h
        unfold aV.WI at h
        refine aP (ad (cT [0,0] (qi h (fun h=> ?_) (fun h=> ?_))))
        ·refine cT [0] (rX (cg (aT (c_ (.inl false) (sj h) (fun ahM=> ?_)))))
         subst ahM
         refine cg (aT (cg (aT (c_ (.inl false) (sj YE) (fun ahN=> ?_)))))
         subst ahN
         refine cg (aT (aT ?_))
         obtain rfl:=si R8
         exact qP []
        ·exact kT (cH [0,0,0] (qe (nT (cH [0,0,0] (qe (qb ((au (fC+1)),(au (eE+1))) () h trivial [0,1,2,3]))))))
      ·exact lX (.inr fC) h (fun e=>by subst e;exact bo (qm fC YE [0,1,2,3]))
     ·rintro u9 h
      unfold aV.tG at h
      exact nT (cH [0,0,0] (qe (qb (u9,(au (bB+1))) () h trivial [0,1,2])))
   ·exact lX (.inr bK) h (fun e=>by subst e;exact bo (qm bK R8 [0,1,2]))
  ·rintro cS h
   unfold aV.nS at h
   refine aP (cT [0,0,0,0,0] (aI ?_))
   cases h
   exact qP []
end
end Go.Proofs.YtplklknkkaeniaaGreat
