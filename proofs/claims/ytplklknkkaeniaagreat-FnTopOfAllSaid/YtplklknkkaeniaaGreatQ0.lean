/- Plain texts of this seat, in one. -/
import Derived.Test.YtplklknkkaeniaaGreatT
import Derived.Test.YtplklknkkaeniaaGreatPure
import Derived.Test.YtplklknkkaeniaaGreatM0
import Derived.Test.YtplklknkkaeniaaGreatM1
import Derived.Test.YtplklknkkaeniaaGreatM5
import Derived.Test.YtplklknkkaeniaaGreatM3
import Derived.Test.YtplklknkkaeniaaGreatM4
namespace Go.Proofs.YtplklknkkaeniaaGreat
open Eng
set_option linter.unusedVariables false
set_option linter.unusedSimpArgs false
noncomputable def nz.fk {S:Type} (cmp:S→S→Option Int) (aL:List S):Option (List S):=some aL
noncomputable def nz.u6 {S:Type} (cmp:S→S→Option Int) (cS:Int) (fX:List S):Option (((List S)×Int)⊕(List S)):=some (.inl (fX,(au (cS+1))))
noncomputable def nz.kq {S:Type} (cmp:S→S→Option Int) (a1:Int):((List S)×Int)→Option (((List S)×Int)⊕(List S))
 | (kr,v7)=>(if(decide (v7>a1))=true then(ix kr v7).bind fun aiS=>(ix kr (au (v7-1))).bind fun aiT=>(cmp aiS aiT).bind fun If=>(if(decide (If<0))=true then(ix kr (au (v7-1))).bind fun TC=>(ix kr v7).bind fun Kh=>(ix kr v7).bind fun DS=>(ix (kr.set v7.toNat TC) (au (v7-1))).bind fun Xn=>some (.inl (((kr.set v7.toNat TC).set (au (v7-1)).toNat Kh),(au (v7-1)))) else some (.inr kr)) else some (.inr kr))
noncomputable def nz.fY {S:Type} (cmp:S→S→Option Int) (a1:Int) (b2:Int):((List S)×Int)→Option (((List S)×Int)⊕(List S))
 | (bO,cS)=>(if(decide (cS<b2))=true then(loop (nz.kq cmp a1) (bO,cS)).bind fun Dz=>nz.u6 cmp cS Dz else some (.inr bO))
noncomputable def nz {S:Type} (cmp:S→S→Option Int) (bg:List S) (a1:Int) (b2:Int):Option (List S):=(loop (nz.fY cmp a1 b2) (bg,(au (a1+1)))).bind fun i_=>nz.fk cmp i_
noncomputable def vD.fk {S:Type} (cmp:S→S→Option Int) (aL:List S):Option (List S):=some aL
noncomputable def vD.fY {S:Type} (cmp:S→S→Option Int) (a1:Int) (b2:Int) (n3:Int):((List S)×Int)→Option (((List S)×Int)⊕(List S))
 | (bO,cS)=>(if(decide (cS<n3))=true then(ix bO (au (b2+cS))).bind fun CD=>(ix bO (au (a1+cS))).bind fun LD=>(ix bO (au (a1+cS))).bind fun wh=>(ix (bO.set (au (a1+cS)).toNat CD) (au (b2+cS))).bind fun agL=>some (.inl (((bO.set (au (a1+cS)).toNat CD).set (au (b2+cS)).toNat LD),(au (cS+1)))) else some (.inr bO))
noncomputable def vD {S:Type} (cmp:S→S→Option Int) (bg:List S) (a1:Int) (b2:Int) (n3:Int):Option (List S):=(loop (vD.fY cmp a1 b2 n3) (bg,0)).bind fun i_=>vD.fk cmp i_
noncomputable def zm.nS {S:Type} (cmp:S→S→Option Int) (m2:Int) (aL:List S) (bK:Int):Option (List S):=(vD cmp aL (au (m2-bK)) m2 bK).bind fun eo=>some eo
noncomputable def zm.nJ {S:Type} (cmp:S→S→Option Int) (agM:List S) (aiU:Int) (aiV:Int):Option (((List S)×Int×Int)⊕(((List S)×Int))):=some (.inl (agM,aiU,aiV))
noncomputable def zm.pH {S:Type} (cmp:S→S→Option Int) (m2:Int):((List S)×Int×Int)→Option (((List S)×Int×Int)⊕(((List S)×Int)))
 | (dc,dW,eE)=>(if(dW !=eE)=true then(if(decide (dW>eE))=true then(vD cmp dc (au (m2-dW)) m2 eE).bind fun Mz=>zm.nJ cmp Mz (au (dW-eE)) eE else(vD cmp dc (au (m2-dW)) (au ((au (m2+eE))-dW)) dW).bind fun If=>zm.nJ cmp If dW (au (eE-dW))) else some (.inr (dc,dW)))
noncomputable def zm {S:Type} (cmp:S→S→Option Int) (bg:List S) (a1:Int) (m2:Int) (b3:Int):Option (List S):=(loop (zm.pH cmp m2) (bg,(au (m2-a1)),(au (b3-m2)))).bind fun lE=>zm.nS cmp m2 lE.1 lE.2
noncomputable def fm.ki {S:Type} (cmp:S→S→Option Int) (bO:List S):Option (List S):=some bO
noncomputable def fm.PN {S:Type} (cmp:S→S→Option Int) (bB:Int):((List S)×Int)→Option (((List S)×Int)⊕(List S))
 | (dc,dW)=>(if(decide (dW<(au (bB-1))))=true then(ix dc (au (dW+1))).bind fun wh=>(ix dc dW).bind fun agL=>(ix dc dW).bind fun akv=>(ix (dc.set dW.toNat wh) (au (dW+1))).bind fun akw=>some (.inl (((dc.set dW.toNat wh).set (au (dW+1)).toNat agL),(au (dW+1)))) else some (.inr dc))
noncomputable def fm.fk {S:Type} (cmp:S→S→Option Int) (bg:List S) (a1:Int) (bB:Int):Option (List S):=(loop (fm.PN cmp bB) (bg,a1)).bind fun qI=>fm.ki cmp qI
noncomputable def fm.KA {S:Type} (cmp:S→S→Option Int) (aiW:Int) (aiX:Int):Option ((Int×Int)⊕(Int)):=some (.inl (aiW,aiX))
noncomputable def fm.Ax {S:Type} (cmp:S→S→Option Int) (bg:List S) (a1:Int):(Int×Int)→Option ((Int×Int)⊕(Int))
 | (P2,Uh)=>(if(decide (P2<Uh))=true then(ix bg (au (eC .u64 (u64 (au (P2+Uh))) 1))).bind fun aiY=>(ix bg a1).bind fun aiZ=>(cmp aiY aiZ).bind fun P3=>(if(decide (P3<0))=true then fm.KA cmp (au ((au (eC .u64 (u64 (au (P2+Uh))) 1))+1)) Uh else fm.KA cmp P2 (au (eC .u64 (u64 (au (P2+Uh))) 1))) else some (.inr P2))
noncomputable def fm.DT {S:Type} (cmp:S→S→Option Int) (agN:List S):Option (List S):=some agN
noncomputable def fm.Aw {S:Type} (cmp:S→S→Option Int) (abx:Int):((List S)×Int)→Option (((List S)×Int)⊕(List S))
 | (Hk,Ip)=>(if(decide (Ip>abx))=true then(ix Hk (au (Ip-1))).bind fun agO=>(ix Hk Ip).bind fun aby=>(ix Hk Ip).bind fun ai0=>(ix (Hk.set Ip.toNat agO) (au (Ip-1))).bind fun akx=>some (.inl (((Hk.set Ip.toNat agO).set (au (Ip-1)).toNat aby),(au (Ip-1)))) else some (.inr Hk))
noncomputable def fm.MC {S:Type} (cmp:S→S→Option Int) (bg:List S) (m2:Int) (abx:Int):Option (List S):=(loop (fm.Aw cmp abx) (bg,m2)).bind fun yd=>fm.DT cmp yd
noncomputable def fm.Az {S:Type} (cmp:S→S→Option Int) (ai1:Int) (ai2:Int):Option ((Int×Int)⊕(Int)):=some (.inl (ai1,ai2))
noncomputable def fm.KB {S:Type} (cmp:S→S→Option Int) (bg:List S) (m2:Int):(Int×Int)→Option ((Int×Int)⊕(Int))
 | (P4,Ui)=>(if(decide (P4<Ui))=true then(ix bg m2).bind fun ai3=>(ix bg (au (eC .u64 (u64 (au (P4+Ui))) 1))).bind fun ai4=>(cmp ai3 ai4).bind fun ai5=>(if(!(decide (ai5<0)))=true then fm.Az cmp (au ((au (eC .u64 (u64 (au (P4+Ui))) 1))+1)) Ui else fm.Az cmp P4 (au (eC .u64 (u64 (au (P4+Ui))) 1))) else some (.inr P4))
noncomputable def fm.KC {S:Type} (cmp:S→S→Option Int) (dn:(List S)→Int→Int→Int→Option (List S)) (a1:Int) (m2:Int) (b3:Int) (ye:Int) (Zr:List S):Option (List S):=(if((decide ((au (eC .u64 (u64 (au (a1+b3))) 1))<(au ((au ((au (eC .u64 (u64 (au (a1+b3))) 1))+m2))-ye))))&&(decide ((au ((au ((au (eC .u64 (u64 (au (a1+b3))) 1))+m2))-ye))<b3)))=true then(dn Zr (au (eC .u64 (u64 (au (a1+b3))) 1)) (au ((au ((au (eC .u64 (u64 (au (a1+b3))) 1))+m2))-ye)) b3).bind fun abz=>some abz else some Zr)
noncomputable def fm.Ig {S:Type} (cmp:S→S→Option Int) (dn:(List S)→Int→Int→Int→Option (List S)) (a1:Int) (m2:Int) (b3:Int) (ye:Int) (Zt:List S):Option (List S):=(if((decide (a1<ye))&&(decide (ye<(au (eC .u64 (u64 (au (a1+b3))) 1)))))=true then(dn Zt a1 ye (au (eC .u64 (u64 (au (a1+b3))) 1))).bind fun ai6=>fm.KC cmp dn a1 m2 b3 ye ai6 else fm.KC cmp dn a1 m2 b3 ye Zt)
noncomputable def fm.MD {S:Type} (cmp:S→S→Option Int) (dn:(List S)→Int→Int→Int→Option (List S)) (bg:List S) (a1:Int) (m2:Int) (b3:Int) (ye:Int):Option (List S):=(if((decide (ye<m2))&&(decide (m2<(au ((au ((au (eC .u64 (u64 (au (a1+b3))) 1))+m2))-ye)))))=true then(zm cmp bg ye m2 (au ((au ((au (eC .u64 (u64 (au (a1+b3))) 1))+m2))-ye))).bind fun ai7=>fm.Ig cmp dn a1 m2 b3 ye ai7 else fm.Ig cmp dn a1 m2 b3 ye bg)
noncomputable def fm.KE {S:Type} (cmp:S→S→Option Int) (ai8:Int) (ai9:Int):Option ((Int×Int)⊕(Int)):=some (.inl (ai8,ai9))
noncomputable def fm.KF {S:Type} (cmp:S→S→Option Int) (bg:List S) (a1:Int) (m2:Int) (b3:Int):(Int×Int)→Option ((Int×Int)⊕(Int))
 | (MT,P5)=>(if(decide (MT<P5))=true then(ix bg (au ((au ((au ((au (eC .u64 (u64 (au (a1+b3))) 1))+m2))-1))-(au (eC .u64 (u64 (au (MT+P5))) 1))))).bind fun aja=>(ix bg (au (eC .u64 (u64 (au (MT+P5))) 1))).bind fun ajb=>(cmp aja ajb).bind fun ajc=>(if(!(decide (ajc<0)))=true then fm.KE cmp (au ((au (eC .u64 (u64 (au (MT+P5))) 1))+1)) P5 else fm.KE cmp MT (au (eC .u64 (u64 (au (MT+P5))) 1))) else some (.inr MT))
noncomputable def fm.Ih {S:Type} (cmp:S→S→Option Int) (dn:(List S)→Int→Int→Int→Option (List S)) (bg:List S) (a1:Int) (m2:Int) (b3:Int) (ajd:Int) (aje:Int):Option (List S):=(loop (fm.KF cmp bg a1 m2 b3) (ajd,aje)).bind fun ajf=>fm.MD cmp dn bg a1 m2 b3 ajf
noncomputable def fm.step {S:Type} (cmp:S→S→Option Int) (dn:(List S)→Int→Int→Int→Option (List S)) (bg:List S) (a1:Int) (m2:Int) (b3:Int):Option (List S):=(if((au (m2-a1))==1)=true then(loop (fm.Ax cmp bg a1) (m2,b3)).bind fun Xi=>fm.fk cmp bg a1 Xi else(if((au (b3-m2))==1)=true then(loop (fm.KB cmp bg m2) (a1,m2)).bind fun ajg=>fm.MC cmp bg m2 ajg else(if(decide (m2>(au (eC .u64 (u64 (au (a1+b3))) 1))))=true then fm.Ih cmp dn bg a1 m2 b3 (au ((au ((au (eC .u64 (u64 (au (a1+b3))) 1))+m2))-b3)) (au (eC .u64 (u64 (au (a1+b3))) 1)) else fm.Ih cmp dn bg a1 m2 b3 a1 m2)))
noncomputable def fm.fW {S:Type} (cmp:S→S→Option Int):Nat→(List S)→Int→Int→Int→Option (List S)
 | 0=>fun bg a1 m2 b3=>none
 | fu+1=>fm.step cmp (fm.fW cmp fu)
noncomputable def fm {S:Type} (cmp:S→S→Option Int) (bg:List S) (a1:Int) (m2:Int) (b3:Int):Option (List S):=fm.fW cmp 200 bg a1 m2 b3
noncomputable def fN.qw {S:Type} (cmp:S→S→Option Int) (lR:List S):Option (List S):=some lR
noncomputable def fN.nJ {S:Type} (cmp:S→S→Option Int) (gr:Int) (agP:List S):Option (((List S)×Int)⊕(List S)):=some (.inl (agP,(au (gr*2))))
noncomputable def fN.uI {S:Type} (cmp:S→S→Option Int) (n1:Int) (gr:Int) (Zu:List S) (abA:Int):Option (((List S)×Int)⊕(List S)):=(if(decide ((au (abA+gr))<n1))=true then(fm cmp Zu abA (au (abA+gr)) n1).bind fun Xo=>fN.nJ cmp gr Xo else fN.nJ cmp gr Zu)
noncomputable def fN.j4 {S:Type} (cmp:S→S→Option Int) (n1:Int) (gr:Int):((List S)×Int×Int)→Option (((List S)×Int×Int)⊕(((List S)×Int)))
 | (Zv,abB,Xy)=>(if(decide (Xy≤n1))=true then(fm cmp Zv abB (au (abB+gr)) Xy).bind fun ajh=>some (.inl (ajh,Xy,(au (Xy+(au (2*gr)))))) else some (.inr (Zv,abB)))
noncomputable def fN.ko {S:Type} (cmp:S→S→Option Int) (n1:Int):((List S)×Int)→Option (((List S)×Int)⊕(List S))
 | (mb,gr)=>(if(decide (gr<n1))=true then(loop (fN.j4 cmp n1 gr) (mb,0,(au (2*gr)))).bind fun P3=>fN.uI cmp n1 gr P3.1 P3.2 else some (.inr mb))
noncomputable def fN.ki {S:Type} (cmp:S→S→Option Int) (n1:Int) (aL:List S) (bK:Int) (cK:Int):Option (List S):=(nz cmp aL bK n1).bind fun gu=>(loop (fN.ko cmp n1) (gu,20)).bind fun WJ=>fN.qw cmp WJ
noncomputable def fN.u_ {S:Type} (cmp:S→S→Option Int) (n1:Int):((List S)×Int×Int)→Option (((List S)×Int×Int)⊕(((List S)×Int×Int)))
 | (Zw,agQ,Uj)=>(if(decide (Uj≤n1))=true then(nz cmp Zw agQ Uj).bind fun aji=>some (.inl (aji,Uj,(au (Uj+20)))) else some (.inr (Zw,agQ,Uj)))
noncomputable def fN {S:Type} (cmp:S→S→Option Int) (bg:List S) (n1:Int):Option (List S):=(loop (fN.u_ cmp n1) (bg,0,20)).bind fun abC=>fN.ki cmp n1 abC.1 abC.2.1 abC.2.2
noncomputable def OL {S:Type} (cmp:S→S→Option Int) (x0:List S):Option (List S):=(fN cmp x0 (x0.length:Int)).bind fun bz=>some bz
def P6{S:Type}(cmp:S→S→Option Int)(D:S→Prop)(key:S→Int):Prop:=∀x y,D x→D y→∃c,cmp x y=some c∧(c<0↔key x<key y)
def qc{S:Type}(key:S→Int)(num:S→Nat)(x y:S):Prop:=key x<key y∨(key x=key y∧num x<num y)
theorem qc.trans{S:Type}{key:S→Int}{num:S→Nat}{x y z:S}(h:qc key num x y)(k:qc key num y z):qc key num x z:=by
 unfold qc at*;omega
theorem qc.Iq{S:Type}{key:S→Int}{num:S→Nat}{x y:S}(h:¬key x<key y)(hn:num y<num x):qc key num y x:=by
 unfold qc;omega
theorem zn{S:Type}{l1 l2:List S}{x:S}{k:Int}(h:(l1.length:Int)=k):ix (l1++x::l2) k=some x:=by
 subst h;exact Io (by simp)
theorem xJ{S:Type}{l1 l2:List S}{x y:S}{k:Nat}(h:l1.length=k):(l1++x::l2).set k y=l1++y::l2:=by
 subst h;simp
theorem Eu{S:Type}(l:List S):l= []∨∃l' x,l=l'++ [x]:=by
 rcases List.eq_nil_or_concat l with h | ⟨l',x,h⟩
 ·exact .inl h
 ·exact .inr ⟨l',x,by rw [h,List.concat_eq_append]⟩
theorem Ev{S:Type}{l1 l2:List S}{x y:S}{i j:Int}(hi:(l1.length:Int)=i)(hj:(l1.length:Int)+1=j):
  ix (l1++y::x::l2) i=some y∧ix (l1++y::x::l2) j=some x∧((l1++y::x::l2).set j.toNat y).set i.toNat x=l1++x::y::l2∧((l1++y::x::l2).set i.toNat x).set j.toNat y=l1++x::y::l2:=by
 have e1:i.toNat=l1.length:=by omega
 have e2:j.toNat=(l1++ [y]).length:=by simp;omega
 have e3:j.toNat=(l1++ [x]).length:=by simp;omega
 refine⟨zn hi,?_,?_,?_⟩
 ·rw [show l1++y::x::l2=(l1++ [y])++x::l2 by simp]
  exact zn (by simp;omega)
 ·rw [show l1++y::x::l2=(l1++ [y])++x::l2 by simp,xJ e2.symm,show (l1++ [y])++y::l2=l1++y::(y::l2) by simp,xJ e1.symm]
 ·rw [xJ e1.symm,show l1++x::x::l2=(l1++ [x])++x::l2 by simp,xJ e3.symm];simp
theorem Bl{S:Type}{l:List S}{i j:Int}{y z:S}(h:ix l j=some z)(jR:i.toNat≠j.toNat):ix (l.set i.toNat y) j=some z:=by
 unfold ix at*
 split at h
 ·rename_i hj;rw [ak hj,mq jR];exact h
 ·cases h
section
variable {S:Type} {cmp:S→S→Option Int} {D:S→Prop} {key:S→Int} {num:S→Nat}
theorem P7(hc:P6 cmp D key)(P R:List S)(x:S)(hx:D x)(hb:P.length≤4611686018427387904):∀(n:Nat) (Y1 Y2:List S),Y1.length=n→P.length+n≤4611686018427387904→(∀y∈Y1,D y∧num y<num x)→(Y1++Y2).Pairwise (qc key num)→(∀y∈Y2,qc key num x y)→
  ∃Z,loop (nz.kq cmp (P.length:Int)) (P++Y1++x::(Y2++R),(P.length:Int)+(n:Int))=some (P++Z++R)∧Z.Perm (x::(Y1++Y2))∧Z.Pairwise (qc key num):=by
 intro n
 induction n with
 | zero=>
  intro Y1 Y2 hn _ _ hp gy
  obtain rfl:=kb hn
  refine⟨x::Y2,?_,by simp,lK.2 ⟨gy,by simpa using hp⟩⟩
  rw [bH];simp [nz.kq]
 | succ n ih=>
  intro Y1 Y2 hn zM hy hp gy
  rcases Eu Y1 with rfl | ⟨Y,y,rfl⟩
  ·simp at hn
  have hYn:Y.length=n:=by simp at hn;exact hn
  obtain⟨hDy,hyx⟩:=hy y (by simp)
  obtain⟨c,VN,Co⟩:=hc x y hx hDy
  have hw:au ((P.length:Int)+((n+1:Nat):Int)-1)=(P.length:Int)+(n:Int):=by rw [bc (by omega) (by omega)];omega
  have e:P++(Y++ [y])++x::(Y2++R)=(P++Y)++y::x::(Y2++R):=by simp
  obtain⟨s1,s2,s3,s4⟩:=Ev (l1:=P++Y) (l2:=Y2++R) (x:=x) (y:=y) (i:=(P.length:Int)+(n:Int)) (j:=(P.length:Int)+((n+1:Nat):Int)) (by simp;omega) (by simp;omega)
  by_cases Xz:c<0
  ·obtain⟨Z,z1,z2,z3⟩:=ih Y (y::Y2) hYn (by omega) (fun z hz=>hy z (by simp [hz])) (by simpa using hp) (by
    intro z hz
    rcases eK.1 hz with rfl | hz
    ·exact .inl (Co.1 Xz)
    ·exact gy z hz)
   refine⟨Z,?_,z2.trans (by simp),z3⟩
   rw [bH]
   have hs:ix (((P++Y)++y::x::(Y2++R)).set ((P.length:Int)+((n+1:Nat):Int)).toNat y) ((P.length:Int)+(n:Int))=some y:=Bl s1 (by omega)
   simp only [nz.kq,e,hw,s1,s2,VN,ar,Xz,decide_true,cp,hs]
   rw [ak (by simp;omega),s3]
   simp only [iX,nD] at z1⊢
   exact z1
  ·refine⟨Y++ [y]++x::Y2,?_,List.perm_middle,?_⟩
   ·rw [bH]
    simp only [nz.kq,e,hw,s1,s2,VN,ar,Xz,decide_false,cM,bU]
    rw [ak (by simp;omega)]
    simp
   ·have hk:qc key num y x:=qc.Iq (fun h=>Xz (Co.2 h)) hyx
    have hp1:=iW.1 hp
    refine iW.2 ⟨hp1.1,lK.2 ⟨gy,hp1.2.1⟩,?_⟩
    intro a ha b hb
    rcases eK.1 hb with rfl | hb
    ·rcases dw.1 ha with ha | ha
     ·have:=(iW.1 hp1.1).2.2 a ha y (by simp)
      exact this.trans hk
     ·simp at ha;subst ha;exact hk
    ·exact hp1.2.2 a ha b hb
theorem P8(hc:P6 cmp D key)(P R:List S):∀(X Z:List S),P.length+Z.length+X.length≤4611686018427387904→(∀y∈Z,D y)→(∀y∈X,D y)→Z.Pairwise (qc key num)→(∀y∈Z,∀x∈X,num y<num x)→X.Pairwise (fun a b=>num a<num b)→
  ∃Y,loop (nz.fY cmp (P.length:Int) ((P.length+Z.length+X.length:Nat):Int)) (P++Z++X++R,(P.length:Int)+(Z.length:Int))=some (P++Y++R)∧Y.Perm (Z++X)∧Y.Pairwise (qc key num):=by
 intro X
 induction X with
 | nil=>
  intro Z _ _ _ hp _ _
  refine⟨Z,?_,by simp,hp⟩
  rw [bH];simp [nz.fY]
 | cons x X ih=>
  intro Z hb hZ hX hp hzx Cz
  obtain⟨Z2,z1,z2,z3⟩:=P7 (num:=num) hc P (X++R) x (hX x (by simp)) (by omega) Z.length Z [] rfl (by simp at hb;omega) (fun y hy=>⟨hZ y hy,hzx y hy x (by simp)⟩) (by simpa using hp) (by simp)
  have hl:Z2.length=Z.length+1:=by rw [z2.length_eq];simp
  have lO:∀y∈Z2,y=x∨y∈Z:=fun y hy=>by
   have:=z2.mem_iff.1 hy
   simpa using this
  obtain⟨Y,y1,y2,y3⟩:=ih Z2 (by simp at hb;omega) (fun y hy=>by rcases lO y hy with rfl | h;exact hX _ (by simp);exact hZ y h) (fun y hy=>hX y (by simp [hy])) z3
   (fun y hy a ha=>by
    rcases lO y hy with rfl | h
    ·exact(lK.1 Cz).1 a ha
    ·exact hzx y h a (by simp [ha])) (lK.1 Cz).2
  refine⟨Y,?_,?_,y3⟩
  ·rw [bH]
   have e:P++Z++x::X++R=P++Z++x::([]++(X++R)):=by simp
   have hw:au ((P.length:Int)+(Z.length:Int)+1)=(P.length:Int)+(Z2.length:Int):=by rw [hl,bc (by omega) (by simp at hb;omega)];omega
   simp only [nz.fY,nz.u6]
   rw [ak (by simp;omega),e,z1]
   simp only [ar,hw]
   rw [show P++Z2++(X++R)=P++Z2++X++R by simp]
   rw [show ((P.length+Z.length+(x::X).length:Nat):Int)=((P.length+Z2.length+X.length:Nat):Int) by simp [hl];omega]
   exact y1
  ·refine y2.trans ?_
   refine(z2.append_right X).trans ?_
   simp only [gz,nD]
   exact List.perm_middle.symm
theorem Ir(hc:P6 cmp D key)(P X R:List S)(hb:P.length+X.length≤4611686018427387900)(hX:∀y∈X,D y)(Cz:X.Pairwise (fun a b=>num a<num b)):
  ∃Y,nz cmp (P++X++R) (P.length:Int) ((P.length+X.length:Nat):Int)=some (P++Y++R)∧Y.Perm X∧Y.Pairwise (qc key num):=by
 have hw:au ((P.length:Int)+1)=(P.length:Int)+1:=bc (by omega) (by omega)
 cases X with
 | nil=>
  refine⟨[],?_,by simp,by simp⟩
  unfold nz
  rw [hw,bH]
  simp only [nz.fY]
  rw [ax (by simp;omega)]
  simp [nz.fk]
 | cons x X=>
  obtain⟨Y,y1,y2,y3⟩:=P8 (num:=num) hc P R X [x] (by simp at hb⊢;omega) (fun y hy=>by simp at hy;subst hy;exact hX _ (by simp)) (fun y hy=>hX y (by simp [hy])) (by simp)
   (fun y hy a ha=>by simp at hy;subst hy;exact(lK.1 Cz).1 a ha) (lK.1 Cz).2
  refine⟨Y,?_,by simpa using y2,y3⟩
  unfold nz
  rw [hw,show ((P.length+(x::X).length:Nat):Int)=((P.length+ [x].length+X.length:Nat):Int) by simp;omega]
  have y1:loop (nz.fY cmp (P.length:Int) ((P.length+ [x].length+X.length:Nat):Int)) (P++(x::X)++R,(P.length:Int)+1)=some (P++Y++R):=by simpa using y1
  rw [y1];rfl
end
section
variable {S:Type} {cmp:S→S→Option Int}
theorem P9(n a b:Int):∀(A B P M R:List S) (i:Int),A.length=B.length→0≤i→0≤a→0≤b→n=i+(A.length:Int)→a+i=(P.length:Int)→b+i=((P++A++M).length:Int)→b+n≤4611686018427387904→a≤b→
  loop (vD.fY cmp a b n) (P++A++M++B++R,i)=some (P++B++M++A++R):=by
 intro A
 induction A with
 | nil=>
  intro B P M R i hl _ _ _ hn _ _ _ _
  obtain rfl:=kb hl.symm
  rw [bH]
  simp only [vD.fY]
  rw [ax (by simp [hn])]
 | cons x A ih=>
  intro B P M R i hl hi ha0 hb0 hn ha hb zM zo
  cases B with
  | nil=>simp at hl
  | cons y B=>
   have QY:A.length=B.length:=by simpa using hl
   simp only [cJ,cf] at hn hb
   have wa:au (a+i)=a+i:=bc (by omega) (by omega)
   have wb:au (b+i)=b+i:=bc (by omega) (by omega)
   have wi:au (i+1)=i+1:=bc (by omega) (by omega)
   have e1:P++x::A++M++y::B++R=P++x::(A++M++y::B++R):=by simp
   have e2:P++x::A++M++y::B++R=(P++x::A++M)++y::(B++R):=by simp
   have i1:ix (P++x::A++M++y::B++R) (a+i)=some x:=by rw [e1];exact zn (by omega)
   have i2:ix (P++x::A++M++y::B++R) (b+i)=some y:=by rw [e2];exact zn (by simp;omega)
   have s1:(P++x::A++M++y::B++R).set (a+i).toNat y=(P++y::A++M)++y::(B++R):=by rw [e1,xJ (by omega)];simp
   have i3:ix ((P++x::A++M++y::B++R).set (a+i).toNat y) (b+i)=some y:=by rw [s1];exact zn (by simp;omega)
   have s2:((P++x::A++M++y::B++R).set (a+i).toNat y).set (b+i).toNat x=(P++ [y])++A++(M++ [x])++B++R:=by rw [s1,xJ (by simp;omega)];simp
   rw [bH]
   simp only [vD.fY,wa,wb,wi,i1,i2,i3,s2,ar]
   rw [ak (by simp;omega)]
   simp only
   rw [ih B (P++ [y]) (M++ [x]) R (i+1) QY (by omega) ha0 hb0 (by omega) (by simp;omega) (by simp;omega) zM zo]
   simp
theorem Is(P A M B R:List S){a b n:Int}(hl:A.length=B.length)(ha:a=(P.length:Int))(hb:b=((P++A++M).length:Int))(hn:n=(A.length:Int))(zM:b+n≤4611686018427387904):
  vD cmp (P++A++M++B++R) a b n=some (P++B++M++A++R):=by
 unfold vD
 rw [P9 n a b A B P M R 0 hl (by omega) (by omega) (by omega) (by omega) (by omega) (by omega) zM (by rw [ha,hb];simp;omega)]
 rfl
theorem Uk(m:Int):∀(n:Nat) (A B P R:List S),A.length+B.length≤n→A≠ []→B≠ []→m=((P++A).length:Int)→m+(B.length:Int)≤4611686018427387904→
  ((loop (zm.pH cmp m) (P++A++B++R,(A.length:Int),(B.length:Int))).bind fun t=>zm.nS cmp m t.1 t.2)=some (P++B++A++R):=by
 intro n
 induction n with
 | zero=>intro A B P R hn hA;exact absurd (kb (by omega)) hA
 | succ n ih=>
  intro A B P R hn hA hB hm zM
  have hA1:=List.length_pos_iff.2 hA
  have hB1:=List.length_pos_iff.2 hB
  simp only [cJ] at hm
  have w1:au (m-(A.length:Int))=(P.length:Int):=by rw [bc (by omega) (by omega)];omega
  rw [bH]
  simp only [zm.pH,zm.nJ,w1]
  by_cases he:A.length=B.length
  ·rw [ax (by simp [he])]
   simp only [ar,zm.nS,w1]
   have:=Is (cmp:=cmp) P A [] B R (a:=(P.length:Int)) (b:=m) (n:=(A.length:Int)) he rfl (by simp;omega) rfl (by omega)
   simp only [gz] at this
   rw [this];rfl
  ·rw [ak (by simp;omega)]
   by_cases hgt:B.length<A.length
   ·rw [ak (by simp;omega)]
    have e:A=A.take B.length++A.drop B.length:=(kz _ _).symm
    have l1:(A.take B.length).length=B.length:=by rw [gl];omega
    have l2:(A.drop B.length).length=A.length-B.length:=iu
    have s:=Is (cmp:=cmp) P (A.take B.length) (A.drop B.length) B R (a:=(P.length:Int)) (b:=m) (n:=(B.length:Int)) l1 rfl (by simp;omega) (by omega) (by omega)
    have e2:P++A.take B.length++A.drop B.length++B++R=P++A++B++R:=by rw [iX P,kz]
    rw [e2] at s
    rw [s]
    simp only [ar]
    have w2:au ((A.length:Int)-(B.length:Int))=((A.drop B.length).length:Int):=by rw [bc (by omega) (by omega),l2];omega
    rw [w2]
    have:=ih (A.drop B.length) (A.take B.length) (P++B) R (by omega) (by intro h;rw [h] at l2;simp at l2;omega) (by intro h;rw [h] at l1;simp at l1;omega) (by simp only [cJ];omega) (by rw [l1];exact zM)
    rw [l1] at this
    rw [this,show P++B++A.take B.length++A.drop B.length++R=P++B++A++R by rw [iX (P++B),kz]]
   ·rw [ax (by simp;omega)]
    have gy:A.length<B.length:=by omega
    have l1:(B.take (B.length-A.length)).length=B.length-A.length:=by rw [gl];omega
    have l2:(B.drop (B.length-A.length)).length=A.length:=by rw [iu];omega
    have w2:au (au (m+(B.length:Int))-(A.length:Int))=m+(B.length:Int)-(A.length:Int):=by rw [wI (m+_),bc (by omega) (by omega)]
    have s:=Is (cmp:=cmp) P A (B.take (B.length-A.length)) (B.drop (B.length-A.length)) R (a:=(P.length:Int)) (b:=m+(B.length:Int)-(A.length:Int)) (n:=(A.length:Int)) l2.symm rfl (by simp only [cJ];omega) rfl (by omega)
    have e2:P++A++B.take (B.length-A.length)++B.drop (B.length-A.length)++R=P++A++B++R:=by rw [iX (P++A),kz]
    rw [e2] at s
    rw [w2,s]
    simp only [ar]
    have w3:au ((B.length:Int)-(A.length:Int))=((B.take (B.length-A.length)).length:Int):=by rw [bc (by omega) (by omega),l1];omega
    rw [w3]
    have:=ih (B.drop (B.length-A.length)) (B.take (B.length-A.length)) P (A++R) (by omega) (by intro h;rw [h] at l2;simp at l2;omega) (by intro h;rw [h] at l1;simp at l1;omega) (by simp only [cJ];omega) (by omega)
    rw [l2] at this
    rw [show P++B.drop (B.length-A.length)++B.take (B.length-A.length)++A++R=P++B.drop (B.length-A.length)++B.take (B.length-A.length)++(A++R) by simp,this]
    rw [iX P,kz]
    simp
theorem abD(P A B R:List S){a m b:Int}(hA:A≠ [])(hB:B≠ [])(ha:a=(P.length:Int))(hm:m=((P++A).length:Int))(hb:b=((P++A++B).length:Int))(zM:b≤4611686018427387904):
  zm cmp (P++A++B++R) a m b=some (P++B++A++R):=by
 unfold zm
 simp only [cJ] at hm hb
 have w1:au (m-a)=(A.length:Int):=by rw [bc (by omega) (by omega)];omega
 have w2:au (b-m)=(B.length:Int):=by rw [bc (by omega) (by omega)];omega
 rw [w1,w2]
 exact Uk m (A.length+B.length) A B P R (bt _) hA hB (by simp only [cJ];omega) (by omega)
end
theorem AC{s:Int}(h0:0≤s)(h1:s≤9223372036854775807):au (eC .u64 (u64 (au s)) 1)=s/2:=by
 obtain⟨n,rfl⟩:=rv h0
 rw [wI (n:Int),u64_in (n:=(n:Int)) (by omega) (by omega)]
 have:=qW .u64 n 1 (by decide)
 rw [show ((1:Nat):Int)=1 from rfl] at this
 rw [this,xA]
 rw [bc (by omega) (by omega)]
 simp
theorem bsearch{f:Int×Int→Option ((Int×Int)⊕Int)}(pf:Int→Bool)(lo hi:Int)
  (hf:∀i j,lo≤i→i<j→j≤hi→f (i,j)=some (.inl (if pf ((i+j)/2) then((i+j)/2+1,j) else(i,(i+j)/2)))) (he:∀i,f (i,i)=some (.inr i)):
  ∀(n:Nat) (i j:Int),lo≤i→i≤j→j≤hi→(j-i).toNat≤n→(i=lo∨pf (i-1)=true)→(j=hi∨pf j=false)→∃k,lo≤k∧k≤hi∧loop f (i,j)=some k∧(k=lo∨pf (k-1)=true)∧(k=hi∨pf k=false):=by
 intro n
 induction n with
 | zero=>
  intro i j h1 h2 h3 hn hi hj
  obtain rfl:i=j:=by omega
  exact⟨i,h1,h3,by rw [bH,he],hi,hj⟩
 | succ n ih=>
  intro i j h1 h2 h3 hn hi hj
  by_cases e:i=j
  ·subst e;exact⟨i,h1,h3,by rw [bH,he],hi,hj⟩
  ·rw [bH,hf i j h1 (by omega) h3]
   cases hp:pf ((i+j)/2) with
   | true=>simp only [cp];exact ih _ _ (by omega) (by omega) h3 (by omega) (.inr (by rw [Int.add_sub_cancel];exact hp)) hj
   | false=>simp only [cM,bU];exact ih _ _ h1 (by omega) (by omega) (by omega) hi (.inr hp)
theorem OM{S:Type}(P X R:List S){c:Int}{k:Nat}(hk:k<X.length)(hc:c=(P.length:Int)+(k:Int)):ix (P++X++R) c=some X[k]:=by
 have e:c=((P.length+k:Nat):Int):=by omega
 rw [e]
 refine Io ?_
 rw [iX,nB (by omega),Nat.add_sub_cancel_left,mQ hk]
 simp [hk]
section
variable {S:Type} {cmp:S→S→Option Int} {D:S→Prop} {key:S→Int} {num:S→Nat}
theorem AD{B:List S}(hp:B.Pairwise (qc key num))(s:Nat){x:S}(h:∀y,1≤s→B[s-1]?=some y→qc key num y x)(hs:s≤B.length):∀y∈B.take s,qc key num y x:=by
 intro y hy
 obtain⟨i,hi,rfl⟩:=ox.1 hy
 have Gn:i<s:=by rw [gl] at hi;omega
 rw [rB]
 have hz:B[s-1]?=some B[s-1]:=bM _
 have h1:=h _ (by omega) hz
 by_cases e:i=s-1
 ·subst e;exact h1
 ·exact(ou.1 hp i (s-1) (by omega) (by omega) (by omega)).trans h1
theorem AE{B:List S}(hp:B.Pairwise (qc key num))(s:Nat){x:S}(h:∀y,B[s]?=some y→qc key num x y):∀y∈B.drop s,qc key num x y:=by
 intro y hy
 obtain⟨i,hi,rfl⟩:=ox.1 hy
 have Gn:s+i<B.length:=by rw [iu] at hi;omega
 rw [List.getElem_drop]
 have hz:B[s]?=some B[s]:=bM _
 have h1:=h _ hz
 by_cases e:i=0
 ·subst e;exact h1
 ·exact h1.trans (ou.1 hp s (s+i) (by omega) (by omega) (by omega))
theorem mvR(x:S)(i:Int):∀(B P R:List S),i=((P.length+B.length+1:Nat):Int)→i≤4611686018427387904→loop (fm.PN cmp i) (P++x::(B++R),(P.length:Int))=some (P++B++x::R):=by
 intro B
 induction B with
 | nil=>
  intro P R hi hb
  have hw:au (i-1)=i-1:=bc (by omega) (by omega)
  rw [bH];simp only [fm.PN,hw]
  rw [ax (by simp at hi;simp;omega)];simp
 | cons y B ih=>
  intro P R hi hb
  simp only [cf] at hi
  have hw:au (i-1)=i-1:=bc (by omega) (by omega)
  have Ce:au ((P.length:Int)+1)=(P.length:Int)+1:=bc (by omega) (by omega)
  obtain⟨s1,s2,s3,s4⟩:=Ev (l1:=P) (l2:=B++R) (x:=y) (y:=x) (i:=(P.length:Int)) (j:=(P.length:Int)+1) rfl rfl
  have s5:ix ((P++x::y::(B++R)).set ((P.length:Int)).toNat y) ((P.length:Int)+1)=some y:=Bl s2 (by omega)
  rw [bH]
  rw [show P++x::(y::B++R)=P++x::y::(B++R) by simp]
  simp only [fm.PN,hw,Ce,s1,s2,s5,s4,ar]
  rw [ak (by simp;omega)]
  have:=ih (P++ [y]) R (by simp;omega) hb
  simp only [cJ,List.length_singleton] at this
  rw [show ((P.length+1:Nat):Int)=(P.length:Int)+1 by omega] at this
  simp only
  rw [show P++y::x::(B++R)=P++ [y]++x::(B++R) by simp,this]
  simp
theorem mvL(x:S)(i:Int)(P:List S)(hi:i=(P.length:Int)):∀(n:Nat) (A R:List S),A.length=n→P.length+n≤4611686018427387904→loop (fm.Aw cmp i) (P++A++x::R,(P.length:Int)+(n:Int))=some (P++x::(A++R)):=by
 intro n
 induction n with
 | zero=>
  intro A R hA hb
  obtain rfl:=kb hA
  rw [bH];simp [fm.Aw,hi]
 | succ n ih=>
  intro A R hA hb
  rcases Eu A with rfl | ⟨A,y,rfl⟩
  ·simp at hA
  have hAn:A.length=n:=by simpa using hA
  have hw:au ((P.length:Int)+((n+1:Nat):Int)-1)=(P.length:Int)+(n:Int):=by rw [bc (by omega) (by omega)];omega
  obtain⟨s1,s2,s3,s4⟩:=Ev (l1:=P++A) (l2:=R) (x:=x) (y:=y) (i:=(P.length:Int)+(n:Int)) (j:=(P.length:Int)+((n+1:Nat):Int)) (by simp;omega) (by simp;omega)
  have s5:ix (((P++A)++y::x::R).set ((P.length:Int)+((n+1:Nat):Int)).toNat y) ((P.length:Int)+(n:Int))=some y:=Bl s1 (by omega)
  rw [bH,show P++(A++ [y])++x::R=(P++A)++y::x::R by simp]
  simp only [fm.Aw,hw,s1,s2,s5,s3,ar]
  rw [ak (by simp;omega)]
  simp only
  rw [ih A (y::R) hAn (by omega)]
  simp
end
section
variable {S:Type} {cmp:S→S→Option Int} {D:S→Prop} {key:S→Int} {num:S→Nat}
theorem Ul(hc:P6 cmp D key)(x:S)(B P R:List S){a m b:Int}(ha:a=(P.length:Int))(hm:m=(P.length:Int)+1)(hb:b=((P.length+1+B.length:Nat):Int))(zM:b≤4611686018427387904)
  (hx:D x) (hB:∀y∈B,D y) (hp:B.Pairwise (qc key num)) (hn:∀y∈B,num x<num y):
  ∃Z,((loop (fm.Ax cmp (P++ [x]++B++R) a) (m,b)).bind fun t=>fm.fk cmp (P++ [x]++B++R) a t)=some (P++Z++R)∧Z.Perm (x::B)∧Z.Pairwise (qc key num):=by
 have ix0:ix (P++ [x]++B++R) a=some x:=by
  rw [show P++ [x]++B++R=P++x::(B++R) by simp];exact zn ha.symm
 have ixB:∀(k:Nat) (hk:k<B.length),ix (P++ [x]++B++R) (m+(k:Int))=some B[k]:=fun k hk=>OM (P++ [x]) B R hk (by simp;omega)
 let pf:Int→Bool:=fun h=>match B[(h-m).toNat]? with | some y=>decide (key y<key x) | none=>true
 have Um:∀(k:Nat) (hk:k<B.length),pf (m+(k:Int))=decide (key B[k]<key x):=by
  intro k hk
  simp only [pf,show (m+(k:Int)-m).toNat=k by omega,bM hk]
 obtain⟨k,k1,k2,k3,k4,k5⟩:=bsearch (f:=fm.Ax cmp (P++ [x]++B++R) a) pf m b (by
  intro i j h1 h2 h3
  have hw:au (eC .u64 (u64 (au (i+j))) 1)=(i+j)/2:=AC (by omega) (by omega)
  obtain⟨q,hq⟩:=rv (show 0≤(i+j)/2-m by omega)
  have WO:q<B.length:=by omega
  have eh:(i+j)/2=m+(q:Int):=by omega
  obtain⟨c,c1,c2⟩:=hc B[q] x (hB _ (bT WO)) hx
  have Ce:au ((i+j)/2+1)=(i+j)/2+1:=bc (by omega) (by omega)
  simp only [fm.Ax,fm.KA,hw,Ce,ix0]
  rw [ak (by simpa using h2),eh,ixB q WO,Um q WO]
  simp only [ar,c1]
  by_cases gy:c<0
  ·simp [gy,c2.1 gy]
  ·have:¬key B[q]<key x:=fun h=>gy (c2.2 h)
   simp [gy,this]) (by intro i;simp [fm.Ax]) (b-m).toNat m b (by omega) (by omega) (by omega) (by omega) (.inl rfl) (.inl rfl)
 obtain⟨s,hs⟩:=rv (show 0≤k-m by omega)
 have Jq:s≤B.length:=by omega
 have lt1:∀y∈B.take s,qc key num y x:=AD hp s (by
  intro y h1 hy
  have hl:s-1<B.length:=by omega
  rw [bM hl] at hy
  cases hy
  rcases k4 with h | h
  ·omega
  ·rw [show k-1=m+((s-1:Nat):Int) by omega,Um (s-1) hl] at h
   exact .inl (by simpa using h)) Jq
 have lt2:∀y∈B.drop s,qc key num x y:=AE hp s (by
  intro y hy
  have hl:s<B.length:=(gY.1 hy).1
  rw [bM hl] at hy
  cases hy
  rcases k5 with h | h
  ·omega
  ·rw [show k=m+(s:Int) by omega,Um s hl] at h
   exact qc.Iq (by simpa using h) (hn _ (bT hl)))
 have xC:=kz s B
 refine⟨B.take s++x::B.drop s,?_,?_,?_⟩
 ·rw [k3]
  simp only [ar,fm.fk]
  have Cf:(B.take s).length=s:=by rw [gl];omega
  have:=mvR (cmp:=cmp) x k (B.take s) P (B.drop s++R) (by rw [Cf];omega) (by omega)
  rw [show P++x::(B.take s++(B.drop s++R))=P++ [x]++B++R by rw [←iX (B.take s),xC];simp] at this
  rw [ha,this]
  simp [fm.ki]
 ·refine List.perm_middle.trans ?_
  rw [xC]
 ·have XA:(B.take s++B.drop s).Pairwise (qc key num):=by rw [xC];exact hp
  have hp3:=iW.1 XA
  refine iW.2 ⟨hp3.1,lK.2 ⟨lt2,hp3.2.1⟩,?_⟩
  intro u hu v hv
  rcases eK.1 hv with rfl | hv
  ·exact lt1 u hu
  ·exact hp3.2.2 u hu v hv
theorem P_(hc:P6 cmp D key)(x:S)(A P R:List S){a m:Int}(ha:a=(P.length:Int))(hm:m=((P.length+A.length:Nat):Int))(zM:m≤4611686018427387904)
  (hx:D x) (hA:∀y∈A,D y) (hp:A.Pairwise (qc key num)) (hn:∀y∈A,num y<num x):
  ∃Z,((loop (fm.KB cmp (P++A++ [x]++R) m) (a,m)).bind fun t=>fm.MC cmp (P++A++ [x]++R) m t)=some (P++Z++R)∧Z.Perm (A++ [x])∧Z.Pairwise (qc key num):=by
 have ix0:ix (P++A++ [x]++R) m=some x:=by
  rw [show P++A++ [x]++R=(P++A)++x::R by simp];exact zn (by simp;omega)
 have ixA:∀(k:Nat) (hk:k<A.length),ix (P++A++ [x]++R) (a+(k:Int))=some A[k]:=fun k hk=>by
  rw [iX (P++A)];exact OM P A ([x]++R) hk (by omega)
 let pf:Int→Bool:=fun h=>match A[(h-a).toNat]? with | some y=> !(decide (key x<key y)) | none=>true
 have Um:∀(k:Nat) (hk:k<A.length),pf (a+(k:Int))= !(decide (key x<key A[k])):=by
  intro k hk
  simp only [pf,show (a+(k:Int)-a).toNat=k by omega,bM hk]
 obtain⟨k,k1,k2,k3,k4,k5⟩:=bsearch (f:=fm.KB cmp (P++A++ [x]++R) m) pf a m (by
  intro i j h1 h2 h3
  have hw:au (eC .u64 (u64 (au (i+j))) 1)=(i+j)/2:=AC (by omega) (by omega)
  obtain⟨q,hq⟩:=rv (show 0≤(i+j)/2-a by omega)
  have WO:q<A.length:=by omega
  have eh:(i+j)/2=a+(q:Int):=by omega
  obtain⟨c,c1,c2⟩:=hc x A[q] hx (hA _ (bT WO))
  have Ce:au ((i+j)/2+1)=(i+j)/2+1:=bc (by omega) (by omega)
  simp only [fm.KB,fm.Az,hw,Ce,ix0]
  rw [ak (by simpa using h2),eh,ixA q WO,Um q WO]
  simp only [ar,c1]
  by_cases gy:c<0
  ·simp [gy,c2.1 gy]
  ·have:¬key x<key A[q]:=fun h=>gy (c2.2 h)
   simp [gy,this]) (by intro i;simp [fm.KB]) (m-a).toNat a m (by omega) (by omega) (by omega) (by omega) (.inl rfl) (.inl rfl)
 obtain⟨s,hs⟩:=rv (show 0≤k-a by omega)
 have Jq:s≤A.length:=by omega
 have lt1:∀y∈A.take s,qc key num y x:=AD hp s (by
  intro y h1 hy
  have hl:s-1<A.length:=by omega
  rw [bM hl] at hy
  cases hy
  rcases k4 with h | h
  ·omega
  ·rw [show k-1=a+((s-1:Nat):Int) by omega,Um (s-1) hl] at h
   exact qc.Iq (by simpa using h) (hn _ (bT hl))) Jq
 have lt2:∀y∈A.drop s,qc key num x y:=AE hp s (by
  intro y hy
  have hl:s<A.length:=(gY.1 hy).1
  rw [bM hl] at hy
  cases hy
  rcases k5 with h | h
  ·omega
  ·rw [show k=a+(s:Int) by omega,Um s hl] at h
   exact .inl (by simpa using h))
 have xC:=kz s A
 refine⟨A.take s++x::A.drop s,?_,?_,?_⟩
 ·rw [k3]
  simp only [ar,fm.MC]
  have Cf:(A.take s).length=s:=by rw [gl];omega
  have QY:(A.drop s).length=A.length-s:=iu
  have:=mvL (cmp:=cmp) x k (P++A.take s) (by simp only [cJ,Cf];omega) (A.length-s) (A.drop s) R QY (by simp only [cJ,Cf];omega)
  rw [show P++A.take s++A.drop s++x::R=P++A++ [x]++R by rw [iX P,xC];simp,show (((P++A.take s).length:Nat):Int)+((A.length-s:Nat):Int)=m by simp only [cJ,Cf];omega] at this
  rw [this]
  simp [fm.DT]
 ·refine List.perm_middle.trans ?_
  rw [xC]
  exact(List.perm_append_comm (l₁:= [x]) (l₂:=A))
 ·have XA:(A.take s++A.drop s).Pairwise (qc key num):=by rw [xC];exact hp
  have hp3:=iW.1 XA
  refine iW.2 ⟨hp3.1,lK.2 ⟨lt2,hp3.2.1⟩,?_⟩
  intro u hu v hv
  rcases eK.1 hv with rfl | hv
  ·exact lt1 u hu
  ·exact hp3.2.2 u hu v hv
end
section
variable {S:Type} {cmp:S→S→Option Int} {D:S→Prop} {key:S→Int} {num:S→Nat}
theorem ON(hc:P6 cmp D key)(A B P R:List S){a m b r9 lo hi:Int}(ha:a=(P.length:Int))(hm:m=((P.length+A.length:Nat):Int))(hb:b=((P.length+A.length+B.length:Nat):Int))(zM:b≤2305843009213693952)
  (Un:r9=(a+b)/2) (hA:∀y∈A,D y) (hB:∀y∈B,D y) (hpA:A.Pairwise (qc key num)) (hpB:B.Pairwise (qc key num)) (hn:∀x∈A,∀y∈B,num x<num y)
  (hlh:(m≤r9∧lo=a∧hi=m)∨(r9<m∧lo=r9+m-b∧hi=r9)) (hA0:1≤A.length) (hB0:1≤B.length):
  ∃s e:Nat,s≤A.length∧e≤B.length∧a+(s:Int)+(e:Int)=r9∧loop (fm.KF cmp (P++A++B++R) a m b) (lo,hi)=some (a+(s:Int))∧
   (∀x∈A.take s,∀y∈B.drop e,qc key num x y)∧(∀x∈B.take e,∀y∈A.drop s,qc key num x y):=by
 have ixA:∀(k:Nat) (hk:k<A.length),ix (P++A++B++R) (a+(k:Int))=some A[k]:=fun k hk=>by
  rw [iX (P++A)];exact OM P A (B++R) hk (by omega)
 have ixB:∀(k:Nat) (hk:k<B.length),ix (P++A++B++R) (m+(k:Int))=some B[k]:=fun k hk=>OM (P++A) B R hk (by simp only [cJ];omega)
 have w0:au (eC .u64 (u64 (au (a+b))) 1)=r9:=by rw [AC (by omega) (by omega)];omega
 have w1:au (au (r9+m)-1)=r9+m-1:=by rw [wI (r9+m),bc (by omega) (by omega)]
 have two:∀c:Int,lo≤c→c<hi→∃(q r:Nat) (hq:q<A.length) (hr:r<B.length),c=a+(q:Int)∧r9+m-1-c=m+(r:Int):=by
  intro c h1 h2
  obtain⟨q,hq⟩:=rv (show 0≤c-a by omega)
  obtain⟨r,hr⟩:=rv (show 0≤r9-1-c by omega)
  exact⟨q,r,by omega,by omega,by omega,by omega⟩
 let pf:Int→Bool:=fun c=>match A[(c-a).toNat]?,B[(r9-1-c).toNat]? with | some x,some y=> !(decide (key y<key x)) | _,_=>true
 have Um:∀(q r:Nat) (hq:q<A.length) (hr:r<B.length),a+(q:Int)+(r:Int)+1=r9→pf (a+(q:Int))= !(decide (key B[r]<key A[q])):=by
  intro q r hq hr he
  simp only [pf,show (a+(q:Int)-a).toNat=q by omega,show (r9-1-(a+(q:Int))).toNat=r by omega,bM hq,bM hr]
 obtain⟨k,k1,k2,k3,k4,k5⟩:=bsearch (f:=fm.KF cmp (P++A++B++R) a m b) pf lo hi (by
  intro i j h1 h2 h3
  have hw:au (eC .u64 (u64 (au (i+j))) 1)=(i+j)/2:=AC (by omega) (by omega)
  obtain⟨q,r,hq,hr,e1,e2⟩:=two ((i+j)/2) (by omega) (by omega)
  obtain⟨c,c1,c2⟩:=hc B[r] A[q] (hB _ (bT hr)) (hA _ (bT hq))
  have Ce:au ((i+j)/2+1)=(i+j)/2+1:=bc (by omega) (by omega)
  have Re:au (r9+m-1-(i+j)/2)=m+(r:Int):=by rw [bc (by omega) (by omega)];exact e2
  simp only [fm.KF,fm.KE,hw,Ce,w0,w1,Re]
  rw [ak (by simpa using h2),e1,ixB r hr,ixA q hq,Um q r hq hr (by omega)]
  simp only [ar,c1]
  by_cases gy:c<0
  ·simp [gy,c2.1 gy]
  ·have:¬key B[r]<key A[q]:=fun h=>gy (c2.2 h)
   simp [gy,this]) (by intro i;simp [fm.KF]) (hi-lo).toNat lo hi (by omega) (by omega) (by omega) (by omega) (.inl rfl) (.inl rfl)
 obtain⟨s,hs⟩:=rv (show 0≤k-a by omega)
 obtain⟨e,he⟩:=rv (show 0≤r9-k by omega)
 refine⟨s,e,by omega,by omega,by omega,by rw [k3];congr 1;omega,?_,?_⟩
 · -- left of the cut in A, right of it in B
  intro x hx
  refine AE hpB e ?_
  intro y hy
  have hl:e<B.length:=(gY.1 hy).1
  rw [bM hl] at hy
  cases hy
  refine AD hpA s ?_ (by omega) x hx
  intro z h1 hz
  have QY:s-1<A.length:=by omega
  rw [bM QY] at hz
  cases hz
  rcases k4 with h | h
  ·omega
  ·rw [show k-1=a+((s-1:Nat):Int) by omega,Um (s-1) e QY hl (by omega)] at h
   exact qc.Iq (by simpa using h) (hn _ (bT QY) _ (bT hl))
 ·intro x hx
  refine AE hpA s ?_
  intro y hy
  have hl:s<A.length:=(gY.1 hy).1
  rw [bM hl] at hy
  cases hy
  refine AD hpB e ?_ (by omega) x hx
  intro z h1 hz
  have QY:e-1<B.length:=by omega
  rw [bM QY] at hz
  cases hz
  rcases k5 with h | h
  ·omega
  ·rw [show k=a+(s:Int) by omega,Um s (e-1) hl QY (by omega)] at h
   exact .inl (by simpa using h)
theorem Uo(hc:P6 cmp D key):∀(fu:Nat) (A B P R:List S) (a m b:Int),1≤A.length→1≤B.length→A.length+B.length≤2^fu→a=(P.length:Int)→m=((P.length+A.length:Nat):Int)→b=((P.length+A.length+B.length:Nat):Int)→b≤2305843009213693952→
  (∀y∈A,D y)→(∀y∈B,D y)→A.Pairwise (qc key num)→B.Pairwise (qc key num)→(∀x∈A,∀y∈B,num x<num y)→
  ∃Z,fm.fW cmp fu (P++A++B++R) a m b=some (P++Z++R)∧Z.Perm (A++B)∧Z.Pairwise (qc key num):=by
 intro fu
 induction fu with
 | zero=>intro A B P R a m b h1 h2 h3;simp at h3;omega
 | succ fu ih=>
  intro A B P R a m b hA0 hB0 HO ha hm hb zM hA hB hpA hpB hn
  rw [Nat.pow_succ] at HO
  have w1:au (m-a)=(A.length:Int):=by rw [bc (by omega) (by omega)];omega
  have w2:au (b-m)=(B.length:Int):=by rw [bc (by omega) (by omega)];omega
  have w0:au (eC .u64 (u64 (au (a+b))) 1)=(a+b)/2:=AC (by omega) (by omega)
  simp only [fm.fW,fm.step,w1,w2,w0]
  by_cases e1:A.length=1
  ·obtain⟨x,rfl⟩:=List.length_eq_one_iff.1 e1
   rw [ak (by simp)]
   obtain⟨Z,z1,z2,z3⟩:=Ul (num:=num) hc x B P R ha (by simp at hm;omega) (by simp at hb;omega) (by omega) (hA x (by simp)) hB hpB (fun y hy=>hn x (by simp) y hy)
   exact⟨Z,z1,by simpa using z2,z3⟩
  ·rw [ax (by simp;omega)]
   by_cases e2:B.length=1
   ·obtain⟨x,rfl⟩:=List.length_eq_one_iff.1 e2
    rw [ak (by simp)]
    exact P_ (num:=num) hc x A P R ha hm (by omega) (hB x (by simp)) hA hpA (fun y hy=>hn y hy x (by simp))
   ·rw [ax (by simp;omega)]
    obtain⟨r9,Un⟩:∃r9,r9=(a+b)/2:=⟨_,rfl⟩
    rw [←Un]
    have tail:∀s e:Nat,s≤A.length→e≤B.length→a+(s:Int)+(e:Int)=r9→(∀x∈A.take s,∀y∈B.drop e,qc key num x y)→(∀x∈B.take e,∀y∈A.drop s,qc key num x y)→
      ∃Z,fm.MD cmp (fm.fW cmp fu) (P++A++B++R) a m b (a+(s:Int))=some (P++Z++R)∧Z.Perm (A++B)∧Z.Pairwise (qc key num):=by
     intro s e hs he hse l1 l2
     obtain⟨A1,hA1⟩:∃A1,A1=A.take s:=⟨_,rfl⟩
     obtain⟨A2,hA2⟩:∃A2,A2=A.drop s:=⟨_,rfl⟩
     obtain⟨C,hC⟩:∃C,C=B.take e:=⟨_,rfl⟩
     obtain⟨E,hE⟩:∃E,E=B.drop e:=⟨_,rfl⟩
     have hAe:A=A1++A2:=by rw [hA1,hA2,kz]
     have hBe:B=C++E:=by rw [hC,hE,kz]
     have nA1:A1.length=s:=by rw [hA1,gl];omega
     have nC:C.length=e:=by rw [hC,gl];omega
     have nA2:A2.length=A.length-s:=by rw [hA2];exact iu
     have nE:E.length=B.length-e:=by rw [hE];exact iu
     rw [←hA1,←hE] at l1
     rw [←hC,←hA2] at l2
     clear hA1 hA2 hC hE
     subst hAe hBe
     have pA:=iW.1 hpA
     have pB:=iW.1 hpB
     have w3:au (au (r9+m)-(a+(s:Int)))=m+(e:Int):=by rw [wI (r9+m),bc (by omega) (by omega)];omega
     obtain⟨Z1,y1,y2,y3⟩:∃Z1,(if(decide (a<a+(s:Int))&&decide (a+(s:Int)<r9))=true then fm.fW cmp fu (P++A1++C++(A2++E++R)) a (a+(s:Int)) r9 else some (P++A1++C++(A2++E++R)))=some (P++Z1++(A2++E++R))∧Z1.Perm (A1++C)∧Z1.Pairwise (qc key num):=by
      by_cases Ew:1≤s∧1≤e
      ·rw [ak (by simp;omega)]
       exact ih A1 C P (A2++E++R) a (a+(s:Int)) r9 (by omega) (by omega) (by simp only [cJ] at*;omega) ha (by omega) (by omega) (by omega) (fun y hy=>hA y (by simp [hy])) (fun y hy=>hB y (by simp [hy])) pA.1 pB.1
        (fun x hx y hy=>hn x (by simp [hx]) y (by simp [hy]))
      ·rw [ax (by simp;omega)]
       refine⟨A1++C,by simp,List.Perm.refl _,?_⟩
       rcases rY s with h | h
       ·rw [kb (by omega:A1.length=0)];simpa using pB.1
       ·rw [kb (by omega:C.length=0)];simpa using pA.1
     have nZ1:Z1.length=s+e:=by rw [y2.length_eq,cJ];omega
     obtain⟨Z2,x1,x2,x3⟩:∃Z2,(if(decide (r9<m+(e:Int))&&decide (m+(e:Int)<b))=true then fm.fW cmp fu (P++Z1++(A2++E++R)) r9 (m+(e:Int)) b else some (P++Z1++(A2++E++R)))=some (P++(Z1++Z2)++R)∧Z2.Perm (A2++E)∧Z2.Pairwise (qc key num):=by
      simp only [cJ] at hm hb hs he
      by_cases Ew:1≤A2.length∧1≤E.length
      ·rw [ak (by simp;omega)]
       obtain⟨Z2,q1,q2,q3⟩:=ih A2 E (P++Z1) R r9 (m+(e:Int)) b (by omega) (by omega) (by simp only [cJ] at*;omega) (by simp only [cJ];omega) (by simp only [cJ];omega) (by simp only [cJ];omega) zM (fun y hy=>hA y (by simp [hy])) (fun y hy=>hB y (by simp [hy])) pA.2.1 pB.2.1
        (fun x hx y hy=>hn x (by simp [hx]) y (by simp [hy]))
       refine⟨Z2,?_,q2,q3⟩
       rw [show P++Z1++(A2++E++R)=P++Z1++A2++E++R by simp,q1];simp
      ·rw [ax (by simp;omega)]
       refine⟨A2++E,by simp,List.Perm.refl _,?_⟩
       rcases rY A2.length with h | h
       ·rw [kb h];simpa using pB.2.1
       ·rw [kb (by omega:E.length=0)];simpa using pA.2.1
     have Zx:au (eC .u64 (u64 (au (a+b))) 1)=r9:=by rw [w0];exact Un.symm
     have k51:fm.Ig cmp (fm.fW cmp fu) a m b (a+(s:Int)) (P++A1++C++(A2++E++R))=some (P++(Z1++Z2)++R):=by
      simp only [fm.Ig,fm.KC,Zx,w3]
      have x1':(if(decide (r9<m+(e:Int))&&decide (m+(e:Int)<b))=true then(fm.fW cmp fu (P++Z1++(A2++E++R)) r9 (m+(e:Int)) b).bind fun abz=>some abz else some (P++Z1++(A2++E++R)))=some (P++(Z1++Z2)++R):=by
       rw [←x1];split<;>simp
      by_cases Ew:(decide (a<a+(s:Int))&&decide (a+(s:Int)<r9))=true
      ·rw [ak Ew] at y1⊢
       rw [y1];simp only [ar];exact x1'
      ·rw [ax Ew] at y1⊢
       rw [e9 y1];exact x1'
     refine⟨Z1++Z2,?_,?_,?_⟩
     ·simp only [fm.MD,Zx,w3]
      simp only [cJ] at hm hb hs he
      by_cases Ew:1≤A2.length∧1≤e
      ·rw [ak (by simp;omega)]
       have:=abD (cmp:=cmp) (P++A1) A2 C (E++R) (a:=a+(s:Int)) (m:=m) (b:=m+(e:Int)) (by intro h;rw [h] at Ew;simp at Ew) (by intro h;rw [h] at nC;simp at nC;omega) (by simp only [cJ];omega) (by simp only [cJ];omega) (by simp only [cJ];omega) (by omega)
       rw [show P++(A1++A2)++(C++E)++R=P++A1++A2++C++(E++R) by simp,this]
       simp only [ar]
       rw [show P++A1++C++A2++(E++R)=P++A1++C++(A2++E++R) by simp]
       exact k51
      ·rw [ax (by simp;omega)]
       have:P++(A1++A2)++(C++E)++R=P++A1++C++(A2++E++R):=by
        rcases rY A2.length with h | h
        ·rw [kb h];simp
        ·rw [kb (by omega:C.length=0)];simp
       rw [this];exact k51
     ·refine(y2.append x2).trans ?_
      rw [iX,iX,←iX C,←iX A2]
      exact((List.perm_append_comm (l₁:=C) (l₂:=A2)).append_right E).append_left A1
     ·refine iW.2 ⟨y3,x3,?_⟩
      intro u hu v hv
      rcases dw.1 (y2.mem_iff.1 hu) with hu | hu<;>rcases dw.1 (x2.mem_iff.1 hv) with hv | hv
      ·exact pA.2.2 u hu v hv
      ·exact l1 u hu v hv
      ·exact l2 u hu v hv
      ·exact pB.2.2 u hu v hv
    by_cases hgt:r9<m
    ·rw [ak (by simpa using hgt)]
     have w5:au (au (r9+m)-b)=r9+m-b:=by rw [wI (r9+m),bc (by omega) (by omega)]
     rw [w5]
     obtain⟨s,e,q1,q2,q3,q4,q5,q6⟩:=ON (num:=num) hc A B P R ha hm hb zM Un hA hB hpA hpB hn (.inr ⟨hgt,rfl,rfl⟩) hA0 hB0
     simp only [fm.Ih,q4,ar]
     exact tail s e q1 q2 q3 q5 q6
    ·rw [ax (by simpa using hgt)]
     obtain⟨s,e,q1,q2,q3,q4,q5,q6⟩:=ON (num:=num) hc A B P R ha hm hb zM Un hA hB hpA hpB hn (.inl ⟨by omega,rfl,rfl⟩) hA0 hB0
     simp only [fm.Ih,q4,ar]
     exact tail s e q1 q2 q3 q5 q6
end
section
variable {S:Type} {cmp:S→S→Option Int} {D:S→Prop} {key:S→Int} {num:S→Nat}
inductive Gp (key:S→Int) (num:S→Nat) (bs:Nat):List (List S)→List S→Prop
 | nil:Gp key num bs [] []
 | part {Z X:List S}:1≤Z.length→Z.length<bs→Z.Perm X→Z.Pairwise (qc key num)→Gp key num bs [Z] X
 | full {Z X:List S} {Zs:List (List S)} {Xr:List S}:Z.length=bs→Z.Perm X→Z.Pairwise (qc key num)→Gp key num bs Zs Xr→Gp key num bs (Z::Zs) (X++Xr)
theorem Gp.perm{bs:Nat}{Zs:List (List S)}{X:List S}(h:Gp key num bs Zs X):Zs.flatten.Perm X:=by
 induction h with
 | nil=>simp
 | part _ _ hp _=>simpa using hp
 | full _ hp _ _ ih=>simpa using hp.append ih
theorem XB(hc:P6 cmp D key)(n:Int):∀(k:Nat) (X P:List S),X.length≤k→n=((P.length+X.length:Nat):Int)→P.length+X.length≤288230376151711744→(∀y∈X,D y)→X.Pairwise (fun a b=>num a<num b)→
  ∃Zs,Gp key num 20 Zs X∧((loop (fN.u_ cmp n) (P++X,(P.length:Int),(P.length:Int)+20)).bind fun t=>nz cmp t.1 t.2.1 n)=some (P++Zs.flatten):=by
 intro k
 induction k with
 | zero=>
  intro X P hk hn zM hD hp
  obtain rfl:=kb (Nat.le_zero.1 hk)
  obtain⟨Y,y1,y2,_⟩:=Ir (num:=num) hc P [] [] (by omega) (by simp) (by simp)
  refine⟨[], .nil,?_⟩
  rw [bH]
  simp only [fN.u_]
  rw [ax (by simp [hn];omega)]
  have:Y= []:=by simpa using y2
  subst this
  rw [hn];simpa using y1
 | succ k ih=>
  intro X P hk hn zM hD hp
  rw [bH]
  simp only [fN.u_]
  by_cases h20:20≤X.length
  ·rw [ak (by simp;omega)]
   have xC:=kz 20 X
   have l1:(X.take 20).length=20:=by rw [gl];omega
   have l2:(X.drop 20).length=X.length-20:=iu
   have XA:=iW.1 (by rw [xC];exact hp:(X.take 20++X.drop 20).Pairwise _)
   obtain⟨Y,y1,y2,y3⟩:=Ir (num:=num) hc P (X.take 20) (X.drop 20) (by rw [l1];omega) (fun y hy=>hD y (List.mem_of_mem_take hy)) XA.1
   rw [iX P,xC,l1,show ((P.length+20:Nat):Int)=(P.length:Int)+20 by omega] at y1
   rw [y1]
   have nY:Y.length=20:=by rw [y2.length_eq,l1]
   have w1:au ((P.length:Int)+20+20)=((P++Y).length:Int)+20:=by rw [bc (by omega) (by omega),cJ,nY];omega
   simp only [ar,w1]
   obtain⟨Zs,z1,z2⟩:=ih (X.drop 20) (P++Y) (by omega) (by rw [cJ,nY,l2];omega) (by rw [cJ,nY,l2];omega) (fun y hy=>hD y (List.mem_of_mem_drop hy)) XA.2.1
   refine⟨Y::Zs,by rw [←xC];exact .full nY y2 y3 z1,?_⟩
   rw [show ((P++Y).length:Int)=(P.length:Int)+20 by rw [cJ,nY];omega] at z2⊢
   rw [z2];simp
  ·rw [ax (by simp;omega)]
   obtain⟨Y,y1,y2,y3⟩:=Ir (num:=num) hc P X [] (by omega) hD hp
   simp only [gz] at y1
   simp only [ar]
   rw [hn,y1]
   cases X with
   | nil=>
    have:Y= []:=by simpa using y2
    subst this
    exact⟨[], .nil,by simp⟩
   | cons x X=>exact⟨[Y], .part (by rw [y2.length_eq];simp) (by rw [y2.length_eq];omega) y2 y3,by simp⟩
theorem Hl{X Xr Z:List S}(hp:(X++Xr).Pairwise (fun a b=>num a<num b)){Z2 X2 Xr2:List S}(h2:Xr=X2++Xr2)(hz:Z.Perm X)(hz2:Z2.Perm X2):∀x∈Z,∀y∈Z2,num x<num y:=by
 intro x hx y hy
 subst h2
 exact(iW.1 hp).2.2 x (hz.mem_iff.1 hx) y (by simp [hz2.mem_iff.1 hy])
theorem Up{n:Nat}(h:n≤2305843009213693952):n≤2^200:=k7 h (by decide)
theorem Uq(hc:P6 cmp D key)(n:Int)(bs:Nat)(u4:1≤bs)(aky:bs≤288230376151711744):∀(k:Nat) (Zs:List (List S)) (X P:List S),Zs.length≤k→Gp key num bs Zs X→n=((P.length+X.length:Nat):Int)→P.length+X.length≤288230376151711744→(∀y∈X,D y)→X.Pairwise (fun a b=>num a<num b)→
  ∃Zs',Gp key num (bs*2) Zs' X∧((loop (fN.j4 cmp n (bs:Int)) (P++Zs.flatten,(P.length:Int),(P.length:Int)+2*(bs:Int))).bind fun t=>fN.uI cmp n (bs:Int) t.1 t.2)=some (.inl (P++Zs'.flatten,((bs*2:Nat):Int))):=by
 have wb:au ((bs:Int)*2)=((bs*2:Nat):Int):=by rw [bc (by omega) (by omega)];omega
 have w2:au (2*(bs:Int))=2*(bs:Int):=bc (by omega) (by omega)
 intro k
 induction k with
 | zero=>
  intro Zs X P hk hB hn zM hD hp
  obtain rfl:=kb (Nat.le_zero.1 hk)
  cases hB
  refine⟨[], .nil,?_⟩
  rw [bH];simp only [fN.j4]
  rw [ax (by simp at hn;simp;omega)]
  have w1:au ((P.length:Int)+(bs:Int))=(P.length:Int)+(bs:Int):=bc (by omega) (by omega)
  simp only [ar,fN.uI,fN.nJ,w1,wb]
  rw [ax (by simp at hn;simp;omega)]
 | succ k ih=>
  intro Zs X P hk hB hn zM hD hp
  have w1:au ((P.length:Int)+(bs:Int))=(P.length:Int)+(bs:Int):=bc (by omega) (by omega)
  cases hB with
  | nil=>
   refine⟨[], .nil,?_⟩
   rw [bH];simp only [fN.j4]
   rw [ax (by simp at hn;simp;omega)]
   simp only [ar,fN.uI,fN.nJ,w1,wb]
   rw [ax (by simp at hn;simp;omega)]
  | @part Z _ h1 h2 h3 h4=>
   refine⟨[Z], .part h1 (by omega) h3 h4,?_⟩
   have hl:=h3.length_eq
   rw [bH];simp only [fN.j4]
   rw [ax (by simp;omega)]
   simp only [ar,fN.uI,fN.nJ,w1,wb]
   rw [ax (by simp;omega)]
  | @full Z X1 Zs Xr h1 h2 h3 h4=>
   have hl:=h2.length_eq
   simp only [cJ] at hn zM
   have XA:=iW.1 hp
   cases h4 with
   | nil=>
    refine⟨[Z], .part (by omega) (by omega) (by simpa using h2) h3,?_⟩
    rw [bH];simp only [fN.j4]
    rw [ax (by simp at hn;simp;omega)]
    simp only [ar,fN.uI,fN.nJ,w1,wb]
    rw [ax (by simp at hn;simp;omega)]
   | @part Z2 _ g1 g2 g3 g4=>
    have QY:=g3.length_eq
    obtain⟨Y,y1,y2,y3⟩:=Uo (num:=num) hc 200 Z Z2 P [] (P.length:Int) ((P.length:Int)+(bs:Int)) n (by omega) g1 (Up (by omega)) rfl (by omega) (by omega) (by omega) (fun y hy=>hD y (by simp [h2.mem_iff.1 hy])) (fun y hy=>hD y (by simp [g3.mem_iff.1 hy])) h3 g4 (Hl hp (Xr2:= []) (by simp) h2 g3)
    refine⟨[Y], .part (by rw [y2.length_eq];simp;omega) (by rw [y2.length_eq,cJ];omega) (y2.trans (h2.append g3)) y3,?_⟩
    rw [bH];simp only [fN.j4]
    rw [ax (by simp;omega)]
    simp only [ar,fN.uI,fN.nJ,w1,wb,fm]
    rw [ak (by simp;omega)]
    simp only [gz] at y1
    rw [show P++ [Z,Z2].flatten=P++Z++Z2 by simp,y1]
    simp
   | @full Z2 X2 Zs2 Xr2 g1 g2 g3 g4=>
    have QY:=g2.length_eq
    simp only [cJ] at hn zM
    obtain⟨Y,y1,y2,y3⟩:=Uo (num:=num) hc 200 Z Z2 P Zs2.flatten (P.length:Int) ((P.length:Int)+(bs:Int)) ((P.length:Int)+2*(bs:Int)) (by omega) (by omega) (Up (by omega)) rfl (by omega) (by omega) (by omega) (fun y hy=>hD y (by simp [h2.mem_iff.1 hy])) (fun y hy=>hD y (by simp [g2.mem_iff.1 hy])) h3 g3 (Hl hp rfl h2 g2)
    have nY:Y.length=bs*2:=by rw [y2.length_eq,cJ];omega
    obtain⟨Zs',z1,z2⟩:=ih Zs2 Xr2 (P++Y) (by simp at hk;omega) g4 (by rw [cJ,nY];omega) (by rw [cJ,nY];omega) (fun y hy=>hD y (by simp [hy])) (iW.1 XA.2.1).2.1
    refine⟨Y::Zs',by rw [←iX];exact .full nY (y2.trans (h2.append g2)) y3 z1,?_⟩
    rw [bH];simp only [fN.j4]
    rw [ak (by simp;omega)]
    have w3:au ((P.length:Int)+2*(bs:Int)+2*(bs:Int))=((P++Y).length:Int)+2*(bs:Int):=by rw [bc (by omega) (by omega),cJ,nY];omega
    simp only [w1,w2,w3,fm]
    rw [show P++(Z::Z2::Zs2).flatten=P++Z++Z2++Zs2.flatten by simp,y1]
    simp only [ar]
    rw [show (P.length:Int)+2*(bs:Int)=((P++Y).length:Int) by rw [cJ,nY];omega]
    rw [z2];simp
theorem XC(hc:P6 cmp D key)(n:Int)(X:List S)(hn:n=(X.length:Int))(zM:X.length≤144115188075855872)(hD:∀y∈X,D y)(hp:X.Pairwise (fun a b=>num a<num b)):∀(k bs:Nat) (Zs:List (List S)),X.length-bs≤k→1≤bs→bs≤288230376151711744→Gp key num bs Zs X→
  ∃Y,loop (fN.ko cmp n) (Zs.flatten,(bs:Int))=some Y∧Y.Perm X∧Y.Pairwise (qc key num):=by
 intro k
 induction k with
 | zero=>
  intro bs Zs hk h1 h2 hB
  have JI:=hB.perm
  refine⟨Zs.flatten,?_,JI,?_⟩
  ·rw [bH];simp only [fN.ko]
   rw [ax (by simp;omega)]
  ·cases hB with
   | nil=>simp
   | part _ _ _ h=>simpa using h
   | @full Z X1 Zs Xr g1 g2 g3 g4=>
    have:=g2.length_eq
    simp only [cJ] at hk
    cases g4 with
    | nil=>simpa using g3
    | part a1 a2 a3 _=>have:=a3.length_eq;omega
    | full a1 a2 _ _=>have:=a2.length_eq;simp only [cJ] at hk;omega
 | succ k ih=>
  intro bs Zs hk h1 h2 hB
  by_cases gy:bs<X.length
  ·obtain⟨Zs',z1,z2⟩:=Uq hc n bs h1 h2 Zs.length Zs X [] (bt _) hB (by simpa using hn) (by simp;omega) hD hp
   obtain⟨Y,y1,y2,y3⟩:=ih (bs*2) Zs' (by omega) (by omega) (by omega) z1
   refine⟨Y,?_,y2,y3⟩
   rw [bH];simp only [fN.ko]
   rw [ak (by simp;omega)]
   have w2:au (2*(bs:Int))=2*(bs:Int):=bc (by omega) (by omega)
   simp only [gm,bN] at z2
   rw [w2]
   rw [show ((0:Nat):Int)+2*(bs:Int)=2*(bs:Int) by omega] at z2
   rw [show (0:Int)=((0:Nat):Int) from rfl,z2]
   exact y1
  ·exact ih bs Zs (by omega) h1 h2 hB
theorem P'(hc:P6 cmp D key)(X:List S)(zM:X.length≤144115188075855872)(hD:∀y∈X,D y)(hp:X.Pairwise (fun a b=>num a<num b)):
  ∃Y,OL cmp X=some Y∧Y.Perm X∧Y.Pairwise (qc key num):=by
 obtain⟨Zs,z1,z2⟩:=XB (num:=num) hc (X.length:Int) X.length X [] (bt _) (by simp) (by simp;omega) hD hp
 obtain⟨Y,y1,y2,y3⟩:=XC hc (X.length:Int) X rfl zM hD hp X.length 20 Zs (by omega) (by omega) (by omega) z1
 refine⟨Y,?_,y2,y3⟩
 simp only [gm,bN] at z2
 unfold OL fN
 rw [show ((0:Nat):Int)+20=20 from rfl] at z2
 cases hl:loop (fN.u_ cmp (X.length:Int)) (X,0,20) with
 | none=>rw [show ((0:Nat):Int)=0 from rfl,hl] at z2;cases z2
 | some t=>
  rw [show ((0:Nat):Int)=0 from rfl,hl] at z2
  simp only [ar] at z2⊢
  simp only [fN.ki,z2,ar]
  rw [show (20:Int)=((20:Nat):Int) from rfl,y1]
  rfl
end
end Go.Proofs.YtplklknkkaeniaaGreat
namespace Go.Proofs.YtplklknkkaeniaaGreat
open Eng
set_option linter.unusedVariables false
set_option linter.unusedSimpArgs false
theorem uL(n lo hi:Int):FB n lo hi=FD n lo hi:=by simp [FB,FD,ge_iff_le]
def Bm(f:ae)(x:bq):Bool:=
 ((decide (au x.aD≥0))&&(decide (au x.aD≤47)))&&((decide (au x.fg≥1))&&(decide (au x.fg≤(if au f.ag<20 then au f.ag else 20))))
theorem Ur(f:ae)(x:bq):Fbm x f=some (!(Bm f x)):=by
 simp only [Fbm,Wn,uL,FD,ar,Bm]
 by_cases h:((decide (au x.aD≥0))&&(decide (au x.aD≤47)))=true
 ·rw [h];simp
 ·simp only [kC] at h;rw [h];simp
def fO(f:ae):Bool:=((decide (au f.ag≥2))&&(decide (au f.ag≤96)))&&(((decide ((f.aa.length:Int)≥1))&&(decide ((f.aa.length:Int)≤24)))&&f.aa.all (Bm f))
theorem xK{S:Type}(p:S→Bool)(a:List S):a.any (fun x=> !(p x))= !(a.all p):=by
 induction a with
 | nil=>rfl
 | cons x a ih=>simp [ih]
theorem Iu(f:ae)(a:List bq)(h:a.length≤9223372036854775807):F5 a f=some (!(a.all (Bm f))):=by
 obtain⟨t,ht,hq⟩:=uK (f:=Fp.e7 a f) a (fun x=> !(Bm f x)) (by omega) (fun k hk=>by
  simp only [Fp.e7,de hk,ar,Ur]
  rw [ak (by simpa using hk)]
  by_cases he:Bm f a[k]=true<;>simp [he]) (by simp [Fp.e7])
 simp only [F5,Fp,ht,ar]
 rcases hq with⟨qj,k,rfl,_⟩ | ⟨qj,rfl⟩
 ·rw [xK] at qj
  rw [qj];simp
 ·rw [xK] at qj
  rw [qj];simp [Fp.iQ]
theorem tM(f:ae)(h:f.aa.length≤9223372036854775807):Wo f=some (fO f):=by
 simp only [Wo,uL,FD,GR,ar,Iu f _ h,Bool.not_not,fO]
 by_cases h1:((decide (au f.ag≥2))&&(decide (au f.ag≤96)))=true
 ·rw [h1]
  by_cases h2:((decide ((f.aa.length:Int)≥1))&&(decide ((f.aa.length:Int)≤24)))=true
  ·rw [h2];simp
  ·simp only [kC] at h2;rw [h2];simp
 ·simp only [kC] at h1;rw [h1];simp
theorem n5(f:ae)(h:f.aa.length≤9223372036854775807):FC f=some (fO f):=by
 simp only [FC,FD,ar,fO]
 by_cases h1:((decide (au f.ag≥2))&&(decide (au f.ag≤96)))=true
 ·rw [h1]
  by_cases h2:((decide ((f.aa.length:Int)≥1))&&(decide ((f.aa.length:Int)≤24)))=true
  ·rw [h2]
   simp only [FC.fk,jv,mS]
   rw [ax (by simp),ax (by simp),Ep f.aa (Bm f) h (fun k hk=>by
    simp only [FC.fY,de hk,ar,FD,Wv,FC.og]
    rw [ak (by simpa using hk)]
    have em:(if(decide (20<au f.ag))=true then some 20 else some (au f.ag))=some (if au f.ag<20 then au f.ag else 20):=by
     simp only [bC]
     by_cases c1:20<au f.ag
     ·rw [ak c1,ax (by omega)]
     ·rw [ax c1];by_cases c2:au f.ag<20
      ·rw [ak c2]
      ·rw [ax c2];congr 1;omega
    rw [em]
    simp only [ar]
    by_cases h3:((decide (au f.aa[k].aD≥0))&&(decide (au f.aa[k].aD≤47)))=true
    ·by_cases h4:((decide (au f.aa[k].fg≥1))&&(decide (au f.aa[k].fg≤(if au f.ag<20 then au f.ag else 20))))=true
     ·simp only [Bm,h3,h4];simp
     ·simp only [kC] at h4;simp only [Bm,h3,h4];simp
    ·simp only [kC] at h3;simp only [Bm,h3];simp) (by simp [FC.fY])]
   by_cases h5:f.aa.all (Bm f)=true
   ·rw [ak h5,h5];rfl
   ·rw [ax h5];simp only [kC] at h5;rw [h5];rfl
  ·simp only [kC] at h2;rw [h2];simp [FC.fk]
 ·simp only [kC] at h1;rw [h1];simp [FC.fk]
structure kw (f:ae):Prop where
 s0:2≤f.ag
 s1:f.ag≤96
 h0:1≤f.aa.length
 h1:f.aa.length≤24
 hp:∀h∈f.aa,0≤h.aD∧h.aD≤47∧1≤h.fg∧h.fg≤20∧h.fg≤f.ag
def vE(f:ae):Prop:=(-32768≤f.ag∧f.ag≤32767)∧∀h∈f.aa,(-128≤h.aD∧h.aD≤127)∧(-128≤h.fg∧h.fg≤127)
theorem jA{f:ae}(h:fO f=true)(hi:vE f):kw f:=by
 unfold fO at h
 simp only [bY,bC,gP] at h
 obtain⟨⟨h1,h2⟩,⟨h3,h4⟩,h5⟩:=h
 obtain⟨hs,hh⟩:=hi
 rw [bc (by omega) (by omega)] at h1 h2
 refine⟨h1,h2,by omega,by omega,fun x hx=> ?_⟩
 have h6:=h5 x hx
 obtain⟨hp,hr⟩:=hh x hx
 unfold Bm at h6
 simp only [bY,bC] at h6
 rw [wI x.aD,wI x.fg,wI f.ag] at h6
 obtain⟨⟨h7,h8⟩,h9,h10⟩:=h6
 split at h10<;>exact⟨h7,h8,h9,by omega,by omega⟩
theorem n9{f:ae}(h:kw f):fO f=true:=by
 obtain⟨h1,h2,h3,h4,h5⟩:=h
 unfold fO
 simp only [bY,bC,gP]
 rw [wI f.ag]
 refine⟨⟨h1,h2⟩,⟨by omega,by omega⟩,fun x hx=> ?_⟩
 obtain⟨a,b,c,d,e⟩:=h5 x hx
 unfold Bm
 simp only [bY,bC]
 rw [wI x.aD,wI x.fg,wI f.ag]
 refine⟨⟨a,b⟩,c,?_⟩
 split<;>omega
end Go.Proofs.YtplklknkkaeniaaGreat
namespace Go.Proofs.YtplklknkkaeniaaGreat
open Eng
set_option linter.unusedVariables false
set_option linter.unusedSimpArgs false
theorem xL(a:List bq):GR a=some (a.length:Int):=rfl
theorem ii(b:Bool)(c:Int):FI b c=some (if b then 0 else c):=by
 unfold FI;cases b<;>rfl
def gM(d:av 96 Int):Prop:=∀y∈d.1,0≤y∧y≤4294967295
def ir(d:av 96 Int)(s:Nat):Nat:=((d.1[s]?).getD 0).toNat
def fF(d:av 96 Int)(s t:Nat):Bool:=(ir d s).testBit t
theorem lv{d:av 96 Int}(hd:gM d){s:Nat}(hs:s<96):ix d.1 (s:Int)=some (ir d s:Int):=by
 have hl:s<d.1.length:=by rw [d.2];exact hs
 rw [de hl]
 have:=hd _ (bT hl)
 unfold ir
 rw [bM hl,rE]
 congr 1
 omega
theorem nj{d:av 96 Int}(hd:gM d)(s:Nat):ir d s<4294967296:=by
 unfold ir
 by_cases hl:s<d.1.length
 ·have:=hd _ (bT hl)
  rw [bM hl,rE]
  omega
 ·rw [jJ (by omega)];simp
theorem KS{d e:av 96 Int}(hd:gM d)(he:gM e)(h:∀s,s<96→ir d s=ir e s):d=e:=by
 apply av.ext
 intro k hk
 have h1:=lv hd hk
 have h2:=lv he hk
 rw [P1 hk] at h1 h2
 rw [e9 h1,e9 h2,h k hk]
theorem rL{d:av 96 Int}{s:Nat}(hs:s<96)(v:Nat)(k:Nat):ir (d.set (s:Int) (v:Int)) k=if s=k then v else ir d k:=by
 unfold ir av.set
 simp only [kd]
 rw [tY]
 by_cases h:s=k
 ·subst h
  rw [ak rfl,ak rfl,ak (by rw [d.2];exact hs)];simp
 ·rw [ax h,ax h]
theorem vf{d:av 96 Int}(hd:gM d)(s:Nat){v:Nat}(hv:v<4294967296):gM (d.set (s:Int) (v:Int)):=by
 intro y hy
 rcases mP hy with h | rfl
 ·exact hd y h
 ·omega
theorem lZ:gM (av.dC 96 0):=by
 intro y hy
 have:=List.eq_of_mem_replicate hy
 omega
theorem XD(k:Nat):ir (av.dC 96 0) k=0:=by
 unfold ir av.dC
 rw [List.getElem?_replicate]
 split<;>rfl
theorem qB(s t:Nat):fF (av.dC 96 0) s t=false:=by unfold fF;rw [XD];simp
theorem vg{d:av 96 Int}(hd:gM d){s t:Nat}(hs:s<96)(ht:t≤32):E0 d (s:Int) (t:Int)=some (fF d s t):=by
 simp only [E0,lv hd hs,ar]
 rw [ak (by omega),qW .u32 _ _ ht]
 have gy:=nj hd s
 rw [show (1:Int)=((1:Nat):Int) from rfl,Er _ 1 (rZ (Nat.shiftRight_le _ _) gy) (by omega)]
 congr 1
 unfold fF
 have hb:=Xw (ir d s) t
 rw [iY,←hb]
 simp only [k8]
 omega
theorem Bn{d:av 96 Int}(hd:gM d){s t:Nat}(hs:s<96)(ht:t≤32):JN d (s:Int) (t:Int)=some (fF d s t):=by
 simp only [JN,lv hd hs,ar]
 rw [u64_in (by omega) (by omega),ak (by omega),qW .u32 _ _ ht]
 rw [show (2:Int)=((2:Nat):Int) from rfl,sH]
 congr 1
 unfold fF
 have hb:=Xx (ir d s) t
 rw [iY,←hb]
 simp only [k8]
 omega
def Iv(f:ae)(d:av 96 Int)(k:Nat):Bool:=decide (ir d k>>>f.aa.length=0)&&(decide ((k:Int)<f.ag) || decide (ir d k=0))
def gR(f:ae)(d:av 96 Int):Bool:=(List.range 96).all (Iv f d)
theorem rP{f:Int→Option (Int⊕(Bool⊕Unit))}(n:Nat)(p:Nat→Bool)(hn:n≤9223372036854775807)(hf:∀k,k<n→f (k:Int)=some (if p k=true then .inl (au ((k:Int)+1)) else .inr (.inl false)))(he:f (n:Int)=some (.inr (.inr ()))):
  loop f 0=some (if(List.range n).all p=true then .inr () else .inl false):=by
 have:=Ep (f:=f) (List.range n) p (by simpa using hn) (fun k hk=>by rw [List.getElem_range];exact hf k (by simpa using hk)) (by rw [rC];exact he)
 exact this
theorem Qa{f:ae}{d:av 96 Int}(hf:kw f)(hd:gM d):FS f d=some (gR f d):=by
 have h1:=hf.h1
 simp only [FS]
 rw [rP 96 (Iv f d) (by omega) (fun k hk=>by
  simp only [FS.e7,lv hd hk,ar]
  rw [ak (by simp;omega),ak (by omega),qW .u32 _ _ (show f.aa.length≤32 by omega),bc (by have:=hf.s0;omega) (by have:=hf.s1;omega)]
  unfold Iv FS.qw
  generalize ir d k>>>f.aa.length=z
  by_cases c1:z=0
  ·by_cases c2:(k:Int)<f.ag
   ·simp [c1,c2,show¬f.ag≤(k:Int) by omega]
   ·by_cases c3:ir d k=0
    ·simp [c1,c2,c3]
    ·simp [c1,c2,c3,show f.ag≤(k:Int) by omega]
  ·simp [c1]) (by simp [FS.e7])]
 unfold gR
 cases (List.range 96).all (Iv f d)<;>rfl
theorem zp{f:ae}{d:av 96 Int}(hf:kw f)(hd:gM d):Cl f d=some (gR f d):=by
 have h1:=hf.h1
 simp only [Cl]
 rw [rP 96 (Iv f d) (by omega) (fun k hk=>by
  simp only [Cl.e7,lv hd hk,ar]
  rw [ak (by simp;omega),u64_in (by omega) (by omega),ak (by omega),qW .u32 _ _ (show f.aa.length≤32 by omega),bc (by have:=hf.s0;omega) (by have:=hf.s1;omega)]
  unfold Iv Cl.po
  generalize ir d k>>>f.aa.length=z
  by_cases c1:z=0
  ·by_cases c2:(k:Int)<f.ag
   ·simp [c1,c2,show¬f.ag≤(k:Int) by omega]
   ·by_cases c3:ir d k=0
    ·simp [c1,c2,c3]
    ·simp [c1,c2,c3,show f.ag≤(k:Int) by omega]
  ·simp [c1]) (by simp [Cl.e7])]
 unfold gR
 cases (List.range 96).all (Iv f d)<;>rfl
theorem n_{f:ae}{d:av 96 Int}(h:gR f d=true)(hd:gM d){s t:Nat}(hp:fF d s t=true):(s:Int)<f.ag∧t<f.aa.length∧s<96:=by
 have hs:s<96:=by
  rcases jw s 96 with h' | h'
  ·exact h'
  ·unfold fF ir at hp
   rw [jJ (by rw [d.2];exact h')] at hp
   simp at hp
 have:=gP.1 h s (by simpa using hs)
 unfold Iv at this
 simp only [bY,bC,ke] at this
 obtain⟨h1,h2⟩:=this
 have h0:ir d s≠0:=by intro e;unfold fF at hp;rw [e] at hp;simp at hp
 refine⟨by rcases h2 with h2 | h2;exact h2;exact absurd h2 h0,?_,hs⟩
 rcases jw t f.aa.length with h' | h'
 ·exact h'
 ·have h3:(ir d s>>>f.aa.length).testBit (t-f.aa.length)=true:=by
   rw [Nat.testBit_shiftRight,show f.aa.length+(t-f.aa.length)=t by omega];exact hp
  rw [h1] at h3
  simp at h3
theorem sI{f:ae}{d:av 96 Int}(h:∀s t,fF d s t=true→(s:Int)<f.ag∧t<f.aa.length):gR f d=true:=by
 unfold gR
 rw [gP]
 intro k hk
 unfold Iv
 simp only [bY,bC,ke]
 constructor
 ·apply rV
  intro i
  rw [Nat.testBit_shiftRight,Nat.zero_testBit]
  cases hb:(ir d k).testBit (f.aa.length+i) with
  | false=>rfl
  | true=>have:=(h k _ hb).2;omega
 ·by_cases hs:(k:Int)<f.ag
  ·exact .inl hs
  ·right
   apply rV
   intro i
   rw [Nat.zero_testBit]
   cases hb:(ir d k).testBit i with
   | false=>rfl
   | true=>exact absurd (h k i hb).1 hs
end Go.Proofs.YtplklknkkaeniaaGreat
namespace Go.Proofs.YtplklknkkaeniaaGreat
open Eng
set_option linter.unusedVariables false
set_option linter.unusedSimpArgs false
theorem iv(a b:Int):Fe [a,b]=some (if a≠0 then a else b):=by
 simp only [Fe]
 rw [bH]
 by_cases ha:a=0
 ·rw [show Fe.e7 [a,b] 0=some (.inl 1) by simp [Fe.e7,ix,ha,bc]]
  simp only
  rw [bH]
  by_cases hb:b=0
  ·rw [show Fe.e7 [a,b] 1=some (.inl 2) by simp [Fe.e7,ix,hb,bc]]
   simp only
   rw [bH,show Fe.e7 [a,b] 2=some (.inr (.inr ())) by simp [Fe.e7]]
   simp [ha,hb,Fe.iQ]
  ·rw [show Fe.e7 [a,b] 1=some (.inr (.inl b)) by simp [Fe.e7,ix,hb]]
   simp [ha]
 ·rw [show Fe.e7 [a,b] 0=some (.inr (.inl a)) by simp [Fe.e7,ix,ha]]
  simp [ha]
theorem Gq{f:ae}(hf:kw f)(ds:List (av 96 Int))(hl:ds.length≤9223372036854775807)(hd:∀d∈ds,gM d):Fab ds f=some (!(ds.all (gR f))):=by
 obtain⟨t,ht,hq⟩:=uK (f:=Fs.e7 ds f) ds (fun x=> !(gR f x)) hl (fun k hk=>by
  simp only [Fs.e7,de hk,ar,FbX,Qa hf (hd _ (bT hk))]
  rw [ak (by simpa using hk)]
  by_cases he:gR f ds[k]=true<;>simp [he]) (by simp [Fs.e7])
 simp only [Fab,Fs,ht,ar]
 rcases hq with⟨qj,k,rfl,_⟩ | ⟨qj,rfl⟩
 ·rw [xK] at qj
  rw [qj];simp
 ·rw [xK] at qj
  rw [qj];simp [Fs.iQ]
theorem qY(f:ae)(hi:vE f)(hl:f.aa.length≤9223372036854775807)(ds:List (av 96 Int))(LG:ds.length≤9223372036854775807)(hd:∀d∈ds,gM d):
  GU f ds=some (if fO f=true∧ds.all (gR f)=true then 0 else 1):=by
 simp only [GU,tM f hl,ar]
 cases hf:fO f with
 | false=>simp [FI]
 | true=>
  simp only [cp,Gq (jA hf hi) ds LG hd,ar,Bool.not_not,ii]
  cases ds.all (gR f)<;>simp
theorem qk(f:ae)(hi:vE f)(hl:f.aa.length≤9223372036854775807)(d:av 96 Int)(hd:gM d):
  GU f [d]=some (if fO f=true∧gR f d=true then 0 else 1):=by
 rw [qY f hi hl [d] (by simp) (by simpa using hd)];simp
end Go.Proofs.YtplklknkkaeniaaGreat
namespace Go.Proofs.YtplklknkkaeniaaGreat
open Eng
set_option linter.unusedVariables false
set_option linter.unusedSimpArgs false
theorem Iw{d e:av 96 Int}(hd:gM d)(he:gM e)(h:∀s t,s<96→t<32→fF d s t=fF e s t):d=e:=by
 refine KS hd he fun s hs=>rV fun i=> ?_
 by_cases hi:i<32
 ·exact h s i hs hi
 ·have h1:∀x:Nat,x<4294967296→x.testBit i=false:=fun x hx=>Nat.testBit_lt_two_pow (oy hx (rA (n:=2) (by omega) (by omega:32≤i)))
  rw [h1 _ (nj hd s),h1 _ (nj he s)]
theorem uM{t:Nat}(ht:t<32):2^t<4294967296:=rW (a:=2) (by omega) (by omega:t<32)
theorem abE{d:av 96 Int}(hd:gM d){s t:Nat}(hs:s<96)(ht:t<32):
  ∃d',QU d (s:Int) (t:Int) true=some d'∧gM d'∧∀a b,fF d' a b=(fF d a b || (decide (a=s)&&decide (b=t))):=by
 have h1:=lv hd hs
 have gy:=nj hd s
 have hp:=uM ht
 have hl:=rZ (CJ (ir d s) (2^t)) gy
 have hd2:=vf hd s hl
 have h2:=lv hd2 hs
 rw [rL hs,ak rfl] at h2
 refine⟨(d.set (s:Int) (Cu (ir d s) (2^t):Nat)).set (s:Int) (Cu (ir d s) (2^t) ||| 2^t:Nat),?_,vf hd2 s (ua (n:=32) hl hp),fun a b=> ?_⟩
 ·simp only [QU,h1,ar,ve t ht,Et _ _ gy hp,h2,OK _ _ hl hp]
  rw [ak (by omega),ak trivial,ak (by omega)]
 ·unfold fF
  rw [rL hs]
  by_cases ha:a=s
  ·subst ha
   rw [ak rfl,Nat.testBit_or,sG,te]
   by_cases hb:b=t
   ·subst hb;simp
   ·have:¬t=b:=fun e=>hb e.symm
    simp [hb,this]
  ·rw [ax (fun e=>ha e.symm),rL hs,ax (fun e=>ha e.symm)]
   simp [ha]
theorem Ix{d:av 96 Int}(hd:gM d){s t:Nat}(hs:s<96)(ht:t<32):
  gM (d.set (s:Int) (wC .u32 (ir d s:Int) (fo .u32 1 (t:Int))))∧∀a b,fF (d.set (s:Int) (wC .u32 (ir d s:Int) (fo .u32 1 (t:Int)))) a b=(fF d a b || (decide (a=s)&&decide (b=t))):=by
 have gy:=nj hd s
 have hp:=uM ht
 rw [ve t ht,OK _ _ gy hp]
 refine⟨vf hd s (ua (n:=32) gy hp),fun a b=> ?_⟩
 unfold fF
 rw [rL hs]
 by_cases ha:a=s
 ·subst ha
  rw [ak rfl,Nat.testBit_or,te]
  by_cases hb:b=t
  ·subst hb;simp
  ·have:¬t=b:=fun e=>hb e.symm
   simp [hb,this]
 ·rw [ax (fun e=>ha e.symm)]
  simp [ha]
end Go.Proofs.YtplklknkkaeniaaGreat
namespace Go.Proofs.YtplklknkkaeniaaGreat
open Eng
set_option linter.unusedVariables false
set_option linter.unusedSimpArgs false
def AF(n:ai):Bool:=(decide (0≤n.cd)&&decide (n.cd≤199))&&(decide (0≤n.aD)&&decide (n.aD≤47))
def AG(n:ai):Prop:=(-32768≤n.cd∧n.cd≤32767)∧(-128≤n.aD∧n.aD≤127)
theorem Ex{n:ai}(h:AG n):YA n=some (AF n):=by
 obtain⟨h1,h2⟩:=h
 simp only [YA,FD,ar,AF,ge_iff_le]
 rw [wI n.cd,wI n.aD]
 cases (decide (0≤n.cd)&&decide (n.cd≤199))<;>simp
theorem Qb{n:ai}(h:AG n):Fca n=some (AF n):=by
 rw [←Ex h]
 simp only [Fca,YA,Wn,uL,Option.bind_assoc,ar]
def kZ(a b:ai):Bool:=decide (a.cd<b.cd) || ((a.cd==b.cd)&&decide (a.aD<b.aD))
theorem AH(a b:ai):Ww a b=some (kZ a b):=by
 simp only [Ww,kZ]
 by_cases h1:a.cd<b.cd
 ·rw [ak (by simpa using h1)];simp [h1]
 ·rw [ax (by simpa using h1)];simp [h1]
theorem qZ(a b:ai):kZ a b=true↔a.cd<b.cd∨(a.cd=b.cd∧a.aD<b.aD):=by unfold kZ;simp
theorem XE(x y:Int):Fbx x y=some (if x<y then-1 else if x>y then 1 else 0):=by
 simp only [Fbx,Yz,ar]
 simp
 repeat' split
 all_goals rfl
theorem Us(x y:Int):Fbn x y=some (if x<y then-1 else if x>y then 1 else 0):=by
 simp only [Fbn,Yy,ar]
 simp
 repeat' split
 all_goals rfl
theorem agR(a b:Int):Ck [a,b]=some (if a≠0 then a else b):=by
 simp only [Ck]
 rw [bH]
 by_cases ha:a=0
 ·rw [show Ck.e7 [a,b] 0=some (.inl 1) by simp [Ck.e7,ix,ha,bc]]
  simp only
  rw [bH]
  by_cases hb:b=0
  ·rw [show Ck.e7 [a,b] 1=some (.inl 2) by simp [Ck.e7,ix,hb,bc]]
   simp only
   rw [bH,show Ck.e7 [a,b] 2=some (.inr (.inr ())) by simp [Ck.e7]]
   simp [ha,hb,Ck.iQ]
  ·rw [show Ck.e7 [a,b] 1=some (.inr (.inl b)) by simp [Ck.e7,ix,hb]]
   simp [ha]
 ·rw [show Ck.e7 [a,b] 0=some (.inr (.inl a)) by simp [Ck.e7,ix,ha]]
  simp [ha]
def Qc(a b:ai):Int:=if a.cd<b.cd then-1 else if a.cd>b.cd then 1 else if a.aD<b.aD then-1 else if a.aD>b.aD then 1 else 0
theorem rj(a b:ai):L4 a b=some (Qc a b):=by
 simp only [L4,XE,Us,agR,ar,Qc]
 congr 1
 repeat' split
 all_goals first | rfl | omega | simp_all
theorem OO(a b:ai):decide (Qc a b≥0)= !(kZ a b):=by
 rw [iY]
 simp only [bC,kA,←kC,qZ]
 unfold Qc
 repeat' split
 all_goals omega
def sJ(t:List ai)(k:Nat):Bool:=match t[k]? with
 | some n=>AF n&&(decide (k=0) || match t[k-1]? with | some m=>kZ m n | none=>false)
 | none=>false
def iM(t:List ai):Bool:=(List.range t.length).all (sJ t)&&decide (t.length≤120)
theorem Iy{t:List ai}(hl:t.length≤9223372036854775807)(hn:∀n∈t,AG n)(k:Nat)(hk:k<t.length):yV.e7 t (k:Int)=some (if sJ t k=true then .inl (au ((k:Int)+1)) else .inr (.inl false)):=by
 simp only [yV.e7,de hk,ar,Ex (hn _ (bT hk)),AH]
 rw [ak (by simpa using hk)]
 unfold sJ yV.po
 rw [bM hk]
 simp only
 by_cases c1:AF t[k]=true
 ·by_cases h0:k=0
  ·subst h0;simp [c1]
  ·have I':k-1<t.length:=by omega
   have e:au ((k:Int)-1)=((k-1:Nat):Int):=by rw [bc (by omega) (by omega)];omega
   rw [bM I',e,de I']
   simp only [c1,jv,cM,bU,ar,mS]
   rw [ak (by simp;omega)]
   by_cases c3:kZ t[k-1] t[k]=true
   ·simp [h0,c3]
   ·simp [h0,c3]
 ·simp [c1]
theorem xe{t:List ai}(hl:t.length≤9223372036854775807)(hn:∀n∈t,AG n):yV t=some (iM t):=by
 simp only [yV]
 rw [rP t.length (sJ t) hl (fun k hk=>Iy hl hn k hk) (by simp [yV.e7])]
 unfold iM
 cases (List.range t.length).all (sJ t) with
 | false=>rfl
 | true=>
  simp only [cp,ar,yV.iQ,mS]
  congr 1
  rw [iY];simp;omega
theorem Iz{t:List ai}(hl:t.length≤9223372036854775807)(hn:∀n∈t,AG n)(k:Nat)(hk:k<t.length):FT.e7 t (k:Int)=some (if sJ t k=true then .inl (au ((k:Int)+1)) else .inr (.inl false)):=by
 simp only [FT.e7,de hk,ar,Qb (hn _ (bT hk)),rj,OO]
 rw [ak (by simpa using hk)]
 unfold sJ FT.qw
 rw [bM hk]
 simp only
 by_cases c1:AF t[k]=true
 ·by_cases h0:k=0
  ·subst h0;simp [c1]
  ·have I':k-1<t.length:=by omega
   have e:au ((k:Int)-1)=((k-1:Nat):Int):=by rw [bc (by omega) (by omega)];omega
   rw [bM I',e,de I']
   simp only [c1,jv,cM,bU,ar,mS]
   rw [ak (by simp;omega)]
   by_cases c3:kZ t[k-1] t[k]=true
   ·simp [h0,c3]
   ·simp [h0,c3]
 ·simp [c1]
theorem vh{t:List ai}(hl:t.length≤9223372036854775807)(hn:∀n∈t,AG n):FT t=some (iM t):=by
 simp only [FT]
 rw [rP t.length (sJ t) hl (fun k hk=>Iz hl hn k hk) (by simp [FT.e7])]
 unfold iM
 cases (List.range t.length).all (sJ t) with
 | false=>rfl
 | true=>
  simp only [cp,ar,FT.iQ,mS]
  congr 1
  rw [iY];simp;omega
structure xf (t:List ai):Prop where
 len:t.length≤120
 nt:∀n∈t,0≤n.cd∧n.cd≤199∧0≤n.aD∧n.aD≤47
 so:t.Pairwise fun a b=>kZ a b=true
theorem lx{t:List ai}(h:iM t=true):xf t:=by
 unfold iM at h
 simp only [bY,bC] at h
 obtain⟨h1,h2⟩:=h
 have key:∀k (hk:k<t.length),AF t[k]=true∧(k=0∨∃I':k-1<t.length,kZ t[k-1] t[k]=true):=by
  intro k hk
  have:=gP.1 h1 k (by simpa using hk)
  unfold sJ at this
  rw [bM hk] at this
  simp only [bY,ke,bC] at this
  refine⟨this.1,?_⟩
  rcases this.2 with h | h
  ·exact .inl h
  ·right
   have I':k-1<t.length:=by omega
   rw [bM I'] at h
   exact⟨I',h⟩
 refine⟨h2,?_,?_⟩
 ·intro n hn
  obtain⟨k,hk,rfl⟩:=ox.1 hn
  have:=(key k hk).1
  unfold AF at this
  simp only [bY,bC] at this
  omega
 ·rw [ou]
  intro i j hi hj Ps
  induction j with
  | zero=>omega
  | succ j ih=>
   obtain⟨_,h | ⟨I',h⟩⟩:=key (j+1) hj
   ·omega
   ·simp only [Nat.add_sub_cancel] at h
    by_cases e:i=j
    ·subst e;exact h
    ·have:=ih (by omega) (by omega)
     rw [qZ] at this h⊢
     omega
theorem xg{t:List ai}(h:xf t):iM t=true:=by
 unfold iM
 simp only [bY,bC]
 refine⟨?_,h.len⟩
 rw [gP]
 intro k hk
 have hk:k<t.length:=by simpa using hk
 unfold sJ
 rw [bM hk]
 simp only [bY,ke,bC]
 have:=h.nt _ (bT hk)
 refine⟨by unfold AF;simp;omega,?_⟩
 by_cases e:k=0
 ·exact .inl e
 ·right
  rw [bM (show k-1<t.length by omega)]
  exact ou.1 h.so (k-1) k (by omega) hk (by omega)
theorem uN{t:List ai}(hl:t.length≤9223372036854775807)(hn:∀n∈t,AG n):Wp [t]=some (if iM t=true then 0 else 1):=by
 have hc:Fac [t]=some (!(iM t)):=by
  simp only [Fac,Ft]
  rw [bH]
  have e:Ft.e7 [t] 0=some (if iM t=true then .inl 1 else .inr (.inl 0)):=by
   have h0:ix [t] 0=some t:=rfl
   simp only [Ft.e7,h0,ar,FbY,vh hl hn]
   rw [ak (by simp)]
   cases iM t<;>simp [bc]
  rw [e]
  cases iM t with
  | false=>simp
  | true=>
   simp only [cp]
   rw [bH,show Ft.e7 [t] 1=some (.inr (.inr ())) by simp [Ft.e7]]
   rfl
 simp only [Wp,hc,ar,ii]
 cases iM t<;>simp
end Go.Proofs.YtplklknkkaeniaaGreat
namespace Go.Proofs.YtplklknkkaeniaaGreat
open Eng
set_option linter.unusedVariables false
set_option linter.unusedSimpArgs false
theorem MU{a b:ai}(h1:kZ a b=true)(h2:kZ b a=true):False:=by
 rw [qZ] at h1 h2;omega
theorem sK{a b c:ai}(h1:kZ a b=true)(h2:kZ b c=true):kZ a c=true:=by
 rw [qZ] at h1 h2⊢;omega
theorem q7{a b:ai}(h1:a.cd=b.cd)(h2:a.aD=b.aD):a=b:=by
 cases a;cases b;simp_all
theorem vi{a b:ai}(h1:¬kZ a b=true)(h2:a≠b):kZ b a=true:=by
 rw [qZ] at h1⊢
 have:¬(a.cd=b.cd∧a.aD=b.aD):=fun h=>h2 (q7 h.1 h.2)
 omega
theorem mM(a:ai):¬kZ a a=true:=by rw [qZ];omega
abbrev mo(l:List ai):Prop:=l.Pairwise fun x y=>kZ x y=true
theorem Hm:∀(a b:List ai),mo a→mo b→(∀x,x∈a↔x∈b)→a=b:=by
 intro a
 induction a with
 | nil=>
  intro b _ _ h
  cases b with
  | nil=>rfl
  | cons y b=>exact absurd ((h y).2 (by simp)) (by simp)
 | cons x a ih=>
  intro b ha hb h
  cases b with
  | nil=>exact absurd ((h x).1 (by simp)) (by simp)
  | cons y b=>
   unfold mo at ha hb
   rw [lK] at ha hb
   have vu:x=y:=by
    refine Classical.byContradiction fun e=> ?_
    have h1:x∈b:=by
     rcases eK.1 ((h x).1 (by simp)) with h1 | h1
     ·exact absurd h1 e
     ·exact h1
    have h2:y∈a:=by
     rcases eK.1 ((h y).2 (by simp)) with h2 | h2
     ·exact absurd h2.symm e
     ·exact h2
    exact MU (ha.1 y h2) (hb.1 x h1)
   subst vu
   rw [ih b ha.2 hb.2 fun z=> ?_]
   constructor
   ·intro hz
    rcases eK.1 ((h z).1 (lJ _ hz)) with e | e
    ·subst e;exact absurd (ha.1 z hz) (mM z)
    ·exact e
   ·intro hz
    rcases eK.1 ((h z).2 (lJ _ hz)) with e | e
    ·subst e;exact absurd (hb.1 z hz) (mM z)
    ·exact e
theorem eqN(a b:ai):((a.cd==b.cd)&&(a.aD==b.aD))=decide (a=b):=by
 rw [iY,bC]
 simp only [bY,k8]
 constructor
 ·rintro⟨h1,h2⟩;exact q7 h1 h2
 ·rintro rfl;exact⟨rfl,rfl⟩
theorem Ut(list xs:List ai)(hx:xs.length≤1000000){i:Nat}(hi:i<list.length):∃j,j≤xs.length∧loop (Fw.p7 list xs (i:Int)) 0=some (j:Int)∧(∀(m:Nat) (hm:m<xs.length),m<j→kZ xs[m] list[i]=true)∧(∀hj:j<xs.length,¬kZ xs[j] list[i]=true):=by
 obtain⟨r,hr,k,rfl,hk,h1,h2⟩:=gA (f:=Fw.p7 list xs (i:Int)) (fun s=>∃k:Nat,k≤xs.length∧s=(k:Int)∧∀(m:Nat) (hm:m<xs.length),m<k→kZ xs[m] list[i]=true) (fun s=>xs.length-s.toNat)
  (fun r=>∃k:Nat,r=(k:Int)∧k≤xs.length∧(∀(m:Nat) (hm:m<xs.length),m<k→kZ xs[m] list[i]=true)∧(∀hj:k<xs.length,¬kZ xs[k] list[i]=true)) (by
  rintro _ ⟨k,hk,rfl,h⟩
  by_cases gy:k<xs.length
  ·simp only [Fw.p7,de gy,de hi,ar,AH]
   rw [ak (by simpa using gy)]
   cases hb:kZ xs[k] list[i] with
   | true=>
    left
    refine⟨((k+1:Nat):Int),by rw [wI ((k:Int)+1)];simp,⟨k+1,by omega,rfl,fun m hm hmk=> ?_⟩,by omega⟩
    by_cases e:m=k
    ·subst e;exact hb
    ·exact h m hm (by omega)
   | false=>
    right
    exact⟨_,by simp,k,rfl,hk,h,fun _=>by rw [hb];simp⟩
  ·right
   simp only [Fw.p7]
   rw [ax (by simpa using gy)]
   exact⟨_,rfl,k,rfl,hk,h,fun h'=>absurd h' gy⟩) 0 ⟨0,by omega,rfl,fun m _ h=>by omega⟩
 exact⟨k,hk,hr,h1,h2⟩
theorem Gr{xs:List ai}{x:ai}(hs:mo xs){j:Nat}(h1:∀(m:Nat) (hm:m<xs.length),m<j→kZ xs[m] x=true)(h2:∀hj:j<xs.length,kZ x xs[j]=true):mo (xs.take j++x::xs.drop j):=by
 have XF:∀a∈xs.take j,kZ a x=true:=by
  intro a ha
  obtain⟨i,hi,rfl⟩:=ox.1 ha
  rw [gl] at hi
  rw [rB]
  exact h1 i (by omega) (by omega)
 have Zy:∀b∈xs.drop j,kZ x b=true:=by
  intro b hb
  obtain⟨i,hi,rfl⟩:=ox.1 hb
  rw [iu] at hi
  rw [List.getElem_drop]
  have hj:j<xs.length:=by omega
  cases i with
  | zero=>simpa using h2 hj
  | succ i=>exact sK (h2 hj) (ou.1 hs j (j+(i+1)) hj (by omega) (by omega))
 unfold mo
 rw [iW]
 refine⟨hs.sublist (List.take_sublist _ _),?_,?_⟩
 ·rw [lK]
  exact⟨Zy,hs.sublist (List.drop_sublist _ _)⟩
 ·intro a ha b hb
  rcases eK.1 hb with rfl | hb
  ·exact XF a ha
  ·exact sK (XF a ha) (Zy b hb)
theorem MV(xs:List ai)(x:ai)(j:Nat)(y:ai):y∈xs.take j++x::xs.drop j↔y=x∨y∈xs:=by
 have:y∈xs↔y∈xs.take j∨y∈xs.drop j:=by
  rw [←dw,kz]
 rw [this,dw,eK]
 constructor
 ·rintro(h | h | h)
  ·exact .inr (.inl h)
  ·exact .inl h
  ·exact .inr (.inr h)
 ·rintro(h | h | h)
  ·exact .inr (.inl h)
  ·exact .inl h
  ·exact .inr (.inr h)
theorem l5(list:List ai)(hl:list.length≤1000000):∃r,Fw list=some r∧mo r∧(∀x,x∈r↔x∈list)∧r.length≤list.length:=by
 obtain⟨r,hr,h1,h2,h3⟩:=qV (f:=Fw.fY list) list.length (by omega) (fun k xs=>mo xs∧(∀x,x∈xs↔x∈list.take k)∧xs.length≤k) (fun r=>mo r∧(∀x,x∈r↔x∈list)∧r.length≤list.length)
  (fun k xs hk hi=>by
   obtain⟨g1,g2,g3⟩:=hi
   left
   obtain⟨j,hj,e1,e2,e3⟩:=Ut list xs (by omega) hk
   have lO:∀x,x∈list.take (k+1)↔x∈list.take k∨x=list[k]:=by
    intro x
    rw [jt hk,dw,dG]
   have ins:(∀hj:j<xs.length,xs[j]≠list[k])→∃a',Fw.og list xs (k:Int) (j:Int)=some (.inl (a',au ((k:Int)+1)))∧(mo a'∧(∀x,x∈a'↔x∈list.take (k+1))∧a'.length≤k+1):=by
    intro jR
    refine⟨xs.take j++list[k]::xs.drop j,?_,Gr g1 e2 (fun hj'=>vi (e3 hj') (jR hj')),fun x=> ?_,?_⟩
    ·simp only [Fw.og,de hk,ar,kd,gm,bN]
     rw [ak (by omega),ak (by simp only [iu];omega),ak (by omega),ak (by simp only [cf,bN];omega),ak (by simp only [cJ,gl,iu,cf,bN];omega)]
     simp
    ·rw [MV,lO,g2]
     exact or_comm
    ·simp only [cJ,gl,iu,cf];omega
   simp only [Fw.fY,e1,ar,Fw.u6]
   rw [ak (by simpa using hk)]
   by_cases VI:j<xs.length
   ·rw [ak (by simpa using VI)]
    simp only [de VI,de hk,ar,eqN]
    by_cases e:xs[j]=list[k]
    ·rw [ak (by simpa using e)]
     refine⟨xs,rfl,g1,fun x=> ?_,by omega⟩
     rw [lO,g2]
     constructor
     ·exact .inl
     ·rintro(h | h)
      ·exact h
      ·rw [h,←e];exact(g2 _).1 (bT VI)
    ·rw [ax (by simpa using e)]
     exact ins fun _=>e
   ·rw [ax (by simpa using VI)]
    exact ins fun h=>absurd h VI)
  (fun xs hi=>by
   obtain⟨g1,g2,g3⟩:=hi
   rw [oJ] at g2
   exact⟨xs,by simp [Fw.fY],g1,g2,g3⟩) [] ⟨by simp,by simp,by simp⟩
 exact⟨r,by simp only [Fw,hr,ar,Fw.fk],h1,h2,h3⟩
end Go.Proofs.YtplklknkkaeniaaGreat
namespace Go.Proofs.YtplklknkkaeniaaGreat
open Eng
set_option linter.unusedVariables false
set_option linter.unusedSimpArgs false
def agS(l:List ai):Prop:=∀i j:Nat,i<j→(hj:j<l.length)→(hi:i<l.length)→¬kZ l[j] l[i]=true
theorem xh{l:List ai}(h:agS l){p:Nat}(hp:p≤l.length)(jR:∀k:Nat,1≤k→k<p→(hk:k<l.length)→l[k]≠l[k-1]):mo (l.take p):=by
 have adj:∀k:Nat,1≤k→k<p→(hk:k<l.length)→kZ l[k-1] l[k]=true:=fun k h1 h2 hk=>vi (h (k-1) k (by omega) hk (by omega)) (jR k h1 h2 hk)
 have far:∀(d i:Nat),i+d+1<p→(hj:i+d+1<l.length)→(hi:i<l.length)→kZ l[i] l[i+d+1]=true:=by
  intro d
  induction d with
  | zero=>intro i h1 hj hi;exact adj (i+1) (by omega) (by omega) hj
  | succ d ih=>
   intro i h1 hj hi
   have a:=ih i (by omega) (by omega) hi
   have b:=adj (i+d+2) (by omega) (by omega) (by omega)
   exact sK a b
 unfold mo
 rw [ou]
 intro i j hi hj Ps
 rw [gl] at hi hj
 rw [rB,rB]
 have:=far (j-i-1) i (by omega) (by omega) (by omega)
 have e:i+(j-i-1)+1=j:=by omega
 simpa only [e] using this
theorem yC{S:Type}{xs:List S}{i:Nat}(h:i<xs.length)(v:S):(xs.set i v).take (i+1)=xs.take i++ [v]:=by
 rw [jt (by simpa using h),List.take_set,List.set_eq_of_length_le (by rw [gl];omega)]
 simp
theorem MW(s:List ai)(hl:s.length≤1000000)(hw:agS s):∃r,Fx s=some r∧mo r∧(∀x,x∈r↔x∈s):=by
 by_cases h2:s.length<2
 ·refine⟨s,by simp only [Fx];rw [ak dT],?_,fun _=>Iff.rfl⟩
  have:=xh hw (p:=s.length) (bt _) (fun k h1 h2 hk=>by omega)
  rwa [oJ] at this
 ·have hq:∃t,loop (Fx.e7 s) 1=some t∧((∃r,t= .inl r∧mo r∧∀x,x∈r↔x∈s)∨(t= .inr ()∧mo s)):=by
   refine gA (f:=Fx.e7 s) (fun i=>∃p:Nat,1≤p∧p≤s.length∧i=(p:Int)∧∀k:Nat,1≤k→k<p→(hk:k<s.length)→s[k]≠s[k-1]) (fun i=>s.length-i.toNat) _ ?_ 1 ⟨1,by omega,by omega,rfl,fun k h1 h2=>by omega⟩
   rintro _ ⟨p,hp1,XA,rfl,jR⟩
   by_cases gy:p<s.length
   ·have e1:au ((p:Int)-1)=((p-1:Nat):Int):=by rw [bc (by omega) (by omega)];omega
    simp only [Fx.e7,de gy,e1,de (show p-1<s.length by omega),ar,eqN,kd]
    rw [ak dT]
    by_cases e:s[p]=s[p-1]
    ·right
     rw [ak (by simpa using e),ak (by omega)]
     obtain⟨⟨ys,_⟩,hr,i,rfl,g1,g2,g3,g4⟩:=gA (f:=Fx.vQ s (p:Int)) (fun st=>∃(i m:Nat),st.2.1=(i:Int)∧st.2.2=((m-p:Nat):Int)∧p+1≤m∧m≤s.length∧i+1≤m∧st.1.length=s.length∧mo (st.1.take i)∧(∀x,x∈st.1.take i↔x∈s.take m)∧∀j,i≤j→st.1[j]?=s[j]?) (fun st=>s.length-p-st.2.2.toNat)
      (fun r=>∃i:Nat,r.2=(i:Int)∧i≤r.1.length∧r.1.length=s.length∧mo (r.1.take i)∧∀x,x∈r.1.take i↔x∈s) (by
      rintro⟨xs,_,_⟩ ⟨i,m,rfl,rfl,m1,m2,m3,xl,st,mem,un⟩
      simp only at xl st mem un
      by_cases hm:m<s.length
      ·have J4:∀j,i≤j→(hj:j<s.length)→ix (xs.drop p) ((j-p:Nat):Int)=if p≤j then some s[j] else ix (xs.drop p) ((j-p:Nat):Int):=by
        intro j Ps hj
        by_cases hpj:p≤j
        ·rw [ak hpj]
         refine Io ?_
         rw [List.getElem?_drop,show p+(j-p)=j by omega,un j Ps,bM hj]
        ·rw [ax hpj]
       have f1:=J4 m (by omega) hm
       have f2:=J4 (m-1) (by omega) (by omega)
       rw [ak (by omega)] at f1 f2
       have e2:au (((m-p:Nat):Int)-1)=((m-1-p:Nat):Int):=by rw [bc (by omega) (by omega)];omega
       have e3:au (((m-p:Nat):Int)+1)=((m+1-p:Nat):Int):=by rw [bc (by omega) (by omega)];omega
       have hi:i<xs.length:=by omega
       simp only [Fx.vQ,kd,f1,e2,f2,e3,ar,eqN]
       rw [ak dT]
       left
       have I6:s.take (m+1)=s.take m++ [s[m]]:=jt hm
       have ku:s[m-1]∈s.take m:=by
        rw [ox]
        exact⟨m-1,by rw [gl];omega,by rw [rB]⟩
       by_cases e4:s[m]=s[m-1]
       ·rw [ax (by simp [e4])]
        refine⟨_,rfl,⟨i,m+1,rfl,rfl,by omega,by omega,by omega,xl,st,fun x=> ?_,un⟩,by simp only;omega⟩
        rw [I6,dw,dG,mem]
        constructor
        ·exact .inl
        ·rintro(h | h)
         ·exact h
         ·rw [h,e4];exact ku
       ·rw [ak (by simp [e4])]
        simp only [de hi,ar]
        rw [wI ((i:Int)+1)]
        refine⟨_,rfl,⟨i+1,m+1,rfl,rfl,by omega,by omega,by omega,by simpa using xl,?_,fun x=> ?_,fun j hj=> ?_⟩,by simp only;omega⟩
        ·simp only
         rw [yC hi]
         unfold mo
         rw [iW]
         refine⟨st,by simp,fun a ha b hb=> ?_⟩
         rw [dG] at hb
         subst hb
         have ha':=(mem a).1 ha
         obtain⟨q,hq,rfl⟩:=ox.1 ha'
         rw [gl] at hq
         rw [rB]
         have Uu:kZ s[m-1] s[m]=true:=vi (hw (m-1) m (by omega) hm (by omega)) e4
         by_cases hqm:q=m-1
         ·subst hqm;exact Uu
         ·by_cases hqe:s[q]=s[m-1]
          ·rw [hqe];exact Uu
          ·exact sK (vi (hw q (m-1) (by omega) (by omega) (by omega)) (fun h=>hqe h.symm)) Uu
        ·simp only
         rw [yC hi,I6,dw,dw,dG,mem]
        ·simp only
         rw [mq (by omega)]
         exact un j (by omega)
      ·right
       simp only [Fx.vQ,kd]
       rw [ax dF]
       refine⟨_,rfl,i,rfl,by simp only;omega,xl,st,fun x=> ?_⟩
       rw [mem,List.take_of_length_le (by omega)]) (s,(p:Int),1) ⟨p,p+1,rfl,by simp,by omega,by omega,by omega,rfl,xh hw (by omega) jR,fun x=>by
        rw [jt gy,dw,dG]
        constructor
        ·exact .inl
        ·rintro(h | h)
         ·exact h
         ·rw [h,e,ox]
          exact⟨p-1,by rw [gl];show p-1<min p s.length;omega,by rw [rB]⟩,fun j _=>rfl⟩
     simp only at g1 g2 g3 g4
     simp only [hr,ar,Fx.og,kd]
     rw [ak (by omega)]
     exact⟨_,rfl, .inl ⟨_,rfl,g3,g4⟩⟩
    ·left
     rw [ax (by simpa using e),wI ((p:Int)+1)]
     refine⟨_,rfl,⟨p+1,by omega,by omega,by simp,fun k k1 k2 hk=> ?_⟩,by omega⟩
     by_cases ek:k=p
     ·subst ek;exact e
     ·exact jR k k1 (by omega) hk
   ·right
    simp only [Fx.e7]
    rw [ax dF]
    refine⟨_,rfl, .inr ⟨rfl,?_⟩⟩
    have:=xh hw (p:=s.length) (bt _) (fun k k1 k2 hk=>jR k k1 (by omega) hk)
    rwa [oJ] at this
  obtain⟨t,ht,hq⟩:=hq
  simp only [Fx]
  rw [ax dF]
  simp only [ht,ar]
  rcases hq with⟨r,rfl,g1,g2⟩ | ⟨rfl,g1⟩
  ·exact⟨r,rfl,g1,g2⟩
  ·exact⟨s,rfl,g1,fun _=>Iff.rfl⟩
theorem Hn(a b:ai):vN (fun a b=>L4 a b) a b<0↔kZ a b=true:=by
 show ((L4 a b).getD 0)<0↔_
 rw [rj]
 have:=OO a b
 simp only [rE]
 cases h:kZ a b with
 | true=>
  rw [h] at this
  have h2:¬Qc a b≥0:=by simpa using this
  simp;omega
 | false=>
  rw [h] at this
  have h2:Qc a b≥0:=by simpa using this
  simp;omega
theorem Bo(a b:ai):Go.Proofs.ltOf (vN (fun a b=>L4 a b)) a b=kZ a b:=by
 unfold Go.Proofs.ltOf
 rw [iY,bC]
 exact Hn a b
theorem Uv:Go.Sort.SWO (Go.Proofs.ltOf (vN (fun a b:ai=>L4 a b))) where
 irrefl x:=by
  rw [Bo,←kC];exact mM x
 trans x y z h1 h2:=by
  rw [Bo] at h1 h2⊢;exact sK h1 h2
 ntrans x y z h1 h2:=by
  rw [Bo,←kC,qZ] at h1 h2⊢;omega
theorem CK(list:List ai)(hl:list.length≤1000000):∃r,Od list=some r∧Fw list=some r∧r.length≤list.length:=by
 obtain⟨r,h1,h2,h3,h4⟩:=l5 list hl
 obtain⟨u,hu⟩:=Mb (cmp:=fun a b=>L4 a b) (xs:=list) (fun a b=>by rw [rj];rfl) Uv (by omega)
 obtain⟨g1,g2,g3⟩:=JM hu
 obtain⟨v,k1,k2,k3⟩:=MW u (by omega) (fun i j Ps hj hi h=>g3 i j Ps hj hi ((Hn _ _).2 h))
 have:v=r:=Hm v r k2 h2 fun x=>by rw [k3,h3];exact g1.mem_iff
 subst this
 refine⟨v,?_,h1,h4⟩
 simp only [Od,FbI,gm,bN]
 rw [ak (by omega)]
 simp only [ar,Faq,hu,k1]
end Go.Proofs.YtplklknkkaeniaaGreat
namespace Go.Proofs.YtplklknkkaeniaaGreat
open Eng
set_option linter.unusedVariables false
set_option linter.unusedSimpArgs false
theorem AI(m:Int):Kt m=FW m:=by
 have:Kt.fY m=FW.fY m:=by
  funext ⟨xs,i⟩
  rfl
 simp only [Kt,FW,this]
 rfl
theorem OP:FW 1=some [0,-1,1]:=by
 simp only [FW]
 rw [bH,show FW.fY 1 ([0],1)=some (.inl ([0,-1,1],2)) by rfl]
 simp only
 rw [bH,show FW.fY 1 ([0,-1,1],2)=some (.inr [0,-1,1]) by rfl]
 rfl
theorem OQ:FW 3=some [0,-1,1,-2,2,-3,3]:=by
 simp only [FW]
 rw [bH,show FW.fY 3 ([0],1)=some (.inl ([0,-1,1],2)) by rfl]
 simp only
 rw [bH,show FW.fY 3 ([0,-1,1],2)=some (.inl ([0,-1,1,-2,2],3)) by rfl]
 simp only
 rw [bH,show FW.fY 3 ([0,-1,1,-2,2],3)=some (.inl ([0,-1,1,-2,2,-3,3],4)) by rfl]
 simp only
 rw [bH,show FW.fY 3 ([0,-1,1,-2,2,-3,3],4)=some (.inr [0,-1,1,-2,2,-3,3]) by rfl]
 rfl
def mt(f:ae)(n:ai)(late XG:Int)(k:Nat):List ab:=
 if(f.aa[k]?.map (·.aD))=some (w8 (n.aD+(w8 (12*XG)))) then [(⟨false,late,XG,w8 (k:Int)⟩:ab)] else []
theorem MX(f:ae)(n:ai)(late XG:Int)(k:Nat):(mt f n late XG k).length≤1:=by
 unfold mt;split<;>simp
def tk(f:ae)(n:ai)(late XG:Int):List ab:=(List.range f.aa.length).flatMap (mt f n late XG)
theorem Uw(f:ae)(n:ai)(late XG:Int):(tk f n late XG).length≤f.aa.length*1:=nG _ _ _ (fun k _=>MX f n late XG k)
def Qd(f:ae)(n:ai)(late:Int):Bool:=(decide ((au ((au n.cd)+(au late)))≥0))&&(decide ((au ((au n.cd)+(au late)))≤(au ((au f.ag)-1))))
def oc(f:ae)(n:ai)(late:Int)(i:Nat):List ab:=match [(0:Int),-1,1][i]? with | some o=>tk f n late o | none=> []
def la(f:ae)(n:ai)(i:Nat):List ab:=match [(0:Int),-1,1,-2,2,-3,3][i]? with
 | some l=>if Qd f n l=true then(List.range 3).flatMap (oc f n l) else []
 | none=> []
theorem MY(f:ae)(n:ai)(late:Int)(i:Nat)(hf:f.aa.length≤24):(oc f n late i).length≤24:=by
 unfold oc
 split
 ·rename_i o _;have:=Uw f n late o;omega
 ·simp
theorem Ey(f:ae)(n:ai)(i:Nat)(hf:f.aa.length≤24):(la f n i).length≤72:=by
 unfold la
 split
 ·split
  ·rename_i l _ _;have:=nG 3 24 (oc f n l) (fun k _=>MY f n l k hf);omega
  ·simp
 ·simp
theorem abF(k:Nat)(h:k<3):∃o,[(0:Int),-1,1][k]?=some o∧-1≤o∧o≤1∧ix [(0:Int),-1,1] (k:Int)=some o:=by
 match k,h with
 | 0,_=>exact⟨0,rfl,by omega,by omega,rfl⟩
 | 1,_=>exact⟨-1,rfl,by omega,by omega,rfl⟩
 | 2,_=>exact⟨1,rfl,by omega,by omega,rfl⟩
theorem agT(k:Nat)(h:k<7):∃o,[(0:Int),-1,1,-2,2,-3,3][k]?=some o∧ix [(0:Int),-1,1,-2,2,-3,3] (k:Int)=some o:=by
 match k,h with
 | 0,_=>exact⟨_,rfl,rfl⟩
 | 1,_=>exact⟨_,rfl,rfl⟩
 | 2,_=>exact⟨_,rfl,rfl⟩
 | 3,_=>exact⟨_,rfl,rfl⟩
 | 4,_=>exact⟨_,rfl,rfl⟩
 | 5,_=>exact⟨_,rfl,rfl⟩
 | 6,_=>exact⟨_,rfl,rfl⟩
theorem RT(f:ae)(n:ai)(i j:Nat)(l o:Int)(hf:f.aa.length≤24)(xs:List ab)(hx:xs.length≤1000)
  (hl:ix [(0:Int),-1,1,-2,2,-3,3] (i:Int)=some l) (ho:ix [(0:Int),-1,1] (j:Int)=some o):
  loop (FA.j4 f n [0,-1,1,-2,2,-3,3] [0,-1,1] (i:Int) (j:Int)) (xs,0)=some (xs++tk f n l o):=by
 refine iL f.aa.length 1 (by omega) (mt f n l o) xs (fun k _=>MX f n l o k) (fun ys k hk hy=> ?_) (fun ys=>by simp [FA.j4])
 simp only [FA.j4,de hk,hl,ho,ar]
 rw [ak (by simpa using hk)]
 unfold mt
 rw [bM hk]
 by_cases he:f.aa[k].aD=w8 (n.aD+w8 (12*o))
 ·rw [ak (by simpa using he),ak (by simp;omega),ak (by simpa using he)]
 ·rw [ax (by simpa using he),ax (by simpa using he),gz]
theorem s15(f:ae)(n:ai)(i:Nat)(l:Int)(hf:f.aa.length≤24)(xs:List ab)(hx:xs.length≤800)
  (hl:ix [(0:Int),-1,1,-2,2,-3,3] (i:Int)=some l):
  loop (FA.Ax f n [0,-1,1,-2,2,-3,3] [0,-1,1] (i:Int)) (xs,0)=some (xs++(List.range 3).flatMap (oc f n l)):=by
 refine iL 3 24 (by omega) (oc f n l) xs (fun k _=>MY f n l k hf) (fun ys k hk hy=> ?_) (fun ys=>by simp [FA.Ax])
 obtain⟨o,ho,_,_,hi⟩:=abF k hk
 simp only [FA.Ax,RT f n i k l o hf ys (by omega) hl hi,ar,FA.Ie]
 rw [ak (by simp;omega)]
 unfold oc
 rw [ho]
theorem s7(f:ae)(n:ai)(hf:f.aa.length≤24):
  loop (FA.PN f n [0,-1,1,-2,2,-3,3] [0,-1,1]) ([],0)=some ([]++(List.range 7).flatMap (la f n)):=by
 refine iL 7 72 (by omega) (la f n) [] (fun k _=>Ey f n k hf) (fun ys k hk hy=> ?_) (fun ys=>by simp [FA.PN])
 obtain⟨l,hl,hi⟩:=agT k hk
 simp only [FA.PN,hi,ar,FD]
 rw [ak (by simp;omega)]
 have hy':ys.length≤504:=by simpa using hy
 unfold la
 rw [hl]
 have e:((decide (au (au n.cd+au l)≥0))&&(decide (au (au n.cd+au l)≤au (au f.ag-1))))=Qd f n l:=rfl
 rw [e]
 by_cases ha:Qd f n l=true
 ·rw [ax (by simp [ha]),s15 f n k l hf ys (by omega) hi]
  simp only [ar,FA.vK,ha,cp]
 ·rw [ak (by simpa using ha)]
  simp [ha]
theorem XH(f:ae)(n:ai)(hf:f.aa.length≤24):FA f n=some ((List.range 7).flatMap (la f n)++ [⟨true,0,0,0⟩]):=by
 simp only [FA,OP,OQ,ar,s7 f n hf,FA.ki,gm]
 have:=nG 7 72 (la f n) (fun k _=>Ey f n k hf)
 rw [ak (by simp only [cf,bN];omega)]
theorem i21(f:ae)(n:ai)(l o:Int)(hf:f.aa.length≤24)(hh:∀y∈f.aa,-128≤y.aD∧y.aD≤127)(QZ:0≤n.aD)(zW:n.aD≤47)(ho0:-1≤o)(ho1:o≤1)(xs:List ab)(hx:xs.length≤1000):
  loop (Fm.j4 f n l o) (xs,0)=some (xs++if Qd f n l=true then tk f n l o else []):=by
 have H:=iL (f:=Fm.j4 f n l o) f.aa.length 1 (by omega) (fun k=>if Qd f n l=true then mt f n l o k else []) xs (fun k _=>by
   split
   ·exact MX f n l o k
   ·simp) (fun ys k hk hy=>by
   have hp:=hh _ (bT hk)
   have e:(FB (au ((au n.cd)+(au l))) 0 (au ((au f.ag)-1)))=some (Qd f n l):=by rw [uL];rfl
   have e2:w8 (n.aD+w8 (12*o))=n.aD+12*o:=by rw [vC (n:=12*o) (by omega) (by omega),vC (by omega) (by omega)]
   have e3:au ((au n.aD)+(au (12*(au o))))=n.aD+12*o:=by
    rw [wI o,wI (12*o),wI n.aD,bc (by omega) (by omega)]
   have e4:au f.aa[k].aD=f.aa[k].aD:=bc (by omega) (by omega)
   simp only [Fm.j4,de hk,e,e3,e4,ar]
   rw [ak (by simpa using hk)]
   unfold mt
   rw [bM hk,e2]
   by_cases ha:Qd f n l=true
   ·by_cases he:f.aa[k].aD=n.aD+12*o
    ·rw [ak (by simp [ha,he]),ak (by simp;omega),ak ha,ak (by simpa using he)]
    ·rw [ax (by simp [he]),ak ha,ax (by simpa using he),gz]
   ·rw [ax (by simp [ha]),ax ha,gz]) (fun ys=>by simp [Fm.j4])
 rw [H]
 by_cases ha:Qd f n l=true
 ·simp [ha,tk]
 ·simp [ha]
theorem i14(f:ae)(n:ai)(l:Int)(hf:f.aa.length≤24)(hh:∀y∈f.aa,-128≤y.aD∧y.aD≤127)(QZ:0≤n.aD)(zW:n.aD≤47)(xs:List ab)(hx:xs.length≤800):
  loop (Fm.p7 f n l [0,-1,1]) (xs,0)=some (xs++if Qd f n l=true then(List.range 3).flatMap (oc f n l) else []):=by
 have H:=iL (f:=Fm.p7 f n l [0,-1,1]) 3 24 (by omega) (fun k=>if Qd f n l=true then oc f n l k else []) xs (fun k _=>by
   split
   ·exact MY f n l k hf
   ·simp) (fun ys k hk hy=>by
   obtain⟨o,ho,h0,h1,hi⟩:=abF k hk
   simp only [Fm.p7,hi,i21 f n l o hf hh QZ zW h0 h1 ys (by omega),ar,Fm.Ie]
   rw [ak (by simp;omega)]
   unfold oc
   rw [ho]) (fun ys=>by simp [Fm.p7])
 rw [H]
 by_cases ha:Qd f n l=true
 ·simp [ha]
 ·simp [ha]
theorem i6(f:ae)(n:ai)(hf:f.aa.length≤24)(hh:∀y∈f.aa,-128≤y.aD∧y.aD≤127)(QZ:0≤n.aD)(zW:n.aD≤47):
  loop (Fm.Df f n [0,-1,1,-2,2,-3,3]) ([],0)=some ([]++(List.range 7).flatMap (la f n)):=by
 refine iL 7 72 (by omega) (la f n) [] (fun k _=>Ey f n k hf) (fun ys k hk hy=> ?_) (fun ys=>by simp [Fm.Df])
 obtain⟨l,hl,hi⟩:=agT k hk
 have hy':ys.length≤504:=by simpa using hy
 simp only [Fm.Df,hi,ar,AI,OP,i14 f n l hf hh QZ zW ys (by omega),Fm.tG]
 rw [ak (by simp;omega)]
 unfold la
 rw [hl]
theorem XI(f:ae)(n:ai)(hf:f.aa.length≤24)(hh:∀y∈f.aa,-128≤y.aD∧y.aD≤127)(QZ:0≤n.aD)(zW:n.aD≤47):Fm f n=some ((List.range 7).flatMap (la f n)++ [⟨true,0,0,0⟩]):=by
 simp only [Fm,AI,OQ,ar,i6 f n hf hh QZ zW,Fm.nS,gm]
 have:=nG 7 72 (la f n) (fun k _=>Ey f n k hf)
 rw [ak (by simp only [cf,bN];omega)]
def bR(f:ae)(n:ai):List ab:=(List.range 7).flatMap (la f n)++ [⟨true,0,0,0⟩]
theorem nN(f:ae)(n:ai)(hf:f.aa.length≤24):(bR f n).length≤505:=by
 have:=nG 7 72 (la f n) (fun k _=>Ey f n k hf)
 simp only [bR,cJ,cf,bN];omega
theorem xM{f:ae}(hf:kw f)(n:ai):FA f n=some (bR f n):=XH f n hf.h1
theorem zq{f:ae}(hf:kw f){n:ai}(QZ:0≤n.aD)(zW:n.aD≤47):Fm f n=some (bR f n):=
 XI f n hf.h1 (fun y hy=>by have:=hf.hp y hy;omega) QZ zW
theorem zr{f:ae}(hf:kw f){n:ai}(ha:0≤n.cd∧n.cd≤199)(hp:0≤n.aD∧n.aD≤47)(x:ab):
  x∈bR f n↔x=⟨true,0,0,0⟩∨(x.bJ=false∧(-3≤x.cP∧x.cP≤3)∧(-1≤x.ba∧x.ba≤1)∧(0≤n.cd+x.cP∧n.cd+x.cP<f.ag)∧∃k:Nat,k<f.aa.length∧x.eU=(k:Int)∧(f.aa[k]?.map (·.aD))=some (n.aD+12*x.ba)):=by
 have xD:=hf.s0;have rk:=hf.s1;have xN:=hf.h1
 have hat:∀l:Int,-3≤l→l≤3→(Qd f n l=true↔0≤n.cd+l∧n.cd+l<f.ag):=by
  intro l h0 h1
  unfold Qd
  rw [wI n.cd,wI l,wI (n.cd+l),wI f.ag,wI (f.ag-1)]
  simp only [ge_iff_le,bY,bC]
  omega
 have hmt:∀(l o:Int) (k:Nat),k<f.aa.length→-1≤o→o≤1→(x∈mt f n l o k↔(f.aa[k]?.map (·.aD))=some (n.aD+12*o)∧x=⟨false,l,o,(k:Int)⟩):=by
  intro l o k hk h0 h1
  unfold mt
  rw [vC (n:=12*o) (by omega) (by omega),vC (n:=n.aD+12*o) (by omega) (by omega),vC (n:=(k:Int)) (by omega) (by omega)]
  split
  ·rename_i h;simp [h]
  ·rename_i h;simp [h]
 have h7:∀i,i<7→∃l,[(0:Int),-1,1,-2,2,-3,3][i]?=some l∧-3≤l∧l≤3:=by
  intro i hi
  match i,hi with
  | 0,_=>exact⟨_,rfl,by omega,by omega⟩
  | 1,_=>exact⟨_,rfl,by omega,by omega⟩
  | 2,_=>exact⟨_,rfl,by omega,by omega⟩
  | 3,_=>exact⟨_,rfl,by omega,by omega⟩
  | 4,_=>exact⟨_,rfl,by omega,by omega⟩
  | 5,_=>exact⟨_,rfl,by omega,by omega⟩
  | 6,_=>exact⟨_,rfl,by omega,by omega⟩
 unfold bR
 rw [dw,kB,dG]
 constructor
 ·rintro(⟨i,hi,hx⟩ | rfl)
  ·right
   obtain⟨l,hl,Yu,Cf⟩:=h7 i (by simpa using hi)
   unfold la at hx
   rw [hl] at hx
   simp only at hx
   split at hx
   ·rename_i ajj
    rw [kB] at hx
    obtain⟨j,hj,hx⟩:=hx
    obtain⟨o,ho,ho0,ho1,_⟩:=abF j (by simpa using hj)
    unfold oc at hx
    rw [ho] at hx
    simp only [tk,kB] at hx
    obtain⟨k,hk,hx⟩:=hx
    have hk:k<f.aa.length:=by simpa using hk
    obtain⟨h1,rfl⟩:=(hmt l o k hk ho0 ho1).1 hx
    exact⟨rfl,⟨Yu,Cf⟩,⟨ho0,ho1⟩,(hat l Yu Cf).1 ajj,k,hk,rfl,h1⟩
   ·simp at hx
  ·exact .inl rfl
 ·rintro(rfl | ⟨h1,⟨h2,h3⟩,⟨h4,h5⟩,h6,k,hk,h7',h8⟩)
  ·exact .inr rfl
  ·left
   obtain⟨aw,l,o,tr⟩:=x
   simp only at h1 h2 h3 h4 h5 h6 h7' h8
   subst h1 h7'
   have hi:∃i,i<7∧ [(0:Int),-1,1,-2,2,-3,3][i]?=some l:=by
    have:l=0∨l=-1∨l=1∨l=-2∨l=2∨l=-3∨l=3:=by omega
    rcases this with rfl | rfl | rfl | rfl | rfl | rfl | rfl
    ·exact⟨0,by omega,rfl⟩
    ·exact⟨1,by omega,rfl⟩
    ·exact⟨2,by omega,rfl⟩
    ·exact⟨3,by omega,rfl⟩
    ·exact⟨4,by omega,rfl⟩
    ·exact⟨5,by omega,rfl⟩
    ·exact⟨6,by omega,rfl⟩
   have hj:∃j,j<3∧ [(0:Int),-1,1][j]?=some o:=by
    have:o=0∨o=-1∨o=1:=by omega
    rcases this with rfl | rfl | rfl
    ·exact⟨0,by omega,rfl⟩
    ·exact⟨1,by omega,rfl⟩
    ·exact⟨2,by omega,rfl⟩
   obtain⟨i,Gn,QT⟩:=hi
   obtain⟨j,hj1,N_⟩:=hj
   refine⟨i,by simpa using Gn,?_⟩
   unfold la
   rw [QT]
   simp only
   rw [ak ((hat l h2 h3).2 h6),kB]
   refine⟨j,by simpa using hj1,?_⟩
   unfold oc
   rw [N_]
   simp only [tk,kB]
   exact⟨k,by simpa using hk,(hmt l o k hk h4 h5).2 ⟨h8,rfl⟩⟩
end Go.Proofs.YtplklknkkaeniaaGreat
namespace Go.Proofs.YtplklknkkaeniaaGreat
open Eng
set_option linter.unusedVariables false
set_option linter.unusedSimpArgs false
def XJ(c:aQ):Prop:=(-32768≤c.bJ∧c.bJ≤32767)∧(-32768≤c.ba∧c.ba≤32767)∧(-32768≤c.du∧c.du≤32767)
def nO(c:aQ):Bool:=(decide (0≤c.bJ)&&decide (c.bJ≤1000))&&((decide (0≤c.ba)&&decide (c.ba≤1000))&&(decide (0≤c.du)&&decide (c.du≤1000)))
theorem KT{c:aQ}(h:XJ c):Fb1 c=some (nO c):=by
 obtain⟨h1,h2,h3⟩:=h
 simp only [Fb1,FD,ar,nO,ge_iff_le]
 rw [wI c.bJ,wI c.ba,wI c.du]
 cases (decide (0≤c.bJ)&&decide (c.bJ≤1000))<;>cases (decide (0≤c.ba)&&decide (c.ba≤1000))<;>simp
theorem tN{c:aQ}(h:XJ c):Xh c=some (nO c):=by
 obtain⟨h1,h2,h3⟩:=h
 simp only [Xh,FB,ar,nO]
 rw [wI c.bJ,wI c.ba,wI c.du]
 cases (decide (0≤c.bJ)&&decide (c.bJ≤1000))<;>cases (decide (0≤c.ba)&&decide (c.ba≤1000))<;>simp
structure CL (c:aQ):Prop where
 a:0≤c.bJ∧c.bJ≤1000
 o:0≤c.ba∧c.ba≤1000
 s:0≤c.du∧c.du≤1000
theorem Bp{c:aQ}(h:nO c=true):CL c:=by
 unfold nO at h
 simp only [bY,bC] at h
 exact⟨h.1,h.2.1,h.2.2⟩
def vj(x:ab):Prop:=x.bJ=true∨(-3≤x.cP∧x.cP≤3)
def cL(c:aQ)(x:ab):Int:=if x.bJ=true then c.bJ else c.du*(if x.cP<0 then-x.cP else x.cP)+(if x.ba=0 then 0 else c.ba)
theorem IA(s l:Int)(h0:0≤s)(h1:s≤1000)(Yu:0≤l)(hl:l≤3):0≤s*l∧s*l≤3000:=by
 have:s*l≤1000*l:=Int.mul_le_mul_of_nonneg_right h1 Yu
 exact⟨Int.mul_nonneg h0 Yu,by omega⟩
theorem sL{c:aQ}(h:CL c){x:ab}(hx:vj x):0≤cL c x∧cL c x≤4000:=by
 obtain⟨h1,h2,h3⟩:=h
 unfold cL
 by_cases ha:x.bJ=true
 ·rw [ak ha];omega
 ·rw [ax ha]
  rcases hx with hx | hx
  ·exact absurd hx ha
  ·have:=IA c.du (if x.cP<0 then-x.cP else x.cP) h3.1 h3.2 (by split<;>omega) (by split<;>omega)
   generalize c.du*(if x.cP<0 then-x.cP else x.cP)=z at*
   split<;>omega
theorem qC{c:aQ}(h:CL c){x:ab}(hx:vj x):FR c x=some (cL c x):=by
 obtain⟨h1,h2,h3⟩:=h
 unfold FR cL
 by_cases ha:x.bJ=true
 ·rw [ak ha,ak ha,bc (by omega) (by omega)]
 ·rw [ax ha,ax ha]
  rcases hx with hx | hx
  ·exact absurd hx ha
  ·have hb:=IA c.du (if x.cP<0 then-x.cP else x.cP) h3.1 h3.2 (by split<;>omega) (by split<;>omega)
   rw [wI x.cP]
   by_cases hl:x.cP<0
   ·simp only [ak hl] at hb⊢
    rw [ak (by simpa using hl),wI (0-x.cP),Int.zero_sub]
    simp only [FR.fk,FR.ki]
    rw [wI c.du,wI (c.du*-x.cP),wI c.ba,wI (c.du*-x.cP+c.ba)]
    by_cases ho:x.ba=0<;>simp [ho]
   ·simp only [ax hl] at hb⊢
    rw [ax (by simpa using hl)]
    simp only [FR.fk,FR.ki]
    rw [wI c.du,wI (c.du*x.cP),wI c.ba,wI (c.du*x.cP+c.ba)]
    by_cases ho:x.ba=0<;>simp [ho]
theorem yD{c:aQ}(h:CL c){x:ab}(hx:vj x):MB c x=some (cL c x):=by
 obtain⟨h1,h2,h3⟩:=h
 unfold MB cL
 by_cases ha:x.bJ=true
 ·rw [ak ha,ak ha,bc (by omega) (by omega)]
 ·rw [ax ha,ax ha]
  rcases hx with hx | hx
  ·exact absurd hx ha
  ·have hb:=IA c.du (if x.cP<0 then-x.cP else x.cP) h3.1 h3.2 (by split<;>omega) (by split<;>omega)
   have e:(if w8 (0-x.cP)>x.cP then w8 (0-x.cP) else x.cP)=(if x.cP<0 then-x.cP else x.cP):=by
    rw [vC (by omega) (by omega)]
    split<;>split<;>omega
   have e2:au (if x.cP<0 then-x.cP else x.cP)=(if x.cP<0 then-x.cP else x.cP):=by split<;>exact bc (by omega) (by omega)
   rw [e,e2]
   generalize (if x.cP<0 then-x.cP else x.cP)=l at*
   have e3:Pq (x.ba !=0)=some (if x.ba=0 then 0 else 1):=by
    unfold Pq
    by_cases ho:x.ba=0<;>simp [ho]
   simp only [e3,ar]
   rw [wI c.du,wI (c.du*l),wI c.ba]
   by_cases ho:x.ba=0
   ·simp only [ak ho,Int.mul_zero]
    rw [wI 0,bc (by omega) (by omega)]
   ·simp only [ax ho,Int.mul_one]
    rw [wI c.ba,bc (by omega) (by omega)]
def kQ(m:Int)(xs:List Int):Int:=xs.foldl (fun m x=>if x<m then x else m) m
theorem B2(m:Int)(xs:List Int)(x:Int):kQ m (xs++ [x])=if x<kQ m xs then x else kQ m xs:=by
 unfold kQ;rw [List.foldl_append];rfl
theorem tv:∀(xs:List Int) (m:Int),kQ m xs≤m∧(∀x∈xs,kQ m xs≤x)∧(kQ m xs=m∨kQ m xs∈xs):=by
 intro xs
 induction xs with
 | nil=>intro m;simp [kQ]
 | cons y xs ih=>
  intro m
  have e:kQ m (y::xs)=kQ (if y<m then y else m) xs:=rfl
  obtain⟨h1,h2,h3⟩:=ih (if y<m then y else m)
  rw [e]
  have hle:(if y<m then y else m)≤m∧(if y<m then y else m)≤y:=by split<;>omega
  refine⟨by omega,fun x hx=> ?_,?_⟩
  ·rcases eK.1 hx with rfl | hx
   ·omega
   ·exact h2 x hx
  ·rcases h3 with h3 | h3
   ·by_cases hy:y<m
    ·rw [ak hy] at h3⊢;right;rw [h3];simp
    ·rw [ax hy] at h3⊢;left;exact h3
   ·right;simp [h3]
theorem Qe{m m':Int}{xs xs':List Int}(h:∀x,(x=m∨x∈xs)↔(x=m'∨x∈xs')):kQ m xs=kQ m' xs':=by
 obtain⟨a1,a2,a3⟩:=tv xs m
 obtain⟨b1,b2,b3⟩:=tv xs' m'
 have h1:=(h _).1 a3
 have h2:=(h _).2 b3
 apply Int.le_antisymm
 ·rcases h2 with h2 | h2
  ·rw [h2];exact a1
  ·exact a2 _ h2
 ·rcases h1 with h1 | h1
  ·rw [h1];exact b1
  ·exact b2 _ h1
end Go.Proofs.YtplklknkkaeniaaGreat
namespace Go.Proofs.YtplklknkkaeniaaGreat
open Eng
set_option linter.unusedVariables false
set_option linter.unusedSimpArgs false
theorem ly{f:ae}(hf:kw f){n:ai}(ha:0≤n.cd∧n.cd≤199)(hp:0≤n.aD∧n.aD≤47){x:ab}(hx:x∈bR f n):vj x:=by
 rcases(zr hf ha hp x).1 hx with rfl | ⟨h1,h2,_⟩
 ·exact .inl rfl
 ·exact .inr h2
theorem XK{A:Type}{l:List A}(h:0<l.length):l=l[0]::l.drop 1:=by
 cases l with
 | nil=>simp at h
 | cons a l=>simp
def eP(f:ae)(c:aQ)(n:ai):Int:=kQ c.bJ ((bR f n).map (cL c))
theorem Qf{f:ae}(hf:kw f){c:aQ}(hc:CL c){n:ai}(ha:0≤n.cd∧n.cd≤199)(hp:0≤n.aD∧n.aD≤47):
  loop (FO.vQ c (bR f n)) (au c.bJ,0)=some (eP f c n):=by
 have hl:=nN f n hf.h1
 have:=gB (f:=FO.vQ c (bR f n)) (bR f n).length (fun k=>(kQ c.bJ (((bR f n).take k).map (cL c)),(k:Int))) (eP f c n) (fun k hk=>by
  have hs:=ly hf ha hp (bT hk)
  simp only [FO.vQ,de hk,ar,yD hc hs]
  rw [ak (by simpa using hk),wI ((k:Int)+1),jt hk,mu,ju,mD,B2]
  rfl) (by
  simp only [FO.vQ]
  rw [ax (by simp),oJ];rfl)
 rw [bc (by have:=hc.a;omega) (by have:=hc.a;omega)]
 simpa [kQ] using this
theorem Qg{f:ae}(hf:kw f){c:aQ}(hc:CL c){n:ai}(ha:0≤n.cd∧n.cd≤199)(hp:0≤n.aD∧n.aD≤47):KL f n c=some (eP f c n):=by
 have hl:=nN f n hf.h1
 have jR:0<(bR f n).length:=by simp [bR]
 simp only [KL,xM hf n,ar]
 have h0:ix (bR f n) 0=some (bR f n)[0]:=de jR
 simp only [h0,ar,qC hc (ly hf ha hp (bT jR))]
 have:=gB (f:=KL.pH c (bR f n)) ((bR f n).length-1) (fun k=>(kQ (cL c (bR f n)[0]) ((((bR f n).drop 1).take k).map (cL c)),((k+1:Nat):Int)))
  (kQ (cL c (bR f n)[0]) (((bR f n).drop 1).map (cL c))) (fun k hk=>by
  have Q0:k+1<(bR f n).length:=by omega
  have hk3:k<((bR f n).drop 1).length:=by rw [iu];omega
  have hs:=ly hf ha hp (bT Q0)
  have e3:((bR f n).drop 1)[k]=(bR f n)[k+1]:=by rw [List.getElem_drop];congr 1;omega
  simp only [KL.pH,de Q0,ar,qC hc hs,Wv]
  rw [ak (by simp;omega),wI (((k+1:Nat):Int)+1),jt hk3,mu,ju,mD,B2,e3]
  generalize kQ (cL c (bR f n)[0]) ((((bR f n).drop 1).take k).map (cL c))=z
  have e4:(if(decide (z<cL c (bR f n)[k+1]))=true then some z else some (cL c (bR f n)[k+1]))=some (if cL c (bR f n)[k+1]<z then cL c (bR f n)[k+1] else z):=by
   simp only [bC]
   split<;>split<;>congr 1<;>omega
  rw [e4]
  simp only [ar]
  congr 1) (by
  simp only [KL.pH]
  rw [ax (by simp;omega),List.take_of_length_le (by simp)])
 have e1:kQ (cL c (bR f n)[0]) (((bR f n).drop 1).map (cL c))=eP f c n:=by
  unfold eP
  apply Qe
  have hd:(bR f n)=(bR f n)[0]::(bR f n).drop 1:=XK jR
  have haw:c.bJ∈(bR f n).map (cL c):=dM.2 ⟨⟨true,0,0,0⟩,by simp [bR],by simp [cL]⟩
  intro x
  constructor
  ·rintro(rfl | hx)
   ·right;exact dM.2 ⟨_,bT jR,rfl⟩
   ·right
    obtain⟨y,hy,rfl⟩:=dM.1 hx
    exact dM.2 ⟨y,List.mem_of_mem_drop hy,rfl⟩
  ·intro hx
   have hx:x∈(bR f n).map (cL c):=by
    rcases hx with rfl | hx
    ·exact haw
    ·exact hx
   rw [hd] at hx
   simpa using hx
 simp only [List.take_zero,mD] at this
 rw [show kQ (cL c (bR f n)[0]) []=cL c (bR f n)[0] from rfl,show (((0+1:Nat):Int))=1 from rfl] at this
 rw [this,e1]
 rfl
theorem Ux{f:ae}(hi:vE f)(hl:f.aa.length≤1048576){t:List ai}(ht:t.length≤1048576)(hn:∀n∈t,AG n){c:aQ}(hc:XJ c):
  OC f t c=some (if fO f=true∧iM t=true∧nO c=true then 0 else 1):=by
 simp only [OC,n5 f (by omega),xe (show t.length≤9223372036854775807 by omega) hn,KT hc,ar,OC.fk]
 cases fO f<;>cases iM t<;>cases nO c<;>simp
theorem Ez(a b c:Int):Fe [a,b,c]=some (if a≠0 then a else if b≠0 then b else c):=by
 simp only [Fe]
 rw [bH]
 by_cases ha:a=0
 ·rw [show Fe.e7 [a,b,c] 0=some (.inl 1) by simp [Fe.e7,ix,ha,bc]]
  simp only
  rw [bH]
  by_cases hb:b=0
  ·rw [show Fe.e7 [a,b,c] 1=some (.inl 2) by simp [Fe.e7,ix,hb,bc]]
   simp only
   rw [bH]
   by_cases hc:c=0
   ·rw [show Fe.e7 [a,b,c] 2=some (.inl 3) by simp [Fe.e7,ix,hc,bc]]
    simp only
    rw [bH,show Fe.e7 [a,b,c] 3=some (.inr (.inr ())) by simp [Fe.e7]]
    simp [ha,hb,hc,Fe.iQ]
   ·rw [show Fe.e7 [a,b,c] 2=some (.inr (.inl c)) by simp [Fe.e7,ix,hc]]
    simp [ha,hb]
  ·rw [show Fe.e7 [a,b,c] 1=some (.inr (.inl b)) by simp [Fe.e7,ix,hb]]
   simp [ha,hb]
 ·rw [show Fe.e7 [a,b,c] 0=some (.inr (.inl a)) by simp [Fe.e7,ix,ha]]
  simp [ha]
theorem Cv:SY []=some 0:=by
 simp only [SY,F3,Fi]
 rw [bH,show Fi.e7 [] 0=some (.inr (.inr ())) by simp [Fi.e7]]
 rfl
theorem EA{f:ae}(hi:vE f)(hl:f.aa.length≤1048576){t:List ai}(ht:t.length≤1048576)(hn:∀n∈t,AG n){c:aQ}(hc:XJ c):
  FbA f t c=some (if fO f=true∧iM t=true∧nO c=true then 0 else 1):=by
 simp only [FbA,VS,tM f (show f.aa.length≤9223372036854775807 by omega),uN (show t.length≤9223372036854775807 by omega) hn,Cv,tN hc,ii,Ez,iv,ar]
 cases fO f<;>cases iM t<;>cases nO c<;>simp
theorem IB{f:ae}(hf:kw f){c:aQ}(hc:CL c){t:List ai}(ht:xf t):FO f t c=some (t.map (eP f c)):=by
 have hl:=ht.len
 have:=gB (f:=FO.fY f t c) t.length (fun k=>((t.take k).map (eP f c),(k:Int))) (t.map (eP f c)) (fun k hk=>by
  obtain⟨a,b,d,e⟩:=ht.nt _ (bT hk)
  simp only [FO.fY,de hk,ar,zq hf d e,Qf hf hc ⟨a,b⟩ ⟨d,e⟩,FO.s_]
  rw [ak (by simpa using hk),ak (by simp only [kF,gl,cf,bN];omega),wI ((k:Int)+1),jt hk,mu]
  rfl) (by simp [FO.fY])
 simp only [List.take_zero,mD] at this
 simp only [FO]
 rw [show ((0:Int))=((0:Nat):Int) from rfl,this]
 rfl
end Go.Proofs.YtplklknkkaeniaaGreat
namespace Go.Proofs.YtplklknkkaeniaaGreat
open Eng
set_option linter.unusedVariables false
set_option linter.unusedSimpArgs false
def pu:List Int→Int
 | []=>0
 | x::t=>x+pu t
theorem Ho(x:Int):∀l:List Int,pu (l++ [x])=pu l+x
 | []=>by simp [pu]
 | y::l=>by simp only [nD,pu,Ho x l];omega
theorem IC{B:Int}:∀(l:List Int),(∀x∈l,0≤x∧x≤B)→0≤pu l∧pu l≤B*l.length
 | [],_=>by simp [pu]
 | x::l,h=>by
  have h1:=IC l (fun y hy=>h y (by simp [hy]))
  have h2:=h x (by simp)
  simp only [pu,cf]
  rw [show B*((l.length+1:Nat):Int)=B*l.length+B by rw [Int.natCast_add,Int.mul_add];simp]
  omega
def B3(xs:List Int)(k:Nat):Int:=pu (xs.drop k)
theorem KU{xs:List Int}{k:Nat}(h:k<xs.length):B3 xs k=xs[k]+B3 xs (k+1):=by
 unfold B3
 rw [qq h];rfl
theorem Uy{xs:List Int}(h:∀x∈xs,0≤x∧x≤4000)(hl:xs.length≤120)(k:Nat):0≤B3 xs k∧B3 xs k≤480000:=by
 have h1:=IC (B:=4000) (xs.drop k) (fun x hx=>h x (List.mem_of_mem_drop hx))
 have h2:(xs.drop k).length≤120:=by rw [iu];omega
 unfold B3
 omega
theorem Bq{f:ae}(hf:kw f){c:aQ}(hc:CL c){n:ai}(ha:0≤n.cd∧n.cd≤199)(hp:0≤n.aD∧n.aD≤47):0≤eP f c n∧eP f c n≤4000:=by
 obtain⟨h1,_,h3⟩:=tv ((bR f n).map (cL c)) c.bJ
 have ha':=hc.a
 unfold eP
 refine⟨?_,by omega⟩
 rcases h3 with h3 | h3
 ·omega
 ·obtain⟨x,hx,e⟩:=dM.1 h3
  have:=sL hc (ly hf ha hp hx)
  omega
theorem MZ{A S T:Type}{body:A→S→Option (S⊕T)}(ys:List A)(st:Nat→S)(h:∀k (hk:k<ys.length),body ys[k] (st k)=some (.inl (st (k+1)))):Bd body ys (st 0)=some (.inl (st ys.length)):=by
 have key:∀j k,k+j=ys.length→Bd body (ys.drop k) (st k)=some (.inl (st ys.length)):=by
  intro j
  induction j with
  | zero=>intro k hk;rw [mR (by omega)];simp only [Bd];rw [show k=ys.length by omega]
  | succ j ih=>
   intro k hk
   rw [qq (show k<ys.length by omega)]
   simp only [Bd,h k (by omega),ar]
   exact ih (k+1) (by omega)
 simpa using key ys.length 0 (by omega)
def yE(xs:List Int)(k:Nat):List Int:=(List.range (xs.length+1)).map fun i=>if xs.length-k≤i then B3 xs i else 0
theorem XL(xs:List Int)(k:Nat):(yE xs k).length=xs.length+1:=by simp [yE]
theorem Uz(xs:List Int)(k:Nat){i:Nat}(h:i≤xs.length):ix (yE xs k) (i:Int)=some (if xs.length-k≤i then B3 xs i else 0):=by
 rw [de (show i<(yE xs k).length by rw [XL];omega)]
 simp [yE]
theorem KV(xs:List Int):(yz xs).length=xs.length:=by simp [yz]
theorem M0{xs:List Int}(h:∀x∈xs,0≤x∧x≤4000)(hl:xs.length≤120):Bd I8.e7 (yz xs) (List.replicate (xs.length+1) 0)=some (.inl (yE xs xs.length)):=by
 have h0:yE xs 0=List.replicate (xs.length+1) 0:=by
  apply List.ext_getElem
  ·simp [yE]
  ·intro i h1 h2
   simp only [yE,List.getElem_map,List.getElem_range,List.getElem_replicate]
   simp only [yE,kF,rC] at h1
   split
   ·have:i=xs.length:=by omega
    subst this
    unfold B3
    rw [mR (bt _)];rfl
   ·rfl
 have:=MZ (body:=I8.e7) (yz xs) (yE xs) (fun k hk=>by
  rw [KV] at hk
  have hi:xs.length-1-k<xs.length:=by omega
  have hs:=KU hi
  have b1:=Uy h hl (xs.length-1-k)
  have hg:xs[xs.length-1-k]?.getD 0=xs[xs.length-1-k]:=by rw [bM hi];rfl
  have e1:au (((xs.length-1-k:Nat):Int)+1)=((xs.length-1-k+1:Nat):Int):=by rw [bc (by omega) (by omega)];omega
  simp only [yz,List.getElem_map,List.getElem_range,I8.e7,hg,e1,Uz xs k (show xs.length-1-k+1≤xs.length by omega),Uz xs k (show xs.length-1-k≤xs.length by omega),ar]
  rw [ak (show xs.length-k≤xs.length-1-k+1 by omega),bc (by omega) (by omega)]
  congr 2
  apply List.ext_getElem
  ·simp [yE]
  ·intro i h1 h2
   simp only [yE,List.getElem_set,List.getElem_map,List.getElem_range,kd]
   by_cases e:xs.length-1-k=i
   ·subst e
    rw [ak rfl,ak (by omega)];omega
   ·rw [ax e]
    by_cases c:xs.length-k≤i
    ·rw [ak c,ak (by omega)]
    ·rw [ax c,ax (by omega)])
 rw [KV,h0] at this
 exact this
theorem Qh{f:ae}(hf:kw f){c:aQ}(hc:CL c){t:List ai}(ht:xf t):I8 f t c=some (yE (t.map (eP f c)) t.length):=by
 have hl:=ht.len
 have hx:∀x∈t.map (eP f c),0≤x∧x≤4000:=by
  intro x hx
  obtain⟨n,hn,rfl⟩:=dM.1 hx
  have:=ht.nt n hn
  exact Bq hf hc (by omega) (by omega)
 have hs:=M0 hx (by simpa using hl)
 have e:au ((t.length:Int)+1)=((t.length+1:Nat):Int):=by rw [bc (by omega) (by omega)];omega
 simp only [kF] at hs
 simp only [I8,e,IB hf hc ht,ar,kd,hs,kF,I8.qw]
 rw [ak (by omega),ak (by omega)]
theorem Qi{f:ae}(hf:kw f){c:aQ}(hc:CL c){t:List ai}(ht:xf t){i:Nat}(hi:i≤t.length):Hh f t c (i:Int)=some (B3 (t.map (eP f c)) i):=by
 have hl:=ht.len
 have hx:∀x∈t.map (eP f c),0≤x∧x≤4000:=by
  intro x hx
  obtain⟨n,hn,rfl⟩:=dM.1 hx
  have:=ht.nt n hn
  exact Bq hf hc (by omega) (by omega)
 have:=gB (f:=Hh.fY f t c) (t.length-i) (fun k=>(pu (((t.map (eP f c)).drop i).take k),((i+k:Nat):Int))) (B3 (t.map (eP f c)) i) (fun k hk=>by
  have Q0:i+k<t.length:=by omega
  have hn:=ht.nt _ (bT Q0)
  have hb:=IC (B:=4000) (((t.map (eP f c)).drop i).take (k+1)) (fun x hx'=>hx x (List.mem_of_mem_drop (List.mem_of_mem_take hx')))
  have hlen:(((t.map (eP f c)).drop i).take (k+1)).length≤120:=by rw [gl,iu,kF];omega
  have hkd:k<((t.map (eP f c)).drop i).length:=by rw [iu,kF];omega
  have hsn:pu (((t.map (eP f c)).drop i).take (k+1))=pu (((t.map (eP f c)).drop i).take k)+eP f c t[i+k]:=by
   rw [jt hkd,Ho]
   simp
  simp only [Hh.fY,de Q0,ar,Qg hf hc (show 0≤t[i+k].cd∧t[i+k].cd≤199 by omega) (show 0≤t[i+k].aD∧t[i+k].aD≤47 by omega)]
  rw [ak dT,←hsn,wI (pu _),wI (((i+k:Nat):Int)+1)]
  congr 3) (by
  simp only [Hh.fY]
  rw [ax dF,List.take_of_length_le (by rw [iu,kF];omega)]
  rfl)
 have h0:loop (Hh.fY f t c) (0,(i:Int))=some (B3 (t.map (eP f c)) i):=by simpa [pu] using this
 simp only [Hh,h0,ar,Hh.fk]
end Go.Proofs.YtplklknkkaeniaaGreat
namespace Go.Proofs.YtplklknkkaeniaaGreat
open Eng
set_option linter.unusedVariables false
set_option linter.unusedSimpArgs false
def mX{A:Type}(p:Nat→A→Option A)(k:Nat)(a:A):Nat→A⊕Nat
 | 0=> .inl a
 | m+1=>match p k a with
  | none=> .inr k
  | some a'=>mX p (k+1) a' m
theorem KW{A T:Type}{f:A×Int→Option ((A×Int)⊕T)}(n:Nat)(hn:n≤9223372036854775807)(I:A→Prop)(p:Nat→A→Option A)(bad:Nat→T)(abG:A→T)
  (h:∀k a,k<n→I a→f (a,(k:Int))=some (match p k a with | none=> .inr (bad k) | some a'=> .inl (a',au ((k:Int)+1)))∧∀a',p k a=some a'→I a')
  (he:∀a,I a→f (a,(n:Int))=some (.inr (abG a))) (a0:A) (h0:I a0):
  loop f (a0,0)=some (match mX p 0 a0 n with | .inl a=>abG a | .inr k=>bad k)∧(∀a,mX p 0 a0 n= .inl a→I a)∧(∀k,mX p 0 a0 n= .inr k→k<n):=by
 have key:∀m k a,k+m=n→I a→loop f (a,(k:Int))=some (match mX p k a m with | .inl a=>abG a | .inr k=>bad k)∧(∀a',mX p k a m= .inl a'→I a')∧(∀j,mX p k a m= .inr j→j<n):=by
  intro m
  induction m with
  | zero=>
   intro k a hk ha
   obtain rfl:k=n:=by omega
   refine⟨by rw [bH,he a ha];rfl,fun a' e=> ?_,fun j e=> ?_⟩
   ·simp only [mX] at e;cases e;exact ha
   ·simp only [mX] at e;cases e
  | succ m ih=>
   intro k a hk ha
   obtain⟨h1,h2⟩:=h k a (by omega) ha
   rw [wI ((k:Int)+1)] at h1
   cases hp:p k a with
   | none=>
    rw [hp] at h1
    simp only [mX,hp]
    refine⟨by rw [bH,h1],fun a' e=>(by cases e),fun j e=>(by cases e;omega)⟩
   | some a'=>
    rw [hp] at h1
    have:=ih (k+1) a' (by omega) (h2 a' hp)
    simp only [mX,hp]
    refine⟨?_,this.2.1,this.2.2⟩
    rw [bH,h1]
    exact this.1
 exact key n 0 a0 (by omega) h0
def jn(P:Nat→Bool)(r:Nat):Bool:=(List.range r).all fun i=>decide (i=0) || !(P i)
theorem jG(P:Nat→Bool)(r:Nat):jn P r=true↔∀i,1≤i→i<r→P i=false:=by
 unfold jn
 rw [gP]
 constructor
 ·intro h i h1 h2
  have:=h i (by simpa using h2)
  simp only [ke,bC,kA] at this
  rcases this with h | h
  ·omega
  ·exact h
 ·intro h i hi
  simp only [ke,bC,kA]
  by_cases h0:i=0
  ·exact .inl h0
  ·exact .inr (h i (by omega) (by simpa using hi))
def zN(f:ae)(d:av 96 Int)(s t i:Nat):Bool:=fF d ((s+i)%f.ag.toNat) t
def VU(f:ae)(d:av 96 Int)(s t i:Nat):Bool:=fF d ((s+f.ag.toNat-i)%f.ag.toNat) t
def gX(f:ae)(t:Nat):Nat:=((f.aa[t]?.map bq.fg).getD 0).toNat
def od(f:ae)(d:av 96 Int)(s t:Nat):Bool:= !(fF d s t)&&(jn (zN f d s t) (gX f t)&&jn (VU f d s t) (gX f t))
theorem xO{f:ae}(hf:kw f){d:av 96 Int}(hd:gM d){s t:Nat}(way:Int)(q:Nat→Nat)(ht:t≤32)
  (hq:∀i:Nat,1≤i→i<f.ag.toNat→Int.tmod (au (au ((s:Int)+au (way*(i:Int)))+au f.ag)) (au f.ag)=(q i:Int)∧q i<96) {r:Nat} (hr:r≤f.ag.toNat):
  ∃b:Int,FV f d (s:Int) (t:Int) way=some b∧(decide (b≥(r:Int))=jn (fun i=>fF d (q i) t) r):=by
 have xD:=hf.s0;have rk:=hf.s1
 have e:au f.ag=(f.ag.toNat:Int):=by rw [bc (by omega) (by omega)];omega
 have key:∀b:Nat,1≤b→b≤f.ag.toNat→(∀i,1≤i→i<b→fF d (q i) t=false)→(b<f.ag.toNat→fF d (q b) t=true)→decide ((b:Int)≥(r:Int))=jn (fun i=>fF d (q i) t) r:=by
  intro b h1 h2 h3 h4
  rw [iY,jG,bC]
  constructor
  ·intro h i hi hir
   exact h3 i hi (by omega)
  ·intro h
   by_cases hb:b<f.ag.toNat
   ·have hp:=h4 hb
    by_cases hbr:b<r
    ·have:=h b h1 hbr
     rw [hp] at this;cases this
    ·omega
   ·omega
 obtain⟨x,hx,hq2⟩:=gA (f:=FV.e7 f d (s:Int) (t:Int) way) (fun x=>∃k:Nat,1≤k∧k≤f.ag.toNat∧x=(k:Int)∧∀i,1≤i→i<k→fF d (q i) t=false) (fun x=>f.ag.toNat-x.toNat)
  (fun x=>(∃k:Nat,x= .inl (k:Int)∧1≤k∧k<f.ag.toNat∧(∀i,1≤i→i<k→fF d (q i) t=false)∧fF d (q k) t=true)∨(x= .inr ()∧∀i,1≤i→i<f.ag.toNat→fF d (q i) t=false)) (by
  rintro _ ⟨k,h1,h2,rfl,h3⟩
  by_cases hk:k<f.ag.toNat
  ·obtain⟨hq1,hq2⟩:=hq k h1 hk
   simp only [FV.e7,hq1,vg hd hq2 ht,ar]
   rw [ak (by rw [e,bC];omega),ak (by rw [e];omega)]
   cases hp:fF d (q k) t with
   | true=>
    right
    exact⟨_,by simp, .inl ⟨k,rfl,h1,hk,h3,hp⟩⟩
   | false=>
    left
    refine⟨((k+1:Nat):Int),by rw [wI ((k:Int)+1)];simp,⟨k+1,by omega,by omega,rfl,fun i hi hik=> ?_⟩,by omega⟩
    by_cases UA:i=k
    ·rw [UA];exact hp
    ·exact h3 i hi (by omega)
  ·right
   simp only [FV.e7]
   rw [ax (by rw [e,bC];omega)]
   exact⟨_,rfl, .inr ⟨rfl,fun i hi ku=>h3 i hi (by omega)⟩⟩) 1 ⟨1,by omega,by omega,rfl,fun i h1 h2=>by omega⟩
 simp only [FV,hx,ar]
 rcases hq2 with⟨k,rfl,h1,h2,h3,h4⟩ | ⟨rfl,h3⟩
 ·exact⟨_,rfl,key k h1 (by omega) h3 (fun _=>h4)⟩
 ·refine⟨_,by simp only [FV.iQ];rw [e],key f.ag.toNat (by omega) (by omega) h3 (fun h=>by omega)⟩
theorem UB{f:ae}(hf:kw f){s i:Nat}(hs:s<96)(hi:i<96):Int.tmod (au ((s:Int)+(i:Int))) (au f.ag)=(((s+i)%f.ag.toNat:Nat):Int)∧(s+i)%f.ag.toNat<96:=by
 have xD:=hf.s0;have rk:=hf.s1
 have e:au f.ag=(f.ag.toNat:Int):=by rw [bc (by omega) (by omega)];omega
 have:=Nat.mod_lt (s+i) (show 0<f.ag.toNat by omega)
 rw [wI ((s:Int)+(i:Int)),e,show (s:Int)+(i:Int)=((s+i:Nat):Int) by omega,sH]
 exact⟨rfl,by omega⟩
theorem abH{f:ae}(hf:kw f){s i:Nat}(hs:s<96)(hi:i≤f.ag.toNat):Int.tmod (au (au ((s:Int)+au f.ag)-(i:Int))) (au f.ag)=(((s+f.ag.toNat-i)%f.ag.toNat:Nat):Int)∧(s+f.ag.toNat-i)%f.ag.toNat<96:=by
 have xD:=hf.s0;have rk:=hf.s1
 have e:au f.ag=(f.ag.toNat:Int):=by rw [bc (by omega) (by omega)];omega
 have:=Nat.mod_lt (s+f.ag.toNat-i) (show 0<f.ag.toNat by omega)
 rw [e,wI ((s:Int)+(f.ag.toNat:Int)),wI ((s:Int)+(f.ag.toNat:Int)-(i:Int)),show (s:Int)+(f.ag.toNat:Int)-(i:Int)=((s+f.ag.toNat-i:Nat):Int) by omega,sH]
 exact⟨rfl,by omega⟩
theorem zt{f:ae}(hf:kw f){t:Nat}(ht:t<f.aa.length):ix f.aa (t:Int)=some f.aa[t]∧au f.aa[t].fg=(gX f t:Int)∧1≤gX f t∧gX f t≤20∧gX f t≤f.ag.toNat:=by
 have h:=hf.hp _ (bT ht)
 have xD:=hf.s0
 have e:gX f t=f.aa[t].fg.toNat:=by unfold gX;rw [bM ht];rfl
 refine⟨de ht,?_,by omega,by omega,by omega⟩
 rw [bc (by omega) (by omega),e];omega
theorem Hp{f:ae}(hf:kw f){d:av 96 Int}(hd:gM d){s t:Nat}(hs:(s:Int)<f.ag)(ht:t<f.aa.length):Wq f d (s:Int) (t:Int)=some (od f d s t):=by
 have xD:=hf.s0;have rk:=hf.s1;have xN:=hf.h1
 obtain⟨h1,h2,h3,h4,h5⟩:=zt hf ht
 have e:au f.ag=(f.ag.toNat:Int):=by rw [bc (by omega) (by omega)];omega
 obtain⟨b1,Lz,c1⟩:=xO hf hd (s:=s) (t:=t) 1 (fun i=>(s+i)%f.ag.toNat) (by omega) (fun i hi0 hi=>by
  have:=Nat.mod_lt (s+i) (show 0<f.ag.toNat by omega)
  rw [e,wI (1*(i:Int)),wI ((s:Int)+1*(i:Int)),wI ((s:Int)+1*(i:Int)+(f.ag.toNat:Int)),show (s:Int)+1*(i:Int)+(f.ag.toNat:Int)=((s+i+f.ag.toNat:Nat):Int) by omega,sH,ub]
  exact⟨rfl,by omega⟩) h5
 obtain⟨b2,GK,c2⟩:=xO hf hd (s:=s) (t:=t) (-1) (fun i=>(s+f.ag.toNat-i)%f.ag.toNat) (by omega) (fun i hi0 hi=>by
  have:=Nat.mod_lt (s+f.ag.toNat-i) (show 0<f.ag.toNat by omega)
  rw [e,wI (-1*(i:Int)),wI ((s:Int)+-1*(i:Int)),wI ((s:Int)+-1*(i:Int)+(f.ag.toNat:Int)),show (s:Int)+-1*(i:Int)+(f.ag.toNat:Int)=((s+f.ag.toNat-i:Nat):Int) by omega,sH]
  exact⟨rfl,by omega⟩) h5
 simp only [Wq,h1,ar,vg hd (show s<96 by omega) (show t≤32 by omega),h2,Lz,GK,c1,c2,od]
 have eF:jn (fun i=>fF d ((s+i)%f.ag.toNat) t) (gX f t)=jn (zN f d s t) (gX f t):=rfl
 have eB:jn (fun i=>fF d ((s+f.ag.toNat-i)%f.ag.toNat) t) (gX f t)=jn (VU f d s t) (gX f t):=rfl
 rw [eF,eB]
 cases fF d s t<;>cases jn (zN f d s t) (gX f t)<;>simp
theorem zu{f:ae}(hf:kw f){d:av 96 Int}(hd:gM d){s t:Nat}(hs:(s:Int)<f.ag)(ht:t<f.aa.length):F2 f d (s:Int) (t:Int)=some (od f d s t):=by
 have xD:=hf.s0;have rk:=hf.s1;have xN:=hf.h1
 obtain⟨h1,h2,h3,h4,h5⟩:=zt hf ht
 have e:au f.ag=(f.ag.toNat:Int):=by rw [bc (by omega) (by omega)];omega
 simp only [F2,Bn hd (show s<96 by omega) (show t≤32 by omega),ar,h1,od]
 cases fF d s t with
 | true=>simp
 | false=>
  obtain⟨x,hx,hq⟩:=gA (f:=F2.fY f d (s:Int) (t:Int) f.aa[t]) (fun x=>∃k:Nat,1≤k∧k≤gX f t∧x=(k:Int)∧∀i,1≤i→i<k→zN f d s t i=false∧VU f d s t i=false) (fun x=>gX f t-x.toNat)
   (fun x=>(x= .inl false∧¬(jn (zN f d s t) (gX f t)=true∧jn (VU f d s t) (gX f t)=true))∨(x= .inr ()∧(jn (zN f d s t) (gX f t)=true∧jn (VU f d s t) (gX f t)=true))) (by
   rintro _ ⟨k,k1,k2,rfl,k3⟩
   simp only [jG]
   by_cases hk:k<gX f t
   ·obtain⟨q1,q2⟩:=UB hf (show s<96 by omega) (show k<96 by omega)
    obtain⟨q3,q4⟩:=abH hf (show s<96 by omega) (show k≤f.ag.toNat by omega)
    have hz:au f.ag≠0:=by rw [e];omega
    have step:F2.fY f d (s:Int) (t:Int) f.aa[t] (k:Int)=(if zN f d s t k=true then some (.inr (.inl false)) else if VU f d s t k=true then some (.inr (.inl false)) else some (.inl (au ((k:Int)+1)))):=by
     simp only [F2.fY,h2,q1,q3,Bn hd q2 (show t≤32 by omega),Bn hd q4 (show t≤32 by omega),ar,F2.u6]
     rw [ak dT,ak hz]
     unfold zN VU
     cases fF d ((s+k)%f.ag.toNat) t
     ·simp only [cM,bU]
      rw [ak hz]
     ·simp
    rw [step]
    cases hF:zN f d s t k with
    | true=>
     right
     exact⟨_,by simp, .inl ⟨rfl,fun h=>by have:=h.1 k k1 hk;rw [hF] at this;cases this⟩⟩
    | false=>
     cases hB:VU f d s t k with
     | true=>
      right
      exact⟨_,by simp, .inl ⟨rfl,fun h=>by have:=h.2 k k1 hk;rw [hB] at this;cases this⟩⟩
     | false=>
      left
      refine⟨((k+1:Nat):Int),by rw [wI ((k:Int)+1)];simp,⟨k+1,by omega,by omega,rfl,fun i hi hik=> ?_⟩,by omega⟩
      by_cases UA:i=k
      ·rw [UA];exact⟨hF,hB⟩
      ·exact k3 i hi (by omega)
   ·right
    simp only [F2.fY,h2]
    rw [ax dF]
    exact⟨_,rfl, .inr ⟨rfl,fun i hi hir=>(k3 i hi (by omega)).1,fun i hi hir=>(k3 i hi (by omega)).2⟩⟩) 1 ⟨1,by omega,by omega,rfl,fun i a b=>by omega⟩
  rw [hx]
  simp only [cM,bU,ar]
  rcases hq with⟨rfl,hn⟩ | ⟨rfl,hy⟩
  ·simp only [oF,mS]
   congr 1
   symm
   rw [Bool.and_eq_false_iff,←kC,←kC]
   by_cases ha:jn (zN f d s t) (gX f t)=true
   ·exact .inr fun hb=>hn ⟨ha,hb⟩
   ·exact .inl ha
  ·simp [hy.1,hy.2,F2.nS]
def VV(x y:ab):Bool:=(x.bJ==y.bJ)&&((x.cP==y.cP)&&((x.ba==y.ba)&&(x.eU==y.eU)))
theorem CM(x y:ab):VV x y=true↔x=y:=by
 obtain⟨a,b,c,d⟩:=x
 obtain⟨a',b',c',d'⟩:=y
 simp [VV]
theorem UC(x y:ab):VV x y=VV y x:=by
 rw [iY,CM,CM,eq_comm]
theorem OR(xs:List ab)(x:ab):xs.any (fun y=>VV x y)=decide (x∈xs):=by
 rw [iY,r6,bC]
 constructor
 ·rintro⟨y,hy,h⟩
  rw [(CM x y).1 h];exact hy
 ·intro h
  exact⟨x,h,(CM x x).2 rfl⟩
theorem KX(xs:List ab)(x:ab)(h:xs.length≤9223372036854775807):Fa1 xs x=some (decide (x∈xs)):=by
 obtain⟨t,ht,hq⟩:=uK (f:=F7.e7 xs x) xs (fun y=>VV x y) h (fun k hk=>by
  simp only [F7.e7,de hk,ar]
  rw [ak (by simpa using hk)]
  show (if VV x xs[k]=true then _ else _)=_
  by_cases he:VV x xs[k]=true
  ·rw [ak he,ak he]
  ·rw [ax he,ax he]) (by simp [F7.e7])
 simp only [Fa1,F7,ht,ar]
 rw [←OR]
 rcases hq with⟨qj,k,rfl,_⟩ | ⟨qj,rfl⟩
 ·rw [qj];simp
 ·rw [qj];simp [F7.iQ]
theorem ID(list:List ab)(i:Nat)(hi:i<list.length)(xs:List ab)(h:xs.length≤9223372036854775807):loop (FM.PX list (i:Int) xs) (false,0)=some (decide (list[i]∈xs)):=by
 obtain⟨t,ht,rfl⟩:=qV (f:=FM.PX list (i:Int) xs) xs.length h (fun k b=>b=(xs.take k).any (fun y=>VV list[i] y)) (fun t=>t=decide (list[i]∈xs))
  (fun k b hk hb=> .inl ⟨(xs.take (k+1)).any (fun y=>VV list[i] y),by
   simp only [FM.PX,de hk,de hi,ar]
   rw [ak (by simpa using hk),jt hk,List.any_append,←hb]
   cases b with
   | true=>simp
   | false=>
    simp only [cM,bU,Bool.false_or,List.any_cons,List.any_nil,Bool.or_false]
    rw [UC]
    rfl,rfl⟩)
  (fun b hb=>⟨b,by simp [FM.PX],by rw [hb,oJ,OR]⟩) false (by simp)
 exact ht
structure Place (f:ae) (n:ai) (x:ab) (s t:Nat):Prop where
 hs:(s:Int)<f.ag
 ht:t<f.aa.length
 at_:au (au n.cd+au x.cP)=(s:Int)
 tr:au x.eU=(t:Int)
 tr':x.eU=(t:Int)
theorem xi{f:ae}(hf:kw f){n:ai}(ha:0≤n.cd∧n.cd≤199)(hp:0≤n.aD∧n.aD≤47){x:ab}(hx:x∈bR f n)(hw:x.bJ=false):Place f n x (n.cd+x.cP).toNat x.eU.toNat:=by
 have rk:=hf.s1
 have xN:=hf.h1
 rcases(zr hf ha hp x).1 hx with rfl | ⟨_,⟨a1,a2⟩,_,⟨b1,b2⟩,k,hk,ht,_⟩
 ·cases hw
 ·refine⟨by omega,by omega,?_,?_,by omega⟩
  ·rw [wI n.cd,wI x.cP,bc (by omega) (by omega)];omega
  ·rw [bc (by omega) (by omega)];omega
def jr(d:av 96 Int)(s t:Nat):av 96 Int:=d.set (s:Int) (wC .u32 (ir d s:Int) (fo .u32 1 (t:Int)))
def mY(f:ae)(n:ai)(x:ab)(d:av 96 Int):Option (av 96 Int):=
 if x.bJ=true then some d else if od f d (n.cd+x.cP).toNat x.eU.toNat=true then some (jr d (n.cd+x.cP).toNat x.eU.toNat) else none
theorem sM{d:av 96 Int}(hd:gM d){s t:Nat}(hs:s<96)(ht:t<32):gM (jr d s t):=(Ix hd hs ht).1
theorem IE{f:ae}(hf:kw f){n:ai}(ha:0≤n.cd∧n.cd≤199)(hp:0≤n.aD∧n.aD≤47){x:ab}(hx:x∈bR f n){d:av 96 Int}(hd:gM d){d':av 96 Int}(h:mY f n x d=some d'):gM d':=by
 unfold mY at h
 have rk:=hf.s1;have xN:=hf.h1
 cases hw:x.bJ with
 | true=>rw [hw] at h;simp at h;exact h▸hd
 | false=>
  have pl:=xi hf ha hp hx hw
  have h1:=pl.hs;have h2:=pl.ht
  rw [hw] at h
  simp only [cM,bU] at h
  split at h
  ·cases h;exact sM hd (by omega) (by omega)
  ·cases h
theorem IF{d:av 96 Int}(hd:gM d){s t:Nat}(hs:s<96)(ht:t<32):QU d (s:Int) (t:Int) true=some (jr d s t):=by
 obtain⟨d',h1,h2,h3⟩:=abE hd hs ht
 obtain⟨h4,h5⟩:=Ix hd hs ht
 rw [h1]
 congr 1
 refine Iw h2 h4 fun a b _ _=> ?_
 rw [h3,show fF (jr d s t) a b=_ from h5 a b]
theorem xP{f:ae}(hf:kw f){n:ai}(ha:0≤n.cd∧n.cd≤199)(hp:0≤n.aD∧n.aD≤47){x:ab}(hx:x∈bR f n){d:av 96 Int}(hd:gM d):
  TI f d n x=some (match mY f n x d with | some d'=>(true,d') | none=>(false,d)):=by
 have rk:=hf.s1;have xN:=hf.h1
 simp only [TI,mY]
 cases hw:x.bJ with
 | true=>simp
 | false=>
  have pl:=xi hf ha hp hx hw
  have h1:=pl.hs;have h2:=pl.ht
  simp only [pl.at_,pl.tr,zu hf hd pl.hs pl.ht,ar,cM,bU]
  cases od f d (n.cd+x.cP).toNat x.eU.toNat with
  | false=>simp
  | true=>
   simp only [jv,cM,bU,cp,lv hd (show (n.cd+x.cP).toNat<96 by omega),ar]
   have e:u64 x.eU=((x.eU.toNat:Nat):Int):=by
    have:=pl.tr'
    rw [u64_in (by omega) (by omega)];omega
   rw [e,ak (by omega)]
   rfl
theorem Br{f:ae}(hf:kw f){n:ai}(ha:0≤n.cd∧n.cd≤199)(hp:0≤n.aD∧n.aD≤47){x:ab}(hx:x∈bR f n){d:av 96 Int}(hd:gM d):
  Xl f d n x=some (mY f n x d).isSome:=by
 simp only [Xl,mY]
 cases hw:x.bJ with
 | true=>simp
 | false=>
  have pl:=xi hf ha hp hx hw
  simp only [pl.at_,pl.tr,Hp hf hd pl.hs pl.ht,ar,cM,bU]
  cases od f d (n.cd+x.cP).toNat x.eU.toNat<;>simp
theorem IG{f:ae}(hf:kw f){n:ai}(ha:0≤n.cd∧n.cd≤199)(hp:0≤n.aD∧n.aD≤47){x:ab}(hx:x∈bR f n){d:av 96 Int}(hd:gM d){d':av 96 Int}(h:mY f n x d=some d'):
  Xm d n x=some d':=by
 have rk:=hf.s1;have xN:=hf.h1
 unfold mY at h
 simp only [Xm]
 cases hw:x.bJ with
 | true=>rw [hw] at h;simp at h;simp [h]
 | false=>
  have pl:=xi hf ha hp hx hw
  have h1:=pl.hs;have h2:=pl.ht
  rw [hw] at h
  simp only [cM,bU] at h
  simp only [oF,cp,pl.at_,pl.tr,IF hd (show (n.cd+x.cP).toNat<96 by omega) (show x.eU.toNat<32 by omega),ar]
  split at h
  ·exact h
  ·cases h
def pv(f:ae)(t:List ai)(list:List ab)(k:Nat)(d:av 96 Int):Option (av 96 Int):=match t[k]?,list[k]? with
 | some n,some x=>if x∈bR f n then mY f n x d else none
 | _,_=>none
def Cw(f:ae)(t:List ai)(list:List ab):av 96 Int⊕Nat:=mX (pv f t list) 0 (av.dC 96 0) t.length
theorem OS{f:ae}(hf:kw f){t:List ai}(ht:xf t){list:List ab}{k:Nat}(hk:k<t.length){d:av 96 Int}(hd:gM d){d':av 96 Int}(h:pv f t list k d=some d'):gM d':=by
 unfold pv at h
 rw [bM hk] at h
 have hn:=ht.nt _ (bT hk)
 cases hx:list[k]? with
 | none=>rw [hx] at h;cases h
 | some x=>
  rw [hx] at h
  simp only at h
  split at h
  ·rename_i hm
   exact IE hf (by omega) (by omega) hm hd h
  ·cases h
theorem XM{f:ae}(hf:kw f){t:List ai}(ht:xf t){list:List ab}(hl:list.length=t.length):
  FZ f t list=some (match Cw f t list with | .inl d=>(d,(list.length:Int)) | .inr k=>(av.dC 96 0,(k:Int))):=by
 have v8:=ht.len
 obtain⟨h1,_,_⟩:=KW (f:=FZ.fY f t list) t.length (by omega) gM (pv f t list) (fun k=>(.inl (av.dC 96 0,(k:Int)):(av 96 Int×Int)⊕av 96 Int)) (fun d=> .inr d)
  (fun k d hk hd=>⟨by
   have Mt:k<list.length:=by omega
   have hn:=ht.nt _ (bT hk)
   simp only [FZ.fY,de Mt,de hk,ar,zq hf (show 0≤t[k].aD by omega) (show t[k].aD≤47 by omega),KX _ _ (show (bR f t[k]).length≤9223372036854775807 by have:=nN f t[k] hf.h1;omega)]
   rw [ak (by simpa using Mt)]
   unfold pv
   rw [bM hk,bM Mt]
   simp only
   by_cases hm:list[k]∈bR f t[k]
   ·rw [ak hm]
    simp only [decide_eq_true hm,jv,cM,bU,Br hf (show 0≤t[k].cd∧t[k].cd≤199 by omega) (by omega) hm hd,ar,FZ.og]
    cases hp:mY f t[k] list[k] d with
    | none=>simp
    | some d'=>simp [de hk,IG hf (show 0≤t[k].cd∧t[k].cd≤199 by omega) (by omega) hm hd hp]
   ·rw [ax hm]
    simp [decide_eq_false hm,FZ.og],fun d' h=>OS hf ht hk hd h⟩)
  (fun d hd=>by simp [FZ.fY,hl]) _ lZ
 simp only [FZ,h1,ar,Cw]
 cases mX (pv f t list) 0 (av.dC 96 0) t.length<;>simp [FZ.fk]
theorem Qj{f:ae}(hf:kw f){t:List ai}(ht:xf t){list:List ab}(hl:list.length=t.length):
  FM f t list=some (match Cw f t list with | .inl d=>(d,-1) | .inr k=>(av.dC 96 0,(k:Int))):=by
 have v8:=ht.len
 obtain⟨h1,_,_⟩:=KW (f:=FM.fY f t list) t.length (by omega) gM (pv f t list) (fun k=>(.inl (av.dC 96 0,(k:Int)):(av 96 Int×Int)⊕av 96 Int)) (fun d=> .inr d)
  (fun k d hk hd=>⟨by
   have Mt:k<list.length:=by omega
   have hn:=ht.nt _ (bT hk)
   simp only [FM.fY,de hk,ar,xM hf,ID list k Mt _ (show (bR f t[k]).length≤9223372036854775807 by have:=nN f t[k] hf.h1;omega)]
   rw [ak (by simpa using hk)]
   unfold pv
   rw [bM hk,bM Mt]
   simp only
   by_cases hm:list[k]∈bR f t[k]
   ·rw [ak hm]
    simp only [decide_eq_true hm,FM.s_,jv,cM,bU,de hk,de Mt,xP hf (show 0≤t[k].cd∧t[k].cd≤199 by omega) (show 0≤t[k].aD∧t[k].aD≤47 by omega) hm hd,ar]
    cases hp:mY f t[k] list[k] d with
    | none=>simp [FM.nJ]
    | some d'=>simp [FM.nJ]
   ·rw [ax hm]
    simp [decide_eq_false hm,FM.s_,FM.nJ],fun d' h=>OS hf ht hk hd h⟩)
  (fun d hd=>by simp [FM.fY]) _ lZ
 simp only [FM,h1,ar,Cw]
 cases mX (pv f t list) 0 (av.dC 96 0) t.length<;>simp [FM.fk]
theorem XN{f:ae}(hf:kw f){t:List ai}(ht:xf t){list:List ab}{k:Nat}(h:Cw f t list= .inr k):k<t.length:=by
 have key:∀m k d j,mX (pv f t list) k d m= .inr j→j<k+m:=by
  intro m
  induction m with
  | zero=>intro k d j e;simp [mX] at e
  | succ m ih=>
   intro k d j e
   simp only [mX] at e
   split at e
   ·cases e;omega
   ·have:=ih _ _ _ e;omega
 have:=key _ _ _ _ h
 omega
def hP(x:ab):Bool:=if x.bJ=true then(x.cP==0)&&((x.ba==0)&&(x.eU==0)) else(decide (au x.cP≥-3)&&decide (au x.cP≤3))&&((decide (au x.ba≥-1)&&decide (au x.ba≤1))&&(decide (au x.eU≥0)&&decide (au x.eU≤23)))
theorem IH(x:ab):FbQ x=some (hP x):=by
 unfold FbQ hP
 cases h:x.bJ with
 | true=>simp
 | false=>
  simp only [FD,ar,cM,bU]
  cases (decide (au x.cP≥-3)&&decide (au x.cP≤3))<;>cases (decide (au x.ba≥-1)&&decide (au x.ba≤1))<;>simp
theorem EB(x:ab):Fbz x=some (hP x):=by
 unfold Fbz hP
 cases h:x.bJ with
 | true=>simp
 | false=>
  simp only [FB,ar,cM,bU]
  cases (decide (au x.cP≥-3)&&decide (au x.cP≤3))<;>cases (decide (au x.ba≥-1)&&decide (au x.ba≤1))<;>simp
theorem Gs(list:List ab)(h:list.length≤9223372036854775807):I9 list=some (list.all hP):=by
 simp only [I9]
 rw [Ep (f:=I9.e7 list) list hP h (fun k hk=>by
  simp only [I9.e7,de hk,ar,IH]
  rw [ak (by simpa using hk)]
  cases hP list[k]<;>simp) (by simp [I9.e7])]
 cases list.all hP<;>simp [I9.iQ]
theorem sN(list:List ab)(h:list.length≤9223372036854775807):SY list=some (if list.all hP=true then 0 else 1):=by
 obtain⟨t,ht,hq⟩:=uK (f:=Fi.e7 list) list (fun x=> !(hP x)) h (fun k hk=>by
  simp only [Fi.e7,de hk,ar,FbC,EB]
  rw [ak (by simpa using hk)]
  cases hP list[k]<;>simp) (by simp [Fi.e7])
 simp only [SY,F3,Fi,ht,ar,ii]
 rcases hq with⟨qj,k,rfl,_⟩ | ⟨qj,rfl⟩
 ·rw [xK] at qj
  have:list.all hP=false:=by simpa using qj
  rw [this];simp
 ·rw [xK] at qj
  have:list.all hP=true:=by simpa using qj
  rw [this];simp [Fi.iQ]
theorem Qk(a b:Int):Fe [a,b]=some (if a≠0 then a else b):=by
 simp only [Fe]
 rw [bH]
 by_cases ha:a=0
 ·rw [show Fe.e7 [a,b] 0=some (.inl 1) by simp [Fe.e7,ix,ha,bc]]
  simp only
  rw [bH]
  by_cases hb:b=0
  ·rw [show Fe.e7 [a,b] 1=some (.inl 2) by simp [Fe.e7,ix,hb,bc]]
   simp only
   rw [bH,show Fe.e7 [a,b] 2=some (.inr (.inr ())) by simp [Fe.e7]]
   simp [ha,hb,Fe.iQ]
  ·rw [show Fe.e7 [a,b] 1=some (.inr (.inl b)) by simp [Fe.e7,ix,hb]]
   simp [ha]
 ·rw [show Fe.e7 [a,b] 0=some (.inr (.inl a)) by simp [Fe.e7,ix,ha]]
  simp [ha]
theorem abI(a b c:Int):Fe [a,b,c]=some (if a≠0 then a else if b≠0 then b else c):=by
 simp only [Fe]
 rw [bH]
 by_cases ha:a=0
 ·rw [show Fe.e7 [a,b,c] 0=some (.inl 1) by simp [Fe.e7,ix,ha,bc]]
  simp only
  rw [bH]
  by_cases hb:b=0
  ·rw [show Fe.e7 [a,b,c] 1=some (.inl 2) by simp [Fe.e7,ix,hb,bc]]
   simp only
   rw [bH]
   by_cases hc:c=0
   ·rw [show Fe.e7 [a,b,c] 2=some (.inl 3) by simp [Fe.e7,ix,hc,bc]]
    simp only
    rw [bH,show Fe.e7 [a,b,c] 3=some (.inr (.inr ())) by simp [Fe.e7]]
    simp [ha,hb,hc,Fe.iQ]
   ·rw [show Fe.e7 [a,b,c] 2=some (.inr (.inl c)) by simp [Fe.e7,ix,hc]]
    simp [ha,hb]
  ·rw [show Fe.e7 [a,b,c] 1=some (.inr (.inl b)) by simp [Fe.e7,ix,hb]]
   simp [ha,hb]
 ·rw [show Fe.e7 [a,b,c] 0=some (.inr (.inl a)) by simp [Fe.e7,ix,ha]]
  simp [ha]
theorem Bt{f:ae}(hl:f.aa.length≤9223372036854775807){t:List ai}(ht:t.length≤9223372036854775807)(hn:∀n∈t,AG n){list:List ab}(hc:list.length≤9223372036854775807):
  VS f t list=some (if fO f=true∧iM t=true∧list.all hP=true then 0 else 1):=by
 simp only [VS,tM f hl,ar,ii,uN ht hn,sN list hc,abI]
 cases fO f<;>cases iM t<;>cases list.all hP<;>simp
def l6(f:ae)(t:List ai)(list:List ab):Int:=if fO f=true∧iM t=true∧list.all hP=true then(if list.length=t.length then 0 else 2) else 1
theorem KY{f:ae}(hl:f.aa.length≤9223372036854775807){t:List ai}(ht:t.length≤9223372036854775807)(hn:∀n∈t,AG n){list:List ab}(hc:list.length≤9223372036854775807):
  OJ f t list=some (l6 f t list):=by
 simp only [OJ,n5 f hl,ar,xe ht hn,Gs list hc,OJ.fk,l6]
 by_cases e:list.length=t.length
 ·rw [e]
  cases fO f<;>cases iM t<;>cases list.all hP<;>simp
 ·have e2:¬((list.length:Int)=(t.length:Int)):=by omega
  cases fO f<;>cases iM t<;>cases list.all hP<;>simp [e,e2]
theorem M1{f:ae}{t:List ai}{list:List ab}(h:l6 f t list=0):fO f=true∧iM t=true∧list.length=t.length:=by
 unfold l6 at h
 split at h
 ·rename_i hc
  split at h
  ·rename_i hl;exact⟨hc.1,hc.2.1,hl⟩
  ·cases h
 ·cases h
theorem Bu{f:ae}(hi:vE f)(hl:f.aa.length≤9223372036854775807){t:List ai}(ht:t.length≤9223372036854775807)(hn:∀n∈t,AG n){list:List ab}(hc:list.length≤9223372036854775807):
  Xs f t list=some (if l6 f t list=0 then(match Cw f t list with | .inl d=>(d,(t.length:Int),0) | .inr k=>(av.dC 96 0,(k:Int),4)) else(av.dC 96 0,0,l6 f t list)):=by
 simp only [Xs,Bt hl ht hn hc,ar,ii,Qk]
 have e:(if((if fO f=true∧iM t=true∧list.all hP=true then 0 else 1):Int)≠0 then(if fO f=true∧iM t=true∧list.all hP=true then(0:Int) else 1) else(if((list.length:Int)==(t.length:Int))=true then 0 else 2))=l6 f t list:=by
  unfold l6
  by_cases c:fO f=true∧iM t=true∧list.all hP=true
  ·simp only [ak c]
   by_cases c2:list.length=t.length
   ·rw [ak c2];simp [c2]
   ·rw [ax c2];simp;omega
  ·simp only [ax c];simp
 rw [e]
 by_cases h0:l6 f t list=0
 ·obtain⟨a1,a2,a3⟩:=M1 h0
  have hf:=jA a1 hi
  have I6:=lx a2
  rw [ak h0,h0,ax (by simp)]
  simp only [XM hf I6 a3,ar]
  cases hv:Cw f t list with
  | inl d=>simp [a3]
  | inr k=>
   have:=XN hf I6 hv
   simp
   omega
 ·rw [ax h0,ak (by simpa using h0)]
theorem abJ{f:ae}{t:List ai}{list:List ab}(h0:¬l6 f t list=0)(h1:¬l6 f t list=1):l6 f t list=2:=by
 unfold l6 at h0 h1⊢
 by_cases c:fO f=true∧iM t=true∧list.all hP=true
 ·rw [ak c] at h0 h1⊢
  by_cases c2:list.length=t.length
  ·rw [ak c2] at h0;exact absurd rfl h0
  ·rw [ax c2]
 ·rw [ax c] at h1;exact absurd rfl h1
end Go.Proofs.YtplklknkkaeniaaGreat
namespace Go.Proofs.YtplklknkkaeniaaGreat
open Eng
set_option linter.unusedVariables false
set_option linter.unusedSimpArgs false
def np(f:ae)(d:av 96 Int)(s t:Nat):List ai:=if fF d s t=true then((f.aa[t]?).map fun h=>(⟨(s:Int),h.aD⟩:ai)).toList else []
theorem UD(f:ae)(d:av 96 Int)(s t:Nat):(np f d s t).length≤1:=by
 unfold np
 split
 ·cases f.aa[t]?<;>simp
 ·simp
def nr(f:ae)(d:av 96 Int)(s:Nat):List ai:=(List.range f.aa.length).flatMap (np f d s)
theorem UE(f:ae)(d:av 96 Int)(s:Nat):(nr f d s).length≤f.aa.length*1:=nG _ _ _ fun k _=>UD f d s k
def pw(f:ae)(d:av 96 Int):List ai:=(List.range f.ag.toNat).flatMap (nr f d)
theorem EC{f:ae}(hf:kw f)(d:av 96 Int):(pw f d).length≤2304:=by
 have h1:=hf.h1;have h2:=hf.s1;have h3:=hf.s0
 have:=nG f.ag.toNat 24 (nr f d) (fun k _=>by have:=UE f d k;omega)
 unfold pw
 omega
theorem abK{f:ae}(hf:kw f){d:av 96 Int}(hd:gM d)(s:Nat)(hs:(s:Int)<f.ag)(xs:List ai)(hx:xs.length≤4000):
  loop (Ff.jX d 0 (au f.ag) f (s:Int) (f.aa.length:Int)) (xs,0)=some (xs++nr f d s):=by
 have h1:=hf.h1;have h2:=hf.s1;have h3:=hf.s0
 refine iL f.aa.length 1 (by omega) (np f d s) xs (fun k _=>UD f d s k) (fun ys k hk hy=> ?_) (fun ys=>by simp [Ff.jX])
 simp only [Ff.jX,vg hd (show s<96 by omega) (t:=k) (by omega),ar]
 rw [ak (by simpa using hk)]
 unfold np
 cases c:fF d s k with
 | true=>
  simp only [cp,Fbs,FB,de hk,ar,bM hk,kE,Option.toList_some]
  rw [wI f.ag,wI (0+f.ag),wI (0+f.ag-1),ak (by simp only [ge_iff_le,bY,bC];omega),wI ((s:Int)-0),vd (n:=(s:Int)-0) (by omega) (by omega)]
  rw [ak (by simp only [cf,bN];omega)]
  simp
 | false=>simp
theorem rQ{f:ae}(hf:kw f){d:av 96 Int}(hd:gM d):RR f d 0 (au f.ag)=Od (pw f d):=by
 have h1:=hf.h1;have h2:=hf.s1;have h3:=hf.s0
 have e:au f.ag=(f.ag.toNat:Int):=by rw [bc (by omega) (by omega)];omega
 have:=iL (f:=Ff.fY f d 0 (au f.ag) f) f.ag.toNat 24 (by omega) (nr f d) [] (fun k _=>by have:=UE f d k;omega) (fun ys k hk hy=>by
  simp only [bN] at hy
  simp only [Ff.fY,xL,ar,abK hf hd k (by omega) ys (by omega),Ff.og]
  rw [ak (by rw [e,bC];omega)]) (fun ys=>by simp [Ff.fY,e])
 simp only [RR,Ff,this,ar,Ff.fk,gm]
 show (Od (pw f d)).bind some=_
 cases Od (pw f d)<;>rfl
end Go.Proofs.YtplklknkkaeniaaGreat
namespace Go.Proofs.YtplklknkkaeniaaGreat
open Eng
set_option linter.unusedVariables false
set_option linter.unusedSimpArgs false
theorem KZ{f:ae}{d:av 96 Int}{n:ai}(h:n∈pw f d):∃(s t:Nat) (ht:t<f.aa.length),s<f.ag.toNat∧n=⟨(s:Int),f.aa[t].aD⟩:=by
 unfold pw at h
 obtain⟨s,hs,h⟩:=kB.1 h
 unfold nr at h
 obtain⟨t,ht,h⟩:=kB.1 h
 have hs:s<f.ag.toNat:=by simpa using hs
 have ht:t<f.aa.length:=by simpa using ht
 unfold np at h
 split at h
 ·rw [bM ht] at h
  simp at h
  exact⟨s,t,ht,hs,h⟩
 ·cases h
theorem Ql{f:ae}(hf:kw f){d:av 96 Int}(hl:(pw f d).length≤120):∃r,Od (pw f d)=some r∧Fw (pw f d)=some r∧xf r∧r.length≤(pw f d).length∧∀n∈r,n∈pw f d:=by
 obtain⟨r,m1,m2,m3⟩:=CK (pw f d) (by omega)
 obtain⟨r',h1,h2,h3,h4⟩:=l5 (pw f d) (by omega)
 rw [m2] at h1
 obtain rfl:=e9 h1
 have rk:=hf.s1;have xD:=hf.s0
 refine⟨r,m1,m2,⟨by omega,fun n hn=> ?_,h2⟩,m3,fun n hn=>(h3 n).1 hn⟩
 obtain⟨s,t,ht,hs,rfl⟩:=KZ ((h3 n).1 hn)
 have:=hf.hp _ (bT ht)
 simp only
 omega
end Go.Proofs.YtplklknkkaeniaaGreat
namespace Go.Proofs.YtplklknkkaeniaaGreat
open Eng
set_option linter.unusedVariables false
set_option linter.unusedSimpArgs false
structure SS where
 looks:Int
 over:Bool
 fb:List ab
 least:Int
def iN(f:ae)(n:ai)(c:aQ)(b ah:Int)(go:av 96 Int→List ab→Int→SS→SS)(d:av 96 Int)(list:List ab)(cost:Int):List ab→SS→SS
 | [],s=>s
 | x::xs,s=>match mY f n x d with
  | none=>iN f n c b ah go d list cost xs s
  | some d'=>if 0≤s.least∧s.least≤cost+cL c x+b then iN f n c b ah go d list cost xs s
   else if s.looks=ah then⟨s.looks,true,s.fb,s.least⟩
   else if(go d' (list++ [x]) (cost+cL c x) ⟨s.looks+1,s.over,s.fb,s.least⟩).over=true then go d' (list++ [x]) (cost+cL c x) ⟨s.looks+1,s.over,s.fb,s.least⟩
   else iN f n c b ah go d list cost xs (go d' (list++ [x]) (cost+cL c x) ⟨s.looks+1,s.over,s.fb,s.least⟩)
def py(f:ae)(t:List ai)(c:aQ)(all:List (List ab))(lz:List Int)(ah:Int):Nat→av 96 Int→List ab→Int→SS→SS
 | 0=>fun d list cost s=>⟨s.looks,s.over,list,cost⟩
 | m+1=>fun d list cost s=>match t[list.length]?,all[list.length]? with
  | some n,some xs=>iN f n c ((lz[list.length+1]?).getD 0) ah (py f t c all lz ah m) d list cost xs s
  | _,_=>s
structure OT (f:ae) (t:List ai) (c:aQ) (all:List (List ab)) (lz:List Int):Prop where
 hf:kw f
 ht:xf t
 hc:CL c
 al:all.length=t.length
 ain:∀(k:Nat) n xs,t[k]?=some n→all[k]?=some xs→xs.length≤505∧∀x∈xs,x∈bR f n
 bl:lz.length=t.length+1
 bb:∀b∈lz,0≤b∧b≤480000
def zw(ah:Int)(s:SS):Prop:=0≤s.looks∧s.looks≤ah∧-1≤s.least∧s.fb.length≤120
abbrev Bv(f:ae)(t:List ai)(c:aQ)(all:List (List ab))(lz:List Int)(ah:Int)(s:SS):cz:=⟨f,t,c,all,lz,ah,s.looks,s.over,s.fb,s.least⟩
abbrev Bw(f:ae)(t:List ai)(c:aQ)(all:List (List ab))(lz:List Int)(ah:Int)(s:SS):bS:=⟨f,t,c,all,lz,ah,s.looks,decide (0≤s.least),s.fb,if 0≤s.least then s.least else 0⟩
theorem Bx{S:Type}{xs ys zs:List S}{x:S}(h:xs=ys++x::zs):ix xs (ys.length:Int)=some x:=by
 subst h
 rw [de (show ys.length<(ys++x::zs).length by simp)]
 simp
section
variable {f:ae} {n:ai} {c:aQ} {b ah:Int} {go:av 96 Int→List ab→Int→SS→SS} {d d':av 96 Int} {list:List ab} {cost:Int} {x:ab} {xs:List ab} {s:SS}
theorem sO(h:mY f n x d=none):iN f n c b ah go d list cost (x::xs) s=iN f n c b ah go d list cost xs s:=by simp only [iN,h]
theorem uO(h:mY f n x d=some d')(hl:0≤s.least∧s.least≤cost+cL c x+b):iN f n c b ah go d list cost (x::xs) s=iN f n c b ah go d list cost xs s:=by simp only [iN,h];rw [ak hl]
theorem uP(h:mY f n x d=some d')(hl:¬(0≤s.least∧s.least≤cost+cL c x+b))(hb:s.looks=ah):iN f n c b ah go d list cost (x::xs) s=⟨s.looks,true,s.fb,s.least⟩:=by
 simp only [iN,h];rw [ax hl,ak hb]
theorem sP(h:mY f n x d=some d')(hl:¬(0≤s.least∧s.least≤cost+cL c x+b))(hb:¬s.looks=ah)(ho:(go d' (list++ [x]) (cost+cL c x) ⟨s.looks+1,s.over,s.fb,s.least⟩).over=true):
  iN f n c b ah go d list cost (x::xs) s=go d' (list++ [x]) (cost+cL c x) ⟨s.looks+1,s.over,s.fb,s.least⟩:=by
 simp only [iN,h];rw [ax hl,ax hb,ak ho]
theorem xj(h:mY f n x d=some d')(hl:¬(0≤s.least∧s.least≤cost+cL c x+b))(hb:¬s.looks=ah)(ho:¬(go d' (list++ [x]) (cost+cL c x) ⟨s.looks+1,s.over,s.fb,s.least⟩).over=true):
  iN f n c b ah go d list cost (x::xs) s=iN f n c b ah go d list cost xs (go d' (list++ [x]) (cost+cL c x) ⟨s.looks+1,s.over,s.fb,s.least⟩):=by
 simp only [iN,h];rw [ax hl,ax hb,ax ho]
end
def Qm(f:ae)(t:List ai)(c:aQ)(all:List (List ab))(lz:List Int)(ah:Int)(r:SS):cz⊕((List ab)×Int×Int×Int×Int×Int×Int×Bool×Int):=
 if r.over=true then .inl (Bv f t c all lz ah r) else .inr (r.fb,f.ag,c.bJ,c.ba,c.du,ah,r.looks,r.over,r.least)
def Qn(f:ae)(t:List ai)(c:aQ)(all:List (List ab))(lz:List Int)(ah:Int)(r:SS):(Bool×bS)⊕((List ab)×Int×Int×Int×Int×Int×Bool×Int):=
 if r.over=true then .inl (false,Bw f t c all lz ah r) else .inr (r.fb,c.bJ,c.ba,c.du,ah,r.looks,decide (0≤r.least),(if 0≤r.least then r.least else 0))
theorem Qo{f:ae}{t:List ai}{c:aQ}{all:List (List ab)}{lz:List Int}(h:OT f t c all lz){ah:Int}(hb:0≤ah∧ah≤20000)
  (td:cz→av 96 Int→List ab→Int→Option cz) (go:av 96 Int→List ab→Int→SS→SS) {d:av 96 Int} (hd:gM d) {list:List ab} {cost:Int} (Q1:0≤cost∧cost≤4000*(list.length:Int))
  {n:ai} {xs:List ab} (hn:t[list.length]?=some n) (hx:all[list.length]?=some xs) (s0:SS)
  (hs:∀(d':av 96 Int) x s,x∈xs→mY f n x d=some d'→zw ah s→s.over=false→td (Bv f t c all lz ah s) d' (list++ [x]) (cost+cL c x)=some (Bv f t c all lz ah (go d' (list++ [x]) (cost+cL c x) s))∧zw ah (go d' (list++ [x]) (cost+cL c x) s)):
  ∀(zs ys:List ab) (s:SS),xs=ys++zs→zw ah s→s.over=false→
   loop (Fh.Gg td (Bv f t c all lz ah s0) d list cost xs) (s.fb,f.ag,c.bJ,c.ba,c.du,ah,s.looks,s.over,s.least,(ys.length:Int))=some (Qm f t c all lz ah (iN f n c ((lz[list.length+1]?).getD 0) ah go d list cost zs s))∧
   zw ah (iN f n c ((lz[list.length+1]?).getD 0) ah go d list cost zs s):=by
 intro zs
 have AU:list.length<t.length:=(gY.1 hn).1
 have v8:=h.ht.len
 have VW:=h.ht.nt n (dt hn)
 have ha:0≤n.cd∧n.cd≤199:=by omega
 have hp:0≤n.aD∧n.aD≤47:=by omega
 obtain⟨hxl,Ly⟩:=h.ain _ n xs hn hx
 have hbk:list.length+1<lz.length:=by rw [h.bl];omega
 have hbv:=h.bb _ (bT hbk)
 have hbg:(lz[list.length+1]?).getD 0=lz[list.length+1]:=by rw [bM hbk];rfl
 have hw:au ((list.length:Int)+1)=((list.length+1:Nat):Int):=by rw [bc (by omega) (by omega)];omega
 have hib:ix lz ((list.length+1:Nat):Int)=some lz[list.length+1]:=de hbk
 have ku:ix t (list.length:Int)=some n:=by rw [de AU];exact(bM AU▸hn)
 have II:list.length<all.length:=by rw [h.al];exact AU
 have UF:ix all (list.length:Int)=some xs:=by rw [de II];exact(bM II▸hx)
 have UG:(⟨c.bJ,c.ba,c.du⟩:aQ)=c:=rfl
 have UH:(⟨f.ag,f.aa⟩:ae)=f:=rfl
 have EZ:VT list=some list:=by
  simp only [VT,gm,bN]
  rw [ak (by omega)]
 rw [hbg]
 induction zs with
 | nil=>
  intro ys s vu yX rR
  refine⟨?_,yX⟩
  rw [bH]
  simp only [Fh.Gg,iN,Bv,UF,ar]
  rw [ax (by rw [bC,vu];simp)]
  simp [rR,Qm]
 | cons x zs ih=>
  intro ys s vu yX rR
  have OU:x∈xs:=by rw [vu];simp
  have XO:=Ly x OU
  have Ja:=ly h.hf ha hp XO
  have hcv:=sL h.hc Ja
  have hyl:ys.length<xs.length:=by rw [vu];simp
  have Gn:au ((ys.length:Int)+1)=(((ys++ [x]).length:Nat):Int):=by rw [bc (by omega) (by omega)];simp
  have Ce:au (cost+cL c x)=cost+cL c x:=bc (by omega) (by omega)
  have Re:au (cost+cL c x+lz[list.length+1])=cost+cL c x+lz[list.length+1]:=bc (by omega) (by omega)
  have K0:=fun s' (h1:zw ah s') (h2:s'.over=false)=>ih (ys++ [x]) s' (by rw [vu];simp) h1 h2
  have UI:=Br h.hf ha hp XO hd
  have UJ:=xP h.hf ha hp XO hd
  have hj:(ys.length:Int)<(xs.length:Int):=by omega
  rw [bH]
  cases sX:mY f n x d with
  | none=>
   rw [sX] at UI UJ
   rw [sO sX]
   refine⟨?_,(K0 s yX rR).2⟩
   rw [←(K0 s yX rR).1]
   simp only [Fh.Gg,Bv,UG,UH,UF,Bx vu,yD h.hc Ja,qC h.hc Ja,ku,UI,UJ,ar,hw,Ce,hib,Re,Gn,Option.isSome_none,oF,cp]
   rw [ak (by rw [bC];exact hj)]
  | some d'=>
   have hpu:=IG h.hf ha hp XO hd sX
   rw [sX] at UI UJ
   by_cases hl:0≤s.least∧s.least≤cost+cL c x+lz[list.length+1]
   ·rw [uO sX hl]
    refine⟨?_,(K0 s yX rR).2⟩
    rw [←(K0 s yX rR).1]
    simp only [Fh.Gg,Bv,UG,UH,UF,Bx vu,yD h.hc Ja,qC h.hc Ja,ku,UI,UJ,ar,hw,Ce,hib,Re,Gn,Option.isSome_some,jv,cM,bU]
    rw [ak (by rw [bC];exact hj),ak (by simpa using hl.1),ak (by simpa [hl.1] using hl.2)]
   ·have hk:Fh.Gg td (Bv f t c all lz ah s0) d list cost xs (s.fb,f.ag,c.bJ,c.ba,c.du,ah,s.looks,s.over,s.least,(ys.length:Int))=Fh.mV td (Bv f t c all lz ah s0) d list cost s.fb f.ag c.bJ c.ba c.du ah s.looks s.over s.least (ys.length:Int) x (cL c x):=by
     simp only [Fh.Gg,Bv,UG,UH,UF,Bx vu,yD h.hc Ja,qC h.hc Ja,ku,UI,UJ,ar,hw,Ce,hib,Re,Gn,Option.isSome_some,jv,cM,bU]
     rw [ak (by rw [bC];exact hj)]
     by_cases h0:0≤s.least
     ·rw [ak (by simpa using h0),ax (by simp [h0];omega)]
     ·rw [ax (by simpa using h0)]
    rw [hk]
    have abL:=yX
    obtain⟨q1,q2,q3⟩:=abL
    by_cases zx:s.looks=ah
    ·rw [uP sX hl zx]
     refine⟨?_,yX⟩
     simp only [Fh.mV,Bv]
     rw [ak (by simpa using zx)]
     simp [Qm,Bv,zx]
    ·have Gt:zw ah ⟨s.looks+1,s.over,s.fb,s.least⟩:=⟨by show 0≤s.looks+1;omega,by show s.looks+1≤ah;omega,q3⟩
     obtain⟨g1,g2⟩:=hs d' x _ OU sX Gt rR
     have Cf:au (s.looks+1)=s.looks+1:=bc (by omega) (by omega)
     simp only [Bv] at g1
     by_cases ho:(go d' (list++ [x]) (cost+cL c x) ⟨s.looks+1,s.over,s.fb,s.least⟩).over=true
     ·rw [sP sX hl zx ho]
      refine⟨?_,g2⟩
      simp only [Fh.mV,Bv,gm]
      rw [ax (by simpa using zx)]
      simp only [ku,hpu,ar,EZ,Cf,UG,UH,Ce,g1,Fh.Az,Gn]
      rw [ak (by simp;omega)]
      simp [Qm,Bv,ho]
     ·rw [xj sX hl zx ho]
      obtain⟨n1,n2⟩:=K0 _ g2 (by simpa using ho)
      refine⟨?_,n2⟩
      rw [←n1]
      simp only [Fh.mV,Bv,gm]
      rw [ax (by simpa using zx)]
      simp only [ku,hpu,ar,EZ,Cf,UG,UH,Ce,g1,Fh.Az,Gn]
      rw [ak (by simp;omega)]
      simp [ho]
theorem go_loop{f:ae}{t:List ai}{c:aQ}{all:List (List ab)}{lz:List Int}(h:OT f t c all lz){ah:Int}(hb:0≤ah∧ah≤20000)
  (td:bS→av 96 Int→List ab→Int→Option (Bool×bS)) (go:av 96 Int→List ab→Int→SS→SS) {d:av 96 Int} (hd:gM d) {list:List ab} {cost:Int} (Q1:0≤cost∧cost≤4000*(list.length:Int))
  {n:ai} {xs:List ab} (hn:t[list.length]?=some n) (hx:all[list.length]?=some xs) (s0:SS)
  (hs:∀(d':av 96 Int) x s,x∈xs→mY f n x d=some d'→zw ah s→s.over=false→td (Bw f t c all lz ah s) d' (list++ [x]) (cost+cL c x)=some (!(go d' (list++ [x]) (cost+cL c x) s).over,Bw f t c all lz ah (go d' (list++ [x]) (cost+cL c x) s))∧zw ah (go d' (list++ [x]) (cost+cL c x) s)):
  ∀(zs ys:List ab) (s:SS),xs=ys++zs→zw ah s→s.over=false→
   loop (Fv.j4 td (Bw f t c all lz ah s0) d list cost) (s.fb,c.bJ,c.ba,c.du,ah,s.looks,decide (0≤s.least),(if 0≤s.least then s.least else 0),(ys.length:Int))=some (Qn f t c all lz ah (iN f n c ((lz[list.length+1]?).getD 0) ah go d list cost zs s))∧
   zw ah (iN f n c ((lz[list.length+1]?).getD 0) ah go d list cost zs s):=by
 intro zs
 have AU:list.length<t.length:=(gY.1 hn).1
 have v8:=h.ht.len
 have VW:=h.ht.nt n (dt hn)
 have ha:0≤n.cd∧n.cd≤199:=by omega
 have hp:0≤n.aD∧n.aD≤47:=by omega
 obtain⟨hxl,Ly⟩:=h.ain _ n xs hn hx
 have hbk:list.length+1<lz.length:=by rw [h.bl];omega
 have hbv:=h.bb _ (bT hbk)
 have hbg:(lz[list.length+1]?).getD 0=lz[list.length+1]:=by rw [bM hbk];rfl
 have hw:au ((list.length:Int)+1)=((list.length+1:Nat):Int):=by rw [bc (by omega) (by omega)];omega
 have hib:ix lz ((list.length+1:Nat):Int)=some lz[list.length+1]:=de hbk
 have ku:ix t (list.length:Int)=some n:=by rw [de AU];exact(bM AU▸hn)
 have II:list.length<all.length:=by rw [h.al];exact AU
 have UF:ix all (list.length:Int)=some xs:=by rw [de II];exact(bM II▸hx)
 have UG:(⟨c.bJ,c.ba,c.du⟩:aQ)=c:=rfl
 have UH:(⟨f.ag,f.aa⟩:ae)=f:=rfl
 have EZ:VT list=some list:=by
  simp only [VT,gm,bN]
  rw [ak (by omega)]
 rw [hbg]
 induction zs with
 | nil=>
  intro ys s vu yX rR
  refine⟨?_,yX⟩
  rw [bH]
  simp only [Fv.j4,iN,Bw,UF,ar]
  rw [ax (by rw [bC,vu];simp)]
  simp [rR,Qn]
 | cons x zs ih=>
  intro ys s vu yX rR
  have OU:x∈xs:=by rw [vu];simp
  have XO:=Ly x OU
  have Ja:=ly h.hf ha hp XO
  have hcv:=sL h.hc Ja
  have hyl:ys.length<xs.length:=by rw [vu];simp
  have Gn:au ((ys.length:Int)+1)=(((ys++ [x]).length:Nat):Int):=by rw [bc (by omega) (by omega)];simp
  have Ce:au (cost+cL c x)=cost+cL c x:=bc (by omega) (by omega)
  have Re:au (cost+cL c x+lz[list.length+1])=cost+cL c x+lz[list.length+1]:=bc (by omega) (by omega)
  have K0:=fun s' (h1:zw ah s') (h2:s'.over=false)=>ih (ys++ [x]) s' (by rw [vu];simp) h1 h2
  have UI:=Br h.hf ha hp XO hd
  have UJ:=xP h.hf ha hp XO hd
  have hj:(ys.length:Int)<(xs.length:Int):=by omega
  rw [bH]
  cases sX:mY f n x d with
  | none=>
   rw [sX] at UI UJ
   rw [sO sX]
   refine⟨?_,(K0 s yX rR).2⟩
   rw [←(K0 s yX rR).1]
   simp only [Fv.j4,Bw,UG,UH,UF,Bx vu,yD h.hc Ja,qC h.hc Ja,ku,UI,UJ,ar,hw,Ce,hib,Re,Gn,Option.isSome_none,oF,cp]
   rw [ak (by rw [bC];exact hj)]
  | some d'=>
   have hpu:=IG h.hf ha hp XO hd sX
   rw [sX] at UI UJ
   by_cases hl:0≤s.least∧s.least≤cost+cL c x+lz[list.length+1]
   ·rw [uO sX hl]
    refine⟨?_,(K0 s yX rR).2⟩
    rw [←(K0 s yX rR).1]
    simp only [Fv.j4,Bw,UG,UH,UF,Bx vu,yD h.hc Ja,qC h.hc Ja,ku,UI,UJ,ar,hw,Ce,hib,Re,Gn,Option.isSome_some,jv,cM,bU]
    rw [ak (by rw [bC];exact hj),ak (by simpa using hl.1),ak (by simpa [hl.1] using hl.2)]
   ·have hk:Fv.j4 td (Bw f t c all lz ah s0) d list cost (s.fb,c.bJ,c.ba,c.du,ah,s.looks,decide (0≤s.least),(if 0≤s.least then s.least else 0),(ys.length:Int))=Fv.mV td (Bw f t c all lz ah s0) list cost s.fb c.bJ c.ba c.du ah s.looks (decide (0≤s.least)) (if 0≤s.least then s.least else 0) (ys.length:Int) x (cL c x) d':=by
     simp only [Fv.j4,Bw,UG,UH,UF,Bx vu,yD h.hc Ja,qC h.hc Ja,ku,UI,UJ,ar,hw,Ce,hib,Re,Gn,Option.isSome_some,jv,cM,bU]
     rw [ak (by rw [bC];exact hj)]
     by_cases h0:0≤s.least
     ·rw [ak (by simpa using h0),ax (by simp [h0];omega)]
     ·rw [ax (by simpa using h0)]
    rw [hk]
    have abL:=yX
    obtain⟨q1,q2,q3⟩:=abL
    by_cases zx:s.looks=ah
    ·rw [uP sX hl zx]
     refine⟨?_,yX⟩
     simp only [Fv.mV,Bw]
     rw [ak (by simpa using zx)]
     simp [Qn,Bw,zx]
    ·have Gt:zw ah ⟨s.looks+1,s.over,s.fb,s.least⟩:=⟨by show 0≤s.looks+1;omega,by show s.looks+1≤ah;omega,q3⟩
     obtain⟨g1,g2⟩:=hs d' x _ OU sX Gt rR
     have Cf:au (s.looks+1)=s.looks+1:=bc (by omega) (by omega)
     simp only [Bw] at g1
     by_cases ho:(go d' (list++ [x]) (cost+cL c x) ⟨s.looks+1,s.over,s.fb,s.least⟩).over=true
     ·rw [sP sX hl zx ho]
      refine⟨?_,g2⟩
      simp only [Fv.mV,Bw,gm]
      rw [ax (by simpa using zx)]
      simp only [ku,hpu,ar,EZ,Cf,UG,UH,Ce,g1,Fv.TJ,Gn]
      rw [ak (by simp;omega),ak (by simp;omega)]
      simp [Qn,Bw,ho]
     ·rw [xj sX hl zx ho]
      obtain⟨n1,n2⟩:=K0 _ g2 (by simpa using ho)
      refine⟨?_,n2⟩
      rw [←n1]
      simp only [Fv.mV,Bw,gm]
      rw [ax (by simpa using zx)]
      simp only [ku,hpu,ar,EZ,Cf,UG,UH,Ce,g1,Fv.TJ,Gn]
      rw [ak (by simp;omega),ak (by simp;omega)]
      simp [ho]
theorem Qp{f:ae}{t:List ai}{c:aQ}{all:List (List ab)}{lz:List Int}(h:OT f t c all lz){ah:Int}(hb:0≤ah∧ah≤20000):
  ∀(m fu M2:Nat) (d:av 96 Int) (list:List ab) (cost:Int) (s:SS),list.length+m=t.length→m<fu→m<M2→gM d→(0≤cost∧cost≤4000*(list.length:Int))→zw ah s→s.over=false→
   Fh.fW fu (Bv f t c all lz ah s) d list cost=some (Bv f t c all lz ah (py f t c all lz ah m d list cost s))∧
   Fv.fW M2 (Bw f t c all lz ah s) d list cost=some (!(py f t c all lz ah m d list cost s).over,Bw f t c all lz ah (py f t c all lz ah m d list cost s))∧
   zw ah (py f t c all lz ah m d list cost s):=by
 intro m
 have v8:=h.ht.len
 induction m with
 | zero=>
  intro fu M2 d list cost s hl h1 h2 hd hc yX rR
  obtain⟨fu,rfl⟩:∃k,fu=k+1:=⟨fu-1,by omega⟩
  obtain⟨M2,rfl⟩:∃k,M2=k+1:=⟨M2-1,by omega⟩
  obtain⟨q1,q2,q3⟩:=yX
  refine⟨?_,?_,⟨q1,q2,?_,?_⟩⟩
  ·simp only [Fh.fW,Fh.step,py,Bv]
   rw [ak (show ((list.length:Int)==(t.length:Int))=true by simp;omega)]
  ·simp only [Fv.fW,Fv.step,py,Bw,bN,gm]
   rw [ak (show ((list.length:Int)==(t.length:Int))=true by simp;omega),ak (by omega)]
   simp [rR,hc.1]
  ·show-1≤cost;omega
  ·show list.length≤120;omega
 | succ m ih=>
  intro fu M2 d list cost s hl h1 h2 hd hc yX rR
  obtain⟨fu,rfl⟩:∃k,fu=k+1:=⟨fu-1,by omega⟩
  obtain⟨M2,rfl⟩:∃k,M2=k+1:=⟨M2-1,by omega⟩
  have AU:list.length<t.length:=by omega
  have II:list.length<all.length:=by rw [h.al];exact AU
  have hn:t[list.length]?=some t[list.length]:=bM AU
  have hx:all[list.length]?=some all[list.length]:=bM II
  have VW:=h.ht.nt _ (bT AU)
  have ha:0≤t[list.length].cd∧t[list.length].cd≤199:=by omega
  have hp:0≤t[list.length].aD∧t[list.length].aD≤47:=by omega
  have Ly:=(h.ain _ _ _ hn hx).2
  have pn:∀(d':av 96 Int) x s,x∈all[list.length]→mY f t[list.length] x d=some d'→zw ah s→s.over=false→_:=fun d' x s OU sX rk LA=>
   ih fu M2 d' (list++ [x]) (cost+cL c x) s (by simp;omega) (by omega) (by omega) (IE h.hf ha hp (Ly x OU) hd sX) (by
    have hcv:=sL h.hc (ly h.hf ha hp (Ly x OU))
    simp only [cJ,cf,bN]
    omega) rk LA
  obtain⟨a1,a2⟩:=Qo h hb (Fh.fW fu) (py f t c all lz ah m) hd hc hn hx s (fun d' x s h1 h2 h3 h4=>⟨(pn d' x s h1 h2 h3 h4).1,(pn d' x s h1 h2 h3 h4).2.2⟩) all[list.length] [] s rfl yX rR
  have b1:=(go_loop h hb (Fv.fW M2) (py f t c all lz ah m) hd hc hn hx s (fun d' x s h1 h2 h3 h4=>(pn d' x s h1 h2 h3 h4).2) all[list.length] [] s rfl yX rR).1
  have hsr:py f t c all lz ah (m+1) d list cost s=iN f t[list.length] c ((lz[list.length+1]?).getD 0) ah (py f t c all lz ah m) d list cost all[list.length] s:=by
   simp only [py,hn,hx]
  rw [hsr]
  have UF:ix all (list.length:Int)=some all[list.length]:=de II
  have jR:¬((list.length:Int)==(t.length:Int))=true:=by simp;omega
  refine⟨?_,?_,a2⟩
  ·have a3:loop (Fh.Gg (Fh.fW fu) (Bv f t c all lz ah s) d list cost all[list.length]) (s.fb,f.ag,c.bJ,c.ba,c.du,ah,s.looks,s.over,s.least,0)=_:=a1
   have e:Fh.fW (fu+1) (Bv f t c all lz ah s) d list cost=(loop (Fh.Gg (Fh.fW fu) (Bv f t c all lz ah s) d list cost all[list.length]) (s.fb,f.ag,c.bJ,c.ba,c.du,ah,s.looks,s.over,s.least,0)).bind fun ajk=>match ajk with | .inl p=>some p | .inr p=>Fh.vK (Bv f t c all lz ah s) p.1 p.2.1 p.2.2.1 p.2.2.2.1 p.2.2.2.2.1 p.2.2.2.2.2.1 p.2.2.2.2.2.2.1 p.2.2.2.2.2.2.2.1 p.2.2.2.2.2.2.2.2:=by
    simp only [Fh.fW,Fh.step,Bv]
    rw [ax jR,UF]
    rfl
   rw [e,a3]
   generalize iN f t[list.length] c ((lz[list.length+1]?).getD 0) ah (py f t c all lz ah m) d list cost all[list.length] s=r
   by_cases ho:r.over=true
   ·simp [Qm,ho]
   ·simp [Qm,ho,Fh.vK,Bv]
  ·have b3:loop (Fv.j4 (Fv.fW M2) (Bw f t c all lz ah s) d list cost) (s.fb,c.bJ,c.ba,c.du,ah,s.looks,decide (0≤s.least),(if 0≤s.least then s.least else 0),0)=_:=b1
   have e:Fv.fW (M2+1) (Bw f t c all lz ah s) d list cost=(loop (Fv.j4 (Fv.fW M2) (Bw f t c all lz ah s) d list cost) (s.fb,c.bJ,c.ba,c.du,ah,s.looks,decide (0≤s.least),(if 0≤s.least then s.least else 0),0)).bind fun P3=>match P3 with | .inl p=>some p | .inr p=>Fv.s_ (Bw f t c all lz ah s) p.1 p.2.1 p.2.2.1 p.2.2.2.1 p.2.2.2.2.1 p.2.2.2.2.2.1 p.2.2.2.2.2.2.1 p.2.2.2.2.2.2.2:=by
    simp only [Fv.fW,Fv.step,Bw]
    rw [ax jR]
    rfl
   rw [e,b3]
   generalize iN f t[list.length] c ((lz[list.length+1]?).getD 0) ah (py f t c all lz ah m) d list cost all[list.length] s=r
   by_cases ho:r.over=true
   ·simp [Qn,ho]
   ·simp [Qn,ho,Fv.s_,Bw]
end Go.Proofs.YtplklknkkaeniaaGreat
namespace Go.Proofs.YtplklknkkaeniaaGreat
open Eng
set_option linter.unusedVariables false
set_option linter.unusedSimpArgs false
theorem XP(c:aQ):∀(fu:Nat) (d:List ab) (a m b:Int),Fa.fW fu d a m b c=fm.fW (fun x y=>D0 x y c) fu d a m b:=by
 intro fu
 induction fu with
 | zero=>intro d a m b;rfl
 | succ fu ih=>
  intro d a m b
  have e:(fun d a m b=>Fa.fW fu d a m b c)=fm.fW (fun x y=>D0 x y c) fu:=by
   funext d a m b;exact ih d a m b
  have h:Fa.step (Fa.fW fu) d a m b c=fm.step (fun x y=>D0 x y c) (fun d a m b=>Fa.fW fu d a m b c) d a m b:=rfl
  rw [e] at h
  exact h
theorem UK(c:aQ)(d:List ab)(n:Int):Fb d n c=fN (fun x y=>D0 x y c) d n:=by
 have hs:∀d a m b,Fa d a m b c=fm (fun x y=>D0 x y c) d a m b:=fun d a m b=>XP c 200 d a m b
 have hi:∀d a b,Fd d a b c=nz (fun x y=>D0 x y c) d a b:=fun d a b=>rfl
 have e1:∀i:Int,Fb.j4 n c i=fN.j4 (fun x y=>D0 x y c) n i:=by
  intro i;funext s
  obtain⟨xs,i2,i3⟩:=s
  simp only [Fb.j4,fN.j4,hs]
 have e2:Fb.ko n c=fN.ko (fun x y=>D0 x y c) n:=by
  funext s
  obtain⟨xs,i⟩:=s
  simp only [Fb.ko,fN.ko,e1,Fb.uI,fN.uI,Fb.nJ,fN.nJ,hs]
 have e3:Fb.u_ n c=fN.u_ (fun x y=>D0 x y c) n:=by
  funext s
  obtain⟨xs,i,j⟩:=s
  simp only [Fb.u_,fN.u_,hi]
 simp only [Fb,fN,Fb.ki,fN.ki,Fb.qw,fN.qw,e2,e3,hi]
theorem UL(c:aQ)(d:List ab):FG d c=OL (fun x y=>D0 x y c) d:=by
 simp only [FG,OL,UK]
def zy(l:Int):Nat:=if 0<l then(2*l).toNat else(-2*l-1).toNat
def sQ(x:ab):Nat:=if x.bJ=true then 100000 else(zy x.cP*3+zy x.ba)*24+x.eU.toNat
theorem By{S:Type}(num:S→Nat)(g:Nat→List S)(B base:Nat):∀m,(∀i,i<m→(g i).Pairwise (fun a b=>num a<num b)∧∀x∈g i,base+i*B≤num x∧num x<base+(i+1)*B)→
  ((List.range m).flatMap g).Pairwise (fun a b=>num a<num b)∧∀x∈(List.range m).flatMap g,base≤num x∧num x<base+m*B:=by
 intro m
 induction m with
 | zero=>intro _;simp
 | succ m ih=>
  intro h
  obtain⟨h1,h2⟩:=ih (fun i hi=>h i (by omega))
  obtain⟨h3,h4⟩:=h m (by omega)
  rw [oE,qt]
  simp only [oB,List.flatMap_nil,gz]
  have e:(m+1)*B=m*B+B:=lN m B
  refine⟨iW.2 ⟨h1,h3,fun a ha b hb=> ?_⟩,fun x hx=> ?_⟩
  ·have:=h2 a ha;have:=h4 b hb;omega
  ·rcases dw.1 hx with hx | hx
   ·have:=h2 x hx;omega
   ·have:=h4 x hx;omega
theorem abM(f:ae)(n:ai)(l o:Int)(hf:f.aa.length≤24):(tk f n l o).Pairwise (fun a b=>sQ a<sQ b)∧∀x∈tk f n l o,(zy l*3+zy o)*24≤sQ x∧sQ x<(zy l*3+zy o)*24+24:=by
 obtain⟨h1,h2⟩:=By sQ (mt f n l o) 1 ((zy l*3+zy o)*24) f.aa.length (fun i hi=>by
  unfold mt
  split
  ·refine⟨by simp,fun x hx=> ?_⟩
   simp only [dG] at hx
   subst hx
   have:sQ ⟨false,l,o,w8 (i:Int)⟩=(zy l*3+zy o)*24+i:=by
    simp only [sQ,cM,bU]
    rw [vC (by omega) (by omega)];simp
   omega
  ·simp)
 refine⟨h1,fun x hx=> ?_⟩
 have:=h2 x hx
 omega
theorem M3(f:ae)(n:ai)(hf:f.aa.length≤24):(bR f n).Pairwise (fun a b=>sQ a<sQ b):=by
 have hoc:∀(l:Int) (j:Nat),j<3→(oc f n l j).Pairwise (fun a b=>sQ a<sQ b)∧∀x∈oc f n l j,zy l*72+j*24≤sQ x∧sQ x<zy l*72+(j+1)*24:=by
  intro l j hj
  have hq:∃o,[(0:Int),-1,1][j]?=some o∧zy o=j:=by
   match j,hj with
   | 0,_=>exact⟨0,rfl,rfl⟩
   | 1,_=>exact⟨-1,rfl,rfl⟩
   | 2,_=>exact⟨1,rfl,rfl⟩
  obtain⟨o,ho,N_⟩:=hq
  unfold oc
  rw [ho]
  obtain⟨h1,h2⟩:=abM f n l o hf
  refine⟨h1,fun x hx=> ?_⟩
  have:=h2 x hx
  omega
 have hla:∀i,i<7→(la f n i).Pairwise (fun a b=>sQ a<sQ b)∧∀x∈la f n i,0+i*72≤sQ x∧sQ x<0+(i+1)*72:=by
  intro i hi
  have hq:∃l,[(0:Int),-1,1,-2,2,-3,3][i]?=some l∧zy l=i:=by
   match i,hi with
   | 0,_=>exact⟨0,rfl,rfl⟩
   | 1,_=>exact⟨-1,rfl,rfl⟩
   | 2,_=>exact⟨1,rfl,rfl⟩
   | 3,_=>exact⟨-2,rfl,rfl⟩
   | 4,_=>exact⟨2,rfl,rfl⟩
   | 5,_=>exact⟨-3,rfl,rfl⟩
   | 6,_=>exact⟨3,rfl,rfl⟩
  obtain⟨l,hl,hp⟩:=hq
  unfold la
  rw [hl]
  simp only
  split
  ·obtain⟨h1,h2⟩:=By sQ (oc f n l) 24 (zy l*72) 3 (hoc l)
   refine⟨h1,fun x hx=> ?_⟩
   have:=h2 x hx
   omega
  ·simp
 obtain⟨h1,h2⟩:=By sQ (la f n) 72 0 7 hla
 unfold bR
 refine iW.2 ⟨h1,by simp,fun a ha b hb=> ?_⟩
 simp only [dG] at hb
 subst hb
 have:=h2 a ha
 have:sQ ⟨true,0,0,0⟩=100000:=rfl
 omega
noncomputable def Qq (c:aQ) (x y:ab):Option Int:=(FR c x).bind fun a=>(FR c y).bind fun b=>some (if a<b then-1 else 0)
theorem UM(c:aQ):FN.jX c=nz.kq (Qq c) 0:=by
 funext ⟨xs,i⟩
 simp only [FN.jX,nz.kq,Qq]
 by_cases h0:i>0
 ·simp only [h0,decide_true,cp]
  cases h1:ix xs i with
  | none=>rfl
  | some x=>
   simp only [ar]
   cases h2:ix xs (au (i-1)) with
   | none=>rfl
   | some y=>
    simp only [ar]
    cases h3:FR c x with
    | none=>rfl
    | some a=>
     simp only [ar]
     cases h4:FR c y with
     | none=>rfl
     | some b=>
      simp only [ar]
      by_cases zo:a<b
      ·simp [zo]
      ·simp [zo]
 ·simp only [h0,decide_false,cM,bU]
theorem M4(f:ae)(n:ai)(c:aQ){xs:List ab}(h:FA f n=some xs):FN f n c=nz (Qq c) xs 0 (xs.length:Int):=by
 simp only [FN,h,ar,nz]
 have e:FN.Df c xs=nz.fY (Qq c) 0 (xs.length:Int):=by
  funext ⟨ys,i⟩
  simp only [FN.Df,nz.fY,UM]
  rfl
 rw [e]
 rfl
theorem Qr{S:Type}{key:S→Int}{num:S→Nat}:∀{X Y:List S},X.Perm Y→X.Pairwise (qc key num)→Y.Pairwise (qc key num)→X=Y:=by
 intro X
 induction X with
 | nil=>intro Y h _ _;exact(List.perm_nil.1 h.symm).symm
 | cons x X ih=>
  intro Y h hx hy
  cases Y with
  | nil=>exact absurd h.length_eq (by simp)
  | cons y Y=>
   have vu:x=y:=by
    rcases eK.1 (h.mem_iff.1 (k6 (a:=x) (l:=X))) with e | h1
    ·exact e
    ·rcases eK.1 (h.mem_iff.2 (k6 (a:=y) (l:=Y))) with e | h2
     ·exact e.symm
     ·have a:=(lK.1 hx).1 y h2
      have b:=(lK.1 hy).1 x h1
      unfold qc at a b
      omega
   subst vu
   rw [ih ((List.perm_cons x).1 h) (lK.1 hx).2 (lK.1 hy).2]
theorem ED{f:ae}(hf:kw f){c:aQ}(hc:CL c){n:ai}(ha:0≤n.cd∧n.cd≤199)(hp:0≤n.aD∧n.aD≤47):
  ∃Y,FG (bR f n) c=some Y∧FN f n c=some Y∧Y.Perm (bR f n)∧Y.Pairwise (qc (cL c) sQ):=by
 have hl:=nN f n hf.h1
 have agU:=M3 f n hf.h1
 have hc1:P6 (fun x y=>D0 x y c) vj (cL c):=by
  intro x y hx hy
  simp only [D0,yD hc hx,yD hc hy,ar,FbJ,YT]
  by_cases gy:cL c x<cL c y
  ·exact⟨-1,by simp [gy],by simp [gy]⟩
  ·by_cases hgt:cL c x>cL c y
   ·exact⟨1,by simp [gy,hgt],by simp [gy]⟩
   ·exact⟨0,by simp [gy,hgt],by simp [gy]⟩
 have hc2:P6 (Qq c) vj (cL c):=by
  intro x y hx hy
  simp only [Qq,qC hc hx,qC hc hy,ar]
  by_cases gy:cL c x<cL c y
  ·exact⟨-1,by simp [gy],by simp [gy]⟩
  ·exact⟨0,by simp [gy],by simp [gy]⟩
 have hD:∀y∈bR f n,vj y:=fun y hy=>ly hf ha hp hy
 obtain⟨Y,y1,y2,y3⟩:=P' (num:=sQ) hc1 (bR f n) (by omega) hD agU
 obtain⟨Z,z1,z2,z3⟩:=Ir (num:=sQ) hc2 [] (bR f n) [] (by simp;omega) hD agU
 have e:Y=Z:=Qr (y2.trans z2.symm) y3 z3
 subst e
 refine⟨Y,by rw [UL];exact y1,?_,y2,y3⟩
 rw [M4 f n c (xM hf n)]
 simpa using z1
end Go.Proofs.YtplklknkkaeniaaGreat
