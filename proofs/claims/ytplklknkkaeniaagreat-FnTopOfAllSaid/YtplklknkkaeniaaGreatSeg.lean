/- Arrays inside boxed structs: one cell each. -/
import Derived.Test.YtplklknkkaeniaaGreatEng
namespace Go.Proofs.YtplklknkkaeniaaGreat.Eng
open Go
set_option linter.unusedSectionVars false
set_option linter.unusedVariables false
section
variable [gj:wu] [Pa:Q5] {P:Program} {n:Nat} {w0:World} {W:List Nat} {Q:Exit→Act→World→Prop} {E:Env} {L:List dJ} {ops:Array Oper}
def iC(v:Int→Value)(N:Nat)(xs:List Int)(tl:List Value):List Value:=((List.range N).map fun i=>v (xs.getD i 0))++tl
def cov(cs:List Value)(off N:Nat)(vs:List Value):List Value:=cs.take off++(vs++cs.drop (off+N))
def Wj(L:List dJ)(hh off N:Nat)(vs:List Value):List dJ:=match L[hh]? with
 | some x=>L.set hh ⟨x.b,x.T,cov x.cs off N vs⟩
 | none=>L
def L0(L:List dJ)(hh off N:Nat):Option (Option Nat×List Value):=(L[hh]?).map fun x=>(x.b,(x.cs.drop off).take N)
omit gj Pa in
theorem CC(v:Int→Value){N:Nat}(xs:List Int)(hn:xs.length=N)(tl:List Value):iC v N xs tl=xs.map v++tl:=by
 subst hn
 unfold iC
 congr 1
 apply List.ext_getElem
 ·simp
 ·intro i h1 h2
  have h:i<xs.length:=by simpa using h2
  simp [List.getD_eq_getElem?_getD,bM h]
omit gj Pa in
theorem N6{v:Int→Value}{bh:Int→List Value}(hv:∀x,bh x= [v x])(xs:List Int):row bh xs []=xs.map v:=by
 unfold row
 rw [gz]
 induction xs with
 | nil=>rfl
 | cons x xs ih=>rw [oB,hv,ih];rfl
omit gj Pa in
theorem HV{v:Int→Value}{bh:Int→List Value}(hv:∀x,bh x= [v x]){N:Nat}(a:av N Int):iC v N a.1 []=row bh a.1 []:=by
 rw [CC v a.1 a.2,N6 hv,gz]
theorem xG{hh off N:Nat}{b:Nat}{vs:List Value}(h:L0 L hh off N=some (some b,vs)):∃T cs,L[hh]?=some ⟨some b,T,cs⟩∧(cs.drop off).take N=vs:=by
 unfold L0 at h
 cases hL:L[hh]? with
 | none=>rw [hL] at h;cases h
 | some x=>
  rw [hL] at h
  obtain⟨xb,xT,xc⟩:=x
  simp only [kE,cx,dS] at h
  obtain⟨rfl,rfl⟩:=h
  exact⟨xT,xc,rfl,rfl⟩
theorem Mem.Jr{w:World}(h:Mem w0 W L w)(hh b off:Nat)(v:Int→Value){bh:Int→List Value}(hv:∀x,bh x= [v x]){N:Nat}(a:av N Int)(hL:L0 L hh off N=some (some b,iC v N a.1 []):=by kernel_rfl):
  At w b off (row bh a.1 []):=by
 obtain⟨T,cs,h1,h2⟩:=xG hL
 have:=(h.all h1).sub off N
 rw [h2,HV hv,lM] at this
 exact this
theorem Mem.A0{w:World}(h:Mem w0 W L w)(hh b off:Nat)(v:Int→Value){bh:Int→List Value}(hv:∀x,bh x= [v x]){N:Nat}(a:av N Int)(hL:L0 L hh off N=some (some b,iC v N a.1 []):=by kernel_rfl):
  Rw w (some ⟨b,off,none⟩) 1 bh a.1:=by
 have hat:=h.Jr hh b off v hv a hL
 obtain⟨T,cs,h1,h2⟩:=xG hL
 refine⟨fun _=>⟨rfl,h.lt (dt h1) rfl⟩,fun j x hj i y hi=> ?_⟩
 have hm:∀x,(bh x).length=1:=fun x=>by rw [hv];rfl
 have hf:=kH hm a.1 j x hj i y hi
 have:(row bh a.1 [])[j*1+i]?=some y:=by unfold row;rw [gz];exact hf
 have:=hat _ _ this
 simpa [aB,aO,nF] using this
theorem Mem.Rs{w:World}(h:Mem w0 W L w)(hh b off:Nat){xs:List Int}(l:List Nat){V:List Nat}(hx:(L[hh]?).map dJ.b=some (some b):=by kernel_rfl)(hl:l.any (Nat.beq hh)=false:=by kernel_rfl)
  (hV:bs ((at_ L l).map dJ.b)=V:=by kernel_rfl):xs≠ []→aB (some (⟨b,off,none⟩:Addr))∉V:=h.oa hh (some b) (fun e=>nomatch e) l hx hl hV
theorem acC{K:Act→World→Prop}{N:Nat}{k:Nat}(m hh b off:Nat)(v:Int→Value){bh:Int→List Value}(hv:∀x,bh x= [v x])(a:av N Int)(hk:JK n w0 W K (ic E (cV ops k) (.agg (row bh a.1 []).toArray)) L)
  (hp:pl n ops k m E=pr n ops k m E:=by kernel_rfl) (hq:VE P E (cV ops k).op=some (b,off,true,N):=by kernel_rfl) (hL:L0 L hh off N=some (some b,iC v N a.1 []):=by kernel_rfl):JP P n w0 W ops k K E L Q:=
 NR m hp _ (fun w hw=>jM hq (((gG (m:=1) (fun x=>by rw [hv];rfl) a)).trans (Nat.mul_one N)) (.inl rfl) (hw.Jr hh b off v hv a hL)) hk
omit gj Pa in
theorem Wk:∀(vs pre r9 post:List Value),r9.length=vs.length→tS (pre++(r9++post)) pre.length vs=pre++(vs++post):=by
 intro vs
 induction vs with
 | nil=>intro pre r9 post h;rw [uV.1 h];rfl
 | cons v vs ih=>
  intro pre r9 post h
  cases r9 with
  | nil=>cases h
  | cons c r9=>
   rw [tS]
   have:(pre++(c::r9++post)).set pre.length v=(pre++ [v])++(r9++post):=by
    rw [wm _ _ (bt _)];simp
   rw [this]
   have h2:=ih (pre++ [v]) r9 post (by simpa using h)
   rw [cJ] at h2
   simpa using h2
omit gj Pa in
theorem Wl{cs vs:List Value}{off N:Nat}(h:vs.length=N)(hc:off+N≤cs.length):tS cs off vs=cov cs off N vs:=by
 have e1:(cs.take off).length=off:=by rw [gl];omega
 have e:cs=cs.take off++((cs.drop off).take N++cs.drop (off+N)):=by
  rw [←List.drop_drop,kz,kz]
 have:=Wk vs (cs.take off) ((cs.drop off).take N) (cs.drop (off+N)) (by rw [gl,iu];omega)
 rw [e1,←e] at this
 exact this
omit gj Pa in
theorem Js{off N:Nat}{v:Int→Value}{a:av N Int}{cs:List Value}(h2:(cs.drop off).take N=iC v N a.1 [])(hN:0<N):off+N≤cs.length:=by
 have:=fI List.length h2
 rw [CC v a.1 a.2,gz,kF,a.2,gl,iu] at this
 omega
theorem Yw{K:Act→World→Prop}{N:Nat}{k:Nat}(m hh b off:Nat)(v:Int→Value){bh:Int→List Value}(hv:∀x,bh x= [v x])(hc:∀x,(bh x).all il=true)(a0 a:av N Int)
  (hk:JK n w0 W K (ic E (cV ops k) undef) (Wj L hh off N (iC v N a.1 []))) (hp:pl n ops k m E=pr n ops k m E:=by kernel_rfl) (hq:Ri P E (cV ops k).op=some (b,off,row bh a.1 [],N):=by kernel_rfl)
  (hL:L0 L hh off N=some (some b,iC v N a0.1 []):=by kernel_rfl) (hN:Nat.blt 0 N=true:=by kernel_rfl):JP P n w0 W ops k K E L Q:=by
 have hN:=oy Nat.zero_lt_one (uW hN)
 obtain⟨T,cs,h1,h2⟩:=xG hL
 have hlen:=Js h2 hN
 have h:=pF hp
 intro ac w cX
 have hw:=jB cX h.2.1
 unfold wpOp
 simp only [h.1,hw,cp]
 refine .inl ?_
 unfold Oper.wp
 rw [iO cX (G:= []) (by simp) h.2.2.2.1 h.2.2.2.2]
 have Cf:(row bh a.1 []).length=N:=by rw [N6 hv,kF,a.2]
 unfold Ri at hq
 split at hq
 ·rename_i T' x y ho
  split at hq
  ·rename_i b' E7 v' t hx hy ht
   simp only [cx,dS] at hq
   obtain⟨rfl,rfl,hv',VG⟩:=hq
   have HO:v'.cells.size=t.size:=by rw [VG,←Cf,←hv'];simp
   obtain⟨w',hr,bn⟩:=lf (P:=P) (row bh a.1 []) E7 0 cs L w cX.mem h1 (by omega) (zU hc a.1)
   have ex:ev E [] x= .pointer (some ⟨b',E7,none⟩):=by simp [ev,hx]
   have ey:ev E [] y=v':=by simp [ev,hy]
   have:(execOp (ev E []) (cV ops k)).run P w= .ok .skip w':=by
    simp only [execOp,ho,Instr.storeAt,ex,ey,Instr.sureAddr,Sem.run_bind,Sem.run_pure,Result.andThen_ok,storeVar,run_sizeOf ht,HO,ne_eq,oD,bU]
    rw [hv']
    simp only [hr,Result.andThen_ok]
   rw [this]
   simp only [Oper.upon]
   rw [Nat.add_zero,Wl Cf hlen,←HV hv a] at bn
   unfold Wj at hk
   rw [h1] at hk
   exact hk _ _ (k9 (cX.qG bn) h.2.2.1 undef)
  ·simp at hq
 ·simp at hq
theorem N7{k:Nat}(t N:Nat)(v:Int→Value){bh:Int→List Value}(hv:∀x,bh x= [v x])(a:av N Int)(h:JO P n w0 W ops k ((t,[], .agg (iC v N a.1 []).toArray)::E) L Q)
  (hl:nc E [] (.tmp t)=some (.agg (row bh a.1 []).toArray):=by kernel_rfl):JO P n w0 W ops k E L Q:=by
 intro ac w cX
 refine h ac w ⟨cX.sz,cX.df,?_,cX.mem⟩
 intro t' g u hlk hg
 unfold lk at hlk
 cases hb:Nat.beq t t' with
 | true=>
  rw [hb] at hlk
  simp only [gZ,cx,dS] at hlk
  obtain⟨rfl,rfl⟩:=hlk
  obtain rfl:=iV hb
  have:=fE cX (G:= []) (by simp) hl
  rw [HV hv]
  exact this
 | false=>
  rw [hb] at hlk
  exact cX.env t' g u hlk hg
theorem Yx{K:Act→World→Prop}{N:Nat}{k:Nat}(m hh b off:Nat)(v:Int→Value){bh:Int→List Value}(hv:∀x,bh x= [v x])(a:av N Int)(j y:Int){x:Int}(hx:ix a.1 j=some x)
  (hk:JK n w0 W K (ic E (cV ops k) undef) (Wj L hh off N (iC v N (a.set j y).1 []))) (hp:pl n ops k m E=pr n ops k m E:=by kernel_rfl) (hq:V7 P E (cV ops k).op=some (b,off+j.toNat*1,[v y]):=by kernel_rfl)
  (hL:L0 L hh off N=some (some b,iC v N a.1 []):=by kernel_rfl) (hN:Nat.blt 0 N=true:=by kernel_rfl):JP P n w0 W ops k K E L Q:=by
 have hN:=oy Nat.zero_lt_one (uW hN)
 obtain⟨T,cs,h1,h2⟩:=xG hL
 have hlen:=Js h2 hN
 obtain⟨x1,x2,x3⟩:=jN hx
 have hj:j.toNat<N:=by have:=a.2;omega
 refine acf m hh b _ _ T cs (cov cs off N (iC v N (a.set j y).1 [])) hp hq h1 (by simp only [cf,bN];omega) ?_ ?_
 ·rw [tS,tS,Nat.mul_one]
  unfold cov
  rw [CC v (a.set j y).1 (a.set j y).2,gz]
  have e:cs=cs.take off++(a.1.map v++cs.drop (off+N)):=by
   have:a.1.map v=(cs.drop off).take N:=by rw [h2,CC v a.1 a.2,gz]
   rw [this,←List.drop_drop,kz,kz]
  have el:(cs.take off).length=off:=by rw [gl];omega
  conv=>lhs;rw [e]
  rw [wm _ _ (by omega),el,show off+j.toNat-off=j.toNat by omega,List.set_append_left _ _ (by rw [kF,a.2];exact hj),List.map_set.symm]
  rfl
 ·unfold Wj at hk
  rw [h1] at hk
  exact hk
end
end Go.Proofs.YtplklknkkaeniaaGreat.Eng
