/- Plain texts of this seat, in one. -/
import Derived.Test.YtplklknkkaeniaaGreatM0
import Derived.Test.YtplklknkkaeniaaGreatM3
import Derived.Test.YtplklknkkaeniaaGreatM4
import Derived.Test.YtplklknkkaeniaaGreatQ0
import Derived.Test.YtplklknkkaeniaaGreatPure
import Derived.Test.YtplklknkkaeniaaGreatT
import Derived.Test.YtplklknkkaeniaaGreatM5
import Derived.Test.YtplklknkkaeniaaGreatM1
import Derived.Test.YtplklknkkaeniaaGreatM2
namespace Go.Proofs.YtplklknkkaeniaaGreat
open Eng
set_option linter.unusedVariables false
set_option linter.unusedSimpArgs false
theorem zz{f:ae}{n:ai}{c:aQ}{b ah:Int}{go:av 96 Int→List ab→Int→SS→SS}(VX:∀d l co s,0≤co→0≤s.least→0≤(go d l co s).least){d:av 96 Int}{list:List ab}{cost:Int}(hc:0≤cost):
  ∀(xs:List ab) (s:SS),(∀x∈xs,0≤cL c x)→0≤s.least→0≤(iN f n c b ah go d list cost xs s).least:=by
 intro xs
 induction xs with
 | nil=>intro s _ h;exact h
 | cons x xs ih=>
  intro s hx h
  have LR:=hx x (by simp)
  have x5:∀y∈xs,0≤cL c y:=fun y hy=>hx y (by simp [hy])
  simp only [iN]
  split
  ·exact ih s x5 h
  ·rename_i d' _
   have hg:=VX d' (list++ [x]) (cost+cL c x) ⟨s.looks+1,s.over,s.fb,s.least⟩ (by omega) h
   split
   ·exact ih s x5 h
   ·split
    ·exact h
    ·split
     ·exact hg
     ·exact ih _ x5 hg
theorem Qs{f:ae}{t:List ai}{c:aQ}{all:List (List ab)}{lz:List Int}{ah:Int}(hp:∀xs∈all,∀x∈xs,0≤cL c x):
  ∀(m:Nat) (d:av 96 Int) (l:List ab) (co:Int) (s:SS),0≤co→0≤s.least→0≤(py f t c all lz ah m d l co s).least:=by
 intro m
 induction m with
 | zero=>intro d l co s h _;exact h
 | succ m ih=>
  intro d l co s h0 h1
  simp only [py]
  split
  ·rename_i n xs hn hx
   exact zz ih h0 xs s (hp xs (dt hx)) h1
  ·exact h1
theorem K4{f:ae}{n:ai}{c:aQ}{b ah:Int}{go:av 96 Int→List ab→Int→SS→SS}(hk:∀d l co s,0≤co→0≤s.least→0≤(go d l co s).least)
  {d:av 96 Int} {list:List ab} {cost:Int} (VX:∀d' x co s,0≤co→(go d' (list++ [x]) co s).over=false→0≤(go d' (list++ [x]) co s).least) (hc:0≤cost):
  ∀(xs:List ab) (s:SS),(∀x∈xs,0≤cL c x)→(∃x∈xs,x.bJ=true)→(iN f n c b ah go d list cost xs s).over=false→0≤(iN f n c b ah go d list cost xs s).least:=by
 intro xs
 induction xs with
 | nil=>rintro s _ ⟨x,hx,_⟩;cases hx
 | cons x xs ih=>
  intro s hx hw ho
  have LR:=hx x (by simp)
  have x5:∀y∈xs,0≤cL c y:=fun y hy=>hx y (by simp [hy])
  simp only [iN] at ho⊢
  cases sX:mY f n x d with
  | none=>
   simp only [sX] at ho⊢
   refine ih s x5 ?_ ho
   obtain⟨y,hy,hy2⟩:=hw
   rcases eK.1 hy with rfl | hy
   ·simp [mY,hy2] at sX
   ·exact⟨y,hy,hy2⟩
  | some d'=>
   simp only [sX] at ho⊢
   split at ho
   ·rename_i hl
    rw [ak hl]
    exact zz hk hc xs s x5 hl.1
   ·rename_i hl
    rw [ax hl]
    split at ho
    ·cases ho
    ·rename_i hb
     rw [ax hb]
     split at ho
     ·rename_i h1;rw [h1] at ho;cases ho
     ·rename_i h1
      rw [ax h1]
      exact zz hk hc xs _ x5 (VX d' x _ _ (by omega) (by simpa using h1))
theorem EE{f:ae}{t:List ai}{c:aQ}{all:List (List ab)}{lz:List Int}{ah:Int}(Rg:all.length=t.length)(hp:∀xs∈all,∀x∈xs,0≤cL c x)(hw:∀xs∈all,∃x∈xs,x.bJ=true):
  ∀(m:Nat) (d:av 96 Int) (l:List ab) (co:Int) (s:SS),l.length+m=t.length→0≤co→(py f t c all lz ah m d l co s).over=false→0≤(py f t c all lz ah m d l co s).least:=by
 intro m
 induction m with
 | zero=>intro d l co s _ h _;exact h
 | succ m ih=>
  intro d l co s hl h0 ho
  have AU:l.length<t.length:=by omega
  have II:l.length<all.length:=by omega
  simp only [py,bM AU,bM II] at ho⊢
  exact K4 (Qs hp m) (fun d' x co s h1 h2=>ih d' (l++ [x]) co s (by simp;omega) h1 h2) h0 _ s (hp _ (bT II)) (hw _ (bT II)) ho
noncomputable def uQ (f:ae) (c:aQ) (n:ai):List ab:=(FG (bR f n) c).getD []
theorem xQ{f:ae}(hf:kw f){c:aQ}(hc:CL c){n:ai}(ha:0≤n.cd∧n.cd≤199)(hp:0≤n.aD∧n.aD≤47):
  FG (bR f n) c=some (uQ f c n)∧FN f n c=some (uQ f c n)∧(uQ f c n).Perm (bR f n):=by
 obtain⟨Y,h1,h2,h3,_⟩:=ED hf hc ha hp
 have e:uQ f c n=Y:=by unfold uQ;rw [h1];rfl
 rw [e]
 exact⟨h1,h2,h3⟩
noncomputable def v_ (f:ae) (t:List ai) (c:aQ) (ah:Int):SS:=py f t c (t.map (uQ f c)) (yE (t.map (eP f c)) t.length) ah t.length (av.dC 96 0) [] 0 ⟨0,false,[],-1⟩
noncomputable def kL (f:ae) (t:List ai) (c:aQ) (ah:Int):List ab×Int×Int:=
 if¬(fO f=true∧iM t=true∧nO c=true) then([],0,1) else if¬(0≤ah∧ah≤20000) then([],0,2)
 else if(v_ f t c ah).over=true then([],0,7) else((v_ f t c ah).fb,(v_ f t c ah).least,0)
theorem abN{f:ae}(hf:kw f){c:aQ}(hc:CL c){t:List ai}(ht:xf t):OT f t c (t.map (uQ f c)) (yE (t.map (eP f c)) t.length):=by
 have hl:=ht.len
 refine⟨hf,ht,hc,by simp,?_,by simp [yE],?_⟩
 ·intro k n xs hn hx
  rw [tZ,hn] at hx
  obtain rfl:=e9 hx
  have VW:=ht.nt n (dt hn)
  have hp:=(xQ hf hc (n:=n) (by omega) (by omega)).2.2
  have:=nN f n hf.h1
  exact⟨by rw [hp.length_eq];exact this,fun x hx=>hp.mem_iff.1 hx⟩
 ·intro b hb
  simp only [yE,dM,kG] at hb
  obtain⟨i,_,rfl⟩:=hb
  split
  ·refine Uy (fun x hx=> ?_) (by simpa using hl) i
   obtain⟨n,hn,rfl⟩:=dM.1 hx
   have:=ht.nt n hn
   exact Bq hf hc (by omega) (by omega)
  ·omega
theorem M5{f:ae}{t:List ai}{c:aQ}(ah:Int)(hi:vE f)(hl:f.aa.length≤1048576)(ht:t.length≤1048576)(hn:∀n∈t,AG n)(hc:XJ c):
  Ii f t c ah=some (kL f t c ah)∧FF f t c ah=some (kL f t c ah)∧(kL f t c ah).1.length≤120:=by
 simp only [Ii,FF,EA hi hl ht hn hc,Ux hi hl ht hn hc,ar,FB,ii,iv,FD,kL]
 by_cases h:fO f=true∧iM t=true∧nO c=true
 ·have hf:=jA h.1 hi
  have I6:=lx h.2.1
  have Q2:=Bp h.2.2
  have v8:=I6.len
  simp only [h,and_self,oD,bU,cp]
  by_cases hr:0≤ah∧ah≤20000
  ·have e:(decide (ah≥0)&&decide (ah≤20000))=true:=by simp only [bY,bC];omega
   have rb:∀k (hk:k<t.length),(0≤t[k].cd∧t[k].cd≤199)∧(0≤t[k].aD∧t[k].aD≤47):=fun k hk=>by
    have:=I6.nt _ (bT hk);omega
   have lI:=gB (f:=Ii.ko f t c) t.length (fun k=>((t.take k).map (uQ f c),(k:Int))) (t.map (uQ f c)) (fun k hk=>by
    obtain⟨a1,a2⟩:=rb k hk
    simp only [Ii.ko,de hk,ar,zq hf a2.1 a2.2,(xQ hf Q2 a1 a2).1]
    rw [ak (by simpa using hk),ak (by simp;omega),wI ((k:Int)+1),jt hk,mu]
    rfl) (by simp [Ii.ko])
   have lS:=gB (f:=FF.p7 f t c) t.length (fun k=>((t.take k).map (uQ f c),(k:Int))) (t.map (uQ f c)) (fun k hk=>by
    obtain⟨a1,a2⟩:=rb k hk
    simp only [FF.p7,de hk,ar,(xQ hf Q2 a1 a2).2.1]
    rw [ak (by simpa using hk),ak (by simp;omega),wI ((k:Int)+1),jt hk,mu]
    rfl) (by simp [FF.p7])
   have lB:=gB (f:=FF.ko f t c) (t.length+1) (fun k=>((List.range k).map (fun i=>B3 (t.map (eP f c)) i),(k:Int))) (yE (t.map (eP f c)) t.length) (fun k hk=>by
    simp only [FF.ko,Qi hf Q2 I6 (show k≤t.length by omega),ar]
    rw [ak dT,ak (by simp;omega),wI ((k:Int)+1),oE,mu]
    rfl) (by
    simp only [FF.ko]
    rw [ax dF]
    simp [yE])
   simp only [List.take_zero,mD,List.range_zero] at lI lS lB
   have lI':loop (Ii.ko f t c) ([],0)=some (t.map (uQ f c)):=lI
   have lS':loop (FF.p7 f t c) ([],0)=some (t.map (uQ f c)):=lS
   have lB':loop (FF.ko f t c) ([],0)=some (yE (t.map (eP f c)) t.length):=lB
   have M6:=abN hf Q2 I6
   obtain⟨s1,s2,s3⟩:=Qp M6 hr t.length 200 130 (av.dC 96 0) [] 0 ⟨0,false,[],-1⟩ (by simp) (by omega) (by omega) lZ (by simp) ⟨by simp,hr.1,by simp,by simp⟩ rfl
   have ajl:(v_ f t c ah).over=false→0≤(v_ f t c ah).least:=by
    refine EE (by simp) ?_ ?_ t.length (av.dC 96 0) [] 0 _ (by simp) (by omega)
    ·intro xs x5 x hx
     obtain⟨n,hn',rfl⟩:=dM.1 x5
     have VW:=I6.nt n hn'
     have Ly:=(xQ hf Q2 (n:=n) (by omega) (by omega)).2.2.mem_iff.1 hx
     exact(sL Q2 (ly hf (n:=n) (by omega) (by omega) Ly)).1
    ·intro xs x5
     obtain⟨n,hn',rfl⟩:=dM.1 x5
     have VW:=I6.nt n hn'
     exact⟨⟨true,0,0,0⟩,(xQ hf Q2 (n:=n) (by omega) (by omega)).2.2.mem_iff.2 (by unfold bR;simp),rfl⟩
   have g1:Fh ⟨f,t,c,t.map (uQ f c),yE (t.map (eP f c)) t.length,ah,0,false,[],-1⟩ (av.dC 96 0) [] 0=some (Bv f t c (t.map (uQ f c)) (yE (t.map (eP f c)) t.length) ah (v_ f t c ah)):=s1
   have g2:Fv ⟨f,t,c,t.map (uQ f c),yE (t.map (eP f c)) t.length,ah,0,false,[],0⟩ (av.dC 96 0) [] 0=some (!(v_ f t c ah).over,Bw f t c (t.map (uQ f c)) (yE (t.map (eP f c)) t.length) ah (v_ f t c ah)):=s2
   have g3:(v_ f t c ah).fb.length≤120:=s3.2.2.2
   simp only [e,ak hr,hr,and_self,oD,bU,Qh hf Q2 I6,lI',lS',lB',ar,Ii.po,FF.nS,FF.ue,g1,g2,Bv,Bw]
   cases ho:(v_ f t c ah).over with
   | true=>simp
   | false=>simp [ajl ho,g3]
  ·have e:(decide (ah≥0)&&decide (ah≤20000))=false:=by
    rw [rD]
    simp only [ne_eq,bY,bC]
    omega
   simp [e,hr]
 ·simp [h]
end Go.Proofs.YtplklknkkaeniaaGreat
namespace Go.Proofs.YtplklknkkaeniaaGreat
open Eng
set_option linter.unusedVariables false
set_option linter.unusedSimpArgs false
def nP(c:aQ)(l:List ab):Int:=pu (l.map (cL c))
theorem K5:∀(a b:List Int),pu (a++b)=pu a+pu b
 | [],b=>by simp [pu]
 | x::a,b=>by simp only [nD,pu,K5 a b];omega
theorem xS(c:aQ)(x:ab)(l:List ab):nP c (x::l)=cL c x+nP c l:=rfl
theorem K6(c:aQ)(a b:List ab):nP c (a++b)=nP c a+nP c b:=by unfold nP;rw [mu,K5]
def fitsAt(f:ae)(t:List ai)(list:List ab)(k:Nat)(d:av 96 Int)(m:Nat):Prop:=∃e,mX (pv f t list) k d m= .inl e
theorem xU{f:ae}{t:List ai}{list r:List ab}{x:ab}{n:ai}{d:av 96 Int}{m:Nat}(hn:t[list.length]?=some n)(h:fitsAt f t (list++x::r) list.length d (m+1)):
  x∈bR f n∧∃d',mY f n x d=some d'∧fitsAt f t ((list++ [x])++r) (list.length+1) d' m:=by
 obtain⟨e,he⟩:=h
 have hx:(list++x::r)[list.length]?=some x:=by rw [nB (bt _)];simp
 simp only [mX,pv,hn,hx] at he
 by_cases hm:x∈bR f n
 ·refine⟨hm,?_⟩
  rw [ak hm] at he
  cases hp:mY f n x d with
  | none=>rw [hp] at he;cases he
  | some d'=>
   rw [hp] at he
   refine⟨d',rfl,e,?_⟩
   rw [show (list++ [x])++r=list++x::r by simp]
   exact he
 ·rw [ax hm] at he;cases he
theorem XQ{f:ae}(hf:kw f){t:List ai}(ht:xf t){c:aQ}(hc:CL c):∀(r list:List ab) (d:av 96 Int),list.length+r.length=t.length→fitsAt f t (list++r) list.length d r.length→B3 (t.map (eP f c)) list.length≤nP c r:=by
 intro r
 induction r with
 | nil=>
  intro list d hl _
  unfold B3
  rw [mR (by simp at hl;simp;omega)]
  simp [pu,nP]
 | cons x r ih=>
  intro list d hl h
  simp only [cf] at hl h
  have hk:list.length<t.length:=by omega
  obtain⟨h1,d',h2,h3⟩:=xU (bM hk) h
  have:=ih (list++ [x]) d' (by simp;omega) (by simpa using h3)
  rw [KU (show list.length<(t.map (eP f c)).length by simpa using hk),xS]
  simp only [cJ,cf,bN,List.getElem_map] at this⊢
  have hl:=(tv ((bR f t[list.length]).map (cL c)) c.bJ).2.1 (cL c x) (dM.2 ⟨x,h1,rfl⟩)
  have:eP f c t[list.length]≤cL c x:=hl
  simp only [lM] at*
  omega
structure abO (f:ae) (t:List ai) (c:aQ) (m:Nat) (go:av 96 Int→List ab→Int→SS→SS):Prop where
 pos:∀d l co s,l.length+m=t.length→0≤co→(go d l co s).over=false→0≤(go d l co s).least
 mono:∀d l co s,l.length+m=t.length→0≤co→(go d l co s).over=false→0≤s.least→co+B3 (t.map (eP f c)) l.length<s.least→(go d l co s).least≤s.least
 opt:∀d l co s,l.length+m=t.length→0≤co→(go d l co s).over=false→∀r,r.length=m→fitsAt f t (l++r) l.length d m→(go d l co s).least≤co+nP c r
theorem zA{f:ae}{t:List ai}{c:aQ}{n:ai}{ah:Int}{m:Nat}{go:av 96 Int→List ab→Int→SS→SS}(hg:abO f t c m go){d:av 96 Int}{list:List ab}{cost:Int}(hl:list.length+(m+1)=t.length)(Q1:0≤cost):
  ∀(xs:List ab) (s:SS),(∀x∈xs,0≤cL c x)→(iN f n c (B3 (t.map (eP f c)) (list.length+1)) ah go d list cost xs s).over=false→0≤s.least→(iN f n c (B3 (t.map (eP f c)) (list.length+1)) ah go d list cost xs s).least≤s.least:=by
 intro xs
 induction xs with
 | nil=>intro s _ _ _;exact Int.le_refl _
 | cons x xs ih=>
  intro s hx ho h0
  have x5:∀y∈xs,0≤cL c y:=fun y hy=>hx y (by simp [hy])
  have LR:=hx x (by simp)
  cases sX:mY f n x d with
  | none=>rw [sO sX] at ho⊢;exact ih s x5 ho h0
  | some d'=>
   by_cases hcut:0≤s.least∧s.least≤cost+cL c x+B3 (t.map (eP f c)) (list.length+1)
   ·rw [uO sX hcut] at ho⊢;exact ih s x5 ho h0
   ·by_cases hb:s.looks=ah
    ·rw [uP sX hcut hb] at ho;cases ho
    ·by_cases rR:(go d' (list++ [x]) (cost+cL c x) ⟨s.looks+1,s.over,s.fb,s.least⟩).over=true
     ·rw [sP sX hcut hb rR] at ho;rw [rR] at ho;cases ho
     ·rw [xj sX hcut hb rR] at ho⊢
      have UN:(go d' (list++ [x]) (cost+cL c x) ⟨s.looks+1,s.over,s.fb,s.least⟩).over=false:=by simpa using rR
      have h1:=hg.mono d' (list++ [x]) (cost+cL c x) _ (by simp;omega) (by omega) UN h0 (by simp only [cJ,cf,bN,lM];have:¬s.least≤_:=fun e=>hcut ⟨h0,e⟩;show _<s.least;omega)
      have h2:=hg.pos d' (list++ [x]) (cost+cL c x) _ (by simp;omega) (by omega) UN
      exact Int.le_trans (ih _ x5 ho h2) h1
theorem Qt{f:ae}(hf:kw f){t:List ai}(ht:xf t){c:aQ}(hc:CL c){n:ai}{ah:Int}{m:Nat}{go:av 96 Int→List ab→Int→SS→SS}(hg:abO f t c m go){d:av 96 Int}{list:List ab}{cost:Int}(hl:list.length+(m+1)=t.length)(Q1:0≤cost)
  (hn:t[list.length]?=some n):
  ∀(xs:List ab) (s:SS),(∀x∈xs,0≤cL c x)→(iN f n c (B3 (t.map (eP f c)) (list.length+1)) ah go d list cost xs s).over=false→∀x∈xs,∀r,r.length=m→fitsAt f t (list++x::r) list.length d (m+1)→
   (iN f n c (B3 (t.map (eP f c)) (list.length+1)) ah go d list cost xs s).least≤cost+nP c (x::r):=by
 intro xs
 induction xs with
 | nil=>intro s _ _ x hx;cases hx
 | cons x xs ih=>
  intro s hx ho y hy r hr we
  have x5:∀y∈xs,0≤cL c y:=fun y hy=>hx y (by simp [hy])
  have LR:=hx x (by simp)
  obtain⟨_,e,he,Zz⟩:=xU hn we
  cases sX:mY f n x d with
  | none=>
   rw [sO sX] at ho⊢
   rcases eK.1 hy with rfl | hy
   ·rw [sX] at he;cases he
   ·exact ih s x5 ho y hy r hr we
  | some d'=>
   by_cases hcut:0≤s.least∧s.least≤cost+cL c x+B3 (t.map (eP f c)) (list.length+1)
   ·rw [uO sX hcut] at ho⊢
    rcases eK.1 hy with rfl | hy
    ·have h1:=zA hg hl Q1 xs s x5 ho hcut.1
     have h2:=XQ hf ht hc r (list++ [y]) e (by simp;omega) (by rw [hr];simpa using Zz)
     rw [xS]
     simp only [cJ,cf,bN] at h2
     have h3:=hcut.2
     simp only [lM] at h2
     omega
    ·exact ih s x5 ho y hy r hr we
   ·by_cases hb:s.looks=ah
    ·rw [uP sX hcut hb] at ho;cases ho
    ·by_cases rR:(go d' (list++ [x]) (cost+cL c x) ⟨s.looks+1,s.over,s.fb,s.least⟩).over=true
     ·rw [sP sX hcut hb rR] at ho;rw [rR] at ho;cases ho
     ·rw [xj sX hcut hb rR] at ho⊢
      have UN:(go d' (list++ [x]) (cost+cL c x) ⟨s.looks+1,s.over,s.fb,s.least⟩).over=false:=by simpa using rR
      rcases eK.1 hy with rfl | hy
      ·rw [sX] at he
       obtain rfl:=e9 he
       have h1:=hg.opt d' (list++ [y]) (cost+cL c y) _ (by simp;omega) (by omega) UN r hr (by simpa using Zz)
       have h2:=hg.pos d' (list++ [y]) (cost+cL c y) _ (by simp;omega) (by omega) UN
       have h3:=zA hg hl Q1 xs _ x5 ho h2
       rw [xS]
       omega
      ·exact ih _ x5 ho y hy r hr we
structure UO (f:ae) (t:List ai) (c:aQ) (all:List (List ab)):Prop where
 al:all.length=t.length
 mem:∀(k:Nat) n xs,t[k]?=some n→all[k]?=some xs→∀x,x∈xs↔x∈bR f n
 cv:∀xs∈all,∀x∈xs,0≤cL c x
 aw:∀xs∈all,∃x∈xs,x.bJ=true
theorem XR{f:ae}{t:List ai}{c:aQ}{k:Nat}(hk:k≤t.length):((yE (t.map (eP f c)) t.length)[k]?).getD 0=B3 (t.map (eP f c)) k:=by
 unfold yE
 rw [tZ,List.getElem?_range (by simp;omega)]
 simp
theorem XS{f:ae}(hf:kw f){t:List ai}(ht:xf t){c:aQ}(hc:CL c){all:List (List ab)}(ha:UO f t c all)(ah:Int):∀m,abO f t c m (py f t c all (yE (t.map (eP f c)) t.length) ah m):=by
 intro m
 induction m with
 | zero=>
  refine⟨fun d l co s _ h _=>h,?_,?_⟩
  ·intro d l co s hl h0 ho hs gy
   have:B3 (t.map (eP f c)) l.length=0:=by unfold B3;rw [mR (by simp;omega)];rfl
   show co≤s.least
   omega
  ·intro d l co s hl h0 ho r hr _
   obtain rfl:=kb hr
   simp [py,nP,pu]
 | succ m ih=>
  have key:∀(l:List ab),l.length+(m+1)=t.length→∃n xs,t[l.length]?=some n∧all[l.length]?=some xs∧xs∈all∧∀d co s,py f t c all (yE (t.map (eP f c)) t.length) ah (m+1) d l co s=iN f n c (B3 (t.map (eP f c)) (l.length+1)) ah (py f t c all (yE (t.map (eP f c)) t.length) ah m) d l co xs s:=by
   intro l hl
   have AU:l.length<t.length:=by omega
   have II:l.length<all.length:=by rw [ha.al];exact AU
   refine⟨t[l.length],all[l.length],bM AU,bM II,bT II,fun d co s=> ?_⟩
   simp only [py,bM AU,bM II,XR (show l.length+1≤t.length by omega)]
  refine⟨?_,?_,?_⟩
  ·intro d l co s hl h0 ho
   exact EE ha.al ha.cv ha.aw (m+1) d l co s hl h0 ho
  ·intro d l co s hl h0 ho hs _
   obtain⟨n,xs,hn,hx,Ly,e⟩:=key l hl
   rw [e] at ho⊢
   exact zA ih hl h0 xs s (ha.cv xs Ly) ho hs
  ·intro d l co s hl h0 ho r hr we
   obtain⟨n,xs,hn,hx,Ly,e⟩:=key l hl
   rw [e] at ho⊢
   cases r with
   | nil=>simp at hr
   | cons x r=>
    obtain⟨OU,_⟩:=xU hn we
    exact Qt hf ht hc ih hl h0 hn xs s (ha.cv xs Ly) ho x ((ha.mem _ n xs hn hx x).2 OU) r (by simpa using hr) we
def Good(f:ae)(t:List ai)(c:aQ)(s:SS):Prop:=0≤s.least→s.fb.length=t.length∧fitsAt f t s.fb 0 (av.dC 96 0) t.length∧nP c s.fb=s.least
structure Ctx (f:ae) (t:List ai) (c:aQ) (d:av 96 Int) (l:List ab) (co:Int):Prop where
 sum:co=nP c l
 fit:∀rest,mX (pv f t (l++rest)) 0 (av.dC 96 0) t.length=mX (pv f t (l++rest)) l.length d (t.length-l.length)
theorem UP{f:ae}{t:List ai}{c:aQ}{d d':av 96 Int}{l:List ab}{co:Int}(h:Ctx f t c d l co){n:ai}(hn:t[l.length]?=some n){x:ab}(hx:x∈bR f n)(hp:mY f n x d=some d'):
  Ctx f t c d' (l++ [x]) (co+cL c x):=by
 have hk:l.length<t.length:=(gY.1 hn).1
 refine⟨by rw [K6,h.sum];simp [nP,pu],fun rest=> ?_⟩
 have h1:=h.fit (x::rest)
 have e1:(l++ [x])++rest=l++x::rest:=by simp
 rw [e1,h1,show t.length-l.length=(t.length-(l++ [x]).length)+1 by simp;omega]
 have hfp:pv f t (l++x::rest) l.length d=some d':=by
  unfold pv
  rw [hn,nB (bt _)]
  simp only [Nat.sub_self,tU]
  rw [ak hx,hp]
 simp only [mX,hfp,cJ,cf,bN]
theorem M7{f:ae}{t:List ai}{c:aQ}{n:ai}{b ah:Int}{go:av 96 Int→List ab→Int→SS→SS}{d:av 96 Int}{list:List ab}{cost:Int}(hc:Ctx f t c d list cost)(hn:t[list.length]?=some n)
  (VX:∀d' x co s,Ctx f t c d' (list++ [x]) co→Good f t c s→Good f t c (go d' (list++ [x]) co s)):
  ∀(xs:List ab) (s:SS),(∀x∈xs,x∈bR f n)→Good f t c s→Good f t c (iN f n c b ah go d list cost xs s):=by
 intro xs
 induction xs with
 | nil=>intro s _ h;exact h
 | cons x xs ih=>
  intro s hx h
  have x5:∀y∈xs,y∈bR f n:=fun y hy=>hx y (by simp [hy])
  cases sX:mY f n x d with
  | none=>rw [sO sX];exact ih s x5 h
  | some d'=>
   have agV:=UP hc hn (hx x (by simp)) sX
   have hs:Good f t c ⟨s.looks+1,s.over,s.fb,s.least⟩:=h
   by_cases hcut:0≤s.least∧s.least≤cost+cL c x+b
   ·rw [uO sX hcut];exact ih s x5 h
   ·by_cases hb:s.looks=ah
    ·rw [uP sX hcut hb];exact h
    ·by_cases rR:(go d' (list++ [x]) (cost+cL c x) ⟨s.looks+1,s.over,s.fb,s.least⟩).over=true
     ·rw [sP sX hcut hb rR];exact VX d' x _ _ agV hs
     ·rw [xj sX hcut hb rR];exact ih _ x5 (VX d' x _ _ agV hs)
theorem Qu{f:ae}{t:List ai}{c:aQ}{all:List (List ab)}(ha:UO f t c all)(lz:List Int)(ah:Int):
  ∀(m:Nat) (d:av 96 Int) (l:List ab) (co:Int) (s:SS),l.length+m=t.length→Ctx f t c d l co→Good f t c s→Good f t c (py f t c all lz ah m d l co s):=by
 intro m
 induction m with
 | zero=>
  intro d l co s hl hc _ _
  have h1:=hc.fit []
  rw [gz,show t.length-l.length=0 by omega] at h1
  exact⟨by show l.length=t.length;omega,⟨d,h1⟩,hc.sum.symm⟩
 | succ m ih=>
  intro d l co s hl hc h
  have AU:l.length<t.length:=by omega
  have II:l.length<all.length:=by rw [ha.al];exact AU
  have hn:=bM AU
  simp only [py,hn,bM II]
  exact M7 hc hn (fun d' x co s h1 h2=>ih d' (l++ [x]) co s (by simp;omega) h1 h2) _ s (fun x hx=>(ha.mem _ _ _ hn (bM II) x).1 hx) h
theorem abP{f:ae}(hf:kw f){c:aQ}(hc:CL c){t:List ai}(ht:xf t):UO f t c (t.map (uQ f c)):=by
 have hp:∀n∈t,(uQ f c n).Perm (bR f n):=fun n hn=>by
  have:=ht.nt n hn
  exact(xQ hf hc (n:=n) (by omega) (by omega)).2.2
 refine⟨by simp,?_,?_,?_⟩
 ·intro k n xs hn hx x
  rw [tZ,hn] at hx
  obtain rfl:=e9 hx
  exact(hp n (dt hn)).mem_iff
 ·intro xs x5 x hx
  obtain⟨n,hn,rfl⟩:=dM.1 x5
  have VW:=ht.nt n hn
  exact(sL hc (ly hf (n:=n) (by omega) (by omega) ((hp n hn).mem_iff.1 hx))).1
 ·intro xs x5
  obtain⟨n,hn,rfl⟩:=dM.1 x5
  exact⟨⟨true,0,0,0⟩,(hp n hn).mem_iff.2 (by unfold bR;simp),rfl⟩
theorem Qv{f:ae}(hf:kw f){c:aQ}(hc:CL c){t:List ai}(ht:xf t)(ah:Int)(ho:(v_ f t c ah).over=false):
  0≤(v_ f t c ah).least∧(v_ f t c ah).fb.length=t.length∧fitsAt f t (v_ f t c ah).fb 0 (av.dC 96 0) t.length∧nP c (v_ f t c ah).fb=(v_ f t c ah).least∧
  ∀r:List ab,r.length=t.length→fitsAt f t r 0 (av.dC 96 0) t.length→(v_ f t c ah).least≤nP c r:=by
 have ha:=abP hf hc ht
 have hg:=XS hf ht hc ha ah t.length
 have hp:=hg.pos (av.dC 96 0) [] 0 ⟨0,false,[],-1⟩ (by simp) (by omega) ho
 have agW:=Qu ha (yE (t.map (eP f c)) t.length) ah t.length (av.dC 96 0) [] 0 ⟨0,false,[],-1⟩ (by simp) ⟨by simp [nP,pu],fun rest=>by simp⟩ (fun h=>by simp at h)
 obtain⟨g1,g2,g3⟩:=agW hp
 refine⟨hp,g1,g2,g3,fun r hr we=> ?_⟩
 have:=hg.opt (av.dC 96 0) [] 0 ⟨0,false,[],-1⟩ (by simp) (by omega) ho r hr (by simpa using we)
 have e:v_ f t c ah=py f t c (t.map (uQ f c)) (yE (t.map (eP f c)) t.length) ah t.length (av.dC 96 0) [] 0 ⟨0,false,[],-1⟩:=rfl
 rw [e]
 omega
end Go.Proofs.YtplklknkkaeniaaGreat
namespace Go.Proofs.YtplklknkkaeniaaGreat
open Eng
set_option linter.unusedVariables false
set_option linter.unusedSimpArgs false
def pick(c:aQ)(m x:ab):ab:=if cL c x<cL c m then x else m
end Go.Proofs.YtplklknkkaeniaaGreat
namespace Go.Proofs.YtplklknkkaeniaaGreat
open Eng
set_option linter.unusedVariables false
set_option linter.unusedSimpArgs false
structure yf (s:a6) (b:Nat):Prop where
 EF:∀y∈s.aJ,0≤y∧y≤255
 a0:0≤s.dy
 a1:s.dy≤b
theorem abQ(x:Int):0≤qH .u64 x 255∧qH .u64 x 255≤255:=by
 have h:(BitVec.ofInt 64 x&&&BitVec.ofInt 64 255).toNat≤255:=by
  rw [BitVec.toNat_and]
  exact k7 Nat.and_le_right (by decide)
 show 0≤IntKind.u64.wrap (((BitVec.ofInt 64 x&&&BitVec.ofInt 64 255).toNat:Nat):Int)∧IntKind.u64.wrap (((BitVec.ofInt 64 x&&&BitVec.ofInt 64 255).toNat:Nat):Int)≤255
 generalize (BitVec.ofInt 64 x&&&BitVec.ofInt 64 255).toNat=m at h
 have:IntKind.u64.wrap (m:Int)=(m:Int):=u64_in (by omega) (by omega)
 rw [this];omega
theorem XT{s:a6}{b:Nat}(h:yf s b)(hb:b≤1000000):∃x s',LF s=some (x,s')∧0≤x∧x≤255∧yf s' (b+1)∧s'.aJ=s.aJ:=by
 have e:=h.a0;have e1:=h.a1
 have key:∀i:Int,0≤i→i≤255→∃x s',LF.fk s i=some (x,s')∧0≤x∧x≤255∧yf s' (b+1)∧s'.aJ=s.aJ:=by
  intro i h0 h1
  simp only [LF.fk]
  rw [wI (s.dy+1)]
  split
  ·exact⟨_,_,rfl,h0,h1,⟨h.EF,by simp only;omega,by simp only;omega⟩,rfl⟩
  ·have:=abQ (eC .u64 (u64 ((u64 ((u64 (s.bF*6364136223846793005))+(u64 i)))+1442695040888963407)) 40)
   rw [bc (by omega) (by omega)]
   exact⟨_,_,rfl,this.1,this.2,⟨h.EF,by simp only;omega,by simp only;omega⟩,rfl⟩
 simp only [LF]
 by_cases c:s.dy<(s.aJ.length:Int)
 ·rw [ak (by simpa using c)]
  have hl:s.dy.toNat<s.aJ.length:=by omega
  have e2:ix s.aJ s.dy=some s.aJ[s.dy.toNat]:=by
   have:=de hl
   rwa [show ((s.dy.toNat:Nat):Int)=s.dy by omega] at this
  have hy:=h.EF _ (bT hl)
  simp only [e2,ar]
  rw [bc (by omega) (by omega)]
  exact key _ hy.1 hy.2
 ·rw [ax (by simpa using c)]
  exact key 0 (by omega) (by omega)
theorem iw{s:a6}{b:Nat}(h:yf s b)(hb:b≤900000){n:Int}(hn:n≤200):∃x s',Fl s n=some (x,s')∧0≤x∧(1≤n→x<n)∧yf s' (b+1)∧s'.aJ=s.aJ:=by
 simp only [Fl]
 by_cases c:n≤1
 ·rw [ak (by simpa using c)]
  exact⟨0,s,rfl,by omega,fun _=>by omega,⟨h.EF,h.a0,by have:=h.a1;omega⟩,rfl⟩
 ·rw [ax (by simpa using c)]
  obtain⟨x,s',h1,h2,h3,h4,h5⟩:=XT h (by omega)
  simp only [h1,ar,Fl.ue]
  rw [ax dF,ak (by omega)]
  refine⟨_,_,rfl,?_,fun _=> ?_,⟨h.EF,h4.a0,h4.a1⟩,rfl⟩
  ·rw [xy h2];exact Int.emod_nonneg _ (by omega)
  ·rw [xy h2];exact Int.emod_lt_of_pos _ (by omega)
theorem ik{s:a6}{c:List Int}(h:s.aJ=c):(⟨c,s.dy,s.bF⟩:a6)=s:=by
 cases s;subst h;rfl
theorem qD(code:List Int)(hc:∀y∈code,0≤y∧y≤255):E2 code=some ⟨code,0,0⟩∧yf ⟨code,0,0⟩ 0:=⟨rfl,hc,by simp,by simp⟩
theorem yF{s:a6}{b:Nat}(h:yf s b)(hb:b≤100):∃f s',FX s=some (f,s')∧kw f∧f.ag≤17∧f.aa.length≤5∧s'.aJ=s.aJ:=by
 obtain⟨x1,s1,e1,p1,q1,o1,c1⟩:=iw h (by omega) (n:=14) (by omega)
 obtain⟨x2,s2,e2,p2,q2,o2,c2⟩:=iw o1 (by omega) (n:=5) (by omega)
 have q1:=q1 (by omega);have q2:=q2 (by omega)
 have ZA:s2.aJ=s.aJ:=c2.trans c1
 simp only [FX,e1,ar,ik c1,e2]
 rw [wI (1+x2)]
 obtain⟨⟨a3,a4,hs⟩,hr,g1,g2,g3⟩:=gA (f:=FX.kq s) (fun st=>∃k:Nat,k≤5∧st.2.2.2=(k:Int)∧st.2.2.1.length+k=(1+x2).toNat∧(∀y∈st.2.2.1,(22≤y.aD∧y.aD≤25)∧(1≤y.fg∧y.fg≤4))∧yf ⟨s.aJ,st.1,st.2.1⟩ (b+2+2*st.2.2.1.length)) (fun st=>st.2.2.2.toNat)
  (fun r=>r.2.2.length=(1+x2).toNat∧(∀y∈r.2.2,(22≤y.aD∧y.aD≤25)∧(1≤y.fg∧y.fg≤4))∧yf ⟨s.aJ,r.1,r.2.1⟩ (b+20)) (by
  rintro⟨i,j,xs,_⟩ ⟨k,hk,rfl,hl,hx,ho⟩
  simp only at hl hx ho
  by_cases c:k=0
  ·right
   subst c
   simp only [FX.kq]
   rw [ax (by decide)]
   exact⟨_,rfl,by simp only;omega,hx,⟨ho.EF,ho.a0,by have:=ho.a1;simp only at this⊢;omega⟩⟩
  ·left
   obtain⟨y1,t1,e3,p3,q3,o3,c3⟩:=iw ho (by omega) (n:=4) (by omega)
   obtain⟨y2,t2,e4,p4,q4,o4,c4⟩:=iw o3 (by omega) (n:=4) (by omega)
   have q3:=q3 (by omega);have q4:=q4 (by omega)
   have Qw:t1.aJ=s.aJ:=c3
   have XU:t2.aJ=s.aJ:=c4.trans c3
   simp only [FX.kq,e3,ar,ik Qw,e4]
   rw [ak dT,ak (by simp only [cf,bN];omega)]
   rw [wI (22+y1),vC (n:=22+y1) (by omega) (by omega),wI (1+y2),vC (n:=1+y2) (by omega) (by omega),wI ((k:Int)-1)]
   refine⟨_,rfl,⟨k-1,by omega,by simp only;omega,by simp only [cJ,cf,bN];omega,?_,?_⟩,by simp only;omega⟩
   ·intro y hy
    rcases dw.1 hy with hy | hy
    ·exact hx y hy
    ·rw [dG] at hy;subst hy;simp only;omega
   ·have e5:=ik XU
    simp only [cJ,cf,bN]
    rw [e5]
    exact⟨o4.EF,o4.a0,by have:=o4.a1;omega⟩) (s2.dy,s2.bF,[],1+x2) ⟨(1+x2).toNat,by omega,by simp only;omega,by simp,by simp,by
   simp only [bN]
   rw [ik ZA]
   exact⟨o2.EF,o2.a0,by have:=o2.a1;omega⟩⟩
 simp only at g1 g2 g3
 simp only [hr,ar,FX.po]
 rw [wI (4+x1),vd (n:=4+x1) (by omega) (by omega)]
 refine⟨_,_,rfl,⟨by simp only;omega,by simp only;omega,by simp only;omega,by simp only;omega,fun y hy=> ?_⟩,by simp only;omega,by simp only;omega,rfl⟩
 have:=g2 y hy
 simp only
 omega
theorem M8(code:List Int)(hc:∀y∈code,0≤y∧y≤255):∃f,Fb6 code=some f∧kw f∧f.ag≤17∧f.aa.length≤5:=by
 obtain⟨h1,h2⟩:=qD code hc
 obtain⟨f,s',e,g1,g2,g3,_⟩:=yF h2 (by omega)
 simp only [Fb6,h1,ar,e]
 exact⟨f,rfl,g1,g2,g3⟩
end Go.Proofs.YtplklknkkaeniaaGreat
namespace Go.Proofs.YtplklknkkaeniaaGreat
open Eng
set_option linter.unusedVariables false
set_option linter.unusedSimpArgs false
theorem K7{s:a6}{b:Nat}(h:yf s b)(hb:b≤900000){list:List Int}(h1:1≤list.length)(hn:list.length≤200):∃x s',Xu s list=some (x,s')∧x∈list∧yf s' (b+1)∧s'.aJ=s.aJ:=by
 obtain⟨x,s',e,p,q,o,c⟩:=iw h hb (n:=(list.length:Int)) (by omega)
 have q:=q (by omega)
 obtain⟨k,rfl⟩:∃k:Nat,x=(k:Int):=⟨x.toNat,by omega⟩
 refine⟨list[k]'(by omega),s',?_,bT _,o,c⟩
 simp only [Xu,e,ar,de (show k<list.length by omega)]
 rw [ik c]
theorem XV{x:Int}(h:x∈ [(22:Int),23,24,34,35]):22≤x∧x≤35:=by
 simp only [eK,cq,or_false] at h
 omega
theorem abR{x:Int}(h:x∈ [(22:Int),23,24,34,35,12]):12≤x∧x≤35:=by
 simp only [eK,cq,or_false] at h
 omega
structure OV (f:ae) (t:List ai):Prop where
 fr:kw f
 tn:xf t
 st:f.ag≤13
 hm:f.aa.length≤3
 tl:t.length≤4
theorem M9{s:a6}{b:Nat}(h:yf s b)(hb:b≤100){m:Int}(hm:1≤m∧m≤3){i j:Int}(hi:(⟨s.aJ,i,j⟩:a6)=s):
  ∃i' j' xs,loop (FJ.Gm s) (i,j,[],m)=some (i',j',xs)∧xs.length=m.toNat∧(∀y∈xs,(22≤y.aD∧y.aD≤35)∧(1≤y.fg∧y.fg≤4))∧yf ⟨s.aJ,i',j'⟩ (b+6):=by
 obtain⟨⟨a3,a4,hs⟩,hr,g1,g2,g3⟩:=gA (f:=FJ.Gm s) (fun st=>∃k:Nat,k≤3∧st.2.2.2=(k:Int)∧st.2.2.1.length+k=m.toNat∧(∀y∈st.2.2.1,(22≤y.aD∧y.aD≤35)∧(1≤y.fg∧y.fg≤4))∧yf ⟨s.aJ,st.1,st.2.1⟩ (b+2*st.2.2.1.length)) (fun st=>st.2.2.2.toNat)
  (fun r=>r.2.2.length=m.toNat∧(∀y∈r.2.2,(22≤y.aD∧y.aD≤35)∧(1≤y.fg∧y.fg≤4))∧yf ⟨s.aJ,r.1,r.2.1⟩ (b+6)) (by
  rintro⟨i,j,xs,_⟩ ⟨k,hk,rfl,hl,hx,ho⟩
  simp only at hl hx ho
  by_cases c:k=0
  ·right
   subst c
   simp only [FJ.Gm]
   rw [ax (by decide)]
   exact⟨_,rfl,by simp only;omega,hx,⟨ho.EF,ho.a0,by have:=ho.a1;simp only at this⊢;omega⟩⟩
  ·left
   obtain⟨y1,t1,e3,p3,o3,c3⟩:=K7 ho (by omega) (list:= [22,23,24,34,35]) (by simp) (by simp)
   obtain⟨y2,t2,e4,p4,q4,o4,c4⟩:=iw o3 (by omega) (n:=4) (by omega)
   have q4:=q4 (by omega)
   have p3:=XV p3
   have Qw:t1.aJ=s.aJ:=c3
   have XU:t2.aJ=s.aJ:=c4.trans c3
   simp only [FJ.Gm,e3,ar,ik Qw,e4]
   rw [ak dT,ak (by simp only [cf,bN];omega)]
   rw [vC (n:=y1) (by omega) (by omega),wI (1+y2),vC (n:=1+y2) (by omega) (by omega),wI ((k:Int)-1)]
   refine⟨_,rfl,⟨k-1,by omega,by simp only;omega,by simp only [cJ,cf,bN];omega,?_,?_⟩,by simp only;omega⟩
   ·intro y hy
    rcases dw.1 hy with hy | hy
    ·exact hx y hy
    ·rw [dG] at hy;subst hy;simp only;omega
   ·have e5:=ik XU
    simp only [cJ,cf,bN]
    rw [e5]
    exact⟨o4.EF,o4.a0,by have:=o4.a1;omega⟩) (i,j,[],m) ⟨m.toNat,by omega,by simp only;omega,by simp,by simp,by
   simp only [bN]
   rw [hi]
   exact⟨h.EF,h.a0,by have:=h.a1;omega⟩⟩
 exact⟨_,_,_,hr,g1,g2,g3⟩
theorem K8{s:a6}{b:Nat}(h:yf s b)(hb:b≤100){t1:Int×a6}(ht:0≤t1.1∧t1.1≤7){m:Int}(hm:0≤m∧m≤4){i j:Int}(hi:yf ⟨s.aJ,i,j⟩ b):
  ∃xs i' j',loop (FJ.DR s t1) ([],i,j,m)=some (xs,i',j')∧xs.length≤4∧∀y∈xs,(0≤y.cd∧y.cd≤13)∧(12≤y.aD∧y.aD≤35):=by
 obtain⟨⟨xs,a3,a4⟩,hr,g1,g2⟩:=gA (f:=FJ.DR s t1) (fun st=>∃k:Nat,k≤4∧st.2.2.2=(k:Int)∧st.1.length+k≤4∧(∀y∈st.1,(0≤y.cd∧y.cd≤13)∧(12≤y.aD∧y.aD≤35))∧yf ⟨s.aJ,st.2.1,st.2.2.1⟩ (b+2*st.1.length)) (fun st=>st.2.2.2.toNat)
  (fun r=>r.1.length≤4∧∀y∈r.1,(0≤y.cd∧y.cd≤13)∧(12≤y.aD∧y.aD≤35)) (by
  rintro⟨xs,i,j,_⟩ ⟨k,hk,rfl,hl,hx,ho⟩
  simp only at hl hx ho
  by_cases c:k=0
  ·right
   subst c
   simp only [FJ.DR]
   rw [ax (by decide)]
   exact⟨_,rfl,by simp only;omega,hx⟩
  ·left
   have e0:au (ot (au (6+t1.1)))=6+t1.1:=by
    rw [wI (6+t1.1),vd (by omega) (by omega),bc (by omega) (by omega)]
   obtain⟨y1,s1,e3,p3,q3,o3,c3⟩:=iw ho (by omega) (n:=6+t1.1) (by omega)
   have q3:=q3 (by omega)
   obtain⟨y2,s2,e4,p4,o4,c4⟩:=K7 o3 (by omega) (list:= [22,23,24,34,35,12]) (by simp) (by simp)
   have p4:=abR p4
   have Qw:s1.aJ=s.aJ:=c3
   have XU:s2.aJ=s.aJ:=c4.trans c3
   simp only [FJ.DR,e0,e3,ar,ik Qw,e4]
   rw [ak dT,ak (by simp only [cf,bN];omega)]
   rw [vd (n:=y1) (by omega) (by omega),vC (n:=y2) (by omega) (by omega),wI ((k:Int)-1)]
   refine⟨_,rfl,⟨k-1,by omega,by simp only;omega,by simp only [cJ,cf,bN];omega,?_,?_⟩,by simp only;omega⟩
   ·intro y hy
    rcases dw.1 hy with hy | hy
    ·exact hx y hy
    ·rw [dG] at hy;subst hy;simp only;omega
   ·have e5:=ik XU
    simp only [cJ,cf,bN]
    rw [e5]
    exact⟨o4.EF,o4.a0,by have:=o4.a1;omega⟩) ([],i,j,m) ⟨m.toNat,by omega,by simp only;omega,by simp only [bN];omega,by simp,by
   simp only [bN];exact hi⟩
 exact⟨_,_,_,hr,g1,g2⟩
theorem M_(code:List Int)(hc:∀y∈code,0≤y∧y≤255):∃f t,Fb8 code=some (f,t)∧OV f t:=by
 obtain⟨e,h⟩:=qD code hc
 obtain⟨x1,s1,e1,p1,q1,o1,c1⟩:=iw h (by omega) (n:=8) (by omega)
 obtain⟨x2,s2,e2,p2,q2,o2,c2⟩:=iw o1 (by omega) (n:=3) (by omega)
 have q1:=q1 (by omega);have q2:=q2 (by omega)
 have c1':s1.aJ=code:=c1
 have ZA:s2.aJ=code:=c2.trans c1
 simp only [Fb8,e,ar,FJ,e1,ik c1',e2]
 have xD:yf ⟨code,0,0⟩ 0:=h
 have key:∃i' j' xs,loop (FJ.Gm ⟨code,0,0⟩) (s2.dy,s2.bF,[],au (1+x2))=some (i',j',xs)∧xs.length=(1+x2).toNat∧(∀y∈xs,(22≤y.aD∧y.aD≤35)∧(1≤y.fg∧y.fg≤4))∧yf ⟨code,i',j'⟩ 8:=by
  rw [wI (1+x2)]
  obtain⟨i',j',xs,h1,h2,h3,h4⟩:=M9 (s:=s2) o2 (by omega) (m:=1+x2) (by omega) (i:=s2.dy) (j:=s2.bF) (by cases s2;rfl)
  rw [ZA] at h4
  have hf:FJ.Gm s2=FJ.Gm ⟨code,0,0⟩:=by
   funext st
   obtain⟨a,b,c,d⟩:=st
   simp only [FJ.Gm,ZA]
  rw [hf] at h1
  exact⟨i',j',xs,h1,h2,h3,h4⟩
 obtain⟨i',j',xs,h1,h2,h3,h4⟩:=key
 simp only [h1,ar,FJ.po]
 obtain⟨x3,s3,e3,p3,q3,o3,c3⟩:=iw h4 (by omega) (n:=5) (by omega)
 have q3:=q3 (by omega)
 have Qw:s3.aJ=code:=c3
 have hk:yf ⟨code,s3.dy,s3.bF⟩ 9:=by rw [ik Qw];exact o3
 obtain⟨ns,i2,j2,n1,n2,n3⟩:=K8 (s:=⟨code,0,0⟩) (b:=9) ⟨xD.EF,xD.a0,by have:=xD.a1;omega⟩ (by omega) (t1:=(x1,s1)) (by simp only;omega) (m:=x3) (by omega) (i:=s3.dy) (j:=s3.bF) hk
 obtain⟨r,r1,r2,r3,r4⟩:=l5 ns (by omega)
 simp only [e3,ar,n1,FJ.tG,r1]
 have e0:ot (au (6+x1))=6+x1:=by
  rw [wI (6+x1),vd (by omega) (by omega)]
 rw [e0]
 refine⟨_,_,rfl,⟨⟨by simp only;omega,by simp only;omega,by simp only;omega,by simp only;omega,fun y hy=> ?_⟩,⟨by omega,fun y hy=> ?_,r2⟩,by simp only;omega,by simp only;omega,by omega⟩⟩
 ·have:=h3 y hy
  simp only
  omega
 ·have:=n3 y ((r3 y).1 hy)
  omega
theorem UQ(f:ae)(n:ai)(i:Nat)(hf:f.aa.length≤3):(la f n i).length≤9:=by
 unfold la
 split
 ·split
  ·rename_i l _ _
   have:=nG 3 3 (oc f n l) (fun k _=>by
    unfold oc
    split
    ·rename_i o _;have:=Uw f n l o;omega
    ·simp)
   omega
  ·simp
 ·simp
theorem IJ(code:List Int)(hc:∀y∈code,0≤y∧y≤255){f:ae}{t:List ai}(hs:OV f t):
  ∃list d,FU code f t=some list∧list.length=t.length∧(∀(k:Nat) (h1:k<list.length) (h2:k<t.length),list[k]∈bR f t[k])∧Cw f t list= .inl d:=by
 obtain⟨e,h⟩:=qD code hc
 have hf:=hs.fr;have v8:=hs.tl;have hh:=hs.hm
 simp only [FU,e,ar]
 have key:∃r:List ab×av 96 Int×Int×Int,loop (FU.jX code f t) ([],av.dC 96 0,0,0,0)=some r∧(r.1.length=t.length∧(∀(k:Nat) (h1:k<r.1.length) (h2:k<t.length),r.1[k]∈bR f t[k])∧mX (pv f t r.1) 0 (av.dC 96 0) t.length= .inl r.2.1):=by
  refine gA (f:=FU.jX code f t) (fun st=>∃k:Nat,k≤t.length∧st.2.2.2.2=(k:Int)∧st.1.length=k∧gM st.2.1∧(∀(j:Nat) (h1:j<st.1.length) (h2:j<t.length),st.1[j]∈bR f t[j])∧yf ⟨code,st.2.2.1,st.2.2.2.1⟩ (2*k)∧∀rest,mX (pv f t (st.1++rest)) 0 (av.dC 96 0) t.length=mX (pv f t (st.1++rest)) k st.2.1 (t.length-k)) (fun st=>(t.length:Nat)-st.2.2.2.2.toNat) _ ?_ _ ⟨0,by omega,rfl,rfl,lZ,by simp,h,fun rest=>rfl⟩
  rintro⟨xs,a,i,j,_⟩ ⟨k,hk,rfl,hl,hd,hx,ho,htr⟩
  simp only at hl hd hx ho htr
  by_cases c:k=t.length
  ·right
   subst c
   simp only [FU.jX]
   rw [ax (by simp)]
   refine⟨_,rfl,hl,hx,?_⟩
   have:=htr []
   simpa [mX] using this
  ·left
   have AU:k<t.length:=by omega
   have hn:=hs.tn.nt _ (bT AU)
   have Rg:=nN f t[k] hf.h1
   have jR:1≤(bR f t[k]).length:=by unfold bR;simp
   have zM:(bR f t[k]).length≤200:=by
    have h1:∀i,(la f t[k] i).length≤9:=fun i=>UQ f t[k] i hh
    have:=nG 7 9 (la f t[k]) (fun k _=>h1 k)
    simp only [bR,cJ,cf,bN]
    omega
   obtain⟨y1,s1,e3,p3,q3,o3,c3⟩:=iw ho (by omega) (n:=((bR f t[k]).length:Int)) (by omega)
   have q3:=q3 (by omega)
   obtain⟨m,rfl⟩:∃m:Nat,y1=(m:Int):=⟨y1.toNat,by omega⟩
   have hm:m<(bR f t[k]).length:=by omega
   have lO:(bR f t[k])[m]∈bR f t[k]:=bT hm
   have Qw:s1.aJ=code:=c3
   have agX:(⟨true,0,0,0⟩:ab)∈bR f t[k]:=by unfold bR;simp
   have ZB:yf ⟨code,s1.dy,s1.bF⟩ (2*(k+1)):=by rw [ik Qw];exact⟨o3.EF,o3.a0,by have:=o3.a1;omega⟩
   have hw:au ((k:Int)+1)=((k+1:Nat):Int):=by rw [bc (by omega) (by omega)];omega
   have fin:∀(x:ab) (d':av 96 Int),x∈bR f t[k]→mY f t[k] x a=some d'→∃s',FU.PZ xs (k:Int) ((m:Int),s1) d' x.bJ x.cP x.ba x.eU=some (.inl s')∧(∃k':Nat,k'≤t.length∧s'.2.2.2.2=(k':Int)∧s'.1.length=k'∧gM s'.2.1∧(∀(j:Nat) (h1:j<s'.1.length) (h2:j<t.length),s'.1[j]∈bR f t[j])∧yf ⟨code,s'.2.2.1,s'.2.2.2.1⟩ (2*k')∧∀rest,mX (pv f t (s'.1++rest)) 0 (av.dC 96 0) t.length=mX (pv f t (s'.1++rest)) k' s'.2.1 (t.length-k'))∧(t.length:Nat)-s'.2.2.2.2.toNat<t.length-(k:Int).toNat:=by
    intro x d' OU hp
    simp only [FU.PZ,hw]
    rw [ak (by simp only [cf,bN];omega)]
    refine⟨_,rfl,⟨k+1,by omega,rfl,by simp [hl],IE hf (show 0≤t[k].cd∧t[k].cd≤199 by omega) (by omega) OU hd hp,?_,ZB,?_⟩,by simp only;omega⟩
    ·intro j h1 h2
     simp only [cJ,cf,bN] at h1
     by_cases cj:j<xs.length
     ·simp only [List.getElem_append_left cj]
      exact hx j cj h2
     ·obtain rfl:j=k:=by omega
      have:(xs++ [x])[j]'(by simp;omega)=x:=by rw [List.getElem_append_right (by omega)];simp
      show (xs++ [x])[j]'(by simp;omega)∈bR f t[j]
      rw [this]
      exact OU
    ·intro rest
     have h1:=htr (x::rest)
     have e1:(xs++ [x])++rest=xs++x::rest:=by simp
     show mX (pv f t ((xs++ [x])++rest)) 0 (av.dC 96 0) t.length=mX (pv f t ((xs++ [x])++rest)) (k+1) d' (t.length-(k+1))
     rw [e1,h1,show t.length-k=(t.length-(k+1))+1 by omega]
     have hfp:pv f t (xs++x::rest) k a=some d':=by
      unfold pv
      rw [bM AU,nB (by omega),hl]
      simp only [Nat.sub_self,tU]
      rw [ak OU,hp]
     simp only [mX,hfp]
   simp only [FU.jX,de AU,ar,xM hf,e3,de hm,xP hf (show 0≤t[k].cd∧t[k].cd≤199 by omega) (show 0≤t[k].aD∧t[k].aD≤47 by omega) lO hd]
   rw [ak (by simpa using AU)]
   cases hp:mY f t[k] (bR f t[k])[m] a with
   | none=>
    simp only [oF,cp]
    exact fin ⟨true,0,0,0⟩ a agX (by simp [mY])
   | some d'=>
    simp only [jv,cM,bU]
    exact fin _ d' lO hp
 obtain⟨r,hr,g1,g2,g3⟩:=key
 have e0:(loop (FU.jX code f t) (([]:List ab),(av.dC 96 0),(⟨code,0,0⟩:a6).dy,(⟨code,0,0⟩:a6).bF,0))=some r:=hr
 simp only [e0,ar,FU.po]
 exact⟨_,_,rfl,g1,g2,g3⟩
end Go.Proofs.YtplklknkkaeniaaGreat
namespace Go.Proofs.YtplklknkkaeniaaGreat
open Eng
set_option linter.unusedVariables false
set_option linter.unusedSimpArgs false
theorem M'{f:ae}(hf:kw f){n:ai}(ha:0≤n.cd∧n.cd≤199)(hp:0≤n.aD∧n.aD≤47){x:ab}(hx:x∈bR f n):hP x=true:=by
 have xN:=hf.h1
 rcases(zr hf ha hp x).1 hx with rfl | ⟨h1,h2,h3,h4,k,h5,h6,h7⟩
 ·rfl
 ·unfold hP
  rw [h1]
  simp only [cM,bU,bY,bC]
  rw [wI x.cP,wI x.ba,wI x.eU]
  omega
theorem Na(code:List Int)(hc:∀y∈code,0≤y∧y≤255):∃c,Fb9 code=some c∧CL c∧XJ c:=by
 obtain⟨e,h⟩:=qD code hc
 obtain⟨x1,s1,e1,p1,q1,o1,c1⟩:=iw h (by omega) (n:=12) (by omega)
 obtain⟨x2,s2,e2,p2,q2,o2,c2⟩:=iw o1 (by omega) (n:=6) (by omega)
 obtain⟨x3,s3,e3,p3,q3,o3,c3⟩:=iw o2 (by omega) (n:=4) (by omega)
 have q1:=q1 (by omega);have q2:=q2 (by omega);have q3:=q3 (by omega)
 have c1':s1.aJ=code:=c1
 have ZA:s2.aJ=code:=c2.trans c1
 simp only [Fb9,e,ar,FbD,e1,ik c1',e2,ik ZA,e3]
 rw [vd (n:=x1) (by omega) (by omega),vd (n:=x2) (by omega) (by omega),vd (n:=x3) (by omega) (by omega)]
 exact⟨_,rfl,⟨by simp only;omega,by simp only;omega,by simp only;omega⟩,⟨by simp only;omega,by simp only;omega,by simp only;omega⟩⟩
theorem Qx{c:aQ}(h:CL c):nO c=true:=by
 have h1:=h.a;have h2:=h.o;have h3:=h.s
 unfold nO
 simp only [bY,bC]
 omega
structure zB (f:ae) (t:List ai) (l:List ab):Prop where
 len:l.length=t.length
 fit:fitsAt f t l 0 (av.dC 96 0) t.length
theorem UR{f:ae}{t:List ai}:∀(r list:List ab) (d:av 96 Int),list.length+r.length=t.length→fitsAt f t (list++r) list.length d r.length→∀x∈r,∃n∈t,x∈bR f n:=by
 intro r
 induction r with
 | nil=>intro _ _ _ _ x hx;cases hx
 | cons y r ih=>
  intro list d hl h x hx
  simp only [cf] at hl h
  have hk:list.length<t.length:=by omega
  obtain⟨h1,d',_,h3⟩:=xU (bM hk) h
  rcases eK.1 hx with rfl | hx
  ·exact⟨t[list.length],bT hk,h1⟩
  ·exact ih (list++ [y]) d' (by simp;omega) (by simpa using h3) x hx
section
variable {f:ae} {t:List ai} {l:List ab}
theorem zB.mem(h:zB f t l):∀x∈l,∃n∈t,x∈bR f n:=UR l [] (av.dC 96 0) (by simpa using h.len) (by rw [h.len];simpa using h.fit)
theorem zB.cb(h:zB f t l)(hf:kw f)(ht:xf t):l.all hP=true:=by
 rw [gP]
 intro x hx
 obtain⟨n,hn,hm⟩:=h.mem x hx
 have:=ht.nt n hn
 exact M' hf (n:=n) (by omega) (by omega) hm
theorem zB.small(h:zB f t l)(hf:kw f)(ht:xf t):∀x∈l,vj x:=by
 intro x hx
 obtain⟨n,hn,hm⟩:=h.mem x hx
 have:=ht.nt n hn
 exact ly hf (n:=n) (by omega) (by omega) hm
theorem zB.asked(h:zB f t l)(hf:kw f)(ht:xf t):l6 f t l=0:=by
 unfold l6;rw [ak ⟨n9 hf,xg ht,h.cb hf ht⟩,ak h.len]
theorem zB.check(h:zB f t l)(hf:kw f)(ht:xf t)(hi:vE f)(hn:∀n∈t,AG n):T2 f t l=some (true,0):=by
 have xN:=hf.h1;have v8:=ht.len;have hll:=h.len
 obtain⟨e,he⟩:=h.fit
 have hv:Cw f t l= .inl e:=he
 have we:=Bu hi (show f.aa.length≤9223372036854775807 by omega) (show t.length≤9223372036854775807 by omega) hn (show l.length≤9223372036854775807 by omega)
 rw [ak (h.asked hf ht),hv] at we
 simp [T2,we]
theorem XW{c:aQ}(hc:CL c):∀(l:List ab),(∀x∈l,vj x)→0≤nP c l∧nP c l≤4000*(l.length:Int):=by
 intro l
 induction l with
 | nil=>intro _;simp [nP,pu]
 | cons x l ih=>
  intro h
  have h1:=ih (fun y hy=>h y (by simp [hy]))
  have h2:=sL hc (h x (by simp))
  rw [xS,cf]
  omega
theorem zB.cost(h:zB f t l)(hf:kw f)(ht:xf t){c:aQ}(hc:CL c)(Co:XJ c):Em c l=some (nP c l,0):=by
 have v8:=ht.len;have hll:=h.len
 have Ja:=h.small hf ht
 have h2:=gB (f:=Em.ko c l) l.length (fun k=>(nP c (l.take k),(k:Int))) (nP c l) (fun k hk=>by
  have hs:nP c (l.take (k+1))=nP c (l.take k)+cL c l[k]:=by rw [jt hk,K6];simp [nP,pu]
  have hb:=XW hc (l.take (k+1)) (fun x hx=>Ja x (List.mem_of_mem_take hx))
  have GK:(l.take (k+1)).length≤120:=by rw [gl];omega
  simp only [Em.ko,de hk,ar,yD hc (Ja _ (bT hk))]
  rw [ak (by simpa using hk),←hs,wI (nP c (l.take (k+1))),wI ((k:Int)+1)]
  rfl) (by simp [Em.ko])
 have h3:loop (Em.ko c l) (0,0)=some (nP c l):=by simpa [nP,pu] using h2
 have hd:decide ((l.length:Int)≤120)=true:=by rw [bC];omega
 simp only [Em,tN Co,Qx hc,sN l (show l.length≤9223372036854775807 by omega),h.cb hf ht,ii,Ez,ar,cp,h3,Em.qw,hd]
 simp
end
end Go.Proofs.YtplklknkkaeniaaGreat
namespace Go.Proofs.YtplklknkkaeniaaGreat
open Eng
set_option linter.unusedVariables false
set_option linter.unusedSimpArgs false
def cR(p:Nat→Bool):Nat→Nat
 | 0=>0
 | n+1=>cR p n+(if p n=true then 1 else 0)
theorem vF(p:Nat→Bool):∀n,cR p n≤n
 | 0=>bt _
 | n+1=>by unfold cR;have:=vF p n;split<;>omega
theorem l7{p q:Nat→Bool}:∀n,(∀i,i<n→p i=q i)→cR p n=cR q n
 | 0,_=>rfl
 | n+1,h=>by unfold cR;rw [l7 n (fun i hi=>h i (by omega)),h n (by omega)]
theorem EG(p:Nat→Bool)(a:Nat):∀b,cR p (a+b)=cR p a+cR (fun i=>p (a+i)) b
 | 0=>rfl
 | b+1=>by
  have h1:cR p (a+(b+1))=cR p (a+b)+(if p (a+b)=true then 1 else 0):=rfl
  have h2:cR (fun i=>p (a+i)) (b+1)=cR (fun i=>p (a+i)) b+(if p (a+b)=true then 1 else 0):=rfl
  rw [h1,h2,EG p a b];omega
theorem o6{p:Nat→Bool}:∀n,(∀i,i<n→p i=false)→cR p n=0
 | 0,_=>rfl
 | n+1,h=>by unfold cR;rw [o6 n (fun i hi=>h i (by omega)),h n (by omega)];rfl
theorem vk{p:Nat→Bool}{t:Nat}(ht:p t=false):∀n,t<n→cR (fun i=>p i || decide (i=t)) n=cR p n+1
 | 0,h=>absurd h (by omega)
 | n+1,h=>by
  unfold cR
  by_cases e:n=t
  ·subst e
   rw [l7 n (p:=fun i=>p i || decide (i=n)) (q:=p) (fun i hi=>by simp [show¬i=n by omega])]
   simp [ht]
  ·rw [vk ht n (by omega)]
   have:(p n || decide (n=t))=p n:=by simp [e]
   simp only [this]
   omega
def pop8:ByteArray:=ByteArray.mk #[0,1,1,2,1,2,2,3,1,2,2,3,2,3,3,4,1,2,2,3,2,3,3,4,2,3,3,4,3,4,4,5,1,2,2,3,2,3,3,4,2,3,3,4,3,4,4,5,2,3,3,4,3,4,4,5,3,4,4,5,4,5,5,6,1,2,2,3,2,3,3,4,2,3,3,4,3,4,4,5,2,3,3,4,3,4,4,5,3,4,4,5,4,5,5,6,2,3,3,4,3,4,4,5,3,4,4,5,4,5,5,6,3,4,4,5,4,5,5,6,4,5,5,6,5,6,6,7,1,2,2,3,2,3,3,4,2,3,3,4,3,4,4,5,2,3,3,4,3,4,4,5,3,4,4,5,4,5,5,6,2,3,3,4,3,4,4,5,3,4,4,5,4,5,5,6,3,4,4,5,4,5,5,6,4,5,5,6,5,6,6,7,2,3,3,4,3,4,4,5,3,4,4,5,4,5,5,6,3,4,4,5,4,5,5,6,4,5,5,6,5,6,6,7,3,4,4,5,4,5,5,6,4,5,5,6,5,6,6,7,4,5,5,6,5,6,6,7,5,6,6,7,6,7,7,8]
def abS:Bool:=(List.range 256).all fun b=>Pl pop8 (b:Int)==some ((cR (fun i=>b.testBit i) 8:Nat):Int)
theorem XX:abS=true:=by decide+kernel
theorem IK{b:Nat}(h:b<256):Pl pop8 (b:Int)=some ((cR (fun i=>b.testBit i) 8:Nat):Int):=by
 have:=gP.1 XX b (by simpa using h)
 simpa using this
theorem XY(n:Int):Fa7 n=(Pl pop8 (eC .u32 n 24)).bind fun eW=>(Pl pop8 (qH .u32 (eC .u32 n 16) 255)).bind fun pb=>(Pl pop8 (qH .u32 (eC .u32 n 8) 255)).bind fun pg=>(Pl pop8 (qH .u32 n 255)).bind fun pd=>some (au (u8 ((u8 ((u8 (eW+pb))+pg))+pd))):=rfl
theorem US{i:Nat}(h:i<8):(255:Nat).testBit i=true:=by
 match i,h with
 | 0,_=>rfl
 | 1,_=>rfl
 | 2,_=>rfl
 | 3,_=>rfl
 | 4,_=>rfl
 | 5,_=>rfl
 | 6,_=>rfl
 | 7,_=>rfl
theorem Bz(n k:Nat):cR (fun i=>((n>>>k)&&&255).testBit i) 8=cR (fun i=>n.testBit (k+i)) 8:=
 l7 8 fun i hi=>by rw [Nat.testBit_and,US hi,Bool.and_true,Nat.testBit_shiftRight]
theorem XZ{n:Nat}(h:n<4294967296):Fa7 (n:Int)=some ((cR (fun i=>n.testBit i) 32:Nat):Int):=by
 have a8:∀x:Nat,x&&&255<256:=fun x=>by have:=Nat.and_le_right (n:=x) (m:=255);omega
 have s:∀k:Nat,n>>>k<4294967296:=fun k=>rZ (by rw [xA];exact Nat.div_le_self _ _) h
 have e24:n>>>24<256:=by rw [xA];omega
 have e1:(n>>>24)&&&255=n>>>24:=by
  have:=Nat.and_two_pow_sub_one_of_lt_two_pow (n:=8) (x:=n>>>24) (by simpa using e24)
  simpa using this
 have b24:eC .u32 (n:Int) 24=((n>>>24:Nat):Int):=qW .u32 n 24 (by decide)
 have b16:eC .u32 (n:Int) 16=((n>>>16:Nat):Int):=qW .u32 n 16 (by decide)
 have b8:eC .u32 (n:Int) 8=((n>>>8:Nat):Int):=qW .u32 n 8 (by decide)
 have d16:qH .u32 (((n>>>16:Nat)):Int) 255=(((n>>>16)&&&255:Nat):Int):=Er _ 255 (s 16) (by decide)
 have d8:qH .u32 (((n>>>8:Nat)):Int) 255=(((n>>>8)&&&255:Nat):Int):=Er _ 255 (s 8) (by decide)
 have d0:qH .u32 (n:Int) 255=((n&&&255:Nat):Int):=Er n 255 h (by decide)
 have q0:cR (fun i=>(n&&&255).testBit i) 8=cR (fun i=>n.testBit i) 8:=l7 8 fun i hi=>by rw [Nat.testBit_and,US hi,Bool.and_true]
 have q24:cR (fun i=>(n>>>24).testBit i) 8=cR (fun i=>n.testBit (24+i)) 8:=by rw [←Bz,e1]
 rw [XY,b24,b16,b8,d16,d8,d0,IK e24,IK (a8 _),IK (a8 _),IK (a8 _)]
 simp only [ar]
 rw [q24,Bz,Bz,q0]
 have l1:=vF (fun i=>n.testBit (24+i)) 8
 have l2:=vF (fun i=>n.testBit (16+i)) 8
 have l3:=vF (fun i=>n.testBit (8+i)) 8
 have l4:=vF (fun i=>n.testBit i) 8
 have sp:cR (fun i=>n.testBit i) 32=cR (fun i=>n.testBit i) 8+cR (fun i=>n.testBit (8+i)) 8+cR (fun i=>n.testBit (16+i)) 8+cR (fun i=>n.testBit (24+i)) 8:=by
  rw [EG (fun i=>n.testBit i) 24 8,EG (fun i=>n.testBit i) 16 8,EG (fun i=>n.testBit i) 8 8]
 rw [sp]
 clear sp q24 q0 d0 d8 d16 b8 b16 b24 e1 e24 s a8
 generalize cR (fun i=>n.testBit (24+i)) 8=A at*
 generalize cR (fun i=>n.testBit (16+i)) 8=B at*
 generalize cR (fun i=>n.testBit (8+i)) 8=C at*
 generalize cR (fun i=>n.testBit i) 8=D at*
 rw [u8_in (n:=(A:Int)+(B:Int)) (by omega) (by omega),u8_in (n:=(A:Int)+(B:Int)+(C:Int)) (by omega) (by omega),u8_in (n:=(A:Int)+(B:Int)+(C:Int)+(D:Int)) (by omega) (by omega),bc (by omega) (by omega)]
 congr 1
 omega
def sR(g:Nat→Nat):Nat→Nat
 | 0=>0
 | n+1=>sR g n+g n
theorem K9{g:Nat→Nat}{B:Nat}(h:∀i,g i≤B):∀n,sR g n≤n*B
 | 0=>Nat.zero_le _
 | n+1=>by unfold sR;have:=K9 h n;have:=h n;rw [lN];omega
theorem o7{g k:Nat→Nat}:∀n,(∀i,i<n→g i=k i)→sR g n=sR k n
 | 0,_=>rfl
 | n+1,h=>by unfold sR;rw [o7 n (fun i hi=>h i (by omega)),h n (by omega)]
theorem IL{g k:Nat→Nat}{s:Nat}(hs:k s=g s+1)(ho:∀i,i≠s→k i=g i):∀n,s<n→sR k n=sR g n+1
 | 0,h=>absurd h (by omega)
 | n+1,h=>by
  unfold sR
  by_cases e:n=s
  ·subst e
   rw [o7 n (fun i hi=>ho i (by omega)),hs];omega
  ·rw [IL hs ho n (by omega),ho n e];omega
def nA(d:av 96 Int):Nat:=sR (fun s=>cR (fun t=>fF d s t) 32) 96
theorem EH{d:av 96 Int}(hd:gM d):F6 d=some ((nA d:Nat):Int):=by
 have hb:∀n,n≤96→sR (fun s=>cR (fun t=>fF d s t) 32) n≤96*32:=fun n hn=>k7 (K9 (B:=32) (fun i=>vF _ 32) n) (Nat.mul_le_mul_right _ hn)
 have:=gB (f:=F6.fY d) 96 (fun k=>((sR (fun s=>cR (fun t=>fF d s t) 32) k:Nat),(k:Int))) ((nA d:Nat):Int) (fun k hk=>by
  have h1:=hb k (by omega)
  have h2:=vF (fun t=>fF d k t) 32
  simp only [F6.fY,lv hd hk,ar,Fb2,XZ (nj hd k)]
  rw [ak dT]
  show some (Sum.inl (au (_+((cR (fun t=>fF d k t) 32:Nat):Int)),au ((k:Int)+1)))=_
  rw [wI ((k:Int)+1),bc (by omega) (by omega)]
  simp [sR]) (by simp [F6.fY,nA])
 have h0:loop (F6.fY d) (0,0)=some ((nA d:Nat):Int):=this
 simp only [F6,h0]
 rfl
end Go.Proofs.YtplklknkkaeniaaGreat
namespace Go.Proofs.YtplklknkkaeniaaGreat
open Eng
set_option linter.unusedVariables false
set_option linter.unusedSimpArgs false
structure DG (f:ae) (d:av 96 Int):Prop where
 BA:gM d
 LH:∀s t,fF d s t=true→(s:Int)<f.ag∧t<f.aa.length
 clear:∀s t,fF d s t=true→jn (zN f d s t) (gX f t)=true
theorem UT(f:ae):DG f (av.dC 96 0):=⟨lZ,fun s t h=>(by rw [qB] at h;cases h),fun s t h=>(by rw [qB] at h;cases h)⟩
theorem xk{d:av 96 Int}(hd:gM d){s t:Nat}(hs:s<96)(ht:t<32)(a b:Nat):fF (jr d s t) a b=(fF d a b || (decide (a=s)&&decide (b=t))):=(Ix hd hs ht).2 a b
theorem OW{a i n:Nat}(ha:a<n)(hi:i<n):(a+i)%n=if a+i<n then a+i else a+i-n:=by
 split
 ·rename_i h;exact oG h
 ·rename_i h;rw [Nat.mod_eq_sub_mod (by omega),oG (by omega)]
theorem UU{f:ae}(hf:kw f){d:av 96 Int}(h:DG f d){s t:Nat}(hs:(s:Int)<f.ag)(ht:t<f.aa.length)(xm:od f d s t=true):DG f (jr d s t):=by
 have xD:=hf.s0;have rk:=hf.s1;have xN:=hf.h1
 have hp:=xk h.BA (show s<96 by omega) (show t<32 by omega)
 unfold od at xm
 simp only [bY,kA] at xm
 obtain⟨f1,f2,f3⟩:=xm
 rw [jG] at f2 f3
 obtain⟨_,_,_,_,hr⟩:=zt hf ht
 refine⟨sM h.BA (by omega) (by omega),fun a b zo=> ?_,fun a b zo=> ?_⟩
 ·rw [hp] at zo
  simp only [ke,bY,bC] at zo
  rcases zo with zo | ⟨rfl,rfl⟩
  ·exact h.LH a b zo
  ·exact⟨hs,ht⟩
 ·rw [jG]
  intro i h1 h2
  unfold zN
  rw [hp]
  by_cases hb:b=t
  ·subst hb
   by_cases ha:a=s
   ·subst ha
    have:=f2 i h1 h2
    unfold zN at this
    rw [this,OW (show a<f.ag.toNat by omega) (show i<f.ag.toNat by omega)]
    have h3:¬(if a+i<f.ag.toNat then a+i else a+i-f.ag.toNat)=a:=by split<;>omega
    rw [decide_eq_false h3]
    rfl
   ·rw [hp] at zo
    have zo:fF d a b=true:=by simpa [ha] using zo
    have ha2:=h.LH a b zo
    have:=h.clear a b zo
    rw [jG] at this
    have:=this i h1 h2
    unfold zN at this
    rw [this]
    have jR:¬(a+i)%f.ag.toNat=s:=by
     intro e
     have hbw:=f3 i h1 h2
     unfold VU at hbw
     have e2:(s+f.ag.toNat-i)%f.ag.toNat=a:=by
      rw [OW (show a<f.ag.toNat by omega) (show i<f.ag.toNat by omega)] at e
      split at e
      ·rw [show s+f.ag.toNat-i=a+f.ag.toNat by omega,ub,oG (by omega)]
      ·rw [show s+f.ag.toNat-i=a by omega,oG (by omega)]
     rw [e2,zo] at hbw
     cases hbw
    simp [jR]
  ·rw [hp] at zo
   have zo:fF d a b=true:=by simpa [hb] using zo
   have:=h.clear a b zo
   rw [jG] at this
   have:=this i h1 h2
   unfold zN at this
   rw [this]
   simp [hb]
theorem K_{d:av 96 Int}(hd:gM d){s t:Nat}(hs:s<96)(ht:t<32)(h0:fF d s t=false):nA (jr d s t)=nA d+1:=by
 have hp:=xk hd hs ht
 refine IL (s:=s) ?_ ?_ 96 hs
 ·rw [←vk (p:=fun b=>fF d s b) h0 32 ht]
  exact l7 32 fun i _=>by rw [hp];simp
 ·intro a ha
  exact l7 32 fun i _=>by rw [hp];simp [ha]
theorem OX:nA (av.dC 96 0)=0:=by
 have h:∀n,sR (fun s=>cR (fun t=>fF (av.dC 96 0) s t) 32) n=0:=by
  intro n
  induction n with
  | zero=>rfl
  | succ n ih=>unfold sR;rw [ih,o6 32 (fun i _=>qB n i)]
 exact h 96
theorem abT{f:ae}(hf:kw f){t:List ai}(ht:xf t){list:List ab}(hl:list.length=t.length):∀(m k:Nat) (a d:av 96 Int),k+m=t.length→DG f a→mX (pv f t list) k a m= .inl d→DG f d∧nA d=nA a+(list.drop k).countP (fun x=> !x.bJ):=by
 intro m
 induction m with
 | zero=>
  intro k a d hk ha h
  simp only [mX] at h
  cases h
  refine⟨ha,?_⟩
  rw [mR (by omega)]
  simp
 | succ m ih=>
  intro k a d hk ha h
  have AU:k<t.length:=by omega
  have Mt:k<list.length:=by omega
  have hn:=ht.nt _ (bT AU)
  simp only [mX] at h
  cases hp:pv f t list k a with
  | none=>rw [hp] at h;cases h
  | some a'=>
   rw [hp] at h
   simp only at h
   unfold pv at hp
   rw [bM AU,bM Mt] at hp
   simp only at hp
   split at hp
   ·rename_i hm
    have key:DG f a'∧nA a'=nA a+(if list[k].bJ=true then 0 else 1):=by
     unfold mY at hp
     cases hw:list[k].bJ with
     | true=>
      rw [hw] at hp
      simp only [cp,cx] at hp
      subst hp
      exact⟨ha,by simp⟩
     | false=>
      have pl:=xi hf (show 0≤t[k].cd∧t[k].cd≤199 by omega) (show 0≤t[k].aD∧t[k].aD≤47 by omega) hm hw
      have rk:=hf.s1;have xN:=hf.h1;have h1:=pl.hs;have h2:=pl.ht
      rw [hw] at hp
      simp only [cM,bU] at hp
      split at hp
      ·rename_i xm
       simp only [cx] at hp
       subst hp
       refine⟨UU hf ha pl.hs pl.ht xm,?_⟩
       rw [K_ ha.BA (by omega) (by omega) (by
        unfold od at xm
        simp only [bY,kA] at xm
        exact xm.1)]
       simp
      ·cases hp
    obtain⟨g1,g2⟩:=ih (k+1) a' d (by omega) key.1 h
    refine⟨g1,?_⟩
    rw [g2,key.2,qq Mt,List.countP_cons]
    cases list[k].bJ<;>simp<;>omega
   ·cases hp
theorem X0{f:ae}(hf:kw f){t:List ai}(ht:xf t){list:List ab}(hl:list.length=t.length){d:av 96 Int}(h:Cw f t list= .inl d):DG f d∧nA d=list.countP (fun x=> !x.bJ):=by
 obtain⟨h1,h2⟩:=abT hf ht hl t.length 0 _ d (by omega) (UT f) h
 exact⟨h1,by rw [h2,OX];simp⟩
theorem Nb{f:ae}(hf:kw f){d:av 96 Int}(h:DG f d){s t:Nat}(hp:fF d s t=true):WE f d (s:Int) (t:Int)=some false:=by
 have xD:=hf.s0;have rk:=hf.s1;have xN:=hf.h1
 obtain⟨hs,ht⟩:=h.LH s t hp
 obtain⟨h1,h2,h3,h4,h5⟩:=zt hf ht
 have e:au f.ag=(f.ag.toNat:Int):=by rw [bc (by omega) (by omega)];omega
 obtain⟨b1,Lz,c1⟩:=xO hf h.BA (s:=s) (t:=t) 1 (fun i=>(s+i)%f.ag.toNat) (by omega) (fun i hi0 hi=>by
  have:=Nat.mod_lt (s+i) (show 0<f.ag.toNat by omega)
  rw [e,wI (1*(i:Int)),wI ((s:Int)+1*(i:Int)),wI ((s:Int)+1*(i:Int)+(f.ag.toNat:Int)),show (s:Int)+1*(i:Int)+(f.ag.toNat:Int)=((s+i+f.ag.toNat:Nat):Int) by omega,sH,ub]
  exact⟨rfl,by omega⟩) h5
 have hc:=h.clear s t hp
 have eF:jn (fun i=>fF d ((s+i)%f.ag.toNat) t) (gX f t)=jn (zN f d s t) (gX f t):=rfl
 rw [eF,hc,bC] at c1
 simp only [WE,h1,ar,Lz,h2]
 rw [decide_eq_false (by omega)]
theorem Nc{f:ae}(hf:kw f){d:av 96 Int}(h:DG f d)(s:Nat)(hs:s<96):loop (Fc.jX d f d (s:Int) (f.aa.length:Int)) (([]:List (av 2 Int)),0)=some []:=by
 have xN:=hf.h1
 exact gB (f:=Fc.jX d f d (s:Int) (f.aa.length:Int)) f.aa.length (fun k=>(([]:List (av 2 Int)),(k:Int))) [] (fun k hk=>by
  simp only [Fc.jX,vg h.BA hs (t:=k) (by omega),ar]
  rw [ak (by simpa using hk),wI ((k:Int)+1)]
  cases hp:fF d s k with
  | true=>
   simp only [cp,FaX,Nb hf h hp,ar,cM,bU]
   simp
  | false=>simp) (by simp [Fc.jX])
theorem yG{f:ae}(hf:kw f){d:av 96 Int}(h:DG f d):RW f d=some []:=by
 have xD:=hf.s0;have rk:=hf.s1
 have e:au f.ag=(f.ag.toNat:Int):=by rw [bc (by omega) (by omega)];omega
 have:=gB (f:=Fc.fY f d f d) f.ag.toNat (fun k=>(([]:List (av 2 Int)),(k:Int))) [] (fun k hk=>by
  simp only [Fc.fY,xL,ar,Nc hf h k (by omega),Fc.og]
  rw [ak (by rw [e,bC];omega),wI ((k:Int)+1)]
  simp) (by simp [Fc.fY,e])
 have h0:loop (Fc.fY f d f d) (([]:List (av 2 Int)),0)=some []:=this
 simp only [RW,Fc,h0]
 rfl
end Go.Proofs.YtplklknkkaeniaaGreat
namespace Go.Proofs.YtplklknkkaeniaaGreat
open Eng
set_option linter.unusedVariables false
set_option linter.unusedSimpArgs false
theorem OY{x y:Nat}(h:x<4294967296):Cu x y<4294967296:=rZ (CJ x y) h
def tw(a b:av 96 Int)(k:Nat)(s:Nat):Nat:=if s<k then Cu (ir a s) (ir b s) else ir a s
theorem EI{a b:av 96 Int}(ha:gM a)(hb:gM b):∃d,FY a b=some d∧gM d∧∀s t,s<96→fF d s t=(fF a s t&& !fF b s t):=by
 have key:∀j k (d:av 96 Int),k+j=96→gM d→(∀s,s<96→ir d s=tw a b k s)→∃d',loop (FY.fY b) (d,(k:Int))=some d'∧gM d'∧∀s,s<96→ir d' s=tw a b 96 s:=by
  intro j
  induction j with
  | zero=>
   intro k d hk hd hr
   obtain rfl:k=96:=by omega
   exact⟨d,by rw [bH];simp [FY.fY],hd,hr⟩
  | succ j ih=>
   intro k d hk hd hr
   have Q0:k<96:=by omega
   have h1:=lv hb Q0
   have h2:=lv hd Q0
   have hrk:=hr k Q0
   have NN:tw a b k k=ir a k:=by unfold tw;rw [ax (by omega)]
   rw [NN] at hrk
   rw [hrk] at h2
   have gy:=OY (y:=ir b k) (nj ha k)
   obtain⟨d',e1,e2,e3⟩:=ih (k+1) (d.set (k:Int) (Cu (ir a k) (ir b k):Nat)) (by omega) (vf hd k gy) (fun s hs=>by
    rw [rL Q0]
    unfold tw
    by_cases e:k=s
    ·subst e;rw [ak rfl,ak (by omega)]
    ·rw [ax e,hr s hs]
     unfold tw
     by_cases c:s<k
     ·rw [ak c,ak (by omega)]
     ·rw [ax c,ax (by omega)])
   refine⟨d',?_,e2,e3⟩
   rw [bH]
   simp only [FY.fY,h1,h2,ar,Et _ _ (nj ha k) (nj hb k)]
   rw [ak dT,wI ((k:Int)+1)]
   simpa using e1
 obtain⟨d,e1,e2,e3⟩:=key 96 0 a (by omega) ha (fun s _=>by unfold tw;rw [ax (by omega)])
 refine⟨d,?_,e2,fun s t hs=> ?_⟩
 ·have:loop (FY.fY b) (a,0)=some d:=e1
  simp only [FY,this,ar,FY.fk]
 ·unfold fF
  rw [e3 s hs]
  unfold tw
  rw [ak hs,sG]
def beyond(a b:av 96 Int):Nat:=sR (fun s=>cR (fun t=>fF a s t&& !fF b s t) 32) 96
theorem rU(a b:av 96 Int):beyond a b≤3072:=K9 (B:=32) (fun i=>vF _ 32) 96
theorem EJ{a b:av 96 Int}(ha:gM a)(hb:gM b):∃d,FY a b=some d∧F6 d=some ((beyond a b:Nat):Int):=by
 obtain⟨d,h1,h2,h3⟩:=EI ha hb
 refine⟨d,h1,?_⟩
 rw [EH h2]
 have:nA d=beyond a b:=o7 96 fun s hs=>l7 32 fun t _=>h3 s t hs
 rw [this]
def pD(a b:av 96 Int):Nat:=beyond a b+beyond b a
theorem UW(a b:av 96 Int):pD a b≤6144:=by have:=rU a b;have:=rU b a;unfold pD;omega
theorem UX{a b:av 96 Int}(ha:gM a)(hb:gM b):Fce a b=some ((pD a b:Nat):Int):=by
 obtain⟨d,h1,h2⟩:=EJ ha hb
 obtain⟨e,h3,h4⟩:=EJ hb ha
 have:=rU a b;have:=rU b a
 simp only [Fce,h1,h2,h3,h4,ar,pD]
 rw [bc (by omega) (by omega)]
 simp
theorem Qy(n:Nat):∀k,cR (fun i=>n.testBit i) (k+1)=n%2+cR (fun i=>(n/2).testBit i) k:=by
 intro k
 rw [show k+1=1+k by omega,EG]
 have h1:cR (fun i=>n.testBit i) 1=n%2:=by
  simp only [cR,Nat.testBit_zero,bC]
  split<;>omega
 rw [h1]
 congr 1
 exact l7 k fun i _=>by rw [Nat.add_comm 1 i,Nat.testBit_succ]
theorem AJ:∀(k n:Nat) (c:Nat),n<2^k→k≤32→c+k≤1000→loop G7.fY ((n:Int),(c:Int))=some ((c+cR (fun i=>n.testBit i) k:Nat):Int)
 | 0,n,c,h,_,_=>by
  have h0:n=0:=by simp at h;exact h
  subst h0
  rw [bH]
  simp [G7.fY,cR]
 | k+1,n,c,h,hk,hc=>by
  have hp:2^(k+1)≤4294967296:=k7 (rA (by omega) hk) (by decide)
  rw [bH]
  by_cases h0:n=0
  ·subst h0
   rw [o6 (k+1) (fun i _=>Nat.zero_testBit i)]
   simp [G7.fY]
  ·simp only [G7.fY]
   rw [ak dT]
   have e1:Int.tdiv (n:Int) 2=((n/2:Nat):Int):=by rw [Int.tdiv_eq_ediv_of_nonneg (by omega)];omega
   have e2:Int.tmod (n:Int) 2=((n%2:Nat):Int):=by rw [xy (by omega)];omega
   rw [e1,e2,wI ((n%2:Nat):Int),bc (by omega) (by omega),u32_in (by omega) (by omega)]
   have ih:=AJ k (n/2) (c+n%2) (by rw [Nat.pow_succ] at h;omega) (by omega) (by omega)
   rw [Qy]
   simp only
   rw [show ((c:Int)+((n%2:Nat):Int))=((c+n%2:Nat):Int) by omega,ih]
   congr 1
   omega
theorem La{n:Nat}(h:n<4294967296):G7 (n:Int)=some ((cR (fun i=>n.testBit i) 32:Nat):Int):=by
 have:=AJ 32 n 0 (by simpa using h) (by omega) (by omega)
 have h0:loop G7.fY ((n:Int),0)=some ((cR (fun i=>n.testBit i) 32:Nat):Int):=by simpa using this
 simp only [G7,h0,ar,G7.fk]
theorem Lb{a b:av 96 Int}(ha:gM a)(hb:gM b):Gb a b=some ((beyond b a:Nat):Int):=by
 have zM:∀n,n≤96→sR (fun s=>cR (fun t=>fF b s t&& !fF a s t) 32) n≤96*32:=fun n hn=>k7 (K9 (B:=32) (fun i=>vF _ 32) n) (Nat.mul_le_mul_right _ hn)
 have h0:loop (Gb.fY a b) (0,0)=some ((beyond b a:Nat):Int):=gB (f:=Gb.fY a b) 96 (fun k=>((sR (fun s=>cR (fun t=>fF b s t&& !fF a s t) 32) k:Nat),(k:Int))) ((beyond b a:Nat):Int) (fun k hk=>by
  have h1:=zM k (by omega)
  have h2:=vF (fun t=>fF b k t&& !fF a k t) 32
  have hc:cR (fun i=>(Cu (ir b k) (ir a k)).testBit i) 32=cR (fun t=>fF b k t&& !fF a k t) 32:=l7 32 fun t _=>by rw [sG];rfl
  simp only [Gb.fY,lv ha hk,lv hb hk,ar,Et _ _ (nj hb k) (nj ha k),La (OY (nj hb k)),hc]
  rw [ak dT,wI ((k:Int)+1),bc (by omega) (by omega)]
  simp [sR]) (by simp [Gb.fY,beyond])
 simp only [Gb,h0,ar,Gb.fk]
theorem Nd{a b:av 96 Int}(ha:gM a)(hb:gM b):Fb4 a b=some ((pD a b:Nat):Int):=by
 have:=rU a b;have:=rU b a
 have e:((beyond b a:Nat):Int)+((beyond a b:Nat):Int)=((pD a b:Nat):Int):=by unfold pD;omega
 simp only [Fb4,Lb ha hb,Lb hb ha,ar]
 rw [bc (by omega) (by omega),e]
theorem UY(p q:Nat→Bool):∀n,cR (fun t=>p t&& !q t) n+cR (fun t=>q t&& !p t) n=cR (fun t=>p t !=q t) n
 | 0=>rfl
 | n+1=>by
  have ih:=UY p q n
  have hb:∀x y:Bool,(if(x&& !y)=true then 1 else 0)+(if(y&& !x)=true then 1 else 0)=(if(x !=y)=true then 1 else 0):=by decide
  have h1:=hb (p n) (q n)
  simp only [cR]
  omega
theorem IM(g k:Nat→Nat):∀n,sR g n+sR k n=sR (fun i=>g i+k i) n
 | 0=>rfl
 | n+1=>by have ih:=IM g k n;simp only [sR];omega
theorem Hq(a b:av 96 Int):pD a b=sR (fun s=>cR (fun t=>fF a s t !=fF b s t) 32) 96:=by
 unfold pD beyond
 rw [IM]
 exact o7 96 fun s _=>UY _ _ 32
theorem IN{p q:Nat→Bool}:∀n,(∀i,i<n→p i=true→q i=true)→cR p n≤cR q n
 | 0,_=>bt _
 | n+1,h=>by
  have ih:=IN n (fun i hi=>h i (by omega))
  have hn:=h n (by omega)
  simp only [cR]
  cases hp:p n
  ·simp;omega
  ·rw [hn hp];simp;exact ih
theorem OZ{p:Nat→Bool}:∀n,cR p n=0→∀i,i<n→p i=false
 | 0,_,i,hi=>absurd hi (by omega)
 | n+1,h,i,hi=>by
  simp only [cR] at h
  by_cases e:i=n
  ·subst e
   cases hp:p i
   ·rfl
   ·rw [hp] at h;simp at h
  ·exact OZ n (by omega) i (by omega)
theorem O0{g:Nat→Nat}:∀n,sR g n=0→∀i,i<n→g i=0
 | 0,_,i,hi=>absurd hi (by omega)
 | n+1,h,i,hi=>by
  simp only [sR] at h
  by_cases e:i=n
  ·subst e;omega
  ·exact O0 n (by omega) i (by omega)
theorem Nf{a b:av 96 Int}(ha:gM a)(hb:gM b):pD a b=0↔a=b:=by
 constructor
 ·intro h
  rw [Hq] at h
  refine Iw ha hb fun s t hs ht=> ?_
  have:=OZ 32 (O0 96 h s hs) t ht
  simpa using this
 ·rintro rfl
  rw [Hq]
  have:∀n,sR (fun s=>cR (fun t=>fF a s t !=fF a s t) 32) n=0:=by
   intro n
   induction n with
   | zero=>rfl
   | succ n ih=>simp only [sR,ih,o6 32 (p:=fun t=>fF a n t !=fF a n t) (fun i _=>by simp)]
  exact this 96
end Go.Proofs.YtplklknkkaeniaaGreat
namespace Go.Proofs.YtplklknkkaeniaaGreat
open Eng
set_option linter.unusedVariables false
set_option linter.unusedSimpArgs false
structure VD (f:ae) (d:av 96 Int):Prop where
 BA:gM d
 LH:∀s t,fF d s t=true→(s:Int)<f.ag∧t<f.aa.length
def pA(s t:Nat):av 2 Int:=av.set (av.set (av.dC 2 0) 0 (s:Int)) 1 (t:Int)
def UZ(d:av 96 Int)(s t:Nat):List (av 2 Int):=if fF d s t=true then [pA s t] else []
theorem O1(d:av 96 Int)(s t:Nat):(UZ d s t).length≤1:=by unfold UZ;split<;>simp
def Hr(n:Nat)(d:av 96 Int)(s:Nat):List (av 2 Int):=(List.range n).flatMap (UZ d s)
theorem Qz(n:Nat)(d:av 96 Int)(s:Nat):(Hr n d s).length≤n*1:=nG _ _ _ fun k _=>O1 d s k
def prL(f:ae)(d:av 96 Int):List (av 2 Int):=(List.range f.ag.toNat).flatMap (Hr f.aa.length d)
theorem U0{f:ae}(hf:kw f){d:av 96 Int}(hd:gM d)(s:Nat)(hs:(s:Int)<f.ag)(xs:List (av 2 Int))(hx:xs.length≤4000):
  loop (Fg.jX d (s:Int) (f.aa.length:Int)) (xs,0)=some (xs++Hr f.aa.length d s):=by
 have h1:=hf.h1;have h2:=hf.s1;have h3:=hf.s0
 refine iL f.aa.length 1 (by omega) (UZ d s) xs (fun k _=>O1 d s k) (fun ys k hk hy=> ?_) (fun ys=>by simp [Fg.jX])
 simp only [Fg.jX,vg hd (show s<96 by omega) (t:=k) (by omega),ar]
 rw [ak (by simpa using hk)]
 unfold UZ
 cases c:fF d s k with
 | true=>
  simp only [cp,Fbt]
  rw [ak (by simp only [cf,bN];omega)]
  rfl
 | false=>simp
theorem Hs{f:ae}(hf:kw f){d:av 96 Int}(hd:gM d):WH f d=some (prL f d):=by
 have h1:=hf.h1;have h2:=hf.s1;have h3:=hf.s0
 have e:au f.ag=(f.ag.toNat:Int):=by rw [bc (by omega) (by omega)];omega
 have:=iL (f:=Fg.fY f d) f.ag.toNat 24 (by omega) (Hr f.aa.length d) [] (fun k _=>by have:=Qz f.aa.length d k;omega) (fun ys k hk hy=>by
  simp only [bN] at hy
  simp only [Fg.fY,xL,ar,U0 hf hd k (by omega) ys (by omega),Fg.og]
  rw [ak (by rw [e,bC];omega)]) (fun ys=>by simp [Fg.fY,e])
 simp only [WH,Fg,this,ar,Fg.fk,gm]
 rfl
theorem zC{S:Type}(g:Nat→List S){m n:Nat}(h:n≤m)(hg:∀i,n≤i→i<m→g i= []):(List.range m).flatMap g=(List.range n).flatMap g:=by
 obtain⟨k,rfl⟩:∃k,m=n+k:=⟨m-n,by omega⟩
 induction k with
 | zero=>rfl
 | succ k ih=>
  rw [show n+(k+1)=(n+k)+1 by omega,oE,qt,ih (by omega) (fun i h1 h2=>hg i h1 (by omega))]
  simp [hg (n+k) (by omega) (by omega)]
theorem Lc{S:Type}{g k:Nat→List S}{n:Nat}(h:∀i,i<n→g i=k i):(List.range n).flatMap g=(List.range n).flatMap k:=by
 induction n with
 | zero=>rfl
 | succ n ih=>rw [oE,qt,qt,ih (fun i hi=>h i (by omega))];simp [h n (by omega)]
theorem iA{S:Type}(g:Nat→List S):∀n,((List.range n).flatMap g).length=sR (fun i=>(g i).length) n
 | 0=>rfl
 | n+1=>by rw [oE,qt,cJ,iA g n];simp [sR]
theorem CN(p:Nat→Bool):∀n,sR (fun i=>if p i=true then 1 else 0) n=cR p n
 | 0=>rfl
 | n+1=>by simp only [sR,cR,CN p n]
end Go.Proofs.YtplklknkkaeniaaGreat
namespace Go.Proofs.YtplklknkkaeniaaGreat
open Eng
set_option linter.unusedVariables false
set_option linter.unusedSimpArgs false
def plB(f:ae)(s t:Int):Bool:=(decide (0≤s)&&decide (s≤au (au f.ag-1)))&&(decide (0≤t)&&decide (t≤au ((f.aa.length:Int)-1)))
theorem Ng(f:ae)(s t:Int):Fbg f s t=some (plB f s t):=by
 simp only [Fbg,uL,FD,xL,ar,plB,ge_iff_le]
 cases (decide (0≤s)&&decide (s≤au (au f.ag-1)))<;>rfl
theorem abU{f:ae}(h:kw f)(s t:Int):plB f s t=true↔(0≤s∧s<f.ag)∧(0≤t∧t<f.aa.length):=by
 have h0:=h.s0;have h1:=h.s1;have h2:=h.h0;have h3:=h.h1
 unfold plB
 rw [wI f.ag,wI (f.ag-1),wI ((f.aa.length:Int)-1)]
 simp only [bY,bC]
 omega
theorem IP(f:ae)(hi:vE f)(hl:f.aa.length≤9223372036854775807)(d:av 96 Int)(hd:gM d)(s t:Int):
  FbN f d s t=some (if fO f=true∧gR f d=true then(if plB f s t=true then 0 else 2) else 1):=by
 simp only [FbN,qk f hi hl d hd,Ng,ii,iv,ar]
 by_cases c:fO f=true∧gR f d=true
 ·simp only [ak c]
  cases plB f s t<;>simp
 ·simp only [ax c]
  simp
end Go.Proofs.YtplklknkkaeniaaGreat
namespace Go.Proofs.YtplklknkkaeniaaGreat
open Eng
set_option linter.unusedVariables false
set_option linter.unusedSimpArgs false
theorem Ld{f:ae}(hf:kw f){d:av 96 Int}(hd:∀s t,fF d s t=true→(s:Int)<f.ag∧t<f.aa.length):(prL f d).length=nA d:=by
 have h1:=hf.h1;have h2:=hf.s1;have h3:=hf.s0
 have e:prL f d=(List.range 96).flatMap fun s=>(List.range 32).flatMap (UZ d s):=by
  unfold prL
  rw [zC (m:=96) (n:=f.ag.toNat) (fun s=>(List.range 32).flatMap (UZ d s)) (by omega) (fun s rk LA=> ?_)]
  ·refine Lc fun s hs=> ?_
   unfold Hr
   rw [zC (m:=32) (n:=f.aa.length) _ (by omega) (fun t ht1 ht2=> ?_)]
   unfold UZ
   rw [ax]
   intro h
   have:=(hd s t h).2
   omega
  ·rw [zC (m:=32) (n:=0) _ (by omega) (fun t _ _=> ?_)]
   ·rfl
   ·unfold UZ
    rw [ax]
    intro h
    have:=(hd s t h).1
    omega
 rw [e,iA]
 unfold nA
 refine o7 96 fun s _=> ?_
 rw [iA,←CN]
 refine o7 32 fun t _=> ?_
 unfold UZ
 split<;>rfl
theorem U1{a b d:av 96 Int}(hp:∀s t,s<96→fF d s t=(fF a s t&& !fF b s t))(s t:Nat):fF d s t=true↔fF a s t=true∧fF b s t=false:=by
 by_cases hs:s<96
 ·rw [hp s t hs];simp
 ·have no:∀x:av 96 Int,fF x s t=false:=fun x=>by
   unfold fF ir
   rw [jJ (by rw [x.2];omega)]
   simp
  rw [no d,no a];simp
theorem Nh{a b d:av 96 Int}(hp:∀s t,s<96→fF d s t=(fF a s t&& !fF b s t)):nA d=beyond a b:=o7 96 fun s hs=>l7 32 fun t _=>hp s t hs
end Go.Proofs.YtplklknkkaeniaaGreat
namespace Go.Proofs.YtplklknkkaeniaaGreat
open Eng
set_option linter.unusedVariables false
set_option linter.unusedSimpArgs false
theorem Ni{f:ae}(hf:kw f){a b:av 96 Int}(ha:VD f a)(hb:VD f b):GU f [a,b]=some 0:=by
 have xN:=hf.h1;have rk:=hf.s1;have xD:=hf.s0
 have hi:vE f:=⟨by omega,fun y hy=>by have:=hf.hp y hy;omega⟩
 have h1:=qY f hi (show f.aa.length≤9223372036854775807 by omega) [a,b] (by simp) (by
  intro d hd
  simp only [eK,cq,or_false] at hd
  rcases hd with rfl | rfl
  ·exact ha.BA
  ·exact hb.BA)
 rw [ak ⟨n9 hf,by simp [sI ha.LH,sI hb.LH]⟩] at h1
 exact h1
theorem Nj{f:ae}(hf:kw f){a b:av 96 Int}(ha:VD f a)(hb:VD f b):∃x y:List (av 2 Int),R4 f a b=some (x,y,0)∧y.length=beyond b a:=by
 obtain⟨d,h1,h2,h3⟩:=EI ha.BA hb.BA
 obtain⟨e,h4,h5,h6⟩:=EI hb.BA ha.BA
 refine⟨prL f d,prL f e,?_,?_⟩
 ·simp [R4,Ni hf ha hb,h1,h4,Hs hf h2,Hs hf h5]
 ·rw [Ld hf (fun s t h=>hb.LH s t ((U1 h6 s t).1 h).1),Nh h6]
end Go.Proofs.YtplklknkkaeniaaGreat
namespace Go.Proofs.YtplklknkkaeniaaGreat
open Eng
set_option linter.unusedVariables false
set_option linter.unusedSimpArgs false
end Go.Proofs.YtplklknkkaeniaaGreat
namespace Go.Proofs.YtplklknkkaeniaaGreat
open Eng
set_option linter.unusedVariables false
set_option linter.unusedSimpArgs false
theorem U2{t:Nat}(ht:t<32):VK (t:Int)=some ((2^t:Nat):Int):=by
 unfold VK
 rw [u64_in (by omega) (by omega),ak (by omega),ve t ht]
end Go.Proofs.YtplklknkkaeniaaGreat
namespace Go.Proofs.YtplklknkkaeniaaGreat
open Eng
set_option linter.unusedVariables false
set_option linter.unusedSimpArgs false
def IQ(f:ae)(d:av 96 Int)(n:ai)(k:Nat):Bool:=decide (((f.aa[k]?).map bq.aD)=some n.aD)&&od f d n.cd.toNat k
def tT(f:ae)(d:av 96 Int)(n:ai):List Nat:=(List.range f.aa.length).filter (IQ f d n)
def yg(l:List Nat):List Int:=l.map Int.ofNat
theorem uR(l:List Nat):(yg l).length=l.length:=kF _
theorem Le(p:Nat→Bool):∀l:List Nat,l.flatMap (fun k=>if p k=true then [(k:Int)] else [])=yg (l.filter p):=by
 intro l
 induction l with
 | nil=>rfl
 | cons k l ih=>
  rw [oB,ih]
  cases h:p k<;>simp [List.filter,h,yg]
theorem vl{f:ae}{d:av 96 Int}{n:ai}{k:Nat}(h:k∈tT f d n):k<f.aa.length∧od f d n.cd.toNat k=true:=by
 unfold tT at h
 obtain⟨h1,h2⟩:=List.mem_filter.1 h
 unfold IQ at h2
 simp only [bY] at h2
 exact⟨by simpa using h1,h2.2⟩
theorem O2(f:ae)(d:av 96 Int)(n:ai):(tT f d n).length≤f.aa.length:=by
 unfold tT
 have:=List.length_filter_le (IQ f d n) (List.range f.aa.length)
 simpa using this
theorem yH{f:ae}(hf:kw f){d:av 96 Int}(hd:gM d){n:ai}(ha:0≤n.cd∧n.cd<f.ag)(hp:0≤n.aD∧n.aD≤47):Fy f d (au n.cd) (au n.aD)=some (yg (tT f d n)):=by
 have xN:=hf.h1;have rk:=hf.s1
 have ea:au n.cd=((n.cd.toNat:Nat):Int):=by rw [bc (by omega) (by omega)];omega
 have ep:au n.aD=n.aD:=bc (by omega) (by omega)
 rw [ea,ep]
 have:=iL (f:=Fy.Df f d ((n.cd.toNat:Nat):Int) n.aD (f.aa.length:Int)) f.aa.length 1 (by omega) (fun k=>if IQ f d n k=true then [(k:Int)] else []) [] (fun k _=>by split<;>simp) (fun xs k hk hx=>by
  have hm:=hf.hp _ (bT hk)
  simp only [bN] at hx
  simp only [Fy.Df,FbK,de hk,ar,Hp hf hd (s:=n.cd.toNat) (t:=k) (by omega) hk,Fy.og]
  rw [ak dT,wI (f.aa[k].aD)]
  unfold IQ
  rw [bM hk,kE]
  by_cases c:f.aa[k].aD=n.aD
  ·rw [ak (by simpa using c)]
   cases X3:od f d n.cd.toNat k with
   | true=>rw [ak rfl,ak (by simp only [cf,bN];omega),ak (by simp [c])]
   | false=>rw [ax (by simp),ax (by simp)];simp
  ·rw [ax (by simpa using c),ax (by simp),ax (by simp [c])];simp) (fun xs=>by simp [Fy.Df])
 simp only [Fy,GR,ar,this,Fy.nS,gm,Le,tT]
theorem IR{f:ae}(hf:kw f){d:av 96 Int}(hd:gM d){n:ai}(ha:0≤n.cd∧n.cd<f.ag)(hp:0≤n.aD∧n.aD≤47):F4 f d n=some (yg (tT f d n)):=by
 have xN:=hf.h1;have rk:=hf.s1
 have ea:au n.cd=((n.cd.toNat:Nat):Int):=by rw [bc (by omega) (by omega)];omega
 have:=iL (f:=F4.fY f d n) f.aa.length 1 (by omega) (fun k=>if IQ f d n k=true then [(k:Int)] else []) [] (fun k _=>by split<;>simp) (fun xs k hk hx=>by
  have hm:=hf.hp _ (bT hk)
  simp only [bN] at hx
  simp only [F4.fY,de hk,ar,ea,zu hf hd (s:=n.cd.toNat) (t:=k) (by omega) hk,F4.u6]
  rw [ak dT]
  unfold IQ
  rw [bM hk,kE]
  by_cases c:f.aa[k].aD=n.aD
  ·rw [ak (by simpa using c)]
   cases X3:od f d n.cd.toNat k with
   | true=>rw [ak rfl,ak (by simp only [cf,bN];omega),ak (by simp [c])]
   | false=>rw [ax (by simp),ax (by simp)];simp
  ·rw [ax (by simpa using c),ax (by simp),ax (by simp [c])];simp) (fun xs=>by simp [F4.fY])
 simp only [F4,ar,this,F4.fk,gm,Le,tT]
theorem EK{f:ae}{d:av 96 Int}{s t:Nat}(h:od f d s t=true):fF d s t=false:=by
 unfold od at h
 simp only [bY,kA] at h
 exact h.1
theorem IS{d:av 96 Int}{s t:Nat}(ht:t<32):jr d s t=av.set d (s:Int) (wC .u32 (ir d s:Int) ((2^t:Nat):Int)):=by
 unfold jr
 rw [ve t ht]
theorem U3{d:av 96 Int}(hd:gM d){s t:Nat}(hs:s<96)(ht:t<32):ix (jr d s t).1 (s:Int)=some (((ir d s ||| 2^t:Nat)):Int):=by
 have h1:=nj hd s
 have h2:=uM ht
 rw [lv (sM hd hs ht) hs,IS ht,OK _ _ h1 h2,rL hs,ak rfl]
theorem U4{d:av 96 Int}(hd:gM d){s t:Nat}(hs:s<96)(ht:t<32)(hp:fF d s t=false):av.set (jr d s t) (s:Int) (kl .u32 (((ir d s ||| 2^t:Nat)):Int) ((2^t:Nat):Int))=d:=by
 have h1:=nj hd s
 have h2:=uM ht
 have h3:ir d s ||| 2^t<4294967296:=ua (n:=32) h1 h2
 have e:Cu (ir d s ||| 2^t) (2^t)=ir d s:=by
  apply rV
  intro i
  rw [sG,Nat.testBit_or,te]
  by_cases c:t=i
  ·subst c
   have:(ir d s).testBit t=false:=hp
   simp [this]
  ·simp [c]
 rw [Et _ _ h3 h2,e]
 refine KS (vf (sM hd hs ht) s h1) hd fun k hk=> ?_
 rw [rL hs]
 by_cases c:s=k
 ·subst c;rw [ak rfl]
 ·rw [ax c,IS ht,OK _ _ h1 h2,rL hs,ax c]
structure PS where
 fv:Int
 over:Bool
 found:Bool
 gh:Int
 fb:av 96 Int
def iB(cB:Bool)(r:PS):Bool:=r.over || (r.found&& !cB)
def dX(bW:av 96 Int)(s k:Nat)(fresh:Int):Int:=fresh+if fF bW s k=true then 0 else 1
def oq(bW:av 96 Int)(s:Nat)(cB:Bool)(ah:Int)(go:av 96 Int→Int→PS→PS)(d:av 96 Int)(fresh:Int):List Nat→PS→PS
 | [],r=>r
 | k::ks,r=>if r.fv=ah then⟨r.fv,true,r.found,r.gh,r.fb⟩
  else if cB=true∧r.found=true∧r.gh≤dX bW s k fresh then oq bW s cB ah go d fresh ks ⟨r.fv+1,r.over,r.found,r.gh,r.fb⟩
  else if iB cB (go (jr d s k) (dX bW s k fresh) ⟨r.fv+1,r.over,r.found,r.gh,r.fb⟩)=true then go (jr d s k) (dX bW s k fresh) ⟨r.fv+1,r.over,r.found,r.gh,r.fb⟩
  else oq bW s cB ah go d fresh ks (go (jr d s k) (dX bW s k fresh) ⟨r.fv+1,r.over,r.found,r.gh,r.fb⟩)
def mZ(f:ae)(t:List ai)(bW:av 96 Int)(cB:Bool)(ah:Int):Nat→Nat→av 96 Int→Int→PS→PS
 | 0=>fun _ d fresh r=>⟨r.fv,r.over,true,fresh,d⟩
 | m+1=>fun i d fresh r=>match t[i]? with
  | some n=>oq bW n.cd.toNat cB ah (mZ f t bW cB ah m (i+1)) d fresh (tT f d n) r
  | none=>r
structure Ht (f:ae) (t:List ai) (bW:av 96 Int) (ah:Int):Prop where
 hf:kw f
 ht:xf t
 st:∀n∈t,n.cd<f.ag
 ho:gM bW
 hb:0≤ah∧ah≤20000
def zD(ah:Int)(r:PS):Prop:=0≤r.fv∧r.fv≤ah
abbrev Hu(f:ae)(t:List ai)(bW:av 96 Int)(cB:Bool)(ah:Int)(r:PS):dx:=⟨f,t,bW,ah,r.fv,r.over,r.found,r.gh,r.fb,cB⟩
abbrev GI(f:ae)(t:List ai)(bW:av 96 Int)(cB:Bool)(ah:Int)(r:PS)(d:av 96 Int):bZ:=⟨f,t,bW,cB,ah,r.fv,r.over,d,r.found,r.fb,r.gh⟩
def U5(f:ae)(t:List ai)(bW:av 96 Int)(cB:Bool)(ah:Int)(r:PS):dx⊕(Int×(av 96 Int)×Int×Int×Bool×Bool×Int×(av 96 Int)×Bool):=
 if iB cB r=true then .inl (Hu f t bW cB ah r) else .inr (f.ag,bW,ah,r.fv,r.over,r.found,r.gh,r.fb,cB)
def U6(f:ae)(t:List ai)(bW:av 96 Int)(cB:Bool)(ah:Int)(r:PS)(d:av 96 Int):(Bool×bZ)⊕((av 96 Int)×Bool×Int×Int×Bool×(av 96 Int)×Bool×(av 96 Int)×Int):=
 if iB cB r=true then .inl (true,GI f t bW cB ah r d) else .inr (bW,cB,ah,r.fv,r.over,d,r.found,r.fb,r.gh)
section
variable {bW:av 96 Int} {s:Nat} {cB:Bool} {ah:Int} {go:av 96 Int→Int→PS→PS} {d:av 96 Int} {fresh:Int} {k:Nat} {ks:List Nat} {r:PS}
theorem AK(hb:r.fv=ah):oq bW s cB ah go d fresh (k::ks) r=⟨r.fv,true,r.found,r.gh,r.fb⟩:=by rw [oq,ak hb]
theorem AL(hb:¬r.fv=ah)(hc:cB=true∧r.found=true∧r.gh≤dX bW s k fresh):oq bW s cB ah go d fresh (k::ks) r=oq bW s cB ah go d fresh ks ⟨r.fv+1,r.over,r.found,r.gh,r.fb⟩:=by
 rw [oq,ax hb,ak hc]
theorem xV(hb:¬r.fv=ah)(hc:¬(cB=true∧r.found=true∧r.gh≤dX bW s k fresh))(hs:iB cB (go (jr d s k) (dX bW s k fresh) ⟨r.fv+1,r.over,r.found,r.gh,r.fb⟩)=true):
  oq bW s cB ah go d fresh (k::ks) r=go (jr d s k) (dX bW s k fresh) ⟨r.fv+1,r.over,r.found,r.gh,r.fb⟩:=by rw [oq,ax hb,ax hc,ak hs]
theorem CO(hb:¬r.fv=ah)(hc:¬(cB=true∧r.found=true∧r.gh≤dX bW s k fresh))(hs:¬iB cB (go (jr d s k) (dX bW s k fresh) ⟨r.fv+1,r.over,r.found,r.gh,r.fb⟩)=true):
  oq bW s cB ah go d fresh (k::ks) r=oq bW s cB ah go d fresh ks (go (jr d s k) (dX bW s k fresh) ⟨r.fv+1,r.over,r.found,r.gh,r.fb⟩):=by rw [oq,ax hb,ax hc,ax hs]
end
theorem Nk{xs ys zs:List Nat}{x:Nat}(h:xs=ys++x::zs):ix (yg xs) (ys.length:Int)=some (x:Int):=by
 subst h
 have hl:ys.length<(yg (ys++x::zs)).length:=by rw [uR];simp
 rw [de hl]
 simp [yg]
end Go.Proofs.YtplklknkkaeniaaGreat
namespace Go.Proofs.YtplklknkkaeniaaGreat
open Eng
set_option linter.unusedVariables false
set_option linter.unusedSimpArgs false
theorem U7{f:ae}{t:List ai}{bW:av 96 Int}{ah:Int}(h:Ht f t bW ah)(cB:Bool)
  (td:dx→av 96 Int→Int→Int→Option dx) (go:av 96 Int→Int→PS→PS) {d:av 96 Int} (hd:gM d) {i:Nat} {fresh:Int} (X3:0≤fresh∧fresh≤(i:Int))
  {n:ai} (hn:t[i]?=some n) (r0:PS)
  (hs:∀k r,k∈tT f d n→zD ah r→iB cB r=false→td (Hu f t bW cB ah r) (jr d n.cd.toNat k) ((i+1:Nat):Int) (dX bW n.cd.toNat k fresh)=some (Hu f t bW cB ah (go (jr d n.cd.toNat k) (dX bW n.cd.toNat k fresh) r))∧zD ah (go (jr d n.cd.toNat k) (dX bW n.cd.toNat k fresh) r)):
  ∀(zs ys:List Nat) (r:PS),tT f d n=ys++zs→zD ah r→iB cB r=false→
   loop (Fr.s6 td (Hu f t bW cB ah r0) d (i:Int) fresh n (yg (tT f d n))) (f.ag,bW,ah,r.fv,r.over,r.found,r.gh,r.fb,cB,(ys.length:Int))=some (U5 f t bW cB ah (oq bW n.cd.toNat cB ah go d fresh zs r))∧
   zD ah (oq bW n.cd.toNat cB ah go d fresh zs r):=by
 intro zs
 obtain⟨hf,ht,Cc,ho,hb⟩:=h
 have hit:i<t.length:=(gY.1 hn).1
 have v8:=ht.len
 have hnm:=dt hn
 have VW:=ht.nt n hnm
 have VY:=Cc n hnm
 have rk:=hf.s1;have xN:=hf.h1
 have ea:au n.cd=((n.cd.toNat:Nat):Int):=by rw [bc (by omega) (by omega)];omega
 have hl:=O2 f d n
 have hw:au ((i:Int)+1)=((i+1:Nat):Int):=by rw [bc (by omega) (by omega)];omega
 induction zs with
 | nil=>
  intro ys r vu yX rR
  refine⟨?_,yX⟩
  rw [bH]
  simp only [Fr.s6,oq]
  rw [ax (by rw [bC,vu];simp [uR])]
  simp [rR,U5]
 | cons k zs ih=>
  intro ys r vu yX rR
  have hkm:k∈tT f d n:=by rw [vu];simp
  obtain⟨hk,xm⟩:=vl hkm
  have hyl:ys.length<(tT f d n).length:=by rw [vu];simp
  have hj:(ys.length:Int)<((yg (tT f d n)).length:Int):=by rw [uR];omega
  have Gn:au ((ys.length:Int)+1)=(((ys++ [k]).length:Nat):Int):=by rw [bc (by omega) (by omega)];simp
  have K0:=fun r' (h1:zD ah r') (h2:iB cB r'=false)=>ih (ys++ [k]) r' (by rw [vu];simp) h1 h2
  have agY:=IF hd (s:=n.cd.toNat) (t:=k) (by omega) (by omega)
  have abV:=vg ho (s:=n.cd.toNat) (t:=k) (by omega) (by omega)
  obtain⟨q1,q2⟩:=yX
  rw [bH]
  by_cases zx:r.fv=ah
  ·rw [AK zx]
   refine⟨?_,q1,q2⟩
   simp only [Fr.s6,Hu,Nk vu,ar]
   rw [ak (by rw [bC];exact hj),ak (by simpa using zx)]
   simp [U5,Hu,iB,zx]
  ·have Cf:au (r.fv+1)=r.fv+1:=bc (by omega) (by omega)
   have hfv:au (fresh+if fF bW n.cd.toNat k=true then 0 else 1)=dX bW n.cd.toNat k fresh:=by
    unfold dX
    split<;>exact bc (by omega) (by omega)
   have EL:Pq (!(fF bW n.cd.toNat k))=some (if fF bW n.cd.toNat k=true then 0 else 1):=by
    unfold Pq
    cases fF bW n.cd.toNat k<;>rfl
   have abW:Fr.s6 td (Hu f t bW cB ah r0) d (i:Int) fresh n (yg (tT f d n)) (f.ag,bW,ah,r.fv,r.over,r.found,r.gh,r.fb,cB,(ys.length:Int))=Fr.mV td (Hu f t bW cB ah r0) (i:Int) n f.ag bW ah r.fv r.over r.found r.gh r.fb cB (ys.length:Int) (k:Int) d (dX bW n.cd.toNat k fresh):=by
    simp only [Fr.s6,Nk vu,ar,ea,abV,EL,hfv]
    rw [ak (by rw [bC];exact hj),ax (by simpa using zx)]
   rw [abW]
   have Gt:zD ah ⟨r.fv+1,r.over,r.found,r.gh,r.fb⟩:=⟨by show 0≤r.fv+1;omega,by show r.fv+1≤ah;omega⟩
   have QA:iB cB ⟨r.fv+1,r.over,r.found,r.gh,r.fb⟩=false:=rR
   by_cases hcut:cB=true∧r.found=true∧r.gh≤dX bW n.cd.toNat k fresh
   ·rw [AL zx hcut]
    obtain⟨n1,n2⟩:=K0 _ Gt QA
    refine⟨?_,n2⟩
    rw [←n1]
    simp only [Fr.mV,ea,agY,ar,Cf,Gn]
    rw [ak (by simp only [bY,bC];exact⟨⟨hcut.1,hcut.2.1⟩,hcut.2.2⟩)]
   ·have NN:Fr.mV td (Hu f t bW cB ah r0) (i:Int) n f.ag bW ah r.fv r.over r.found r.gh r.fb cB (ys.length:Int) (k:Int) d (dX bW n.cd.toNat k fresh)=(some (Hu f t bW cB ah (go (jr d n.cd.toNat k) (dX bW n.cd.toNat k fresh) ⟨r.fv+1,r.over,r.found,r.gh,r.fb⟩))).bind fun yd=>(if yd.ez=true then some (.inr (.inl yd)) else(if(yd.c7&&(!yd.gN))=true then some (.inr (.inl yd)) else some (.inl (yd.ff.ag,yd.fold,yd.bA,yd.eD,yd.ez,yd.c7,yd.j6,yd.bp,yd.gN,(((ys++ [k]).length:Nat):Int))))):=by
     have:=(hs k _ hkm Gt QA).1
     simp only [Fr.mV,ea,agY,ar,Cf,Gn,hw]
     rw [ax (by simp only [bY,bC];exact fun e=>hcut ⟨e.1.1,e.1.2,e.2⟩)]
     have e:(⟨(⟨f.ag,(Hu f t bW cB ah r0).ff.aa⟩:ae),(Hu f t bW cB ah r0).ft,bW,ah,r.fv+1,r.over,r.found,r.gh,r.fb,cB⟩:dx)=Hu f t bW cB ah ⟨r.fv+1,r.over,r.found,r.gh,r.fb⟩:=rfl
     rw [e,this]
     rfl
    rw [NN]
    obtain⟨g1,g2⟩:=hs k _ hkm Gt QA
    generalize hg:go (jr d n.cd.toNat k) (dX bW n.cd.toNat k fresh) ⟨r.fv+1,r.over,r.found,r.gh,r.fb⟩=g at*
    by_cases sS:iB cB g=true
    ·rw [xV zx hcut (by rw [hg];exact sS),hg]
     refine⟨?_,g2⟩
     simp only [ar,U5,ak sS]
     unfold iB at sS
     cases ZB:g.over with
     | true=>simp [Hu,ZB]
     | false=>
      rw [ZB,Bool.false_or] at sS
      simp [Hu,ZB,sS]
    ·rw [CO zx hcut (by rw [hg];exact sS),hg]
     have xn:iB cB g=false:=by simpa using sS
     obtain⟨n1,n2⟩:=K0 g g2 xn
     refine⟨?_,n2⟩
     rw [←n1]
     unfold iB at xn
     simp only [Bool.or_eq_false_iff] at xn
     simp only [ar]
     rw [ax (show¬g.over=true by rw [xn.1];simp),ax (show¬(g.found&& !cB)=true by rw [xn.2];simp)]
theorem O3{f:ae}{t:List ai}{bW:av 96 Int}{ah:Int}(h:Ht f t bW ah)(cB:Bool):∀(m i:Nat) (d:av 96 Int) (fresh:Int) (r:PS) (e:Nat),i+m=t.length→gM d→0≤fresh∧fresh≤(i:Int)→zD ah r→iB cB r=false→
  Fr.fW (m+1+e) (Hu f t bW cB ah r) d (i:Int) fresh=some (Hu f t bW cB ah (mZ f t bW cB ah m i d fresh r))∧zD ah (mZ f t bW cB ah m i d fresh r):=by
 intro m
 induction m with
 | zero=>
  intro i d fresh r e him hd X3 hr Cc
  rw [show 0+1+e=e+1 by omega]
  refine⟨?_,hr⟩
  show Fr.step (Fr.fW e) _ _ _ _=_
  simp only [Fr.step]
  rw [ak (by simp;omega)]
  rfl
 | succ m ih=>
  intro i d fresh r e him hd X3 hr Cc
  have hit:i<t.length:=by omega
  have hn:t[i]?=some t[i]:=bM hit
  have VW:=h.ht.nt _ (bT hit)
  have VY:=h.st _ (bT hit)
  have rk:=h.hf.s1;have xN:=h.hf.h1
  have hL:=U7 h cB (Fr.fW (m+1+e)) (mZ f t bW cB ah m (i+1)) hd X3 hn r (fun k r' hk h1 h2=>by
   obtain⟨ZC,Q0⟩:=vl hk
   exact ih (i+1) _ _ r' e (by omega) (sM hd (by omega) (by omega)) (by unfold dX;split<;>omega) h1 h2) (tT f d t[i]) [] r rfl hr Cc
  rw [show m+1+1+e=(m+1+e)+1 by omega]
  have e0:mZ f t bW cB ah (m+1) i d fresh r=oq bW t[i].cd.toNat cB ah (mZ f t bW cB ah m (i+1)) d fresh (tT f d t[i]) r:=by
   show (match t[i]? with | some n=>oq bW n.cd.toNat cB ah (mZ f t bW cB ah m (i+1)) d fresh (tT f d n) r | none=>r)=_
   rw [hn]
  rw [e0]
  refine⟨?_,hL.2⟩
  have hft:=yH h.hf hd (n:=t[i]) (by omega) (by omega)
  have Xd:=hL.1
  rw [bN] at Xd
  show Fr.step (Fr.fW (m+1+e)) _ _ _ _=_
  simp only [Fr.step,de hit,ar]
  have ef:(⟨f.ag,f.aa⟩:ae)=f:=rfl
  rw [ax (by simp;omega),ef,hft]
  simp only [ar]
  have hz:((0:Nat):Int)=0:=rfl
  rw [hz] at Xd
  rw [Xd]
  simp only [ar,U5]
  by_cases c:iB cB (oq bW t[i].cd.toNat cB ah (mZ f t bW cB ah m (i+1)) d fresh (tT f d t[i]) r)=true
  ·rw [ak c]
  ·rw [ax c];rfl
theorem QC{f:ae}{t:List ai}{bW:av 96 Int}{ah:Int}(h:Ht f t bW ah)(cB:Bool)
  (td:bZ→Int→Int→Option (Bool×bZ)) (go:av 96 Int→Int→PS→PS) {d:av 96 Int} (hd:gM d) {i:Nat} {fresh:Int} (X3:0≤fresh∧fresh≤(i:Int))
  {n:ai} (hn:t[i]?=some n) (r0:PS) (d0:av 96 Int)
  (hs:∀k r,k∈tT f d n→zD ah r→iB cB r=false→(∃d',td (GI f t bW cB ah r (jr d n.cd.toNat k)) ((i+1:Nat):Int) (dX bW n.cd.toNat k fresh)=some (iB cB (go (jr d n.cd.toNat k) (dX bW n.cd.toNat k fresh) r),GI f t bW cB ah (go (jr d n.cd.toNat k) (dX bW n.cd.toNat k fresh) r) d')∧
   (iB cB (go (jr d n.cd.toNat k) (dX bW n.cd.toNat k fresh) r)=false→d'=jr d n.cd.toNat k))∧zD ah (go (jr d n.cd.toNat k) (dX bW n.cd.toNat k fresh) r)):
  ∀(zs ys:List Nat) (r:PS),tT f d n=ys++zs→zD ah r→iB cB r=false→
   (∃d',loop (Fk.s6 td (GI f t bW cB ah r0 d0) (i:Int) fresh n (yg (tT f d n))) (bW,cB,ah,r.fv,r.over,d,r.found,r.fb,r.gh,(ys.length:Int))=some (U6 f t bW cB ah (oq bW n.cd.toNat cB ah go d fresh zs r) d')∧
    (iB cB (oq bW n.cd.toNat cB ah go d fresh zs r)=false→d'=d)):=by
 intro zs
 obtain⟨hf,ht,Cc,ho,hb⟩:=h
 have hit:i<t.length:=(gY.1 hn).1
 have v8:=ht.len
 have hnm:=dt hn
 have VW:=ht.nt n hnm
 have VY:=Cc n hnm
 have rk:=hf.s1;have xN:=hf.h1
 have ea:n.cd=((n.cd.toNat:Nat):Int):=by omega
 have hl:=O2 f d n
 have hw:au ((i:Int)+1)=((i+1:Nat):Int):=by rw [bc (by omega) (by omega)];omega
 induction zs with
 | nil=>
  intro ys r vu yX rR
  refine⟨d,?_,fun _=>rfl⟩
  rw [bH]
  simp only [Fk.s6,oq]
  rw [ax (by rw [bC,vu];simp [uR])]
  simp [rR,U6]
 | cons k zs ih=>
  intro ys r vu yX rR
  have hkm:k∈tT f d n:=by rw [vu];simp
  obtain⟨hk,xm⟩:=vl hkm
  have hnp:=EK xm
  have hyl:ys.length<(tT f d n).length:=by rw [vu];simp
  have hj:(ys.length:Int)<((yg (tT f d n)).length:Int):=by rw [uR];omega
  have Gn:au ((ys.length:Int)+1)=(((ys++ [k]).length:Nat):Int):=by rw [bc (by omega) (by omega)];simp
  have K0:=fun r' (h1:zD ah r') (h2:iB cB r'=false)=>ih (ys++ [k]) r' (by rw [vu];simp) h1 h2
  obtain⟨q1,q2⟩:=yX
  rw [bH]
  by_cases zx:r.fv=ah
  ·rw [AK zx]
   refine⟨d,?_,fun _=>rfl⟩
   simp only [Fk.s6,GI]
   rw [ak (by rw [bC];exact hj),ak (by simpa using zx)]
   simp [U6,GI,iB,zx]
  ·have Cf:au (r.fv+1)=r.fv+1:=bc (by omega) (by omega)
   have hbt:=U2 (t:=k) (by omega)
   have ajm:=uM (t:=k) (by omega)
   have Cg:=lv ho (s:=n.cd.toNat) (by omega)
   rw [←ea] at Cg
   have hand:((qH .u32 (ir bW n.cd.toNat:Int) ((2^k:Nat):Int))==0)= !(fF bW n.cd.toNat k):=by
    rw [Er _ _ (nj ho _) ajm]
    unfold fF
    by_cases c:(ir bW n.cd.toNat).testBit k=true
    ·have:ir bW n.cd.toNat&&&2^k≠0:=by
      intro e
      have:=fI (fun z=>z.testBit k) e
      simp [Nat.testBit_and,c,te] at this
     rw [c];simp;omega
    ·have:ir bW n.cd.toNat&&&2^k=0:=by
      apply rV
      intro i
      rw [Nat.testBit_and,te,Nat.zero_testBit]
      by_cases e:k=i
      ·subst e;simp at c;simp [c]
      ·simp [e]
     simp at c
     rw [this,c];rfl
   have abW:Fk.s6 td (GI f t bW cB ah r0 d0) (i:Int) fresh n (yg (tT f d n)) (bW,cB,ah,r.fv,r.over,d,r.found,r.fb,r.gh,(ys.length:Int))=Fk.mV td (GI f t bW cB ah r0 d0) (i:Int) n bW cB ah r.fv r.over d r.found r.fb r.gh (ys.length:Int) ((2^k:Nat):Int) (dX bW n.cd.toNat k fresh):=by
    simp only [Fk.s6,Nk vu,ar,hbt,Cg,hand]
    rw [ak (by rw [bC];exact hj),ax (by simpa using zx)]
    unfold dX
    cases fF bW n.cd.toNat k with
    | true=>simp
    | false=>simp only [oF,cp,cM,bU];rw [bc (by omega) (by omega)]
   rw [abW]
   have Gt:zD ah ⟨r.fv+1,r.over,r.found,r.gh,r.fb⟩:=⟨by show 0≤r.fv+1;omega,by show r.fv+1≤ah;omega⟩
   have QA:iB cB ⟨r.fv+1,r.over,r.found,r.gh,r.fb⟩=false:=rR
   by_cases hcut:cB=true∧r.found=true∧r.gh≤dX bW n.cd.toNat k fresh
   ·rw [AL zx hcut]
    obtain⟨d',n1,n2⟩:=K0 _ Gt QA
    refine⟨d',?_,n2⟩
    rw [←n1]
    simp only [Fk.mV,Cf,Gn]
    rw [ak (by simp only [bY,bC];exact⟨⟨hcut.1,hcut.2.1⟩,hcut.2.2⟩)]
   ·obtain⟨⟨d1,g1,g3⟩,g2⟩:=hs k _ hkm Gt QA
    have hrd:=lv hd (s:=n.cd.toNat) (by omega)
    rw [←ea] at hrd
    have abX:av.set d n.cd (wC .u32 (ir d n.cd.toNat:Int) ((2^k:Nat):Int))=jr d n.cd.toNat k:=by
     rw [IS (by omega),←ea]
    have NN:Fk.mV td (GI f t bW cB ah r0 d0) (i:Int) n bW cB ah r.fv r.over d r.found r.fb r.gh (ys.length:Int) ((2^k:Nat):Int) (dX bW n.cd.toNat k fresh)=
      (td (GI f t bW cB ah ⟨r.fv+1,r.over,r.found,r.gh,r.fb⟩ (jr d n.cd.toNat k)) ((i+1:Nat):Int) (dX bW n.cd.toNat k fresh)).bind fun tP=>(if tP.1=true then some (.inr (.inl (true,(⟨(⟨f.ag,f.aa⟩:ae),t,tP.2.fold,tP.2.nv,tP.2.bA,tP.2.eD,tP.2.ez,tP.2.jx,tP.2.c7,tP.2.bp,tP.2.d_⟩:bZ)))) else(ix tP.2.jx.1 n.cd).bind fun aby=>(ix tP.2.jx.1 n.cd).bind fun ai0=>some (.inl (tP.2.fold,tP.2.nv,tP.2.bA,tP.2.eD,tP.2.ez,(av.set tP.2.jx n.cd (kl .u32 aby ((2^k:Nat):Int))),tP.2.c7,tP.2.bp,tP.2.d_,(((ys++ [k]).length:Nat):Int)))):=by
     simp only [Fk.mV,Cf,Gn,hw,hrd,ar,abX]
     rw [ax (by simp only [bY,bC];exact fun e=>hcut ⟨e.1.1,e.1.2,e.2⟩)]
    rw [NN,g1]
    simp only [ar]
    generalize hg:go (jr d n.cd.toNat k) (dX bW n.cd.toNat k fresh) ⟨r.fv+1,r.over,r.found,r.gh,r.fb⟩=g at*
    by_cases sS:iB cB g=true
    ·rw [xV zx hcut (by rw [hg];exact sS),hg]
     refine⟨d1,?_,fun e=>by rw [sS] at e;cases e⟩
     rw [ak sS]
     simp only [U6,ak sS]
    ·rw [CO zx hcut (by rw [hg];exact sS),hg]
     have xn:iB cB g=false:=by simpa using sS
     obtain⟨d',n1,n2⟩:=K0 g g2 xn
     refine⟨d',?_,n2⟩
     rw [←n1,ax sS]
     have hd1:=g3 xn
     subst hd1
     have hr2:=U3 hd (s:=n.cd.toNat) (t:=k) (by omega) (by omega)
     have hc2:=U4 hd (s:=n.cd.toNat) (t:=k) (by omega) (by omega) hnp
     rw [←ea] at hr2 hc2
     simp only [hr2,ar,hc2]
theorem U8{f:ae}{t:List ai}{bW:av 96 Int}{ah:Int}(h:Ht f t bW ah)(cB:Bool):∀(m i:Nat) (d:av 96 Int) (fresh:Int) (r:PS) (e:Nat),i+m=t.length→gM d→0≤fresh∧fresh≤(i:Int)→zD ah r→iB cB r=false→
  ∃d',Fk.fW (m+1+e) (GI f t bW cB ah r d) (i:Int) fresh=some (iB cB (mZ f t bW cB ah m i d fresh r),GI f t bW cB ah (mZ f t bW cB ah m i d fresh r) d')∧(iB cB (mZ f t bW cB ah m i d fresh r)=false→d'=d):=by
 intro m
 induction m with
 | zero=>
  intro i d fresh r e him hd X3 hr Cc
  rw [show 0+1+e=e+1 by omega]
  refine⟨d,?_,fun _=>rfl⟩
  show Fk.step (Fk.fW e) _ _ _=_
  simp only [Fk.step]
  rw [ak (by simp;omega)]
  unfold iB at Cc
  simp only [Bool.or_eq_false_iff] at Cc
  simp [mZ,iB,Cc.1,GI]
 | succ m ih=>
  intro i d fresh r e him hd X3 hr Cc
  have hit:i<t.length:=by omega
  have hn:t[i]?=some t[i]:=bM hit
  have VW:=h.ht.nt _ (bT hit)
  have VY:=h.st _ (bT hit)
  have rk:=h.hf.s1;have xN:=h.hf.h1
  obtain⟨d',Xd,hL2⟩:=QC h cB (Fk.fW (m+1+e)) (mZ f t bW cB ah m (i+1)) hd X3 hn r d (fun k r' hk h1 h2=>by
   obtain⟨ZC,Q0⟩:=vl hk
   have hdk:gM (jr d t[i].cd.toNat k):=sM hd (by omega) (by omega)
   have hfk:0≤dX bW t[i].cd.toNat k fresh∧dX bW t[i].cd.toNat k fresh≤((i+1:Nat):Int):=by unfold dX;split<;>omega
   exact⟨ih (i+1) _ _ r' e (by omega) hdk hfk h1 h2,(O3 h cB m (i+1) _ _ r' e (by omega) hdk hfk h1 h2).2⟩) (tT f d t[i]) [] r rfl hr Cc
  rw [show m+1+1+e=(m+1+e)+1 by omega]
  have e0:mZ f t bW cB ah (m+1) i d fresh r=oq bW t[i].cd.toNat cB ah (mZ f t bW cB ah m (i+1)) d fresh (tT f d t[i]) r:=by
   show (match t[i]? with | some n=>oq bW n.cd.toNat cB ah (mZ f t bW cB ah m (i+1)) d fresh (tT f d n) r | none=>r)=_
   rw [hn]
  rw [e0]
  have hft:=IR h.hf hd (n:=t[i]) (by omega) (by omega)
  rw [bN] at Xd
  refine⟨d',?_,hL2⟩
  show Fk.step (Fk.fW (m+1+e)) _ _ _=_
  simp only [Fk.step,de hit,ar]
  have ef:(⟨f.ag,f.aa⟩:ae)=f:=rfl
  rw [ax (by simp;omega),ef,hft]
  simp only [ar]
  have hz:((0:Nat):Int)=0:=rfl
  rw [hz] at Xd
  rw [Xd]
  simp only [ar,U6]
  by_cases c:iB cB (oq bW t[i].cd.toNat cB ah (mZ f t bW cB ah m (i+1)) d fresh (tT f d t[i]) r)=true
  ·rw [ak c,c]
  ·rw [ax c]
   have c':iB cB (oq bW t[i].cd.toNat cB ah (mZ f t bW cB ah m (i+1)) d fresh (tT f d t[i]) r)=false:=by simpa using c
   rw [hL2 c',c']
   rfl
end Go.Proofs.YtplklknkkaeniaaGreat
namespace Go.Proofs.YtplklknkkaeniaaGreat
open Eng
set_option linter.unusedVariables false
set_option linter.unusedSimpArgs false
def wg(t:List ai):Int:=match t.getLast? with | some n=>n.cd+1 | none=>0
theorem oe{t:List ai}(ht:xf t):Fby t=some (wg t)∧Wy t=some (wg t):=by
 have v8:=ht.len
 unfold Fby Wy wg
 by_cases h0:t.length=0
 ·rw [ak (by simp;exact uV.1 h0),uV.1 h0]
  exact⟨rfl,rfl⟩
 ·have hl:t.length-1<t.length:=by omega
  have hw:au ((t.length:Int)-1)=((t.length-1:Nat):Int):=by rw [bc (by omega) (by omega)];omega
  have hn:=ht.nt _ (bT hl)
  rw [ax (by simp only [k8];omega),hw,de hl,List.getLast?_eq_getElem?,bM hl]
  simp only [ar]
  rw [wI (t[t.length-1].cd),bc (by omega) (by omega)]
  exact⟨rfl,rfl⟩
theorem tx{t:List ai}(ht:xf t){s:Int}(h:wg t≤s):∀n∈t,n.cd<s:=by
 intro n hn
 obtain⟨i,hi,rfl⟩:=tX hn
 have hl:t.length-1<t.length:=by omega
 unfold wg at h
 rw [List.getLast?_eq_getElem?,bM hl] at h
 simp only at h
 by_cases c:i=t.length-1
 ·subst c;omega
 ·have:=ou.1 ht.so i (t.length-1) hi hl (by omega)
  rw [qZ] at this
  omega
def yI(f:ae)(t:List ai)(ah:Int):Int:=
 if fO f=true∧iM t=true then(if wg t≤f.ag∧0≤ah∧ah≤20000 then 0 else 2) else 1
theorem Hv{f:ae}{t:List ai}(ah:Int)(hi:vE f)(hl:f.aa.length≤9223372036854775807)(ht:t.length≤9223372036854775807)(hn:∀n∈t,AG n):F8 f t ah []=some (yI f t ah):=by
 have hd:GU f []=some (if fO f=true then 0 else 1):=by rw [qY f hi hl [] (by simp) (by simp)];simp
 have Nl:=uN ht hn
 unfold yI
 cases hf:fO f with
 | false=>rw [hf] at hd;simp [F8,hd,Nl,iv]
 | true=>
  rw [hf,ak rfl] at hd
  cases IT:iM t with
  | false=>rw [IT,ax (by simp)] at Nl;simp [F8,hd,Nl,iv]
  | true=>
   rw [IT,ak rfl] at Nl
   have xW:=jA hf hi
   have xD:=xW.s0;have rk:=xW.s1
   simp only [F8,hd,Nl,iv,ar,(oe (lx IT)).1,FB,ii]
   rw [wI f.ag]
   by_cases c:wg t≤f.ag
   ·by_cases c2:0≤ah∧ah≤20000
    ·simp [c,c2]
    ·have c3:(decide (0≤ah)&&decide (ah≤20000))=false:=by rw [rD];simpa using c2
     simp only [c3]
     simp [c]
     intro a;omega
   ·simp [c]
theorem Nn{f:ae}{t:List ai}(ah:Int)(hi:vE f)(hl:f.aa.length≤9223372036854775807)(ht:t.length≤9223372036854775807)(hn:∀n∈t,AG n):Dn f t ah=some (yI f t ah):=by
 have h1:=n5 f hl
 have h2:=xe ht hn
 unfold yI
 cases hf:fO f with
 | false=>rw [hf] at h1;simp [Dn,h1,Dn.fk]
 | true=>
  rw [hf] at h1
  cases IT:iM t with
  | false=>rw [IT] at h2;simp [Dn,h1,h2,Dn.fk]
  | true=>
   rw [IT] at h2
   have xW:=jA hf hi
   have xD:=xW.s0;have rk:=xW.s1
   simp only [Dn,h1,h2,ar,Dn.fk,(oe (lx IT)).2,FD,Dn.ki,jv,cM,bU]
   rw [wI f.ag]
   by_cases c:wg t≤f.ag
   ·by_cases c2:0≤ah∧ah≤20000
    ·simp [c,c2]
    ·have:¬(wg t≤f.ag∧0≤ah∧ah≤20000):=fun e=>c2 e.2
     have c3:(decide (ah≥0)&&decide (ah≤20000))=false:=by rw [rD];simpa using c2
     simp only [c3]
     simp [c]
     intro a;omega
   ·have:f.ag<wg t:=by omega
    simp [c,this]
theorem O4{f:ae}{t:List ai}{ah:Int}(hi:vE f)(h:yI f t ah=0){bW:av 96 Int}(ho:gM bW):Ht f t bW ah:=by
 unfold yI at h
 split at h
 ·rename_i c
  split at h
  ·rename_i c2
   exact⟨jA c.1 hi,lx c.2,tx (lx c.2) c2.1,ho,c2.2⟩
  ·cases h
 ·cases h
def mN(f:ae)(t:List ai)(bW:av 96 Int)(cB:Bool)(ah:Int):PS:=mZ f t bW cB ah t.length 0 (av.dC 96 0) 0 ⟨0,false,false,0,av.dC 96 0⟩
theorem O5{f:ae}{t:List ai}{bW:av 96 Int}{ah:Int}(h:Ht f t bW ah)(cB:Bool):
  Fr (⟨f,t,bW,ah,0,false,false,0,av.dC 96 0,cB⟩:dx) (av.dC 96 0) 0 0=some (Hu f t bW cB ah (mN f t bW cB ah))∧
  ∃d',Fk (⟨f,t,bW,cB,ah,0,false,av.dC 96 0,false,av.dC 96 0,0⟩:bZ) 0 0=some (iB cB (mN f t bW cB ah),GI f t bW cB ah (mN f t bW cB ah) d'):=by
 have v8:=h.ht.len
 have hr0:zD ah ⟨0,false,false,0,av.dC 96 0⟩:=⟨by show (0:Int)≤0;omega,h.hb.1⟩
 have e:t.length+1+(199-t.length)=200:=by omega
 have h1:=(O3 h cB t.length 0 (av.dC 96 0) 0 ⟨0,false,false,0,av.dC 96 0⟩ (199-t.length) (by omega) lZ (by omega) hr0 rfl).1
 obtain⟨d',h2,_⟩:=U8 h cB t.length 0 (av.dC 96 0) 0 ⟨0,false,false,0,av.dC 96 0⟩ (199-t.length) (by omega) lZ (by omega) hr0 rfl
 rw [e] at h1 h2
 exact⟨h1,d',h2⟩
def EM(f:ae)(t:List ai)(ah:Int):av 96 Int×Int×Int:=
 if yI f t ah=0 then(if(mN f t (av.dC 96 0) false ah).over=true then(av.dC 96 0,0,7) else if(mN f t (av.dC 96 0) false ah).found=false then(av.dC 96 0,0,6)
  else((mN f t (av.dC 96 0) false ah).fb,(mN f t (av.dC 96 0) false ah).fv,0)) else(av.dC 96 0,0,yI f t ah)
end Go.Proofs.YtplklknkkaeniaaGreat
namespace Go.Proofs.YtplklknkkaeniaaGreat
open Eng
set_option linter.unusedVariables false
set_option linter.unusedSimpArgs false
def Way(f:ae)(bW:av 96 Int):List ai→av 96 Int→Int→av 96 Int→Int→Prop
 | [],d,x,D,c=>D=d∧c=x
 | n::ns,d,x,D,c=>∃k,k∈tT f d n∧Way f bW ns (jr d n.cd.toNat k) (dX bW n.cd.toNat k x) D c
theorem QD(bW:av 96 Int)(s k:Nat)(x:Int):x≤dX bW s k x:=by unfold dX;split<;>omega
theorem U9{f:ae}{bW:av 96 Int}:∀(ns:List ai) (d:av 96 Int) (x:Int) (D:av 96 Int) (c:Int),Way f bW ns d x D c→x≤c
 | [],d,x,D,c,h=>by have:=h.2;omega
 | n::ns,d,x,D,c,h=>by
  obtain⟨k,_,h⟩:=h
  have h1:=U9 ns _ _ _ _ h
  have h2:=QD bW n.cd.toNat k x
  omega
theorem U_{bW:av 96 Int}{s:Nat}{cB:Bool}{ah:Int}{go:av 96 Int→Int→PS→PS}{d:av 96 Int}{fresh:Int}(W:Nat→av 96 Int→Int→Prop)
  (VX:∀k r,(go (jr d s k) (dX bW s k fresh) r).found=true→(r.found=true∧(go (jr d s k) (dX bW s k fresh) r).fb=r.fb∧(go (jr d s k) (dX bW s k fresh) r).gh=r.gh)∨W k (go (jr d s k) (dX bW s k fresh) r).fb (go (jr d s k) (dX bW s k fresh) r).gh):
  ∀(ks:List Nat) (r R:PS),oq bW s cB ah go d fresh ks r=R→R.found=true→(r.found=true∧R.fb=r.fb∧R.gh=r.gh)∨∃k∈ks,W k R.fb R.gh:=by
 intro ks
 induction ks with
 | nil=>intro r R e h;subst e;exact .inl ⟨h,rfl,rfl⟩
 | cons k ks ih=>
  intro r R e h
  by_cases hb:r.fv=ah
  ·rw [AK hb] at e;subst e;exact .inl ⟨h,rfl,rfl⟩
  ·by_cases hc:cB=true∧r.found=true∧r.gh≤dX bW s k fresh
   ·rw [AL hb hc] at e
    rcases ih _ R e h with h1 | ⟨k',h1,h2⟩
    ·exact .inl h1
    ·exact .inr ⟨k',lJ _ h1,h2⟩
   ·have g:=VX k ⟨r.fv+1,r.over,r.found,r.gh,r.fb⟩
    by_cases hs:iB cB (go (jr d s k) (dX bW s k fresh) ⟨r.fv+1,r.over,r.found,r.gh,r.fb⟩)=true
    ·rw [xV hb hc hs] at e
     rw [e] at g
     rcases g h with g | g
     ·exact .inl g
     ·exact .inr ⟨k,k6,g⟩
    ·rw [CO hb hc hs] at e
     rcases ih _ R e h with⟨h1,h2,h3⟩ | ⟨k',h1,h2⟩
     ·rcases g h1 with⟨g1,g2,g3⟩ | g
      ·exact .inl ⟨g1,h2.trans g2,h3.trans g3⟩
      ·refine .inr ⟨k,k6,?_⟩
       rw [h2,h3];exact g
     ·exact .inr ⟨k',lJ _ h1,h2⟩
theorem Hw{f:ae}{t:List ai}{bW:av 96 Int}{cB:Bool}{ah:Int}{m i:Nat}{d:av 96 Int}{fresh:Int}{r:PS}(hi:i<t.length):
  mZ f t bW cB ah (m+1) i d fresh r=oq bW t[i].cd.toNat cB ah (mZ f t bW cB ah m (i+1)) d fresh (tT f d t[i]) r:=by
 show (match t[i]? with | some n=>oq bW n.cd.toNat cB ah (mZ f t bW cB ah m (i+1)) d fresh (tT f d n) r | none=>r)=_
 rw [bM hi]
theorem U'{f:ae}{t:List ai}{bW:av 96 Int}{cB:Bool}{ah:Int}:∀(m i:Nat) (d:av 96 Int) (fresh:Int) (r:PS),i+m=t.length→(mZ f t bW cB ah m i d fresh r).found=true→
  (r.found=true∧(mZ f t bW cB ah m i d fresh r).fb=r.fb∧(mZ f t bW cB ah m i d fresh r).gh=r.gh)∨Way f bW (t.drop i) d fresh (mZ f t bW cB ah m i d fresh r).fb (mZ f t bW cB ah m i d fresh r).gh:=by
 intro m
 induction m with
 | zero=>
  intro i d fresh r him h
  right
  rw [mR (by omega)]
  exact⟨rfl,rfl⟩
 | succ m ih=>
  intro i d fresh r him h
  have hi:i<t.length:=by omega
  rw [Hw hi] at h⊢
  rw [qq hi]
  exact U_ (bW:=bW) (s:=t[i].cd.toNat) (cB:=cB) (ah:=ah) (go:=mZ f t bW cB ah m (i+1)) (d:=d) (fresh:=fresh) (W:=fun k D c=>Way f bW (t.drop (i+1)) (jr d t[i].cd.toNat k) (dX bW t[i].cd.toNat k fresh) D c) (fun k r h=>ih (i+1) _ _ r (by omega) h) _ r _ rfl h
theorem No{bW:av 96 Int}{s:Nat}{ah:Int}{go:av 96 Int→Int→PS→PS}{d:av 96 Int}{fresh:Int}(W:Nat→av 96 Int→Int→Prop)
  (hW:∀k D c,W k D c→dX bW s k fresh≤c)
  (VX:∀k r,r.over=false→(r.found=true→dX bW s k fresh<r.gh)→(go (jr d s k) (dX bW s k fresh) r).over=false→
   (r.found=true→(go (jr d s k) (dX bW s k fresh) r).found=true∧(go (jr d s k) (dX bW s k fresh) r).gh≤r.gh)∧∀D c,W k D c→(go (jr d s k) (dX bW s k fresh) r).found=true∧(go (jr d s k) (dX bW s k fresh) r).gh≤c):
  ∀(ks:List Nat) (r R:PS),oq bW s true ah go d fresh ks r=R→r.over=false→R.over=false→(r.found=true→R.found=true∧R.gh≤r.gh)∧∀k∈ks,∀D c,W k D c→R.found=true∧R.gh≤c:=by
 intro ks
 induction ks with
 | nil=>intro r R e _ _;subst e;exact⟨fun h=>⟨h,Int.le_refl _⟩,fun k hk=>by cases hk⟩
 | cons k ks ih=>
  intro r R e ho hR
  by_cases hb:r.fv=ah
  ·rw [AK hb] at e;subst e;cases hR
  ·by_cases hc:true=true∧r.found=true∧r.gh≤dX bW s k fresh
   ·rw [AL hb hc] at e
    obtain⟨h1,h2⟩:=ih _ R e ho hR
    refine⟨h1,fun k' I' D c hw=> ?_⟩
    rcases eK.1 I' with rfl | I'
    ·obtain⟨h3,h4⟩:=h1 hc.2.1
     have h4:R.gh≤r.gh:=h4
     have:=hW _ D c hw
     have:=hc.2.2
     exact⟨h3,by omega⟩
    ·exact h2 k' I' D c hw
   ·have g:=VX k ⟨r.fv+1,r.over,r.found,r.gh,r.fb⟩ ho (fun hf=>by
     have hf:r.found=true:=hf
     show _<r.gh
     apply Int.lt_of_not_ge
     exact fun hle=>hc ⟨rfl,hf,hle⟩)
    by_cases hs:iB true (go (jr d s k) (dX bW s k fresh) ⟨r.fv+1,r.over,r.found,r.gh,r.fb⟩)=true
    ·rw [xV hb hc hs] at e
     rw [e] at hs
     unfold iB at hs
     rw [hR] at hs
     simp at hs
    ·rw [CO hb hc hs] at e
     have hg:(go (jr d s k) (dX bW s k fresh) ⟨r.fv+1,r.over,r.found,r.gh,r.fb⟩).over=false:=by
      unfold iB at hs
      simpa using hs
     obtain⟨g1,g2⟩:=g hg
     obtain⟨h1,h2⟩:=ih _ R e hg hR
     refine⟨fun hf=> ?_,fun k' I' D c hw=> ?_⟩
     ·obtain⟨a1,a2⟩:=g1 hf
      obtain⟨b1,b2⟩:=h1 a1
      exact⟨b1,Int.le_trans b2 a2⟩
     ·rcases eK.1 I' with rfl | I'
      ·obtain⟨a1,a2⟩:=g2 D c hw
       obtain⟨b1,b2⟩:=h1 a1
       exact⟨b1,Int.le_trans b2 a2⟩
      ·exact h2 k' I' D c hw
theorem Np{f:ae}{t:List ai}{bW:av 96 Int}{ah:Int}:∀(m i:Nat) (d:av 96 Int) (fresh:Int) (r:PS),i+m=t.length→r.over=false→(r.found=true→fresh<r.gh)→(mZ f t bW true ah m i d fresh r).over=false→
  (r.found=true→(mZ f t bW true ah m i d fresh r).found=true∧(mZ f t bW true ah m i d fresh r).gh≤r.gh)∧∀D c,Way f bW (t.drop i) d fresh D c→(mZ f t bW true ah m i d fresh r).found=true∧(mZ f t bW true ah m i d fresh r).gh≤c:=by
 intro m
 induction m with
 | zero=>
  intro i d fresh r him ho gy hR
  refine⟨fun h=>⟨rfl,?_⟩,fun D c hw=>⟨rfl,?_⟩⟩
  ·have:=gy h
   show fresh≤r.gh
   omega
  ·rw [mR (by omega)] at hw
   have:=hw.2
   show fresh≤c
   omega
 | succ m ih=>
  intro i d fresh r him ho gy hR
  have hi:i<t.length:=by omega
  rw [Hw hi] at hR⊢
  obtain⟨h1,h2⟩:=No (bW:=bW) (s:=t[i].cd.toNat) (ah:=ah) (go:=mZ f t bW true ah m (i+1)) (d:=d) (fresh:=fresh) (W:=fun k D c=>Way f bW (t.drop (i+1)) (jr d t[i].cd.toNat k) (dX bW t[i].cd.toNat k fresh) D c) (fun k D c h=>U9 _ _ _ _ _ h) (fun k r h1 h2 h3=>ih (i+1) _ _ r (by omega) h1 h2 h3) _ r _ rfl ho hR
  refine⟨h1,fun D c hw=> ?_⟩
  rw [qq hi] at hw
  obtain⟨k,hk,hw⟩:=hw
  exact h2 k hk D c hw
theorem Lf{f:ae}{t:List ai}{bW:av 96 Int}{cB:Bool}{ah:Int}(h:(mN f t bW cB ah).found=true):Way f bW t (av.dC 96 0) 0 (mN f t bW cB ah).fb (mN f t bW cB ah).gh:=by
 unfold mN at h⊢
 rcases U' t.length 0 (av.dC 96 0) 0 ⟨0,false,false,0,av.dC 96 0⟩ (lM _) h with⟨h1,_⟩ | h1
 ·cases h1
 ·rw [List.drop_zero] at h1;exact h1
theorem Nq{f:ae}{t:List ai}{bW:av 96 Int}{ah:Int}(h:(mN f t bW true ah).over=false){D:av 96 Int}{c:Int}(hw:Way f bW t (av.dC 96 0) 0 D c):(mN f t bW true ah).found=true∧(mN f t bW true ah).gh≤c:=by
 unfold mN at h⊢
 have hw':Way f bW (t.drop 0) (av.dC 96 0) 0 D c:=by rw [List.drop_zero];exact hw
 have h0:(⟨0,false,false,0,av.dC 96 0⟩:PS).found=true→(0:Int)<(⟨0,false,false,0,av.dC 96 0⟩:PS).gh:=fun e=>by cases e
 exact(Np t.length 0 (av.dC 96 0) 0 ⟨0,false,false,0,av.dC 96 0⟩ (lM _) rfl h0 h).2 D c hw'
end Go.Proofs.YtplklknkkaeniaaGreat
namespace Go.Proofs.YtplklknkkaeniaaGreat
open Eng
set_option linter.unusedVariables false
set_option linter.unusedSimpArgs false
structure Gv (f:ae) (t:List ai):Prop where
 hf:kw f
 ht:xf t
 len:wg t≤f.ag
theorem Gv.fi{f:ae}{t:List ai}(h:Gv f t):vE f:=⟨by have:=h.hf.s0;have:=h.hf.s1;omega,fun y hy=>by have:=h.hf.hp y hy;omega⟩
theorem Gv.ni{f:ae}{t:List ai}(h:Gv f t):∀n∈t,AG n:=fun n hn=>by have:=h.ht.nt n hn;exact⟨by omega,by omega⟩
theorem Gv.hl{f:ae}{t:List ai}(h:Gv f t):f.aa.length≤9223372036854775807:=by have:=h.hf.h1;omega
theorem Gv.tl{f:ae}{t:List ai}(h:Gv f t):t.length≤9223372036854775807:=by have:=h.ht.len;omega
theorem Gv.fits{f:ae}{t:List ai}(h:Gv f t){ah:Int}(hb:0≤ah∧ah≤20000):yI f t ah=0:=by
 unfold yI
 rw [ak ⟨n9 h.hf,xg h.ht⟩,ak ⟨h.len,hb⟩]
theorem X4{t:List ai}{s:Int}(h0:0≤s)(h:∀n∈t,n.cd<s):wg t≤s:=by
 unfold wg
 cases hl:t.getLast? with
 | none=>exact h0
 | some n=>
  have:=h n (List.mem_of_getLast? hl)
  simp only
  omega
theorem Hx{f:ae}{t:List ai}(h:Gv f t){bW:av 96 Int}(ho:gM bW)(hB:gR f bW=true){ah:Int}(hb:0≤ah∧ah≤20000):F8 f t ah [bW]=some 0:=by
 have hd:=qk f h.fi h.hl bW ho
 rw [ak ⟨n9 h.hf,hB⟩] at hd
 have Nl:=uN h.tl h.ni
 rw [xg h.ht,ak rfl] at Nl
 have xD:=h.hf.s0;have rk:=h.hf.s1
 simp only [F8,hd,Nl,iv,ar,(oe h.ht).1,FB,ii]
 rw [wI f.ag]
 simp [h.len,hb]
theorem Va{f:ae}{t:List ai}(h:Gv f t){bW:av 96 Int}(ho:gM bW)(hB:gR f bW=true):F9 f t bW=some 0:=by
 have h1:=n5 f h.hl
 rw [n9 h.hf] at h1
 have h2:=xe h.tl h.ni
 rw [xg h.ht] at h2
 have h3:=zp h.hf ho
 rw [hB] at h3
 have xD:=h.hf.s0;have rk:=h.hf.s1;have hl:=h.len
 simp only [F9,h1,h2,h3,ar,F9.fk,(oe h.ht).2]
 rw [wI f.ag]
 simp [show¬f.ag<wg t by omega]
def Lg(f:ae)(t:List ai)(bW:av 96 Int)(ah:Int):av 96 Int×Int×Int×Int:=
 if(mN f t bW true ah).over=true then(av.dC 96 0,0,0,7) else if(mN f t bW true ah).found=false then(av.dC 96 0,0,0,6)
  else((mN f t bW true ah).fb,(mN f t bW true ah).gh,(mN f t bW true ah).fv,0)
theorem Nr{f:ae}{t:List ai}(h:Gv f t){bW:av 96 Int}(ho:gM bW)(hB:gR f bW=true){ah:Int}(hb:0≤ah∧ah≤20000):Wu f bW t ah=some (Lg f t bW ah)∧LB f bW t ah=some (Lg f t bW ah):=by
 have we:=Nn ah h.fi h.hl h.tl h.ni
 rw [h.fits hb] at we
 obtain⟨h1,d',h2⟩:=O5 (O4 h.fi (h.fits hb) ho) true
 simp only [Wu,LB,LB.nS,Hx h ho hB hb,Va h ho hB,we,ar,uc,r7,cM,bU,cp,h1,h2,Wt,Hu,GI,Lg]
 cases rR:(mN f t bW true ah).over with
 | true=>simp
 | false=>
  cases xW:(mN f t bW true ah).found with
  | true=>simp
  | false=>simp
theorem Lh{f:ae}{t:List ai}(h:Gv f t){ah:Int}(hb:0≤ah∧ah≤20000):Zj f t ah=some (EM f t ah):=by
 obtain⟨h1,_⟩:=O5 (O4 h.fi (h.fits hb) lZ) false
 simp only [Zj,Hv ah h.fi h.hl h.tl h.ni,h.fits hb,ar,EM,uc,cM,bU,cp,h1,Wt,Hu]
 cases rR:(mN f t (av.dC 96 0) false ah).over with
 | true=>simp
 | false=>
  cases xW:(mN f t (av.dC 96 0) false ah).found with
  | true=>simp
  | false=>simp
end Go.Proofs.YtplklknkkaeniaaGreat
namespace Go.Proofs.YtplklknkkaeniaaGreat
open Eng
set_option linter.unusedVariables false
set_option linter.unusedSimpArgs false
def CP(f:ae)(k:Nat):Option Int:=(f.aa[k]?).map bq.aD
theorem QE{f:ae}{d:av 96 Int}{n:ai}{k:Nat}(h:k∈tT f d n):CP f k=some n.aD:=by
 unfold tT at h
 obtain⟨_,h2⟩:=List.mem_filter.1 h
 unfold IQ at h2
 simp only [bY,bC] at h2
 exact h2.1
structure Pd (f:ae) (t:List ai) (D:av 96 Int):Prop where
 dg:DG f D
 cnt:nA D=t.length
 src:∀s k,fF D s k=true→∃n∈t,n.cd=(s:Int)∧CP f k=some n.aD
 has:∀n∈t,∃k,k<f.aa.length∧fF D n.cd.toNat k=true∧CP f k=some n.aD
 one:∀s k k',fF D s k=true→fF D s k'=true→CP f k=CP f k'→k=k'
theorem Vb(f:ae):Pd f [] (av.dC 96 0):=⟨UT f,OX,fun s k h=>(by rw [qB] at h;cases h),fun n hn=>(by cases hn),fun s k k' h=>(by rw [qB] at h;cases h)⟩
theorem Li{d bW:av 96 Int}(hd:gM d){s k:Nat}(hs:s<96)(hk:k<32)(h0:fF d s k=false):beyond (jr d s k) bW=beyond d bW+(if fF bW s k=true then 0 else 1):=by
 have hp:=xk hd hs hk
 unfold beyond
 by_cases c:fF bW s k=true
 ·rw [ak c]
  refine(o7 96 fun a ha=>l7 32 fun b hb=> ?_).trans (Nat.add_zero _).symm
  rw [hp]
  by_cases e:a=s∧b=k
  ·obtain⟨rfl,rfl⟩:=e;simp [c]
  ·have:(decide (a=s)&&decide (b=k))=false:=by rw [rD];simpa using e
   rw [this,Bool.or_false]
 ·rw [ax c]
  have c:fF bW s k=false:=by simpa using c
  refine IL (s:=s) ?_ ?_ 96 hs
  ·rw [←vk (p:=fun b=>fF d s b&& !fF bW s b) (t:=k) (by simp [h0]) 32 hk]
   refine l7 32 fun b hb=> ?_
   rw [hp]
   by_cases e:b=k
   ·subst e;simp [c]
   ·simp [e]
  ·intro a ha
   exact l7 32 fun b hb=>by rw [hp];simp [ha]
theorem Ns(bW:av 96 Int):beyond (av.dC 96 0) bW=0:=by
 have h:∀n,sR (fun s=>cR (fun t=>fF (av.dC 96 0) s t&& !fF bW s t) 32) n=0:=by
  intro n
  induction n with
  | zero=>rfl
  | succ n ih=>unfold sR;rw [ih,o6 32 (fun i _=>by rw [qB];rfl)]
 exact h 96
theorem O6{f:ae}(hf:kw f){pre:List ai}{d:av 96 Int}(hp:Pd f pre d){n:ai}(hn:0≤n.cd∧n.cd<f.ag)(hb:∀m∈pre,kZ m n=true){k:Nat}(hk:k∈tT f d n):Pd f (pre++ [n]) (jr d n.cd.toNat k):=by
 obtain⟨h1,h2⟩:=vl hk
 have h3:=QE hk
 have h4:=EK h2
 have rk:=hf.s1;have xN:=hf.h1
 have hq:=xk hp.dg.BA (show n.cd.toNat<96 by omega) (show k<32 by omega)
 refine⟨UU hf hp.dg (by omega) h1 h2,?_,fun s b h=> ?_,fun m hm=> ?_,fun s b b' h h' e=> ?_⟩
 ·rw [K_ hp.dg.BA (by omega) (by omega) h4,hp.cnt];simp
 ·rw [hq] at h
  simp only [ke,bY,bC] at h
  rcases h with h | ⟨rfl,rfl⟩
  ·obtain⟨m,a1,a2⟩:=hp.src s b h
   exact⟨m,rz _ a1,a2⟩
  ·exact⟨n,by simp,by omega,h3⟩
 ·rcases dw.1 hm with hm | hm
  ·obtain⟨b,a1,a2,a3⟩:=hp.has m hm
   exact⟨b,a1,by rw [hq,a2,Bool.true_or],a3⟩
  ·obtain rfl:=dG.1 hm
   exact⟨k,h1,by rw [hq];simp,h3⟩
 ·have bW:∀b,fF d n.cd.toNat b=true→CP f b=CP f k→False:=fun b GK e2=>by
   obtain⟨m,a1,a2,a3⟩:=hp.src _ b GK
   have e3:m.aD=n.aD:=by rw [e2,h3] at a3;exact(e9 a3).symm
   have e4:m=n:=q7 (by omega) e3
   exact mM n (e4▸hb m a1)
  rw [hq] at h h'
  simp only [ke,bY,bC] at h h'
  rcases h with h | ⟨rfl,rfl⟩
  ·rcases h' with h' | ⟨rfl,rfl⟩
   ·exact hp.one s b b' h h' e
   ·exact(bW b h e).elim
  ·rcases h' with h' | ⟨_,rfl⟩
   ·exact(bW b' h' e.symm).elim
   ·rfl
theorem Vc{f:ae}(hf:kw f){bW:av 96 Int}:∀(ns pre:List ai) (d:av 96 Int) (x:Int) (D:av 96 Int) (c:Int),(∀n∈ns,0≤n.cd∧n.cd<f.ag)→(pre++ns).Pairwise (fun a b=>kZ a b=true)→Pd f pre d→Way f bW ns d x D c→
  Pd f (pre++ns) D∧c+beyond d bW=x+beyond D bW
 | [],pre,d,x,D,c,_,_,hp,hw=>by
  obtain⟨rfl,rfl⟩:=hw
  rw [gz]
  exact⟨hp,rfl⟩
 | n::ns,pre,d,x,D,c,hn,hs,hp,hw=>by
  obtain⟨k,hk,hw⟩:=hw
  have QZ:=hn n k6
  have rk:=hf.s1;have xN:=hf.h1
  obtain⟨h1,h2⟩:=vl hk
  have hb:∀m∈pre,kZ m n=true:=fun m hm=>(iW.1 hs).2.2 m hm n k6
  have e:pre++n::ns=(pre++ [n])++ns:=by simp
  rw [e] at hs⊢
  obtain⟨g1,g2⟩:=Vc hf ns (pre++ [n]) _ _ D c (fun m hm=>hn m (lJ _ hm)) hs (O6 hf hp QZ hb hk) hw
  refine⟨g1,?_⟩
  rw [Li hp.dg.BA (by omega) (by omega) (EK h2)] at g2
  unfold dX at g2
  by_cases co:fF bW n.cd.toNat k=true
  ·rw [ak co,ak co] at g2;omega
  ·rw [ax co,ax co] at g2;omega
theorem zF{f:ae}(hf:kw f){bW:av 96 Int}{t:List ai}(ht:xf t)(hs:∀n∈t,n.cd<f.ag){D:av 96 Int}{c:Int}(hw:Way f bW t (av.dC 96 0) 0 D c):Pd f t D∧c=(beyond D bW:Nat):=by
 obtain⟨h1,h2⟩:=Vc hf t [] _ 0 D c (fun n hn=>⟨(ht.nt n hn).1,hs n hn⟩) (by simpa using ht.so) (Vb f) hw
 rw [Ns] at h2
 exact⟨by simpa using h1,by omega⟩
theorem O7(p q:Nat→Bool):∀n,cR p n+cR (fun i=>q i&& !p i) n=cR q n+cR (fun i=>p i&& !q i) n
 | 0=>rfl
 | n+1=>by
  have:=O7 p q n
  simp only [cR]
  by_cases h1:p n=true<;>by_cases h2:q n=true<;>simp [h1,h2]<;>omega
theorem Vd(a b:av 96 Int):nA a+beyond b a=nA b+beyond a b:=by
 unfold nA beyond
 rw [IM,IM]
 exact o7 96 fun s _=>O7 (fun t=>fF a s t) (fun t=>fF b s t) 32
theorem Ve{a b:av 96 Int}(ha:gM a)(hb:gM b)(h0:beyond a b=0)(hc:nA a=nA b):a=b:=by
 have h1:=Vd a b
 refine(Nf ha hb).1 ?_
 unfold pD
 omega
end Go.Proofs.YtplklknkkaeniaaGreat
namespace Go.Proofs.YtplklknkkaeniaaGreat
open Eng
set_option linter.unusedVariables false
set_option linter.unusedSimpArgs false
theorem uS{f:ae}(hf:kw f){d:av 96 Int}(hd:∀s t,fF d s t=true→(s:Int)<f.ag∧t<f.aa.length)(n:ai):n∈pw f d↔∃s k:Nat,fF d s k=true∧n.cd=(s:Int)∧CP f k=some n.aD:=by
 have xD:=hf.s0
 unfold pw nr np CP
 constructor
 ·intro h
  obtain⟨s,hs,h⟩:=kB.1 h
  obtain⟨k,hk,h⟩:=kB.1 h
  split at h
  ·rename_i hp
   rw [kG] at hk
   rw [bM hk] at h
   simp at h
   subst h
   exact⟨s,k,hp,rfl,by rw [bM hk];rfl⟩
  ·cases h
 ·rintro⟨s,k,hp,h1,h2⟩
  obtain⟨g1,g2⟩:=hd s k hp
  refine kB.2 ⟨s,kG.2 (by omega),kB.2 ⟨k,kG.2 g2,?_⟩⟩
  rw [bM g2] at h2⊢
  rw [ak hp]
  simp only [kE,cx,Option.toList_some,dG] at h2⊢
  exact q7 h1 h2.symm
theorem Hy{f:ae}(hf:kw f){t:List ai}(ht:xf t){D:av 96 Int}(hp:Pd f t D):Od (pw f D)=some t:=by
 have hl:=EC hf D
 obtain⟨r,m1,m2,m3⟩:=CK (pw f D) (by omega)
 obtain⟨r',h1,h2,h3,h4⟩:=l5 (pw f D) (by omega)
 rw [m2] at h1
 obtain rfl:=e9 h1
 have:r=t:=Hm r t h2 ht.so fun x=>by
  rw [h3,uS hf hp.dg.LH]
  constructor
  ·rintro⟨s,k,g1,g2,g3⟩
   obtain⟨n,a1,a2,a3⟩:=hp.src s k g1
   rw [g3] at a3
   have:x=n:=q7 (by omega) (e9 a3)
   exact this▸a1
  ·intro hx
   obtain⟨k,a1,a2,a3⟩:=hp.has x hx
   exact⟨x.cd.toNat,k,a2,by have:=(ht.nt x hx).1;omega,a3⟩
 rw [m1,this]
theorem Cx(t:List ai)(h:t.length≤1000000):FE t t=some true:=by
 have h0:loop (FE.e7 t t) 0=some (.inr ()):=gB (f:=FE.e7 t t) t.length (fun k=>(k:Int)) (.inr ()) (fun k hk=>by
  simp only [FE.e7,de hk,ar]
  rw [ak (by simpa using hk),ax (by simp),wI ((k:Int)+1)]
  simp) (by simp [FE.e7])
 simp [FE,h0,FE.iQ]
theorem X5{p:Nat→Bool}{n k:Nat}(hk:k<n)(h1:p k=true)(h2:∀i,i<n→p i=true→i=k):cR p n=1:=by
 have e:=vk (p:=fun _=>false) (t:=k) rfl n hk
 rw [o6 n (fun _ _=>rfl),lM] at e
 rw [←e]
 refine l7 n fun i hi=> ?_
 by_cases c:i=k
 ·subst c;simp [h1]
 ·have:p i=false:=by
   cases hb:p i with
   | false=>rfl
   | true=>exact absurd (h2 i hi hb) c
  simp [this,c]
theorem Hz:∀n,sR (fun _=>1) n=n
 | 0=>rfl
 | n+1=>by simp only [sR,Hz n]
def vG(f:ae)(D:av 96 Int)(n:ai)(k:Nat):Bool:=fF D n.cd.toNat k&&decide (CP f k=some n.aD)
def Q3(f:ae)(D:av 96 Int)(t:List ai)(i:Nat):List Int:=(List.range f.aa.length).flatMap fun k=>if((t[i]?).map fun n=>vG f D n k)=some true then [(k:Int)] else []
theorem X6{f:ae}{t:List ai}{D:av 96 Int}(hp:Pd f t D){i:Nat}(hi:i<t.length):(Q3 f D t i).length=1:=by
 unfold Q3
 rw [iA]
 obtain⟨k,a1,a2,a3⟩:=hp.has _ (bT hi)
 rw [←X5 (p:=fun k=>vG f D t[i] k) (n:=f.aa.length) (k:=k) a1 (by unfold vG;rw [a2,a3];simp) (fun j hj hb=>by
  unfold vG at hb
  simp only [bY,bC] at hb
  exact hp.one _ _ _ hb.1 a2 (hb.2.trans a3.symm)),←CN]
 refine o7 _ fun j hj=> ?_
 rw [bM hi]
 simp only [kE,cx]
 split<;>rfl
theorem X7(f:ae)(D:av 96 Int)(t:List ai)(i:Nat):(Q3 f D t i).length≤f.aa.length*1:=nG _ _ _ fun k _=>by split<;>simp
theorem B4{f:ae}{t:List ai}(h:Gv f t){D:av 96 Int}(hd:gM D):loop (Fz.ko f t D) (([]:List Int),0)=some ((List.range t.length).flatMap (Q3 f D t)):=by
 have xN:=h.hf.h1;have xD:=h.hf.s0;have rk:=h.hf.s1;have v8:=h.ht.len
 have Cg:∀i,i<t.length→∀ys:List Int,ys.length≤3000→loop (Fz.A9 f D ((t[i]?).getD ⟨0,0⟩) (f.aa.length:Int)) (ys,0)=some (ys++Q3 f D t i):=by
  intro i hi ys hy
  rw [bM hi,rE]
  have hn:=h.ht.nt _ (bT hi)
  have VY:=tx h.ht h.len _ (bT hi)
  have ea:au t[i].cd=((t[i].cd.toNat:Nat):Int):=by rw [bc (by omega) (by omega)];omega
  refine iL f.aa.length 1 (by omega) (fun k=>if((t[i]?).map fun n=>vG f D n k)=some true then [(k:Int)] else []) ys (fun k _=>by split<;>simp) (fun zs k hk hz=> ?_) (fun zs=>by simp [Fz.A9])
  simp only [Fz.A9,ea,vg hd (show t[i].cd.toNat<96 by omega) (show k≤32 by omega),ar,bM hi,kE,cx,vG,CP,de hk,bM hk]
  rw [ak (by simpa using hk)]
  cases akz:fF D t[i].cd.toNat k with
  | false=>simp [Fz.x7]
  | true=>
   by_cases c:f.aa[k].aD=t[i].aD
   ·simp only [cp,Fz.x7,c,r7,decide_true,Bool.and_self]
    rw [ak (by simp only [cf,bN];omega)]
   ·simp [Fz.x7,c]
 have hl:=iL (f:=Fz.ko f t D) t.length 24 (by omega) (Q3 f D t) [] (fun k hk=>by have:=X7 f D t k;omega) (fun ys k hk hy=>by
  simp only [bN] at hy
  have:=Cg k hk ys (by omega)
  rw [bM hk,rE] at this
  simp only [Fz.ko,de hk,xL,ar,this,Fz.y9]
  rw [ak (by simpa using hk)]) (fun ys=>by simp [Fz.ko])
 rw [gm] at hl
 exact hl
theorem B5{f:ae}{t:List ai}(h:Gv f t){D:av 96 Int}(hp:Pd f t D):∃xs,Fz f t D=some (xs,true):=by
 have v8:=h.ht.len
 have hl:=B4 h hp.dg.BA
 have hlen:((List.range t.length).flatMap (Q3 f D t)).length=t.length:=by
  rw [iA,o7 t.length (k:=fun _=>1) (fun i hi=>X6 hp hi),Hz]
 refine⟨(List.range t.length).flatMap (Q3 f D t),?_⟩
 have HO:FbM t=some (t.length:Int):=rfl
 simp only [Fz,hl,ar,Fz.fk,hlen,r7,cp,EH hp.dg.BA,HO,hp.cnt,rQ h.hf hp.dg.BA,Hy h.hf h.ht hp,Cx t (by omega),yG h.hf hp.dg]
 rfl
theorem Ll{f:ae}{t:List ai}(h:Gv f t){D:av 96 Int}(hp:Pd f t D):QV f t D=some (true,0):=by
 obtain⟨xs,e⟩:=B5 h hp
 simp [QV,Hx h hp.dg.BA (sI hp.dg.LH) (ah:=0) (by omega),e]
end Go.Proofs.YtplklknkkaeniaaGreat
namespace Go.Proofs.YtplklknkkaeniaaGreat
open Eng
set_option linter.unusedVariables false
set_option linter.unusedSimpArgs false
def clB(f:ae)(d:av 96 Int)(s t:Nat):Bool:=fF d s t&& !jn (zN f d s t) (gX f t)
def X8(f:ae)(d:av 96 Int)(s t:Nat):List (av 2 Int):=if clB f d s t=true then [pA s t] else []
theorem IU(f:ae)(d:av 96 Int)(s t:Nat):(X8 f d s t).length≤1:=by unfold X8;split<;>simp
def ZD(f:ae)(d:av 96 Int)(s:Nat):List (av 2 Int):=(List.range f.aa.length).flatMap (X8 f d s)
theorem O8(f:ae)(d:av 96 Int)(s:Nat):(ZD f d s).length≤f.aa.length*1:=nG _ _ _ fun k _=>IU f d s k
def Lm(f:ae)(d:av 96 Int):List (av 2 Int):=(List.range f.ag.toNat).flatMap (ZD f d)
theorem Ln{f:ae}(hf:kw f){d:av 96 Int}(hd:gM d){s t:Nat}(hs:(s:Int)<f.ag)(ht:t<f.aa.length):WE f d (s:Int) (t:Int)=some (!jn (zN f d s t) (gX f t)):=by
 have xD:=hf.s0;have rk:=hf.s1;have xN:=hf.h1
 obtain⟨h1,h2,h3,h4,h5⟩:=zt hf ht
 have e:au f.ag=(f.ag.toNat:Int):=by rw [bc (by omega) (by omega)];omega
 obtain⟨b1,Lz,c1⟩:=xO hf hd (s:=s) (t:=t) 1 (fun i=>(s+i)%f.ag.toNat) (by omega) (fun i hi0 hi=>by
  have:=Nat.mod_lt (s+i) (show 0<f.ag.toNat by omega)
  rw [e,wI (1*(i:Int)),wI ((s:Int)+1*(i:Int)),wI ((s:Int)+1*(i:Int)+(f.ag.toNat:Int)),show (s:Int)+1*(i:Int)+(f.ag.toNat:Int)=((s+i+f.ag.toNat:Nat):Int) by omega,sH,ub]
  exact⟨rfl,by omega⟩) h5
 have eF:jn (fun i=>fF d ((s+i)%f.ag.toNat) t) (gX f t)=jn (zN f d s t) (gX f t):=rfl
 rw [eF] at c1
 simp only [WE,h1,ar,Lz,h2]
 rw [←c1]
 congr 1
 rw [iY]
 simp
theorem Vf{f:ae}(hf:kw f){d:av 96 Int}(hd:gM d){s t:Nat}(hs:(s:Int)<f.ag)(ht:t<f.aa.length):Fb0 f d (s:Int) (t:Int)=some (clB f d s t):=by
 have xD:=hf.s0;have rk:=hf.s1;have xN:=hf.h1
 obtain⟨h1,h2,h3,h4,h5⟩:=zt hf ht
 have e:au f.ag=(f.ag.toNat:Int):=by rw [bc (by omega) (by omega)];omega
 have hz:au f.ag≠0:=by rw [e];omega
 unfold clB
 simp only [Fb0,Bn hd (show s<96 by omega) (show t≤32 by omega),ar,h1]
 cases fF d s t with
 | false=>simp
 | true=>
  obtain⟨x,hx,hq⟩:=gA (f:=G6.e7 f d (s:Int) (t:Int)) (fun x=>∃k:Nat,1≤k∧k≤f.ag.toNat∧x=(k:Int)∧∀i,1≤i→i<k→zN f d s t i=false) (fun x=>f.ag.toNat-x.toNat)
   (fun x=>(∃k:Nat,x= .inl (k:Int)∧1≤k∧k<f.ag.toNat∧zN f d s t k=true∧∀i,1≤i→i<k→zN f d s t i=false)∨(x= .inr ()∧∀i,1≤i→i<f.ag.toNat→zN f d s t i=false)) (by
   rintro _ ⟨k,k1,k2,rfl,k3⟩
   by_cases hk:k<f.ag.toNat
   ·obtain⟨q1,q2⟩:=UB hf (show s<96 by omega) (show k<96 by omega)
    have step:G6.e7 f d (s:Int) (t:Int) (k:Int)=(if zN f d s t k=true then some (.inr (.inl (k:Int))) else some (.inl (au ((k:Int)+1)))):=by
     simp only [G6.e7,q1,Bn hd q2 (show t≤32 by omega),ar]
     rw [ak (by rw [bC,e];omega),ak hz]
     rfl
    rw [step]
    cases hF:zN f d s t k with
    | true=>right;exact⟨_,by simp, .inl ⟨k,rfl,k1,hk,hF,k3⟩⟩
    | false=>
     left
     refine⟨((k+1:Nat):Int),by rw [wI ((k:Int)+1)];simp,⟨k+1,by omega,by omega,rfl,fun i hi hik=> ?_⟩,by omega⟩
     by_cases UA:i=k
     ·rw [UA];exact hF
     ·exact k3 i hi (by omega)
   ·right
    simp only [G6.e7]
    rw [ax (by rw [bC,e];omega)]
    exact⟨_,rfl, .inr ⟨rfl,fun i hi hir=>k3 i hi (by omega)⟩⟩) 1 ⟨1,by omega,by omega,rfl,fun i a b=>by omega⟩
  have hn:∃z:Nat,G6 f d (s:Int) (t:Int)=some (z:Int)∧decide ((z:Int)<(gX f t:Int))= !jn (zN f d s t) (gX f t):=by
   rcases hq with⟨k,rfl,k1,k2,k3,k4⟩ | ⟨rfl,k4⟩
   ·refine⟨k,by simp [G6,hx],?_⟩
    rw [iY,bC,kA,←kC,jG]
    constructor
    ·intro h hc
     have:=hc k k1 (by omega)
     rw [k3] at this;cases this
    ·intro h
     apply Int.lt_of_not_ge
     intro hge
     exact h fun i h1 h2=>k4 i h1 (by omega)
   ·refine⟨f.ag.toNat,by simp [G6,hx,G6.iQ,e],?_⟩
    rw [iY,bC,kA,←kC,jG]
    constructor
    ·intro h;omega
    ·intro h
     exact absurd (fun i h1 h2=>k4 i h1 (by omega)) h
  obtain⟨z,z1,z2⟩:=hn
  simp only [cp,z1,ar,h2,z2,mS]
theorem yJ{f:ae}(hf:kw f){d:av 96 Int}(hd:gM d):RW f d=some (Lm f d):=by
 have h1:=hf.h1;have h2:=hf.s1;have h3:=hf.s0
 have e:au f.ag=(f.ag.toNat:Int):=by rw [bc (by omega) (by omega)];omega
 have row:∀(s:Nat),(s:Int)<f.ag→∀xs:List (av 2 Int),xs.length≤4000→loop (Fc.jX d f d (s:Int) (f.aa.length:Int)) (xs,0)=some (xs++ZD f d s):=by
  intro s hs xs hx
  refine iL f.aa.length 1 (by omega) (X8 f d s) xs (fun k _=>IU f d s k) (fun ys k hk hy=> ?_) (fun ys=>by simp [Fc.jX])
  simp only [Fc.jX,vg hd (show s<96 by omega) (t:=k) (by omega),ar]
  rw [ak (by simpa using hk)]
  unfold X8 clB
  cases c:fF d s k with
  | true=>
   simp only [cp,FaX,Ln hf hd hs hk,ar,mS]
   cases jn (zN f d s k) (gX f k) with
   | true=>simp
   | false=>
    simp only [oF,cp]
    rw [ak (by simp only [cf,bN];omega)]
    rfl
  | false=>simp
 have:=iL (f:=Fc.fY f d f d) f.ag.toNat 24 (by omega) (ZD f d) [] (fun k _=>by have:=O8 f d k;omega) (fun ys k hk hy=>by
  simp only [bN] at hy
  simp only [Fc.fY,xL,ar,row k (by omega) ys (by omega),Fc.og]
  rw [ak (by rw [e,bC];omega)]) (fun ys=>by simp [Fc.fY,e])
 simp only [RW,Fc,this,ar,Fc.fk,gm]
 rfl
theorem tQ{f:ae}(hf:kw f){d:av 96 Int}(hd:gM d):FK f d=some (Lm f d):=by
 have h1:=hf.h1;have h2:=hf.s1;have h3:=hf.s0
 have e:au f.ag=(f.ag.toNat:Int):=by rw [bc (by omega) (by omega)];omega
 have row:∀(s:Nat),(s:Int)<f.ag→∀xs:List (av 2 Int),xs.length≤4000→loop (FK.kq f d (s:Int)) (xs,0)=some (xs++ZD f d s):=by
  intro s hs xs hx
  refine iL f.aa.length 1 (by omega) (X8 f d s) xs (fun k _=>IU f d s k) (fun ys k hk hy=> ?_) (fun ys=>by simp [FK.kq])
  simp only [FK.kq,Vf hf hd hs hk,ar]
  rw [ak (by simpa using hk)]
  unfold X8
  cases clB f d s k with
  | true=>
   simp only [cp]
   rw [ak (by simp only [cf,bN];omega)]
   rfl
  | false=>simp
 have:=iL (f:=FK.fY f d) f.ag.toNat 24 (by omega) (ZD f d) [] (fun k _=>by have:=O8 f d k;omega) (fun ys k hk hy=>by
  simp only [bN] at hy
  simp only [FK.fY,ar,row k (by omega) ys (by omega),FK.u6]
  rw [ak (by rw [e,bC];omega)]) (fun ys=>by simp [FK.fY,e])
 simp only [FK,this,ar,FK.fk,gm]
 rfl
theorem CQ{f:ae}{d:av 96 Int}(hf:kw f)(hd:gM d)(hi:∀s t,fF d s t=true→(s:Int)<f.ag∧t<f.aa.length):Lm f d= []↔DG f d:=by
 have xD:=hf.s0
 constructor
 ·intro h
  refine⟨hd,hi,fun s t hp=> ?_⟩
  obtain⟨g1,g2⟩:=hi s t hp
  cases hc:jn (zN f d s t) (gX f t) with
  | true=>rfl
  | false=>
   have:pA s t∈Lm f d:=by
    unfold Lm ZD X8 clB
    refine kB.2 ⟨s,kG.2 (by omega),kB.2 ⟨t,kG.2 g2,?_⟩⟩
    rw [hp,hc];simp
   rw [h] at this
   cases this
 ·intro h
  unfold Lm ZD
  rw [List.flatMap_eq_nil_iff]
  intro s _
  rw [List.flatMap_eq_nil_iff]
  intro t _
  unfold X8 clB
  rw [ax]
  intro hb
  simp only [bY,kA] at hb
  rw [h.clear s t hb.1] at hb
  cases hb.2
theorem Lo{f:ae}(hf:kw f)(hi:vE f){d:av 96 Int}(hd:gM d)(hB:gR f d=true):Sw f d=some (decide (Lm f d= []),0):=by
 have xN:=hf.h1
 have E4:=qk f hi (show f.aa.length≤9223372036854775807 by omega) d hd
 rw [ak ⟨n9 hf,hB⟩] at E4
 have e:(((Lm f d).length:Int)==0)=decide (Lm f d= []):=by cases Lm f d<;>simp<;>omega
 simp [Sw,FbO,E4,yJ hf hd,e]
end Go.Proofs.YtplklknkkaeniaaGreat
namespace Go.Proofs.YtplklknkkaeniaaGreat
open Eng
set_option linter.unusedVariables false
set_option linter.unusedSimpArgs false
def nk(f:ae)(t:List ai)(d:av 96 Int):Int:=if fO f=true∧iM t=true∧gR f d=true then(if wg t≤f.ag then 0 else 2) else 1
theorem vm{f:ae}{t:List ai}{ah:Int}(hi:vE f)(hl:f.aa.length≤9223372036854775807)(ht:t.length≤9223372036854775807)(hn:∀n∈t,AG n){d:av 96 Int}(hd:gM d)(hb:0≤ah∧ah≤20000):F8 f t ah [d]=some (nk f t d):=by
 have E4:=qk f hi hl d hd
 have Nl:=uN ht hn
 unfold nk
 cases hf:fO f with
 | false=>rw [hf] at E4;simp [F8,E4,Nl,iv]
 | true=>
  cases hB:gR f d with
  | false=>rw [hf,hB] at E4;simp [F8,E4,Nl,iv]
  | true=>
   rw [hf,hB,ak ⟨rfl,rfl⟩] at E4
   cases IT:iM t with
   | false=>rw [IT,ax (by simp)] at Nl;simp [F8,E4,Nl,iv]
   | true=>
    rw [IT,ak rfl] at Nl
    have xW:=jA hf hi
    have xD:=xW.s0;have rk:=xW.s1
    simp only [F8,E4,Nl,iv,ar,(oe (lx IT)).1,FB,ii]
    rw [wI f.ag]
    by_cases c:wg t≤f.ag
    ·simp [c,hb]
    ·simp [c]
theorem EN{f:ae}{t:List ai}(hi:vE f)(hl:f.aa.length≤9223372036854775807)(ht:t.length≤9223372036854775807)(hn:∀n∈t,AG n){d:av 96 Int}(hd:gM d):F9 f t d=some (nk f t d):=by
 have h1:=n5 f hl
 have h2:=xe ht hn
 unfold nk
 cases hf:fO f with
 | false=>rw [hf] at h1;simp [F9,h1,F9.fk]
 | true=>
  rw [hf] at h1
  cases IT:iM t with
  | false=>rw [IT] at h2;simp [F9,h1,h2,F9.fk]
  | true=>
   rw [IT] at h2
   have xW:=jA hf hi
   have h3:=zp xW hd
   cases hB:gR f d with
   | false=>rw [hB] at h3;simp [F9,h1,h2,h3,F9.fk]
   | true=>
    rw [hB] at h3
    have xD:=xW.s0;have rk:=xW.s1
    simp only [F9,h1,h2,h3,ar,F9.fk,(oe (lx IT)).2,jv,cM,bU]
    rw [wI f.ag]
    by_cases c:wg t≤f.ag
    ·simp [c]
    ·simp [c,show f.ag<wg t by omega]
theorem Nt{f:ae}{t:List ai}{d:av 96 Int}(hi:vE f)(h:nk f t d=0):Gv f t∧gR f d=true:=by
 unfold nk at h
 split at h
 ·rename_i c
  split at h
  ·rename_i c2
   exact⟨⟨jA c.1 hi,lx c.2.1,c2⟩,c.2.2⟩
  ·cases h
 ·cases h
def pE(f:ae)(t:List ai)(bW:av 96 Int)(ah:Int):av 96 Int×Int×Int×Int:=if nk f t bW=0 then Lg f t bW ah else(av.dC 96 0,0,0,nk f t bW)
theorem Vg{f:ae}{t:List ai}{ah:Int}(hi:vE f)(hl:f.aa.length≤9223372036854775807)(ht:t.length≤9223372036854775807)(hn:∀n∈t,AG n){bW:av 96 Int}(ho:gM bW)(hb:0≤ah∧ah≤20000):
  Wu f bW t ah=some (pE f t bW ah)∧LB f bW t ah=some (pE f t bW ah):=by
 unfold pE
 by_cases h0:nk f t bW=0
 ·obtain⟨h,hB⟩:=Nt hi h0
  rw [ak h0]
  exact Nr h ho hB hb
 ·simp [ax h0,Wu,LB,vm hi hl ht hn ho hb,EN hi hl ht hn ho,h0,LB.nS]
theorem tR(a b:List ai)(ha:a.length≤1000000):FE a b=some (decide (a=b)):=by
 by_cases hl:a.length=b.length
 ·obtain⟨r,hr,hq⟩:=Eo (f:=FE.e7 a b) a.length (by omega) (fun k=>∀i,i<k→a[i]?=b[i]?) (fun r=>(r= .inr ()∧a=b)∨(r= .inl false∧a≠b)) (fun k hk hI=>by
   have E5:k<b.length:=by omega
   simp only [FE.e7,de hk,de E5,ar,eqN]
   rw [ak (by simpa using hk)]
   by_cases c:a[k]=b[k]
   ·left
    rw [ax (by simp [c])]
    refine⟨rfl,fun i hi=> ?_⟩
    by_cases e:i=k
    ·subst e;rw [bM hk,bM E5,c]
    ·exact hI i (by omega)
   ·right
    rw [ak (by simp [c])]
    exact⟨_,rfl, .inr ⟨rfl,fun e=>c (by subst e;rfl)⟩⟩) (fun hI=>⟨.inr (),by simp [FE.e7], .inl ⟨rfl,List.ext_getElem? fun i=>by
    by_cases hi:i<a.length
    ·exact hI i hi
    ·rw [jJ (by omega),jJ (by omega)]⟩⟩) (fun i hi=>by omega)
  have jR:((a.length:Int) !=(b.length:Int))=false:=by rw [hl];simp
  rcases hq with⟨rfl,e⟩ | ⟨rfl,e⟩
  ·subst e
   simp [FE,hr,FE.iQ]
  ·simp [FE,jR,hr,e]
 ·have jR:((a.length:Int) !=(b.length:Int))=true:=by rw [bne_iff_ne];omega
  have:¬a=b:=fun e=>hl (by rw [e])
  simp [FE,jR,this]
theorem abY{p:Nat→Bool}{i j:Nat}(Ps:i≠j)(h1:p i=true)(h2:p j=true){n:Nat}(hi:i<n)(hj:j<n):2≤cR p n:=by
 have e1:=vk (p:=fun k=>decide (k=i)) (t:=j) (by simp;omega) n hj
 have e2:=vk (p:=fun _=>false) (t:=i) rfl n hi
 rw [o6 n (fun _ _=>rfl)] at e2
 rw [l7 (q:=fun k=>decide (k=i)) n (fun k _=>by simp)] at e2
 have:=IN (p:=fun k=>decide (k=i) || decide (k=j)) (q:=p) n (fun k _ hk=>by
  simp only [ke,bC] at hk
  rcases hk with rfl | rfl
  ·exact h1
  ·exact h2)
 omega
theorem B6{g:Nat→Nat}:∀n,(∀i,i<n→1≤g i)→n≤sR g n∧(sR g n=n→∀i,i<n→g i=1)
 | 0,_=>⟨bt _,fun _ i hi=>by omega⟩
 | n+1,h=>by
  obtain⟨h1,h2⟩:=B6 n (fun i hi=>h i (by omega))
  have h3:=h n (by omega)
  have e:sR g (n+1)=sR g n+g n:=rfl
  refine⟨by omega,fun he i hi=> ?_⟩
  by_cases c:i=n
  ·subst c;omega
  ·exact h2 (by omega) i (by omega)
theorem Vh(f:ae)(D:av 96 Int)(t:List ai){i:Nat}(hi:i<t.length):(Q3 f D t i).length=cR (fun k=>vG f D t[i] k) f.aa.length:=by
 unfold Q3
 rw [iA,←CN]
 refine o7 _ fun j hj=> ?_
 rw [bM hi]
 simp only [kE,cx]
 split<;>rfl
theorem IV{f:ae}{t:List ai}(h:Gv f t){D:av 96 Int}(hd:gM D)(hB:gR f D=true):∃xs b,Fz f t D=some (xs,b)∧(b=true→Pd f t D):=by
 have v8:=h.ht.len
 have hl:=B4 h hd
 have ku:∀s k,fF D s k=true→(s:Int)<f.ag∧k<f.aa.length:=fun s k hp=>⟨(n_ hB hd hp).1,(n_ hB hd hp).2.1⟩
 have hnl:=EC h.hf D
 obtain⟨r,m1,m2,m3⟩:=CK (pw f D) (by omega)
 obtain⟨r',s1,s2,s3,s4⟩:=l5 (pw f D) (by omega)
 rw [m2] at s1
 obtain rfl:=e9 s1
 have HO:FbM t=some (t.length:Int):=rfl
 generalize x5:(List.range t.length).flatMap (Q3 f D t)=xs at*
 have hv:Fz f t D=(if((xs.length:Int)==(t.length:Int))=true then(if(((nA D:Nat):Int)==(t.length:Int))=true then(if decide (r=t)=true then some (xs,(((Lm f D).length:Int)==0)) else some (xs,false)) else some (xs,false)) else some (xs,false)):=by
  simp only [Fz,hl,ar,Fz.fk,EH hd,HO,rQ h.hf hd,m1,tR r t (by omega),yJ h.hf hd]
 rw [hv]
 by_cases c1:xs.length=t.length
 ·rw [ak (by rw [c1];simp)]
  by_cases c2:nA D=t.length
  ·rw [ak (by rw [c2];simp)]
   by_cases c3:r=t
   ·rw [ak (by simpa using c3)]
    refine⟨xs,_,rfl,fun hb=> ?_⟩
    have EZ:Lm f D= []:=by
     cases hc:Lm f D with
     | nil=>rfl
     | cons x l=>rw [hc] at hb;simp at hb;omega
    subst c3
    have ajn:=B6 (g:=fun i=>(Q3 f D r i).length) r.length (fun i hi=>by
     rw [Vh f D r hi]
     have hm:=(s3 _).1 (bT hi)
     rw [uS h.hf ku] at hm
     obtain⟨s,k,a1,a2,a3⟩:=hm
     have e:=IN (p:=fun j=>decide (j=k)) (q:=fun j=>vG f D r[i] j) f.aa.length (fun j _ hj=>by
      rw [bC] at hj;subst hj
      unfold vG
      rw [show r[i].cd.toNat=s by omega,a1,a3];simp)
     have e2:=vk (p:=fun _=>false) (t:=k) rfl f.aa.length (ku s k a1).2
     rw [o6 _ (fun _ _=>rfl)] at e2
     rw [l7 (q:=fun j=>decide (j=k)) f.aa.length (fun k _=>by simp)] at e2
     omega)
    have Cg:=ajn.2 (by rw [←iA,x5,c1])
    have M6:∀s k,fF D s k=true→∃n∈r,n.cd=(s:Int)∧CP f k=some n.aD:=fun s k hp=>by
     have hk:=(ku s k hp).2
     refine⟨⟨(s:Int),f.aa[k].aD⟩,(s3 _).2 ((uS h.hf ku _).2 ⟨s,k,hp,rfl,?_⟩),rfl,?_⟩<;>(unfold CP;rw [bM hk];rfl)
    refine⟨(CQ h.hf hd ku).1 EZ,c2,M6,fun n hn=> ?_,fun s k k' hp VM e=> ?_⟩
    ·obtain⟨s,k,a1,a2,a3⟩:=(uS h.hf ku n).1 ((s3 n).1 hn)
     exact⟨k,(ku s k a1).2,by rw [show n.cd.toNat=s by omega];exact a1,a3⟩
    ·apply Classical.byContradiction
     intro jR
     obtain⟨n,hn,a2,a3⟩:=M6 s k hp
     obtain⟨i,hi,rfl⟩:=tX hn
     have h1:=Cg i hi
     simp only [Vh f D r hi] at h1
     have es:r[i].cd.toNat=s:=by omega
     have:=abY (p:=fun j=>vG f D r[i] j) jR (by unfold vG;rw [es,hp,a3];simp) (by unfold vG;rw [es,VM,←e,a3];simp) (ku s k hp).2 (ku s k' VM).2
     omega
   ·rw [ax (by simpa using c3)]
    exact⟨xs,false,rfl,fun hb=>by cases hb⟩
  ·rw [ax (by rw [k8];omega)]
   exact⟨xs,false,rfl,fun hb=>by cases hb⟩
 ·rw [ax (by rw [k8];omega)]
  exact⟨xs,false,rfl,fun hb=>by cases hb⟩
theorem X9{d:av 96 Int}(hd:gM d){s t:Nat}(hs:s<96)(ht:t<32):gM (av.set d (s:Int) (kl .u32 (ir d s:Int) ((2^t:Nat):Int)))∧∀a b,fF (av.set d (s:Int) (kl .u32 (ir d s:Int) ((2^t:Nat):Int))) a b=(fF d a b&& !(decide (a=s)&&decide (b=t))):=by
 have gy:=nj hd s
 have hp:=uM ht
 have hl:=rZ (CJ (ir d s) (2^t)) gy
 rw [Et _ _ gy hp]
 refine⟨vf hd s hl,fun a b=> ?_⟩
 unfold fF
 rw [rL hs]
 by_cases ha:a=s
 ·subst ha
  rw [ak rfl,sG,te]
  by_cases hb:b=t
  ·subst hb;simp
  ·have:¬t=b:=fun e=>hb e.symm
   simp [hb,this]
 ·rw [ax (fun e=>ha e.symm)]
  simp [ha]
theorem X_{a b:av 96 Int}{s t:Nat}(hs:s<96)(ht:t<32)(h0:fF a s t=false)(hp:∀x y,fF b x y=(fF a x y || (decide (x=s)&&decide (y=t)))):nA b=nA a+1:=by
 refine IL (s:=s) ?_ ?_ 96 hs
 ·rw [←vk (p:=fun b=>fF a s b) h0 32 ht]
  exact l7 32 fun i _=>by rw [hp];simp
 ·intro x hx
  exact l7 32 fun i _=>by rw [hp];simp [hx]
theorem Vi{a:av 96 Int}(h:∀s t,fF a s t=false):nA a=0:=by
 have:∀n,sR (fun s=>cR (fun t=>fF a s t) 32) n=0:=by
  intro n
  induction n with
  | zero=>rfl
  | succ n ih=>unfold sR;rw [ih,o6 32 (fun i _=>h n i)]
 exact this 96
theorem Vj{f:ae}{t:List ai}(h:Gv f t){a:av 96 Int}(ha:gM a){i:Nat}(hi:i<t.length):
  ∃r,loop (Fu.A9 f t a (i:Int)) (-1,0)=some r∧((r= .inr (-1)∧∀k,k<f.aa.length→vG f a t[i] k=false)∨(∃j:Nat,j<f.aa.length∧r= .inr (j:Int)∧vG f a t[i] j=true∧∀k,k<f.aa.length→vG f a t[i] k=true→k=j)∨(r= .inl ([],false)∧∃j k:Nat,j<f.aa.length∧k<f.aa.length∧j≠k∧vG f a t[i] j=true∧vG f a t[i] k=true)):=by
 have xN:=h.hf.h1;have rk:=h.hf.s1
 have hn:=h.ht.nt _ (bT hi)
 have VY:=tx h.ht h.len _ (bT hi)
 have ea:au t[i].cd=((t[i].cd.toNat:Nat):Int):=by rw [bc (by omega) (by omega)];omega
 have key:∀(x:Int) (k:Nat),k<f.aa.length→Fu.A9 f t a (i:Int) (x,(k:Int))=Fu.x7 x (k:Int) (vG f a t[i] k):=by
  intro x k hk
  simp only [Fu.A9,de hk,de hi,ar,ea,Bn ha (show t[i].cd.toNat<96 by omega) (show k≤32 by omega)]
  rw [ak (by simpa using hk)]
  unfold vG CP
  rw [bM hk]
  by_cases c:f.aa[k].aD=t[i].aD
  ·simp [c]
  ·simp [c]
 exact qV (f:=Fu.A9 f t a (i:Int)) f.aa.length (by omega) (fun k x=>(x=-1∧∀j,j<k→vG f a t[i] j=false)∨(∃j:Nat,j<k∧x=(j:Int)∧vG f a t[i] j=true∧∀j',j'<k→vG f a t[i] j'=true→j'=j)) _ (fun k x hk hI=>by
  rw [key x k hk]
  cases hp:vG f a t[i] k with
  | false=>
   left
   refine⟨x,by simp [Fu.x7],?_⟩
   rcases hI with⟨rfl,hI⟩ | ⟨j,j1,rfl,j2,j3⟩
   ·exact .inl ⟨rfl,fun j hj=>by
     by_cases e:j=k
     ·subst e;exact hp
     ·exact hI j (by omega)⟩
   ·exact .inr ⟨j,by omega,rfl,j2,fun j' hj' hb=>by
     by_cases e:j'=k
     ·subst e;rw [hp] at hb;cases hb
     ·exact j3 j' (by omega) hb⟩
  | true=>
   rcases hI with⟨rfl,hI⟩ | ⟨j,j1,rfl,j2,j3⟩
   ·left
    refine⟨(k:Int),by simp [Fu.x7], .inr ⟨k,by omega,rfl,hp,fun j' hj' hb=> ?_⟩⟩
    apply Classical.byContradiction
    intro e
    rw [hI j' (by omega)] at hb
    cases hb
   ·right
    refine⟨.inl ([],false),?_, .inr (.inr ⟨rfl,j,k,by omega,hk,by omega,j2,hp⟩)⟩
    simp only [Fu.x7,cp]
    rw [ak dT]) (fun x hI=>by
   refine⟨.inr x,by simp [Fu.A9],?_⟩
   rcases hI with⟨rfl,hI⟩ | ⟨j,j1,rfl,j2,j3⟩
   ·exact .inl ⟨rfl,hI⟩
   ·exact .inr (.inl ⟨j,j1,rfl,j2,j3⟩)) (-1) (.inl ⟨rfl,fun j hj=>by omega⟩)
end Go.Proofs.YtplklknkkaeniaaGreat
namespace Go.Proofs.YtplklknkkaeniaaGreat
open Eng
set_option linter.unusedVariables false
set_option linter.unusedSimpArgs false
def EO(f:ae)(l:List ai)(s k:Nat):Bool:=l.any fun n=>decide (n.cd=(s:Int))&&decide (CP f k=some n.aD)
theorem xX(f:ae)(l:List ai)(s k:Nat):EO f l s k=true↔∃n∈l,n.cd=(s:Int)∧CP f k=some n.aD:=by
 unfold EO
 rw [r6]
 simp
theorem Nu{f:ae}{t:List ai}(h:Gv f t){D:av 96 Int}(hd:gM D)(hB:gR f D=true):∃ys b,Fu f t D=some (ys,b)∧(b=true↔Pd f t D):=by
 have xN:=h.hf.h1;have rk:=h.hf.s1;have v8:=h.ht.len
 have ku:∀s k,fF D s k=true→(s:Int)<f.ag∧k<f.aa.length:=fun s k hp=>⟨(n_ hB hd hp).1,(n_ hB hd hp).2.1⟩
 by_cases EZ:Lm f D= []
 ·have hdg:=(CQ h.hf hd ku).1 EZ
  obtain⟨r,hr,hq⟩:=gA (f:=Fu.pH f t) (fun st=>∃i:Nat,i≤t.length∧st.2.2=(i:Int)∧st.2.1.length=i∧gM st.1∧(∀s k,fF st.1 s k=(fF D s k&& !EO f (t.take i) s k))∧
    (∀(m:Nat) (hm:m<t.length),m<i→∃j,j<f.aa.length∧vG f D t[m] j=true∧∀k,k<f.aa.length→vG f D t[m] k=true→k=j)∧nA st.1+i=nA D) (fun st=>t.length-st.2.2.toNat)
   (fun r=>(r= .inl ([],false)∧¬Pd f t D)∨(∃a xs,r= .inr (a,xs)∧gM a∧(∀s k,fF a s k=(fF D s k&& !EO f t s k))∧(∀(m:Nat) (hm:m<t.length),∃j,j<f.aa.length∧vG f D t[m] j=true∧∀k,k<f.aa.length→vG f D t[m] k=true→k=j)∧nA a+t.length=nA D)) (by
   rintro⟨a,xs,_⟩ ⟨i,hi,rfl,hxl,ha,Ro,huq,hct⟩
   simp only at hxl ha Ro hct
   by_cases gy:i<t.length
   ·have hn:=h.ht.nt _ (bT gy)
    have VY:=tx h.ht h.len _ (bT gy)
    have ea:t[i].cd=((t[i].cd.toNat:Nat):Int):=by omega
    have N5:∀k,vG f a t[i] k=vG f D t[i] k:=by
     intro k
     unfold vG
     rw [Ro]
     by_cases c:CP f k=some t[i].aD
     ·have:EO f (t.take i) t[i].cd.toNat k=false:=by
       rw [rD]
       intro hb
       obtain⟨n,zW,Pg,QX⟩:=(xX f _ _ _).1 hb
       obtain⟨m,hm,rfl⟩:=tX zW
       rw [gl] at hm
       rw [rB] at Pg QX
       have e2:t[m]=t[i]:=q7 (by omega) (by rw [QX] at c;exact e9 c)
       have:=ou.1 h.ht.so m i (by omega) gy (by omega)
       rw [e2] at this
       exact mM _ this
      rw [this];simp
     ·simp [c]
    obtain⟨r,hr,hq⟩:=Vj h ha gy
    simp only [N5] at hq
    have HA:Fu.pH f t (a,xs,(i:Int))=((some r:Option (((List Int)×Bool)⊕Int)).bind fun W4=>match W4 with | .inl p=>some (.inr (.inl p)) | .inr p=>Fu.tG t a xs (i:Int) p):=by
     simp only [Fu.pH,hr]
     rw [ak (by simpa using gy)]
     rfl
    rw [HA]
    simp only [ar]
    rcases hq with⟨rfl,Kp⟩ | ⟨j,j1,rfl,j2,j3⟩ | ⟨rfl,j,k,j1,k1,jk,j2,k2⟩
    ·right
     refine⟨_,by simp only [Fu.tG];rw [ak (by decide)], .inl ⟨rfl,fun hp=> ?_⟩⟩
     obtain⟨k,a1,a2,a3⟩:=hp.has _ (bT gy)
     have:=Kp k a1
     unfold vG at this
     rw [a2,a3] at this
     simp at this
    ·left
     have N_:=j2
     unfold vG at N_
     simp only [bY,bC] at N_
     have hpj:fF a t[i].cd.toNat j=true:=by
      have:=N5 j
      rw [j2] at this
      unfold vG at this
      simp only [bY] at this
      exact this.1
     obtain⟨c1,c2⟩:=X9 ha (s:=t[i].cd.toNat) (t:=j) (by omega) (by omega)
     have Cg:=lv ha (s:=t[i].cd.toNat) (by omega)
     rw [←ea] at Cg c1 c2
     refine⟨(av.set a t[i].cd (kl .u32 (ir a t[i].cd.toNat:Int) ((2^j:Nat):Int)),xs++ [(j:Int)],((i+1:Nat):Int)),?_,⟨i+1,gy,rfl,by simp [hxl],c1,fun s k=> ?_,fun m hm hmi=> ?_,?_⟩,by simp only [kd];omega⟩
     ·simp only [Fu.tG,de gy,ar,Cg,U2 (show j<32 by omega)]
      rw [ax dF,ak (by simp only [cf,bN];omega),wI ((i:Int)+1)]
      rfl
     ·simp only
      rw [c2,Ro,Bool.and_assoc]
      cases hD:fF D s k with
      | false=>simp
      | true=>
       simp only [mS]
       rw [iY]
       simp only [bY,kA,←kC,xX,bC]
       rw [jt gy]
       constructor
       ·rintro⟨g1,g2⟩ ⟨n,zW,Pg,QX⟩
        rcases dw.1 zW with zW | zW
        ·exact g1 ⟨n,zW,Pg,QX⟩
        ·rw [dG] at zW
         subst zW
         have es:s=t[i].cd.toNat:=by omega
         have hk:=j3 k (ku s k hD).2 (by unfold vG;rw [←es,hD,QX];simp)
         exact g2 ⟨es,hk⟩
       ·intro g
        refine⟨fun⟨n,zW,Pg,QX⟩=>g ⟨n,rz _ zW,Pg,QX⟩,fun⟨es,ek⟩=>g ⟨t[i],ov _ (dG.2 rfl),by omega,by rw [ek];exact N_.2⟩⟩
     ·by_cases e:m=i
      ·subst e;exact⟨j,j1,j2,j3⟩
      ·exact huq m hm (by omega)
     ·simp only
      have:=X_ (a:=av.set a t[i].cd (kl .u32 (ir a t[i].cd.toNat:Int) ((2^j:Nat):Int))) (b:=a) (s:=t[i].cd.toNat) (t:=j) (by omega) (by omega) (by rw [c2];simp) (fun x y=>by
       rw [c2]
       by_cases c:x=t[i].cd.toNat∧y=j
       ·obtain⟨rfl,rfl⟩:=c;rw [hpj];simp
       ·have:(decide (x=t[i].cd.toNat)&&decide (y=j))=false:=by rw [rD];simpa using c
        rw [this];simp)
      omega
    ·right
     refine⟨_,rfl, .inl ⟨rfl,fun hp=> ?_⟩⟩
     unfold vG at j2 k2
     simp only [bY,bC] at j2 k2
     exact jk (hp.one _ _ _ j2.1 k2.1 (j2.2.trans k2.2.symm))
   ·obtain rfl:i=t.length:=by omega
    right
    refine⟨.inr (a,xs),by simp only [Fu.pH];rw [ax (by simp)], .inr ⟨a,xs,rfl,ha,fun s k=>by rw [Ro,oJ],fun m hm=>huq m hm hm,hct⟩⟩) (D,[],0) ⟨0,by omega,rfl,rfl,hd,fun s k=>by simp [EO],fun m hm h0=>by omega,Nat.add_zero _⟩
  have hz:decide (((Lm f D).length:Int)>0)=false:=by rw [EZ];rfl
  rcases hq with⟨rfl,Kp⟩ | ⟨a,xs,rfl,ha,Ro,huq,hct⟩
  ·refine⟨[],false,by simp [Fu,tQ h.hf hd,EZ,hr],?_⟩
   exact⟨fun e=>(by cases e),fun hp=>absurd hp Kp⟩
  ·refine⟨xs,(a.1==(av.dC 96 0).1),by simp [Fu,tQ h.hf hd,EZ,hr,Fu.ki],?_⟩
   have he:((a.1==(av.dC 96 0).1)=true)↔∀s k,fF a s k=false:=by
    rw [k8]
    constructor
    ·intro e s k
     have:a=av.dC 96 0:=Subtype.ext e
     rw [this,qB]
    ·intro e
     have:a=av.dC 96 0:=Iw ha lZ fun s k _ _=>by rw [e,qB]
     rw [this]
   rw [he]
   constructor
   ·intro e
    have M6:∀s k,fF D s k=true→∃n∈t,n.cd=(s:Int)∧CP f k=some n.aD:=fun s k hp=>by
     have:=Ro s k
     rw [e,hp] at this
     have hb:EO f t s k=true:=by simpa using this
     exact(xX f t s k).1 hb
    refine⟨hdg,by rw [Vi e] at hct;omega,M6,fun n hn=> ?_,fun s k k' hp VM e2=> ?_⟩
    ·obtain⟨m,hm,rfl⟩:=tX hn
     obtain⟨j,j1,j2,_⟩:=huq m hm
     unfold vG at j2
     simp only [bY,bC] at j2
     exact⟨j,j1,j2.1,j2.2⟩
    ·obtain⟨n,hn,a2,a3⟩:=M6 s k hp
     obtain⟨m,hm,rfl⟩:=tX hn
     obtain⟨j,j1,j2,j3⟩:=huq m hm
     have es:t[m].cd.toNat=s:=by omega
     have g1:=j3 k (ku s k hp).2 (by unfold vG;rw [es,hp,a3];simp)
     have g2:=j3 k' (ku s k' VM).2 (by unfold vG;rw [es,VM,←e2,a3];simp)
     omega
   ·intro hp s k
    rw [Ro]
    cases hD:fF D s k with
    | false=>rfl
    | true=>
     rw [(xX f t s k).2 (hp.src s k hD)]
     rfl
 ·refine⟨[],false,?_,⟨fun e=>(by cases e),fun hp=>absurd ((CQ h.hf hd ku).2 hp.dg) EZ⟩⟩
  have hz:decide (((Lm f D).length:Int)>0)=true:=by
   cases hc:Lm f D with
   | nil=>exact absurd hc EZ
   | cons x l=>rw [bC];simp only [cf];omega
  simp only [Fu,tQ h.hf hd,ar,hz,cp]
theorem QF{f:ae}{t:List ai}(hi:vE f)(hl:f.aa.length≤9223372036854775807)(ht:t.length≤9223372036854775807)(hn:∀n∈t,AG n){D:av 96 Int}(hd:gM D):
  ∃b:Bool,QV f t D=some (b,nk f t D)∧YG f t D=some (b,nk f t D)∧(b=true→nk f t D=0∧Gv f t∧Pd f t D):=by
 by_cases h0:nk f t D=0
 ·obtain⟨h,hB⟩:=Nt hi h0
  obtain⟨xs,b,e1,e2⟩:=IV h hd hB
  obtain⟨ys,b',e3,e4⟩:=Nu h hd hB
  have hb:b'=b:=by
   rw [iY,e4]
   constructor
   ·intro hp
    obtain⟨zs,e5⟩:=B5 h hp
    rw [e1] at e5
    exact(Prod.mk.inj (e9 e5)).2
   ·exact e2
  subst hb
  refine⟨b',?_,?_,fun hb=>⟨h0,h,e4.1 hb⟩⟩
  ·simp [QV,vm hi hl ht hn hd (show (0:Int)≤0∧(0:Int)≤20000 by omega),h0,e1]
  ·simp [YG,EN hi hl ht hn hd,h0,e3]
 ·refine⟨false,?_,?_,fun hb=>by cases hb⟩
  ·simp [QV,vm hi hl ht hn hd (show (0:Int)≤0∧(0:Int)≤20000 by omega),h0]
  ·simp [YG,EN hi hl ht hn hd,h0]
end Go.Proofs.YtplklknkkaeniaaGreat
namespace Go.Proofs.YtplklknkkaeniaaGreat
open Eng
set_option linter.unusedVariables false
set_option linter.unusedSimpArgs false
theorem abZ{f:ae}{d:av 96 Int}{n:ai}{k:Nat}(h1:k<f.aa.length)(h2:CP f k=some n.aD)(h3:od f d n.cd.toNat k=true):k∈tT f d n:=by
 unfold tT
 refine List.mem_filter.2 ⟨kG.2 h1,?_⟩
 unfold IQ
 unfold CP at h2
 rw [h2,h3]
 simp
theorem X'{f:ae}(hf:kw f){d D:av 96 Int}(hg:DG f D)(pn:∀s k,fF d s k=true→fF D s k=true){s k:Nat}(hp:fF D s k=true)(h0:fF d s k=false):od f d s k=true:=by
 have xD:=hf.s0
 obtain⟨g1,g2⟩:=hg.LH s k hp
 obtain⟨_,_,r1,_,r3⟩:=zt hf g2
 unfold od
 simp only [bY,kA]
 refine⟨h0,(jG _ _).2 fun i h1 h2=> ?_,(jG _ _).2 fun i h1 h2=> ?_⟩
 ·have:=(jG _ _).1 (hg.clear s k hp) i h1 h2
  unfold zN at this⊢
  cases hb:fF d ((s+i)%f.ag.toNat) k with
  | false=>rfl
  | true=>rw [pn _ _ hb] at this;cases this
 ·unfold VU
  cases hb:fF d ((s+f.ag.toNat-i)%f.ag.toNat) k with
  | false=>rfl
  | true=>
   have hq:=pn _ _ hb
   have:=(jG _ _).1 (hg.clear _ k hq) i h1 h2
   unfold zN at this
   have e:((s+f.ag.toNat-i)%f.ag.toNat+i)%f.ag.toNat=s:=by
    by_cases c:i≤s
    ·rw [show s+f.ag.toNat-i=(s-i)+f.ag.toNat by omega,ub,oG (show s-i<f.ag.toNat by omega),show s-i+i=s by omega,oG (by omega)]
    ·rw [oG (show s+f.ag.toNat-i<f.ag.toNat by omega),show s+f.ag.toNat-i+i=s+f.ag.toNat by omega,ub,oG (by omega)]
   rw [e,hp] at this
   cases this
theorem Nv{a b:av 96 Int}(h:∀s k,fF a s k=true→fF b s k=true):beyond a b=0:=by
 have:∀n,sR (fun s=>cR (fun t=>fF a s t&& !fF b s t) 32) n=0:=by
  intro n
  induction n with
  | zero=>rfl
  | succ n ih=>
   unfold sR
   rw [ih,o6 32 (fun i _=>by
    cases ha:fF a n i with
    | false=>rfl
    | true=>rw [h n i ha];rfl)]
 exact this 96
theorem Vk{f:ae}(hf:kw f){bW D:av 96 Int}:∀(ns pre:List ai) (d:av 96 Int) (x:Int),(∀n∈ns,0≤n.cd∧n.cd<f.ag)→(pre++ns).Pairwise (fun a b=>kZ a b=true)→Pd f pre d→(∀s k,fF d s k=true→fF D s k=true)→Pd f (pre++ns) D→∃c,Way f bW ns d x D c
 | [],pre,d,x,_,_,hp,pn,hD=>by
  rw [gz] at hD
  exact⟨x,(Ve hp.dg.BA hD.dg.BA (Nv pn) (by rw [hp.cnt,hD.cnt])).symm,rfl⟩
 | n::ns,pre,d,x,hn,hs,hp,pn,hD=>by
  have QZ:=hn n k6
  have rk:=hf.s1;have xN:=hf.h1
  obtain⟨k,k1,k2,k3⟩:=hD.has n (by simp)
  have hb:∀m∈pre,kZ m n=true:=fun m hm=>(iW.1 hs).2.2 m hm n k6
  have h0:fF d n.cd.toNat k=false:=by
   cases hq:fF d n.cd.toNat k with
   | false=>rfl
   | true=>
    obtain⟨m,m1,m2,m3⟩:=hp.src _ _ hq
    have e:m=n:=q7 (by omega) (by rw [k3] at m3;exact(e9 m3).symm)
    exact absurd (e▸hb m m1) (mM n)
  have hk:=abZ k1 k3 (X' hf hD.dg pn k2 h0)
  have e:pre++n::ns=(pre++ [n])++ns:=by simp
  rw [e] at hs hD
  obtain⟨c,hc⟩:=Vk hf ns (pre++ [n]) (jr d n.cd.toNat k) (dX bW n.cd.toNat k x) (fun m hm=>hn m (lJ _ hm)) hs (O6 hf hp QZ hb hk) (fun s b GK=>by
   rw [xk hp.dg.BA (by omega) (by omega)] at GK
   simp only [ke,bY,bC] at GK
   rcases GK with GK | ⟨rfl,rfl⟩
   ·exact pn s b GK
   ·exact k2) hD
  exact⟨c,k,hk,hc⟩
theorem Lp{f:ae}{t:List ai}(h:Gv f t){bW D:av 96 Int}{ah:Int}(ho:(mN f t bW true ah).over=false)(hD:Pd f t D):(mN f t bW true ah).found=true∧(mN f t bW true ah).gh≤(beyond D bW:Nat):=by
 have VY:=tx h.ht h.len
 obtain⟨c,hw⟩:=Vk h.hf (bW:=bW) t [] (av.dC 96 0) 0 (fun n hn=>⟨(h.ht.nt n hn).1,VY n hn⟩) (by simpa using h.ht.so) (Vb f) (fun s k hb=>by rw [qB] at hb;cases hb) (by simpa using hD)
 obtain⟨_,e⟩:=zF h.hf h.ht VY hw
 obtain⟨g1,g2⟩:=Nq ho hw
 exact⟨g1,by rw [←e];exact g2⟩
theorem Ya{f:ae}(hi:vE f)(hl:f.aa.length≤9223372036854775807){d:av 96 Int}(hd:gM d):∃r c,Mp f d=some (r,c)∧(c=0→kw f∧gR f d=true∧xf r∧Od (pw f d)=some r∧∀x,x∈r↔x∈pw f d):=by
 have E4:=qk f hi hl d hd
 by_cases c:fO f=true∧gR f d=true
 ·have hf:=jA c.1 hi
  rw [ak c] at E4
  have hnl:=EC hf d
  obtain⟨r,m1,m2,m3⟩:=CK (pw f d) (by omega)
  obtain⟨r',s1,s2,s3,s4⟩:=l5 (pw f d) (by omega)
  rw [m2] at s1
  obtain rfl:=e9 s1
  have rk:=hf.s1
  have hrn:∀n∈r,AG n:=fun n hn=>by
   obtain⟨s,t,ht,hs,rfl⟩:=KZ ((s3 n).1 hn)
   have:=hf.hp _ (bT ht)
   exact⟨by simp only;omega,by simp only;omega⟩
  have hv:=vh (show r.length≤9223372036854775807 by omega) hrn
  cases hb:iM r with
  | true=>
   refine⟨r,0,by simp [Mp,E4,rQ hf hd,m1,YD,hv,hb],fun _=>⟨hf,c.2,lx hb,m1,s3⟩⟩
  | false=>exact⟨[],3,by simp [Mp,E4,rQ hf hd,m1,YD,hv,hb],fun e=>by cases e⟩
 ·rw [ax c] at E4
  exact⟨[],1,by simp [Mp,E4],fun e=>by cases e⟩
def Nw(f:ae)(k:Nat):Int:=(CP f k).getD 0
def AV(f:ae)(d:av 96 Int)(s:Nat):Nat→List Int
 | 0=> []
 | k+1=>if(fF d s k&& !(AV f d s k).any (fun y=>y==Nw f k))=true then AV f d s k++ [Nw f k] else AV f d s k
theorem CR(f:ae)(d:av 96 Int)(s:Nat):∀k,(AV f d s k).length≤k
 | 0=>bt _
 | k+1=>by
  have:=CR f d s k
  unfold AV
  split
  ·rw [cJ];simp;omega
  ·omega
theorem IW(f:ae)(d:av 96 Int)(s:Nat)(p:Int):∀k,p∈AV f d s k↔∃j,j<k∧fF d s j=true∧Nw f j=p
 | 0=>⟨fun h=>(by cases h),fun⟨j,h,_⟩=>by omega⟩
 | k+1=>by
  have ih:=IW f d s p k
  unfold AV
  split
  ·rename_i hc
   simp only [bY] at hc
   rw [dw,ih,dG]
   constructor
   ·rintro(⟨j,h1,h2⟩ | rfl)
    ·exact⟨j,by omega,h2⟩
    ·exact⟨k,by omega,hc.1,rfl⟩
   ·rintro⟨j,h1,h2,h3⟩
    by_cases e:j=k
    ·subst e;exact .inr h3.symm
    ·exact .inl ⟨j,by omega,h2,h3⟩
  ·rename_i hc
   rw [ih]
   constructor
   ·rintro⟨j,h1,h2⟩
    exact⟨j,by omega,h2⟩
   ·rintro⟨j,h1,h2,h3⟩
    by_cases e:j=k
    ·subst e
     rw [h2,mS,kA,Bool.not_eq_false] at hc
     rw [r6] at hc
     obtain⟨y,y1,y2⟩:=hc
     rw [k8] at y2
     subst y2
     rw [h3] at y1
     exact ih.1 y1
    ·exact⟨j,by omega,h2,h3⟩
theorem HB(f:ae)(d:av 96 Int)(s:Nat):∀k,(AV f d s k).Nodup
 | 0=>List.nodup_nil
 | k+1=>by
  have ih:=HB f d s k
  unfold AV
  split
  ·rename_i hc
   simp only [bY,kA] at hc
   rw [oz]
   refine⟨ih,by simp,fun a ha b hb e=> ?_⟩
   rw [dG] at hb
   subst hb;subst e
   have:=hc.2
   rw [List.any_eq_false] at this
   exact this _ ha (by simp)
  ·exact ih
theorem any_take_succ{S:Type}(p:S→Bool)(l:List S){k:Nat}(hk:k<l.length):(l.take (k+1)).any p=((l.take k).any p || p l[k]):=by
 rw [jt hk,List.any_append]
 simp
theorem Nx{f:ae}(hi:vE f)(hl:f.aa.length≤9223372036854775807){d:av 96 Int}(hd:gM d):aV f d=some true:=by
 obtain⟨r,c,e1,e2⟩:=Ya hi hl hd
 by_cases hc:c=0
 ·subst hc
  obtain⟨hf,hB,hr,_,hm⟩:=e2 rfl
  have xD:=hf.s0;have rk:=hf.s1;have xN:=hf.h1;have hrl:=hr.len
  have ku:∀s k,fF d s k=true→(s:Int)<f.ag∧k<f.aa.length:=fun s k hp=>⟨(n_ hB hd hp).1,(n_ hB hd hp).2.1⟩
  have Rj:∀k,(hk:k<f.aa.length)→Nw f k=f.aa[k].aD:=fun k hk=>by unfold Nw CP;rw [bM hk];rfl
  have abV:∀s k:Nat,(s:Int)<f.ag→k<f.aa.length→Fcb f d (s:Int) (k:Int)=some (fF d s k,0):=fun s k h1 h2=>by
   have hp:plB f (s:Int) (k:Int)=true:=(abU hf _ _).2 ⟨⟨by omega,h1⟩,by omega,by omega⟩
   simp [Fcb,IP f hi hl d hd,n9 hf,hB,hp,vg hd (show s<96 by omega) (show k≤32 by omega)]
  have known:∀(xs:List Int) (k:Nat),k<f.aa.length→xs.length≤100→loop (aV.Px f xs (k:Int)) (false,0)=some (xs.any fun y=>y==Nw f k):=fun xs k hk hx=>by
   obtain⟨t,ht,rfl⟩:=qV (f:=aV.Px f xs (k:Int)) xs.length (by omega) (fun j q=>q=(xs.take j).any fun y=>y==Nw f k) (fun t=>t=xs.any fun y=>y==Nw f k) (fun j q hj hq=>by
    left
    simp only [aV.Px,de hj,de hk,ar]
    rw [ak (by simpa using hj)]
    refine⟨_,?_,(any_take_succ _ xs hj).symm⟩
    rw [←hq]
    cases q with
    | true=>simp
    | false=>simp [Rj k hk]) (fun q hq=>⟨q,by simp [aV.Px],by rw [hq,oJ]⟩) false rfl
   exact ht
  have said:∀s:Nat,(s:Int)<f.ag→loop (aV.u_ f d (s:Int)) (([]:List Int),0)=some (.inr (AV f d s f.aa.length)):=fun s hs=>by
   refine gB (f:=aV.u_ f d (s:Int)) f.aa.length (fun k=>(AV f d s k,(k:Int))) _ (fun k hk=> ?_) (by simp [aV.u_])
   have Jq:=CR f d s k
   simp only [aV.u_,abV s k hs hk,ar,known (AV f d s k) k hk (by omega),aV.WK,de hk]
   rw [ak (by simpa using hk),ax (by simp),wI ((k:Int)+1)]
   have e:AV f d s (k+1)=if(fF d s k&& !(AV f d s k).any (fun y=>y==Nw f k))=true then AV f d s k++ [Nw f k] else AV f d s k:=rfl
   rw [e]
   by_cases c:(fF d s k&& !(AV f d s k).any (fun y=>y==Nw f k))=true
   ·rw [ak c,ak c,ak (by simp only [cf,bN];omega),Rj k hk]
    rfl
   ·rw [ax c,ax c]
    rfl
  have agZ:∀(s:Nat) (xs:List Int) (i:Nat) (hi:i<xs.length),xs.length≤100→loop (aV.Pw (r,0) (s:Int) xs (i:Int)) (false,0)=some (r.any fun n=>(n.cd==(s:Int))&&(n.aD==xs[i])):=fun s xs i hi hx=>by
   obtain⟨t,ht,rfl⟩:=qV (f:=aV.Pw (r,0) (s:Int) xs (i:Int)) r.length (by omega) (fun j q=>q=(r.take j).any fun n=>(n.cd==(s:Int))&&(n.aD==xs[i])) (fun t=>t=r.any fun n=>(n.cd==(s:Int))&&(n.aD==xs[i])) (fun j q hj hq=>by
    left
    have hn:=hr.nt _ (bT hj)
    simp only [aV.Pw,de hj,de hi,ar,wI (r[j].cd)]
    rw [ak (by simpa using hj)]
    refine⟨_,?_,(any_take_succ _ r hj).symm⟩
    rw [←hq]
    cases q with
    | true=>simp
    | false=>
     by_cases ce:r[j].cd=(s:Int)
     ·simp [ce]
     ·simp [ce]) (fun q hq=>⟨q,by simp [aV.Pw],by rw [hq,oJ]⟩) false rfl
   exact ht
  have count:∀(s:Nat),(s:Int)<f.ag→∀(n:Nat),n≤100000→loop (aV.p7 (r,0) (s:Int) (AV f d s f.aa.length)) ((n:Int),0)=some (.inr ((n+(AV f d s f.aa.length).length:Nat):Int)):=fun s hs n hn=>by
   have Jq:=CR f d s f.aa.length
   refine gB (f:=aV.p7 (r,0) (s:Int) (AV f d s f.aa.length)) (AV f d s f.aa.length).length (fun k=>(((n+k:Nat):Int),(k:Int))) _ (fun k hk=> ?_) (by simp [aV.p7])
   simp only [aV.p7,agZ s (AV f d s f.aa.length) k hk (by omega),ar,aV.WI]
   have qj:(r.any fun n=>(n.cd==(s:Int))&&(n.aD==(AV f d s f.aa.length)[k]))=true:=by
    obtain⟨j,j1,j2,j3⟩:=(IW f d s _ _).1 (bT hk)
    rw [r6]
    refine⟨⟨(s:Int),Nw f j⟩,(hm _).2 ((uS hf ku _).2 ⟨s,j,j2,rfl,?_⟩),by simp [j3]⟩
    unfold Nw CP
    rw [bM j1]
    rfl
   rw [ak (by simpa using hk),qj,ax (by simp),wI ((k:Int)+1),wI (((n+k:Nat):Int)+1)]
   rfl
  have Vl:au f.ag=(f.ag.toNat:Int):=by rw [bc (by omega) (by omega)];omega
  have hlen:sR (fun s=>(AV f d s f.aa.length).length) f.ag.toNat=r.length:=by
   have hL:=iA (fun s=>(AV f d s f.aa.length).map fun p=>(⟨(s:Int),p⟩:ai)) f.ag.toNat
   simp only [kF] at hL
   rw [←hL]
   refine List.Perm.length_eq ((List.perm_ext_iff_of_nodup ?_ ?_).2 fun x=> ?_)
   ·unfold List.Nodup
    rw [List.pairwise_flatMap]
    refine⟨fun s _=> ?_,?_⟩
    ·refine List.Pairwise.map _ (fun a b zo e=>zo ?_) (HB f d s f.aa.length)
     exact(ai.mk.inj e).2
    ·refine List.Pairwise.imp ?_ List.pairwise_lt_range
     intro a b zo x hx y EY e
     obtain⟨p,_,rfl⟩:=dM.1 hx
     obtain⟨q,_,rfl⟩:=dM.1 EY
     have:=(ai.mk.inj e).1
     omega
   ·exact List.Pairwise.imp (R:=fun a b=>kZ a b=true) (S:=fun a b=>a≠b) (fun{a b} zo=>fun e=>by subst e;exact mM _ zo) hr.so
   ·rw [hm,uS hf ku]
    simp only [kB,dM,kG,IW]
    constructor
    ·rintro⟨s,hs,p,⟨j,j1,j2,j3⟩,rfl⟩
     refine⟨s,j,j2,rfl,?_⟩
     subst j3
     unfold Nw CP
     rw [bM j1]
     rfl
    ·rintro⟨s,k,k1,k2,k3⟩
     refine⟨s,by have:=(ku s k k1).1;omega,x.aD,⟨k,(ku s k k1).2,k1,by unfold Nw;rw [k3];rfl⟩,q7 k2.symm rfl⟩
  have zM:∀k,sR (fun s=>(AV f d s f.aa.length).length) k≤k*24:=fun k=>K9 (B:=24) (fun s=>by have:=CR f d s f.aa.length;omega) k
  have rb:loop (aV.Df f d (r,0)) (0,0)=some (.inr ((r.length:Nat):Int)):=by
   rw [←hlen]
   refine gB (f:=aV.Df f d (r,0)) f.ag.toNat (fun k=>(((sR (fun s=>(AV f d s f.aa.length).length) k:Nat):Int),(k:Int))) _ (fun k hk=> ?_) (by simp [aV.Df,Vl])
   have hb:=zM k
   simp only [aV.Df,said k (by omega),ar,aV.og,count k (by omega) _ (show sR (fun s=>(AV f d s f.aa.length).length) k≤100000 by omega),aV.tG]
   rw [ak (by rw [Vl,bC];omega),wI ((k:Int)+1)]
   rfl
  simp [aV,e1,rb,aV.nS]
 ·have:(c !=0)=true:=by simpa using hc
  simp [aV,e1,hc]
end Go.Proofs.YtplklknkkaeniaaGreat
namespace Go.Proofs.YtplklknkkaeniaaGreat
open Eng
set_option linter.unusedVariables false
set_option linter.unusedSimpArgs false
end Go.Proofs.YtplklknkkaeniaaGreat
namespace Go.Proofs.YtplklknkkaeniaaGreat
open Eng
set_option linter.unusedVariables false
set_option linter.unusedSimpArgs false
theorem HC{f:ae}(hf:kw f)(hi:vE f){d:av 96 Int}(hd:gM d)(hB:gR f d=true){r:List ai}(m:Od (pw f d)=some r)(hr:xf r):Mp f d=some (r,0):=by
 have xN:=hf.h1
 have E4:=qk f hi (show f.aa.length≤9223372036854775807 by omega) d hd
 rw [ak ⟨n9 hf,hB⟩] at E4
 have hrl:=hr.len
 have hrn:∀n∈r,AG n:=fun n h=>by have:=hr.nt n h;exact⟨by omega,by omega⟩
 simp [Mp,E4,rQ hf hd,m,YD,vh (show r.length≤9223372036854775807 by omega) hrn,xg hr]
end Go.Proofs.YtplklknkkaeniaaGreat
