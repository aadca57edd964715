/- Plain texts of this seat, in one. -/
import Derived.Test.YtplklknkkaeniaaGreatM1
import Derived.Test.YtplklknkkaeniaaGreatM2
import Derived.Test.YtplklknkkaeniaaGreatQ0
import Derived.Test.YtplklknkkaeniaaGreatQ1
import Derived.Test.YtplklknkkaeniaaGreatPure
import Derived.Test.YtplklknkkaeniaaGreatM0
import Derived.Test.YtplklknkkaeniaaGreatT
import Derived.Test.YtplklknkkaeniaaGreatM3
import Derived.Test.YtplklknkkaeniaaGreatM4
import Derived.Test.YtplklknkkaeniaaGreatM5
namespace Go.Proofs.YtplklknkkaeniaaGreat
open Eng
set_option linter.unusedVariables false
set_option linter.unusedSimpArgs false
theorem Yb{f:ae}(hi:vE f)(hl:f.aa.length≤9223372036854775807){a b:av 96 Int}(ha:gM a)(hb:gM b)(h:gR f a=false):R4 f a b=some ([],[],1):=by
 have h1:=qY f hi hl [a,b] (by simp) (by
  intro d hd
  simp only [eK,cq,or_false] at hd
  rcases hd with rfl | rfl
  ·exact ha
  ·exact hb)
 rw [ax (by simp [h])] at h1
 simp [R4,h1]
theorem EP(t:List ai)(h:t.length≤1000000):Sx t t=some true:=by
 simp [Sx,tR t t h]
theorem B7{f:ae}{t:List ai}{bW:av 96 Int}{ah:Int}(hi:vE f)(hb:0≤ah∧ah≤20000)(ho:gM bW):
  ((pE f t bW ah).2.2.2=0∧Gv f t∧gR f bW=true∧(mN f t bW true ah).over=false∧Pd f t (pE f t bW ah).1∧(pE f t bW ah).2.1=(beyond (pE f t bW ah).1 bW:Nat)∧(pE f t bW ah).2.1=(mN f t bW true ah).gh)∨
  ((pE f t bW ah).2.2.2=6∧(mN f t bW true ah).over=false∧(mN f t bW true ah).found=false∧gR f bW=true)∨((pE f t bW ah).2.2.2≠0∧(pE f t bW ah).2.2.2≠6):=by
 unfold pE
 by_cases h0:nk f t bW=0
 ·rw [ak h0]
  obtain⟨h,hB⟩:=Nt hi h0
  unfold Lg
  cases rR:(mN f t bW true ah).over with
  | true=>exact .inr (.inr ⟨by simp,by simp⟩)
  | false=>
   cases xW:(mN f t bW true ah).found with
   | false=>exact .inr (.inl ⟨by simp,rfl,rfl,hB⟩)
   | true=>
    obtain⟨p1,p2⟩:=zF h.hf h.ht (tx h.ht h.len) (Lf xW)
    exact .inl ⟨by simp,h,hB,rfl,by simpa using p1,by simpa using p2,by simp⟩
 ·rw [ax h0]
  refine .inr (.inr ⟨h0,fun e=> ?_⟩)
  unfold nk at e
  simp only at e
  split at e
  ·split at e<;>cases e
  ·cases e
theorem AM{f:ae}{t:List ai}{ah:Int}(hi:vE f)(hl:f.aa.length≤9223372036854775807)(ht:t.length≤1000000)(hn:∀n∈t,AG n){bW d:av 96 Int}(ho:gM bW)(hd:gM d)(hb:0≤ah∧ah≤20000):
  bx f t bW d ah=some true:=by
 have ht':t.length≤9223372036854775807:=by omega
 obtain⟨l1,l2⟩:=Vg hi hl ht' hn ho hb
 have hvo:gR f bW=true→VD f bW:=fun hB=>⟨ho,fun s t h=>⟨(n_ hB ho h).1,(n_ hB ho h).2.1⟩⟩
 have ajo:Gv f t→Pd f t d→bx.PA f bW d (pE f t bW ah) false=some true:=fun h hp=>by
  have hvd:VD f d:=⟨hd,hp.dg.LH⟩
  simp only [bx.PA,cM,bU]
  rcases B7 (t:=t) hi hb ho with⟨c0,_,hB,rR,_,_,hm⟩ | ⟨c6,rR,xW,hB⟩ | ⟨c1,c2⟩
  ·obtain⟨_,e,mv,ml⟩:=Nj h.hf (hvo hB) hvd
   have:=(Lp h rR hp).2
   rw [mv]
   simp only [ar,c0,r7,cp]
   rw [ak (by simp only [ke,bC];right;rw [hm,ml];exact this)]
  ·have:=(Lp h rR hp).1
   rw [xW] at this
   cases this
  ·cases hB:gR f bW with
   | true=>
    obtain⟨_,e,mv,_⟩:=Nj h.hf (hvo hB) hvd
    simp [mv,c1,c2]
   | false=>
    simp [Yb hi hl ho hd hB,c1]
 have hk5:bx.ue f t bW d (pE f t bW ah)=some true:=by
  obtain⟨b,b1,b2,b3⟩:=QF hi hl ht' hn hd
  simp only [bx.ue,Nx hi hl hd,ar,b1,b2]
  rw [ax (by simp),ax (by simp)]
  have:((nk f t d==0)&&(b !=b))=false:=by simp
  rw [this]
  simp only [bx.s_,cM,bU]
  cases b with
  | false=>simp
  | true=>
   obtain⟨w0,h,hp⟩:=b3 rfl
   have hB:=sI hp.dg.LH
   have htn:=HC h.hf hi hd hB (Hy h.hf h.ht hp) h.ht
   have hpl:=Lo h.hf hi hd hB
   rw [(CQ h.hf hd hp.dg.LH).2 hp.dg] at hpl
   simp only [w0,htn,hpl,ar,EP t ht]
   rw [ax (by simp),ax (by simp)]
   exact ajo h hp
 have hq:(((pE f t bW ah).2.2.2==0)&&((pE f t bW ah).2.1 !=(pE f t bW ah).2.1))=false:=by simp
 simp only [bx,l1,l2,ar]
 rw [ax (by simp),hq]
 simp only [bx.ki,cM,bU]
 by_cases c0:(pE f t bW ah).2.2.2=0
 ·rw [ak (by simpa using c0)]
  rcases B7 (t:=t) hi hb ho with⟨_,h,hB,_,hp,hm,_⟩ | ⟨c6,_⟩ | ⟨c1,_⟩
  ·obtain⟨_,e,mv,ml⟩:=Nj h.hf (hvo hB) ⟨hp.dg.BA,hp.dg.LH⟩
   have Q2:=Ll h hp
   rw [Q2,mv]
   simp only [ar,ml,←hm]
   rw [ax (by simp)]
   exact hk5
  ·rw [c6] at c0;cases c0
  ·exact absurd c0 c1
 ·rw [ax (by simpa using c0)]
  exact hk5
end Go.Proofs.YtplklknkkaeniaaGreat
namespace Go.Proofs.YtplklknkkaeniaaGreat
open Eng
set_option linter.unusedVariables false
set_option linter.unusedSimpArgs false
theorem q8(a b c:Int):Fe [a,b,c]=some (if a≠0 then a else if b≠0 then b else c):=by
 have g0:Fe.e7 [a,b,c] 0=some (if a≠0 then .inr (.inl a) else .inl 1):=by
  by_cases h:a=0<;>simp [Fe.e7,ix,h,bc]
 have g1:Fe.e7 [a,b,c] 1=some (if b≠0 then .inr (.inl b) else .inl 2):=by
  by_cases h:b=0<;>simp [Fe.e7,ix,h,bc]
 have g2:Fe.e7 [a,b,c] 2=some (if c≠0 then .inr (.inl c) else .inl 3):=by
  by_cases h:c=0<;>simp [Fe.e7,ix,h,bc]
 have g3:Fe.e7 [a,b,c] 3=some (.inr (.inr ())):=by simp [Fe.e7]
 simp only [Fe]
 rw [bH,g0]
 by_cases ha:a=0
 ·simp only [ha,ne_eq,oD,bU]
  rw [bH];rw [ha] at g1 g2 g3;rw [g1]
  by_cases hb:b=0
  ·simp only [hb,ne_eq,oD,bU]
   rw [bH];rw [hb] at g2 g3;rw [g2]
   by_cases hc:c=0
   ·simp only [hc,ne_eq,oD,bU]
    rw [bH];rw [hc] at g3;rw [g3];simp [Fe.iQ]
   ·simp [hc]
  ·simp [hb]
 ·simp [ha]
theorem QG{S:Type}{f:Int→Option (Int⊕(Int⊕Unit))}(xs:List S)(p:S→Bool)(c:Int)(hn:xs.length≤9223372036854775807)
  (hf:∀(k:Nat) (hk:k<xs.length),f (k:Int)=some (if p xs[k]=true then .inl (au ((k:Int)+1)) else .inr (.inl c)))
  (he:f (xs.length:Int)=some (.inr (.inr ()))):loop f 0=some (if xs.all p=true then .inr () else .inl c):=by
 have key:∀m k:Nat,k+m=xs.length→(∀i (h:i<xs.length),i<k→p xs[i]=true)→loop f (k:Int)=some (if xs.all p=true then .inr () else .inl c):=by
  intro m
  induction m with
  | zero=>
   intro k hk rb
   obtain rfl:k=xs.length:=by omega
   rw [bH,he,ak]
   refine gP.2 fun x hx=> ?_
   obtain⟨i,h,rfl⟩:=ox.1 hx
   exact rb i h h
  | succ m ih=>
   intro k hk rb
   have gy:k<xs.length:=by omega
   rw [bH,hf k gy]
   by_cases h:p xs[k]=true
   ·rw [ak h]
    simp only
    rw [bc (by omega) (by omega),show (k:Int)+1=((k+1:Nat):Int) from rfl]
    exact ih (k+1) (by omega) (fun i hi hik=>by
     by_cases e:i=k
     ·subst e;exact h
     ·exact rb i hi (by omega))
   ·rw [ax h]
    simp only
    rw [ax]
    intro ha
    exact h (gP.1 ha _ (bT gy))
 exact key xs.length 0 (by omega) (fun i _ h=>absurd h (by omega))
def sU(f:ae)(ds:List (av 96 Int)):Int:=if fO f=true∧ds.all (gR f)=true then(if ds.length≤8 then 0 else 3) else 1
theorem xo(f:ae)(hi:vE f)(hl:f.aa.length≤9223372036854775807)(ds:List (av 96 Int))(LG:ds.length≤9223372036854775807)(hd:∀d∈ds,gM d):WU f ds=some (sU f ds):=by
 simp only [WU,qY f hi hl ds LG hd,ar,FI]
 unfold sU
 by_cases h:fO f=true∧ds.all (gR f)=true
 ·rw [ak h,ak h]
  by_cases h8:ds.length≤8
  ·rw [ak (by simp;omega)];simp [iv,h8]
  ·rw [ax (by simp;omega)];simp [iv,h8]
 ·rw [ax h,ax h]
  by_cases h8:ds.length≤8
  ·rw [ak (by simp;omega)];simp [iv]
  ·rw [ax (by simp;omega)];simp [iv]
theorem B8(f:ae)(hi:vE f)(hl:f.aa.length≤9223372036854775807)(ds:List (av 96 Int))(LG:ds.length≤9223372036854775807)(hd:∀d∈ds,gM d):H_ f ds=some (sU f ds):=by
 simp only [H_,n5 f hl,ar]
 cases hf:fO f with
 | false=>simp [sU,hf]
 | true=>
  simp only [jv,cM,bU]
  rw [QG ds (gR f) 1 LG (fun k hk=>by
   simp only [H_.VP,de hk,ar,zp (jA hf hi) (hd _ (bT hk))]
   rw [ak (by simpa using hk)]
   by_cases he:gR f ds[k]=true<;>simp [he]) (by simp [H_.VP])]
  unfold sU
  cases ha:ds.all (gR f) with
  | false=>simp [hf]
  | true=>
   simp only [hf,cp,ar,H_.fk,and_self]
   by_cases h8:ds.length≤8
   ·rw [ax (by simp;omega),ak h8]
   ·rw [ak (by simp;omega),ax h8]
def xq(ds:List (av 96 Int)):List (List Int):=ds.map fun a=>ds.map fun b=>((pD a b:Nat):Int)
theorem AN{S T:Type}(xs:List S)(g:S→T){f:List T×Int→Option ((List T×Int)⊕List T)}(hn:xs.length≤4294967296)
  (hf:∀ys (k:Nat) (hk:k<xs.length),ys.length+1≤4294967296→f (ys,(k:Int))=some (.inl (ys++ [g xs[k]],au ((k:Int)+1)))) (he:∀ys,f (ys,(xs.length:Int))=some (.inr ys)):loop f ([],0)=some (xs.map g):=by
 have:=gB (f:=f) xs.length (fun k=>((xs.take k).map g,(k:Int))) (xs.map g) (fun k hk=>by
  have e:(xs.take (k+1)).map g=(xs.take k).map g++ [g xs[k]]:=by rw [List.take_add_one,bM hk];simp only [mu,Option.toList_some,ju,mD]
  rw [hf _ k hk (by simp;omega),bc (by omega) (by omega),e]
  rfl) (by rw [he];simp)
 simpa using this
theorem EQ(ds:List (av 96 Int))(hl:ds.length≤4294967296)(hd:∀d∈ds,gM d):zb ds=some (xq ds):=by
 have h0:loop (zb.e7 ds) ([],0)=some (xq ds):=AN ds (fun a=>ds.map fun b=>((pD a b:Nat):Int)) hl (fun ys k hk hy=>by
  have h1:loop (zb.ko ds ds[k]) ([],0)=some (ds.map fun b=>((pD ds[k] b:Nat):Int)):=AN ds _ hl (fun zs j hj hz=>by
   simp only [zb.ko,de hj,ar,UX (hd _ (bT hk)) (hd _ (bT hj))]
   rw [ak (by simpa using hj),ak (by simpa using hz)]) (fun zs=>by simp [zb.ko])
  simp only [zb.e7,de hk,ar,h1,zb.qw]
  rw [ak (by simpa using hk),ak hy]) (fun ys=>by simp [zb.e7])
 simp only [zb,h0,ar,zb.iQ]
theorem B9(ds:List (av 96 Int))(hl:ds.length≤4294967296)(hd:∀d∈ds,gM d):FP ds=some (xq ds):=by
 have h0:loop (FP.e7 ds) ([],0)=some (xq ds):=AN ds (fun a=>ds.map fun b=>((pD a b:Nat):Int)) hl (fun ys k hk hy=>by
  have h1:loop (FP.I4 ds (k:Int)) ([],0)=some (ds.map fun b=>((pD ds[k] b:Nat):Int)):=AN ds _ hl (fun zs j hj hz=>by
   simp only [FP.I4,de hj,de hk,ar,Nd (hd _ (bT hk)) (hd _ (bT hj))]
   rw [ak (by simpa using hj),ak (by simpa using hz)]) (fun zs=>by simp [FP.I4])
  simp only [FP.e7,ar,h1,FP.po]
  rw [ak (by simpa using hk),ak hy]) (fun ys=>by simp [FP.e7])
 simp only [FP,h0,ar,FP.iQ]
theorem Yc{ds:List (av 96 Int)}{i k:Nat}(hi:i<ds.length)(hk:k<ds.length):∃r,ix (xq ds) (i:Int)=some r∧ix r (k:Int)=some ((pD ds[i] ds[k]:Nat):Int):=by
 refine⟨_,de (by simp [xq];exact hi),?_⟩
 rw [de (by simp [xq];exact hk)]
 simp [xq]
end Go.Proofs.YtplklknkkaeniaaGreat
namespace Go.Proofs.YtplklknkkaeniaaGreat
open Eng
set_option linter.unusedVariables false
set_option linter.unusedSimpArgs false
abbrev Cd:=Nat×List Nat
def zG:Option Cd→Cd→Option Cd
 | none,x=>some x
 | some y,x=>if x.1<y.1 then some x else some y
def uT(s:Option Cd)(xs:List Cd):Option Cd:=xs.foldl zG s
def Yd(s:Option Cd):Option Cd→Option Cd
 | none=>s
 | some x=>zG s x
theorem uU(s:Option Cd)(x:Cd)(xs:List Cd):uT s (x::xs)=uT (zG s x) xs:=rfl
theorem IX(s:Option Cd)(xs ys:List Cd):uT s (xs++ys)=uT (uT s xs) ys:=List.foldl_append
theorem Ny:∀(xs:List Cd) (s:Option Cd),uT s xs=Yd s (uT none xs):=by
 intro xs
 induction xs with
 | nil=>intro s;rfl
 | cons x xs ih=>
  intro s
  rw [uU,uU,ih (zG s x)]
  show Yd (zG s x) (uT none xs)=Yd s (uT (some x) xs)
  rw [ih (some x)]
  cases uT none xs with
  | none=>cases s<;>rfl
  | some w=>
   cases s with
   | none=>simp only [Yd,zG];split<;>rfl
   | some y=>
    simp only [Yd,zG]
    by_cases h1:x.1<y.1
    ·rw [ak h1]
     by_cases h2:w.1<x.1
     ·rw [ak h2];simp only [zG];rw [ak h2,ak (by omega)]
     ·rw [ax h2];simp only [zG];rw [ax h2,ak h1]
    ·rw [ax h1]
     by_cases h2:w.1<x.1
     ·rw [ak h2]
     ·rw [ax h2];simp only [zG];rw [ax h1,ax (by omega)]
theorem xu{xs:List Cd}(h:xs≠ []):∃x,uT none xs=some x:=by
 cases xs with
 | nil=>exact absurd rfl h
 | cons x xs=>
  rw [uU,Ny]
  show∃z,Yd (some x) (uT none xs)=some z
  cases uT none xs with
  | none=>exact⟨x,rfl⟩
  | some w=>simp only [Yd,zG];split<;>exact⟨_,rfl⟩
def shift(C:Nat)(pre:List Nat)(x:Cd):Cd:=(C+x.1,pre++x.2)
theorem Ye(C:Nat)(pre:List Nat)(s:Option Cd)(x:Cd):zG (s.map (shift C pre)) (shift C pre x)=(zG s x).map (shift C pre):=by
 cases s with
 | none=>rfl
 | some y=>
  simp only [kE,zG,shift]
  by_cases h:x.1<y.1
  ·rw [ak h,ak (by omega)];rfl
  ·rw [ax h,ax (by omega)];rfl
theorem Yf(C:Nat)(pre:List Nat):∀(xs:List Cd) (s:Option Cd),uT (s.map (shift C pre)) (xs.map (shift C pre))=(uT s xs).map (shift C pre):=by
 intro xs
 induction xs with
 | nil=>intro s;rfl
 | cons x xs ih=>intro s;rw [ju,uU,uU,Ye,ih]
theorem BB:∀{xs:List Cd} {x:Cd},uT none xs=some x→∃ys zs,xs=ys++x::zs∧(∀y∈ys,x.1<y.1)∧∀z∈zs,x.1≤z.1:=by
 intro xs
 induction xs with
 | nil=>intro x h;cases h
 | cons a xs ih=>
  intro x h
  rw [uU,Ny] at h
  have h:Yd (some a) (uT none xs)=some x:=h
  cases hw:uT none xs with
  | none=>
   rw [hw] at h
   obtain rfl:=e9 h
   cases xs with
   | nil=>exact⟨[],[],rfl,by simp,by simp⟩
   | cons b xs=>obtain⟨z,hz⟩:=xu (xs:=b::xs) (by simp);rw [hw] at hz;cases hz
  | some w=>
   rw [hw] at h
   obtain⟨ys,zs,e,h1,h2⟩:=ih hw
   simp only [Yd,zG] at h
   split at h
   ·rename_i gy
    obtain rfl:=e9 h
    refine⟨a::ys,zs,by rw [e];rfl,?_,h2⟩
    intro y hy
    rcases eK.1 hy with rfl | hy
    ·exact gy
    ·exact h1 y hy
   ·rename_i gy
    obtain rfl:=e9 h
    refine⟨[],xs,rfl,by simp,?_⟩
    intro z hz
    rw [e] at hz
    rcases dw.1 hz with hz | hz
    ·have:=h1 z hz;omega
    ·rcases eK.1 hz with rfl | hz
     ·omega
     ·have:=h2 z hz;omega
def rem(n left:Nat):List Nat:=(List.range n).filter fun k=>left.testBit k
def off(left k:Nat):Nat:=left^^^2^k
def q9(n left:Nat):Nat:=cR (fun k=>left.testBit k) n
theorem rM{n left k:Nat}:k∈rem n left↔k<n∧left.testBit k=true:=by simp [rem]
theorem AO(n left:Nat):rem (n+1) left=rem n left++(if left.testBit n=true then [n] else []):=by
 unfold rem
 rw [oE,List.filter_append]
 cases h:left.testBit n<;>simp [h]
theorem CS(left:Nat):∀n,(rem n left).length=q9 n left:=by
 intro n
 induction n with
 | zero=>rfl
 | succ n ih=>
  rw [AO,cJ,ih]
  show _=q9 n left+(if left.testBit n=true then 1 else 0)
  cases left.testBit n<;>simp
theorem Nz(n left:Nat):(rem n left).Pairwise (· < ·):=(List.pairwise_lt_range).filter _
theorem qE(left k i:Nat):(off left k).testBit i=(left.testBit i !=decide (k=i)):=by
 unfold off
 rw [Nat.testBit_xor,te]
theorem mg{n left k:Nat}(hk:k<n)(h:left.testBit k=true):q9 n (off left k)+1=q9 n left:=by
 unfold q9
 have hp:(off left k).testBit k=false:=by rw [qE,h];simp
 rw [←vk hp n hk]
 refine l7 n fun i _=> ?_
 rw [qE]
 by_cases e:i=k
 ·subst e;simp [h]
 ·have:¬k=i:=fun h=>e h.symm
  simp [e,this]
theorem IY{n left k:Nat}(hl:left<2^n)(hk:k<n):off left k<2^n:=Nat.xor_lt_two_pow hl (rW (by omega) hk)
theorem xY{n left:Nat}(hl:left<2^n):q9 n left=0↔left=0:=by
 constructor
 ·intro h
  refine rV fun i=> ?_
  rw [Nat.zero_testBit]
  by_cases hi:i<n
  ·have hr:(rem n left)= []:=kb (by rw [CS,h])
   cases hb:left.testBit i with
   | false=>rfl
   | true=>have:=rM.2 ⟨hi,hb⟩;rw [hr] at this;cases this
  ·exact Nat.testBit_lt_two_pow (oy hl (rA (by omega) (by omega)))
 ·rintro rfl
  exact o6 n fun i _=>Nat.zero_testBit i
def fq(c:Nat→Nat→Nat)(tl:Nat→Nat)(n:Nat):Nat→Nat→Nat→Cd
 | 0=>fun a _=>(tl a,[])
 | m+1=>fun a left=>(uT none ((rem n left).map fun k=>shift (c a k) [k] (fq c tl n m k (off left k)))).getD (tl a,[])
section
variable {c:Nat→Nat→Nat} {tl:Nat→Nat} {n:Nat}
theorem zH{m a left:Nat}(h:q9 n left=m+1):uT none ((rem n left).map fun k=>shift (c a k) [k] (fq c tl n m k (off left k)))=some (fq c tl n (m+1) a left):=by
 have jR:(rem n left).map (fun k=>shift (c a k) [k] (fq c tl n m k (off left k)))≠ []:=by
  intro e
  have:=fI List.length e
  rw [kF,CS,h] at this
  simp at this
 obtain⟨x,hx⟩:=xu jR
 simp only [fq,hx,rE]
theorem qn{m a left:Nat}(h:q9 n left=m+1):∃k VZ V0,rem n left=VZ++k::V0∧fq c tl n (m+1) a left=shift (c a k) [k] (fq c tl n m k (off left k))∧
  (∀y∈VZ,(fq c tl n (m+1) a left).1<c a y+(fq c tl n m y (off left y)).1)∧∀y∈V0,(fq c tl n (m+1) a left).1≤c a y+(fq c tl n m y (off left y)).1:=by
 obtain⟨ys,zs,e,h1,h2⟩:=BB (zH (c:=c) (tl:=tl) (a:=a) h)
 obtain⟨VZ,r,e1,rfl,e2⟩:=List.map_eq_append_iff.1 e
 obtain⟨k,V0,rfl,e3,rfl⟩:=List.map_eq_cons_iff.1 e2
 refine⟨k,VZ,V0,e1,e3.symm,?_,?_⟩
 ·intro y hy;exact h1 _ (dM.2 ⟨y,hy,rfl⟩)
 ·intro y hy;exact h2 _ (dM.2 ⟨y,hy,rfl⟩)
theorem Lq{B:Nat}(hc:∀i k,c i k≤B)(ht:∀i,tl i≤B):∀(m a left:Nat),q9 n left=m→(fq c tl n m a left).1≤B*(m+1):=by
 intro m
 induction m with
 | zero=>intro a left _;show tl a≤_;have:=ht a;omega
 | succ m ih=>
  intro a left h
  obtain⟨k,VZ,V0,e,e2,_,_⟩:=qn (c:=c) (tl:=tl) (a:=a) h
  have hk:k∈rem n left:=by rw [e];simp
  obtain⟨yP,E5⟩:=rM.1 hk
  have:=ih k (off left k) (by have:=mg yP E5;omega)
  rw [e2]
  show c a k+_≤_
  have:=hc a k
  rw [show B*(m+1+1)=B*(m+1)+B by rw [Nat.mul_add B (m+1) 1];omega]
  omega
theorem NA:∀(m a left:Nat),q9 n left=m→(fq c tl n m a left).2.length=m∧∀x∈(fq c tl n m a left).2,x<n:=by
 intro m
 induction m with
 | zero=>intro a left _;exact⟨rfl,by intro x hx;cases hx⟩
 | succ m ih=>
  intro a left h
  obtain⟨k,VZ,V0,e,e2,_,_⟩:=qn (c:=c) (tl:=tl) (a:=a) h
  have hk:k∈rem n left:=by rw [e];simp
  obtain⟨yP,E5⟩:=rM.1 hk
  obtain⟨h1,h2⟩:=ih k (off left k) (by have:=mg yP E5;omega)
  rw [e2]
  refine⟨by simp [shift,h1],?_⟩
  intro x hx
  simp only [shift,nD,gm,eK] at hx
  rcases hx with rfl | hx
  ·exact yP
  ·exact h2 x hx
end
theorem HD{k:Nat}(hk:k≤61):fo .i64 1 (u64 (k:Int))=((2^k:Nat):Int):=by
 have hp:2^k≤2^61:=rA (by omega) hk
 rw [show (2^61:Nat)=2305843009213693952 from rfl] at hp
 rw [u64_in (by omega) (by omega)]
 unfold fo
 have e:min ((k:Int).toNat) IntKind.i64.bits=k:=by
  have:IntKind.i64.bits=64:=rfl
  rw [this];simp;omega
 have e2:((2:Int)^k)=((2^k:Nat):Int):=by simp
 rw [e,Int.one_mul,e2]
 generalize 2^k=p at*
 exact bc (by omega) (by omega)
theorem Vm{a b:Nat}(ha:a<2^61)(hb:b<2^61):yQ .i64 (a:Int) (b:Int)=((a^^^b:Nat):Int):=by
 have hx:a^^^b<2^61:=Nat.xor_lt_two_pow ha hb
 have e61:(2^61:Nat)=2305843009213693952:=rfl
 unfold yQ
 have e1:(BitVec.ofInt IntKind.i64.bits (a:Int)).toNat=a:=by
  show (BitVec.ofInt 64 (a:Int)).toNat=a
  rw [BitVec.toNat_ofInt];omega
 have e2:(BitVec.ofInt IntKind.i64.bits (b:Int)).toNat=b:=by
  show (BitVec.ofInt 64 (b:Int)).toNat=b
  rw [BitVec.toNat_ofInt];omega
 rw [BitVec.toNat_xor,e1,e2]
 exact bc (by omega) (by omega)
theorem ZE{l k:Nat}(hk:k≤61):(Int.tmod (eC .i64 (l:Int) (u64 (k:Int))) 2==0)= !(l.testBit k):=by
 rw [u64_in (by omega) (by omega)]
 unfold eC
 have e:min ((k:Int).toNat) IntKind.i64.bits=k:=by
  have:IntKind.i64.bits=64:=rfl
  rw [this];simp;omega
 have e1:((2:Int)^k)=((2^k:Nat):Int):=by simp
 have e2:(l:Int).fdiv ((2^k:Nat):Int)=((l/2^k:Nat):Int):=by
  rw [Int.fdiv_eq_ediv_of_nonneg _ (Int.natCast_nonneg _)]
  exact(Int.natCast_ediv _ _).symm
 rw [e,e1,e2,xy (Int.natCast_nonneg _),zO]
 generalize l/2^k=q
 by_cases h:q%2=1
 ·have:¬((q:Int)%2=0):=by omega
  simp [h];omega
 ·have h0:(q:Int)%2=0:=by omega
  have:q%2=0:=by omega
  simp [this];omega
end Go.Proofs.YtplklknkkaeniaaGreat
namespace Go.Proofs.YtplklknkkaeniaaGreat
open Eng
set_option linter.unusedVariables false
set_option linter.unusedSimpArgs false
structure Gu (T:List (List Int)) (n:Nat) (c:Nat→Nat→Nat):Prop where
 len:T.length=n
 at_:∀i k,i<n→k<n→∃r,ix T (i:Int)=some r∧ix r (k:Int)=some ((c i k:Nat):Int)
 bd:∀i k,c i k≤1000000
 n1:1≤n
 n8:n≤8
def lH(o:List Nat):List Int:=o.map fun(k:Nat)=>(k:Int)
theorem je(o:List Nat):(lH o).length=o.length:=by simp [lH]
theorem IZ(a b:List Nat):lH (a++b)=lH a++lH b:=by simp [lH]
theorem I0(o:List Nat)(k:Nat):((k:Int)∈lH o)↔k∈o:=by
 simp only [lH,dM]
 constructor
 ·rintro⟨a,ha,e⟩
  have:a=k:=by omega
  exact this▸ha
 ·intro h;exact⟨k,h,rfl⟩
theorem ER{o:List Nat}{k:Nat}(h:k<o.length):ix (lH o) (k:Int)=some ((o[k]:Nat):Int):=by
 rw [de (show k<(lH o).length by rw [je];exact h)]
 simp [lH]
theorem BC(xs:List Int)(x:Int)(h:xs.length≤9223372036854775807):VO xs x=some (decide (x∈xs)):=by
 obtain⟨t,ht,hq⟩:=uK (f:=J9.e7 xs x) xs (fun y=>x==y) h (fun k hk=>by
  simp only [J9.e7,de hk,ar]
  rw [ak (by simpa using hk)]
  split<;>rfl) (by simp [J9.e7])
 simp only [VO,J9,ht,ar]
 have hm:xs.any (fun y=>x==y)=decide (x∈xs):=by
  rw [iY,r6,bC]
  constructor
  ·rintro⟨y,hy,e⟩;rw [k8.1 e];exact hy
  ·intro hx;exact⟨x,hx,by simp⟩
 rw [←hm]
 rcases hq with⟨qj,k,rfl,_⟩ | ⟨qj,rfl⟩
 ·rw [qj];simp
 ·rw [qj];simp [J9.iQ]
def hU(c:Nat→Nat→Nat):List Nat→Nat
 | a::b::l=>c a b+hU c (b::l)
 | _=>0
theorem ES(c:Nat→Nat→Nat)(k:Nat):∀(o:List Nat) (a:Nat),hU c ((o++ [a])++ [k])=hU c (o++ [a])+c a k:=by
 intro o
 induction o with
 | nil=>intro a;simp [hU]
 | cons x o ih=>
  intro a
  cases o with
  | nil=>simp [hU]
  | cons y o=>
   have:=ih a
   simp only [nD,hU] at this⊢
   omega
theorem Vn{c:Nat→Nat→Nat}{B:Nat}(hc:∀i k,c i k≤B):∀(o:List Nat),hU c o≤B*o.length:=by
 intro o
 induction o with
 | nil=>simp [hU]
 | cons x o ih=>
  cases o with
  | nil=>simp [hU]
  | cons y o=>
   have:=hc x y
   simp only [hU,cf] at ih⊢
   rw [show B*(o.length+1+1)=B*(o.length+1)+B by rw [Nat.mul_add B (o.length+1) 1];omega]
   omega
theorem NB(c:Nat→Nat→Nat)(o:List Nat){k:Nat}(h0:1≤k)(hk:k<o.length):hU c (o.take (k+1))=hU c (o.take k)+c o[k-1] o[k]:=by
 obtain⟨j,rfl⟩:∃j,k=j+1:=⟨k-1,by omega⟩
 have e1:o.take (j+1+1)=(o.take j++ [o[j]])++ [o[j+1]]:=by
  rw [jt hk,jt (show j<o.length by omega)]
 have e2:o.take (j+1)=o.take j++ [o[j]]:=jt (by omega)
 rw [e1,e2,ES]
 rfl
theorem vn{T:List (List Int)}{n:Nat}{c:Nat→Nat→Nat}(hT:Gu T n c)(o:List Nat)(ho:∀x∈o,x<n)(hl:o.length≤100):FQ T (lH o)=some ((hU c o:Nat):Int):=by
 have hb:=fun(o:List Nat)=>Vn (c:=c) hT.bd o
 by_cases h0:o= []
 ·subst h0
  simp only [FQ]
  rw [bH]
  simp [FQ.fY,lH,FQ.fk,hU]
 ·have ab0:1≤o.length:=by
   cases o with
   | nil=>exact absurd rfl h0
   | cons x o=>simp
  have:=gB (f:=FQ.fY T (lH o)) (o.length-1) (fun k=>(((hU c (o.take (k+1)):Nat):Int),((k+1:Nat):Int))) ((hU c o:Nat):Int) (fun k hk=>by
   have ZC:k+1<o.length:=by omega
   have e1:au (((k+1:Nat):Int)-1)=(k:Int):=by rw [bc (by omega) (by omega)];omega
   obtain⟨r,r1,r2⟩:=hT.at_ o[k] o[k+1] (ho _ (bT _)) (ho _ (bT _))
   have hs:=NB c o (k:=k+1) (by omega) ZC
   have hle:=hb (o.take (k+1+1))
   have hll:(o.take (k+1+1)).length≤100:=by rw [gl];omega
   have hm:1000000*(o.take (k+1+1)).length≤1000000*100:=Nat.mul_le_mul_left _ hll
   simp only [Nat.add_sub_cancel] at hs
   simp only [FQ.fY,e1,ER (show k<o.length by omega),ER ZC,r1,r2,ar]
   rw [ak (by rw [bC,je];omega),hs,wI (_+_),wI (((k+1:Nat):Int)+1)]
   simp) (by
   simp only [FQ.fY]
   rw [ax (by rw [bC,je];omega),show o.length-1+1=o.length by omega,oJ])
  have h1:loop (FQ.fY T (lH o)) (0,1)=some ((hU c o:Nat):Int):=by
   have e:hU c (o.take 1)=0:=by
    cases o with
    | nil=>rfl
    | cons x o=>simp [hU]
   simpa [e] using this
  simp only [FQ,h1,ar,FQ.fk]
noncomputable def o8.l (dn:Int→(List Int)→(List (List Int))→Int→(List Int)→Option (Int×(List Int))) (n0:Int) (dh:List Int) (dR:List (List Int)):((List Int)×Int×Int)→Option (((List Int)×Int×Int)⊕(((List Int)×Int)))
 | (fX,gr,v7)=>(if(decide (v7<n0))=true then(VO dh v7).bind fun Mr=>(if(!Mr)=true then(YJ dh).bind fun Mz=>(if Mz.length+([v7]:List Int).length≤4294967296 then(dn n0 (Mz++([v7]:List Int)) dR gr fX).bind fun If=>some (.inl (If.2,If.1,(au (v7+1)))) else none) else some (.inl (fX,gr,(au (v7+1))))) else some (.inr (fX,gr)))
noncomputable def o8.step (leaf:List Int→List (List Int)→Int→List Int→Option (Int×(List Int))) (dn:Int→(List Int)→(List (List Int))→Int→(List Int)→Option (Int×(List Int))) (n0:Int) (dh:List Int) (dR:List (List Int)) (jm:Int) (jF:List Int):Option (Int×(List Int)):=
 (if((dh.length:Int)==n0)=true then(leaf dh dR jm jF).bind fun bz=>some (bz.1,bz.2) else(loop (o8.l dn n0 dh dR) (jF,jm,0)).bind fun Dz=>some (Dz.2,Dz.1))
noncomputable def o8 (leaf:List Int→List (List Int)→Int→List Int→Option (Int×(List Int))):Nat→Int→(List Int)→(List (List Int))→Int→(List Int)→Option (Int×(List Int))
 | 0=>fun n0 dh dR jm jF=>none
 | fu+1=>o8.step leaf (o8 leaf fu)
theorem Yg:∀fu,Fj.fW fu=o8 QW fu:=by
 intro fu
 induction fu with
 | zero=>rfl
 | succ fu ih=>show Fj.step (Fj.fW fu)=o8.step QW (o8 QW fu);rw [ih];rfl
def mO:Option Cd→Int
 | none=>-1
 | some x=>((x.1:Nat):Int)
def lQ:Option Cd→List Int
 | none=> []
 | some x=>lH x.2
def I1(leaf:List Int→List (List Int)→Int→List Int→Option (Int×(List Int)))(T:List (List Int))(n:Nat)(c:Nat→Nat→Nat)(tl:Nat→Nat):Prop:=
 ∀(o:List Nat) (a:Nat) (s:Option Cd),(o++ [a]).length=n→(∀x∈o++ [a],x<n)→leaf (lH (o++ [a])) T (mO s) (lQ s)=some (mO (zG s (hU c (o++ [a])+tl a,o++ [a])),lQ (zG s (hU c (o++ [a])+tl a,o++ [a])))
theorem O9{s:Option Cd}{C:Nat}{p:List Nat}:(if((decide (mO s<0)) || (decide (((C:Nat):Int)<mO s)))=true then some (((C:Nat):Int),lH p) else some (mO s,lQ s))=some (mO (zG s (C,p)),lQ (zG s (C,p))):=by
 cases s with
 | none=>simp [mO,lQ,zG]
 | some y=>
  obtain⟨u,v⟩:=y
  have e1:mO (some (u,v))=((u:Nat):Int):=rfl
  simp only [zG,e1]
  by_cases h:C<u
  ·have h':((C:Nat):Int)<((u:Nat):Int):=Int.ofNat_lt.2 h
   simp [h,h',mO,lQ]
  ·have h':¬((C:Nat):Int)<((u:Nat):Int):=fun e=>h (Int.ofNat_lt.1 e)
   have h0:¬((u:Nat):Int)<0:=by omega
   simp [h,mO,lQ]
   omega
theorem Yh(s:List Int)(h:s.length≤1000000):YJ s=some s:=by
 simp only [YJ,gm,bN]
 rw [ak (by omega)]
theorem Lr{leaf:List Int→List (List Int)→Int→List Int→Option (Int×(List Int))}{T:List (List Int)}{n:Nat}(hn8:n≤8){fu:Nat}{o:List Nat}(ho:o.length≤8){left:Nat}(EL:∀i,i<n→left.testBit i= !(decide (i∈o)))
  (Lt:Nat→Cd) (Be:∀k (s:Option Cd),k<n→left.testBit k=true→o8 leaf fu (n:Int) (lH (o++ [k])) T (mO s) (lQ s)=some (mO (zG s (Lt k)),lQ (zG s (Lt k)))) (s:Option Cd):
  loop (o8.l (o8 leaf fu) (n:Int) (lH o) T) (lQ s,mO s,0)=some (lQ (uT s ((rem n left).map Lt)),mO (uT s ((rem n left).map Lt))):=by
 have:=gB (f:=o8.l (o8 leaf fu) (n:Int) (lH o) T) n (fun k=>(lQ (uT s ((rem k left).map Lt)),mO (uT s ((rem k left).map Lt)),(k:Int))) (lQ (uT s ((rem n left).map Lt)),mO (uT s ((rem n left).map Lt))) (fun k hk=>by
  have hw:au ((k:Int)+1)=((k+1:Nat):Int):=by rw [bc (by omega) (by omega)];omega
  have hc:decide ((k:Int)∈lH o)= !(left.testBit k):=by
   rw [EL k hk,Bool.not_not,iY,bC,bC,I0]
  simp only [o8.l,BC (lH o) (k:Int) (by rw [je];omega),ar,hc,Bool.not_not,hw,AO]
  rw [ak dT]
  cases hb:left.testBit k with
  | false=>simp
  | true=>
   simp only [cp,Yh (lH o) (by rw [je];omega),ar,mu,ju,mD,IX]
   have e:lH o++ [(k:Int)]=lH (o++ [k]):=by rw [IZ];rfl
   rw [ak (by rw [je];simp;omega),e,Be k _ hk hb]
   simp only [ar]
   rfl) (by
  simp only [o8.l]
  rw [ax (by simp)])
 exact this
theorem ab1{leaf:List Int→List (List Int)→Int→List Int→Option (Int×(List Int))}{T:List (List Int)}{n:Nat}{c:Nat→Nat→Nat}{tl:Nat→Nat}(hn8:n≤8)(Lu:I1 leaf T n c tl):
  ∀(m fu:Nat) (o:List Nat) (a left:Nat) (s:Option Cd),(o++ [a]).length+m=n→m<fu→(∀x∈o++ [a],x<n)→(∀i,i<n→left.testBit i= !(decide (i∈o++ [a])))→q9 n left=m→
   o8 leaf fu (n:Int) (lH (o++ [a])) T (mO s) (lQ s)=some (mO (zG s (shift (hU c (o++ [a])) (o++ [a]) (fq c tl n m a left))),lQ (zG s (shift (hU c (o++ [a])) (o++ [a]) (fq c tl n m a left)))):=by
 intro m
 induction m with
 | zero=>
  intro fu o a left s hl hf hx EL HE
  obtain⟨fu,rfl⟩:∃k,fu=k+1:=⟨fu-1,by omega⟩
  simp only [o8,o8.step]
  rw [ak (by rw [je];simp at hl⊢;omega),Lu o a s (by omega) hx]
  simp only [ar]
  have e:shift (hU c (o++ [a])) (o++ [a]) (fq c tl n 0 a left)=(hU c (o++ [a])+tl a,o++ [a]):=by simp [shift,fq]
  rw [e]
 | succ m ih=>
  intro fu o a left s hl hf hx EL HE
  obtain⟨fu,rfl⟩:∃k,fu=k+1:=⟨fu-1,by omega⟩
  simp only [o8,o8.step]
  rw [ax (by rw [je];simp at hl⊢;omega)]
  rw [Lr (o:=o++ [a]) hn8 (by omega) EL (fun k=>shift (hU c (o++ [a])) (o++ [a]) (shift (c a k) [k] (fq c tl n m k (off left k)))) (fun k s hk hb=>by
   have hko:¬k∈o++ [a]:=by
    have:=EL k hk
    rw [hb] at this
    simpa using this
   have h1:=ih fu (o++ [a]) k (off left k) s (by simp at hl⊢;omega) (by omega) (by
    intro x hx'
    rcases dw.1 hx' with h | h
    ·exact hx x h
    ·simp at h;omega) (by
    intro i hi
    rw [qE,EL i hi]
    by_cases e:k=i
    ·subst e;simp [hko]
    ·have e':¬i=k:=fun h=>e h.symm
     simp [e,e']) (by have:=mg hk hb;omega)
   have e:shift (hU c ((o++ [a])++ [k])) ((o++ [a])++ [k]) (fq c tl n m k (off left k))=shift (hU c (o++ [a])) (o++ [a]) (shift (c a k) [k] (fq c tl n m k (off left k))):=by
    rw [ES]
    simp only [shift,iX]
    rw [nF]
   rw [e] at h1
   exact h1) s]
  simp only [ar]
  have e2:(rem n left).map (fun k=>shift (hU c (o++ [a])) (o++ [a]) (shift (c a k) [k] (fq c tl n m k (off left k))))=((rem n left).map fun k=>shift (c a k) [k] (fq c tl n m k (off left k))).map (shift (hU c (o++ [a])) (o++ [a])):=by
   rw [List.map_map];rfl
  have e3:uT none (((rem n left).map fun k=>shift (c a k) [k] (fq c tl n m k (off left k))).map (shift (hU c (o++ [a])) (o++ [a])))=some (shift (hU c (o++ [a])) (o++ [a]) (fq c tl n (m+1) a left)):=by
   have:=Yf (hU c (o++ [a])) (o++ [a]) ((rem n left).map fun k=>shift (c a k) [k] (fq c tl n m k (off left k))) none
   rw [Option.map_none] at this
   rw [this,zH HE];rfl
  rw [e2,Ny,e3]
  rfl
theorem ZF{T:List (List Int)}{n:Nat}{c:Nat→Nat→Nat}(hT:Gu T n c):I1 QW T n c (fun _=>0):=by
 intro o a s hl hx
 have:=hT.n8
 simp only [QW,vn hT (o++ [a]) hx (by omega),ar]
 rw [Nat.add_zero]
 exact O9
end Go.Proofs.YtplklknkkaeniaaGreat
namespace Go.Proofs.YtplklknkkaeniaaGreat
open Eng
set_option linter.unusedVariables false
set_option linter.unusedSimpArgs false
def mw(c:Nat→Nat→Nat)(tl:Nat→Nat)(n a left:Nat):Nat:=(fq c tl n (q9 n left) a left).1
structure Gw (c:Nat→Nat→Nat) (tl:Nat→Nat) (n:Nat) (K:List (List Int)):Prop where
 len:K.length=n
 row:∀a:Nat,a<n→∃r,ix K (a:Int)=some r∧r.length=2^n∧∀l:Nat,l<2^n→∃v,ix r (l:Int)=some v∧(v=-1∨v=((mw c tl n a l:Nat):Int))
section
variable {T:List (List Int)} {n:Nat} {c:Nat→Nat→Nat} {tl:Nat→Nat} {nQ:Bool}
theorem ab2{K:List (List Int)}(h:Gw c tl n K){a l:Nat}(ha:a<n)(hl:l<2^n){r:List Int}(hr:ix K (a:Int)=some r):Gw c tl n (K.set a (r.set l ((mw c tl n a l:Nat):Int))):=by
 obtain⟨r',h1,h2,h3⟩:=h.row a ha
 rw [hr] at h1
 obtain rfl:=e9 h1
 refine⟨by rw [eJ];exact h.len,fun b hb=> ?_⟩
 have hKl:=h.len
 by_cases e:a=b
 ·subst e
  refine⟨r.set l ((mw c tl n a l:Nat):Int),?_,by rw [eJ];exact h2,fun m hm=> ?_⟩
  ·rw [de (by rw [eJ];omega)];simp
  ·by_cases e2:l=m
   ·subst e2
    exact⟨_,by rw [de (by rw [eJ];omega)];simp, .inr rfl⟩
   ·obtain⟨v,v1,v2⟩:=h3 m hm
    refine⟨v,?_,v2⟩
    rw [de (by omega)] at v1
    rw [de (by rw [eJ];omega),List.getElem_set_ne e2]
    exact v1
 ·obtain⟨r2,g1,g2,g3⟩:=h.row b hb
  refine⟨r2,?_,g2,g3⟩
  rw [de (by omega)] at g1
  rw [de (by rw [eJ];omega),List.getElem_set_ne e]
  exact g1
theorem O_(hT:Gu T n c)(v8:tl=fun i=>if nQ=true then c i 0 else 0):∀(m fu a left:Nat) (K:List (List Int)),q9 n left=m→m<fu→a<n→left<2^n→Gw c tl n K→
  ∃K',FL.fW fu T (a:Int) (left:Int) nQ K=some (((mw c tl n a left:Nat):Int),K')∧Gw c tl n K':=by
 have h8:=hT.n8
 have h1':=hT.n1
 have IT:∀i,tl i≤1000000:=by intro i;rw [v8];simp only;split;exact hT.bd i 0;omega
 have hp8:2^n≤2^8:=rA (by omega) h8
 have e8:(2^8:Nat)=256:=rfl
 have e61:(2^61:Nat)=2305843009213693952:=rfl
 intro m
 induction m with
 | zero=>
  intro fu a left K hc hf ha hl hK
  obtain⟨fu,rfl⟩:∃k,fu=k+1:=⟨fu-1,by omega⟩
  obtain rfl:=(xY hl).1 hc
  obtain⟨r,r1,r2⟩:=hT.at_ a 0 ha (by omega)
  have r2:ix r 0=some ((c a 0:Nat):Int):=r2
  have e:mw c tl n a 0=tl a:=by unfold mw;rw [hc];rfl
  rw [e,v8]
  simp only [FL.fW,FL.step]
  rw [ak (by simp)]
  cases nQ with
  | true=>simp only [cp,r1,r2,ar];exact⟨K,rfl,v8▸hK⟩
  | false=>exact⟨K,rfl,v8▸hK⟩
 | succ m ih=>
  intro fu a left K hc hf ha hl hK
  obtain⟨fu,rfl⟩:∃k,fu=k+1:=⟨fu-1,by omega⟩
  have Yu:left≠0:=fun e=>by rw [(xY hl).2 e] at hc;cases hc
  obtain⟨r,g1,g2,g3⟩:=hK.row a ha
  obtain⟨v,v1,v2⟩:=g3 left hl
  simp only [FL.fW,FL.step,g1,v1,ar]
  rw [ax (by simp;omega)]
  by_cases hv:v≥0
  ·rw [ak (by simpa using hv)]
   rcases v2 with v2 | v2
   ·omega
   ·rw [v2];exact⟨K,rfl,hK⟩
  ·rw [ax (by simpa using hv)]
   have hrv:mw c tl n a left=(fq c tl n (m+1) a left).1:=by unfold mw;rw [hc]
   have pn:∀k,k<n→left.testBit k=true→q9 n (off left k)=m:=fun k hk hb=>by have:=mg hk hb;omega
   obtain⟨⟨K2,i2⟩,hlp,hK2,QT⟩:=gA (f:=FL.vQ (FL.fW fu) T (a:Int) (left:Int) nQ)
    (fun s=>∃k:Nat,k≤n∧s.2.2=(k:Int)∧Gw c tl n s.1∧s.2.1=mO (uT none ((rem k left).map fun k=>shift (c a k) [k] (fq c tl n m k (off left k)))))
    (fun s=>n-s.2.2.toNat) (fun t=>Gw c tl n t.1∧t.2=((mw c tl n a left:Nat):Int)) (by
    rintro⟨xt,i,_⟩ ⟨k,hk,rfl,ZG,hi⟩
    simp only at ZG hi
    by_cases yP:k=n
    ·right
     subst yP
     refine⟨(xt,i),?_,ZG,?_⟩
     ·simp only [FL.vQ]
      rw [ax (by rw [bC,hT.len];omega)]
     ·show i=_
      rw [hi,zH hc,hrv];rfl
    ·left
     have yP:k<n:=by omega
     have hw:au ((k:Int)+1)=((k+1:Nat):Int):=by rw [bc (by omega) (by omega)];omega
     simp only [FL.vQ,ZE (show k≤61 by omega),HD (show k≤61 by omega),hw]
     rw [ak (by rw [bC,hT.len];omega),ak (by rw [u64_in (by omega) (by omega)];omega)]
     cases hb:left.testBit k with
     | false=>
      refine⟨_,rfl,⟨k+1,by omega,rfl,ZG,?_⟩,by simp only;omega⟩
      show i=_
      rw [hi,AO,hb];simp
     | true=>
      obtain⟨q,q1,q2⟩:=hT.at_ a k ha yP
      have ab3:=IY hl yP
      obtain⟨K',k1,k2⟩:=ih fu k (off left k) xt (pn k yP hb) (by omega) yP ab3 ZG
      have ZH:yQ .i64 (left:Int) ((2^k:Nat):Int)=((off left k:Nat):Int):=Vm (by omega) (rW (by omega) (by omega))
      have zM:=Lq (c:=c) (tl:=tl) hT.bd IT m k (off left k) (pn k yP hb)
      have hcm:m≤8:=by
       have:=vF (fun i=>left.testBit i) n
       have VN:cR (fun i=>left.testBit i) n=m+1:=hc
       omega
      have I7:1000000*(m+1)≤1000000*9:=Nat.mul_le_mul_left _ (by omega)
      have hrk:mw c tl n k (off left k)=(fq c tl n m k (off left k)).1:=by unfold mw;rw [pn k yP hb]
      have Q2:=hT.bd a k
      have Ce:au (((c a k:Nat):Int)+((mw c tl n k (off left k):Nat):Int))=((c a k+(fq c tl n m k (off left k)).1:Nat):Int):=by rw [hrk,bc (by omega) (by omega)];omega
      simp only [jv,cM,bU,q1,q2,ZH,k1,ar,Ce]
      rw [ak (by rw [u64_in (by omega) (by omega)];omega)]
      have HA:(if((decide (i<0)) || (decide (((c a k+(fq c tl n m k (off left k)).1:Nat):Int)<i)))=true then((c a k+(fq c tl n m k (off left k)).1:Nat):Int) else i)=mO (uT none ((rem (k+1) left).map fun k=>shift (c a k) [k] (fq c tl n m k (off left k)))):=by
       rw [AO,hb,ak rfl,mu,IX,hi]
       generalize uT none ((rem k left).map fun k=>shift (c a k) [k] (fq c tl n m k (off left k)))=s
       have:=O9 (s:=s) (C:=c a k+(fq c tl n m k (off left k)).1) (p:= [k]++(fq c tl n m k (off left k)).2)
       by_cases QH:((decide (mO s<0)) || (decide (((c a k+(fq c tl n m k (off left k)).1:Nat):Int)<mO s)))=true
       ·rw [ak QH] at this⊢
        exact(fI Prod.fst (e9 this))
       ·rw [ax QH] at this⊢
        exact(fI Prod.fst (e9 this))
      by_cases QH:((decide (i<0)) || (decide (((c a k+(fq c tl n m k (off left k)).1:Nat):Int)<i)))=true
      ·rw [ak QH] at HA⊢
       exact⟨_,rfl,⟨k+1,by omega,rfl,k2,HA⟩,by simp only;omega⟩
      ·rw [ax QH] at HA⊢
       exact⟨_,rfl,⟨k+1,by omega,rfl,k2,HA⟩,by simp only;omega⟩)
    (K,-1,0) ⟨0,by omega,rfl,hK,rfl⟩
   simp only at hK2 QT
   subst QT
   obtain⟨r2,p1,p2,p3⟩:=hK2.row a ha
   obtain⟨v2',u1,_⟩:=p3 left hl
   simp only [hlp,ar,FL.u6,p1,u1,kd]
   exact⟨_,rfl,ab2 hK2 ha hl p1⟩
def ZI(n:Nat):List (List Int):=List.replicate n (List.replicate (2^n) (-1))
theorem ab4:Gw c tl n (ZI n):=by
 refine⟨by simp [ZI],fun a ha=>⟨List.replicate (2^n) (-1),?_,by simp,fun l hl=>⟨-1,?_, .inl rfl⟩⟩⟩
 ·rw [de (by simp [ZI];exact ha)];simp [ZI]
 ·rw [de (by simp;exact hl)];simp
theorem Vo(hT:Gu T n c):loop (Fq.s6 T) ([],0)=some (ZI n):=by
 have h8:=hT.n8
 have hp8:2^n≤2^8:=rA (by omega) h8
 have e8:(2^8:Nat)=256:=rfl
 have hsh:fo .i64 1 (u64 (T.length:Int))=((2^n:Nat):Int):=by rw [hT.len];exact HD (by omega)
 have hpp:(0:Int)≤((2^n:Nat):Int)∧((2^n:Nat):Int)≤17592186044416:=by
  generalize 2^n=q at*
  omega
 have ag0:loop (Fq.Aw T) (List.replicate (2^n) 0,0)=some (List.replicate (2^n) (-1)):=by
  have:=gB (f:=Fq.Aw T) (2^n) (fun k=>(List.replicate k (-1:Int)++List.replicate (2^n-k) 0,(k:Int))) (List.replicate (2^n) (-1)) (fun k hk=>by
   have hx:ix (List.replicate k (-1:Int)++List.replicate (2^n-k) 0) (k:Int)=some 0:=by
    rw [de (by simp;omega)];simp
   simp only [Fq.Aw,hsh,hx,ar,kd]
   rw [ak dT,bc (by omega) (by omega),show 2^n-k=(2^n-(k+1))+1 by omega,List.replicate_succ (n:=2^n-(k+1))]
   rw [wm _ _ (by simp)]
   simp only [List.length_replicate,Nat.sub_self,List.set_cons_zero,List.replicate_succ' (n:=k),iX,nD,gm]
   rfl) (by
   simp only [Fq.Aw,hsh,kd]
   rw [ax (by simp),Nat.sub_self]
   simp)
  simpa using this
 have:=gB (f:=Fq.s6 T) n (fun k=>(List.replicate k (List.replicate (2^n) (-1)),(k:Int))) (ZI n) (fun k hk=>by
  simp only [Fq.s6,hsh,kd,ag0,ar,Fq.DT]
  rw [ak (by rw [bC,hT.len];omega),ak (by rw [hT.len,u64_in (by omega) (by omega)];omega),ak hpp,ak (by simp;omega),bc (by omega) (by omega)]
  rw [List.replicate_succ']
  rfl) (by
  simp only [Fq.s6]
  rw [ax (by rw [bC,hT.len];omega)]
  rfl)
 simpa using this
theorem ab5(hT:Gu T n c)(v8:tl=fun i=>if nQ=true then c i 0 else 0):∀(m a left:Nat) (K:List (List Int)) (o:List Nat),q9 n left=m→a<n→left<2^n→o.length+m≤8→Gw c tl n K→
  ∃K',loop (Fq.I4 T nQ) (K,lH o,(left:Int),(a:Int),((mw c tl n a left:Nat):Int))=some (K',lH (o++(fq c tl n m a left).2)):=by
 have h8:=hT.n8
 have h1':=hT.n1
 have IT:∀i,tl i≤1000000:=by intro i;rw [v8];simp only;split;exact hT.bd i 0;omega
 have hp8:2^n≤2^8:=rA (by omega) h8
 have e8:(2^8:Nat)=256:=rfl
 have e61:(2^61:Nat)=2305843009213693952:=rfl
 intro m
 induction m with
 | zero=>
  intro a left K o hc ha hl ho hK
  obtain rfl:=(xY hl).1 hc
  refine⟨K,?_⟩
  rw [bH]
  simp only [Fq.I4]
  rw [ax (by simp)]
  simp [fq]
 | succ m ih=>
  intro a left K o hc ha hl ho hK
  have Yu:left≠0:=fun e=>by rw [(xY hl).2 e] at hc;cases hc
  obtain⟨ks,VZ,V0,e,e2,b1,b2⟩:=qn (c:=c) (tl:=tl) (a:=a) hc
  have hks:ks∈rem n left:=by rw [e];simp
  obtain⟨yP,E5⟩:=rM.1 hks
  have hrv:mw c tl n a left=(fq c tl n (m+1) a left).1:=by unfold mw;rw [hc]
  have pn:∀k,k<n→left.testBit k=true→q9 n (off left k)=m:=fun k hk hb=>by have:=mg hk hb;omega
  have hrk:∀k,k<n→left.testBit k=true→mw c tl n k (off left k)=(fq c tl n m k (off left k)).1:=fun k hk hb=>by unfold mw;rw [pn k hk hb]
  have XF:∀j,j<ks→left.testBit j=true→(fq c tl n (m+1) a left).1<c a j+(fq c tl n m j (off left j)).1:=by
   intro j hj hb
   have hjm:j∈rem n left:=rM.2 ⟨by omega,hb⟩
   rw [e] at hjm
   rcases dw.1 hjm with h | h
   ·exact b1 j h
   ·have hs:=Nz n left
    rw [e] at hs
    have LA:=(iW.1 hs).2.1
    rcases eK.1 h with h | h
    ·omega
    ·have:=(lK.1 LA).1 j h;omega
  obtain⟨⟨K2,o2,l2,a2,r2⟩,hlp,hK2,hq⟩:=gA (f:=Fq.DR T nQ (lH o) (left:Int) (a:Int) ((mw c tl n a left:Nat):Int))
   (fun s=>∃k:Nat,k≤ks∧s.2=(k:Int)∧Gw c tl n s.1) (fun s=>n-s.2.toNat)
   (fun t=>Gw c tl n t.1∧t.2=(lH (o++ [ks]),((off left ks:Nat):Int),(ks:Int),((mw c tl n ks (off left ks):Nat):Int))) (by
   rintro⟨xt,_⟩ ⟨k,hk,rfl,ZG⟩
   simp only at ZG
   have QI:k<n:=by omega
   have hw:au ((k:Int)+1)=((k+1:Nat):Int):=by rw [bc (by omega) (by omega)];omega
   have hu:0≤u64 (k:Int):=by rw [u64_in (by omega) (by omega)];omega
   simp only [Fq.DR,ZE (show k≤61 by omega),HD (show k≤61 by omega),hw]
   rw [ak (by rw [bC,hT.len];omega),ak hu]
   cases hb:left.testBit k with
   | false=>
    left
    have jR:k≠ks:=fun e=>by subst e;rw [E5] at hb;cases hb
    exact⟨_,rfl,⟨k+1,by omega,rfl,ZG⟩,by simp only;omega⟩
   | true=>
    obtain⟨q,q1,q2⟩:=hT.at_ a k ha QI
    have ab3:=IY hl QI
    have hcm:m+1≤8:=by
     have:=vF (fun i=>left.testBit i) n
     have VN:cR (fun i=>left.testBit i) n=m+1:=hc
     omega
    obtain⟨K',k1,k2⟩:=O_ hT v8 m 16 k (off left k) xt (pn k QI hb) (by omega) QI ab3 ZG
    have k1:FL T (k:Int) ((off left k:Nat):Int) nQ xt=_:=k1
    have ZH:yQ .i64 (left:Int) ((2^k:Nat):Int)=((off left k:Nat):Int):=Vm (by omega) (rW (by omega) (by omega))
    have zM:=Lq (c:=c) (tl:=tl) hT.bd IT m k (off left k) (pn k QI hb)
    have I7:1000000*(m+1)≤1000000*9:=Nat.mul_le_mul_left _ (by omega)
    have Q2:=hT.bd a k
    have Ce:au (((c a k:Nat):Int)+((mw c tl n k (off left k):Nat):Int))=((c a k+(fq c tl n m k (off left k)).1:Nat):Int):=by rw [hrk k QI hb,bc (by omega) (by omega)];omega
    simp only [jv,cM,bU,q1,q2,ZH,k1,ar,Ce]
    rw [ak hu]
    by_cases hke:k=ks
    ·right
     subst hke
     have heq:((c a k+(fq c tl n m k (off left k)).1:Nat):Int)=((mw c tl n a left:Nat):Int):=by rw [hrv,e2];rfl
     rw [ak (by rw [heq];simp),ak (by rw [je];simp;omega),ak hu]
     refine⟨_,rfl,k2,?_⟩
     rw [IZ];rfl
    ·left
     have gy:=XF k (by omega) hb
     rw [ax (by rw [hrv];simp;omega)]
     exact⟨_,rfl,⟨k+1,by omega,rfl,k2⟩,by simp only;omega⟩)
   (K,0) ⟨0,by omega,rfl,hK⟩
  simp only [dS] at hq hK2
  obtain⟨rfl,rfl,rfl,rfl⟩:=hq
  obtain⟨K3,h3⟩:=ih ks (off left ks) K2 (o++ [ks]) (pn ks yP E5) yP (IY hl yP) (by simp;omega) hK2
  refine⟨K3,?_⟩
  rw [bH]
  simp only [Fq.I4,hlp,ar,Fq.y9]
  rw [ak (by simp;omega)]
  simp only
  rw [h3,e2]
  simp [shift]
theorem NC(hT:Gu T n c)(v8:tl=fun i=>if nQ=true then c i 0 else 0){a:Nat}(ha:a<n):
  Fq T (a:Int) nQ=some (lH (a::(fq c tl n (n-1) a (off (2^n-1) a)).2),(((fq c tl n (n-1) a (off (2^n-1) a)).1:Nat):Int)):=by
 have h8:=hT.n8
 have hp8:2^n≤2^8:=rA (by omega) h8
 have e8:(2^8:Nat)=256:=rfl
 have e61:(2^61:Nat)=2305843009213693952:=rfl
 have hp:1≤2^n:=Nat.pos_of_ne_zero (by simp)
 have hsh:fo .i64 1 (u64 (T.length:Int))=((2^n:Nat):Int):=by rw [hT.len];exact HD (by omega)
 have pn:au (((2^n:Nat):Int)-1)=((2^n-1:Nat):Int):=by
  generalize 2^n=q at*
  rw [bc (by omega) (by omega)];omega
 have ZJ:∀i,i<n→(2^n-1).testBit i=true:=fun i hi=>by rw [Nat.testBit_two_pow_sub_one];simp [hi]
 have gy:2^n-1<2^n:=by omega
 have hcf:q9 n (2^n-1)=n:=by
  unfold q9
  have:∀k,k≤n→cR (fun i=>(2^n-1).testBit i) k=k:=by
   intro k
   induction k with
   | zero=>intro _;rfl
   | succ k ih=>intro hk;show cR _ k+_=_;rw [ih (by omega),ak (ZJ k (by omega))]
  exact this n (bt _)
 have HE:q9 n (off (2^n-1) a)=n-1:=by have:=mg ha (ZJ a ha);omega
 have ZH:yQ .i64 ((2^n-1:Nat):Int) ((2^a:Nat):Int)=((off (2^n-1) a:Nat):Int):=Vm (by omega) (rW (by omega) (by omega))
 have hol:=IY gy ha
 obtain⟨K1,r1,k1⟩:=O_ hT v8 (n-1) 16 a (off (2^n-1) a) (ZI n) HE (by omega) ha hol ab4
 have r1:FL T (a:Int) ((off (2^n-1) a:Nat):Int) nQ (ZI n)=_:=r1
 obtain⟨K2,w2⟩:=ab5 hT v8 (n-1) a (off (2^n-1) a) K1 [a] HE ha hol (by simp;omega) k1
 have hr:mw c tl n a (off (2^n-1) a)=(fq c tl n (n-1) a (off (2^n-1) a)).1:=by unfold mw;rw [HE]
 have w2:loop (Fq.I4 T nQ) (K1,([(a:Int)]:List Int),((off (2^n-1) a:Nat):Int),(a:Int),((mw c tl n a (off (2^n-1) a):Nat):Int))=_:=w2
 simp only [Fq,Vo hT,ar,Fq.iQ,hsh,pn,HD (show a≤61 by omega),ZH,r1,w2,Fq.ki]
 rw [ak (by rw [hT.len,u64_in (by omega) (by omega)];omega),ak (by rw [u64_in (by omega) (by omega)];omega),hr]
 rfl
end
end Go.Proofs.YtplklknkkaeniaaGreat
namespace Go.Proofs.YtplklknkkaeniaaGreat
open Eng
set_option linter.unusedVariables false
set_option linter.unusedSimpArgs false
def m_(ds:List (av 96 Int))(i k:Nat):Nat:=match ds[i]?,ds[k]? with | some a,some b=>pD a b | _,_=>0
theorem I2{ds:List (av 96 Int)}(h1:1≤ds.length)(h8:ds.length≤8):Gu (xq ds) ds.length (m_ ds):=by
 refine⟨by simp [xq],fun i k hi hk=> ?_,fun i k=> ?_,h1,h8⟩
 ·obtain⟨r,r1,r2⟩:=Yc hi hk
  refine⟨r,r1,?_⟩
  rw [r2];simp [m_,hi,hk]
 ·unfold m_
  split
  ·have:=UW;rename_i a b _ _;have:=this a b;omega
  ·omega
def qo(f:ae)(ds:List (av 96 Int))(first:Int):Int:=if sU f ds≠0 then sU f ds else if¬(-1≤first∧first≤(ds.length:Int)-1) then 2 else if ds.length=0 then 6 else 0
theorem QJ{f:ae}{ds:List (av 96 Int)}{first:Int}(h:qo f ds first=0):1≤ds.length∧ds.length≤8∧-1≤first∧first<ds.length:=by
 unfold qo sU at h
 by_cases h1:fO f=true∧ds.all (gR f)=true
 ·rw [ak h1] at h
  by_cases h8:ds.length≤8
  ·rw [ak h8] at h
   simp only [ne_eq,oD,bU] at h
   by_cases hr:-1≤first∧first≤(ds.length:Int)-1
   ·rw [ax (by simpa using hr)] at h
    by_cases h0:ds.length=0
    ·rw [ak h0] at h;cases h
    ·omega
   ·rw [ak hr] at h;cases h
  ·rw [ax h8] at h;simp at h
 ·rw [ax h1] at h;simp at h
theorem Gx(f:ae)(hi:vE f)(hl:f.aa.length≤9223372036854775807)(ds:List (av 96 Int))(LG:ds.length≤4294967296)(hd:∀d∈ds,gM d)(first:Int):FbP f ds first=some (qo f ds first):=by
 have w:au ((ds.length:Int)-1)=(ds.length:Int)-1:=bc (by omega) (by omega)
 simp only [FbP,xo f hi hl ds (by omega) hd,Fb3,FB,ar,w,FI]
 unfold qo
 by_cases hr:-1≤first∧first≤(ds.length:Int)-1
 ·rw [show (decide ((-1:Int)≤first)&&decide (first≤(ds.length:Int)-1))=true by simp;omega]
  simp only [cp,ar]
  by_cases h:sU f ds=0
  ·by_cases h0:ds.length=0
   ·rw [ax dF];simp [q8,h,h0,hr];omega
   ·rw [ak dT];simp [q8,h,h0,hr]
  ·by_cases h0:ds.length=0
   ·rw [ax dF];simp [q8,h]
   ·rw [ak dT];simp [q8,h]
 ·rw [show (decide ((-1:Int)≤first)&&decide (first≤(ds.length:Int)-1))=false by rw [rD];simp;omega]
  simp only [cM,bU,ar]
  by_cases h:sU f ds=0
  ·by_cases h0:ds.length=0
   ·rw [ax dF];simp [q8,h,hr]
   ·rw [ak dT];simp [q8,h,hr]
  ·by_cases h0:ds.length=0
   ·rw [ax dF];simp [q8,h]
   ·rw [ak dT];simp [q8,h]
theorem I3(f:ae)(hi:vE f)(hl:f.aa.length≤9223372036854775807)(ds:List (av 96 Int))(LG:ds.length≤4294967296)(hd:∀d∈ds,gM d)(first:Int):CG f ds first=some (qo f ds first):=by
 have w:au ((ds.length:Int)-1)=(ds.length:Int)-1:=bc (by omega) (by omega)
 simp only [CG,B8 f hi hl ds (by omega) hd,FD,ar,w]
 unfold qo
 by_cases h:sU f ds=0
 ·by_cases hr:-1≤first∧first≤(ds.length:Int)-1
  ·rw [show (decide (first≥(-1:Int))&&decide (first≤(ds.length:Int)-1))=true by simp;omega]
   simp only [h,r7,cp,jv,cM,bU,CG.nS,CG.ue,mS,ne_eq,oD,hr,and_self]
   by_cases h0:ds.length=0
   ·simp [h0]
   ·rw [ax (by simp;intro h2;exact h0 (by rw [h2];rfl)),ax h0]
  ·rw [show (decide (first≥(-1:Int))&&decide (first≤(ds.length:Int)-1))=false by rw [rD];simp;omega]
   simp [h,CG.nS,CG.ue,hr]
 ·simp [h,CG.nS,CG.ue]
end Go.Proofs.YtplklknkkaeniaaGreat
namespace Go.Proofs.YtplklknkkaeniaaGreat
open Eng
set_option linter.unusedVariables false
set_option linter.unusedSimpArgs false
def ru(n:Nat):Nat:=2^n-1
theorem o9{n i:Nat}(hi:i<n):(ru n).testBit i=true:=by unfold ru;rw [Nat.testBit_two_pow_sub_one];simp [hi]
theorem Lv(n:Nat):rem n (ru n)=List.range n:=by
 unfold rem
 rw [List.filter_eq_self]
 intro k hk
 exact o9 (kG.1 hk)
theorem BD(n:Nat):q9 n (ru n)=n:=by rw [←CS,Lv,rC]
def gD(c:Nat→Nat→Nat)(tl:Nat→Nat)(n a:Nat):Cd:=shift 0 [a] (fq c tl n (n-1) a (off (ru n) a))
section
variable {T:List (List Int)} {n:Nat} {c:Nat→Nat→Nat} {tl:Nat→Nat}
theorem HF(c:Nat→Nat→Nat)(tl:Nat→Nat){a:Nat}(ha:a<n):(gD c tl n a).2.length=n:=by
 have hc:q9 n (off (ru n) a)=n-1:=by have:=mg ha (o9 ha);rw [BD] at this;omega
 have:=(NA (c:=c) (tl:=tl) (n-1) a (off (ru n) a) hc).1
 simp only [gD,shift,cJ,cf,bN,this]
 omega
theorem HG(hT:Gu T n c){leaf:List Int→List (List Int)→Int→List Int→Option (Int×(List Int))}(Lu:I1 leaf T n c tl){fu:Nat}(hf:8<fu){a:Nat}(ha:a<n)(s:Option Cd):
  o8 leaf fu (n:Int) (lH [a]) T (mO s) (lQ s)=some (mO (zG s (gD c tl n a)),lQ (zG s (gD c tl n a))):=by
 have h8:=hT.n8
 have hc:q9 n (off (ru n) a)=n-1:=by have:=mg ha (o9 ha);rw [BD] at this;omega
 exact ab1 h8 Lu (n-1) fu [] a (off (ru n) a) s (by simp;omega) (by omega) (by simpa using ha) (by
  intro i hi
  rw [qE,o9 hi]
  by_cases e:a=i
  ·subst e;simp
  ·have e':¬i=a:=fun h=>e h.symm
   simp [e,e']) hc
theorem Vp(hT:Gu T n c){leaf:List Int→List (List Int)→Int→List Int→Option (Int×(List Int))}(Lu:I1 leaf T n c tl):
  o8 leaf 16 (n:Int) [] T (-1) []=some (mO (uT none ((List.range n).map (gD c tl n))),lQ (uT none ((List.range n).map (gD c tl n)))):=by
 have h8:=hT.n8;have h1:=hT.n1
 have:=Lr (leaf:=leaf) (T:=T) (fu:=15) (o:= []) (left:=ru n) h8 (by simp) (fun i hi=>by rw [o9 hi];simp) (gD c tl n) (fun k s hk _=>HG hT Lu (by omega) hk s) none
 rw [Lv] at this
 have this:loop (o8.l (o8 leaf 15) (n:Int) [] T) ([],-1,0)=_:=this
 show o8.step leaf (o8 leaf 15) (n:Int) [] T (-1) []=_
 simp only [o8.step]
 rw [ax (by simp;omega),this]
 rfl
theorem BE(hT:Gu T n c){nQ:Bool}(v8:tl=fun i=>if nQ=true then c i 0 else 0){a:Nat}(ha:a<n):Fq T (a:Int) nQ=some (lQ (some (gD c tl n a)),mO (some (gD c tl n a))):=by
 rw [NC hT v8 ha]
 simp [mO,lQ,gD,shift,ru]
theorem Yi{x:Option Cd}{n:Nat}(h:∃ys:List Cd,ys≠ []∧(∀y∈ys,y.2.length=n)∧x=uT none ys):(lQ x).length≤n:=by
 obtain⟨ys,h1,h2,rfl⟩:=h
 obtain⟨z,hz⟩:=xu h1
 obtain⟨us,vs,e,_⟩:=BB hz
 rw [hz]
 show (lH z.2).length≤n
 rw [je,h2 z (by rw [e];simp)]
 exact bt _
end
theorem xv(f:ae)(ds:List (av 96 Int))(first:Int)(hi:vE f)(hl:f.aa.length≤9223372036854775807)(LG:ds.length≤4294967296)(hd:∀d∈ds,gM d):
  ∃out sum code,WZ f ds first=some (out,sum,code)∧Ib f ds first=some (out,sum,code)∧out.length≤8∧
   (qo f ds first=code)∧(code=0→(out,sum)=(lQ (if first<0 then uT none ((List.range ds.length).map (gD (m_ ds) (fun _=>0) ds.length)) else some (gD (m_ ds) (fun _=>0) ds.length first.toNat)),mO (if first<0 then uT none ((List.range ds.length).map (gD (m_ ds) (fun _=>0) ds.length)) else some (gD (m_ ds) (fun _=>0) ds.length first.toNat)))):=by
 simp only [WZ,Ib,Gx f hi hl ds LG hd,I3 f hi hl ds LG hd,ar]
 by_cases hc:qo f ds first=0
 ·obtain⟨h1,h8,hf0,hf1⟩:=QJ hc
  have hT:=I2 h1 h8
  have v8:(fun _:Nat=>0)=fun i:Nat=>if false=true then m_ ds i 0 else 0:=by funext i;simp
  have ajp:∀o,Fj (ds.length:Int) o (xq ds) (-1) []=o8 QW 16 (ds.length:Int) o (xq ds) (-1) []:=fun o=>by
   show Fj.fW 16 _ _ _ _ _=_
   rw [Yg]
  rw [ax (by simp [hc]),ax (by simp [hc]),EQ ds LG hd,B9 ds LG hd]
  simp only [ar,ajp]
  by_cases hf:first<0
  ·have hI:=Vp hT (ZF hT)
   have hlen:(lQ (uT none ((List.range ds.length).map (gD (m_ ds) (fun _=>0) ds.length)))).length≤ds.length:=Yi ⟨_,by
    intro e
    have:=fI List.length e
    rw [kF,rC,bN] at this
    omega,by
    intro y hy
    obtain⟨k,hk,rfl⟩:=dM.1 hy
    exact HF _ _ (kG.1 hk),rfl⟩
   refine⟨_,_,0,?_,?_,k7 hlen h8,hc,fun _=>by rw [ak hf]⟩
   ·simp only [Fcd]
    rw [ak (by simpa using hf)]
    simp only [ar,hI]
   ·rw [ax (by simpa using hf)]
    have h0:=BE hT v8 (a:=0) (by omega)
    have h0:Fq (xq ds) 0 false=_:=h0
    have:=gB (f:=Ib.kq ds (xq ds)) (ds.length-1) (fun k=>(lQ (uT none ((List.range (k+1)).map (gD (m_ ds) (fun _=>0) ds.length))),mO (uT none ((List.range (k+1)).map (gD (m_ ds) (fun _=>0) ds.length))),((k+1:Nat):Int)))
     (lQ (uT none ((List.range ds.length).map (gD (m_ ds) (fun _=>0) ds.length))),mO (uT none ((List.range ds.length).map (gD (m_ ds) (fun _=>0) ds.length)))) (fun k hk=>by
     have ZC:k+1<ds.length:=by omega
     obtain⟨y,hy⟩:=xu (xs:=(List.range (k+1)).map (gD (m_ ds) (fun _=>0) ds.length)) (by simp)
     simp only [Ib.kq,BE hT v8 ZC,ar]
     rw [ak dT,wI (((k+1:Nat):Int)+1),oE (n:=k+1),mu,IX,hy]
     obtain⟨u,v⟩:=y
     show _=some (Sum.inl (lQ (zG (some (u,v)) (gD (m_ ds) (fun _=>0) ds.length (k+1))),mO (zG (some (u,v)) (gD (m_ ds) (fun _=>0) ds.length (k+1))),((k+1+1:Nat):Int)))
     by_cases gy:(gD (m_ ds) (fun _=>0) ds.length (k+1)).1<u
     ·rw [ak (by rw [bC];exact Int.ofNat_lt.2 gy)]
      simp only [zG];rw [ak gy];rfl
     ·rw [ax (by rw [bC];exact fun e=>gy (Int.ofNat_lt.1 e))]
      simp only [zG];rw [ax gy];rfl) (by
     simp only [Ib.kq]
     rw [ax dF,show ds.length-1+1=ds.length by omega])
    have hlp:loop (Ib.kq ds (xq ds)) (lQ (some (gD (m_ ds) (fun _=>0) ds.length 0)),mO (some (gD (m_ ds) (fun _=>0) ds.length 0)),1)=_:=this
    simp only [h0,ar,hlp,Ib.qw]
  ·have hft:((first.toNat:Nat):Int)=first:=by omega
   have ha:first.toNat<ds.length:=by omega
   have hI:=HG hT (ZF hT) (fu:=16) (by omega) ha none
   have hS:=BE hT v8 ha
   have e1:lH [first.toNat]= [first]:=by simp [lH];omega
   rw [e1] at hI
   rw [hft] at hS
   have hI:o8 QW 16 (ds.length:Int) [first] (xq ds) (-1) []=_:=hI
   refine⟨lQ (some (gD (m_ ds) (fun _=>0) ds.length first.toNat)),mO (some (gD (m_ ds) (fun _=>0) ds.length first.toNat)),0,?_,?_,?_,hc,fun _=>by rw [ax hf]⟩
   ·simp only [Fcd]
    rw [ax (by simpa using hf)]
    simp only [ar,hI]
    rfl
   ·rw [ak (by simpa using hf)]
    simp only [hS,ar]
   ·show (lH _).length≤8
    rw [je,HF _ _ ha];exact h8
 ·refine⟨[],0,qo f ds first,?_,?_,by simp,rfl,fun h=>absurd h hc⟩
  ·rw [ak (by simp [hc])]
  ·rw [ak (by simp [hc])]
end Go.Proofs.YtplklknkkaeniaaGreat
namespace Go.Proofs.YtplklknkkaeniaaGreat
open Eng
set_option linter.unusedVariables false
set_option linter.unusedSimpArgs false
def yK(c:Nat→Nat→Nat)(tl:Nat→Nat):Nat→List Nat→Nat
 | a,[]=>tl a
 | a,k::r=>c a k+yK c tl k r
section
variable {c:Nat→Nat→Nat} {tl:Nat→Nat} {n:Nat}
theorem zI(c:Nat→Nat→Nat):∀(r:List Nat) (a:Nat),yK c (fun _=>0) a r=hU c (a::r):=by
 intro r
 induction r with
 | nil=>intro a;rfl
 | cons k r ih=>intro a;simp only [yK,hU,ih]
theorem QK:∀(m a left:Nat),q9 n left=m→(fq c tl n m a left).1=yK c tl a (fq c tl n m a left).2:=by
 intro m
 induction m with
 | zero=>intro a left _;rfl
 | succ m ih=>
  intro a left h
  obtain⟨k,VZ,V0,e,e2,_,_⟩:=qn (c:=c) (tl:=tl) (a:=a) h
  have hk:k∈rem n left:=by rw [e];simp
  obtain⟨yP,E5⟩:=rM.1 hk
  have:=ih k (off left k) (by have:=mg yP E5;omega)
  rw [e2]
  show c a k+_=yK c tl a ([k]++_)
  simp only [nD,gm,yK]
  omega
theorem ND:∀(m a left:Nat),q9 n left=m→(fq c tl n m a left).2.Nodup∧∀x,x∈(fq c tl n m a left).2↔x<n∧left.testBit x=true:=by
 intro m
 induction m with
 | zero=>
  intro a left h
  refine⟨List.nodup_nil,fun x=> ?_⟩
  have hr:rem n left= []:=kb (by rw [CS,h])
  rw [←rM,hr]
  exact Iff.rfl
 | succ m ih=>
  intro a left h
  obtain⟨k,VZ,V0,e,e2,_,_⟩:=qn (c:=c) (tl:=tl) (a:=a) h
  have hk:k∈rem n left:=by rw [e];simp
  obtain⟨yP,E5⟩:=rM.1 hk
  obtain⟨h1,h2⟩:=ih k (off left k) (by have:=mg yP E5;omega)
  have e3:(fq c tl n (m+1) a left).2=k::(fq c tl n m k (off left k)).2:=by rw [e2];simp [shift]
  rw [e3]
  refine⟨lL.2 ⟨fun hm=> ?_,h1⟩,fun x=> ?_⟩
  ·have:=((h2 k).1 hm).2
   rw [qE,E5] at this
   simp at this
  ·rw [eK,h2,qE]
   by_cases ex:k=x
   ·subst ex;simp [yP,E5]
   ·have ex':¬x=k:=fun h=>ex h.symm
    simp [ex,ex']
theorem Yj:∀(m a left:Nat) (r:List Nat),q9 n left=m→r.length=m→r.Nodup→(∀x∈r,x<n∧left.testBit x=true)→(fq c tl n m a left).1≤yK c tl a r:=by
 intro m
 induction m with
 | zero=>
  intro a left r _ hr _ _
  obtain rfl:=kb hr
  exact bt _
 | succ m ih=>
  intro a left r h hr hd hx
  cases r with
  | nil=>simp at hr
  | cons k r=>
   obtain⟨yP,E5⟩:=hx k (by simp)
   obtain⟨ks,VZ,V0,e,e2,b1,b2⟩:=qn (c:=c) (tl:=tl) (a:=a) h
   have hd2:=lL.1 hd
   have h1:=ih k (off left k) r (by have:=mg yP E5;omega) (by simpa using hr) hd2.2 (fun x ZH=>by
    obtain⟨g1,g2⟩:=hx x (by simp [ZH])
    refine⟨g1,?_⟩
    have:¬k=x:=fun e=>by subst e;exact hd2.1 ZH
    rw [qE,g2];simp [this])
   have h2:(fq c tl n (m+1) a left).1≤c a k+(fq c tl n m k (off left k)).1:=by
    have hm:k∈rem n left:=rM.2 ⟨yP,E5⟩
    rw [e] at hm
    rcases dw.1 hm with hm | hm
    ·exact Nat.le_of_lt (b1 k hm)
    ·rcases eK.1 hm with rfl | hm
     ·rw [e2];exact bt _
     ·exact b2 k hm
   simp only [yK]
   omega
def HH(n:Nat)(o:List Nat):Prop:=o.Nodup∧∀x,x∈o↔x<n
theorem HH.perm{o:List Nat}(h:HH n o):o.Perm (List.range n):=(List.perm_ext_iff_of_nodup h.1 List.nodup_range).2 (fun x=>by rw [h.2,kG])
theorem HH.len{o:List Nat}(h:HH n o):o.length=n:=by rw [h.perm.length_eq,rC]
theorem HH.O'{o:List Nat}(h:o.Perm (List.range n)):HH n o:=⟨h.nodup_iff.2 List.nodup_range,fun x=>by rw [h.mem_iff,kG]⟩
theorem ET{a:Nat}(ha:a<n):q9 n (off (ru n) a)=n-1:=by have:=mg ha (o9 ha);rw [BD] at this;omega
theorem HI(c:Nat→Nat→Nat)(tl:Nat→Nat){a:Nat}(ha:a<n):∃r,(gD c tl n a).2=a::r∧HH n (a::r)∧(gD c tl n a).1=yK c tl a r:=by
 obtain⟨h1,h2⟩:=ND (c:=c) (tl:=tl) (n-1) a (off (ru n) a) (ET ha)
 refine⟨(fq c tl n (n-1) a (off (ru n) a)).2,by simp [gD,shift],⟨lL.2 ⟨fun hm=> ?_,h1⟩,fun x=> ?_⟩,?_⟩
 ·have:=((h2 a).1 hm).2
  rw [qE,o9 ha] at this
  simp at this
 ·rw [eK,h2,qE]
  by_cases ex:a=x
  ·subst ex;simp [ha]
  ·have ex':¬x=a:=fun h=>ex h.symm
   by_cases hx:x<n
   ·rw [o9 hx];simp [ex,ex',hx]
   ·simp [ex',hx]
 ·rw [←QK (n-1) a (off (ru n) a) (ET ha)]
  simp [gD,shift]
theorem EU(c:Nat→Nat→Nat)(tl:Nat→Nat){a:Nat}{r:List Nat}(h:HH n (a::r)):(gD c tl n a).1≤yK c tl a r:=by
 have ha:a<n:=(h.2 a).1 (by simp)
 have hd:=lL.1 h.1
 have hl:=h.len
 have:=Yj (c:=c) (tl:=tl) (n-1) a (off (ru n) a) r (ET ha) (by simp at hl;omega) hd.2 (fun x hx=>by
  have hxn:x<n:=(h.2 x).1 (by simp [hx])
  have:¬a=x:=fun e=>by subst e;exact hd.1 hx
  exact⟨hxn,by rw [qE,o9 hxn];simp [this]⟩)
 simpa [gD,shift] using this
theorem Vq(c:Nat→Nat→Nat)(hn:1≤n):∃x,uT none ((List.range n).map (gD c (fun _=>0) n))=some x∧HH n x.2∧x.1=hU c x.2∧∀o,HH n o→x.1≤hU c o:=by
 have jR:(List.range n).map (gD c (fun _=>0) n)≠ []:=by
  intro e
  have:=fI List.length e
  rw [kF,rC,bN] at this
  omega
 obtain⟨x,hx⟩:=xu jR
 obtain⟨us,vs,e,h1,h2⟩:=BB hx
 have lO:x∈(List.range n).map (gD c (fun _=>0) n):=by rw [e];simp
 obtain⟨a,ha,rfl⟩:=dM.1 lO
 obtain⟨r,r1,r2,r3⟩:=HI c (fun _=>0) (kG.1 ha)
 refine⟨_,hx,by rw [r1];exact r2,by rw [r3,r1,zI],fun o ho=> ?_⟩
 cases o with
 | nil=>have:=ho.len;simp at this;omega
 | cons b s=>
  have h3:=EU c (fun _=>0) ho
  rw [zI] at h3
  have hb:b<n:=(ho.2 b).1 (by simp)
  have hbm:gD c (fun _=>0) n b∈(List.range n).map (gD c (fun _=>0) n):=dM.2 ⟨b,kG.2 hb,rfl⟩
  rw [e] at hbm
  have:(gD c (fun _=>0) n a).1≤(gD c (fun _=>0) n b).1:=by
   rcases dw.1 hbm with h | h
   ·exact Nat.le_of_lt (h1 _ h)
   ·rcases eK.1 h with h | h
    ·rw [h];exact bt _
    ·exact h2 _ h
  omega
end
end Go.Proofs.YtplklknkkaeniaaGreat
namespace Go.Proofs.YtplklknkkaeniaaGreat
open Eng
set_option linter.unusedVariables false
set_option linter.unusedSimpArgs false
theorem ajq{a b:Nat}(ha:a<2^61)(hb:b<2^61):wC .i64 (a:Int) (b:Int)=((a ||| b:Nat):Int):=by
 have hx:a ||| b<2^61:=ua ha hb
 have e61:(2^61:Nat)=2305843009213693952:=rfl
 unfold wC
 have e1:(BitVec.ofInt IntKind.i64.bits (a:Int)).toNat=a:=by
  show (BitVec.ofInt 64 (a:Int)).toNat=a
  rw [BitVec.toNat_ofInt];omega
 have e2:(BitVec.ofInt IntKind.i64.bits (b:Int)).toNat=b:=by
  show (BitVec.ofInt 64 (b:Int)).toNat=b
  rw [BitVec.toNat_ofInt];omega
 rw [BitVec.toNat_or,e1,e2]
 exact bc (by omega) (by omega)
theorem ab6{l k:Nat}(hk:k≤61):(Int.tmod (eC .i64 (l:Int) (u64 (k:Int))) 2==1)=l.testBit k:=by
 rw [u64_in (by omega) (by omega)]
 unfold eC
 have e:min ((k:Int).toNat) IntKind.i64.bits=k:=by
  have:IntKind.i64.bits=64:=rfl
  rw [this];simp;omega
 have e1:((2:Int)^k)=((2^k:Nat):Int):=by simp
 have e2:(l:Int).fdiv ((2^k:Nat):Int)=((l/2^k:Nat):Int):=by
  rw [Int.fdiv_eq_ediv_of_nonneg _ (Int.natCast_nonneg _)]
  exact(Int.natCast_ediv _ _).symm
 rw [e,e1,e2,xy (Int.natCast_nonneg _),zO]
 generalize l/2^k=q
 rw [iY,k8,bC]
 omega
theorem xw:∀(a b:List Int),a.Nodup→(∀x∈a,x∈b)→b.length≤a.length→a.Perm b
 | [],b,_,_,h=>by
  have:b= []:=uV.1 (by simpa using h)
  rw [this]
 | x::a,b,hn,hs,h=>by
  have hx:=hs x k6
  obtain⟨h1,h2⟩:=lL.1 hn
  have hp:=List.perm_cons_erase hx
  have:=xw a (b.erase x) h2 (fun y hy=>(List.mem_erase_of_ne (fun(e:y=x)=>h1 (e▸hy))).2 (hs y (lJ _ hy))) (by rw [List.length_erase_of_mem hx];simp at h;omega)
  exact(List.Perm.cons x this).trans hp.symm
theorem Yk{a b:List Nat}(h:(lH a).Perm (lH b)):a.Perm b:=by
 have:=h.map Int.toNat
 have e:∀l:List Nat,(lH l).map Int.toNat=l:=fun l=>by
  unfold lH
  rw [List.map_map]
  conv=>rhs;rw [←List.map_id l]
  exact List.map_congr_left fun k _=>by simp
 rwa [e,e] at this
theorem Vr{xs:List Int}{n:Nat}(h:xs.Perm (lH (List.range n))):∃o,xs=lH o∧HH n o:=by
 have e:xs=lH (xs.map Int.toNat):=by
  unfold lH
  rw [List.map_map]
  conv=>lhs;rw [←List.map_id xs]
  refine List.map_congr_left fun x hx=> ?_
  have:=h.mem_iff.1 hx
  unfold lH at this
  obtain⟨k,_,rfl⟩:=dM.1 this
  simp
 refine⟨xs.map Int.toNat,e,HH.O' (Yk ?_)⟩
 rw [←e]
 exact h
theorem HJ{o:List Nat}(h:o.Nodup):(lH o).Nodup:=by
 unfold lH
 exact List.Pairwise.map _ (fun a b zo e=>zo (by omega)) h
theorem EV(xs:List Int)(n:Nat)(hx:xs.length≤1000000)(hn:n≤1000):∃b:Bool,BW xs (n:Int)=some b∧(b=true↔∃o,xs=lH o∧HH n o):=by
 by_cases hl:xs.length=n
 ·have:=rP (f:=BW.e7 xs (n:Int)) n (fun k=>decide ((k:Int)∈xs)) (by omega) (fun k hk=>by
   simp only [BW.e7,BC xs (k:Int) (by omega),ar]
   rw [ak dT]
   by_cases c:(k:Int)∈xs<;>simp [c]) (by simp [BW.e7])
  refine⟨(List.range n).all fun k=>decide ((k:Int)∈xs),?_,?_⟩
  ·simp only [BW]
   rw [ax (by rw [bne_iff_ne];omega),this]
   cases (List.range n).all fun k=>decide ((k:Int)∈xs)<;>simp [BW.iQ]
  ·constructor
   ·intro h
    have h:=gP.1 h
    refine Vr (xw (lH (List.range n)) xs (HJ List.nodup_range) (fun x hx=> ?_) (by rw [je,rC];omega)).symm
    unfold lH at hx
    obtain⟨k,hk,rfl⟩:=dM.1 hx
    simpa using h k hk
   ·rintro⟨o,rfl,ho⟩
    refine gP.2 fun k hk=> ?_
    rw [bC]
    exact(I0 o k).2 ((ho.2 k).2 (kG.1 hk))
 ·refine⟨false,?_,fun e=>(by cases e),?_⟩
  ·simp only [BW]
   rw [ak (by rw [bne_iff_ne];omega)]
  ·rintro⟨o,rfl,ho⟩
   exact absurd (by rw [je,ho.len]) hl
theorem QL(xs:List Int)(n:Nat)(hx:xs.length≤1000000)(hn:n≤8):∃b:Bool,F0 xs (n:Int)=some b∧(b=true↔∃o,xs=lH o∧HH n o):=by
 have hw:au ((n:Int)-1)=(n:Int)-1:=bc (by omega) (by omega)
 have ku:∀(k:Nat) (hk:k<xs.length),(∃o,xs=lH o∧HH n o)→0≤xs[k]∧xs[k]<(n:Int):=by
  rintro k hk ⟨o,rfl,ho⟩
  obtain⟨j,hj,e⟩:=dM.1 (show (lH o)[k]∈o.map _ from bT hk)
  have:=(ho.2 j).1 hj
  have e:((j:Nat):Int)=(lH o)[k]:=e
  omega
 have hnd:(∃o,xs=lH o∧HH n o)→xs.Nodup:=by
  rintro⟨o,rfl,ho⟩
  exact HJ ho.1
 obtain⟨r,hr,hq⟩:=qV (f:=F0.VP xs (n:Int)) xs.length (by omega) (fun k s=>(∃S:Nat,s=(S:Int)∧S<2^61∧∀j,S.testBit j=true↔(j:Int)∈xs.take k)∧(xs.take k).Nodup∧∀x∈xs.take k,0≤x∧x<(n:Int)) (fun r=>(r= .inl false∧¬∃o,xs=lH o∧HH n o)∨(r= .inr ()∧xs.Nodup∧∀x∈xs,0≤x∧x<(n:Int)))
  (fun k s hk hI=>by
   obtain⟨⟨S,rfl,hS,hb⟩,hd,hr⟩:=hI
   simp only [F0.VP,de hk,FD,ar,hw]
   rw [ak (by simpa using hk)]
   by_cases c:0≤xs[k]∧xs[k]<(n:Int)
   ·have c1:(decide (xs[k]≥0)&&decide (xs[k]≤(n:Int)-1))=true:=by simp only [bY,bC];omega
    obtain⟨j,hj⟩:∃j:Nat,xs[k]=(j:Int):=⟨xs[k].toNat,by omega⟩
    have hu:(0:Int)≤u64 xs[k]:=by rw [u64_in c.1 (by omega)];exact c.1
    simp only [c1,jv,cM,bU,ak hu]
    rw [hj,ab6 (show j≤61 by omega)]
    cases EL:S.testBit j with
    | true=>
     right
     refine⟨.inl false,by simp [F0.qw], .inl ⟨rfl,fun h=> ?_⟩⟩
     have hm:=(hb j).1 EL
     obtain⟨i,hi,e⟩:=tX hm
     rw [gl] at hi
     rw [rB,←hj] at e
     exact ou.1 (hnd h) i k (by omega) hk (by omega) e
    | false=>
     left
     have hu2:(0:Int)≤u64 (j:Int):=by rw [←hj];exact hu
     have hp:(2:Nat)^j<2^61:=rW (by omega) (by omega)
     refine⟨((S ||| 2^j:Nat):Int),?_,⟨S ||| 2^j,rfl,ua hS hp,fun i=> ?_⟩,?_,fun x hx=> ?_⟩
     ·simp only [F0.qw,cM,bU,de hk,ar,hj]
      rw [ak hu2,HD (show j≤61 by omega),ajq hS hp]
     ·rw [Nat.testBit_or,te,ke,hb,bC,jt hk,dw,dG,hj]
      exact or_congr Iff.rfl ⟨fun e=>by omega,fun e=>by omega⟩
     ·rw [jt hk,oz]
      refine⟨hd,by simp,fun a ha b GK e=> ?_⟩
      rw [dG] at GK
      subst GK;subst e
      rw [hj] at ha
      have:=(hb j).2 ha
      rw [EL] at this
      cases this
     ·rw [jt hk,dw,dG] at hx
      rcases hx with hx | rfl
      ·exact hr x hx
      ·exact c
   ·right
    have c1:(decide (xs[k]≥0)&&decide (xs[k]≤(n:Int)-1))=false:=by
     rw [rD]
     simp only [ne_eq,bY,bC]
     omega
    refine⟨.inl false,by simp [c1,F0.qw], .inl ⟨rfl,fun h=>c (ku k hk h)⟩⟩)
  (fun s hI=>⟨.inr (),by simp [F0.VP], .inr ⟨rfl,by simpa using hI.2.1,by simpa using hI.2.2⟩⟩) 0 ⟨⟨0,rfl,by omega,fun j=>by simp⟩,by simp,by simp⟩
 rcases hq with⟨rfl,Kp⟩ | ⟨rfl,h1,h2⟩
 ·exact⟨false,by simp [F0,hr],fun e=>(by cases e),fun h=>absurd h Kp⟩
 ·refine⟨((xs.length:Int)==(n:Int)),by simp [F0,hr,F0.iQ],?_⟩
  rw [k8]
  constructor
  ·intro e
   refine Vr (xw xs (lH (List.range n)) h1 (fun x hx=> ?_) (by rw [je,rC];omega))
   obtain⟨a,b⟩:=h2 x hx
   obtain⟨j,rfl⟩:∃j:Nat,x=(j:Int):=⟨x.toNat,by omega⟩
   exact(I0 _ j).2 (kG.2 (by omega))
  ·rintro⟨o,rfl,ho⟩
   rw [je,ho.len]
theorem Vs(T:List (List Int))(o:List Int):PD T o=FQ T o:=rfl
theorem EW{f:ae}{ds:List (av 96 Int)}(hi:vE f)(hl:f.aa.length≤9223372036854775807)(LG:ds.length≤1000000)(hd:∀d∈ds,gM d)(xs:List Int)(hx:xs.length≤1000000):
  (∃c:Int,c≠0∧Om f ds xs=some (0,c)∧VQ f ds xs=some (0,c))∨(∃o,xs=lH o∧HH ds.length o∧sU f ds=0∧ds.length≤8∧Om f ds xs=some (((hU (m_ ds) o:Nat):Int),0)∧VQ f ds xs=some (((hU (m_ ds) o:Nat):Int),0)):=by
 have hc:=xo f hi hl ds (by omega) hd
 have ha:=B8 f hi hl ds (by omega) hd
 by_cases hv:sU f ds=0
 ·rw [hv] at hc ha
  have h8:ds.length≤8:=by
   unfold sU at hv
   split at hv
   ·split at hv
    ·assumption
    ·cases hv
   ·cases hv
  obtain⟨b,b1,b2⟩:=EV xs ds.length hx (by omega)
  obtain⟨b',b3,b4⟩:=QL xs ds.length hx h8
  have hb:b'=b:=by rw [iY,b2,b4]
  subst hb
  cases b' with
  | false=>
   left
   exact⟨4,by decide,by simp [Om,hc,b1,ii,iv],by simp [VQ,ha,b3]⟩
  | true=>
   right
   obtain⟨o,rfl,ho⟩:=b2.1 rfl
   have VF:FQ (xq ds) (lH o)=some ((hU (m_ ds) o:Nat):Int):=by
    by_cases h0:ds.length=0
    ·have:o= []:=uV.1 (by rw [ho.len,h0])
     subst this
     simp only [FQ]
     rw [bH]
     simp [FQ.fY,lH,FQ.fk,hU]
    ·exact vn (I2 (by omega) h8) o (fun x hx=>(ho.2 x).1 hx) (by rw [ho.len];omega)
   refine⟨o,rfl,ho,hv,h8,?_,?_⟩
   ·simp [Om,hc,b1,ii,iv,EQ ds (by omega) hd,VF]
   ·simp [VQ,ha,b3,B9 ds (by omega) hd,Vs,VF]
 ·left
  obtain⟨b,b1,_⟩:∃b:Bool,BW xs (ds.length:Int)=some b∧True:=by
   by_cases h9:ds.length≤1000
   ·obtain⟨b,b1,_⟩:=EV xs ds.length hx h9
    exact⟨b,b1,trivial⟩
   ·by_cases hl:xs.length=ds.length
    ·have:=rP (f:=BW.e7 xs (ds.length:Int)) ds.length (fun k=>decide ((k:Int)∈xs)) (by omega) (fun k hk=>by
      simp only [BW.e7,BC xs (k:Int) (by omega),ar]
      rw [ak dT]
      by_cases c:(k:Int)∈xs<;>simp [c]) (by simp [BW.e7])
     refine⟨(List.range ds.length).all fun k=>decide ((k:Int)∈xs),?_,trivial⟩
     simp only [BW]
     rw [ax (by rw [bne_iff_ne];omega),this]
     cases (List.range ds.length).all fun k=>decide ((k:Int)∈xs)<;>simp [BW.iQ]
    ·refine⟨false,?_,trivial⟩
     simp only [BW]
     rw [ak (by rw [bne_iff_ne];omega)]
  exact⟨sU f ds,hv,by simp [Om,hc,b1,ii,iv,hv],by simp [VQ,ha,hv]⟩
theorem yL{f:ae}{ds:List (av 96 Int)}(hi:vE f)(hl:f.aa.length≤9223372036854775807)(LG:ds.length≤1000000)(hd:∀d∈ds,gM d)(xs:List Int)(hx:xs.length≤1000000):cm f ds xs=some true:=by
 rcases EW hi hl LG hd xs hx with⟨c,c0,c1,c2⟩ | ⟨o,rfl,ho,hv,h8,c1,c2⟩
 ·simp [cm,c1,c2,cm.ki,c0]
 ·have hol:=ho.len
  simp only [cm,c1,c2,ar]
  rw [ax (by simp)]
  simp only [uc,Bool.and_false,cm.ki,cM,bU,je]
  by_cases h0:o.length=0
  ·rw [ak (by simp;exact uV.1 h0)]
  ·rw [ax (by rw [k8];omega)]
   obtain⟨out,sum,code,b1,b2,b3,b4,b5⟩:=xv f ds (-1) hi hl (by omega) hd
   have hc0:qo f ds (-1)=0:=by
    unfold qo
    rw [ax (by simp [hv]),ax (by simp;omega),ax (by omega)]
   rw [hc0] at b4
   subst b4
   have b5:=b5 rfl
   obtain⟨x,x1,x2,x3,x4⟩:=Vq (m_ ds) (show 1≤ds.length by omega)
   rw [ak (by omega),x1] at b5
   obtain⟨rfl,rfl⟩:=Prod.mk.inj b5
   have hoc:Om f ds (lQ (some x))=some (((hU (m_ ds) x.2:Nat):Int),0):=by
    rcases EW hi hl LG hd (lH x.2) (by rw [je,x2.len];omega) with⟨c,d0,d1,_⟩ | ⟨o',e,_,_,_,d1,_⟩
    ·obtain⟨b,p1,p2⟩:=EV (lH x.2) ds.length (by rw [je,x2.len];omega) (by omega)
     obtain rfl:=p2.2 ⟨x.2,rfl,x2⟩
     have hc:=xo f hi hl ds (by omega) hd
     rw [hv] at hc
     simp only [Om,hc,p1,ii,iv,ar,EQ ds (by omega) hd,cp] at d1
     rw [ax (by simp),vn (I2 (by omega) h8) x.2 (fun y hy=>(x2.2 y).1 hy) (by rw [x2.len];omega)] at d1
     simp only [ar,cx,dS] at d1
     exact absurd d1.2.symm d0
    ·have e2:o'=x.2:=by
      have:=fI (List.map Int.toNat) e
      have m:∀l:List Nat,(lH l).map Int.toNat=l:=fun l=>by
       unfold lH
       rw [List.map_map]
       conv=>rhs;rw [←List.map_id l]
       exact List.map_congr_left fun k _=>by simp
      rwa [m,m,eq_comm] at this
     rw [e2] at d1
     exact d1
   have hle:=x4 o ho
   obtain⟨a,r,rfl⟩:∃a r,o=a::r:=by
    cases o with
    | nil=>exact absurd rfl h0
    | cons a r=>exact⟨a,r,rfl⟩
   have ha:a<ds.length:=(ho.2 a).1 (by simp)
   obtain⟨akA,akB,ajU,g1,_,_,g4,g5⟩:=xv f ds (a:Int) hi hl (by omega) hd
   have hca:qo f ds (a:Int)=0:=by
    unfold qo
    rw [ax (by simp [hv]),ax (by simp;omega),ax (by omega)]
   rw [hca] at g4
   subst g4
   have g5:=g5 rfl
   rw [ax (by omega),kd] at g5
   obtain⟨rfl,rfl⟩:=Prod.mk.inj g5
   obtain⟨r',r1,r2,r3⟩:=HI (m_ ds) (fun _=>0) ha
   have r4:=EU (m_ ds) (fun _=>0) ho
   rw [zI] at r3 r4
   have r5:=x4 (a::r') r2
   have LR:ix (lH (a::r)) 0=some (a:Int):=rfl
   have hy0:ix (lQ (some (gD (m_ ds) (fun _=>0) ds.length a))) 0=some (a:Int):=by
    show ix (lH (gD (m_ ds) (fun _=>0) ds.length a).2) 0=_
    rw [r1];rfl
   have hyl:((lQ (some (gD (m_ ds) (fun _=>0) ds.length a))).length:Int)>0:=by
    show ((lH (gD (m_ ds) (fun _=>0) ds.length a).2).length:Int)>0
    rw [je,r1];simp only [cf];omega
   have ex:mO (some x)=((x.1:Nat):Int):=rfl
   have ey:mO (some (gD (m_ ds) (fun _=>0) ds.length a))=(((gD (m_ ds) (fun _=>0) ds.length a).1:Nat):Int):=rfl
   simp only [b1,b2,ar]
   rw [ax (by simp)]
   simp only [uc,Bool.and_false,cm.u6,cM,bU,hoc,ar,LR,g1,hy0,ex,ey,x3]
   rw [ax (by simp;omega),ak (by simp only [bY,r7,bC,true_and];exact hyl)]
   congr 1
   simp only [r7,mS,bY,bC]
   omega
end Go.Proofs.YtplklknkkaeniaaGreat
namespace Go.Proofs.YtplklknkkaeniaaGreat
open Eng
set_option linter.unusedVariables false
set_option linter.unusedSimpArgs false
theorem Vt{f:ae}(hf:kw f){d:av 96 Int}(hd:∀s t,fF d s t=true→(s:Int)<f.ag∧t<f.aa.length):(pw f d).length=nA d:=by
 rw [←Ld hf hd]
 unfold pw prL
 rw [iA,iA]
 refine o7 _ fun s _=> ?_
 unfold nr Hr
 rw [iA,iA]
 refine o7 _ fun k hk=> ?_
 unfold np UZ
 rw [bM hk]
 split<;>simp
theorem Yl{f:ae}{t:List ai}{l:List ab}(hi:vE f)(hn:∀n∈t,AG n)(hf:f.aa.length≤1048576)(ht:t.length≤1048576)(hl:l.length≤1048576):
  ∃(b:Bool) (c:Int),T2 f t l=some (b,c)∧Fbo f t l=some (b,c)∧(c=0→b=true→l6 f t l=0∧∃d,Cw f t l= .inl d):=by
 simp only [T2,Fbo,Bu hi (show f.aa.length≤9223372036854775807 by omega) (show t.length≤9223372036854775807 by omega) hn (show l.length≤9223372036854775807 by omega),KY (show f.aa.length≤9223372036854775807 by omega) (show t.length≤9223372036854775807 by omega) hn (show l.length≤9223372036854775807 by omega),ar]
 by_cases h0:l6 f t l=0
 ·obtain⟨a1,a2,a3⟩:=M1 h0
  rw [ak h0,h0]
  simp only [Qj (jA a1 hi) (lx a2) a3,ar]
  cases hv:Cw f t l with
  | inl d=>exact⟨true,0,by simp,by simp,fun _ _=>⟨by trivial,d,rfl⟩⟩
  | inr k=>exact⟨false,0,by simp,by simp,fun _ e=>by cases e⟩
 ·rw [ax h0]
  by_cases h1:l6 f t l=1
  ·rw [h1];exact⟨false,1,by simp,by simp,fun _ e=>by cases e⟩
  ·have h2:l6 f t l=2:=abJ h0 h1
   rw [h2];exact⟨false,0,by simp,by simp,fun _ e=>by cases e⟩
theorem B_{f:ae}{t:List ai}{c:aQ}{list:List ab}{ah:Int}(hi:vE f)(hf:f.aa.length≤1000000)(ht:t.length≤1000000)(hn:∀n∈t,AG n)(Co:XJ c)(hl:list.length≤1000000):
  bI f t c list ah=some true:=by
 obtain⟨a1,a2,_⟩:=M5 (c:=c) ah hi (show f.aa.length≤1048576 by omega) (show t.length≤1048576 by omega) hn Co
 have a3:Fb5 f t c ah=some (kL f t c ah):=by simp only [Fb5,a2,ar]
 have hVc:(kL f t c ah).2.2=0→kw f∧xf t∧CL c∧zB f t (kL f t c ah).1∧nP c (kL f t c ah).1=(kL f t c ah).2.1∧∀r,zB f t r→(kL f t c ah).2.1≤nP c r:=by
  unfold kL
  intro h
  split at h
  ·cases h
  ·rename_i h1
   rw [ax h1]
   have h1:=Classical.not_not.1 h1
   split at h
   ·cases h
   ·rename_i h2
    rw [ax h2]
    split at h
    ·cases h
    ·rename_i h3
     rw [ax h3]
     have xW:=jA h1.1 hi;have V1:=lx h1.2.1;have Q1:=Bp h1.2.2
     obtain⟨v1,v2,v3,v4,v5⟩:=Qv xW Q1 V1 ah (by simpa using h3)
     exact⟨xW,V1,Q1,⟨v2,v3⟩,v4,fun r hr=>v5 r hr.len hr.fit⟩
 have hk5:bI.ue f t c list (kL f t c ah)=some true:=by
  obtain⟨b,cc,b1,b2,b3⟩:=Yl (l:=list) hi hn (by omega) (by omega) (by omega)
  simp only [bI.ue,b1,b2,ar]
  rw [ax (by simp)]
  simp only [uc,Bool.and_false,bI.og,cM,bU]
  by_cases hg:cc=0∧b=true
  ·obtain⟨rfl,rfl⟩:=hg
   obtain⟨LN,d,hv⟩:=b3 rfl rfl
   obtain⟨q1,q2,q3⟩:=M1 LN
   have xW:=jA q1 hi;have V1:=lx q2
   have xN:=xW.h1;have v8:=V1.len
   have Pj:zB f t list:=⟨q3,d,hv⟩
   have we:=Bu hi (show f.aa.length≤9223372036854775807 by omega) (show t.length≤9223372036854775807 by omega) hn (show list.length≤9223372036854775807 by omega)
   rw [ak LN,hv] at we
   obtain⟨dg,akC⟩:=X0 xW V1 q3 hv
   have hdB:gR f d=true:=sI dg.LH
   have E4:=qk f hi (show f.aa.length≤9223372036854775807 by omega) d dg.BA
   rw [ak ⟨q1,hdB⟩] at E4
   have EZ:list.countP (fun x=> !x.bJ)≤list.length:=List.countP_le_length
   obtain⟨r,m1,m2,m3,m4,m5⟩:=Ql xW (d:=d) (by rw [Vt xW dg.LH];omega)
   have hdf:Xt f t list=some (d,0):=by simp [Xt,we]
   have hhd:FbR f t list=some (r,0):=by simp [FbR,hdf,rQ xW dg.BA,m1]
   have Jg:=HC xW hi dg.BA hdB m1 m3
   have hpl:Sw f d=some (true,0):=by simp [Sw,FbO,E4,yG xW dg]
   have Cc:Sx r r=some true:=by simp [Sx,tR r r (by have:=m3.len;omega)]
   rw [ax (by simp)]
   simp only [hdf,hhd,Jg,hpl,ar,Cc]
   rw [ax (by simp)]
   simp only [jv,bI.y9,cM,bU]
   by_cases hV:(kL f t c ah).2.2=0
   ·obtain⟨_,_,Q1,_,_,ajr⟩:=hVc hV
    rw [Pj.cost xW V1 Q1 Co]
    simp [ajr list Pj]
   ·have:∃x,Em c list=some x:=by
     cases Yp:nO c with
     | true=>exact⟨_,Pj.cost xW V1 (Bp Yp) Co⟩
     | false=>exact⟨(0,1),by simp [Em,tN Co,Yp,sN list (show list.length≤9223372036854775807 by omega),ii,Ez]⟩
    obtain⟨x,hx⟩:=this
    simp [hx,hV]
  ·rw [ak (by
    simp only [ke,bne_iff_ne,kA]
    by_cases h:cc=0
    ·right
     cases b with
     | false=>rfl
     | true=>exact absurd ⟨h,rfl⟩ hg
    ·exact .inl h)]
 simp only [bI,a1,a3,ar]
 rw [ax (by simp)]
 simp only [uc,Bool.and_false,bI.ki,cM,bU]
 by_cases hV:(kL f t c ah).2.2=0
 ·obtain⟨xW,V1,Q1,Pj,hs,_⟩:=hVc hV
  rw [ak (by simpa using hV),Pj.check xW V1 hi hn,Pj.cost xW V1 Q1 Co]
  simp only [ar,hs]
  rw [ax (by simp)]
  exact hk5
 ·rw [ax (by simpa using hV)]
  exact hk5
end Go.Proofs.YtplklknkkaeniaaGreat
namespace Go.Proofs.YtplklknkkaeniaaGreat
open Eng
set_option linter.unusedVariables false
set_option linter.unusedSimpArgs false
theorem AP(x:Int):-32768≤ot x∧ot x≤32767:=by
 simp only [ot,IntKind.wrap,IntKind.bits,IntKind.signed];simp;split<;>omega
theorem NE(x:Int):-128≤w8 x∧w8 x≤127:=by
 simp only [w8,IntKind.wrap,IntKind.bits,IntKind.signed];simp;split<;>omega
theorem Ym(x:Int):0≤u32 x∧u32 x≤4294967295:=by
 simp only [u32,IntKind.wrap,IntKind.bits,IntKind.signed];simp;omega
theorem ag1(x:Int):0≤qH .i64 x 16383∧qH .i64 x 16383≤20000:=by
 have h:(BitVec.ofInt 64 x&&&BitVec.ofInt 64 16383).toNat≤16383:=by
  rw [BitVec.toNat_and]
  exact k7 Nat.and_le_right (by decide)
 show 0≤IntKind.i64.wrap (((BitVec.ofInt 64 x&&&BitVec.ofInt 64 16383).toNat:Nat):Int)∧IntKind.i64.wrap (((BitVec.ofInt 64 x&&&BitVec.ofInt 64 16383).toNat:Nat):Int)≤20000
 generalize (BitVec.ofInt 64 x&&&BitVec.ofInt 64 16383).toNat=m at h
 have:IntKind.i64.wrap (m:Int)=(m:Int):=bc (by omega) (by omega)
 rw [this];omega
def At(code:List Int)(a:Int):Prop:=0≤a∧a≤(code.length:Int)
theorem BF{code:List Int}{a:Int}(hl:code.length≤65536)(h:At code a):∃x a',eS ⟨code,a⟩=some (x,⟨code,a'⟩)∧At code a'∧a≤a'∧(a<(code.length:Int)→a<a'):=by
 obtain⟨h0,h1⟩:=h
 by_cases c:a<(code.length:Int)
 ·obtain⟨n,rfl⟩:∃n:Nat,a=(n:Int):=⟨a.toNat,by omega⟩
  have hn:n<code.length:=by omega
  refine⟨au code[n],((n+1:Nat):Int),?_,⟨by omega,by omega⟩,by omega,fun _=>by omega⟩
  simp only [eS]
  rw [ax dF,wI ((n:Int)+1),wI ((n:Int)+1-1),show (n:Int)+1-1=(n:Int) by omega,de hn]
  rfl
 ·refine⟨0,a,?_,⟨h0,h1⟩,by omega,fun h=>absurd h c⟩
  simp only [eS]
  rw [ak dT]
theorem lA{code:List Int}{a:Int}(hl:code.length≤65536)(h:At code a):∃x a',aS ⟨code,a⟩=some (x,⟨code,a'⟩)∧At code a'∧a≤a'∧(a<(code.length:Int)→a<a'):=by
 obtain⟨m,b,e1,p1,p2,p3⟩:=BF hl h
 have hm:Int.tmod m 9<9:=Int.tmod_lt_of_pos m (by omega)
 obtain⟨⟨b',x⟩,hr,q1,q2⟩:=gA (f:=aS.pH ⟨code,a⟩ (m,⟨code,b⟩)) (fun st=>At code st.1∧b≤st.1∧0≤st.2.2∧st.2.2≤9) (fun st=>(9-st.2.2).toNat) (fun r=>At code r.1∧b≤r.1) (by
  rintro⟨b',x,k⟩ ⟨r1,r2,r3,r4⟩
  simp only at r1 r2 r3 r4
  by_cases c:k<Int.tmod m 9
  ·left
   obtain⟨y,b2,e2,s1,s2,_⟩:=BF hl r1
   refine⟨(b2,wC .i64 x (fo .i64 y (8*k)),k+1),?_,⟨s1,by simp only;omega,by simp only;omega,by simp only;omega⟩,by simp only;omega⟩
   simp only [aS.pH,e2,ar]
   rw [ak (by rw [bC];exact c),wI (8*k),ak (by omega),wI (k+1)]
  ·right
   refine⟨(b',x),?_,r1,r2⟩
   simp only [aS.pH]
   rw [ax (by rw [bC];exact c)]) (b,0,0) ⟨p1,by simp only;omega,by simp only;omega,by simp only;omega⟩
 simp only at q1 q2
 refine⟨x,b',?_,q1,by omega,fun h=>by have:=p3 h;omega⟩
 simp only [aS,e1,ar,hr,aS.ki]
theorem AQ{S:Type}{f:(List S×Int×Int)→Option ((List S×Int×Int)⊕(List S×Int))}{code:List Int}(hl:code.length≤65536)(n:Int)(P:S→Prop)
  (hc:∀(xs:List S) (a:Int) (i:Nat),(i:Int)<n→At code a→a<(code.length:Int)→xs.length≤65536→i≤65536→∃x a',f (xs,a,(i:Int))=some (.inl (xs++ [x],a',au ((i:Int)+1)))∧P x∧At code a'∧a<a')
  (hs:∀(xs:List S) (a:Int) (i:Nat),¬((i:Int)<n∧a<(code.length:Int))→f (xs,a,(i:Int))=some (.inr (xs,a))) {a:Int} (ha:At code a):
  ∃xs a',loop f ([],a,0)=some (xs,a')∧xs.length≤65536∧(∀x∈xs,P x)∧At code a'∧a≤a':=by
 obtain⟨⟨xs,a'⟩,hr,q1,q2,q3,q4⟩:=gA (f:=f) (fun st=>∃k:Nat,st.2.2=(k:Int)∧st.1.length=k∧(k:Int)≤st.2.1∧At code st.2.1∧a≤st.2.1∧∀x∈st.1,P x) (fun st=>((code.length:Int)-st.2.1).toNat) (fun r=>r.1.length≤65536∧(∀x∈r.1,P x)∧At code r.2∧a≤r.2) (by
  rintro⟨xs,b,_⟩ ⟨k,rfl,hk,E5,hb,zo,hp⟩
  simp only at hk E5 hb zo hp
  have Lz:=hb.1;have GK:=hb.2
  by_cases c:(k:Int)<n∧b<(code.length:Int)
  ·left
   obtain⟨x,b',e,px,Oa,gy⟩:=hc xs b k c.1 hb c.2 (by omega) (by omega)
   rw [wI ((k:Int)+1)] at e
   refine⟨_,e,⟨k+1,by simp only;omega,by simp [hk],by simp only;omega,Oa,by simp only;omega,fun y hy=> ?_⟩,by simp only;omega⟩
   rcases dw.1 hy with hy | hy
   ·exact hp y hy
   ·rw [dG] at hy;subst hy;exact px
  ·right
   exact⟨_,hs xs b k c,by simp only;omega,hp,hb,zo⟩) ([],a,0) ⟨0,rfl,rfl,by simp only;exact ha.1,ha,by simp only;omega,fun x hx=>by cases hx⟩
 exact⟨xs,a',hr,q1,q2,q3,q4⟩
theorem nH(code:List Int)(a k n:Int):dO ⟨code,a⟩ k n=some (decide (k<n∧a<(code.length:Int))):=by
 simp only [dO]
 congr 1
 rw [iY]
 simp
theorem Yn{code:List Int}(hl:code.length≤65536){a:Int}(ha:At code a):∃t a',dA ⟨code,a⟩=some (t,⟨code,a'⟩)∧t.length≤65536∧(∀n∈t,AG n)∧At code a':=by
 obtain⟨n,b,e1,p1,_,_⟩:=lA hl ha
 obtain⟨xs,a',hr,q1,q2,q3,_⟩:=AQ (f:=dA.pH ⟨code,a⟩ (n,⟨code,b⟩)) hl n AG (fun xs c i hi hc gy hx QT=>by
  obtain⟨x,c1,e2,r1,r2,r3⟩:=lA hl hc
  obtain⟨y,c2,e3,s1,s2,_⟩:=lA hl r1
  refine⟨⟨ot x,w8 y⟩,c2,?_,⟨AP x,NE y⟩,s1,by have:=r3 gy;omega⟩
  simp only [dA.pH,nH,ar,e2,e3]
  rw [ak (by rw [bC];exact⟨hi,gy⟩),ak (by simp only [cf,bN];omega)]) (fun xs c i h=>by
  simp only [dA.pH,nH,ar]
  rw [ax (by rw [bC];exact h)]) p1
 exact⟨xs,a',by simp only [dA,e1,ar,hr,dA.ki],q1,q2,q3⟩
theorem Yo{code:List Int}(hl:code.length≤65536){a:Int}(ha:At code a):∃t a',dB ⟨code,a⟩=some (t,⟨code,a'⟩)∧t.length≤65536∧At code a':=by
 obtain⟨n,b,e1,p1,_,_⟩:=lA hl ha
 obtain⟨xs,a',hr,q1,q2,q3,_⟩:=AQ (f:=dB.pH ⟨code,a⟩ (n,⟨code,b⟩)) hl n (fun _=>True) (fun xs c i hi hc gy hx QT=>by
  obtain⟨x,c1,e2,r1,r2,r3⟩:=lA hl hc
  refine⟨x,c1,?_,trivial,r1,r3 gy⟩
  simp only [dB.pH,nH,ar,e2]
  rw [ak (by rw [bC];exact⟨hi,gy⟩),ak (by simp only [cf,bN];omega)]) (fun xs c i h=>by
  simp only [dB.pH,nH,ar]
  rw [ax (by rw [bC];exact h)]) p1
 exact⟨xs,a',by simp only [dB,e1,ar,hr,dB.ki],q1,q3⟩
theorem Lw{code:List Int}(hl:code.length≤65536){a:Int}(ha:At code a):∃t a',cy ⟨code,a⟩=some (t,⟨code,a'⟩)∧t.length≤65536∧At code a':=by
 obtain⟨n,b,e1,p1,_,_⟩:=lA hl ha
 obtain⟨xs,a',hr,q1,q2,q3,_⟩:=AQ (f:=cy.pH ⟨code,a⟩ (n,⟨code,b⟩)) hl n (fun _=>True) (fun xs c i hi hc gy hx QT=>by
  obtain⟨x,c1,e2,r1,r2,r3⟩:=BF hl hc
  obtain⟨y,c2,e3,s1,s2,_⟩:=lA hl r1
  obtain⟨z,c3,e4,u1,u2,_⟩:=lA hl s1
  obtain⟨v,c4,e5,v1,v2,_⟩:=lA hl u1
  refine⟨⟨(Int.tmod x 2==1),w8 y,w8 z,w8 v⟩,c4,?_,trivial,v1,by have:=r3 gy;omega⟩
  simp only [cy.pH,nH,ar,e2,e3,e4,e5]
  rw [ak (by rw [bC];exact⟨hi,gy⟩),ak (by simp only [cf,bN];omega)]) (fun xs c i h=>by
  simp only [cy.pH,nH,ar]
  rw [ax (by rw [bC];exact h)]) p1
 exact⟨xs,a',by simp only [cy,e1,ar,hr,cy.ki],q1,q3⟩
theorem EX{code:List Int}(hl:code.length≤65536){a:Int}(ha:At code a):∃d a',cA ⟨code,a⟩=some (d,⟨code,a'⟩)∧gM d∧At code a'∧a≤a'∧(a<(code.length:Int)→a<a'):=by
 obtain⟨n,b,e1,p1,p2,p3⟩:=lA hl ha
 obtain⟨⟨d,a'⟩,hr,q1,q2,q3⟩:=gA (f:=cA.pH ⟨code,a⟩ (n,⟨code,b⟩)) (fun st=>∃k:Nat,k≤96∧st.2.2=(k:Int)∧gM st.1∧At code st.2.1∧b≤st.2.1) (fun st=>96-st.2.2.toNat) (fun r=>gM r.1∧At code r.2∧b≤r.2) (by
  rintro⟨d,c,_⟩ ⟨k,hk,rfl,hd,hc,hbc⟩
  simp only at hd hc hbc
  by_cases cc:((k:Int)<n∧c<(code.length:Int))∧k<96
  ·left
   obtain⟨x,c1,e2,r1,r2,r3⟩:=lA hl hc
   have C4:=lv hd cc.2
   obtain⟨u0,u1⟩:=Ym x
   obtain⟨v,hv⟩:∃v:Nat,u32 x=(v:Int):=⟨(u32 x).toNat,by omega⟩
   refine⟨(av.set d (k:Int) (u32 x),c1,((k+1:Nat):Int)),?_,⟨k+1,by omega,rfl,?_,r1,by simp only;omega⟩,by simp only [kd];omega⟩
   ·simp only [cA.pH,nH,ar,e2,C4]
    rw [ak (by simp only [bY,bC];exact⟨cc.1,by omega⟩),wI ((k:Int)+1)]
    rfl
   ·simp only
    rw [hv]
    exact vf hd k (by omega)
  ·right
   refine⟨(d,c),?_,hd,hc,hbc⟩
   simp only [cA.pH,nH,ar]
   rw [ax (by simp only [bY,bC];intro h;exact cc ⟨h.1,by omega⟩)]) (av.dC 96 0,b,0) ⟨0,by omega,rfl,lZ,p1,by simp only;omega⟩
 simp only at q1 q2 q3
 exact⟨d,a',by simp only [cA,e1,ar,hr,cA.ki],q1,q2,by omega,fun h=>by have:=p3 h;omega⟩
theorem QM{code:List Int}(hl:code.length≤65536){a:Int}(ha:At code a):∃t a',dq ⟨code,a⟩=some (t,⟨code,a'⟩)∧t.length≤65536∧(∀d∈t,gM d)∧At code a':=by
 obtain⟨n,b,e1,p1,_,_⟩:=lA hl ha
 obtain⟨xs,a',hr,q1,q2,q3,_⟩:=AQ (f:=dq.pH ⟨code,a⟩ (n,⟨code,b⟩)) hl n gM (fun xs c i hi hc gy hx QT=>by
  obtain⟨x,c1,e2,r0,r1,r2,r3⟩:=EX hl hc
  refine⟨x,c1,?_,r0,r1,r3 gy⟩
  simp only [dq.pH,nH,ar,e2]
  rw [ak (by rw [bC];exact⟨hi,gy⟩),ak (by simp only [cf,bN];omega)]) (fun xs c i h=>by
  simp only [dq.pH,nH,ar]
  rw [ax (by rw [bC];exact h)]) p1
 exact⟨xs,a',by simp only [dq,e1,ar,hr,dq.ki],q1,q2,q3⟩
theorem QN{code:List Int}(hl:code.length≤65536){a:Int}(ha:At code a):∃f a',dp ⟨code,a⟩=some (f,⟨code,a'⟩)∧vE f∧f.aa.length≤65536∧At code a':=by
 obtain⟨s,b0,e0,p0,_,_⟩:=lA hl ha
 obtain⟨n,b,e1,p1,_,_⟩:=lA hl p0
 obtain⟨⟨a',xs⟩,hr,q1,q2,q3⟩:=gA (f:=dp.I4 ⟨code,a⟩ (n,⟨code,b⟩)) (fun st=>∃k:Nat,st.2.2=(k:Int)∧st.2.1.length=k∧(k:Int)≤st.1∧At code st.1∧∀h∈st.2.1,(-128≤h.aD∧h.aD≤127)∧(-128≤h.fg∧h.fg≤127)) (fun st=>((code.length:Int)-st.1).toNat) (fun r=>r.2.length≤65536∧(∀h∈r.2,(-128≤h.aD∧h.aD≤127)∧(-128≤h.fg∧h.fg≤127))∧At code r.1) (by
  rintro⟨c,xs,_⟩ ⟨k,rfl,hk,E5,hc,hp⟩
  simp only at hk E5 hc hp
  have Lz:=hc.1;have GK:=hc.2
  by_cases cc:(k:Int)<n∧c<(code.length:Int)
  ·left
   obtain⟨x,c1,e2,r1,r2,r3⟩:=lA hl hc
   obtain⟨y,c2,e3,s1,s2,_⟩:=lA hl r1
   have r3:=r3 cc.2
   refine⟨(c2,xs++ [⟨w8 x,w8 y⟩],((k+1:Nat):Int)),?_,⟨k+1,rfl,by simp [hk],by simp only;omega,s1,fun h hh=> ?_⟩,by have:=s1.2;simp only;omega⟩
   ·simp only [dp.I4,nH,ar,e2,e3]
    rw [ak (by rw [bC];exact cc),ak (by simp only [cf,bN];omega),wI ((k:Int)+1)]
    rfl
   ·rcases dw.1 hh with hh | hh
    ·exact hp h hh
    ·rw [dG] at hh;subst hh;exact⟨NE x,NE y⟩
  ·right
   refine⟨(c,xs),?_,by simp only;omega,hp,hc⟩
   simp only [dp.I4,nH,ar]
   rw [ax (by rw [bC];exact cc)]) (b,[],0) ⟨0,rfl,rfl,by simp only;exact p1.1,p1,fun h hh=>by cases hh⟩
 simp only at q1 q2 q3
 refine⟨⟨ot s,xs⟩,a',by simp only [dp,e0,e1,ar,hr,dp.ue],⟨AP s,q2⟩,q1,q3⟩
end Go.Proofs.YtplklknkkaeniaaGreat
namespace Go.Proofs.YtplklknkkaeniaaGreat
open Eng
set_option linter.unusedVariables false
set_option linter.unusedSimpArgs false
theorem AR{f:ae}(hf:kw f){s:a6}{b:Nat}(h:yf s b)(hb:b≤1000):∃d s',F1 s f=some (d,s')∧gM d∧(∀i t,fF d i t=true→(i:Int)<f.ag∧t<f.aa.length)∧yf s' (b+40)∧s'.aJ=s.aJ:=by
 have xD:=hf.s0;have rk:=hf.s1;have hh0:=hf.h0;have xN:=hf.h1
 obtain⟨x1,s1,e1,p1,q1,o1,c1⟩:=iw h (by omega) (n:=4) (by omega)
 obtain⟨x2,s2,e2,p2,q2,o2,c2⟩:=iw o1 (by omega) (n:=12) (by omega)
 have q2:=q2 (by omega)
 have ZA:s2.aJ=s.aJ:=c2.trans c1
 have hw:au f.ag=f.ag:=bc (by omega) (by omega)
 simp only [F1,FbZ,e1,ar,ik c1,e2]
 obtain⟨⟨a3,i3,j3⟩,hr,g1,g2,g3⟩:=gA (f:=F1.kq s f (decide (x1=0),s1)) (fun st=>∃k m:Nat,k+m≤11∧st.2.2.2=(k:Int)∧gM st.1∧(∀i t,fF st.1 i t=true→(i:Int)<f.ag∧t<f.aa.length)∧yf ⟨s.aJ,st.2.1,st.2.2.1⟩ (b+2+2*m)) (fun st=>st.2.2.2.toNat)
  (fun r=>gM r.1∧(∀i t,fF r.1 i t=true→(i:Int)<f.ag∧t<f.aa.length)∧yf ⟨s.aJ,r.2.1,r.2.2⟩ (b+40)) (by
  rintro⟨a,i,j,_⟩ ⟨k,m,hk,rfl,hd,hp,ho⟩
  simp only at hd hp ho
  by_cases c:k=0
  ·right
   subst c
   simp only [F1.kq]
   rw [ax (by decide)]
   exact⟨_,rfl,hd,hp,⟨ho.EF,ho.a0,by have:=ho.a1;simp only at this⊢;omega⟩⟩
  ·left
   obtain⟨y1,t1,e3,p3,q3,o3,c3⟩:=iw ho (by omega) (n:=f.ag) (by omega)
   obtain⟨y2,t2,e4,p4,q4,o4,c4⟩:=iw o3 (by omega) (n:=(f.aa.length:Int)) (by omega)
   have q3:=q3 (by omega);have q4:=q4 (by omega)
   have Qw:t1.aJ=s.aJ:=c3
   have XU:t2.aJ=s.aJ:=c4.trans c3
   obtain⟨n1,rfl⟩:∃n1:Nat,y1=(n1:Int):=⟨y1.toNat,by omega⟩
   obtain⟨n2,rfl⟩:∃n2:Nat,y2=(n2:Int):=⟨y2.toNat,by omega⟩
   have ZC:au ((k:Int)-1)=((k-1:Nat):Int):=by rw [bc (by omega) (by omega)];omega
   have ZB:yf ⟨s.aJ,t2.dy,t2.bF⟩ (b+2+2*(m+1)):=by
    rw [ik XU];exact⟨o4.EF,o4.a0,by have:=o4.a1;omega⟩
   have key:∀q:Bool,∃QO,F1.uI a (k:Int) ((n1:Int),t1) ((n2:Int),t2) q=some (.inl QO)∧(∃k' m':Nat,k'+m'≤11∧QO.2.2.2=(k':Int)∧gM QO.1∧(∀i t,fF QO.1 i t=true→(i:Int)<f.ag∧t<f.aa.length)∧yf ⟨s.aJ,QO.2.1,QO.2.2.1⟩ (b+2+2*m'))∧QO.2.2.2.toNat<k:=by
    intro q
    simp only [F1.uI,ZC]
    cases q with
    | false=>
     refine⟨_,rfl,⟨k-1,m+1,by omega,rfl,hd,hp,ZB⟩,by simp only;omega⟩
    | true=>
     have Pg:u64 (n2:Int)=(n2:Int):=u64_in (by omega) (by omega)
     obtain⟨h5,h6⟩:=Ix hd (show n1<96 by omega) (show n2<32 by omega)
     simp only [cp,lv hd (show n1<96 by omega),ar,Pg]
     rw [ak (by omega)]
     refine⟨_,rfl,⟨k-1,m+1,by omega,rfl,h5,fun i t hit=> ?_,ZB⟩,by simp only;omega⟩
     have h6':=h6 i t
     simp only at hit
     rw [h6'] at hit
     simp only [ke,bY,bC] at hit
     rcases hit with hit | ⟨rfl,rfl⟩
     ·exact hp i t hit
     ·omega
   simp only [F1.kq,hw,e3,ar,ik Qw,e4]
   rw [ak dT]
   by_cases hx:decide (x1=0)=true
   ·rw [ak hx]
    obtain⟨QO,r1,r2,r3⟩:=key true
    exact⟨QO,r1,r2,by show QO.2.2.2.toNat<((k:Nat):Int).toNat;omega⟩
   ·rw [ax hx]
    rw [zu hf hd (show (n1:Int)<f.ag by omega) (show n2<f.aa.length by omega)]
    simp only [ar]
    obtain⟨QO,r1,r2,r3⟩:=key (od f a n1 n2)
    exact⟨QO,r1,r2,by show QO.2.2.2.toNat<((k:Nat):Int).toNat;omega⟩) (av.dC 96 0,s2.dy,s2.bF,x2) ⟨x2.toNat,0,by omega,by simp only;omega,lZ,fun i t hit=>(by rw [qB] at hit;cases hit),by
   rw [ik ZA];exact⟨o2.EF,o2.a0,by have:=o2.a1;omega⟩⟩
 have ed:(x1==0)=decide (x1=0):=by rw [iY];simp
 rw [ed,hr]
 simp only [ar,F1.po]
 exact⟨_,_,rfl,g1,g2,g3,rfl⟩
end Go.Proofs.YtplklknkkaeniaaGreat
namespace Go.Proofs.YtplklknkkaeniaaGreat
open Eng
set_option linter.unusedVariables false
set_option linter.unusedSimpArgs false
theorem QP{f:ae}(hf:kw f)(code:List Int)(hc:∀y∈code,0≤y∧y≤255):∃d,Fcc code f=some d∧gM d∧gR f d=true:=by
 obtain⟨h1,h2⟩:=qD code hc
 obtain⟨d,s',e,g1,g2,_,_⟩:=AR hf h2 (by omega)
 simp only [Fcc,h1,ar,e]
 exact⟨d,rfl,g1,sI g2⟩
end Go.Proofs.YtplklknkkaeniaaGreat
namespace Go.Proofs.YtplklknkkaeniaaGreat
open Eng
set_option linter.unusedVariables false
set_option linter.unusedSimpArgs false
theorem QQ{f:ae}(hf:kw f)(code:List Int)(hc:∀y∈code,0≤y∧y≤255):∃t,I_ code f 6=some t∧xf t∧t.length≤6∧∀n∈t,n.cd<f.ag:=by
 have xD:=hf.s0;have rk:=hf.s1;have hh0:=hf.h0;have xN:=hf.h1
 obtain⟨e0,h0⟩:=qD code hc
 obtain⟨x,s1,e1,p1,q1,o1,c1⟩:=iw h0 (by omega) (n:=7) (by omega)
 have q1:=q1 (by omega)
 have c1:s1.aJ=code:=c1
 obtain⟨⟨xs,a3,a4⟩,hr,g1,g2⟩:=gA (f:=I_.jX code f) (fun st=>∃k:Nat,k≤6∧st.2.2.2=(k:Int)∧st.1.length+k≤6∧(∀y∈st.1,(0≤y.cd∧y.cd<f.ag)∧(0≤y.aD∧y.aD≤47))∧yf ⟨code,st.2.1,st.2.2.1⟩ (1+2*st.1.length)) (fun st=>st.2.2.2.toNat)
  (fun r=>r.1.length≤6∧∀y∈r.1,(0≤y.cd∧y.cd<f.ag)∧(0≤y.aD∧y.aD≤47)) (by
  rintro⟨xs,i,j,_⟩ ⟨k,hk,rfl,hl,hx,ho⟩
  simp only at hl hx ho
  by_cases c:k=0
  ·right
   subst c
   simp only [I_.jX]
   rw [ax (by decide)]
   exact⟨_,rfl,by simp only;omega,hx⟩
  ·left
   obtain⟨y1,t1,e3,p3,q3,o3,c3⟩:=iw ho (by omega) (n:=(f.aa.length:Int)) (by omega)
   obtain⟨y2,t2,e4,p4,q4,o4,c4⟩:=iw o3 (by omega) (n:=f.ag) (by omega)
   have q3:=q3 (by omega);have q4:=q4 (by omega)
   have Qw:t1.aJ=code:=c3
   have XU:t2.aJ=code:=c4.trans c3
   obtain⟨n1,rfl⟩:∃n1:Nat,y1=(n1:Int):=⟨y1.toNat,by omega⟩
   have zW:n1<f.aa.length:=by omega
   have hm:=hf.hp _ (bT zW)
   simp only [I_.jX,e3,ar,de zW,ik Qw,wI f.ag,e4]
   rw [ak dT,ak (by simp only [cf,bN];omega),vd (n:=y2) (by omega) (by omega),wI ((k:Int)-1)]
   refine⟨_,rfl,⟨k-1,by omega,by simp only;omega,by simp only [cJ,cf,bN];omega,?_,?_⟩,by simp only;omega⟩
   ·intro y hy
    rcases dw.1 hy with hy | hy
    ·exact hx y hy
    ·rw [dG] at hy;subst hy;simp only;omega
   ·simp only [cJ,cf,bN]
    rw [ik XU]
    exact⟨o4.EF,o4.a0,by have:=o4.a1;omega⟩) ([],s1.dy,s1.bF,x) ⟨x.toNat,by omega,by simp only;omega,by simp only [bN];omega,by simp,by
   simp only [bN]
   rw [ik c1]
   exact⟨o1.EF,o1.a0,by have:=o1.a1;omega⟩⟩
 have g1:xs.length≤6:=g1
 obtain⟨r,h1,h2,h3,h4⟩:=l5 xs (by omega)
 have hw:au (6+1)=7:=by decide
 refine⟨r,?_,⟨by omega,fun n hn=> ?_,h2⟩,by omega,fun n hn=>(g2 n ((h3 n).1 hn)).1.2⟩
 ·simp only [I_,e0,ar,hw,e1,hr,I_.po,h1]
 ·have:=g2 n ((h3 n).1 hn)
  omega
end Go.Proofs.YtplklknkkaeniaaGreat
namespace Go.Proofs.YtplklknkkaeniaaGreat
open Eng
set_option linter.unusedVariables false
set_option linter.unusedSimpArgs false
theorem NF(code:List Int)(hc:∀y∈code,0≤y∧y≤255):∃f,Fb7 code=some f∧kw f:=by
 obtain⟨e,h⟩:=qD code hc
 obtain⟨f,s',e1,h1,_⟩:=yF h (by omega)
 exact⟨f,by simp only [Fb7,e,e1,ar],h1⟩
theorem NG{f:ae}(hf:kw f)(code:List Int)(hc:∀y∈code,0≤y∧y≤255):∃ds,Im code f=some ds∧ds.length≤5∧∀d∈ds,gM d∧gR f d=true:=by
 obtain⟨e,h⟩:=qD code hc
 obtain⟨x1,s1,e1,p1,q1,o1,c1⟩:=iw h (by omega) (n:=6) (by omega)
 have q1:=q1 (by omega)
 have c1':s1.aJ=code:=c1
 simp only [Im,e,e1,ar]
 obtain⟨⟨xs,a3,a4⟩,hr,g1,g2⟩:=gA (f:=Im.kq code f) (fun st=>∃k:Nat,k≤5∧st.2.2.2=(k:Int)∧st.1.length+k≤5∧(∀d∈st.1,gM d∧gR f d=true)∧yf ⟨code,st.2.1,st.2.2.1⟩ (1+40*st.1.length)) (fun st=>st.2.2.2.toNat)
  (fun r=>r.1.length≤5∧∀d∈r.1,gM d∧gR f d=true) (by
  rintro⟨xs,i,j,_⟩ ⟨k,hk,rfl,hl,hx,ho⟩
  simp only at hl hx ho
  by_cases c:k=0
  ·right
   subst c
   simp only [Im.kq]
   rw [ax (by decide)]
   exact⟨_,rfl,by simp only;omega,hx⟩
  ·left
   obtain⟨d,s',e2,d1,d2,d3,d4⟩:=AR hf ho (by omega)
   have d4':s'.aJ=code:=d4
   simp only [Im.kq,e2,ar]
   rw [ak dT,ak (by simp only [cf,bN];omega),bc (by omega) (by omega)]
   refine⟨_,rfl,⟨k-1,by omega,by simp only;omega,by simp only [cJ,cf,bN];omega,?_,?_⟩,by simp only;omega⟩
   ·intro y hy
    rcases dw.1 hy with hy | hy
    ·exact hx y hy
    ·rw [dG] at hy;subst hy;exact⟨d1,sI d2⟩
   ·simp only [cJ,cf,bN]
    rw [ik d4']
    exact⟨d3.EF,d3.a0,by have:=d3.a1;omega⟩) ([],s1.dy,s1.bF,x1) ⟨x1.toNat,by omega,by simp only;omega,by simp only [bN];omega,by simp,by
   simp only [bN]
   rw [ik c1']
   exact⟨o1.EF,o1.a0,by have:=o1.a1;omega⟩⟩
 have LI:loop (Im.kq code f) ([],s1.dy,s1.bF,x1)=_:=hr
 rw [LI]
 exact⟨xs,by simp only [ar,Im.po],g1,g2⟩
theorem NH(code:List Int)(hc:∀y∈code,0≤y∧y≤255){n:Nat}(zW:1≤n)(hn:n≤8):∃o,FH code (n:Int)=some (lH o)∧HH n o:=by
 obtain⟨e,h⟩:=qD code hc
 have l0:loop (FH.j4 (n:Int)) ([],0)=some (lH (List.range n)):=by
  have:=gB (f:=FH.j4 (n:Int)) n (fun k=>(lH (List.range k),(k:Int))) (lH (List.range n)) (fun k hk=>by
   simp only [FH.j4]
   rw [ak dT,ak (by rw [je];simp;omega),bc (by omega) (by omega),oE,IZ]
   rfl) (by
   simp only [FH.j4]
   rw [ax (by simp)])
  exact this
 obtain⟨⟨xs,a3,a4⟩,hr,o,rfl,ho⟩:=gA (f:=FH.jX code) (fun st=>∃(k:Nat) (o:List Nat),k<n∧st.2.2.2=(k:Int)∧st.1=lH o∧o.Perm (List.range n)∧yf ⟨code,st.2.1,st.2.2.1⟩ (n-k)) (fun st=>st.2.2.2.toNat)
  (fun r=>∃o,r.1=lH o∧o.Perm (List.range n)) (by
  rintro⟨_,i,j,_⟩ ⟨k,o,hk,rfl,rfl,hp,hs⟩
  simp only at hs
  have hol:o.length=n:=by rw [hp.length_eq,rC]
  by_cases c:k=0
  ·right
   subst c
   simp only [FH.jX]
   rw [ax (by decide)]
   exact⟨_,rfl,o,rfl,hp⟩
  ·left
   have hw:au ((k:Int)+1)=((k+1:Nat):Int):=by rw [bc (by omega) (by omega)];omega
   obtain⟨x,s',e1,p1,q1,o1,c1⟩:=iw hs (by omega) (n:=((k+1:Nat):Int)) (by omega)
   have q1:=q1 (by omega)
   obtain⟨m,rfl⟩:∃m:Nat,x=(m:Int):=⟨x.toNat,by omega⟩
   have c1':s'.aJ=code:=c1
   have Mt:k<o.length:=by omega
   have hml:m<o.length:=by omega
   have abX:∀(l:List Nat) (i v:Nat),(lH l).set i ((v:Nat):Int)=lH (l.set i v):=fun l i v=>by simp [lH,List.map_set]
   have EY:∃z,ix (lH (o.set k o[m])) (m:Int)=some z:=⟨_,ER (show m<(o.set k o[m]).length by rw [eJ];exact hml)⟩
   obtain⟨z,hz⟩:=EY
   simp only [FH.jX,hw,e1,ar,ER Mt,ER hml,kd,abX,hz]
   rw [ak dT,bc (by omega) (by omega)]
   refine⟨_,rfl,⟨k-1,(o.set k o[m]).set m o[k],by omega,by simp only;omega,rfl,(List.set_set_perm Mt hml).trans hp,?_⟩,by simp only;omega⟩
   rw [ik c1']
   exact⟨o1.EF,o1.a0,by have:=o1.a1;omega⟩) (lH (List.range n),(⟨code,0,0⟩:a6).dy,(⟨code,0,0⟩:a6).bF,au ((n:Int)-1)) ⟨n-1,List.range n,by omega,by simp only;rw [bc (by omega) (by omega)];omega,rfl,List.Perm.refl _,⟨h.EF,h.a0,by have:=h.a1;simp only at this⊢;omega⟩⟩
 refine⟨o,?_,HH.O' ho⟩
 simp only [FH,e,ar,l0,FH.nS,hr,FH.qw]
end Go.Proofs.YtplklknkkaeniaaGreat
