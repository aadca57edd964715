/- Lemmas about plain loops and lists. -/
import Derived.Test.YtplklknkkaeniaaGreatEng
import Derived.IntWalk
namespace Go.Proofs.YtplklknkkaeniaaGreat.Eng
open Go
set_option linter.unusedVariables false
theorem bc{n:Int}(h0:-9223372036854775808≤n)(h1:n≤9223372036854775807):au n=n:=IntWalk.i64_in n ⟨h0,h1⟩
theorem vd{n:Int}(h0:-32768≤n)(h1:n≤32767):ot n=n:=IntWalk.i16_in n ⟨h0,h1⟩
theorem vC{n:Int}(h0:-128≤n)(h1:n≤127):w8 n=n:=IntWalk.i8_in n ⟨h0,h1⟩
theorem u64_in{n:Int}(h0:0≤n)(h1:n≤18446744073709551615):u64 n=n:=IntWalk.u64_in n ⟨h0,h1⟩
theorem u32_in{n:Int}(h0:0≤n)(h1:n≤4294967295):u32 n=n:=IntWalk.u32_in n ⟨h0,h1⟩
theorem u8_in{n:Int}(h0:0≤n)(h1:n≤255):u8 n=n:=IntWalk.u8_in n ⟨h0,h1⟩
theorem gA{S T:Type}{f:S→Option (S⊕T)}(I:S→Prop)(μ:S→Nat)(Q:T→Prop)
  (h:∀s,I s→(∃s',f s=some (.inl s')∧I s'∧μ s'<μ s)∨(∃t,f s=some (.inr t)∧Q t)):
  ∀s,I s→∃t,loop f s=some t∧Q t:=by
 suffices H:∀n s,μ s<n→I s→∃t,loop f s=some t∧Q t from fun s hs=>H (μ s+1) s (by omega) hs
 intro n
 induction n with
 | zero=>intro s h;omega
 | succ n ih=>
  intro s hn hs
  rcases h s hs with⟨s',hf,hi,hm⟩ | ⟨t,hf,hq⟩
  ·rw [bH,hf]
   exact ih s' (by omega) hi
  ·exact⟨t,by rw [bH,hf],hq⟩
theorem qV{A T:Type}{f:A×Int→Option ((A×Int)⊕T)}(n:Nat)(hn:n≤9223372036854775807)(I:Nat→A→Prop)(Q:T→Prop)
  (h:∀k a,k<n→I k a→(∃a',f (a,(k:Int))=some (.inl (a',au ((k:Int)+1)))∧I (k+1) a')∨(∃t,f (a,(k:Int))=some (.inr t)∧Q t))
  (he:∀a,I n a→∃t,f (a,(n:Int))=some (.inr t)∧Q t) (a0:A) (h0:I 0 a0):∃t,loop f (a0,0)=some t∧Q t:=by
 refine gA (fun s=>∃k:Nat,s.2=(k:Int)∧k≤n∧I k s.1) (fun s=>n-s.2.toNat) Q ?_ (a0,0) ⟨0,rfl,by omega,h0⟩
 rintro⟨a,i⟩ ⟨k,hk,yP,hI⟩
 simp only at hk hI;subst hk
 by_cases gy:k<n
 ·rcases h k a gy hI with⟨a',hf,hI'⟩ | ⟨t,hf,hq⟩
  ·left
   refine⟨_,hf,⟨k+1,?_,by omega,hI'⟩,?_⟩
   ·simp only;rw [bc (by omega) (by omega)];omega
   ·simp only;rw [bc (by omega) (by omega)];omega
  ·exact .inr ⟨t,hf,hq⟩
 ·obtain rfl:k=n:=by omega
  exact .inr (he a hI)
theorem Eo{T:Type}{f:Int→Option (Int⊕T)}(n:Nat)(hn:n≤9223372036854775807)(I:Nat→Prop)(Q:T→Prop)
  (h:∀k,k<n→I k→(f (k:Int)=some (.inl (au ((k:Int)+1)))∧I (k+1))∨(∃t,f (k:Int)=some (.inr t)∧Q t))
  (he:I n→∃t,f (n:Int)=some (.inr t)∧Q t) (h0:I 0):∃t,loop f 0=some t∧Q t:=by
 refine gA (fun s=>∃k:Nat,s=(k:Int)∧k≤n∧I k) (fun s=>n-s.toNat) Q ?_ 0 ⟨0,rfl,by omega,h0⟩
 rintro i ⟨k,rfl,yP,hI⟩
 by_cases gy:k<n
 ·rcases h k gy hI with⟨hf,hI'⟩ | ⟨t,hf,hq⟩
  ·left
   refine⟨_,hf,⟨k+1,?_,by omega,hI'⟩,?_⟩
   ·rw [bc (by omega) (by omega)];omega
   ·rw [bc (by omega) (by omega)];omega
  ·exact .inr ⟨t,hf,hq⟩
 ·obtain rfl:k=n:=by omega
  exact .inr (he hI)
theorem Io{S:Type}{xs:List S}{k:Nat}{x:S}(h:xs[k]?=some x):ix xs (k:Int)=some x:=by
 unfold ix
 rw [ak (by omega)]
 simpa using h
theorem de{S:Type}{xs:List S}{k:Nat}(h:k<xs.length):ix xs (k:Int)=some xs[k]:=Io (bM h)
theorem Ep{S:Type}{f:Int→Option (Int⊕(Bool⊕Unit))}(xs:List S)(p:S→Bool)(hn:xs.length≤9223372036854775807)
  (hf:∀(k:Nat) (hk:k<xs.length),f (k:Int)=some (if p xs[k]=true then .inl (au ((k:Int)+1)) else .inr (.inl false)))
  (he:f (xs.length:Int)=some (.inr (.inr ()))):
  loop f 0=some (if xs.all p=true then .inr () else .inl false):=by
 obtain⟨t,ht,rfl⟩:=Eo (f:=f) xs.length hn (fun k=>∀i (h:i<xs.length),i<k→p xs[i]=true) (fun t=>t=if xs.all p=true then .inr () else .inl false)
  (fun k hk hi=>by
   rw [hf k hk]
   by_cases h:p xs[k]=true
   ·left
    rw [ak h]
    refine⟨rfl,fun i hl hik=> ?_⟩
    by_cases abw:i=k
    ·subst abw;exact h
    ·exact hi i hl (by omega)
   ·right
    rw [ax h]
    refine⟨_,rfl,?_⟩
    rw [ax]
    intro ha
    exact h (gP.1 ha _ (bT hk)))
  (fun hi=>⟨_,he,by
   rw [ak]
   refine gP.2 fun x hx=> ?_
   obtain⟨i,h,rfl⟩:=ox.1 hx
   exact hi i h h⟩)
  (fun i _ h=>absurd h (by omega))
 exact ht
theorem uK{S:Type}{f:Int→Option (Int⊕(Int⊕Unit))}(xs:List S)(p:S→Bool)(hn:xs.length≤9223372036854775807)
  (hf:∀(k:Nat) (hk:k<xs.length),f (k:Int)=some (if p xs[k]=true then .inr (.inl (k:Int)) else .inl (au ((k:Int)+1))))
  (he:f (xs.length:Int)=some (.inr (.inr ()))):
  ∃t,loop f 0=some t∧((xs.any p=true∧∃k:Nat,t= .inl (k:Int)∧∃h:k<xs.length,p xs[k]=true∧∀i (h:i<xs.length),i<k→p xs[i]=false)∨(xs.any p=false∧t= .inr ())):=by
 refine Eo (f:=f) xs.length hn (fun k=>∀i (h:i<xs.length),i<k→p xs[i]=false) _ (fun k hk hi=> ?_) (fun hi=>⟨_,he, .inr ⟨?_,rfl⟩⟩) (fun i _ h=>absurd h (by omega))
 ·rw [hf k hk]
  by_cases h:p xs[k]=true
  ·right
   rw [ak h]
   exact⟨_,rfl, .inl ⟨r6.2 ⟨_,bT hk,h⟩,k,rfl,hk,h,hi⟩⟩
  ·left
   rw [ax h]
   refine⟨rfl,fun i hl hik=> ?_⟩
   by_cases abw:i=k
   ·subst abw;simpa using h
   ·exact hi i hl (by omega)
 ·rw [List.any_eq_false]
  intro x hx
  obtain⟨i,h,rfl⟩:=ox.1 hx
  simp [hi i h h]
def iter{A:Type}(f:A→A):Nat→A→A
 | 0,a=>a
 | n+1,a=>f (iter f n a)
theorem iL{S:Type}{f:List S×Int→Option ((List S×Int)⊕List S)}(n m:Nat)(hn:n≤9223372036854775807)(h:Nat→List S)(xs0:List S)(hm:∀k,k<n→(h k).length≤m)
  (hf:∀xs k,k<n→xs.length≤xs0.length+n*m→f (xs,(k:Int))=some (.inl (xs++h k,au ((k:Int)+1)))) (he:∀xs,f (xs,(n:Int))=some (.inr xs)):
  loop f (xs0,0)=some (xs0++(List.range n).flatMap h):=by
 have hlen:∀k,k≤n→((List.range k).flatMap h).length≤k*m:=by
  intro k
  induction k with
  | zero=>intro _;simp
  | succ k ih=>
   intro hk
   rw [oE,qt,cJ,lN]
   have:=ih (by omega)
   have:=hm k (by omega)
   simp only [oB,List.flatMap_nil,gz]
   omega
 obtain⟨t,ht,rfl⟩:=qV (f:=f) n hn (fun k xs=>xs=xs0++(List.range k).flatMap h) (fun t=>t=xs0++(List.range n).flatMap h)
  (fun k xs hk hx=> .inl ⟨_,by
   have h1:=hlen k (by omega)
   have h2:k*m≤n*m:=Nat.mul_le_mul_right _ (by omega)
   rw [hf xs k hk (by rw [hx,cJ];omega)],by
   rw [hx,oE,qt,iX];simp⟩)
  (fun xs hx=>⟨_,he xs,hx⟩) xs0 (by simp)
 exact ht
theorem nG{S:Type}(n m:Nat)(h:Nat→List S)(hm:∀k,k<n→(h k).length≤m):((List.range n).flatMap h).length≤n*m:=by
 induction n with
 | zero=>simp
 | succ k ih=>
  rw [oE,qt,cJ,lN]
  have:=ih (fun i hi=>hm i (by omega))
  have:=hm k (by omega)
  simp only [oB,List.flatMap_nil,gz]
  omega
def av.at{n:Nat}{S:Type}(a:av n S)(k:Nat)(h:k<n):S:=a.1[k]'(by rw [a.2];exact h)
theorem P1{n:Nat}{S:Type}{a:av n S}{k:Nat}(h:k<n):ix a.1 (k:Int)=some (a.at k h):=de (by rw [a.2];exact h)
theorem av.ext{n:Nat}{S:Type}{a b:av n S}(h:∀(k:Nat) (hk:k<n),a.at k hk=b.at k hk):a=b:=by
 apply Subtype.ext
 apply List.ext_getElem (by rw [a.2,b.2])
 intro i h1 h2
 exact h i (by rw [←a.2];exact h1)
theorem wrap_u32(n:Nat)(h:n<4294967296):IntKind.u32.wrap (n:Int)=(n:Int):=u32_in (by omega) (by omega)
theorem mh(n:Nat)(h:n<4294967296):(BitVec.ofInt 32 (n:Int)).toNat=n:=by
 rw [BitVec.toNat_ofInt];simp;omega
theorem Er(x y:Nat)(hx:x<4294967296)(hy:y<4294967296):qH .u32 (x:Int) (y:Int)=((x&&&y:Nat):Int):=by
 show IntKind.u32.wrap (((BitVec.ofInt 32 (x:Int)&&&BitVec.ofInt 32 (y:Int)).toNat:Nat):Int)=_
 rw [BitVec.toNat_and,mh x hx,mh y hy]
 exact wrap_u32 _ (rZ Nat.and_le_left hx)
theorem OK(x y:Nat)(hx:x<4294967296)(hy:y<4294967296):wC .u32 (x:Int) (y:Int)=((x ||| y:Nat):Int):=by
 show IntKind.u32.wrap (((BitVec.ofInt 32 (x:Int) ||| BitVec.ofInt 32 (y:Int)).toNat:Nat):Int)=_
 rw [BitVec.toNat_or,mh x hx,mh y hy]
 exact wrap_u32 _ (ua (n:=32) hx hy)
def Cu(x y:Nat):Nat:=x^^^(x&&&y)
theorem sG(x y i:Nat):(Cu x y).testBit i=(x.testBit i&& !(y.testBit i)):=by
 unfold Cu;rw [Nat.testBit_xor,Nat.testBit_and];cases x.testBit i<;>cases y.testBit i<;>rfl
theorem CJ(x y:Nat):Cu x y≤x:=by
 apply Nat.le_of_testBit
 intro i h
 rw [sG] at h
 simp at h
 exact h.1
theorem Et(x y:Nat)(hx:x<4294967296)(hy:y<4294967296):kl .u32 (x:Int) (y:Int)=((Cu x y:Nat):Int):=by
 show IntKind.u32.wrap (((BitVec.ofInt 32 (x:Int)&&& ~~~(BitVec.ofInt 32 (y:Int))).toNat:Nat):Int)=_
 have:(BitVec.ofInt 32 (x:Int)&&& ~~~(BitVec.ofInt 32 (y:Int))).toNat=Cu x y:=by
  apply rV
  intro i
  rw [sG]
  by_cases hi:i<32
  ·rw [BitVec.testBit_toNat,BitVec.getLsbD_and,BitVec.getLsbD_not,←BitVec.testBit_toNat,←BitVec.testBit_toNat,mh x hx,mh y hy]
   simp [hi]
  ·rw [BitVec.testBit_toNat,BitVec.getLsbD_of_ge _ _ (by omega)]
   have:x.testBit i=false:=Nat.testBit_lt_two_pow (oy hx (rA (n:=2) (by omega) (by omega:32≤i)))
   simp [this]
 rw [this]
 exact wrap_u32 _ (rZ (CJ x y) hx)
theorem qW(k:IntKind)(x t:Nat)(ht:t≤k.bits):eC k (x:Int) (t:Int)=((x>>>t:Nat):Int):=by
 unfold eC
 rw [kd,Nat.min_eq_left ht,xA]
 rw [show ((2:Int)^t)=((2^t:Nat):Int) by simp]
 rw [Int.fdiv_eq_ediv_of_nonneg _ (Int.natCast_nonneg _)]
 simp
theorem ve(t:Nat)(ht:t<32):fo .u32 1 (t:Int)=((2^t:Nat):Int):=by
 unfold fo
 rw [kd,Nat.min_eq_left (by simp [IntKind.bits];omega)]
 have h:(2:Nat)^t<4294967296:=rW (a:=2) (by omega) (by omega:t<32)
 have:=wrap_u32 (2^t) h
 rw [Int.one_mul,show ((2:Int)^t)=((2^t:Nat):Int) by simp]
 exact this
theorem Xw(x t:Nat):((x>>>t)&&&1)=1↔x.testBit t=true:=by
 rw [Nat.and_one_is_mod,zO,xA];simp
theorem Xx(x t:Nat):((x>>>t)%2)=1↔x.testBit t=true:=by
 rw [zO,xA];simp
theorem sH(x y:Nat):Int.tmod (x:Int) (y:Int)=((x%y:Nat):Int):=by
 rw [xy (by omega)];simp
theorem gB{S T:Type}{f:S→Option (S⊕T)}(n:Nat)(st:Nat→S)(t:T)(h:∀k,k<n→f (st k)=some (.inl (st (k+1))))(he:f (st n)=some (.inr t)):loop f (st 0)=some t:=by
 have key:∀j,j≤n→loop f (st (n-j))=some t:=by
  intro j
  induction j with
  | zero=>intro _;rw [bH,Nat.sub_zero,he]
  | succ j ih=>
   intro hj
   rw [bH,h (n-(j+1)) (by omega),show n-(j+1)+1=n-j by omega]
   exact ih (by omega)
 have:=key n (bt _)
 rwa [Nat.sub_self] at this
theorem wI(n:Int)(h0:-9223372036854775808≤n:=by omega)(h1:n≤9223372036854775807:=by omega):au n=n:=bc h0 h1
theorem dT{p:Prop} [Decidable p](h:p:=by omega):decide p=true:=decide_eq_true h
theorem dF{p:Prop} [Decidable p](h:¬p:=by omega):¬(decide p=true):=by simpa using h
end Go.Proofs.YtplklknkkaeniaaGreat.Eng
