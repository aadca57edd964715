/- Orders of drums: the reference's table of what is left, and the way that is read off it. -/
import Derived.Test.YtolfkfjjifdmeaaGreatM4
import Derived.Test.YtolfkfjjifdmeaaGreatPFrame
import Derived.Test.YtolfkfjjifdmeaaGreatPDrum
import Derived.Test.YtolfkfjjifdmeaaGreatPBits
import Derived.Test.YtolfkfjjifdmeaaGreatPBPath
import Derived.Test.YtolfkfjjifdmeaaGreatPOrdImpl
import Derived.Test.YtolfkfjjifdmeaaGreatPure
namespace Go.Proofs.YtolfkfjjifdmeaaGreat
open Eng
set_option linter.unusedVariables false
set_option linter.unusedSimpArgs false
def restV(c:Nat→Nat→Nat)(tl:Nat→Nat)(n a left:Nat):Nat:=(bestP c tl n (card n left) a left).1
structure KnOk (c:Nat→Nat→Nat) (tl:Nat→Nat) (n:Nat) (K:List (List Int)):Prop where
 len:K.length=n
 row:∀a:Nat,a<n→∃r,ix K (a:Int)=some r∧r.length=2^n∧∀l:Nat,l<2^n→∃v,ix r (l:Int)=some v∧(v=-1∨v=((restV c tl n a l:Nat):Int))
section
variable {T:List (List Int)} {n:Nat} {c:Nat→Nat→Nat} {tl:Nat→Nat} {circle:Bool}
theorem kn_set{K:List (List Int)}(h:KnOk c tl n K){a l:Nat}(ha:a<n)(hl:l<2^n){r:List Int}(hr:ix K (a:Int)=some r):KnOk c tl n (K.set a (r.set l ((restV c tl n a l:Nat):Int))):=by
 obtain⟨r',h1,h2,h3⟩:=h.row a ha
 rw [hr] at h1
 obtain rfl:=Option.some.inj h1
 refine⟨by rw [List.length_set];exact h.len,fun b hb=> ?_⟩
 have hKl:=h.len
 by_cases e:a=b
 ·subst e
  refine⟨r.set l ((restV c tl n a l:Nat):Int),?_,by rw [List.length_set];exact h2,fun m hm=> ?_⟩
  ·rw [ix_lt (by rw [List.length_set];omega)];simp
  ·by_cases e2:l=m
   ·subst e2
    exact⟨_,by rw [ix_lt (by rw [List.length_set];omega)];simp, .inr rfl⟩
   ·obtain⟨v,v1,v2⟩:=h3 m hm
    refine⟨v,?_,v2⟩
    rw [ix_lt (by omega)] at v1
    rw [ix_lt (by rw [List.length_set];omega),List.getElem_set_ne e2]
    exact v1
 ·obtain⟨r2,g1,g2,g3⟩:=h.row b hb
  refine⟨r2,?_,g2,g3⟩
  rw [ix_lt (by omega)] at g1
  rw [ix_lt (by rw [List.length_set];omega),List.getElem_set_ne e]
  exact g1
theorem rest_is(hT:TabC T n c)(htl:tl=fun i=>if circle=true then c i 0 else 0):∀(m fu a left:Nat) (K:List (List Int)),card n left=m→m<fu→a<n→left<2^n→KnOk c tl n K→
  ∃K',FD.rec_ fu T (a:Int) (left:Int) circle K=some (((restV c tl n a left:Nat):Int),K')∧KnOk c tl n K':=by
 have h8:=hT.n8
 have h1':=hT.n1
 have htb:∀i,tl i≤1000000:=by intro i;rw [htl];simp only;split;exact hT.bd i 0;omega
 have hp8:2^n≤2^8:=Nat.pow_le_pow_right (by omega) h8
 have e8:(2^8:Nat)=256:=rfl
 have e61:(2^61:Nat)=2305843009213693952:=rfl
 intro m
 induction m with
 | zero=>
  intro fu a left K hc hf ha hl hK
  obtain⟨fu,rfl⟩:∃k,fu=k+1:=⟨fu-1,by omega⟩
  obtain rfl:=(card_zero hl).1 hc
  obtain⟨r,r1,r2⟩:=hT.at_ a 0 ha (by omega)
  have r2:ix r 0=some ((c a 0:Nat):Int):=r2
  have e:restV c tl n a 0=tl a:=by unfold restV;rw [hc];rfl
  rw [e,htl]
  simp only [FD.rec_,FD.step]
  rw [if_pos (by simp)]
  cases circle with
  | true=>simp only [if_true,r1,r2,Option.bind_some];exact⟨K,rfl,htl▸hK⟩
  | false=>exact⟨K,rfl,htl▸hK⟩
 | succ m ih=>
  intro fu a left K hc hf ha hl hK
  obtain⟨fu,rfl⟩:∃k,fu=k+1:=⟨fu-1,by omega⟩
  have hl0:left≠0:=fun e=>by rw [(card_zero hl).2 e] at hc;cases hc
  obtain⟨r,g1,g2,g3⟩:=hK.row a ha
  obtain⟨v,v1,v2⟩:=g3 left hl
  simp only [FD.rec_,FD.step,g1,v1,Option.bind_some]
  rw [if_neg (by simp;omega)]
  by_cases hv:v≥0
  ·rw [if_pos (by simpa using hv)]
   rcases v2 with v2 | v2
   ·omega
   ·rw [v2];exact⟨K,rfl,hK⟩
  ·rw [if_neg (by simpa using hv)]
   have hrv:restV c tl n a left=(bestP c tl n (m+1) a left).1:=by unfold restV;rw [hc]
   have hsub:∀k,k<n→left.testBit k=true→card n (off left k)=m:=fun k hk hb=>by have:=card_off hk hb;omega
   obtain⟨⟨K2,i2⟩,hlp,hK2,hi2⟩:=loop_inv (f:=FD.l_13 (FD.rec_ fu) T (a:Int) (left:Int) circle)
    (fun s=>∃k:Nat,k≤n∧s.2.2=(k:Int)∧KnOk c tl n s.1∧s.2.1=enc1 (fms none ((rem k left).map fun k=>shift (c a k) [k] (bestP c tl n m k (off left k)))))
    (fun s=>n-s.2.2.toNat) (fun t=>KnOk c tl n t.1∧t.2=((restV c tl n a left:Nat):Int)) (by
    rintro⟨xt,i,_⟩ ⟨k,hk,rfl,hxt,hi⟩
    simp only at hxt hi
    by_cases hkn:k=n
    ·right
     subst hkn
     refine⟨(xt,i),?_,hxt,?_⟩
     ·simp only [FD.l_13]
      rw [if_neg (by rw [decide_eq_true_eq,hT.len];omega)]
     ·show i=_
      rw [hi,bestP_some hc,hrv];rfl
    ·left
     have hkn:k<n:=by omega
     have hw:w64 ((k:Int)+1)=((k+1:Nat):Int):=by rw [w64_in (by omega) (by omega)];omega
     simp only [FD.l_13,bit64 (show k≤61 by omega),shl64 (show k≤61 by omega),hw]
     rw [if_pos (by rw [decide_eq_true_eq,hT.len];omega),if_pos (by rw [u64_in (by omega) (by omega)];omega)]
     cases hb:left.testBit k with
     | false=>
      refine⟨_,rfl,⟨k+1,by omega,rfl,hxt,?_⟩,by simp only;omega⟩
      show i=_
      rw [hi,rem_succ,hb];simp
     | true=>
      obtain⟨q,q1,q2⟩:=hT.at_ a k ha hkn
      have hoff:=off_lt hl hkn
      obtain⟨K',k1,k2⟩:=ih fu k (off left k) xt (hsub k hkn hb) (by omega) hkn hoff hxt
      have hxr:bXor .i64 (left:Int) ((2^k:Nat):Int)=((off left k:Nat):Int):=xor64 (by omega) (Nat.pow_lt_pow_right (by omega) (by omega))
      have hbd:=bestP_bd (c:=c) (tl:=tl) hT.bd htb m k (off left k) (hsub k hkn hb)
      have hcm:m≤8:=by
       have:=cR_le (fun i=>left.testBit i) n
       have hcc:cR (fun i=>left.testBit i) n=m+1:=hc
       omega
      have hm2:1000000*(m+1)≤1000000*9:=Nat.mul_le_mul_left _ (by omega)
      have hrk:restV c tl n k (off left k)=(bestP c tl n m k (off left k)).1:=by unfold restV;rw [hsub k hkn hb]
      have hck:=hT.bd a k
      have hw2:w64 (((c a k:Nat):Int)+((restV c tl n k (off left k):Nat):Int))=((c a k+(bestP c tl n m k (off left k)).1:Nat):Int):=by rw [hrk,w64_in (by omega) (by omega)];omega
      simp only [Bool.not_true,Bool.false_eq_true,if_false,q1,q2,hxr,k1,Option.bind_some,hw2]
      rw [if_pos (by rw [u64_in (by omega) (by omega)];omega)]
      have hstep:(if((decide (i<0)) || (decide (((c a k+(bestP c tl n m k (off left k)).1:Nat):Int)<i)))=true then((c a k+(bestP c tl n m k (off left k)).1:Nat):Int) else i)=enc1 (fms none ((rem (k+1) left).map fun k=>shift (c a k) [k] (bestP c tl n m k (off left k)))):=by
       rw [rem_succ,hb,if_pos rfl,List.map_append,fms_app,hi]
       generalize fms none ((rem k left).map fun k=>shift (c a k) [k] (bestP c tl n m k (off left k)))=s
       have:=enc_fmO (s:=s) (C:=c a k+(bestP c tl n m k (off left k)).1) (p:= [k]++(bestP c tl n m k (off left k)).2)
       by_cases hcnd:((decide (enc1 s<0)) || (decide (((c a k+(bestP c tl n m k (off left k)).1:Nat):Int)<enc1 s)))=true
       ·rw [if_pos hcnd] at this⊢
        exact(congrArg Prod.fst (Option.some.inj this))
       ·rw [if_neg hcnd] at this⊢
        exact(congrArg Prod.fst (Option.some.inj this))
      by_cases hcnd:((decide (i<0)) || (decide (((c a k+(bestP c tl n m k (off left k)).1:Nat):Int)<i)))=true
      ·rw [if_pos hcnd] at hstep⊢
       exact⟨_,rfl,⟨k+1,by omega,rfl,k2,hstep⟩,by simp only;omega⟩
      ·rw [if_neg hcnd] at hstep⊢
       exact⟨_,rfl,⟨k+1,by omega,rfl,k2,hstep⟩,by simp only;omega⟩)
    (K,-1,0) ⟨0,by omega,rfl,hK,rfl⟩
   simp only at hK2 hi2
   subst hi2
   obtain⟨r2,p1,p2,p3⟩:=hK2.row a ha
   obtain⟨v2',u1,_⟩:=p3 left hl
   simp only [hlp,Option.bind_some,FD.k_8,p1,u1,Int.toNat_natCast]
   exact⟨_,rfl,kn_set hK2 ha hl p1⟩
def kn0(n:Nat):List (List Int):=List.replicate n (List.replicate (2^n) (-1))
theorem kn0_ok:KnOk c tl n (kn0 n):=by
 refine⟨by simp [kn0],fun a ha=>⟨List.replicate (2^n) (-1),?_,by simp,fun l hl=>⟨-1,?_, .inl rfl⟩⟩⟩
 ·rw [ix_lt (by simp [kn0];exact ha)];simp [kn0]
 ·rw [ix_lt (by simp;exact hl)];simp
theorem begin_is(hT:TabC T n c):loop (Fp.l_23 T) ([],0)=some (kn0 n):=by
 have h8:=hT.n8
 have hp8:2^n≤2^8:=Nat.pow_le_pow_right (by omega) h8
 have e8:(2^8:Nat)=256:=rfl
 have hsh:bShl .i64 1 (u64 (T.length:Int))=((2^n:Nat):Int):=by rw [hT.len];exact shl64 (by omega)
 have hpp:(0:Int)≤((2^n:Nat):Int)∧((2^n:Nat):Int)≤17592186044416:=by
  generalize 2^n=q at*
  omega
 have hfill:loop (Fp.l_29 T) (List.replicate (2^n) 0,0)=some (List.replicate (2^n) (-1)):=by
  have:=loop_seq (f:=Fp.l_29 T) (2^n) (fun k=>(List.replicate k (-1:Int)++List.replicate (2^n-k) 0,(k:Int))) (List.replicate (2^n) (-1)) (fun k hk=>by
   have hx:ix (List.replicate k (-1:Int)++List.replicate (2^n-k) 0) (k:Int)=some 0:=by
    rw [ix_lt (by simp;omega)];simp
   simp only [Fp.l_29,hsh,hx,Option.bind_some,Int.toNat_natCast]
   rw [if_pos (by rw [decide_eq_true_eq];omega),w64_in (by omega) (by omega),show 2^n-k=(2^n-(k+1))+1 by omega,List.replicate_succ (n:=2^n-(k+1))]
   rw [List.set_append_right _ _ (by simp)]
   simp only [List.length_replicate,Nat.sub_self,List.set_cons_zero,List.replicate_succ' (n:=k),List.append_assoc,List.cons_append,List.nil_append]
   rfl) (by
   simp only [Fp.l_29,hsh,Int.toNat_natCast]
   rw [if_neg (by simp),Nat.sub_self]
   simp)
  simpa using this
 have:=loop_seq (f:=Fp.l_23 T) n (fun k=>(List.replicate k (List.replicate (2^n) (-1)),(k:Int))) (kn0 n) (fun k hk=>by
  simp only [Fp.l_23,hsh,Int.toNat_natCast,hfill,Option.bind_some,Fp.k_26]
  rw [if_pos (by rw [decide_eq_true_eq,hT.len];omega),if_pos (by rw [hT.len,u64_in (by omega) (by omega)];omega),if_pos hpp,if_pos (by simp;omega),w64_in (by omega) (by omega)]
  rw [List.replicate_succ']
  rfl) (by
  simp only [Fp.l_23]
  rw [if_neg (by rw [decide_eq_true_eq,hT.len];omega)]
  rfl)
 simpa using this
theorem way_is(hT:TabC T n c)(htl:tl=fun i=>if circle=true then c i 0 else 0):∀(m a left:Nat) (K:List (List Int)) (o:List Nat),card n left=m→a<n→left<2^n→o.length+m≤8→KnOk c tl n K→
  ∃K',loop (Fp.l_9 T circle) (K,cst o,(left:Int),(a:Int),((restV c tl n a left:Nat):Int))=some (K',cst (o++(bestP c tl n m a left).2)):=by
 have h8:=hT.n8
 have h1':=hT.n1
 have htb:∀i,tl i≤1000000:=by intro i;rw [htl];simp only;split;exact hT.bd i 0;omega
 have hp8:2^n≤2^8:=Nat.pow_le_pow_right (by omega) h8
 have e8:(2^8:Nat)=256:=rfl
 have e61:(2^61:Nat)=2305843009213693952:=rfl
 intro m
 induction m with
 | zero=>
  intro a left K o hc ha hl ho hK
  obtain rfl:=(card_zero hl).1 hc
  refine⟨K,?_⟩
  rw [loop_eq]
  simp only [Fp.l_9]
  rw [if_neg (by simp)]
  simp [bestP]
 | succ m ih=>
  intro a left K o hc ha hl ho hK
  have hl0:left≠0:=fun e=>by rw [(card_zero hl).2 e] at hc;cases hc
  obtain⟨ks,ks1,ks2,e,e2,b1,b2⟩:=bestP_step (c:=c) (tl:=tl) (a:=a) hc
  have hks:ks∈rem n left:=by rw [e];simp
  obtain⟨hkn,hkb⟩:=mem_rem.1 hks
  have hrv:restV c tl n a left=(bestP c tl n (m+1) a left).1:=by unfold restV;rw [hc]
  have hsub:∀k,k<n→left.testBit k=true→card n (off left k)=m:=fun k hk hb=>by have:=card_off hk hb;omega
  have hrk:∀k,k<n→left.testBit k=true→restV c tl n k (off left k)=(bestP c tl n m k (off left k)).1:=fun k hk hb=>by unfold restV;rw [hsub k hk hb]
  have hlow:∀j,j<ks→left.testBit j=true→(bestP c tl n (m+1) a left).1<c a j+(bestP c tl n m j (off left j)).1:=by
   intro j hj hb
   have hjm:j∈rem n left:=mem_rem.2 ⟨by omega,hb⟩
   rw [e] at hjm
   rcases List.mem_append.1 hjm with h | h
   ·exact b1 j h
   ·have hs:=rem_sorted n left
    rw [e] at hs
    have hs2:=(List.pairwise_append.1 hs).2.1
    rcases List.mem_cons.1 h with h | h
    ·omega
    ·have:=(List.pairwise_cons.1 hs2).1 j h;omega
  obtain⟨⟨K2,o2,l2,a2,r2⟩,hlp,hK2,hq⟩:=loop_inv (f:=Fp.l_17 T circle (cst o) (left:Int) (a:Int) ((restV c tl n a left:Nat):Int))
   (fun s=>∃k:Nat,k≤ks∧s.2=(k:Int)∧KnOk c tl n s.1) (fun s=>n-s.2.toNat)
   (fun t=>KnOk c tl n t.1∧t.2=(cst (o++ [ks]),((off left ks:Nat):Int),(ks:Int),((restV c tl n ks (off left ks):Nat):Int))) (by
   rintro⟨xt,_⟩ ⟨k,hk,rfl,hxt⟩
   simp only at hxt
   have hkn2:k<n:=by omega
   have hw:w64 ((k:Int)+1)=((k+1:Nat):Int):=by rw [w64_in (by omega) (by omega)];omega
   have hu:0≤u64 (k:Int):=by rw [u64_in (by omega) (by omega)];omega
   simp only [Fp.l_17,bit64 (show k≤61 by omega),shl64 (show k≤61 by omega),hw]
   rw [if_pos (by rw [decide_eq_true_eq,hT.len];omega),if_pos hu]
   cases hb:left.testBit k with
   | false=>
    left
    have hne:k≠ks:=fun e=>by subst e;rw [hkb] at hb;cases hb
    exact⟨_,rfl,⟨k+1,by omega,rfl,hxt⟩,by simp only;omega⟩
   | true=>
    obtain⟨q,q1,q2⟩:=hT.at_ a k ha hkn2
    have hoff:=off_lt hl hkn2
    have hcm:m+1≤8:=by
     have:=cR_le (fun i=>left.testBit i) n
     have hcc:cR (fun i=>left.testBit i) n=m+1:=hc
     omega
    obtain⟨K',k1,k2⟩:=rest_is hT htl m 16 k (off left k) xt (hsub k hkn2 hb) (by omega) hkn2 hoff hxt
    have k1:FD T (k:Int) ((off left k:Nat):Int) circle xt=_:=k1
    have hxr:bXor .i64 (left:Int) ((2^k:Nat):Int)=((off left k:Nat):Int):=xor64 (by omega) (Nat.pow_lt_pow_right (by omega) (by omega))
    have hbd:=bestP_bd (c:=c) (tl:=tl) hT.bd htb m k (off left k) (hsub k hkn2 hb)
    have hm2:1000000*(m+1)≤1000000*9:=Nat.mul_le_mul_left _ (by omega)
    have hck:=hT.bd a k
    have hw2:w64 (((c a k:Nat):Int)+((restV c tl n k (off left k):Nat):Int))=((c a k+(bestP c tl n m k (off left k)).1:Nat):Int):=by rw [hrk k hkn2 hb,w64_in (by omega) (by omega)];omega
    simp only [Bool.not_true,Bool.false_eq_true,if_false,q1,q2,hxr,k1,Option.bind_some,hw2]
    rw [if_pos hu]
    by_cases hke:k=ks
    ·right
     subst hke
     have heq:((c a k+(bestP c tl n m k (off left k)).1:Nat):Int)=((restV c tl n a left:Nat):Int):=by rw [hrv,e2];rfl
     rw [if_pos (by rw [heq];simp),if_pos (by rw [cst_len];simp;omega),if_pos hu]
     refine⟨_,rfl,k2,?_⟩
     rw [cst_app];rfl
    ·left
     have hlt:=hlow k (by omega) hb
     rw [if_neg (by rw [hrv];simp;omega)]
     exact⟨_,rfl,⟨k+1,by omega,rfl,k2⟩,by simp only;omega⟩)
   (K,0) ⟨0,by omega,rfl,hK⟩
  simp only [Prod.mk.injEq] at hq hK2
  obtain⟨rfl,rfl,rfl,rfl⟩:=hq
  obtain⟨K3,h3⟩:=ih ks (off left ks) K2 (o++ [ks]) (hsub ks hkn hkb) hkn (off_lt hl hkn) (by simp;omega) hK2
  refine⟨K3,?_⟩
  rw [loop_eq]
  simp only [Fp.l_9,hlp,Option.bind_some,Fp.k_15]
  rw [if_pos (by simp;omega)]
  simp only
  rw [h3,e2]
  simp [shift]
theorem l05Best_is(hT:TabC T n c)(htl:tl=fun i=>if circle=true then c i 0 else 0){a:Nat}(ha:a<n):
  Fp T (a:Int) circle=some (cst (a::(bestP c tl n (n-1) a (off (2^n-1) a)).2),(((bestP c tl n (n-1) a (off (2^n-1) a)).1:Nat):Int)):=by
 have h8:=hT.n8
 have hp8:2^n≤2^8:=Nat.pow_le_pow_right (by omega) h8
 have e8:(2^8:Nat)=256:=rfl
 have e61:(2^61:Nat)=2305843009213693952:=rfl
 have hp:1≤2^n:=Nat.pos_of_ne_zero (by simp)
 have hsh:bShl .i64 1 (u64 (T.length:Int))=((2^n:Nat):Int):=by rw [hT.len];exact shl64 (by omega)
 have hsub:w64 (((2^n:Nat):Int)-1)=((2^n-1:Nat):Int):=by
  generalize 2^n=q at*
  rw [w64_in (by omega) (by omega)];omega
 have hfull:∀i,i<n→(2^n-1).testBit i=true:=fun i hi=>by rw [Nat.testBit_two_pow_sub_one];simp [hi]
 have hlt:2^n-1<2^n:=by omega
 have hcf:card n (2^n-1)=n:=by
  unfold card
  have:∀k,k≤n→cR (fun i=>(2^n-1).testBit i) k=k:=by
   intro k
   induction k with
   | zero=>intro _;rfl
   | succ k ih=>intro hk;show cR _ k+_=_;rw [ih (by omega),if_pos (hfull k (by omega))]
  exact this n (Nat.le_refl _)
 have hcard:card n (off (2^n-1) a)=n-1:=by have:=card_off ha (hfull a ha);omega
 have hxr:bXor .i64 ((2^n-1:Nat):Int) ((2^a:Nat):Int)=((off (2^n-1) a:Nat):Int):=xor64 (by omega) (Nat.pow_lt_pow_right (by omega) (by omega))
 have hol:=off_lt hlt ha
 obtain⟨K1,r1,k1⟩:=rest_is hT htl (n-1) 16 a (off (2^n-1) a) (kn0 n) hcard (by omega) ha hol kn0_ok
 have r1:FD T (a:Int) ((off (2^n-1) a:Nat):Int) circle (kn0 n)=_:=r1
 obtain⟨K2,w2⟩:=way_is hT htl (n-1) a (off (2^n-1) a) K1 [a] hcard ha hol (by simp;omega) k1
 have hr:restV c tl n a (off (2^n-1) a)=(bestP c tl n (n-1) a (off (2^n-1) a)).1:=by unfold restV;rw [hcard]
 have w2:loop (Fp.l_9 T circle) (K1,([(a:Int)]:List Int),((off (2^n-1) a:Nat):Int),(a:Int),((restV c tl n a (off (2^n-1) a):Nat):Int))=_:=w2
 simp only [Fp,begin_is hT,Option.bind_some,Fp.k_1,hsh,hsub,shl64 (show a≤61 by omega),hxr,r1,w2,Fp.k_4]
 rw [if_pos (by rw [hT.len,u64_in (by omega) (by omega)];omega),if_pos (by rw [u64_in (by omega) (by omega)];omega),hr]
 rfl
end
end Go.Proofs.YtolfkfjjifdmeaaGreat
