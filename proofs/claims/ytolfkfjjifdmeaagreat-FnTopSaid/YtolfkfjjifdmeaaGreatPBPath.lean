/- Orders of drums: of some candidates the first one of least cost; the best way through all that are left, numbers told by bits. -/
import Derived.Test.YtolfkfjjifdmeaaGreatT
import Derived.Test.YtolfkfjjifdmeaaGreatPFrame
import Derived.Test.YtolfkfjjifdmeaaGreatPDrum
import Derived.Test.YtolfkfjjifdmeaaGreatPBits
import Derived.Test.YtolfkfjjifdmeaaGreatPure
namespace Go.Proofs.YtolfkfjjifdmeaaGreat
open Eng
set_option linter.unusedVariables false
set_option linter.unusedSimpArgs false
abbrev Cd:=Nat×List Nat
def fmO:Option Cd→Cd→Option Cd
 | none,x=>some x
 | some y,x=>if x.1<y.1 then some x else some y
def fms(s:Option Cd)(xs:List Cd):Option Cd:=xs.foldl fmO s
def orO(s:Option Cd):Option Cd→Option Cd
 | none=>s
 | some x=>fmO s x
theorem fms_cons(s:Option Cd)(x:Cd)(xs:List Cd):fms s (x::xs)=fms (fmO s x) xs:=rfl
theorem fms_app(s:Option Cd)(xs ys:List Cd):fms s (xs++ys)=fms (fms s xs) ys:=List.foldl_append
theorem fms_or:∀(xs:List Cd) (s:Option Cd),fms s xs=orO s (fms none xs):=by
 intro xs
 induction xs with
 | nil=>intro s;rfl
 | cons x xs ih=>
  intro s
  rw [fms_cons,fms_cons,ih (fmO s x)]
  show orO (fmO s x) (fms none xs)=orO s (fms (some x) xs)
  rw [ih (some x)]
  cases fms none xs with
  | none=>cases s<;>rfl
  | some w=>
   cases s with
   | none=>simp only [orO,fmO];split<;>rfl
   | some y=>
    simp only [orO,fmO]
    by_cases h1:x.1<y.1
    ·rw [if_pos h1]
     by_cases h2:w.1<x.1
     ·rw [if_pos h2];simp only [fmO];rw [if_pos h2,if_pos (by omega)]
     ·rw [if_neg h2];simp only [fmO];rw [if_neg h2,if_pos h1]
    ·rw [if_neg h1]
     by_cases h2:w.1<x.1
     ·rw [if_pos h2]
     ·rw [if_neg h2];simp only [fmO];rw [if_neg h1,if_neg (by omega)]
theorem fms_some{xs:List Cd}(h:xs≠ []):∃x,fms none xs=some x:=by
 cases xs with
 | nil=>exact absurd rfl h
 | cons x xs=>
  rw [fms_cons,fms_or]
  show∃z,orO (some x) (fms none xs)=some z
  cases fms none xs with
  | none=>exact⟨x,rfl⟩
  | some w=>simp only [orO,fmO];split<;>exact⟨_,rfl⟩
def shift(C:Nat)(pre:List Nat)(x:Cd):Cd:=(C+x.1,pre++x.2)
theorem fmO_map(C:Nat)(pre:List Nat)(s:Option Cd)(x:Cd):fmO (s.map (shift C pre)) (shift C pre x)=(fmO s x).map (shift C pre):=by
 cases s with
 | none=>rfl
 | some y=>
  simp only [Option.map_some,fmO,shift]
  by_cases h:x.1<y.1
  ·rw [if_pos h,if_pos (by omega)];rfl
  ·rw [if_neg h,if_neg (by omega)];rfl
theorem fms_map(C:Nat)(pre:List Nat):∀(xs:List Cd) (s:Option Cd),fms (s.map (shift C pre)) (xs.map (shift C pre))=(fms s xs).map (shift C pre):=by
 intro xs
 induction xs with
 | nil=>intro s;rfl
 | cons x xs ih=>intro s;rw [List.map_cons,fms_cons,fms_cons,fmO_map,ih]
theorem fms_first:∀{xs:List Cd} {x:Cd},fms none xs=some x→∃ys zs,xs=ys++x::zs∧(∀y∈ys,x.1<y.1)∧∀z∈zs,x.1≤z.1:=by
 intro xs
 induction xs with
 | nil=>intro x h;cases h
 | cons a xs ih=>
  intro x h
  rw [fms_cons,fms_or] at h
  have h:orO (some a) (fms none xs)=some x:=h
  cases hw:fms none xs with
  | none=>
   rw [hw] at h
   obtain rfl:=Option.some.inj h
   cases xs with
   | nil=>exact⟨[],[],rfl,by simp,by simp⟩
   | cons b xs=>obtain⟨z,hz⟩:=fms_some (xs:=b::xs) (by simp);rw [hw] at hz;cases hz
  | some w=>
   rw [hw] at h
   obtain⟨ys,zs,e,h1,h2⟩:=ih hw
   simp only [orO,fmO] at h
   split at h
   ·rename_i hlt
    obtain rfl:=Option.some.inj h
    refine⟨a::ys,zs,by rw [e];rfl,?_,h2⟩
    intro y hy
    rcases List.mem_cons.1 hy with rfl | hy
    ·exact hlt
    ·exact h1 y hy
   ·rename_i hlt
    obtain rfl:=Option.some.inj h
    refine⟨[],xs,rfl,by simp,?_⟩
    intro z hz
    rw [e] at hz
    rcases List.mem_append.1 hz with hz | hz
    ·have:=h1 z hz;omega
    ·rcases List.mem_cons.1 hz with rfl | hz
     ·omega
     ·have:=h2 z hz;omega
def rem(n left:Nat):List Nat:=(List.range n).filter fun k=>left.testBit k
def off(left k:Nat):Nat:=left^^^2^k
def card(n left:Nat):Nat:=cR (fun k=>left.testBit k) n
theorem mem_rem{n left k:Nat}:k∈rem n left↔k<n∧left.testBit k=true:=by simp [rem]
theorem rem_succ(n left:Nat):rem (n+1) left=rem n left++(if left.testBit n=true then [n] else []):=by
 unfold rem
 rw [List.range_succ,List.filter_append]
 cases h:left.testBit n<;>simp [h]
theorem rem_len(left:Nat):∀n,(rem n left).length=card n left:=by
 intro n
 induction n with
 | zero=>rfl
 | succ n ih=>
  rw [rem_succ,List.length_append,ih]
  show _=card n left+(if left.testBit n=true then 1 else 0)
  cases left.testBit n<;>simp
theorem rem_sorted(n left:Nat):(rem n left).Pairwise (· < ·):=(List.pairwise_lt_range).filter _
theorem off_bit(left k i:Nat):(off left k).testBit i=(left.testBit i !=decide (k=i)):=by
 unfold off
 rw [Nat.testBit_xor,Nat.testBit_two_pow]
theorem card_off{n left k:Nat}(hk:k<n)(h:left.testBit k=true):card n (off left k)+1=card n left:=by
 unfold card
 have hp:(off left k).testBit k=false:=by rw [off_bit,h];simp
 rw [←cR_put hp n hk]
 refine cR_ext n fun i _=> ?_
 rw [off_bit]
 by_cases e:i=k
 ·subst e;simp [h]
 ·have:¬k=i:=fun h=>e h.symm
  simp [e,this]
theorem off_lt{n left k:Nat}(hl:left<2^n)(hk:k<n):off left k<2^n:=Nat.xor_lt_two_pow hl (Nat.pow_lt_pow_right (by omega) hk)
theorem card_zero{n left:Nat}(hl:left<2^n):card n left=0↔left=0:=by
 constructor
 ·intro h
  refine Nat.eq_of_testBit_eq fun i=> ?_
  rw [Nat.zero_testBit]
  by_cases hi:i<n
  ·have hr:(rem n left)= []:=List.eq_nil_of_length_eq_zero (by rw [rem_len,h])
   cases hb:left.testBit i with
   | false=>rfl
   | true=>have:=mem_rem.2 ⟨hi,hb⟩;rw [hr] at this;cases this
  ·exact Nat.testBit_lt_two_pow (Nat.lt_of_lt_of_le hl (Nat.pow_le_pow_right (by omega) (by omega)))
 ·rintro rfl
  exact cR_none n fun i _=>Nat.zero_testBit i
def bestP(c:Nat→Nat→Nat)(tl:Nat→Nat)(n:Nat):Nat→Nat→Nat→Cd
 | 0=>fun a _=>(tl a,[])
 | m+1=>fun a left=>(fms none ((rem n left).map fun k=>shift (c a k) [k] (bestP c tl n m k (off left k)))).getD (tl a,[])
section
variable {c:Nat→Nat→Nat} {tl:Nat→Nat} {n:Nat}
theorem bestP_some{m a left:Nat}(h:card n left=m+1):fms none ((rem n left).map fun k=>shift (c a k) [k] (bestP c tl n m k (off left k)))=some (bestP c tl n (m+1) a left):=by
 have hne:(rem n left).map (fun k=>shift (c a k) [k] (bestP c tl n m k (off left k)))≠ []:=by
  intro e
  have:=congrArg List.length e
  rw [List.length_map,rem_len,h] at this
  simp at this
 obtain⟨x,hx⟩:=fms_some hne
 simp only [bestP,hx,Option.getD_some]
theorem bestP_step{m a left:Nat}(h:card n left=m+1):∃k ks1 ks2,rem n left=ks1++k::ks2∧bestP c tl n (m+1) a left=shift (c a k) [k] (bestP c tl n m k (off left k))∧
  (∀y∈ks1,(bestP c tl n (m+1) a left).1<c a y+(bestP c tl n m y (off left y)).1)∧∀y∈ks2,(bestP c tl n (m+1) a left).1≤c a y+(bestP c tl n m y (off left y)).1:=by
 obtain⟨ys,zs,e,h1,h2⟩:=fms_first (bestP_some (c:=c) (tl:=tl) (a:=a) h)
 obtain⟨ks1,r,e1,rfl,e2⟩:=List.map_eq_append_iff.1 e
 obtain⟨k,ks2,rfl,e3,rfl⟩:=List.map_eq_cons_iff.1 e2
 refine⟨k,ks1,ks2,e1,e3.symm,?_,?_⟩
 ·intro y hy;exact h1 _ (List.mem_map.2 ⟨y,hy,rfl⟩)
 ·intro y hy;exact h2 _ (List.mem_map.2 ⟨y,hy,rfl⟩)
theorem bestP_bd{B:Nat}(hc:∀i k,c i k≤B)(ht:∀i,tl i≤B):∀(m a left:Nat),card n left=m→(bestP c tl n m a left).1≤B*(m+1):=by
 intro m
 induction m with
 | zero=>intro a left _;show tl a≤_;have:=ht a;omega
 | succ m ih=>
  intro a left h
  obtain⟨k,ks1,ks2,e,e2,_,_⟩:=bestP_step (c:=c) (tl:=tl) (a:=a) h
  have hk:k∈rem n left:=by rw [e];simp
  obtain⟨hkn,hkb⟩:=mem_rem.1 hk
  have:=ih k (off left k) (by have:=card_off hkn hkb;omega)
  rw [e2]
  show c a k+_≤_
  have:=hc a k
  rw [show B*(m+1+1)=B*(m+1)+B by rw [Nat.mul_add B (m+1) 1];omega]
  omega
theorem bestP_path:∀(m a left:Nat),card n left=m→(bestP c tl n m a left).2.length=m∧∀x∈(bestP c tl n m a left).2,x<n:=by
 intro m
 induction m with
 | zero=>intro a left _;exact⟨rfl,by intro x hx;cases hx⟩
 | succ m ih=>
  intro a left h
  obtain⟨k,ks1,ks2,e,e2,_,_⟩:=bestP_step (c:=c) (tl:=tl) (a:=a) h
  have hk:k∈rem n left:=by rw [e];simp
  obtain⟨hkn,hkb⟩:=mem_rem.1 hk
  obtain⟨h1,h2⟩:=ih k (off left k) (by have:=card_off hkn hkb;omega)
  rw [e2]
  refine⟨by simp [shift,h1],?_⟩
  intro x hx
  simp only [shift,List.cons_append,List.nil_append,List.mem_cons] at hx
  rcases hx with rfl | hx
  ·exact hkn
  ·exact h2 x hx
end
theorem shl64{k:Nat}(hk:k≤61):bShl .i64 1 (u64 (k:Int))=((2^k:Nat):Int):=by
 have hp:2^k≤2^61:=Nat.pow_le_pow_right (by omega) hk
 rw [show (2^61:Nat)=2305843009213693952 from rfl] at hp
 rw [u64_in (by omega) (by omega)]
 unfold bShl
 have e:min ((k:Int).toNat) IntKind.i64.bits=k:=by
  have:IntKind.i64.bits=64:=rfl
  rw [this];simp;omega
 have e2:((2:Int)^k)=((2^k:Nat):Int):=by simp
 rw [e,Int.one_mul,e2]
 generalize 2^k=p at*
 exact w64_in (by omega) (by omega)
theorem xor64{a b:Nat}(ha:a<2^61)(hb:b<2^61):bXor .i64 (a:Int) (b:Int)=((a^^^b:Nat):Int):=by
 have hx:a^^^b<2^61:=Nat.xor_lt_two_pow ha hb
 have e61:(2^61:Nat)=2305843009213693952:=rfl
 unfold bXor
 have e1:(BitVec.ofInt IntKind.i64.bits (a:Int)).toNat=a:=by
  show (BitVec.ofInt 64 (a:Int)).toNat=a
  rw [BitVec.toNat_ofInt];omega
 have e2:(BitVec.ofInt IntKind.i64.bits (b:Int)).toNat=b:=by
  show (BitVec.ofInt 64 (b:Int)).toNat=b
  rw [BitVec.toNat_ofInt];omega
 rw [BitVec.toNat_xor,e1,e2]
 exact w64_in (by omega) (by omega)
theorem bit64{l k:Nat}(hk:k≤61):(Int.tmod (bShr .i64 (l:Int) (u64 (k:Int))) 2==0)= !(l.testBit k):=by
 rw [u64_in (by omega) (by omega)]
 unfold bShr
 have e:min ((k:Int).toNat) IntKind.i64.bits=k:=by
  have:IntKind.i64.bits=64:=rfl
  rw [this];simp;omega
 have e1:((2:Int)^k)=((2^k:Nat):Int):=by simp
 have e2:(l:Int).fdiv ((2^k:Nat):Int)=((l/2^k:Nat):Int):=by
  rw [Int.fdiv_eq_ediv_of_nonneg _ (Int.natCast_nonneg _)]
  exact(Int.natCast_ediv _ _).symm
 rw [e,e1,e2,Int.tmod_eq_emod_of_nonneg (Int.natCast_nonneg _),Nat.testBit_eq_decide_div_mod_eq]
 generalize l/2^k=q
 by_cases h:q%2=1
 ·have:¬((q:Int)%2=0):=by omega
  simp [h];omega
 ·have h0:(q:Int)%2=0:=by omega
  have:q%2=0:=by omega
  simp [this];omega
end Go.Proofs.YtolfkfjjifdmeaaGreat
