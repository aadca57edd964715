/- The bells of a frame and the pitches of a tune, as sets of bits; what a drum plays can be played on its frame's bells. -/
import Derived.Test.YtolfkfjjifdmeaaGreatM0
import Derived.Test.YtolfkfjjifdmeaaGreatM1
import Derived.Test.YtolfkfjjifdmeaaGreatM2
import Derived.Test.YtolfkfjjifdmeaaGreatPFrame
import Derived.Test.YtolfkfjjifdmeaaGreatPDrum
import Derived.Test.YtolfkfjjifdmeaaGreatPTune
import Derived.Test.YtolfkfjjifdmeaaGreatPMadeS
import Derived.Test.YtolfkfjjifdmeaaGreatPMade
import Derived.Test.YtolfkfjjifdmeaaGreatPHeard
import Derived.Test.YtolfkfjjifdmeaaGreatPure
namespace Go.Proofs.YtolfkfjjifdmeaaGreat
open Eng
set_option linter.unusedVariables false
set_option linter.unusedSimpArgs false
theorem toNat_ofInt64(n:Nat)(h:n<18446744073709551616):(BitVec.ofInt 64 (n:Int)).toNat=n:=by
 rw [BitVec.toNat_ofInt];simp;omega
theorem wrap_u64n(n:Nat)(h:n<18446744073709551616):IntKind.u64.wrap (n:Int)=(n:Int):=u64_in (by omega) (by omega)
theorem bOr64(x y:Nat)(hx:x<18446744073709551616)(hy:y<18446744073709551616):bOr .u64 (x:Int) (y:Int)=((x ||| y:Nat):Int):=by
 show IntKind.u64.wrap (((BitVec.ofInt 64 (x:Int) ||| BitVec.ofInt 64 (y:Int)).toNat:Nat):Int)=_
 rw [BitVec.toNat_or,toNat_ofInt64 x hx,toNat_ofInt64 y hy]
 exact wrap_u64n _ (Nat.or_lt_two_pow (n:=64) hx hy)
theorem bShl64_one(t:Nat)(ht:t<64):bShl .u64 1 (t:Int)=((2^t:Nat):Int):=by
 unfold bShl
 have h:2^t<18446744073709551616:=Nat.pow_lt_pow_right (a:=2) (by omega) ht
 have e:(1:Int)*2^(min ((t:Nat):Int).toNat IntKind.u64.bits)=((2^t:Nat):Int):=by
  rw [Int.toNat_natCast,show IntKind.u64.bits=64 from rfl,Nat.min_eq_left (by omega)]
  simp
 rw [e]
 exact wrap_u64n _ h
theorem bClr64_sub(x y:Nat)(hx:x<18446744073709551616)(hy:y<18446744073709551616)(h:∀i,x.testBit i=true→y.testBit i=true):bClr .u64 (x:Int) (y:Int)=0:=by
 show IntKind.u64.wrap (((BitVec.ofInt 64 (x:Int)&&& ~~~(BitVec.ofInt 64 (y:Int))).toNat:Nat):Int)=_
 have:(BitVec.ofInt 64 (x:Int)&&& ~~~(BitVec.ofInt 64 (y:Int))).toNat=0:=by
  apply Nat.eq_of_testBit_eq
  intro i
  rw [Nat.zero_testBit]
  by_cases hi:i<64
  ·rw [BitVec.testBit_toNat,BitVec.getLsbD_and,BitVec.getLsbD_not,←BitVec.testBit_toNat,←BitVec.testBit_toNat,toNat_ofInt64 x hx,toNat_ofInt64 y hy]
   cases hb:x.testBit i with
   | false=>simp
   | true=>simp [h i hb]
  ·rw [BitVec.testBit_toNat,BitVec.getLsbD_of_ge _ _ (by omega)]
 rw [this]
 rfl
theorem bits_loop{f:Int×Int→Option ((Int×Int)⊕Int)}(p:Nat→Nat)(n:Nat)(hn:n≤4096)(hp:∀k,k<n→p k≤47)
  (hf:∀(a:Int) (k:Nat),k<n→f (a,(k:Int))=some (.inl (bOr .u64 a (bShl .u64 1 ((p k:Nat):Int)),w64 ((k:Int)+1)))) (he:∀a,f (a,(n:Int))=some (.inr a)):
  ∃x:Nat,loop f (0,0)=some (x:Int)∧x<281474976710656∧∀i,x.testBit i=true↔∃k,k<n∧p k=i:=by
 obtain⟨r,hr,x,rfl,h1,h2⟩:=loop_for (f:=f) n (by omega) (fun k a=>∃x:Nat,a=(x:Int)∧x<281474976710656∧∀i,x.testBit i=true↔∃j,j<k∧p j=i)
  (fun r=>∃x:Nat,r=(x:Int)∧x<281474976710656∧∀i,x.testBit i=true↔∃j,j<n∧p j=i) (fun k a hk hi=>by
   obtain⟨x,rfl,h1,h2⟩:=hi
   have hpk:=hp k hk
   have h2p:2^p k<281474976710656:=Nat.pow_lt_pow_right (a:=2) (m:=p k) (n:=48) (by omega) (by omega)
   left
   refine⟨((x ||| 2^p k:Nat):Int),?_,x ||| 2^p k,rfl,Nat.or_lt_two_pow (n:=48) h1 h2p,fun i=> ?_⟩
   ·rw [hf _ k hk,bShl64_one _ (by omega),bOr64 _ _ (by omega) (by omega)]
   ·rw [Nat.testBit_or,Bool.or_eq_true,h2,Nat.testBit_two_pow,decide_eq_true_eq]
    constructor
    ·rintro(⟨j,hj,e⟩ | e)
     ·exact⟨j,by omega,e⟩
     ·exact⟨k,by omega,e⟩
    ·rintro⟨j,hj,e⟩
     by_cases c:j=k
     ·subst c;exact .inr e
     ·exact .inl ⟨j,by omega,e⟩)
  (fun a hi=>⟨a,he a,hi⟩) 0 ⟨0,rfl,by omega,fun i=>by simp⟩
 exact⟨x,hr,h1,h2⟩
theorem bellsOf_is{f:GFrame}(hf:FOk f):∃x:Nat,Fam f=some ((x:Int),0)∧x<281474976710656∧∀i,x.testBit i=true↔∃k,k<f.fHammers.length∧((f.fHammers[k]?).map fun h=>h.fPitch.toNat).getD 0=i:=by
 have hh1:=hf.h1
 obtain⟨x,x1,x2,x3⟩:=bits_loop (f:=Fam.l_6 f) (fun k=>((f.fHammers[k]?).map fun h=>h.fPitch.toNat).getD 0) f.fHammers.length (by omega) (fun k hk=>by
  have:=hf.hp _ (List.getElem_mem hk)
  simp only [List.getElem?_eq_getElem hk,Option.map_some,Option.getD_some];omega) (fun a k hk=>by
  have hp:=hf.hp _ (List.getElem_mem hk)
  simp only [Fam.l_6,ix_lt hk,Option.bind_some,List.getElem?_eq_getElem hk,Option.map_some,Option.getD_some]
  rw [if_pos (by rw [decide_eq_true_eq];omega),if_pos hp.1,show ((f.fHammers[k].fPitch.toNat:Nat):Int)=f.fHammers[k].fPitch by omega]) (fun a=>by simp [Fam.l_6])
 refine⟨x,?_,x2,x3⟩
 simp [Fam,validFrame_is f (show f.fHammers.length≤9223372036854775807 by omega),frameB_of hf,x1,Fam.k_3]
theorem pitches_is{t:List GNote}(ht:TOk t):∃x:Nat,F6 t=some (x:Int)∧x<281474976710656∧∀i,x.testBit i=true↔∃k,k<t.length∧((t[k]?).map fun h=>h.fPitch.toNat).getD 0=i:=by
 have hh1:=ht.len
 obtain⟨x,x1,x2,x3⟩:=bits_loop (f:=F6.l_5 t) (fun k=>((t[k]?).map fun h=>h.fPitch.toNat).getD 0) t.length (by omega) (fun k hk=>by
  have:=ht.nt _ (List.getElem_mem hk)
  simp only [List.getElem?_eq_getElem hk,Option.map_some,Option.getD_some];omega) (fun a k hk=>by
  have hp:=ht.nt _ (List.getElem_mem hk)
  simp only [F6.l_5,ix_lt hk,Option.bind_some,List.getElem?_eq_getElem hk,Option.map_some,Option.getD_some]
  rw [if_pos (by rw [decide_eq_true_eq];omega),if_pos hp.2.2.1,show ((t[k].fPitch.toNat:Nat):Int)=t[k].fPitch by omega]) (fun a=>by simp [F6.l_5])
 refine⟨x,?_,x2,x3⟩
 simp [F6,x1,F6.k_2]
theorem nall_mem{f:GFrame}{d:Arr 96 Int}{n:GNote}(h:n∈nall f d):∃(s t:Nat) (ht:t<f.fHammers.length),s<f.fSteps.toNat∧n=⟨(s:Int),f.fHammers[t].fPitch⟩:=by
 unfold nall at h
 obtain⟨s,hs,h⟩:=List.mem_flatMap.1 h
 unfold nr at h
 obtain⟨t,ht,h⟩:=List.mem_flatMap.1 h
 have hs:s<f.fSteps.toNat:=by simpa using hs
 have ht:t<f.fHammers.length:=by simpa using ht
 unfold np at h
 split at h
 ·rw [List.getElem?_eq_getElem ht] at h
  simp at h
  exact⟨s,t,ht,hs,h⟩
 ·cases h
theorem made_tune{f:GFrame}(hf:FOk f){d:Arr 96 Int}(hl:(nall f d).length≤120):∃r,Fbt (nall f d)=some r∧Fu (nall f d)=some r∧TOk r∧r.length≤(nall f d).length∧∀n∈r,n∈nall f d:=by
 obtain⟨r,m1,m2,m3⟩:=made_is (nall f d) (by omega)
 obtain⟨r',h1,h2,h3,h4⟩:=l01Sorted_is (nall f d) (by omega)
 rw [m2] at h1
 obtain rfl:=Option.some.inj h1
 have hs1:=hf.s1;have hs0:=hf.s0
 refine⟨r,m1,m2,⟨by omega,fun n hn=> ?_,h2⟩,m3,fun n hn=>(h3 n).1 hn⟩
 obtain⟨s,t,ht,hs,rfl⟩:=nall_mem ((h3 n).1 hn)
 have:=hf.hp _ (List.getElem_mem ht)
 simp only
 omega
theorem canPlay_is{f:GFrame}(hf:FOk f){d:Arr 96 Int}{r:List GNote}(hr:TOk r)(hm:∀n∈r,n∈nall f d):∃x:Int,Fam f=some (x,0)∧FbH x r=some (true,0):=by
 obtain⟨x,x1,x2,x3⟩:=bellsOf_is hf
 obtain⟨y,y1,y2,y3⟩:=pitches_is hr
 have hl:=hr.len
 refine⟨x,x1,?_⟩
 have hn:∀n∈r,NIn n:=fun n h=>by have:=hr.nt n h;exact⟨by omega,by omega⟩
 have hc:bClr .u64 (y:Int) (x:Int)=0:=bClr64_sub y x (by omega) (by omega) fun i hi=>by
  obtain⟨k,hk,e⟩:=(y3 i).1 hi
  obtain⟨s,t,ht,_,en⟩:=nall_mem (hm _ (List.getElem_mem hk))
  refine(x3 i).2 ⟨t,ht,?_⟩
  rw [List.getElem?_eq_getElem hk] at e
  rw [List.getElem?_eq_getElem ht]
  simp only [Option.map_some,Option.getD_some] at e⊢
  rw [←e,en]
 simp [FbH,Fbw,tuneCode1 (show r.length≤9223372036854775807 by omega) hn,tuneB_of hr,y1,hc]
end Go.Proofs.YtolfkfjjifdmeaaGreat
