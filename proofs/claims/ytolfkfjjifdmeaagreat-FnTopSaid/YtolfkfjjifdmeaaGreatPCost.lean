/- What one drum has beyond another, how much they differ, and the costs of changes: the program's and the reference's. -/
import Derived.Test.YtolfkfjjifdmeaaGreatM3
import Derived.Test.YtolfkfjjifdmeaaGreatM4
import Derived.Test.YtolfkfjjifdmeaaGreatPFrame
import Derived.Test.YtolfkfjjifdmeaaGreatPDrum
import Derived.Test.YtolfkfjjifdmeaaGreatPCodes
import Derived.Test.YtolfkfjjifdmeaaGreatPPut
import Derived.Test.YtolfkfjjifdmeaaGreatPBits
import Derived.Test.YtolfkfjjifdmeaaGreatPure
namespace Go.Proofs.YtolfkfjjifdmeaaGreat
open Eng
set_option linter.unusedVariables false
set_option linter.unusedSimpArgs false
theorem ldif_lt{x y:Nat}(h:x<4294967296):ldif x y<4294967296:=Nat.lt_of_le_of_lt (ldif_le x y) h
def lessRow(a b:Arr 96 Int)(k:Nat)(s:Nat):Nat:=if s<k then ldif (row' a s) (row' b s) else row' a s
theorem less_is{a b:Arr 96 Int}(ha:DIn a)(hb:DIn b):∃d,Faa a b=some d∧DIn d∧∀s t,s<96→pin d s t=(pin a s t&& !pin b s t):=by
 have key:∀j k (d:Arr 96 Int),k+j=96→DIn d→(∀s,s<96→row' d s=lessRow a b k s)→∃d',loop (Faa.l_5 b) (d,(k:Int))=some d'∧DIn d'∧∀s,s<96→row' d' s=lessRow a b 96 s:=by
  intro j
  induction j with
  | zero=>
   intro k d hk hd hr
   obtain rfl:k=96:=by omega
   exact⟨d,by rw [loop_eq];simp [Faa.l_5],hd,hr⟩
  | succ j ih=>
   intro k d hk hd hr
   have hk2:k<96:=by omega
   have h1:=ix_row hb hk2
   have h2:=ix_row hd hk2
   have hrk:=hr k hk2
   have hkk:lessRow a b k k=row' a k:=by unfold lessRow;rw [if_neg (by omega)]
   rw [hkk] at hrk
   rw [hrk] at h2
   have hlt:=ldif_lt (y:=row' b k) (row_lt ha k)
   obtain⟨d',e1,e2,e3⟩:=ih (k+1) (d.set (k:Int) (ldif (row' a k) (row' b k):Nat)) (by omega) (DIn_set hd k hlt) (fun s hs=>by
    rw [row_set hk2]
    unfold lessRow
    by_cases e:k=s
    ·subst e;rw [if_pos rfl,if_pos (by omega)]
    ·rw [if_neg e,hr s hs]
     unfold lessRow
     by_cases c:s<k
     ·rw [if_pos c,if_pos (by omega)]
     ·rw [if_neg c,if_neg (by omega)])
   refine⟨d',?_,e2,e3⟩
   rw [loop_eq]
   simp only [Faa.l_5,h1,h2,Option.bind_some,bClr32 _ _ (row_lt ha k) (row_lt hb k)]
   rw [if_pos (by rw [decide_eq_true_eq];omega),w64_in (n:=(k:Int)+1) (by omega) (by omega)]
   simpa using e1
 obtain⟨d,e1,e2,e3⟩:=key 96 0 a (by omega) ha (fun s _=>by unfold lessRow;rw [if_neg (by omega)])
 refine⟨d,?_,e2,fun s t hs=> ?_⟩
 ·have:loop (Faa.l_5 b) (a,0)=some d:=e1
  simp only [Faa,this,Option.bind_some,Faa.k_2]
 ·unfold pin
  rw [e3 s hs]
  unfold lessRow
  rw [if_pos hs,ldif_bit]
def beyond(a b:Arr 96 Int):Nat:=sR (fun s=>cR (fun t=>pin a s t&& !pin b s t) 32) 96
theorem beyond_le(a b:Arr 96 Int):beyond a b≤3072:=sR_le (B:=32) (fun i=>cR_le _ 32) 96
theorem count_less{a b:Arr 96 Int}(ha:DIn a)(hb:DIn b):∃d,Faa a b=some d∧F2 d=some ((beyond a b:Nat):Int):=by
 obtain⟨d,h1,h2,h3⟩:=less_is ha hb
 refine⟨d,h1,?_⟩
 rw [count_is h2]
 have:cntD d=beyond a b:=sR_ext 96 fun s hs=>cR_ext 32 fun t _=>h3 s t hs
 rw [this]
def distD(a b:Arr 96 Int):Nat:=beyond a b+beyond b a
theorem distD_le(a b:Arr 96 Int):distD a b≤6144:=by have:=beyond_le a b;have:=beyond_le b a;unfold distD;omega
theorem cost_val{a b:Arr 96 Int}(ha:DIn a)(hb:DIn b):FbR a b=some ((distD a b:Nat):Int):=by
 obtain⟨d,h1,h2⟩:=count_less ha hb
 obtain⟨e,h3,h4⟩:=count_less hb ha
 have:=beyond_le a b;have:=beyond_le b a
 simp only [FbR,h1,h2,h3,h4,Option.bind_some,distD]
 rw [w64_in (by omega) (by omega)]
 simp
theorem bits_half(n:Nat):∀k,cR (fun i=>n.testBit i) (k+1)=n%2+cR (fun i=>(n/2).testBit i) k:=by
 intro k
 rw [show k+1=1+k by omega,cR_add]
 have h1:cR (fun i=>n.testBit i) 1=n%2:=by
  simp only [cR,Nat.testBit_zero,decide_eq_true_eq]
  split<;>omega
 rw [h1]
 congr 1
 exact cR_ext k fun i _=>by rw [Nat.add_comm 1 i,Nat.testBit_succ]
theorem specCount_is:∀(k n:Nat) (c:Nat),n<2^k→k≤32→c+k≤1000→loop Fai.l_5 ((n:Int),(c:Int))=some ((c+cR (fun i=>n.testBit i) k:Nat):Int)
 | 0,n,c,h,_,_=>by
  have h0:n=0:=by simp at h;exact h
  subst h0
  rw [loop_eq]
  simp [Fai.l_5,cR]
 | k+1,n,c,h,hk,hc=>by
  have hp:2^(k+1)≤4294967296:=Nat.le_trans (Nat.pow_le_pow_right (by omega) hk) (by decide)
  rw [loop_eq]
  by_cases h0:n=0
  ·subst h0
   rw [cR_none (k+1) (fun i _=>Nat.zero_testBit i)]
   simp [Fai.l_5]
  ·simp only [Fai.l_5]
   rw [if_pos (by rw [decide_eq_true_eq];omega)]
   have e1:Int.tdiv (n:Int) 2=((n/2:Nat):Int):=by rw [Int.tdiv_eq_ediv_of_nonneg (by omega)];omega
   have e2:Int.tmod (n:Int) 2=((n%2:Nat):Int):=by rw [Int.tmod_eq_emod_of_nonneg (by omega)];omega
   rw [e1,e2,w64_in (n:=((n%2:Nat):Int)) (by omega) (by omega),w64_in (by omega) (by omega),u32_in (by omega) (by omega)]
   have ih:=specCount_is k (n/2) (c+n%2) (by rw [Nat.pow_succ] at h;omega) (by omega) (by omega)
   rw [bits_half]
   simp only
   rw [show ((c:Int)+((n%2:Nat):Int))=((c+n%2:Nat):Int) by omega,ih]
   congr 1
   omega
theorem l02Count_is{n:Nat}(h:n<4294967296):Fai (n:Int)=some ((cR (fun i=>n.testBit i) 32:Nat):Int):=by
 have:=specCount_is 32 n 0 (by simpa using h) (by omega) (by omega)
 have h0:loop Fai.l_5 ((n:Int),0)=some ((cR (fun i=>n.testBit i) 32:Nat):Int):=by simpa using this
 simp only [Fai,h0,Option.bind_some,Fai.k_2]
theorem moves_is{a b:Arr 96 Int}(ha:DIn a)(hb:DIn b):Fad a b=some ((beyond b a:Nat):Int):=by
 have hbd:∀n,n≤96→sR (fun s=>cR (fun t=>pin b s t&& !pin a s t) 32) n≤96*32:=fun n hn=>Nat.le_trans (sR_le (B:=32) (fun i=>cR_le _ 32) n) (Nat.mul_le_mul_right _ hn)
 have h0:loop (Fad.l_5 a b) (0,0)=some ((beyond b a:Nat):Int):=loop_seq (f:=Fad.l_5 a b) 96 (fun k=>((sR (fun s=>cR (fun t=>pin b s t&& !pin a s t) 32) k:Nat),(k:Int))) ((beyond b a:Nat):Int) (fun k hk=>by
  have h1:=hbd k (by omega)
  have h2:=cR_le (fun t=>pin b k t&& !pin a k t) 32
  have hc:cR (fun i=>(ldif (row' b k) (row' a k)).testBit i) 32=cR (fun t=>pin b k t&& !pin a k t) 32:=cR_ext 32 fun t _=>by rw [ldif_bit];rfl
  simp only [Fad.l_5,ix_row ha hk,ix_row hb hk,Option.bind_some,bClr32 _ _ (row_lt hb k) (row_lt ha k),l02Count_is (ldif_lt (row_lt hb k)),hc]
  rw [if_pos (by rw [decide_eq_true_eq];omega),w64_in (n:=(k:Int)+1) (by omega) (by omega),w64_in (by omega) (by omega)]
  simp [sR]) (by simp [Fad.l_5,beyond])
 simp only [Fad,h0,Option.bind_some,Fad.k_2]
theorem l05Cost_is{a b:Arr 96 Int}(ha:DIn a)(hb:DIn b):FbK a b=some ((distD a b:Nat):Int):=by
 have:=beyond_le a b;have:=beyond_le b a
 have e:((beyond b a:Nat):Int)+((beyond a b:Nat):Int)=((distD a b:Nat):Int):=by unfold distD;omega
 simp only [FbK,moves_is ha hb,moves_is hb ha,Option.bind_some]
 rw [w64_in (by omega) (by omega),e]
end Go.Proofs.YtolfkfjjifdmeaaGreat
