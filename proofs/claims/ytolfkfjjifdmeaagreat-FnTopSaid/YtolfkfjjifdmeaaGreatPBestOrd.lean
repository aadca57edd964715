/- The best orders and circles of drums: the program's answers are the reference's. -/
import Derived.Test.YtolfkfjjifdmeaaGreatM3
import Derived.Test.YtolfkfjjifdmeaaGreatM4
import Derived.Test.YtolfkfjjifdmeaaGreatPFrame
import Derived.Test.YtolfkfjjifdmeaaGreatPDrum
import Derived.Test.YtolfkfjjifdmeaaGreatPCodes
import Derived.Test.YtolfkfjjifdmeaaGreatPPut
import Derived.Test.YtolfkfjjifdmeaaGreatPBits
import Derived.Test.YtolfkfjjifdmeaaGreatPCost
import Derived.Test.YtolfkfjjifdmeaaGreatPDTab
import Derived.Test.YtolfkfjjifdmeaaGreatPBPath
import Derived.Test.YtolfkfjjifdmeaaGreatPOrdImpl
import Derived.Test.YtolfkfjjifdmeaaGreatPOrdSpec
import Derived.Test.YtolfkfjjifdmeaaGreatPDTabC
import Derived.Test.YtolfkfjjifdmeaaGreatPure
namespace Go.Proofs.YtolfkfjjifdmeaaGreat
open Eng
set_option linter.unusedVariables false
set_option linter.unusedSimpArgs false
def fullN(n:Nat):Nat:=2^n-1
theorem full_bit{n i:Nat}(hi:i<n):(fullN n).testBit i=true:=by unfold fullN;rw [Nat.testBit_two_pow_sub_one];simp [hi]
theorem full_rem(n:Nat):rem n (fullN n)=List.range n:=by
 unfold rem
 rw [List.filter_eq_self]
 intro k hk
 exact full_bit (List.mem_range.1 hk)
theorem full_card(n:Nat):card n (fullN n)=n:=by rw [←rem_len,full_rem,List.length_range]
def fromV(c:Nat→Nat→Nat)(tl:Nat→Nat)(n a:Nat):Cd:=shift 0 [a] (bestP c tl n (n-1) a (off (fullN n) a))
section
variable {T:List (List Int)} {n:Nat} {c:Nat→Nat→Nat} {tl:Nat→Nat}
theorem fromV_len(c:Nat→Nat→Nat)(tl:Nat→Nat){a:Nat}(ha:a<n):(fromV c tl n a).2.length=n:=by
 have hc:card n (off (fullN n) a)=n-1:=by have:=card_off ha (full_bit ha);rw [full_card] at this;omega
 have:=(bestP_path (c:=c) (tl:=tl) (n-1) a (off (fullN n) a) hc).1
 simp only [fromV,shift,List.length_append,List.length_cons,List.length_nil,this]
 omega
theorem from_impl(hT:TabC T n c){leaf:List Int→List (List Int)→Int→List Int→Option (Int×(List Int))}(hleaf:LeafOk leaf T n c tl){fu:Nat}(hf:8<fu){a:Nat}(ha:a<n)(s:Option Cd):
  gOrd leaf fu (n:Int) (cst [a]) T (enc1 s) (enc2 s)=some (enc1 (fmO s (fromV c tl n a)),enc2 (fmO s (fromV c tl n a))):=by
 have h8:=hT.n8
 have hc:card n (off (fullN n) a)=n-1:=by have:=card_off ha (full_bit ha);rw [full_card] at this;omega
 exact ord_is h8 hleaf (n-1) fu [] a (off (fullN n) a) s (by simp;omega) (by omega) (by simpa using ha) (by
  intro i hi
  rw [off_bit,full_bit hi]
  by_cases e:a=i
  ·subst e;simp
  ·have e':¬i=a:=fun h=>e h.symm
   simp [e,e']) hc
theorem all_impl(hT:TabC T n c){leaf:List Int→List (List Int)→Int→List Int→Option (Int×(List Int))}(hleaf:LeafOk leaf T n c tl):
  gOrd leaf 16 (n:Int) [] T (-1) []=some (enc1 (fms none ((List.range n).map (fromV c tl n))),enc2 (fms none ((List.range n).map (fromV c tl n)))):=by
 have h8:=hT.n8;have h1:=hT.n1
 have:=ord_loop (leaf:=leaf) (T:=T) (fu:=15) (o:= []) (left:=fullN n) h8 (by simp) (fun i hi=>by rw [full_bit hi];simp) (fromV c tl n) (fun k s hk _=>from_impl hT hleaf (by omega) hk s) none
 rw [full_rem] at this
 have this:loop (gOrd.l (gOrd leaf 15) (n:Int) [] T) ([],-1,0)=_:=this
 show gOrd.step leaf (gOrd leaf 15) (n:Int) [] T (-1) []=_
 simp only [gOrd.step]
 rw [if_neg (by simp;omega),this]
 rfl
theorem from_spec(hT:TabC T n c){circle:Bool}(htl:tl=fun i=>if circle=true then c i 0 else 0){a:Nat}(ha:a<n):Fp T (a:Int) circle=some (enc2 (some (fromV c tl n a)),enc1 (some (fromV c tl n a))):=by
 rw [l05Best_is hT htl ha]
 simp [enc1,enc2,fromV,shift,fullN]
theorem best_of{x:Option Cd}{n:Nat}(h:∃ys:List Cd,ys≠ []∧(∀y∈ys,y.2.length=n)∧x=fms none ys):(enc2 x).length≤n:=by
 obtain⟨ys,h1,h2,rfl⟩:=h
 obtain⟨z,hz⟩:=fms_some h1
 obtain⟨us,vs,e,_⟩:=fms_first hz
 rw [hz]
 show (cst z.2).length≤n
 rw [cst_len,h2 z (by rw [e];simp)]
 exact Nat.le_refl _
end
theorem bestOrder_same(f:GFrame)(ds:List (Arr 96 Int))(first:Int)(hi:FIn f)(hl:f.fHammers.length≤9223372036854775807)(hds:ds.length≤4294967296)(hd:∀d∈ds,DIn d):
  ∃out sum code,Fbo f ds first=some (out,sum,code)∧Fae f ds first=some (out,sum,code)∧out.length≤8∧
   (startF f ds first=code)∧(code=0→(out,sum)=(enc2 (if first<0 then fms none ((List.range ds.length).map (fromV (cstD ds) (fun _=>0) ds.length)) else some (fromV (cstD ds) (fun _=>0) ds.length first.toNat)),enc1 (if first<0 then fms none ((List.range ds.length).map (fromV (cstD ds) (fun _=>0) ds.length)) else some (fromV (cstD ds) (fun _=>0) ds.length first.toNat)))):=by
 simp only [Fbo,Fae,startCodeF_is f hi hl ds hds hd,l05FirstF_is f hi hl ds hds hd,Option.bind_some]
 by_cases hc:startF f ds first=0
 ·obtain⟨h1,h8,hf0,hf1⟩:=startF_ok hc
  have hT:=tabC_is h1 h8
  have htl:(fun _:Nat=>0)=fun i:Nat=>if false=true then cstD ds i 0 else 0:=by funext i;simp
  have hord:∀o,Fi (ds.length:Int) o (tabD ds) (-1) []=gOrd FaC 16 (ds.length:Int) o (tabD ds) (-1) []:=fun o=>by
   show Fi.rec_ 16 _ _ _ _ _=_
   rw [ordO_eq]
  rw [if_neg (by simp [hc]),if_neg (by simp [hc]),costs_is ds hds hd,l05Table_is ds hds hd]
  simp only [Option.bind_some,hord]
  by_cases hf:first<0
  ·have hI:=all_impl hT (leafO hT)
   have hlen:(enc2 (fms none ((List.range ds.length).map (fromV (cstD ds) (fun _=>0) ds.length)))).length≤ds.length:=best_of ⟨_,by
    intro e
    have:=congrArg List.length e
    rw [List.length_map,List.length_range,List.length_nil] at this
    omega,by
    intro y hy
    obtain⟨k,hk,rfl⟩:=List.mem_map.1 hy
    exact fromV_len _ _ (List.mem_range.1 hk),rfl⟩
   refine⟨_,_,0,?_,?_,Nat.le_trans hlen h8,hc,fun _=>by rw [if_pos hf]⟩
   ·simp only [FbQ]
    rw [if_pos (by simpa using hf)]
    simp only [Option.bind_some,hI]
   ·rw [if_neg (by simpa using hf)]
    have h0:=from_spec hT htl (a:=0) (by omega)
    have h0:Fp (tabD ds) 0 false=_:=h0
    have:=loop_seq (f:=Fae.l_11 ds (tabD ds)) (ds.length-1) (fun k=>(enc2 (fms none ((List.range (k+1)).map (fromV (cstD ds) (fun _=>0) ds.length))),enc1 (fms none ((List.range (k+1)).map (fromV (cstD ds) (fun _=>0) ds.length))),((k+1:Nat):Int)))
     (enc2 (fms none ((List.range ds.length).map (fromV (cstD ds) (fun _=>0) ds.length))),enc1 (fms none ((List.range ds.length).map (fromV (cstD ds) (fun _=>0) ds.length)))) (fun k hk=>by
     have hk1:k+1<ds.length:=by omega
     obtain⟨y,hy⟩:=fms_some (xs:=(List.range (k+1)).map (fromV (cstD ds) (fun _=>0) ds.length)) (by simp)
     simp only [Fae.l_11,from_spec hT htl hk1,Option.bind_some]
     rw [if_pos (by rw [decide_eq_true_eq];omega),w64_in (n:=((k+1:Nat):Int)+1) (by omega) (by omega),List.range_succ (n:=k+1),List.map_append,fms_app,hy]
     obtain⟨u,v⟩:=y
     show _=some (Sum.inl (enc2 (fmO (some (u,v)) (fromV (cstD ds) (fun _=>0) ds.length (k+1))),enc1 (fmO (some (u,v)) (fromV (cstD ds) (fun _=>0) ds.length (k+1))),((k+1+1:Nat):Int)))
     by_cases hlt:(fromV (cstD ds) (fun _=>0) ds.length (k+1)).1<u
     ·rw [if_pos (by rw [decide_eq_true_eq];exact Int.ofNat_lt.2 hlt)]
      simp only [fmO];rw [if_pos hlt];rfl
     ·rw [if_neg (by rw [decide_eq_true_eq];exact fun e=>hlt (Int.ofNat_lt.1 e))]
      simp only [fmO];rw [if_neg hlt];rfl) (by
     simp only [Fae.l_11]
     rw [if_neg (by rw [decide_eq_true_eq];omega),show ds.length-1+1=ds.length by omega])
    have hlp:loop (Fae.l_11 ds (tabD ds)) (enc2 (some (fromV (cstD ds) (fun _=>0) ds.length 0)),enc1 (some (fromV (cstD ds) (fun _=>0) ds.length 0)),1)=_:=this
    simp only [h0,Option.bind_some,hlp,Fae.k_7]
  ·have hft:((first.toNat:Nat):Int)=first:=by omega
   have ha:first.toNat<ds.length:=by omega
   have hI:=from_impl hT (leafO hT) (fu:=16) (by omega) ha none
   have hS:=from_spec hT htl ha
   have e1:cst [first.toNat]= [first]:=by simp [cst];omega
   rw [e1] at hI
   rw [hft] at hS
   have hI:gOrd FaC 16 (ds.length:Int) [first] (tabD ds) (-1) []=_:=hI
   refine⟨enc2 (some (fromV (cstD ds) (fun _=>0) ds.length first.toNat)),enc1 (some (fromV (cstD ds) (fun _=>0) ds.length first.toNat)),0,?_,?_,?_,hc,fun _=>by rw [if_neg hf]⟩
   ·simp only [FbQ]
    rw [if_neg (by simpa using hf)]
    simp only [Option.bind_some,hI]
    rfl
   ·rw [if_pos (by simpa using hf)]
    simp only [hS,Option.bind_some]
   ·show (cst _).length≤8
    rw [cst_len,fromV_len _ _ ha];exact h8
 ·refine⟨[],0,startF f ds first,?_,?_,by simp,rfl,fun h=>absurd h hc⟩
  ·rw [if_pos (by simp [hc])]
  ·rw [if_pos (by simp [hc])]
end Go.Proofs.YtolfkfjjifdmeaaGreat
