/- Orders of drums: the program's search comes to the best way, the first one of least cost. -/
import Derived.Test.YtolfkfjjifdmeaaGreatM3
import Derived.Test.YtolfkfjjifdmeaaGreatPFrame
import Derived.Test.YtolfkfjjifdmeaaGreatPDrum
import Derived.Test.YtolfkfjjifdmeaaGreatPBits
import Derived.Test.YtolfkfjjifdmeaaGreatPBPath
import Derived.Test.YtolfkfjjifdmeaaGreatPure
namespace Go.Proofs.YtolfkfjjifdmeaaGreat
open Eng
set_option linter.unusedVariables false
set_option linter.unusedSimpArgs false
structure TabC (T:List (List Int)) (n:Nat) (c:Nat→Nat→Nat):Prop where
 len:T.length=n
 at_:∀i k,i<n→k<n→∃r,ix T (i:Int)=some r∧ix r (k:Int)=some ((c i k:Nat):Int)
 bd:∀i k,c i k≤1000000
 n1:1≤n
 n8:n≤8
def cst(o:List Nat):List Int:=o.map fun(k:Nat)=>(k:Int)
theorem cst_len(o:List Nat):(cst o).length=o.length:=by simp [cst]
theorem cst_app(a b:List Nat):cst (a++b)=cst a++cst b:=by simp [cst]
theorem mem_cst(o:List Nat)(k:Nat):((k:Int)∈cst o)↔k∈o:=by
 simp only [cst,List.mem_map]
 constructor
 ·rintro⟨a,ha,e⟩
  have:a=k:=by omega
  exact this▸ha
 ·intro h;exact⟨k,h,rfl⟩
theorem ix_cst{o:List Nat}{k:Nat}(h:k<o.length):ix (cst o) (k:Int)=some ((o[k]:Nat):Int):=by
 rw [ix_lt (show k<(cst o).length by rw [cst_len];exact h)]
 simp [cst]
theorem containsI(xs:List Int)(x:Int)(h:xs.length≤9223372036854775807):Faw xs x=some (decide (x∈xs)):=by
 obtain⟨t,ht,hq⟩:=loop_find (f:=F5.l_3 xs x) xs (fun y=>x==y) h (fun k hk=>by
  simp only [F5.l_3,ix_lt hk,Option.bind_some]
  rw [if_pos (by simpa using hk)]
  split<;>rfl) (by simp [F5.l_3])
 simp only [Faw,F5,ht,Option.bind_some]
 have hm:xs.any (fun y=>x==y)=decide (x∈xs):=by
  rw [Bool.eq_iff_iff,List.any_eq_true,decide_eq_true_eq]
  constructor
  ·rintro⟨y,hy,e⟩;rw [beq_iff_eq.1 e];exact hy
  ·intro hx;exact⟨x,hx,by simp⟩
 rw [←hm]
 rcases hq with⟨hany,k,rfl,_⟩ | ⟨hany,rfl⟩
 ·rw [hany];simp
 ·rw [hany];simp [F5.k_1]
def costO(c:Nat→Nat→Nat):List Nat→Nat
 | a::b::l=>c a b+costO c (b::l)
 | _=>0
theorem costO_snoc(c:Nat→Nat→Nat)(k:Nat):∀(o:List Nat) (a:Nat),costO c ((o++ [a])++ [k])=costO c (o++ [a])+c a k:=by
 intro o
 induction o with
 | nil=>intro a;simp [costO]
 | cons x o ih=>
  intro a
  cases o with
  | nil=>simp [costO]
  | cons y o=>
   have:=ih a
   simp only [List.cons_append,costO] at this⊢
   omega
theorem costO_le{c:Nat→Nat→Nat}{B:Nat}(hc:∀i k,c i k≤B):∀(o:List Nat),costO c o≤B*o.length:=by
 intro o
 induction o with
 | nil=>simp [costO]
 | cons x o ih=>
  cases o with
  | nil=>simp [costO]
  | cons y o=>
   have:=hc x y
   simp only [costO,List.length_cons] at ih⊢
   rw [show B*(o.length+1+1)=B*(o.length+1)+B by rw [Nat.mul_add B (o.length+1) 1];omega]
   omega
theorem costO_take(c:Nat→Nat→Nat)(o:List Nat){k:Nat}(h0:1≤k)(hk:k<o.length):costO c (o.take (k+1))=costO c (o.take k)+c o[k-1] o[k]:=by
 obtain⟨j,rfl⟩:∃j,k=j+1:=⟨k-1,by omega⟩
 have e1:o.take (j+1+1)=(o.take j++ [o[j]])++ [o[j+1]]:=by
  rw [List.take_succ_eq_append_getElem hk,List.take_succ_eq_append_getElem (show j<o.length by omega)]
 have e2:o.take (j+1)=o.take j++ [o[j]]:=List.take_succ_eq_append_getElem (by omega)
 rw [e1,e2,costO_snoc]
 rfl
theorem orderCost_is{T:List (List Int)}{n:Nat}{c:Nat→Nat→Nat}(hT:TabC T n c)(o:List Nat)(ho:∀x∈o,x<n)(hl:o.length≤100):FX T (cst o)=some ((costO c o:Nat):Int):=by
 have hb:=fun(o:List Nat)=>costO_le (c:=c) hT.bd o
 by_cases h0:o= []
 ·subst h0
  simp only [FX]
  rw [loop_eq]
  simp [FX.l_5,cst,FX.k_2,costO]
 ·have hpos:1≤o.length:=by
   cases o with
   | nil=>exact absurd rfl h0
   | cons x o=>simp
  have:=loop_seq (f:=FX.l_5 T (cst o)) (o.length-1) (fun k=>(((costO c (o.take (k+1)):Nat):Int),((k+1:Nat):Int))) ((costO c o:Nat):Int) (fun k hk=>by
   have hk1:k+1<o.length:=by omega
   have e1:w64 (((k+1:Nat):Int)-1)=(k:Int):=by rw [w64_in (by omega) (by omega)];omega
   obtain⟨r,r1,r2⟩:=hT.at_ o[k] o[k+1] (ho _ (List.getElem_mem _)) (ho _ (List.getElem_mem _))
   have hs:=costO_take c o (k:=k+1) (by omega) hk1
   have hle:=hb (o.take (k+1+1))
   have hll:(o.take (k+1+1)).length≤100:=by rw [List.length_take];omega
   have hm:1000000*(o.take (k+1+1)).length≤1000000*100:=Nat.mul_le_mul_left _ hll
   simp only [Nat.add_sub_cancel] at hs
   simp only [FX.l_5,e1,ix_cst (show k<o.length by omega),ix_cst hk1,r1,r2,Option.bind_some]
   rw [if_pos (by rw [decide_eq_true_eq,cst_len];omega),hs,w64_in (n:=_+_) (by omega) (by omega),w64_in (n:=((k+1:Nat):Int)+1) (by omega) (by omega)]
   simp) (by
   simp only [FX.l_5]
   rw [if_neg (by rw [decide_eq_true_eq,cst_len];omega),show o.length-1+1=o.length by omega,List.take_length])
  have h1:loop (FX.l_5 T (cst o)) (0,1)=some ((costO c o:Nat):Int):=by
   have e:costO c (o.take 1)=0:=by
    cases o with
    | nil=>rfl
    | cons x o=>simp [costO]
   simpa [e] using this
  simp only [FX,h1,Option.bind_some,FX.k_2]
noncomputable def gOrd.l (self_:Int→(List Int)→(List (List Int))→Int→(List Int)→Option (Int×(List Int))) (n0:Int) (order1:List Int) (g2c0:List (List Int)):((List Int)×Int×Int)→Option (((List Int)×Int×Int)⊕(((List Int)×Int)))
 | (xs_7,i_9,i_10)=>(if(decide (i_10<n0))=true then(Faw order1 i_10).bind fun t_13=>(if(!t_13)=true then(FaT order1).bind fun t_14=>(if t_14.length+([i_10]:List Int).length≤4294967296 then(self_ n0 (t_14++([i_10]:List Int)) g2c0 i_9 xs_7).bind fun t_15=>some (.inl (t_15.2,t_15.1,(w64 (i_10+1)))) else none) else some (.inl (xs_7,i_9,(w64 (i_10+1))))) else some (.inr (xs_7,i_9)))
noncomputable def gOrd.step (leaf:List Int→List (List Int)→Int→List Int→Option (Int×(List Int))) (self_:Int→(List Int)→(List (List Int))→Int→(List Int)→Option (Int×(List Int))) (n0:Int) (order1:List Int) (g2c0:List (List Int)) (g2c1:Int) (g2c2:List Int):Option (Int×(List Int)):=
 (if((order1.length:Int)==n0)=true then(leaf order1 g2c0 g2c1 g2c2).bind fun t_1=>some (t_1.1,t_1.2) else(loop (gOrd.l self_ n0 order1 g2c0) (g2c2,g2c1,0)).bind fun t_12=>some (t_12.2,t_12.1))
noncomputable def gOrd (leaf:List Int→List (List Int)→Int→List Int→Option (Int×(List Int))):Nat→Int→(List Int)→(List (List Int))→Int→(List Int)→Option (Int×(List Int))
 | 0=>fun n0 order1 g2c0 g2c1 g2c2=>none
 | fu+1=>gOrd.step leaf (gOrd leaf fu)
theorem ordO_eq:∀fu,Fi.rec_ fu=gOrd FaC fu:=by
 intro fu
 induction fu with
 | zero=>rfl
 | succ fu ih=>show Fi.step (Fi.rec_ fu)=gOrd.step FaC (gOrd FaC fu);rw [ih];rfl
def enc1:Option Cd→Int
 | none=>-1
 | some x=>((x.1:Nat):Int)
def enc2:Option Cd→List Int
 | none=> []
 | some x=>cst x.2
def LeafOk(leaf:List Int→List (List Int)→Int→List Int→Option (Int×(List Int)))(T:List (List Int))(n:Nat)(c:Nat→Nat→Nat)(tl:Nat→Nat):Prop:=
 ∀(o:List Nat) (a:Nat) (s:Option Cd),(o++ [a]).length=n→(∀x∈o++ [a],x<n)→leaf (cst (o++ [a])) T (enc1 s) (enc2 s)=some (enc1 (fmO s (costO c (o++ [a])+tl a,o++ [a])),enc2 (fmO s (costO c (o++ [a])+tl a,o++ [a])))
theorem enc_fmO{s:Option Cd}{C:Nat}{p:List Nat}:(if((decide (enc1 s<0)) || (decide (((C:Nat):Int)<enc1 s)))=true then some (((C:Nat):Int),cst p) else some (enc1 s,enc2 s))=some (enc1 (fmO s (C,p)),enc2 (fmO s (C,p))):=by
 cases s with
 | none=>simp [enc1,enc2,fmO]
 | some y=>
  obtain⟨u,v⟩:=y
  have e1:enc1 (some (u,v))=((u:Nat):Int):=rfl
  simp only [fmO,e1]
  by_cases h:C<u
  ·have h':((C:Nat):Int)<((u:Nat):Int):=Int.ofNat_lt.2 h
   simp [h,h',enc1,enc2]
  ·have h':¬((C:Nat):Int)<((u:Nat):Int):=fun e=>h (Int.ofNat_lt.1 e)
   have h0:¬((u:Nat):Int)<0:=by omega
   simp [h,enc1,enc2]
   omega
theorem clone64(s:List Int)(h:s.length≤1000000):FaT s=some s:=by
 simp only [FaT,List.nil_append,List.length_nil]
 rw [if_pos (by omega)]
theorem ord_loop{leaf:List Int→List (List Int)→Int→List Int→Option (Int×(List Int))}{T:List (List Int)}{n:Nat}(hn8:n≤8){fu:Nat}{o:List Nat}(ho:o.length≤8){left:Nat}(hbit:∀i,i<n→left.testBit i= !(decide (i∈o)))
  (cand:Nat→Cd) (hrec:∀k (s:Option Cd),k<n→left.testBit k=true→gOrd leaf fu (n:Int) (cst (o++ [k])) T (enc1 s) (enc2 s)=some (enc1 (fmO s (cand k)),enc2 (fmO s (cand k)))) (s:Option Cd):
  loop (gOrd.l (gOrd leaf fu) (n:Int) (cst o) T) (enc2 s,enc1 s,0)=some (enc2 (fms s ((rem n left).map cand)),enc1 (fms s ((rem n left).map cand))):=by
 have:=loop_seq (f:=gOrd.l (gOrd leaf fu) (n:Int) (cst o) T) n (fun k=>(enc2 (fms s ((rem k left).map cand)),enc1 (fms s ((rem k left).map cand)),(k:Int))) (enc2 (fms s ((rem n left).map cand)),enc1 (fms s ((rem n left).map cand))) (fun k hk=>by
  have hw:w64 ((k:Int)+1)=((k+1:Nat):Int):=by rw [w64_in (by omega) (by omega)];omega
  have hc:decide ((k:Int)∈cst o)= !(left.testBit k):=by
   rw [hbit k hk,Bool.not_not,Bool.eq_iff_iff,decide_eq_true_eq,decide_eq_true_eq,mem_cst]
  simp only [gOrd.l,containsI (cst o) (k:Int) (by rw [cst_len];omega),Option.bind_some,hc,Bool.not_not,hw,rem_succ]
  rw [if_pos (by rw [decide_eq_true_eq];omega)]
  cases hb:left.testBit k with
  | false=>simp
  | true=>
   simp only [if_true,clone64 (cst o) (by rw [cst_len];omega),Option.bind_some,List.map_append,List.map_cons,List.map_nil,fms_app]
   have e:cst o++ [(k:Int)]=cst (o++ [k]):=by rw [cst_app];rfl
   rw [if_pos (by rw [cst_len];simp;omega),e,hrec k _ hk hb]
   simp only [Option.bind_some]
   rfl) (by
  simp only [gOrd.l]
  rw [if_neg (by simp)])
 exact this
theorem ord_is{leaf:List Int→List (List Int)→Int→List Int→Option (Int×(List Int))}{T:List (List Int)}{n:Nat}{c:Nat→Nat→Nat}{tl:Nat→Nat}(hn8:n≤8)(hleaf:LeafOk leaf T n c tl):
  ∀(m fu:Nat) (o:List Nat) (a left:Nat) (s:Option Cd),(o++ [a]).length+m=n→m<fu→(∀x∈o++ [a],x<n)→(∀i,i<n→left.testBit i= !(decide (i∈o++ [a])))→card n left=m→
   gOrd leaf fu (n:Int) (cst (o++ [a])) T (enc1 s) (enc2 s)=some (enc1 (fmO s (shift (costO c (o++ [a])) (o++ [a]) (bestP c tl n m a left))),enc2 (fmO s (shift (costO c (o++ [a])) (o++ [a]) (bestP c tl n m a left)))):=by
 intro m
 induction m with
 | zero=>
  intro fu o a left s hl hf hx hbit hcard
  obtain⟨fu,rfl⟩:∃k,fu=k+1:=⟨fu-1,by omega⟩
  simp only [gOrd,gOrd.step]
  rw [if_pos (by rw [cst_len];simp at hl⊢;omega),hleaf o a s (by omega) hx]
  simp only [Option.bind_some]
  have e:shift (costO c (o++ [a])) (o++ [a]) (bestP c tl n 0 a left)=(costO c (o++ [a])+tl a,o++ [a]):=by simp [shift,bestP]
  rw [e]
 | succ m ih=>
  intro fu o a left s hl hf hx hbit hcard
  obtain⟨fu,rfl⟩:∃k,fu=k+1:=⟨fu-1,by omega⟩
  simp only [gOrd,gOrd.step]
  rw [if_neg (by rw [cst_len];simp at hl⊢;omega)]
  rw [ord_loop (o:=o++ [a]) hn8 (by omega) hbit (fun k=>shift (costO c (o++ [a])) (o++ [a]) (shift (c a k) [k] (bestP c tl n m k (off left k)))) (fun k s hk hb=>by
   have hko:¬k∈o++ [a]:=by
    have:=hbit k hk
    rw [hb] at this
    simpa using this
   have h1:=ih fu (o++ [a]) k (off left k) s (by simp at hl⊢;omega) (by omega) (by
    intro x hx'
    rcases List.mem_append.1 hx' with h | h
    ·exact hx x h
    ·simp at h;omega) (by
    intro i hi
    rw [off_bit,hbit i hi]
    by_cases e:k=i
    ·subst e;simp [hko]
    ·have e':¬i=k:=fun h=>e h.symm
     simp [e,e']) (by have:=card_off hk hb;omega)
   have e:shift (costO c ((o++ [a])++ [k])) ((o++ [a])++ [k]) (bestP c tl n m k (off left k))=shift (costO c (o++ [a])) (o++ [a]) (shift (c a k) [k] (bestP c tl n m k (off left k))):=by
    rw [costO_snoc]
    simp only [shift,List.append_assoc]
    rw [Nat.add_assoc]
   rw [e] at h1
   exact h1) s]
  simp only [Option.bind_some]
  have e2:(rem n left).map (fun k=>shift (costO c (o++ [a])) (o++ [a]) (shift (c a k) [k] (bestP c tl n m k (off left k))))=((rem n left).map fun k=>shift (c a k) [k] (bestP c tl n m k (off left k))).map (shift (costO c (o++ [a])) (o++ [a])):=by
   rw [List.map_map];rfl
  have e3:fms none (((rem n left).map fun k=>shift (c a k) [k] (bestP c tl n m k (off left k))).map (shift (costO c (o++ [a])) (o++ [a])))=some (shift (costO c (o++ [a])) (o++ [a]) (bestP c tl n (m+1) a left)):=by
   have:=fms_map (costO c (o++ [a])) (o++ [a]) ((rem n left).map fun k=>shift (c a k) [k] (bestP c tl n m k (off left k))) none
   rw [Option.map_none] at this
   rw [this,bestP_some hcard];rfl
  rw [e2,fms_or,e3]
  rfl
theorem leafO{T:List (List Int)}{n:Nat}{c:Nat→Nat→Nat}(hT:TabC T n c):LeafOk FaC T n c (fun _=>0):=by
 intro o a s hl hx
 have:=hT.n8
 simp only [FaC,orderCost_is hT (o++ [a]) hx (by omega),Option.bind_some]
 rw [Nat.add_zero]
 exact enc_fmO
end Go.Proofs.YtolfkfjjifdmeaaGreat
