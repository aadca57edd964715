/- The search of arrangements: one plain search, to which the program's and the reference's come. -/
import Derived.Test.YtolfkfjjifdmeaaGreatM2
import Derived.Test.YtolfkfjjifdmeaaGreatM3
import Derived.Test.YtolfkfjjifdmeaaGreatPFrame
import Derived.Test.YtolfkfjjifdmeaaGreatPDrum
import Derived.Test.YtolfkfjjifdmeaaGreatPCodes
import Derived.Test.YtolfkfjjifdmeaaGreatPTune
import Derived.Test.YtolfkfjjifdmeaaGreatPChoices
import Derived.Test.YtolfkfjjifdmeaaGreatPCosts
import Derived.Test.YtolfkfjjifdmeaaGreatPLeast
import Derived.Test.YtolfkfjjifdmeaaGreatPBound
import Derived.Test.YtolfkfjjifdmeaaGreatPFit
import Derived.Test.YtolfkfjjifdmeaaGreatPure
namespace Go.Proofs.YtolfkfjjifdmeaaGreat
open Eng
set_option linter.unusedVariables false
set_option linter.unusedSimpArgs false
structure SS where
 looks:Int
 over:Bool
 best:List GChoice
 least:Int
def lookL(f:GFrame)(n:GNote)(c:GCosts)(b budget:Int)(go:Arr 96 Int→List GChoice→Int→SS→SS)(d:Arr 96 Int)(list:List GChoice)(cost:Int):List GChoice→SS→SS
 | [],s=>s
 | x::xs,s=>match putV f n x d with
  | none=>lookL f n c b budget go d list cost xs s
  | some d'=>if 0≤s.least∧s.least≤cost+costV c x+b then lookL f n c b budget go d list cost xs s
   else if s.looks=budget then⟨s.looks,true,s.best,s.least⟩
   else if(go d' (list++ [x]) (cost+costV c x) ⟨s.looks+1,s.over,s.best,s.least⟩).over=true then go d' (list++ [x]) (cost+costV c x) ⟨s.looks+1,s.over,s.best,s.least⟩
   else lookL f n c b budget go d list cost xs (go d' (list++ [x]) (cost+costV c x) ⟨s.looks+1,s.over,s.best,s.least⟩)
def srch(f:GFrame)(t:List GNote)(c:GCosts)(all:List (List GChoice))(bnd:List Int)(budget:Int):Nat→Arr 96 Int→List GChoice→Int→SS→SS
 | 0=>fun d list cost s=>⟨s.looks,s.over,list,cost⟩
 | m+1=>fun d list cost s=>match t[list.length]?,all[list.length]? with
  | some n,some xs=>lookL f n c ((bnd[list.length+1]?).getD 0) budget (srch f t c all bnd budget m) d list cost xs s
  | _,_=>s
structure SrcOk (f:GFrame) (t:List GNote) (c:GCosts) (all:List (List GChoice)) (bnd:List Int):Prop where
 hf:FOk f
 ht:TOk t
 hc:COk c
 al:all.length=t.length
 ain:∀(k:Nat) n xs,t[k]?=some n→all[k]?=some xs→xs.length≤505∧∀x∈xs,x∈allFor f n
 bl:bnd.length=t.length+1
 bb:∀b∈bnd,0≤b∧b≤480000
def StOk(budget:Int)(s:SS):Prop:=0≤s.looks∧s.looks≤budget∧-1≤s.least∧s.best.length≤120
abbrev mkA(f:GFrame)(t:List GNote)(c:GCosts)(all:List (List GChoice))(bnd:List Int)(budget:Int)(s:SS):Garranger:=⟨f,t,c,all,bnd,budget,s.looks,s.over,s.best,s.least⟩
abbrev mkS(f:GFrame)(t:List GNote)(c:GCosts)(all:List (List GChoice))(bnd:List Int)(budget:Int)(s:SS):Gl07Search:=⟨f,t,c,all,bnd,budget,s.looks,decide (0≤s.least),s.best,if 0≤s.least then s.least else 0⟩
theorem ix_in'{S:Type}{xs ys zs:List S}{x:S}(h:xs=ys++x::zs):ix xs (ys.length:Int)=some x:=by
 subst h
 rw [ix_lt (show ys.length<(ys++x::zs).length by simp)]
 simp
section
variable {f:GFrame} {n:GNote} {c:GCosts} {b budget:Int} {go:Arr 96 Int→List GChoice→Int→SS→SS} {d d':Arr 96 Int} {list:List GChoice} {cost:Int} {x:GChoice} {xs:List GChoice} {s:SS}
theorem lookL_none(h:putV f n x d=none):lookL f n c b budget go d list cost (x::xs) s=lookL f n c b budget go d list cost xs s:=by simp only [lookL,h]
theorem lookL_cut(h:putV f n x d=some d')(hl:0≤s.least∧s.least≤cost+costV c x+b):lookL f n c b budget go d list cost (x::xs) s=lookL f n c b budget go d list cost xs s:=by simp only [lookL,h];rw [if_pos hl]
theorem lookL_bud(h:putV f n x d=some d')(hl:¬(0≤s.least∧s.least≤cost+costV c x+b))(hb:s.looks=budget):lookL f n c b budget go d list cost (x::xs) s=⟨s.looks,true,s.best,s.least⟩:=by
 simp only [lookL,h];rw [if_neg hl,if_pos hb]
theorem lookL_stop(h:putV f n x d=some d')(hl:¬(0≤s.least∧s.least≤cost+costV c x+b))(hb:¬s.looks=budget)(ho:(go d' (list++ [x]) (cost+costV c x) ⟨s.looks+1,s.over,s.best,s.least⟩).over=true):
  lookL f n c b budget go d list cost (x::xs) s=go d' (list++ [x]) (cost+costV c x) ⟨s.looks+1,s.over,s.best,s.least⟩:=by
 simp only [lookL,h];rw [if_neg hl,if_neg hb,if_pos ho]
theorem lookL_go(h:putV f n x d=some d')(hl:¬(0≤s.least∧s.least≤cost+costV c x+b))(hb:¬s.looks=budget)(ho:¬(go d' (list++ [x]) (cost+costV c x) ⟨s.looks+1,s.over,s.best,s.least⟩).over=true):
  lookL f n c b budget go d list cost (x::xs) s=lookL f n c b budget go d list cost xs (go d' (list++ [x]) (cost+costV c x) ⟨s.looks+1,s.over,s.best,s.least⟩):=by
 simp only [lookL,h];rw [if_neg hl,if_neg hb,if_neg ho]
end
def resA(f:GFrame)(t:List GNote)(c:GCosts)(all:List (List GChoice))(bnd:List Int)(budget:Int)(r:SS):Garranger⊕((List GChoice)×Int×Int×Int×Int×Int×Int×Bool×Int):=
 if r.over=true then .inl (mkA f t c all bnd budget r) else .inr (r.best,f.fSteps,c.fAway,c.fOctave,c.fStep,budget,r.looks,r.over,r.least)
def resS(f:GFrame)(t:List GNote)(c:GCosts)(all:List (List GChoice))(bnd:List Int)(budget:Int)(r:SS):(Bool×Gl07Search)⊕((List GChoice)×Int×Int×Int×Int×Int×Bool×Int):=
 if r.over=true then .inl (false,mkS f t c all bnd budget r) else .inr (r.best,c.fAway,c.fOctave,c.fStep,budget,r.looks,decide (0≤r.least),(if 0≤r.least then r.least else 0))
theorem look_loop{f:GFrame}{t:List GNote}{c:GCosts}{all:List (List GChoice)}{bnd:List Int}(h:SrcOk f t c all bnd){budget:Int}(hb:0≤budget∧budget≤20000)
  (self:Garranger→Arr 96 Int→List GChoice→Int→Option Garranger) (go:Arr 96 Int→List GChoice→Int→SS→SS) {d:Arr 96 Int} (hd:DIn d) {list:List GChoice} {cost:Int} (hco:0≤cost∧cost≤4000*(list.length:Int))
  {n:GNote} {xs:List GChoice} (hn:t[list.length]?=some n) (hx:all[list.length]?=some xs) (s0:SS)
  (hs:∀(d':Arr 96 Int) x s,x∈xs→putV f n x d=some d'→StOk budget s→s.over=false→self (mkA f t c all bnd budget s) d' (list++ [x]) (cost+costV c x)=some (mkA f t c all bnd budget (go d' (list++ [x]) (cost+costV c x) s))∧StOk budget (go d' (list++ [x]) (cost+costV c x) s)):
  ∀(zs ys:List GChoice) (s:SS),xs=ys++zs→StOk budget s→s.over=false→
   loop (Fg.l_24 self (mkA f t c all bnd budget s0) d list cost xs) (s.best,f.fSteps,c.fAway,c.fOctave,c.fStep,budget,s.looks,s.over,s.least,(ys.length:Int))=some (resA f t c all bnd budget (lookL f n c ((bnd[list.length+1]?).getD 0) budget go d list cost zs s))∧
   StOk budget (lookL f n c ((bnd[list.length+1]?).getD 0) budget go d list cost zs s):=by
 intro zs
 have hkt:list.length<t.length:=(List.getElem?_eq_some_iff.1 hn).1
 have htl:=h.ht.len
 have hnt:=h.ht.nt n (List.mem_of_getElem? hn)
 have ha:0≤n.fAt∧n.fAt≤199:=by omega
 have hp:0≤n.fPitch∧n.fPitch≤47:=by omega
 obtain⟨hxl,hxa⟩:=h.ain _ n xs hn hx
 have hbk:list.length+1<bnd.length:=by rw [h.bl];omega
 have hbv:=h.bb _ (List.getElem_mem hbk)
 have hbg:(bnd[list.length+1]?).getD 0=bnd[list.length+1]:=by rw [List.getElem?_eq_getElem hbk];rfl
 have hw:w64 ((list.length:Int)+1)=((list.length+1:Nat):Int):=by rw [w64_in (by omega) (by omega)];omega
 have hib:ix bnd ((list.length+1:Nat):Int)=some bnd[list.length+1]:=ix_lt hbk
 have hin:ix t (list.length:Int)=some n:=by rw [ix_lt hkt];exact(List.getElem?_eq_getElem hkt▸hn)
 have hka:list.length<all.length:=by rw [h.al];exact hkt
 have hia:ix all (list.length:Int)=some xs:=by rw [ix_lt hka];exact(List.getElem?_eq_getElem hka▸hx)
 have hec:(⟨c.fAway,c.fOctave,c.fStep⟩:GCosts)=c:=rfl
 have hef:(⟨f.fSteps,f.fHammers⟩:GFrame)=f:=rfl
 have hcl:Faz list=some list:=by
  simp only [Faz,List.nil_append,List.length_nil]
  rw [if_pos (by omega)]
 rw [hbg]
 induction zs with
 | nil=>
  intro ys s hxy hso hov
  refine⟨?_,hso⟩
  rw [loop_eq]
  simp only [Fg.l_24,lookL,mkA,hia,Option.bind_some]
  rw [if_neg (by rw [decide_eq_true_eq,hxy];simp)]
  simp [hov,resA]
 | cons x zs ih=>
  intro ys s hxy hso hov
  have hxm:x∈xs:=by rw [hxy];simp
  have hxf:=hxa x hxm
  have hsm:=all_small h.hf ha hp hxf
  have hcv:=costV_le h.hc hsm
  have hyl:ys.length<xs.length:=by rw [hxy];simp
  have hi1:w64 ((ys.length:Int)+1)=(((ys++ [x]).length:Nat):Int):=by rw [w64_in (by omega) (by omega)];simp
  have hw2:w64 (cost+costV c x)=cost+costV c x:=w64_in (by omega) (by omega)
  have hw3:w64 (cost+costV c x+bnd[list.length+1])=cost+costV c x+bnd[list.length+1]:=w64_in (by omega) (by omega)
  have nxt:=fun s' (h1:StOk budget s') (h2:s'.over=false)=>ih (ys++ [x]) s' (by rw [hxy];simp) h1 h2
  have hcp:=canPut_is h.hf ha hp hxf hd
  have hpt:=l07Put_is h.hf ha hp hxf hd
  have hj:(ys.length:Int)<(xs.length:Int):=by omega
  rw [loop_eq]
  cases hpv:putV f n x d with
  | none=>
   rw [hpv] at hcp hpt
   rw [lookL_none hpv]
   refine⟨?_,(nxt s hso hov).2⟩
   rw [←(nxt s hso hov).1]
   simp only [Fg.l_24,mkA,hec,hef,hia,ix_in' hxy,of_is h.hc hsm,cost_is h.hc hsm,hin,hcp,hpt,Option.bind_some,hw,hw2,hib,hw3,hi1,Option.isSome_none,Bool.not_false,if_true]
   rw [if_pos (by rw [decide_eq_true_eq];exact hj)]
  | some d'=>
   have hpu:=puts_is h.hf ha hp hxf hd hpv
   rw [hpv] at hcp hpt
   by_cases hl:0≤s.least∧s.least≤cost+costV c x+bnd[list.length+1]
   ·rw [lookL_cut hpv hl]
    refine⟨?_,(nxt s hso hov).2⟩
    rw [←(nxt s hso hov).1]
    simp only [Fg.l_24,mkA,hec,hef,hia,ix_in' hxy,of_is h.hc hsm,cost_is h.hc hsm,hin,hcp,hpt,Option.bind_some,hw,hw2,hib,hw3,hi1,Option.isSome_some,Bool.not_true,Bool.false_eq_true,if_false]
    rw [if_pos (by rw [decide_eq_true_eq];exact hj),if_pos (by simpa using hl.1),if_pos (by simpa [hl.1] using hl.2)]
   ·have hk:Fg.l_24 self (mkA f t c all bnd budget s0) d list cost xs (s.best,f.fSteps,c.fAway,c.fOctave,c.fStep,budget,s.looks,s.over,s.least,(ys.length:Int))=Fg.k_28 self (mkA f t c all bnd budget s0) d list cost s.best f.fSteps c.fAway c.fOctave c.fStep budget s.looks s.over s.least (ys.length:Int) x (costV c x):=by
     simp only [Fg.l_24,mkA,hec,hef,hia,ix_in' hxy,of_is h.hc hsm,cost_is h.hc hsm,hin,hcp,hpt,Option.bind_some,hw,hw2,hib,hw3,hi1,Option.isSome_some,Bool.not_true,Bool.false_eq_true,if_false]
     rw [if_pos (by rw [decide_eq_true_eq];exact hj)]
     by_cases h0:0≤s.least
     ·rw [if_pos (by simpa using h0),if_neg (by simp [h0];omega)]
     ·rw [if_neg (by simpa using h0)]
    rw [hk]
    have hso':=hso
    obtain⟨q1,q2,q3⟩:=hso'
    by_cases hbu:s.looks=budget
    ·rw [lookL_bud hpv hl hbu]
     refine⟨?_,hso⟩
     simp only [Fg.k_28,mkA]
     rw [if_pos (by simpa using hbu)]
     simp [resA,mkA,hbu]
    ·have hso1:StOk budget ⟨s.looks+1,s.over,s.best,s.least⟩:=⟨by show 0≤s.looks+1;omega,by show s.looks+1≤budget;omega,q3⟩
     obtain⟨g1,g2⟩:=hs d' x _ hxm hpv hso1 hov
     have hl1:w64 (s.looks+1)=s.looks+1:=w64_in (by omega) (by omega)
     simp only [mkA] at g1
     by_cases ho:(go d' (list++ [x]) (cost+costV c x) ⟨s.looks+1,s.over,s.best,s.least⟩).over=true
     ·rw [lookL_stop hpv hl hbu ho]
      refine⟨?_,g2⟩
      simp only [Fg.k_28,mkA,List.nil_append]
      rw [if_neg (by simpa using hbu)]
      simp only [hin,hpu,Option.bind_some,hcl,hl1,hec,hef,hw2,g1,Fg.k_41,hi1]
      rw [if_pos (by simp;omega)]
      simp [resA,mkA,ho]
     ·rw [lookL_go hpv hl hbu ho]
      obtain⟨n1,n2⟩:=nxt _ g2 (by simpa using ho)
      refine⟨?_,n2⟩
      rw [←n1]
      simp only [Fg.k_28,mkA,List.nil_append]
      rw [if_neg (by simpa using hbu)]
      simp only [hin,hpu,Option.bind_some,hcl,hl1,hec,hef,hw2,g1,Fg.k_41,hi1]
      rw [if_pos (by simp;omega)]
      simp [ho]
theorem go_loop{f:GFrame}{t:List GNote}{c:GCosts}{all:List (List GChoice)}{bnd:List Int}(h:SrcOk f t c all bnd){budget:Int}(hb:0≤budget∧budget≤20000)
  (self:Gl07Search→Arr 96 Int→List GChoice→Int→Option (Bool×Gl07Search)) (go:Arr 96 Int→List GChoice→Int→SS→SS) {d:Arr 96 Int} (hd:DIn d) {list:List GChoice} {cost:Int} (hco:0≤cost∧cost≤4000*(list.length:Int))
  {n:GNote} {xs:List GChoice} (hn:t[list.length]?=some n) (hx:all[list.length]?=some xs) (s0:SS)
  (hs:∀(d':Arr 96 Int) x s,x∈xs→putV f n x d=some d'→StOk budget s→s.over=false→self (mkS f t c all bnd budget s) d' (list++ [x]) (cost+costV c x)=some (!(go d' (list++ [x]) (cost+costV c x) s).over,mkS f t c all bnd budget (go d' (list++ [x]) (cost+costV c x) s))∧StOk budget (go d' (list++ [x]) (cost+costV c x) s)):
  ∀(zs ys:List GChoice) (s:SS),xs=ys++zs→StOk budget s→s.over=false→
   loop (Fv.l_21 self (mkS f t c all bnd budget s0) d list cost) (s.best,c.fAway,c.fOctave,c.fStep,budget,s.looks,decide (0≤s.least),(if 0≤s.least then s.least else 0),(ys.length:Int))=some (resS f t c all bnd budget (lookL f n c ((bnd[list.length+1]?).getD 0) budget go d list cost zs s))∧
   StOk budget (lookL f n c ((bnd[list.length+1]?).getD 0) budget go d list cost zs s):=by
 intro zs
 have hkt:list.length<t.length:=(List.getElem?_eq_some_iff.1 hn).1
 have htl:=h.ht.len
 have hnt:=h.ht.nt n (List.mem_of_getElem? hn)
 have ha:0≤n.fAt∧n.fAt≤199:=by omega
 have hp:0≤n.fPitch∧n.fPitch≤47:=by omega
 obtain⟨hxl,hxa⟩:=h.ain _ n xs hn hx
 have hbk:list.length+1<bnd.length:=by rw [h.bl];omega
 have hbv:=h.bb _ (List.getElem_mem hbk)
 have hbg:(bnd[list.length+1]?).getD 0=bnd[list.length+1]:=by rw [List.getElem?_eq_getElem hbk];rfl
 have hw:w64 ((list.length:Int)+1)=((list.length+1:Nat):Int):=by rw [w64_in (by omega) (by omega)];omega
 have hib:ix bnd ((list.length+1:Nat):Int)=some bnd[list.length+1]:=ix_lt hbk
 have hin:ix t (list.length:Int)=some n:=by rw [ix_lt hkt];exact(List.getElem?_eq_getElem hkt▸hn)
 have hka:list.length<all.length:=by rw [h.al];exact hkt
 have hia:ix all (list.length:Int)=some xs:=by rw [ix_lt hka];exact(List.getElem?_eq_getElem hka▸hx)
 have hec:(⟨c.fAway,c.fOctave,c.fStep⟩:GCosts)=c:=rfl
 have hef:(⟨f.fSteps,f.fHammers⟩:GFrame)=f:=rfl
 have hcl:Faz list=some list:=by
  simp only [Faz,List.nil_append,List.length_nil]
  rw [if_pos (by omega)]
 rw [hbg]
 induction zs with
 | nil=>
  intro ys s hxy hso hov
  refine⟨?_,hso⟩
  rw [loop_eq]
  simp only [Fv.l_21,lookL,mkS,hia,Option.bind_some]
  rw [if_neg (by rw [decide_eq_true_eq,hxy];simp)]
  simp [hov,resS]
 | cons x zs ih=>
  intro ys s hxy hso hov
  have hxm:x∈xs:=by rw [hxy];simp
  have hxf:=hxa x hxm
  have hsm:=all_small h.hf ha hp hxf
  have hcv:=costV_le h.hc hsm
  have hyl:ys.length<xs.length:=by rw [hxy];simp
  have hi1:w64 ((ys.length:Int)+1)=(((ys++ [x]).length:Nat):Int):=by rw [w64_in (by omega) (by omega)];simp
  have hw2:w64 (cost+costV c x)=cost+costV c x:=w64_in (by omega) (by omega)
  have hw3:w64 (cost+costV c x+bnd[list.length+1])=cost+costV c x+bnd[list.length+1]:=w64_in (by omega) (by omega)
  have nxt:=fun s' (h1:StOk budget s') (h2:s'.over=false)=>ih (ys++ [x]) s' (by rw [hxy];simp) h1 h2
  have hcp:=canPut_is h.hf ha hp hxf hd
  have hpt:=l07Put_is h.hf ha hp hxf hd
  have hj:(ys.length:Int)<(xs.length:Int):=by omega
  rw [loop_eq]
  cases hpv:putV f n x d with
  | none=>
   rw [hpv] at hcp hpt
   rw [lookL_none hpv]
   refine⟨?_,(nxt s hso hov).2⟩
   rw [←(nxt s hso hov).1]
   simp only [Fv.l_21,mkS,hec,hef,hia,ix_in' hxy,of_is h.hc hsm,cost_is h.hc hsm,hin,hcp,hpt,Option.bind_some,hw,hw2,hib,hw3,hi1,Option.isSome_none,Bool.not_false,if_true]
   rw [if_pos (by rw [decide_eq_true_eq];exact hj)]
  | some d'=>
   have hpu:=puts_is h.hf ha hp hxf hd hpv
   rw [hpv] at hcp hpt
   by_cases hl:0≤s.least∧s.least≤cost+costV c x+bnd[list.length+1]
   ·rw [lookL_cut hpv hl]
    refine⟨?_,(nxt s hso hov).2⟩
    rw [←(nxt s hso hov).1]
    simp only [Fv.l_21,mkS,hec,hef,hia,ix_in' hxy,of_is h.hc hsm,cost_is h.hc hsm,hin,hcp,hpt,Option.bind_some,hw,hw2,hib,hw3,hi1,Option.isSome_some,Bool.not_true,Bool.false_eq_true,if_false]
    rw [if_pos (by rw [decide_eq_true_eq];exact hj),if_pos (by simpa using hl.1),if_pos (by simpa [hl.1] using hl.2)]
   ·have hk:Fv.l_21 self (mkS f t c all bnd budget s0) d list cost (s.best,c.fAway,c.fOctave,c.fStep,budget,s.looks,decide (0≤s.least),(if 0≤s.least then s.least else 0),(ys.length:Int))=Fv.k_28 self (mkS f t c all bnd budget s0) list cost s.best c.fAway c.fOctave c.fStep budget s.looks (decide (0≤s.least)) (if 0≤s.least then s.least else 0) (ys.length:Int) x (costV c x) d':=by
     simp only [Fv.l_21,mkS,hec,hef,hia,ix_in' hxy,of_is h.hc hsm,cost_is h.hc hsm,hin,hcp,hpt,Option.bind_some,hw,hw2,hib,hw3,hi1,Option.isSome_some,Bool.not_true,Bool.false_eq_true,if_false]
     rw [if_pos (by rw [decide_eq_true_eq];exact hj)]
     by_cases h0:0≤s.least
     ·rw [if_pos (by simpa using h0),if_neg (by simp [h0];omega)]
     ·rw [if_neg (by simpa using h0)]
    rw [hk]
    have hso':=hso
    obtain⟨q1,q2,q3⟩:=hso'
    by_cases hbu:s.looks=budget
    ·rw [lookL_bud hpv hl hbu]
     refine⟨?_,hso⟩
     simp only [Fv.k_28,mkS]
     rw [if_pos (by simpa using hbu)]
     simp [resS,mkS,hbu]
    ·have hso1:StOk budget ⟨s.looks+1,s.over,s.best,s.least⟩:=⟨by show 0≤s.looks+1;omega,by show s.looks+1≤budget;omega,q3⟩
     obtain⟨g1,g2⟩:=hs d' x _ hxm hpv hso1 hov
     have hl1:w64 (s.looks+1)=s.looks+1:=w64_in (by omega) (by omega)
     simp only [mkS] at g1
     by_cases ho:(go d' (list++ [x]) (cost+costV c x) ⟨s.looks+1,s.over,s.best,s.least⟩).over=true
     ·rw [lookL_stop hpv hl hbu ho]
      refine⟨?_,g2⟩
      simp only [Fv.k_28,mkS,List.nil_append]
      rw [if_neg (by simpa using hbu)]
      simp only [hin,hpu,Option.bind_some,hcl,hl1,hec,hef,hw2,g1,Fv.k_39,hi1]
      rw [if_pos (by simp;omega),if_pos (by simp;omega)]
      simp [resS,mkS,ho]
     ·rw [lookL_go hpv hl hbu ho]
      obtain⟨n1,n2⟩:=nxt _ g2 (by simpa using ho)
      refine⟨?_,n2⟩
      rw [←n1]
      simp only [Fv.k_28,mkS,List.nil_append]
      rw [if_neg (by simpa using hbu)]
      simp only [hin,hpu,Option.bind_some,hcl,hl1,hec,hef,hw2,g1,Fv.k_39,hi1]
      rw [if_pos (by simp;omega),if_pos (by simp;omega)]
      simp [ho]
theorem search_is{f:GFrame}{t:List GNote}{c:GCosts}{all:List (List GChoice)}{bnd:List Int}(h:SrcOk f t c all bnd){budget:Int}(hb:0≤budget∧budget≤20000):
  ∀(m fu fu':Nat) (d:Arr 96 Int) (list:List GChoice) (cost:Int) (s:SS),list.length+m=t.length→m<fu→m<fu'→DIn d→(0≤cost∧cost≤4000*(list.length:Int))→StOk budget s→s.over=false→
   Fg.rec_ fu (mkA f t c all bnd budget s) d list cost=some (mkA f t c all bnd budget (srch f t c all bnd budget m d list cost s))∧
   Fv.rec_ fu' (mkS f t c all bnd budget s) d list cost=some (!(srch f t c all bnd budget m d list cost s).over,mkS f t c all bnd budget (srch f t c all bnd budget m d list cost s))∧
   StOk budget (srch f t c all bnd budget m d list cost s):=by
 intro m
 have htl:=h.ht.len
 induction m with
 | zero=>
  intro fu fu' d list cost s hl h1 h2 hd hc hso hov
  obtain⟨fu,rfl⟩:∃k,fu=k+1:=⟨fu-1,by omega⟩
  obtain⟨fu',rfl⟩:∃k,fu'=k+1:=⟨fu'-1,by omega⟩
  obtain⟨q1,q2,q3⟩:=hso
  refine⟨?_,?_,⟨q1,q2,?_,?_⟩⟩
  ·simp only [Fg.rec_,Fg.step,srch,mkA]
   rw [if_pos (show ((list.length:Int)==(t.length:Int))=true by simp;omega)]
  ·simp only [Fv.rec_,Fv.step,srch,mkS,List.length_nil,List.nil_append]
   rw [if_pos (show ((list.length:Int)==(t.length:Int))=true by simp;omega),if_pos (by omega)]
   simp [hov,hc.1]
  ·show-1≤cost;omega
  ·show list.length≤120;omega
 | succ m ih=>
  intro fu fu' d list cost s hl h1 h2 hd hc hso hov
  obtain⟨fu,rfl⟩:∃k,fu=k+1:=⟨fu-1,by omega⟩
  obtain⟨fu',rfl⟩:∃k,fu'=k+1:=⟨fu'-1,by omega⟩
  have hkt:list.length<t.length:=by omega
  have hka:list.length<all.length:=by rw [h.al];exact hkt
  have hn:t[list.length]?=some t[list.length]:=List.getElem?_eq_getElem hkt
  have hx:all[list.length]?=some all[list.length]:=List.getElem?_eq_getElem hka
  have hnt:=h.ht.nt _ (List.getElem_mem hkt)
  have ha:0≤t[list.length].fAt∧t[list.length].fAt≤199:=by omega
  have hp:0≤t[list.length].fPitch∧t[list.length].fPitch≤47:=by omega
  have hxa:=(h.ain _ _ _ hn hx).2
  have hsub:∀(d':Arr 96 Int) x s,x∈all[list.length]→putV f t[list.length] x d=some d'→StOk budget s→s.over=false→_:=fun d' x s hxm hpv hs1 hs2=>
   ih fu fu' d' (list++ [x]) (cost+costV c x) s (by simp;omega) (by omega) (by omega) (putV_in h.hf ha hp (hxa x hxm) hd hpv) (by
    have hcv:=costV_le h.hc (all_small h.hf ha hp (hxa x hxm))
    simp only [List.length_append,List.length_cons,List.length_nil]
    omega) hs1 hs2
  obtain⟨a1,a2⟩:=look_loop h hb (Fg.rec_ fu) (srch f t c all bnd budget m) hd hc hn hx s (fun d' x s h1 h2 h3 h4=>⟨(hsub d' x s h1 h2 h3 h4).1,(hsub d' x s h1 h2 h3 h4).2.2⟩) all[list.length] [] s rfl hso hov
  have b1:=(go_loop h hb (Fv.rec_ fu') (srch f t c all bnd budget m) hd hc hn hx s (fun d' x s h1 h2 h3 h4=>(hsub d' x s h1 h2 h3 h4).2) all[list.length] [] s rfl hso hov).1
  have hsr:srch f t c all bnd budget (m+1) d list cost s=lookL f t[list.length] c ((bnd[list.length+1]?).getD 0) budget (srch f t c all bnd budget m) d list cost all[list.length] s:=by
   simp only [srch,hn,hx]
  rw [hsr]
  have hia:ix all (list.length:Int)=some all[list.length]:=ix_lt hka
  have hne:¬((list.length:Int)==(t.length:Int))=true:=by simp;omega
  refine⟨?_,?_,a2⟩
  ·have a3:loop (Fg.l_24 (Fg.rec_ fu) (mkA f t c all bnd budget s) d list cost all[list.length]) (s.best,f.fSteps,c.fAway,c.fOctave,c.fStep,budget,s.looks,s.over,s.least,0)=_:=a1
   have e:Fg.rec_ (fu+1) (mkA f t c all bnd budget s) d list cost=(loop (Fg.l_24 (Fg.rec_ fu) (mkA f t c all bnd budget s) d list cost all[list.length]) (s.best,f.fSteps,c.fAway,c.fOctave,c.fStep,budget,s.looks,s.over,s.least,0)).bind fun t_25=>match t_25 with | .inl p=>some p | .inr p=>Fg.k_12 (mkA f t c all bnd budget s) p.1 p.2.1 p.2.2.1 p.2.2.2.1 p.2.2.2.2.1 p.2.2.2.2.2.1 p.2.2.2.2.2.2.1 p.2.2.2.2.2.2.2.1 p.2.2.2.2.2.2.2.2:=by
    simp only [Fg.rec_,Fg.step,mkA]
    rw [if_neg hne,hia]
    rfl
   rw [e,a3]
   generalize lookL f t[list.length] c ((bnd[list.length+1]?).getD 0) budget (srch f t c all bnd budget m) d list cost all[list.length] s=r
   by_cases ho:r.over=true
   ·simp [resA,ho]
   ·simp [resA,ho,Fg.k_12,mkA]
  ·have b3:loop (Fv.l_21 (Fv.rec_ fu') (mkS f t c all bnd budget s) d list cost) (s.best,c.fAway,c.fOctave,c.fStep,budget,s.looks,decide (0≤s.least),(if 0≤s.least then s.least else 0),0)=_:=b1
   have e:Fv.rec_ (fu'+1) (mkS f t c all bnd budget s) d list cost=(loop (Fv.l_21 (Fv.rec_ fu') (mkS f t c all bnd budget s) d list cost) (s.best,c.fAway,c.fOctave,c.fStep,budget,s.looks,decide (0≤s.least),(if 0≤s.least then s.least else 0),0)).bind fun t_22=>match t_22 with | .inl p=>some p | .inr p=>Fv.k_10 (mkS f t c all bnd budget s) p.1 p.2.1 p.2.2.1 p.2.2.2.1 p.2.2.2.2.1 p.2.2.2.2.2.1 p.2.2.2.2.2.2.1 p.2.2.2.2.2.2.2:=by
    simp only [Fv.rec_,Fv.step,mkS]
    rw [if_neg hne]
    rfl
   rw [e,b3]
   generalize lookL f t[list.length] c ((bnd[list.length+1]?).getD 0) budget (srch f t c all bnd budget m) d list cost all[list.length] s=r
   by_cases ho:r.over=true
   ·simp [resS,ho]
   ·simp [resS,ho,Fv.k_10,mkS]
end Go.Proofs.YtolfkfjjifdmeaaGreat
