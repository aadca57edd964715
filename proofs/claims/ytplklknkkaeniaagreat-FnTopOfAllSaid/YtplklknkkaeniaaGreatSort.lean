/- The contract of a sorted row, in the engine’s words. -/
import Derived.Test.YtplklknkkaeniaaGreatEng
import Derived.Shelf.SlSortCmp.NoneTotal
import Derived.Shelf.Lay
namespace Go.Proofs.YtplklknkkaeniaaGreat.Eng
open Go Go.Shelf Go.RowKit Go.Lib Go.Sort Go.Proofs
set_option linter.unusedSimpArgs false
set_option linter.unusedVariables false
variable {P:Program} {ρ:Ren} {S:Type}
def vN(cmp:S→S→Option Int)(a b:S):Int:=(cmp a b).getD 0
section
variable [Inhabited S]
open Classical in
noncomputable def Dl (cmp:S→S→Option Int) (xs:List S):Option (List S):=
 if(∀a b,(cmp a b).isSome=true)∧SWO (ltOf (vN cmp))∧xs.length<4611686018427387904 then some (pdq (ltOf (vN cmp)) xs.toArray 0 xs.toArray.size (Lib.bitLen xs.toArray.size) true true).toList else none
theorem Dm{cmp:S→S→Option Int}{xs r:List S}(h:Dl cmp xs=some r):(∀a b,(cmp a b).isSome=true)∧SWO (ltOf (vN cmp))∧xs.length<4611686018427387904∧r=(pdq (ltOf (vN cmp)) xs.toArray 0 xs.toArray.size (Lib.bitLen xs.toArray.size) true true).toList:=by
 unfold Dl at h
 split at h
 ·rename_i hc;exact⟨hc.1,hc.2.1,hc.2.2,(e9 h).symm⟩
 ·cases h
theorem BP{cmp:S→S→Option Int}{xs r:List S}(h:Dl cmp xs=some r):r.Perm xs∧r.length=xs.length∧∀i j:Nat,i<j→(hj:j<r.length)→(hi:i<r.length)→¬vN cmp r[j] r[i]<0:=by
 obtain⟨h1,h2,h3,rfl⟩:=Dm h
 have hp:=pdq_sorts (ltOf (vN cmp)) h2 xs.toArray 0 xs.toArray.size (Lib.bitLen xs.toArray.size) true true (Nat.zero_le _) (bt _) (Or.inl rfl)
 generalize pdq (ltOf (vN cmp)) xs.toArray 0 xs.toArray.size (Lib.bitLen xs.toArray.size) true true=d at hp⊢
 obtain⟨⟨hs,_,JI⟩,yX⟩:=hp
 have e1:d.extract 0 xs.toArray.size=d:=by rw [←hs];simp
 have e2:xs.toArray.extract 0 xs.toArray.size=xs.toArray:=by simp
 rw [e1,e2] at JI
 refine⟨JI,JI.length_eq,fun i j Ps hj hi=> ?_⟩
 have VI:j<d.size:=by simpa using hj
 have:=yX i j (Nat.zero_le _) Ps (by rw [←hs];exact VI)
 rw [getElem!_pos d j VI,getElem!_pos d i (by omega)] at this
 unfold ltOf at this
 simpa using this
theorem Ma{cmp:S→S→Option Int}{xs:List S}(h1:∀a b,(cmp a b).isSome=true)(h2:SWO (ltOf (vN cmp)))(h3:xs.length<4611686018427387904):∃r,Dl cmp xs=some r:=by
 unfold Dl
 rw [ak ⟨h1,h2,h3⟩]
 exact⟨_,rfl⟩
theorem JJ(bh:S→List Value)(k:Nat)(hk:∀x,(bh x).length=k)(r:List S):flatK bh k r.toArray=(r.flatMap bh).toArray:=by
 apply Array.ext_getElem?
 intro j
 have hl:=gQ hk r
 by_cases hj:j<r.length*k
 ·have hk0:0<k:=by rcases rY k with h | h;rw [h] at hj;omega;exact h
  have hq:j/k<r.length:=Nat.div_lt_of_lt_mul (by rw [Nat.mul_comm];exact hj)
  have hm:j%k<k:=Nat.mod_lt _ hk0
  have h1:(flatK bh k r.toArray)[j]?=some ((bh r[j/k])[j%k]'(by rw [hk];exact hm)):=by
   rw [Array.getElem?_eq_getElem (by simp;exact hj)]
   have:=get_flatK bh k r.toArray j (by simpa using hj)
   rw [getElem!_pos _ j (by simp;exact hj)] at this
   rw [this,getElem!_pos r.toArray (j/k) (by simpa using hq)]
   congr 1
   have e:r.toArray[j/k]'(by simpa using hq)=r[j/k]:=by simp
   rw [e,getElem!_pos _ (j%k) (by rw [hk];exact hm)]
  have h2:=kH hk r (j/k) r[j/k] (bM hq) (j%k) ((bh r[j/k])[j%k]'(by rw [hk];exact hm)) (bM _)
  have h3:j/k*k+j%k=j:=by rw [Nat.mul_comm];exact Nat.div_add_mod j k
  rw [h3] at h2
  rw [h1,wo,h2]
 ·rw [tV (by simp;omega),wo,jJ (by omega)]
theorem RI(bh:S→List Value)(k:Nat)(hk:∀x,(bh x).length=k)(xs r:List S)(sp:List Value)(hl:r.length=xs.length):
  putCells (fun v:Value=>v) 0 (flatK bh k r.toArray) (row bh xs sp).toArray=(row bh r sp).toArray:=by
 rw [JJ bh k hk]
 have h1:=gQ hk xs
 have h2:=gQ hk r
 have h3:(r.flatMap bh).length=(xs.flatMap bh).length:=by rw [h1,h2,hl]
 apply Array.ext_getElem?
 intro j
 unfold putCells row
 simp only [Array.getElem?_mapIdx,wo,t_,Nat.zero_le,true_and,lM,Nat.sub_zero]
 by_cases hj:j<(r.flatMap bh).length
 ·rw [mQ (by omega),mQ hj,bM (by omega),bM hj]
  simp only [kE,ak hj]
  rw [getElem!_pos (r.flatMap bh).toArray j (by simpa using hj)]
  simp
 ·rw [nB (by omega),nB (by omega),h3]
  cases sp[j-(xs.flatMap bh).length]? with
  | none=>rfl
  | some v=>simp only [kE];rw [ax (by omega)]
theorem mem_grow [gj:wu](hS:gj.S){w w':World}(h:Mem w [] [] w'):∃q os',w'=grow (w.drewN q) os':=by
 refine⟨w'.drawn-w.drawn,w'.heap.extract w.heap.size w'.heap.size,?_⟩
 have hh:w'.heap=w.heap++w'.heap.extract w.heap.size w'.heap.size:=by
  apply Array.ext_getElem?
  intro j
  by_cases hj:j<w.heap.size
  ·rw [wk hj];exact h.bW j hj (by simp)
  ·rw [Array.getElem?_append_right (by omega),Array.getElem?_extract]
   by_cases N_:j<w'.heap.size
   ·rw [ak (by have:=h.size;omega)];congr 1;omega
   ·rw [ax (by have:=h.size;omega),tV (by omega)]
 have hd:w.drawn≤w'.drawn:=h.BG hS
 have e1:=h.os;have e2:=h.tape;have e3:=h.output
 cases w' with
 | mk ajs ajt aht os' ag4=>
  simp only at hh hd e1 e2 e3
  subst e1 e2 e3
  unfold grow World.drewN
  simp only
  rw [←hh]
  congr 1
  omega
theorem JL [gj:wu](L:SlLaysF0.n6 P ρ)(T:TypeId)(k:Nat)(aE:∀w,(isAgg (ρ.t 24)).run P w= .ok true w)(zE:∀w,(Go.sizeOf (ρ.t 24)).run P w= .ok k w)(bh:S→List Value)(hk:∀x,(bh x).length=k)(h1:∀x,∀v∈bh x,v.oneCell'=true)
  (cmp:S→S→Option Int) (g:Nat) (eg:∀args w,(callFunc g args).run P w= .ok (.enter g args) w)
  (hc:∀x y r w,cmp x y=some r→Calls P g #[.agg (bh x).toArray, .agg (bh y).toArray] w fun e w'=>∃v,e= .returned v∧(v= .int .i64 r∧ @Mem ⟨True⟩ w [] [] w'))
  (xs:List S) (w:World) (r:List S) (o:Option Nat) (n c:Nat) (sp:List Value) (hn:xs.length=n) (hs:o≠none→n≤c∧sp.length=(c-n)*k) (ho:o=none→xs= []∧c=0) (hm:Mem w (bs [o]) [⟨o,T,row bh xs sp⟩] w) (h:Dl cmp xs=some r):
  Calls P (ρ.f 6) #[.slice (o.map fun b=>⟨b,0,none⟩) n c, .func (.func g) #[] #[]] w fun e w'=>∃v,e= .returned v∧(r.length=n∧(o=none→r= []∧c=0)∧v= .tuple #[]∧Mem w (bs [o]) [⟨o,T,row bh r sp⟩] w'):=by
 obtain⟨hp,hlen,_⟩:=BP h
 obtain⟨c1,c2,c3,hr⟩:=Dm h
 subst hn
 cases o with
 | none=>
  obtain⟨rfl,rfl⟩:=ho rfl
  have:r= []:=uV.1 (by simpa using hlen)
  subst this
  refine(AnyF.slices_SortFunc_none L none 0 (.func (.func g) #[] #[]) w).mono ?_
  rintro e w' ⟨rfl,rfl⟩
  exact⟨_,rfl,rfl,fun _=>⟨rfl,rfl⟩,rfl,hm⟩
 | some b=>
  have hb:w.heap[b]?=some (.cells (row bh xs sp).toArray T (0,0)):=hm.own ⟨some b,T,row bh xs sp⟩ (by simp) b rfl
  have N':b<w.heap.size:=rF hb
  have Pj:=gQ hk xs
  have hfx:=JJ bh k hk xs
  have hH:HoldsK bh k w b 0 xs.toArray:=by
   intro j hj
   rw [size_flatK] at hj
   simp only [t_] at hj
   have N_:j<(xs.flatMap bh).length:=by omega
   refine⟨?_,?_⟩
   ·rw [hfx,lM,hm.cell (x:=⟨some b,T,row bh xs sp⟩) (by simp) rfl j ((xs.flatMap bh)[j]) (by unfold row;rw [mQ N_,bM N_])]
    rw [getElem!_pos _ j (by simpa using N_)]
    simp
   ·simp [World.frozen?,hb]
  have ahu:CmpLays P g #[] bh k (vN cmp) b 0 xs.toArray.size w:=by
   intro m os dk _ x y
   obtain⟨z,hz⟩:=Option.isSome_iff_exists.1 (c1 x y)
   have e:vN cmp x y=z:=by unfold vN;rw [hz];rfl
   rw [e]
   refine(hc x y z _ hz).mono ?_
   rintro e w' ⟨v,rfl,rfl,lO⟩
   exact⟨rfl,@mem_grow ⟨True⟩ trivial _ _ lO⟩
  have:=AnyQ.slices_SortFunc_eq L k aE zE bh hk h1 (vN cmp) c2 g #[] b 0 c xs.toArray w eg ahu hH N' (by simpa using c3)
  simp only [t_] at this hr
  refine this.mono ?_
  rintro e w' ⟨rfl,m,os,rfl⟩
  refine⟨_,rfl,hlen,fun e=>(nomatch e),rfl,?_⟩
  have er:(pdq (ltOf (vN cmp)) xs.toArray 0 xs.length (Lib.bitLen xs.length) true true)=r.toArray:=by rw [hr]
  rw [er]
  have hpf:=RI bh k hk xs r sp hlen
  unfold sortWorldK putRowK putRow mapBlock grow Sort.ahead
  refine⟨rfl,rfl,rfl,GC.of_le (by simp),by simp<;>omega,?_,?_,by simp,?_,by simp [Cb,GD]⟩
  ·intro b' Oa jR
   have hbb:b'≠b:=fun e=>jR (by rw [e];simp [bs])
   simp only
   rw [wk (by simpa using Oa),Array.getElem?_modify,ax (fun e=>hbb e.symm)]
  ·intro x hx b' Oa
   simp only [dG] at hx
   subst hx
   cases Oa
   simp only
   rw [wk (by simpa using N'),Array.getElem?_modify,ak rfl,hb]
   exact fI (fun c=>some (Obj.cells c T (0,0))) hpf
  ·intro x hx b' Oa
   simp only [dG] at hx
   subst hx
   cases Oa
   exact .inl (by simp [bs])
end
noncomputable def Ob (cmp:S→S→Option Int):List S→Option (List S)
 | []=>some []
 | x::t=> @Dl S ⟨x⟩ cmp (x::t)
theorem JM{cmp:S→S→Option Int}{xs r:List S}(h:Ob cmp xs=some r):r.Perm xs∧r.length=xs.length∧∀i j:Nat,i<j→(hj:j<r.length)→(hi:i<r.length)→¬vN cmp r[j] r[i]<0:=by
 cases xs with
 | nil=>cases h;exact⟨List.Perm.refl _,rfl,fun i j _ hj=>absurd hj (by simp)⟩
 | cons x t=>exact @BP S ⟨x⟩ cmp _ _ h
theorem Mb{cmp:S→S→Option Int}{xs:List S}(h1:∀a b,(cmp a b).isSome=true)(h2:SWO (ltOf (vN cmp)))(h3:xs.length<4611686018427387904):∃r,Ob cmp xs=some r:=by
 cases xs with
 | nil=>exact⟨_,rfl⟩
 | cons x t=>exact @Ma S ⟨x⟩ cmp _ h1 h2 h3
theorem Mc [gj:wu](L:SlLaysF0.n6 P ρ)(k:Nat)(aE:∀w,(isAgg (ρ.t 24)).run P w= .ok true w)(zE:∀w,(Go.sizeOf (ρ.t 24)).run P w= .ok k w)(bh:S→List Value)(hk:∀x,(bh x).length=k)(h1:∀x,∀v∈bh x,v.oneCell'=true)
  (cmp:S→S→Option Int) (g:Nat) (eg:∀args w,(callFunc g args).run P w= .ok (.enter g args) w)
  (hc:∀x y r w,cmp x y=some r→Calls P g #[.agg (bh x).toArray, .agg (bh y).toArray] w fun e w'=>∃v,e= .returned v∧(v= .int .i64 r∧ @Mem ⟨True⟩ w [] [] w'))
  (T:TypeId) (xs:List S) (w:World) (r:List S) (o:Option Nat) (n c:Nat) (sp:List Value) (hn:xs.length=n) (hs:o≠none→n≤c∧sp.length=(c-n)*k) (ho:o=none→xs= []∧c=0) (hm:Mem w (bs [o]) [⟨o,T,row bh xs sp⟩] w) (h:Ob cmp xs=some r):
  Calls P (ρ.f 6) #[.slice (o.map fun b=>⟨b,0,none⟩) n c, .func (.func g) #[] #[]] w fun e w'=>∃v,e= .returned v∧(r.length=n∧(o=none→r= []∧c=0)∧v= .tuple #[]∧Mem w (bs [o]) [⟨o,T,row bh r sp⟩] w'):=by
 cases xs with
 | nil=>
  cases h
  subst hn
  refine(AnyF.slices_SortFunc_none L (o.map fun b=>⟨b,0,none⟩) c (.func (.func g) #[] #[]) w).mono ?_
  rintro e w' ⟨rfl,rfl⟩
  exact⟨_,rfl,rfl,ho,rfl,hm⟩
 | cons x t=>exact @JL P ρ S ⟨x⟩ gj L T k aE zE bh hk h1 cmp g eg hc _ w r o n c sp hn hs ho hm h
end Go.Proofs.YtplklknkkaeniaaGreat.Eng
