/- The search of arrangements: what it finds fits, costs what it says, and no other one that fits costs less. -/
import Derived.Test.YtolfkfjjifdmeaaGreatT
import Derived.Test.YtolfkfjjifdmeaaGreatPStab
import Derived.Test.YtolfkfjjifdmeaaGreatPFrame
import Derived.Test.YtolfkfjjifdmeaaGreatPDrum
import Derived.Test.YtolfkfjjifdmeaaGreatPCodes
import Derived.Test.YtolfkfjjifdmeaaGreatPTune
import Derived.Test.YtolfkfjjifdmeaaGreatPChoices
import Derived.Test.YtolfkfjjifdmeaaGreatPCosts
import Derived.Test.YtolfkfjjifdmeaaGreatPLeast
import Derived.Test.YtolfkfjjifdmeaaGreatPBound
import Derived.Test.YtolfkfjjifdmeaaGreatPFit
import Derived.Test.YtolfkfjjifdmeaaGreatPSearch
import Derived.Test.YtolfkfjjifdmeaaGreatPChSort
import Derived.Test.YtolfkfjjifdmeaaGreatPArr
import Derived.Test.YtolfkfjjifdmeaaGreatPure
namespace Go.Proofs.YtolfkfjjifdmeaaGreat
open Eng
set_option linter.unusedVariables false
set_option linter.unusedSimpArgs false
def sumC(c:GCosts)(l:List GChoice):Int:=sumL (l.map (costV c))
theorem sumL_app:∀(a b:List Int),sumL (a++b)=sumL a+sumL b
 | [],b=>by simp [sumL]
 | x::a,b=>by simp only [List.cons_append,sumL,sumL_app a b];omega
theorem sumC_cons(c:GCosts)(x:GChoice)(l:List GChoice):sumC c (x::l)=costV c x+sumC c l:=rfl
theorem sumC_app(c:GCosts)(a b:List GChoice):sumC c (a++b)=sumC c a+sumC c b:=by unfold sumC;rw [List.map_append,sumL_app]
def fitsAt(f:GFrame)(t:List GNote)(list:List GChoice)(k:Nat)(d:Arr 96 Int)(m:Nat):Prop:=∃e,tryN (fitP f t list) k d m= .inl e
theorem fits_step{f:GFrame}{t:List GNote}{list r:List GChoice}{x:GChoice}{n:GNote}{d:Arr 96 Int}{m:Nat}(hn:t[list.length]?=some n)(h:fitsAt f t (list++x::r) list.length d (m+1)):
  x∈allFor f n∧∃d',putV f n x d=some d'∧fitsAt f t ((list++ [x])++r) (list.length+1) d' m:=by
 obtain⟨e,he⟩:=h
 have hx:(list++x::r)[list.length]?=some x:=by rw [List.getElem?_append_right (Nat.le_refl _)];simp
 simp only [tryN,fitP,hn,hx] at he
 by_cases hm:x∈allFor f n
 ·refine⟨hm,?_⟩
  rw [if_pos hm] at he
  cases hp:putV f n x d with
  | none=>rw [hp] at he;cases he
  | some d'=>
   rw [hp] at he
   refine⟨d',rfl,e,?_⟩
   rw [show (list++ [x])++r=list++x::r by simp]
   exact he
 ·rw [if_neg hm] at he;cases he
theorem rest_ge{f:GFrame}(hf:FOk f){t:List GNote}(ht:TOk t){c:GCosts}(hc:COk c):∀(r list:List GChoice) (d:Arr 96 Int),list.length+r.length=t.length→fitsAt f t (list++r) list.length d r.length→suf (t.map (leastC f c)) list.length≤sumC c r:=by
 intro r
 induction r with
 | nil=>
  intro list d hl _
  unfold suf
  rw [List.drop_of_length_le (by simp at hl;simp;omega)]
  simp [sumL,sumC]
 | cons x r ih=>
  intro list d hl h
  simp only [List.length_cons] at hl h
  have hk:list.length<t.length:=by omega
  obtain⟨h1,d',h2,h3⟩:=fits_step (List.getElem?_eq_getElem hk) h
  have:=ih (list++ [x]) d' (by simp;omega) (by simpa using h3)
  rw [suf_step (show list.length<(t.map (leastC f c)).length by simpa using hk),sumC_cons]
  simp only [List.length_append,List.length_cons,List.length_nil,List.getElem_map] at this⊢
  have hl:=(leastL_spec ((allFor f t[list.length]).map (costV c)) c.fAway).2.1 (costV c x) (List.mem_map.2 ⟨x,h1,rfl⟩)
  have:leastC f c t[list.length]≤costV c x:=hl
  simp only [Nat.zero_add] at*
  omega
structure GoOk (f:GFrame) (t:List GNote) (c:GCosts) (m:Nat) (go:Arr 96 Int→List GChoice→Int→SS→SS):Prop where
 pos:∀d l co s,l.length+m=t.length→0≤co→(go d l co s).over=false→0≤(go d l co s).least
 mono:∀d l co s,l.length+m=t.length→0≤co→(go d l co s).over=false→0≤s.least→co+suf (t.map (leastC f c)) l.length<s.least→(go d l co s).least≤s.least
 opt:∀d l co s,l.length+m=t.length→0≤co→(go d l co s).over=false→∀r,r.length=m→fitsAt f t (l++r) l.length d m→(go d l co s).least≤co+sumC c r
theorem lookL_mono{f:GFrame}{t:List GNote}{c:GCosts}{n:GNote}{budget:Int}{m:Nat}{go:Arr 96 Int→List GChoice→Int→SS→SS}(hg:GoOk f t c m go){d:Arr 96 Int}{list:List GChoice}{cost:Int}(hl:list.length+(m+1)=t.length)(hco:0≤cost):
  ∀(xs:List GChoice) (s:SS),(∀x∈xs,0≤costV c x)→(lookL f n c (suf (t.map (leastC f c)) (list.length+1)) budget go d list cost xs s).over=false→0≤s.least→(lookL f n c (suf (t.map (leastC f c)) (list.length+1)) budget go d list cost xs s).least≤s.least:=by
 intro xs
 induction xs with
 | nil=>intro s _ _ _;exact Int.le_refl _
 | cons x xs ih=>
  intro s hx ho h0
  have hxs:∀y∈xs,0≤costV c y:=fun y hy=>hx y (by simp [hy])
  have hx0:=hx x (by simp)
  cases hpv:putV f n x d with
  | none=>rw [lookL_none hpv] at ho⊢;exact ih s hxs ho h0
  | some d'=>
   by_cases hcut:0≤s.least∧s.least≤cost+costV c x+suf (t.map (leastC f c)) (list.length+1)
   ·rw [lookL_cut hpv hcut] at ho⊢;exact ih s hxs ho h0
   ·by_cases hb:s.looks=budget
    ·rw [lookL_bud hpv hcut hb] at ho;cases ho
    ·by_cases hov:(go d' (list++ [x]) (cost+costV c x) ⟨s.looks+1,s.over,s.best,s.least⟩).over=true
     ·rw [lookL_stop hpv hcut hb hov] at ho;rw [hov] at ho;cases ho
     ·rw [lookL_go hpv hcut hb hov] at ho⊢
      have hov':(go d' (list++ [x]) (cost+costV c x) ⟨s.looks+1,s.over,s.best,s.least⟩).over=false:=by simpa using hov
      have h1:=hg.mono d' (list++ [x]) (cost+costV c x) _ (by simp;omega) (by omega) hov' h0 (by simp only [List.length_append,List.length_cons,List.length_nil,Nat.zero_add];have:¬s.least≤_:=fun e=>hcut ⟨h0,e⟩;show _<s.least;omega)
      have h2:=hg.pos d' (list++ [x]) (cost+costV c x) _ (by simp;omega) (by omega) hov'
      exact Int.le_trans (ih _ hxs ho h2) h1
theorem lookL_opt{f:GFrame}(hf:FOk f){t:List GNote}(ht:TOk t){c:GCosts}(hc:COk c){n:GNote}{budget:Int}{m:Nat}{go:Arr 96 Int→List GChoice→Int→SS→SS}(hg:GoOk f t c m go){d:Arr 96 Int}{list:List GChoice}{cost:Int}(hl:list.length+(m+1)=t.length)(hco:0≤cost)
  (hn:t[list.length]?=some n):
  ∀(xs:List GChoice) (s:SS),(∀x∈xs,0≤costV c x)→(lookL f n c (suf (t.map (leastC f c)) (list.length+1)) budget go d list cost xs s).over=false→∀x∈xs,∀r,r.length=m→fitsAt f t (list++x::r) list.length d (m+1)→
   (lookL f n c (suf (t.map (leastC f c)) (list.length+1)) budget go d list cost xs s).least≤cost+sumC c (x::r):=by
 intro xs
 induction xs with
 | nil=>intro s _ _ x hx;cases hx
 | cons x xs ih=>
  intro s hx ho y hy r hr hfit
  have hxs:∀y∈xs,0≤costV c y:=fun y hy=>hx y (by simp [hy])
  have hx0:=hx x (by simp)
  obtain⟨_,e,he,hfit2⟩:=fits_step hn hfit
  cases hpv:putV f n x d with
  | none=>
   rw [lookL_none hpv] at ho⊢
   rcases List.mem_cons.1 hy with rfl | hy
   ·rw [hpv] at he;cases he
   ·exact ih s hxs ho y hy r hr hfit
  | some d'=>
   by_cases hcut:0≤s.least∧s.least≤cost+costV c x+suf (t.map (leastC f c)) (list.length+1)
   ·rw [lookL_cut hpv hcut] at ho⊢
    rcases List.mem_cons.1 hy with rfl | hy
    ·have h1:=lookL_mono hg hl hco xs s hxs ho hcut.1
     have h2:=rest_ge hf ht hc r (list++ [y]) e (by simp;omega) (by rw [hr];simpa using hfit2)
     rw [sumC_cons]
     simp only [List.length_append,List.length_cons,List.length_nil] at h2
     have h3:=hcut.2
     simp only [Nat.zero_add] at h2
     omega
    ·exact ih s hxs ho y hy r hr hfit
   ·by_cases hb:s.looks=budget
    ·rw [lookL_bud hpv hcut hb] at ho;cases ho
    ·by_cases hov:(go d' (list++ [x]) (cost+costV c x) ⟨s.looks+1,s.over,s.best,s.least⟩).over=true
     ·rw [lookL_stop hpv hcut hb hov] at ho;rw [hov] at ho;cases ho
     ·rw [lookL_go hpv hcut hb hov] at ho⊢
      have hov':(go d' (list++ [x]) (cost+costV c x) ⟨s.looks+1,s.over,s.best,s.least⟩).over=false:=by simpa using hov
      rcases List.mem_cons.1 hy with rfl | hy
      ·rw [hpv] at he
       obtain rfl:=Option.some.inj he
       have h1:=hg.opt d' (list++ [y]) (cost+costV c y) _ (by simp;omega) (by omega) hov' r hr (by simpa using hfit2)
       have h2:=hg.pos d' (list++ [y]) (cost+costV c y) _ (by simp;omega) (by omega) hov'
       have h3:=lookL_mono hg hl hco xs _ hxs ho h2
       rw [sumC_cons]
       omega
      ·exact ih _ hxs ho y hy r hr hfit
structure AllOk (f:GFrame) (t:List GNote) (c:GCosts) (all:List (List GChoice)):Prop where
 al:all.length=t.length
 mem:∀(k:Nat) n xs,t[k]?=some n→all[k]?=some xs→∀x,x∈xs↔x∈allFor f n
 cv:∀xs∈all,∀x∈xs,0≤costV c x
 aw:∀xs∈all,∃x∈xs,x.fAway=true
theorem bst_get{f:GFrame}{t:List GNote}{c:GCosts}{k:Nat}(hk:k≤t.length):((bst (t.map (leastC f c)) t.length)[k]?).getD 0=suf (t.map (leastC f c)) k:=by
 unfold bst
 rw [List.getElem?_map,List.getElem?_range (by simp;omega)]
 simp
theorem srch_ok{f:GFrame}(hf:FOk f){t:List GNote}(ht:TOk t){c:GCosts}(hc:COk c){all:List (List GChoice)}(ha:AllOk f t c all)(budget:Int):∀m,GoOk f t c m (srch f t c all (bst (t.map (leastC f c)) t.length) budget m):=by
 intro m
 induction m with
 | zero=>
  refine⟨fun d l co s _ h _=>h,?_,?_⟩
  ·intro d l co s hl h0 ho hs hlt
   have:suf (t.map (leastC f c)) l.length=0:=by unfold suf;rw [List.drop_of_length_le (by simp;omega)];rfl
   show co≤s.least
   omega
  ·intro d l co s hl h0 ho r hr _
   obtain rfl:=List.eq_nil_of_length_eq_zero hr
   simp [srch,sumC,sumL]
 | succ m ih=>
  have key:∀(l:List GChoice),l.length+(m+1)=t.length→∃n xs,t[l.length]?=some n∧all[l.length]?=some xs∧xs∈all∧∀d co s,srch f t c all (bst (t.map (leastC f c)) t.length) budget (m+1) d l co s=lookL f n c (suf (t.map (leastC f c)) (l.length+1)) budget (srch f t c all (bst (t.map (leastC f c)) t.length) budget m) d l co xs s:=by
   intro l hl
   have hkt:l.length<t.length:=by omega
   have hka:l.length<all.length:=by rw [ha.al];exact hkt
   refine⟨t[l.length],all[l.length],List.getElem?_eq_getElem hkt,List.getElem?_eq_getElem hka,List.getElem_mem hka,fun d co s=> ?_⟩
   simp only [srch,List.getElem?_eq_getElem hkt,List.getElem?_eq_getElem hka,bst_get (show l.length+1≤t.length by omega)]
  refine⟨?_,?_,?_⟩
  ·intro d l co s hl h0 ho
   exact srch_found ha.al ha.cv ha.aw (m+1) d l co s hl h0 ho
  ·intro d l co s hl h0 ho hs _
   obtain⟨n,xs,hn,hx,hxa,e⟩:=key l hl
   rw [e] at ho⊢
   exact lookL_mono ih hl h0 xs s (ha.cv xs hxa) ho hs
  ·intro d l co s hl h0 ho r hr hfit
   obtain⟨n,xs,hn,hx,hxa,e⟩:=key l hl
   rw [e] at ho⊢
   cases r with
   | nil=>simp at hr
   | cons x r=>
    obtain⟨hxm,_⟩:=fits_step hn hfit
    exact lookL_opt hf ht hc ih hl h0 hn xs s (ha.cv xs hxa) ho x ((ha.mem _ n xs hn hx x).2 hxm) r (by simpa using hr) hfit
def Good(f:GFrame)(t:List GNote)(c:GCosts)(s:SS):Prop:=0≤s.least→s.best.length=t.length∧fitsAt f t s.best 0 (Arr.rep 96 0) t.length∧sumC c s.best=s.least
structure Ctx (f:GFrame) (t:List GNote) (c:GCosts) (d:Arr 96 Int) (l:List GChoice) (co:Int):Prop where
 sum:co=sumC c l
 fit:∀rest,tryN (fitP f t (l++rest)) 0 (Arr.rep 96 0) t.length=tryN (fitP f t (l++rest)) l.length d (t.length-l.length)
theorem ctx_step{f:GFrame}{t:List GNote}{c:GCosts}{d d':Arr 96 Int}{l:List GChoice}{co:Int}(h:Ctx f t c d l co){n:GNote}(hn:t[l.length]?=some n){x:GChoice}(hx:x∈allFor f n)(hp:putV f n x d=some d'):
  Ctx f t c d' (l++ [x]) (co+costV c x):=by
 have hk:l.length<t.length:=(List.getElem?_eq_some_iff.1 hn).1
 refine⟨by rw [sumC_app,h.sum];simp [sumC,sumL],fun rest=> ?_⟩
 have h1:=h.fit (x::rest)
 have e1:(l++ [x])++rest=l++x::rest:=by simp
 rw [e1,h1,show t.length-l.length=(t.length-(l++ [x]).length)+1 by simp;omega]
 have hfp:fitP f t (l++x::rest) l.length d=some d':=by
  unfold fitP
  rw [hn,List.getElem?_append_right (Nat.le_refl _)]
  simp only [Nat.sub_self,List.getElem?_cons_zero]
  rw [if_pos hx,hp]
 simp only [tryN,hfp,List.length_append,List.length_cons,List.length_nil]
theorem lookL_good{f:GFrame}{t:List GNote}{c:GCosts}{n:GNote}{b budget:Int}{go:Arr 96 Int→List GChoice→Int→SS→SS}{d:Arr 96 Int}{list:List GChoice}{cost:Int}(hc:Ctx f t c d list cost)(hn:t[list.length]?=some n)
  (hgo:∀d' x co s,Ctx f t c d' (list++ [x]) co→Good f t c s→Good f t c (go d' (list++ [x]) co s)):
  ∀(xs:List GChoice) (s:SS),(∀x∈xs,x∈allFor f n)→Good f t c s→Good f t c (lookL f n c b budget go d list cost xs s):=by
 intro xs
 induction xs with
 | nil=>intro s _ h;exact h
 | cons x xs ih=>
  intro s hx h
  have hxs:∀y∈xs,y∈allFor f n:=fun y hy=>hx y (by simp [hy])
  cases hpv:putV f n x d with
  | none=>rw [lookL_none hpv];exact ih s hxs h
  | some d'=>
   have hctx:=ctx_step hc hn (hx x (by simp)) hpv
   have hs:Good f t c ⟨s.looks+1,s.over,s.best,s.least⟩:=h
   by_cases hcut:0≤s.least∧s.least≤cost+costV c x+b
   ·rw [lookL_cut hpv hcut];exact ih s hxs h
   ·by_cases hb:s.looks=budget
    ·rw [lookL_bud hpv hcut hb];exact h
    ·by_cases hov:(go d' (list++ [x]) (cost+costV c x) ⟨s.looks+1,s.over,s.best,s.least⟩).over=true
     ·rw [lookL_stop hpv hcut hb hov];exact hgo d' x _ _ hctx hs
     ·rw [lookL_go hpv hcut hb hov];exact ih _ hxs (hgo d' x _ _ hctx hs)
theorem srch_good{f:GFrame}{t:List GNote}{c:GCosts}{all:List (List GChoice)}(ha:AllOk f t c all)(bnd:List Int)(budget:Int):
  ∀(m:Nat) (d:Arr 96 Int) (l:List GChoice) (co:Int) (s:SS),l.length+m=t.length→Ctx f t c d l co→Good f t c s→Good f t c (srch f t c all bnd budget m d l co s):=by
 intro m
 induction m with
 | zero=>
  intro d l co s hl hc _ _
  have h1:=hc.fit []
  rw [List.append_nil,show t.length-l.length=0 by omega] at h1
  exact⟨by show l.length=t.length;omega,⟨d,h1⟩,hc.sum.symm⟩
 | succ m ih=>
  intro d l co s hl hc h
  have hkt:l.length<t.length:=by omega
  have hka:l.length<all.length:=by rw [ha.al];exact hkt
  have hn:=List.getElem?_eq_getElem hkt
  simp only [srch,hn,List.getElem?_eq_getElem hka]
  exact lookL_good hc hn (fun d' x co s h1 h2=>ih d' (l++ [x]) co s (by simp;omega) h1 h2) _ s (fun x hx=>(ha.mem _ _ _ hn (List.getElem?_eq_getElem hka) x).1 hx) h
theorem all_ok{f:GFrame}(hf:FOk f){c:GCosts}(hc:COk c){t:List GNote}(ht:TOk t):AllOk f t c (t.map (ordC f c)):=by
 have hp:∀n∈t,(ordC f c n).Perm (allFor f n):=fun n hn=>by
  have:=ht.nt n hn
  exact(ordC_is hf hc (n:=n) (by omega) (by omega)).2.2
 refine⟨by simp,?_,?_,?_⟩
 ·intro k n xs hn hx x
  rw [List.getElem?_map,hn] at hx
  obtain rfl:=Option.some.inj hx
  exact(hp n (List.mem_of_getElem? hn)).mem_iff
 ·intro xs hxs x hx
  obtain⟨n,hn,rfl⟩:=List.mem_map.1 hxs
  have hnt:=ht.nt n hn
  exact(costV_le hc (all_small hf (n:=n) (by omega) (by omega) ((hp n hn).mem_iff.1 hx))).1
 ·intro xs hxs
  obtain⟨n,hn,rfl⟩:=List.mem_map.1 hxs
  exact⟨⟨true,0,0,0⟩,(hp n hn).mem_iff.2 (by unfold allFor;simp),rfl⟩
theorem arrV_best{f:GFrame}(hf:FOk f){c:GCosts}(hc:COk c){t:List GNote}(ht:TOk t)(budget:Int)(ho:(arrV f t c budget).over=false):
  0≤(arrV f t c budget).least∧(arrV f t c budget).best.length=t.length∧fitsAt f t (arrV f t c budget).best 0 (Arr.rep 96 0) t.length∧sumC c (arrV f t c budget).best=(arrV f t c budget).least∧
  ∀r:List GChoice,r.length=t.length→fitsAt f t r 0 (Arr.rep 96 0) t.length→(arrV f t c budget).least≤sumC c r:=by
 have ha:=all_ok hf hc ht
 have hg:=srch_ok hf ht hc ha budget t.length
 have hp:=hg.pos (Arr.rep 96 0) [] 0 ⟨0,false,[],-1⟩ (by simp) (by omega) ho
 have hgood:=srch_good ha (bst (t.map (leastC f c)) t.length) budget t.length (Arr.rep 96 0) [] 0 ⟨0,false,[],-1⟩ (by simp) ⟨by simp [sumC,sumL],fun rest=>by simp⟩ (fun h=>by simp at h)
 obtain⟨g1,g2,g3⟩:=hgood hp
 refine⟨hp,g1,g2,g3,fun r hr hfit=> ?_⟩
 have:=hg.opt (Arr.rep 96 0) [] 0 ⟨0,false,[],-1⟩ (by simp) (by omega) ho r hr (by simpa using hfit)
 have e:arrV f t c budget=srch f t c (t.map (ordC f c)) (bst (t.map (leastC f c)) t.length) budget t.length (Arr.rep 96 0) [] 0 ⟨0,false,[],-1⟩:=rfl
 rw [e]
 omega
end Go.Proofs.YtolfkfjjifdmeaaGreat
