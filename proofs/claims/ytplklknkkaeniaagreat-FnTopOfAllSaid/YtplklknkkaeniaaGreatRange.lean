/- A range over a function: an iterator's contract, the statement, and the end of a function that holds one. -/
import Derived.Test.YtplklknkkaeniaaGreatEng
import Derived.RangeFuncOwn
import Derived.OrdersIn
namespace Go.Proofs.YtplklknkkaeniaaGreat.Eng
open Go Go.RowKit
set_option linter.unusedSimpArgs false
set_option linter.unusedVariables false
set_option linter.unusedSectionVars false
variable [gj:wu]
def Bd{A S T:Type}(body:A→S→Option (S⊕T)):List A→S→Option (S⊕T)
 | [],s=>some (.inl s)
 | y::l,s=>(body y s).bind fun o=>match o with
  | .inl s'=>Bd body l s'
  | .inr t=>some (.inr t)
theorem PK{A S T:Type}{body:A→S→Option (S⊕T)}{y:A}{l:List A}{s:S}{r:S⊕T}(h:Bd body (y::l) s=some r):
  ∃o,body y s=some o∧((∃s',o= .inl s'∧Bd body l s'=some r)∨(∃t,o= .inr t∧r= .inr t)):=by
 simp only [Bd,Option.bind_eq_some_iff] at h
 obtain⟨o,h1,h2⟩:=h
 refine⟨o,h1,?_⟩
 cases o with
 | inl s'=>exact .inl ⟨s',rfl,h2⟩
 | inr t=>exact .inr ⟨t,rfl,(e9 h2).symm⟩
def YO(P:Program)(gf:Nat)(lb:Array Value)(as:List (Array Value))(H:Nat→World→Prop)(St:Nat→World→World→Prop):Prop:=
 ∀(n l:Nat) (J J':Nat→World→Prop) (Jx:World→Prop) (W:World),
  (∀k W,J k W→H k W)→
  (∀k W W',k<as.length→J k W→St k W W'→J' k W')→
  (∀k W (hk:k<as.length),J' k W→YieldAt Fence.wide (n-1) P l as[k] W fun e W'=>(e= .returned (.bool true)∧J (k+1) W')∨(e= .returned (.bool false)∧Jx W'))→
  J 0 W→CallsIn Fence.wide n P gf (#[.func (.yield l) #[] #[]]++lb) W fun e W'=>(∃v,e= .returned v)∧(J as.length W'∨Jx W')
def SN(w0:World)(W:List Nat)(w2:World)(W2:List Nat)(df:Q5):Prop:=
 ∃D,df.D= [{target:= .collected D,args:= #[]}]∧w0.heap.size≤D∧∀L w,Mem w2 W2 L w→w.heap[D]?=some (.deferred (some []))∧Mem w0 W L (w.putObj D (.deferred none))
def YP(w0 w1:World)(W1:List Nat):Prop:=∀L w,Mem w1 W1 L w→aca w0 w
def RQ'{S X T:Type}(n:Nat)(w0:World)(W:List Nat)(w1:World)(W1:List Nat)(E:Env)(I:S→X→Prop)(Lk:S→X→List dJ)(r:S⊕T)(Q:Exit→Act→World→Prop)(o:S⊕T):Exit→Act→World→Prop
 | .normal,_,w=>∃s x,o= .inl s∧I s x∧Mem w1 W1 (Lk s x) w
 | .ret,_,w=>∃t L',o= .inr t∧Mem w1 W1 L' w∧Q4 L'=true∧(r= .inr t→∀(df:Q5) w2 W2,SN w0 W w2 W2 df→ @JX _ df n w2 W2 .ret E L' Q)
 | _,_,_=>False
section
variable {P:Program} {n:Nat} {w0 w1:World} {W W1:List Nat} {Q:Exit→Act→World→Prop} {E E':Env} {L:List dJ}
theorem W9{S X T:Type}{I:S→X→Prop}{Lk:S→X→List dJ}{r o:S⊕T}(s:S)(x:X)(hy:o= .inl s)(hi:I s x)(l:List Nat)(hr:nd l=true)(hL:at_ L l=Lk s x):
  JX n w1 W1 .normal E' L (RQ' n w0 W w1 W1 E I Lk r Q o):=fun a w cX=>⟨s,x,hy,hi,cX.mem.pick l hr hL⟩
theorem Mem.put{w:World}(h:Mem w0 W L w){b:Nat}(hb:w0.heap.size≤b)(hL:∀x∈L,x.b≠some b)(hf:∀p∈Cb L,p.1≠b)(o:Obj):Mem w0 W L (w.putObj b o):=
 ⟨h.os,h.tape,h.output,h.BG,by simpa using h.size,fun c hc hW=>(World.putObj_heap_other (by omega)).trans (h.bW c hc hW),
  fun x hx c hc=>(World.putObj_heap_other (fun e=>hL x hx (by rw [hc,e]))).trans (h.own x hx c hc),h.qF,h.new,fun p hp=>(h.yh p hp).mono (fun hb=>hb) (by simp) (World.putObj_heap_other (hf p hp))⟩
theorem Mem.aaP{w w2:World}(h:Mem w0 W L w)(hz:Q4 L=true)(hh:∀b,b<w.heap.size→w2.heap[b]?=w.heap[b]?):Mem w2 (bs (L.map dJ.b)) L w2:=
 ⟨rfl,rfl,rfl,GC.of_le (bt _),bt _,fun _ _ _=>rfl,fun x hx b hb=>(hh b (h.lt hx hb)).trans (h.own x hx b hb),h.qF,fun x hx b hb=> .inl (by rw [pG];exact dm.2 ⟨x,hx,hb⟩),wv hz⟩
theorem w4{w:World}{b:Nat}{o o':Obj}(h:w.heap[b]?=some o):(w.putObj b o').putObj b o=w:=by
 have gy:=rF h
 cases w with
 | mk heap tape drawn os output=>
  simp only [World.putObj] at h⊢
  congr 1
  apply Array.ext_getElem?
  intro j
  simp only [Array.getElem?_setIfInBounds,Array.size_setIfInBounds]
  split
  ·rename_i e;subst e;exact h.symm
  ·rfl
theorem Ko{w:World}{b:Nat}{o:Obj}(h:w.heap[b]?=some o):w.putObj b o=w:=by
 have h1:=w4 (o':=o) h
 have gy:=rF h
 cases w with
 | mk heap tape drawn os output=>
  simp only [World.putObj] at h⊢
  congr 1
  apply Array.ext_getElem?
  intro j
  simp only [Array.getElem?_setIfInBounds]
  split
  ·rename_i e;subst e;exact h.symm
  ·rfl
def QBM(P:Program)(fn:Func)(R:Value→World→Prop):Exit→Act→World→Prop
 | .normal,a,w | .ret,a,w=>(a.defers= []∧∃v,(results fn a.tmps).run P w= .ok v w∧R v w)∨
   ∃D,a.defers= [{target:= .collected D,args:= #[]}]∧w.heap[D]?=some (.deferred (some []))∧∃v,(results fn a.tmps).run P (w.putObj D (.deferred none))= .ok v (w.putObj D (.deferred none))∧R v (w.putObj D (.deferred none))
 | _,_,_=>False
theorem DW{fn:Func}{R:Value→World→Prop}{a:Act}{w:World}(h:QBM P fn R .ret a w):LeavesInM Fence.wide n P fn a.tmps (fun e w'=>∃v,e= .returned v∧R v w') a.defers .returning w:=by
 rcases h with⟨hd,v,hr,hR⟩ | ⟨D,hd,hD,v,hr,hR⟩
 ·rw [hd];exact⟨v,hr,v,rfl,hR⟩
 ·rw [hd]
  exact⟨by simp, .inl ⟨D,_,rfl,run_takeDeferred hD,v,hr,v,rfl,hR⟩⟩
theorem aaQ{f:FuncId}{fn:Func}{c:Code}{args:List Value}{w:World}{R:Value→World→Prop}(hf:P.funcs[f]?=some fn)(hb:fn.body=some c)
  (hn:fn.ntmps=n) (hle:Nat.ble args.length n=true) (hm:Mem w W L w) (h:JC P n w W c (Je 0 args) L (QBM P fn R)):
  Calls P f args.toArray w fun e w'=>∃v,e= .returned v∧R v w':=by
 refine callsIn_wide.1 (callsIn_of_wp_marks (n:=0) (F:=Fence.wide) hf hb trivial (wpIn_wide.2 (wp_mono (h _ w ⟨?_,rfl,?_,hm⟩) ?_)) rfl)
 ·have:=uW hle
  simp [hn];omega
 ·intro t g v hl _
  obtain⟨_,h2⟩:=NQ args 0 t g v hl
  simp only [Nat.sub_zero] at h2
  have gy:t<args.length:=by
   rcases jw t args.length with h' | h'
   ·exact h'
   ·rw [jJ h'] at h2;simp at h2
  simp only [xx]
  rw [wk (by simpa using gy)]
  simp [h2]
 ·intro e a' w' hq
  cases e with
  | normal=>exact DW hq
  | ret=>exact DW hq
  | _=>exact hq.elim
theorem W_ [df:Q5]{fn:Func}{R:Value→World→Prop}{rs:List ResultVar}(ht:SN w0 W w1 W1 df)(hs:List Nat)(v:Value)(bs:List (Nat×Nat))(Q9:fn.results.toList=rs)
  (hr:(AX P L E rs hs).map (fun r=>(one r.1,r.2))=some (v,bs)) (hb:bs.map (·.1)=bs.map (·.2)) (hR:∀w,Mem w0 W L w→R v w):
  JX n w1 W1 .ret E L (QBM P fn R):=by
 intro a w cX
 obtain⟨D,hD,_,hT⟩:=ht
 obtain⟨h1,h2⟩:=hT L w cX.mem
 have HN:Ok n w0 W E L a (w.putObj D (.deferred none)):=⟨cX.sz,cX.df,cX.env,h2⟩
 simp only [iF,dS] at hr
 obtain⟨r,h3,rfl,rfl⟩:=hr
 subst Q9
 exact .inr ⟨D,cX.df.trans hD,h1,_,yN (CX HN _ hs r h3 hb),hR _ h2⟩
class VR (Q:Exit→Act→World→Prop):Prop where
 no:∀a w,¬Q .outgrown a w
instance {K:Act→World→Prop} {Q:Exit→Act→World→Prop} [h:VR Q]:VR (Exit.then K Q):=⟨fun a w hq=>h.no a w hq⟩
instance {i:Nat} {Q:Exit→Act→World→Prop} [h:VR Q]:VR (Exit.inBlock i Q):=⟨fun a w hq=>h.no a w hq⟩
instance {S X T:Type} {I:S→X→Prop} {Lk:S→X→List dJ} {r:S⊕T} {Q:Exit→Act→World→Prop} {o:S⊕T}:VR (RQ' n w0 W w1 W1 E I Lk r Q o):=⟨fun _ _ h=>h⟩
instance {S X T:Type} {I:S→X→Prop} {Lk:S→X→List dJ} {r:S⊕T} {Q:Exit→Act→World→Prop} {o:S⊕T}:Jc (RQ' n w0 W w1 W1 E I Lk r Q o):=⟨fun _ _ _ _ _ h=>h⟩
def JR(P:Program)(n:Nat)(w0:World)(W:List Nat)(c:Code)(E:Env)(L:List dJ)(Q:Exit→Act→World→Prop):Prop:=∀l a w,Ok n w0 W E L a w→c.wpIn (Fence.wide.inRound l) 0 P Q a w
def calm:Op→Bool
 | .defer _=>false
 | _=>true
theorem Gf{l m:Nat}{f:FuncId}{args:Array Value}{w:World}{R:Ending→World→Prop}(h:Calls P f args w R):CallsIn (Fence.wide.inRound l) m P f args w R:=callsIn_wide (n:=m).2 h
theorem Ha{ops:Array Oper}(hq:ops.all (fun o=>calm o.op)=true)(Kp:∀a w,¬Q .outgrown a w){l m i:Nat}{K:Act→World→Prop}{a:Act}{w:World}(h:wpOp P ops Q i K a w):wpOpIn (Fence.wide.inRound l) m P ops Q i K a w:=by
 unfold wpOp at h
 unfold wpOpIn
 split
 ·rename_i he;simp only [he] at h;exact h
 ·rename_i o ho
  simp only [ho] at h
  have hc:calm o.op=true:=by
   obtain⟨gy,he⟩:=Array.getElem?_eq_some_iff.1 ho
   have:=Array.all_eq_true.1 hq i gy
   rwa [he] at this
  split
  ·rename_i hw
   simp only [hw,cp] at h
   rcases h with h | ⟨_,a',w',h⟩
   ·unfold Oper.wp at h
    unfold Oper.wpIn
    refine⟨fun _ _=>trivial,?_⟩
    rw [Oper.semAt_eq _ _ _ (fun c e=>by rw [e] at hc;cases hc)]
    generalize (execOp a.eval o).run P w=r at*
    cases r with
    | ok x w'=>
     cases x<;>simp only [Oper.upon,Oper.uponIn] at h⊢
     case value=>exact h
     case skip=>exact h
     case defer=>exact h
     case enter=>exact⟨(fun e=>by cases e),Gf (Calls.mono h fun e w'' he=>by cases e<;>exact he)⟩
     case row=>exact⟨(fun e=>by cases e),fun c cs hr=>let ⟨v,w'',r,s⟩:=h c cs;⟨v,w'',r,stepsIn_wide.2 s⟩⟩
    | halt x w'=>cases x<;>simp only [Oper.upon,Oper.uponIn] at h⊢<;>exact h
   ·exact absurd h (Kp a' w')
  ·rename_i hw
   simp only [hw] at h
   exact⟨fun _ _=>trivial,h⟩
theorem DX{ops:Array Oper}(hq:ops.all (fun o=>calm o.op)=true)(Kp:∀a w,¬Q .outgrown a w){l m:Nat}:∀(is:List Nat) (a:Act) (w:World),wpOps P ops Q is a w→wpOpsIn (Fence.wide.inRound l) m P ops Q is a w
 | [],a,w,h=>h
 | i::is,a,w,h=>by
  rw [wpOps_cons] at h
  rw [wpOpsIn_cons]
  exact wpOpIn_mono (fun a' w' h'=>DX hq Kp is a' w' h') (Ha hq Kp h)
theorem DY{md:Region.Mode}{ops:Array Oper}(hq:ops.all (fun o=>calm o.op)=true)(Kp:∀a w,¬Q .outgrown a w){l m:Nat}:∀(gg:Nat) (listed:Array Bool) (a:Act) (w:World),wpAny P md ops Q gg listed a w→wpAnyIn (Fence.wide.inRound l) m P md ops Q gg listed a w
 | 0,_,_,_,h=>h
 | gg+1,listed,a,w,h=>⟨h.1,fun i hi=>wpOpIn_mono (fun a' w' h'=>DY hq Kp gg _ a' w' h') (Ha hq Kp (h.2 i hi))⟩
end
section
variable {P:Program} {n:Nat} {w0:World} {W:List Nat} {Q:Exit→Act→World→Prop} {E:Env} {L:List dJ} {ops:Array Oper}
theorem Hb{id:Nat} [Kp:VR Q](hq:ops.all (fun o=>calm o.op)=true)(h:JO P n w0 W ops 0 E L Q):JR P n w0 W (.region id ops false) E L Q:=fun l a w cX=>wpIn_region (DX hq Kp.no _ _ _ (h a w cX))
theorem Xa{id:Nat} [Kp:VR Q](hq:ops.all (fun o=>calm o.op)=true)(Ls:List dJ)(N:Nat)(hm:P.follows .mixedOrders=true)(hN:ops.size=N)(h:JD P n w0 W ops Ls [] N E L Q):JR P n w0 W (.region id ops true) E L Q:=by
 intro l a w cX
 subst hN
 refine wpIn_region_any hm (DY hq Kp.no _ _ _ _ (wpAny_of_held (S:=Mem w0 W Ls) _ _ _ _ (h a _ ?_)))
 exact⟨cX.sz,cX.df,cX.env,⟨cX.mem.os,cX.mem.tape,cX.mem.output,cX.mem.BG.trans (GC.of_le (Nat.le_succ _)),cX.mem.size,cX.mem.bW,cX.mem.own,cX.mem.qF,cX.mem.new,cX.mem.yh⟩⟩
theorem aaR{x y:Code}(h:JR P n w0 W x E L (Exit.then (fun a w=>∀l,y.wpIn (Fence.wide.inRound l) 0 P Q a w) Q)):JR P n w0 W (.seq x y) E L Q:=
 fun l a w cX=>wpIn_seq (wpIn_mono (h l a w cX) fun e a w hq=>by cases e<;>first | exact hq l | exact hq)
theorem Xb{y:Code}(h:JR P n w0 W y E L Q):JX n w0 W .normal E L (Exit.then (fun a w=>∀l,y.wpIn (Fence.wide.inRound l) 0 P Q a w) Q):=fun a w cX l=>h l a w cX
theorem SO{i:Nat}{c:Code}(h:JR P n w0 W c E L (Exit.inBlock i Q)):JR P n w0 W (.block i c) E L Q:=fun l a w cX=>wpIn_block (h l a w cX)
instance {S X T:Type} {I:S→X→Prop} {Es:S→X→Env} {Ls:S→X→List dJ} {t:T} {y:S⊕T} [h:VR Q]:VR (LQ n w0 W I Es Ls t Q y):=⟨fun a w hq=>hq.1⟩
end
section
variable {P:Program} {n:Nat} {w0:World} {W:List Nat} {Q:Exit→Act→World→Prop} {E:Env} {L:List dJ}
def SP(E:Env):List Tmp→List Value→Env
 | p::ps,v::vs=>SP ((p,[],v)::E) ps vs
 | _,_=>E
def Ic(n:Nat)(E:Env):List Tmp→List Value→Bool
 | p::ps,v::vs=>(Nat.blt p n&&uY E p)&&Ic n ((p,[],v)::E) ps vs
 | _,_=>true
theorem Kq{w:World}:∀(ps:List Tmp) (vs:List Value) (E:Env) (a:Act),Ic n E ps vs=true→Ok n w0 W E L a w→
  Ok n w0 W (SP E ps vs) L {a with tmps:=(ps.zip vs).foldl (fun t (p,v)=>t.setIfInBounds p v) a.tmps} w
 | [],_,E,a,_,h=>h
 | _::_,[],E,a,_,h=>h
 | p::ps,v::vs,E,a,hk,h=>by
  simp only [Ic,bY] at hk
  have h1:Ok n w0 W ((p,[],v)::E) L (a.put (some p) v) w:=Ok.put h (blt hk.1.1) hk.1.2 (by simp) (fun _=>rfl)
  exact Kq ps vs _ _ hk.2 h1
theorem SQ{A S X T:Type}{body:A→S→Option (S⊕T)}{as:List A}{r:S⊕T}{g:Operand}{ps:Array Tmp}{assign c:Code}{gf:Nat}{lb:Array Value}
  (bh:A→Array Value) (I:S→X→Prop) (Ls:Nat→S→X→List dJ) (E1:A→Env) (H:Nat→World→Prop) (St:Nat→World→World→Prop)
  {s:S} (xZ:Bd body as s=some r) (x:X) (hI:I s x)
  (hg:nc E [] g=some (.func (.func gf) #[] lb)) (eg:∀args w,(callFunc gf args).run P w= .ok (.enter gf args) w)
  (hit:YO P gf lb (as.map bh) H St) (hps:∀y,(bh y).size=ps.size) (hpo:∀y,Ic n E ps.toList (bh y).toList=true)
  (l:List Nat) (hr:nd l=true) (hL:at_ L l=Ls 0 s x)
  (hH:∀k s x w1 W1 w b o,I s x→Mem w1 W1 (Ls k s x) (World.putObj w b o)→(∀y∈Ls k s x,y.b≠some b)→H k w)
  (hSt:∀k s x w1 W1 w w' b o o',k<as.length→I s x→Mem w1 W1 (Ls k s x) (w.putObj b o)→w.heap[b]?=some o'→b<w1.heap.size→b∉W1→St k w w'→Mem w1 W1 (Ls (k+1) s x) (w'.putObj b o)∧w'.heap[b]?=some o')
  (Xc:∀w1 W1 y k s x (Q:Exit→Act→World→Prop),VR Q→JX n w1 W1 .normal (E1 y) (Ls k s x) Q→JR P n w1 W1 assign (SP E ps.toList (bh y).toList) (Ls k s x) Q)
  (round:∀w1 W1 k s x y o,(W= []→YP w0 w1 W1)→I s x→as[k]?=some y→body y s=some o→JR P n w1 W1 c (E1 y) (Ls (k+1) s x) (RQ' n w0 W w1 W1 E I (Ls (k+1)) r Q o))
  (after:∀(df:Q5) w2 W2,SN w0 W w2 W2 df→∀s' x',r= .inl s'→I s' x'→ @JX _ df n w2 W2 .normal E (Ls as.length s' x') Q) (hnf:∀k s x,Q4 (Ls k s x)=true:=by intros;kernel_rfl):
  JC P n w0 W (.rangeFunc g ps assign c) E L Q:=by
 intro a w cX
 refine(wpIn_wide (n:=2)).1 (wpIn_rangeFunc ?_)
 intro fn _
 have hm:=cX.mem.pick l hr hL
 have hev:a.eval g= .func (.func gf) #[] lb:=fE cX (G:= []) (by simp) hg
 obtain⟨rec,Be⟩:∃rec:LoopState→Option Code→Loop,rec=fun st pe=>{state:=st,pending:=pe,fn,tmps:=a.tmps,params:=ps,assign,body:=c,defers:=w.heap.size}:=⟨_,rfl⟩
 obtain⟨My,hW1⟩:∃My,(w.alloc (.deferred (some []))).alloc (.loop (rec .ready none))=My:=⟨_,rfl⟩
 have HO:My.heap.size=w.heap.size+2:=by rw [←hW1];simp [World.size_alloc]
 have Xd:My.heap[w.heap.size+1]?=some (.loop (rec .ready none)):=by
  rw [←hW1];have:=World.alloc_heap_new (w.alloc (.deferred (some []))) (.loop (rec .ready none));rwa [World.size_alloc] at this
 have hK1:My.heap[w.heap.size]?=some (.deferred (some [])):=by
  rw [←hW1];exact(Below.heap_alloc _ _ _ (by simp)).trans (World.alloc_heap_new w _)
 have hold:∀b,b<w.heap.size→My.heap[b]?=w.heap[b]?:=fun b hb=>by
  rw [←hW1];exact(Below.heap_alloc _ _ _ (by simp;omega)).trans (Below.heap_alloc _ _ _ hb)
 have hos:My.os=w.os∧My.tape=w.tape∧My.output=w.output∧My.drawn=w.drawn:=by rw [←hW1];exact⟨rfl,rfl,rfl,rfl⟩
 obtain⟨R,hR⟩:∃R,R=w.heap.size+1:=⟨_,rfl⟩
 obtain⟨D,hD⟩:∃D,D=w.heap.size:=⟨_,rfl⟩
 obtain⟨busy,Kr⟩:∃busy,busy=Obj.loop (rec .busy none):=⟨_,rfl⟩
 obtain⟨wB,YQ⟩:∃wB,wB=My.putObj R busy:=⟨_,rfl⟩
 obtain⟨Ws,hWs⟩:∃Ws,Ws=bs ((Ls 0 s x).map dJ.b):=⟨_,rfl⟩
 have SR:∀b∈Ws,b<w.heap.size∧(b∈W∨w0.heap.size≤b):=by
  intro b hb
  rw [hWs,pG] at hb
  obtain⟨y,hy,o_⟩:=dm.1 hb
  exact⟨hm.lt hy o_,hm.new y hy b o_⟩
 have hBs:wB.heap.size=w.heap.size+2:=by rw [YQ,World.putObj_size,HO]
 have hB:Mem wB Ws (Ls 0 s x) wB:=by
  rw [hWs]
  exact hm.aaP (hnf _ _ _) fun b hb=>by rw [YQ];exact(World.putObj_heap_other (by omega)).trans (hold b hb)
 have hBR:wB.heap[R]?=some busy:=by rw [YQ];exact World.putObj_heap_same (by omega)
 have hBD:wB.heap[D]?=some (.deferred (some [])):=by rw [YQ];exact(World.putObj_heap_other (by omega)).trans (by rw [hD];exact hK1)
 have hRW:R∉Ws:=fun h=>by have:=(SR R h).1;omega
 have hDW:D∉Ws:=fun h=>by have:=(SR D h).1;omega
 have jR:∀(L:List dJ) (V:World),Mem wB Ws L V→∀y∈L,y.b≠some R∧y.b≠some D:=by
  intro L V hm y hy
  refine⟨fun e=> ?_,fun e=> ?_⟩
  ·rcases hm.new y hy _ e with h | h
   ·exact hRW h
   ·omega
  ·rcases hm.new y hy _ e with h | h
   ·exact hDW h
   ·omega
 have tail:∀(L:List dJ) (V:World) (o:Obj),Q4 L=true→Mem wB Ws L (V.putObj R busy)→SN w0 W (V.putObj R o) (bs (L.map dJ.b)) ⟨[{target:= .collected D,args:= #[]}]⟩∧Mem (V.putObj R o) (bs (L.map dJ.b)) L (V.putObj R o):=by
  intro L V o hnL I7
  have hVs:V.heap.size=(V.putObj R busy).heap.size:=by simp
  have LA:=I7.size
  have hR2:R<V.heap.size:=by omega
  have SU:∀b,b≠R→(V.putObj R o).heap[b]?=(V.putObj R busy).heap[b]?:=fun b hb=>by rw [World.putObj_heap_other hb,World.putObj_heap_other hb]
  have hmL:Mem (V.putObj R o) (bs (L.map dJ.b)) L (V.putObj R o):=
   ⟨rfl,rfl,rfl,GC.of_le (bt _),bt _,fun _ _ _=>rfl,fun y hy b hb=>(SU b (fun e=>(jR L _ I7 y hy).1 (by rw [hb,e]))).trans (I7.own y hy b hb),I7.qF,fun y hy b hb=> .inl (by rw [pG];exact dm.2 ⟨y,hy,hb⟩),wv hnL⟩
  refine⟨⟨D,rfl,by rw [hD];exact cX.mem.size,fun L' V' Hc=> ?_⟩,hmL⟩
  have N':∀b,b∈bs (L.map dJ.b)→b≠D∧(b∈W∨w0.heap.size≤b):=by
   intro b hb
   rw [pG] at hb
   obtain⟨y,hy,o_⟩:=dm.1 hb
   refine⟨fun e=>(jR L _ I7 y hy).2 (by rw [o_,e]),?_⟩
   rcases I7.new y hy b o_ with h | h
   ·exact(SR b h).2
   ·have:=cX.mem.size;exact .inr (by omega)
  have hDV:(V.putObj R o).heap[D]?=some (.deferred (some [])):=by
   rw [SU D (by omega),I7.bW D (by omega) hDW,hBD]
  have hDs:D<(V.putObj R o).heap.size:=rF hDV
  have hD3:V'.heap[D]?=some (.deferred (some [])):=(Hc.bW D hDs (fun h=>(N' D h).1 rfl)).trans hDV
  refine⟨hD3,?_⟩
  have e1:=Hc.os;have e2:=I7.os;have e3:=cX.mem.os
  have hwo:wB.os=w.os∧wB.tape=w.tape∧wB.output=w.output∧wB.drawn=w.drawn:=by rw [YQ];exact hos
  have rb:Mem w0 W L' V':=by
   refine⟨?_,?_,?_,?_,?_,?_,Hc.own,Hc.qF,?_,?_⟩
   ·exact Hc.os.trans (I7.os.trans (hwo.1.trans cX.mem.os))
   ·exact Hc.tape.trans (I7.tape.trans (hwo.2.1.trans cX.mem.tape))
   ·exact Hc.output.trans (I7.output.trans (hwo.2.2.1.trans cX.mem.output))
   ·have h2:=I7.BG
    rw [hwo.2.2.2] at h2
    exact(cX.mem.BG.trans h2).trans Hc.BG
   ·have h1:=cX.mem.size;have h2:=Hc.size;simp only [World.putObj_size] at h2;omega
   ·intro b hb hbW
    have h1:=cX.mem.size
    rw [Hc.bW b (by simp only [World.putObj_size];omega) (fun h=>by rcases(N' b h).2 with h | h;exact hbW h;omega),SU b (by omega),I7.bW b (by omega) (fun h=>by rcases(SR b h).2 with h | h;exact hbW h;omega),YQ,World.putObj_heap_other (by omega),hold b (by omega)]
    exact cX.mem.bW b hb hbW
   ·intro y hy b hb
    have h1:=cX.mem.size
    rcases Hc.new y hy b hb with h | h
    ·exact(N' b h).2
    ·simp only [World.putObj_size] at h;exact .inr (by omega)
   ·intro p hp
    have h1:=cX.mem.size
    exact(Hc.yh p hp).base (by simp only [World.putObj_size];omega) (fun h=>(N' _ h).2)
  refine rb.put (by have:=cX.mem.size;omega) (fun y hy e=> ?_) (fun p hp e=>by rcases(Hc.yh p hp).1 with h | h;exact(N' _ h).1 e;omega) _
  rcases Hc.new y hy D e with h | h
  ·exact(N' D h).1 rfl
  ·omega
 have hkR:W= []→YP w0 wB Ws:=by
  intro hW0 L V I7
  have h1:=cX.mem.size
  have h2:=I7.size
  refine⟨fun b hb=> ?_,by omega⟩
  rw [I7.bW b (by omega) (fun h=>by
   rcases(SR b h).2 with h3 | h3
   ·rw [hW0] at h3;cases h3
   ·omega),YQ,World.putObj_heap_other (by omega),hold b (by omega)]
  exact cX.mem.bW b hb (by rw [hW0];simp)
 have hdf:a.defers= []:=cX.df
 refine⟨w.heap.size+1,[{target:= .collected w.heap.size,args:= #[]}],My,{target:= .fn (.func gf) lb,args:= #[.func (.yield (w.heap.size+1)) #[] #[]]},My,gf,
  #[.func (.yield (w.heap.size+1)) #[] #[]]++lb,My,?_,?_,?_,?_,(fun _=>by omega),?_⟩
 ·rw [←hW1,Be];exact run_enterLoop_outer _ _ _ _ _
 ·simp only [resolve,hev]
  simp [go_sem]
 ·intro f' _;trivial
 ·simp [invoke,go_sem,eg]
 ·rw [←hR]
  refine(hit 1 R (fun k V=>V.heap[R]?=some (.loop (rec .ready none))∧∃s x,I s x∧Bd body (as.drop k) s=some r∧Mem wB Ws (Ls k s x) (V.putObj R busy))
   (fun k V=>V.heap[R]?=some (.loop (rec .ready none))∧∃s x,I s x∧Bd body (as.drop k) s=some r∧Mem wB Ws (Ls (k+1) s x) (V.putObj R busy))
   (fun V=>∃t L',V.heap[R]?=some (.loop (rec .done (some .ret)))∧Mem wB Ws L' (V.putObj R busy)∧Q4 L'=true∧r= .inr t∧∀(df:Q5) w2 W2,SN w0 W w2 W2 df→ @JX _ df n w2 W2 .ret E L' Q)
   My ?_ ?_ ?_ ?_).mono ?_
  ·rintro k V ⟨_,s,x,hi,_,lO⟩
   exact hH k s x wB Ws V R busy hi lO fun y hy=>(jR _ _ lO y hy).1
  ·rintro k V V' hk ⟨hl,s,x,hi,hs,lO⟩ Cc
   obtain⟨h1,h2⟩:=hSt k s x wB Ws V V' R busy _ (by simpa using hk) hi lO hl (by omega) hRW Cc
   exact⟨h2,s,x,hi,hs,h1⟩
  ·rintro k V hk ⟨hl,s,x,hi,hs,lO⟩
   simp only [kF] at hk
   rw [qq hk] at hs
   obtain⟨o,ho,YR⟩:=PK hs
   have gy:R<V.heap.size:=rF hl
   have hy:=run_yield (P:=P) (args:=bh as[k]) hl (by rw [Be];exact hps _)
   rw [Be] at hy
   simp only [List.getElem_map]
   refine⟨fn,_,assign,c,hy,roundIn_of_wpIn (n:=0) trivial ?_⟩
   have Rm:(Array.foldl (fun tmps (t,a)=>tmps.setIfInBounds t a) a.tmps (ps.zip (bh as[k])))=((ps.toList.zip (bh as[k]).toList).foldl (fun t (p,v)=>t.setIfInBounds p v) a.tmps):=by
    rw [←Array.foldl_toList,Array.toList_zip]
   rw [Rm]
   have hVR:V.putObj R (.loop (rec .ready none))=V:=Ko hl
   obtain⟨_,hmV⟩:=tail _ V (.loop (rec .ready none)) (hnf _ _ _) lO
   rw [hVR] at hmV
   have ah2:Ok n V (bs ((Ls (k+1) s x).map dJ.b)) E (Ls (k+1) s x) {tmps:=a.tmps,defers:= []} V:=⟨cX.sz,rfl,cX.env,hmV⟩
   refine Xc V (bs ((Ls (k+1) s x).map dJ.b)) as[k] (k+1) s x _ ⟨fun _ _ h=>h⟩ ?_ R _ V (Kq ps.toList (bh as[k]).toList E _ (hpo _) ah2)
   intro a1 w1 Xe
   have YS:=Xe.mem
   have N':∀b,b∈bs ((Ls (k+1) s x).map dJ.b)→b≠R∧(b∈Ws∨wB.heap.size≤b):=by
    intro b hb
    rw [pG] at hb
    obtain⟨y,hy,o_⟩:=dm.1 hb
    exact⟨fun e=>(jR _ _ lO y hy).1 (by rw [o_,e]),lO.new y hy b o_⟩
   have hVs:=lO.size
   simp only [World.putObj_size] at hVs
   have hR1:w1.heap[R]?=some (.loop (rec .ready none)):=(YS.bW R gy (fun h=>(N' R h).1 rfl)).trans hl
   refine⟨_,run_beginRound hR1 (by rw [Be]),?_⟩
   have hbz:Obj.loop {rec LoopState.ready none with state:= .busy}=busy:=by rw [Kr,Be]
   rw [hbz]
   have ad6:Mem wB Ws (Ls (k+1) s x) (w1.putObj R busy):=by
    refine⟨YS.os.trans lO.os,YS.tape.trans lO.tape,YS.output.trans lO.output,lO.BG.trans YS.BG,?_,?_,?_,lO.qF,lO.new,wv (hnf _ _ _)⟩
    ·have:=YS.size;simp only [World.putObj_size];omega
    ·intro b hb hbW
     by_cases e:b=R
     ·subst e;rw [World.putObj_heap_same (rF hR1)];exact hBR.symm
     ·rw [World.putObj_heap_other e,YS.bW b (by omega) (fun h=>by rcases(N' b h).2 with h | h;exact hbW h;omega)]
      exact(World.putObj_heap_other e).symm.trans (lO.bW b hb hbW)
    ·intro y hy b hb
     exact(World.putObj_heap_other (fun e=>(jR _ _ lO y hy).1 (by rw [hb,e]))).trans (YS.own y hy b hb)
   refine wpIn_mono (round wB Ws k s x as[k] o hkR hi (bM hk) ho R a1 (w1.putObj R busy) ⟨Xe.sz,Xe.df,Xe.env,ad6⟩) ?_
   intro e a3 w3 hq
   cases e with
   | normal=>
    obtain⟨s2,x2,rfl,QT,Hc⟩:=hq
    have SV:w3.heap[R]?=some busy:=(Hc.bW R (by omega) hRW).trans hBR
    rw [Kr] at SV
    refine⟨_,_,run_endRound none SV, .inl ⟨rfl,?_,s2,x2,QT,?_,?_⟩⟩
    ·rw [World.putObj_heap_same (rF SV),Be];rfl
    ·rcases YR with⟨s',e1,e2⟩ | ⟨t,e1,_⟩
     ·cases e1;exact e2
     ·cases e1
    ·rw [←Kr] at SV
     rw [w4 SV];exact Hc
   | ret=>
    obtain⟨t,L',rfl,Hc,QX,hx⟩:=hq
    have SV:w3.heap[R]?=some busy:=(Hc.bW R (by omega) hRW).trans hBR
    rw [Kr] at SV
    have hrt:r= .inr t:=by
     rcases YR with⟨s',e1,e2⟩ | ⟨t',e1,e2⟩
     ·cases e1
     ·cases e1;exact e2
    refine⟨_,_,run_endRound (some .ret) SV, .inr ⟨rfl,t,L',?_,?_,QX,hrt,hx hrt⟩⟩
    ·rw [World.putObj_heap_same (rF SV),Be];rfl
    ·rw [←Kr] at SV
     rw [w4 SV];exact Hc
   | _=>exact hq.elim
  ·refine⟨by rw [hR];exact Xd,s,x,hI,by simpa using xZ,?_⟩
   rw [←YQ];exact hB
  ·rintro e V ⟨⟨v,rfl⟩,ah3⟩
   rcases ah3 with⟨hl,s',x',hi,hs,lO⟩ | ⟨t,L',hl,lO,QX,hrt,hx⟩
   ·simp only [kF] at hs lO
    rw [mR (bt _)] at hs
    have Q9:r= .inl s':=(e9 hs).symm
    refine⟨_,_,run_endLoop hl (by rw [Be];simp),?_⟩
    have hpe:(rec LoopState.ready none).pending=none:=by rw [Be]
    rw [hpe]
    exact(after ⟨[{target:= .collected D,args:= #[]}]⟩ _ _ (tail _ V _ (hnf _ _ _) lO).1 s' x' Q9 hi) _ _ (by
     refine @Ok.mk gj ⟨[{target:= .collected D,args:= #[]}]⟩ _ _ _ _ _ _ _ ?_ ?_ ?_ ?_
     ·exact cX.sz
     ·show [_]++a.defers= [_]
      rw [hdf,hD];rfl
     ·exact cX.env
     ·exact(tail _ V _ (hnf _ _ _) lO).2)
   ·refine⟨_,_,run_endLoop hl (by rw [Be];simp),?_⟩
    have hpe:(rec LoopState.done (some Code.ret)).pending=some .ret:=by rw [Be]
    rw [hpe]
    exact wpIn_ret ((hx ⟨[{target:= .collected D,args:= #[]}]⟩ _ _ (tail _ V _ QX lO).1) _ _ (by
     refine @Ok.mk gj ⟨[{target:= .collected D,args:= #[]}]⟩ _ _ _ _ _ _ _ ?_ ?_ ?_ ?_
     ·exact cX.sz
     ·show [_]++a.defers= [_]
      rw [hdf,hD];rfl
     ·exact cX.env
     ·exact(tail _ V _ QX lO).2))
theorem ad7{e:Exit}(E':Env)(l:List Nat){L':List dJ}(hE:E'.map (fun e=>lk E e.1)=E'.map (fun e=>some e.2))(hr:nd l=true)(hL:at_ L l=L')(h:JX n w0 W e E' L' Q):JX n w0 W e E L Q:=
 fun a w cX=>h a w ((Jd cX hE (fun _ h=>h) cX.mem.qF).qG (cX.mem.pick l hr hL))
end
omit gj in
theorem ifS{β:Type}{p:Prop} [Decidable p]{x:Option β}{r:β}(h:(if p then x else none)=some r):p∧x=some r:=by
 split at h
 ·rename_i c;exact⟨c,h⟩
 ·cases h
def yz(xs:List Int):List (Int×Int):=(List.range xs.length).map fun k=>(((xs.length-1-k:Nat):Int),xs[xs.length-1-k]?.getD 0)
def Ow(y:Int×Int):Array Value:= #[.int .i64 y.1, .int .i64 y.2]
def SX(b0:Nat)(o:Option Nat)(xs:List Int)(cap:Nat)(W:World):Prop:=
 W.cell? ⟨b0,0,none⟩=some (.slice (o.map fun b=>⟨b,0,none⟩) xs.length cap)∧∀(j:Nat) x,xs[j]?=some x→∃b,o=some b∧W.cell? ⟨b,j,none⟩=some (.int .i64 x)
theorem Ks{w:World}{b c:Nat}{o:Obj}(h:some c≠some b)(j:Nat):(w.putObj b o).cell? ⟨c,j,none⟩=w.cell? ⟨c,j,none⟩:=by
 simp only [World.cell?]
 rw [World.putObj_heap_other (fun e=>h (by rw [e]))]
theorem aaS{w1:World}{W1:List Nat}{L:List dJ}{w:World}{b:Nat}{o':Obj}{b0:Nat}{o:Option Nat}{xs:List Int}{cap n:Nat}{T T':TypeId}{sp:List Value}{bh:Int→List Value}(hm:Mem w1 W1 L (w.putObj b o'))(jR:∀y∈L,y.b≠some b)(i j:Nat)
  (hi:L[i]?=some ⟨some b0,T,[.slice (o.map fun b=>⟨b,0,none⟩) n cap]⟩) (hn:xs.length=n) (hj:L[j]?=some ⟨o,T',row bh xs sp⟩) (HU:∀x,bh x= [.int .i64 x]) (ho:o=none→xs= []):SX b0 o xs cap w:=by
 subst hn
 refine⟨?_,fun k x hx=> ?_⟩
 ·have:=hm.cell (dt hi) rfl 0 _ rfl
  rwa [Ks (jR _ (dt hi))] at this
 ·cases o with
  | none=>rw [ho rfl] at hx;simp at hx
  | some c=>
   refine⟨c,rfl,?_⟩
   have hf:=kH (bh:=bh) (m:=1) (fun x=>by rw [HU];rfl) xs k x hx 0 (.int .i64 x) (by rw [HU];rfl)
   have gy:k*1+0<(xs.flatMap bh).length:=by
    rcases jw (k*1+0) (xs.flatMap bh).length with h' | h'
    ·exact h'
    ·rw [jJ h'] at hf;cases hf
   have:=hm.cell (dt hj) rfl k (.int .i64 x) (by
    unfold row
    rw [mQ (by omega),show k=k*1+0 by omega]
    exact hf)
   rwa [Ks (jR _ (dt hj))] at this
theorem Xf{w1:World}{W1:List Nat}{L:List dJ}{w w':World}{b:Nat}{o o':Obj}(hm:Mem w1 W1 L (w.putObj b o))(ho:w.heap[b]?=some o')(Cc:w'=w):Mem w1 W1 L (w'.putObj b o)∧w'.heap[b]?=some o':=by
 subst Cc;exact⟨hm,ho⟩
theorem Xg(w:World)(T:TypeId)(cs:List Value):Mem w [] [⟨some w.heap.size,T,cs⟩] (w.alloc (.cells cs.toArray T)):=by
 refine⟨rfl,rfl,rfl,GC.of_le (bt _),by show _≤(w.heap.push _).size;simp,fun b hb _=> ?_,?_,by simp,?_,by simp [Cb,GD]⟩
 ·exact Go.RowKit.Below.heap_alloc w _ b hb
 ·intro x hx b hb
  simp only [dG] at hx
  subst hx
  cases hb
  show (w.heap.push _)[w.heap.size]?=_
  simp
 ·intro x hx b hb
  simp only [dG] at hx
  subst hx
  cases hb
  exact .inr (bt _)
end Go.Proofs.YtplklknkkaeniaaGreat.Eng
