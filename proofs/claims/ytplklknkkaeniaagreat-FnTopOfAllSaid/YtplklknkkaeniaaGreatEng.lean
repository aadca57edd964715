/- The engine: a symbolic run of straight code by the model's own semantics, with known temporaries and known blocks. -/
import Derived.OrdersHeld
import Derived.KernelRfl
import Derived.Below
import Derived.Laws.StructEq
namespace Go.Proofs.YtplklknkkaeniaaGreat.Eng
abbrev ar:=@Option.bind_some
abbrev bM:=@List.getElem?_eq_getElem
abbrev bC:=@decide_eq_true_eq
abbrev ak:=@if_pos
abbrev dt:=@List.mem_of_getElem?
abbrev cJ:=@List.length_append
abbrev cx:=@Option.some.injEq
abbrev ax:=@if_neg
abbrev cq:=@List.not_mem_nil
abbrev dm:=@List.mem_filterMap
abbrev bT:=@List.getElem_mem
abbrev bN:=@List.length_nil
abbrev bY:=@Bool.and_eq_true
abbrev cM:=@Bool.false_eq_true
abbrev cf:=@List.length_cons
abbrev bt:=@Nat.le_refl
abbrev dG:=@List.mem_singleton
abbrev dw:=@List.mem_append
abbrev jt:=@List.take_succ_eq_append_getElem
abbrev gY:=@List.getElem?_eq_some_iff
abbrev eJ:=@List.length_set
abbrev dS:=@Prod.mk.injEq
abbrev dM:=@List.mem_map
abbrev e9:=@Option.some.inj
abbrev kb:=@List.eq_nil_of_length_eq_zero
abbrev eK:=@List.mem_cons
abbrev bU:=@if_false
abbrev iF:=@Option.map_eq_some_iff
abbrev gl:=@List.length_take
abbrev iV:=@Nat.eq_of_beq_eq_true
abbrev iW:=@List.pairwise_append
abbrev gm:=@List.nil_append
abbrev gP:=@List.all_eq_true
abbrev gz:=@List.append_nil
abbrev jJ:=@List.getElem?_eq_none
abbrev jK:=@List.filterMap_append
abbrev cp:=@if_true
abbrev kz:=@List.take_append_drop
abbrev iu:=@List.length_drop
abbrev iX:=@List.append_assoc
abbrev kc:=@List.filterMap_cons
abbrev mP:=@List.mem_or_eq_of_mem_set
abbrev mQ:=@List.getElem?_append_left
abbrev nB:=@List.getElem?_append_right
abbrev iY:=@Bool.eq_iff_iff
abbrev lJ:=@List.mem_cons_of_mem
abbrev kd:=@Int.toNat_natCast
abbrev mR:=@List.drop_of_length_le
abbrev k6:=@List.mem_cons_self
abbrev kA:=@Bool.not_eq_true'
abbrev ou:=@List.pairwise_iff_getElem
abbrev mq:=@List.getElem?_set_ne
abbrev lK:=@List.pairwise_cons
abbrev kB:=@List.mem_flatMap
abbrev kC:=@Bool.not_eq_true
abbrev ke:=@Bool.or_eq_true
abbrev qq:=@List.drop_eq_getElem_cons
abbrev kE:=@Option.map_some
abbrev kF:=@List.length_map
abbrev ju:=@List.map_cons
abbrev jv:=@Bool.not_true
abbrev ov:=@List.mem_append_right
abbrev kG:=@List.mem_range
abbrev jw:=@Nat.lt_or_ge
abbrev fI:=@congrArg
abbrev ox:=@List.mem_iff_getElem
abbrev lL:=@List.nodup_cons
abbrev rv:=@Int.eq_ofNat_of_zero_le
abbrev ms:=@List.cons.injEq
abbrev mu:=@List.map_append
abbrev oy:=@Nat.lt_of_lt_of_le
abbrev gZ:=@cond_true
abbrev ry:=@List.mem_iff_getElem?
abbrev qt:=@List.flatMap_append
abbrev nD:=@List.cons_append
abbrev oz:=@List.nodup_append
abbrev oB:=@List.flatMap_cons
abbrev oD:=@not_true_eq_false
abbrev rz:=@List.mem_append_left
abbrev rA:=@Nat.pow_le_pow_right
abbrev k7:=@Nat.le_trans
abbrev jL:=@cond_false
abbrev xx:=@Array.getD_eq_getD_getElem?
abbrev lM:=@Nat.zero_add
abbrev lN:=@Nat.succ_mul
abbrev uV:=@List.length_eq_zero_iff
abbrev xy:=@Int.tmod_eq_emod_of_nonneg
abbrev mS:=@Bool.true_and
abbrev oE:=@List.range_succ
abbrev xz:=@List.getElem?_zip_eq_some
abbrev xA:=@Nat.shiftRight_eq_div_pow
abbrev te:=@Nat.testBit_two_pow
abbrev rB:=@List.getElem_take
abbrev rC:=@List.length_range
abbrev rD:=@Bool.eq_false_iff
abbrev uW:=@Nat.le_of_ble_eq_true
abbrev oF:=@Bool.not_false
abbrev nF:=@Nat.add_assoc
abbrev k8:=@beq_iff_eq
abbrev rE:=@Option.getD_some
abbrev oG:=@Nat.mod_eq_of_lt
abbrev tU:=@List.getElem?_cons_zero
abbrev rV:=@Nat.eq_of_testBit_eq
abbrev rW:=@Nat.pow_lt_pow_right
abbrev oJ:=@List.take_length
abbrev tV:=@Array.getElem?_eq_none
abbrev wk:=@Array.getElem?_append_left
abbrev zO:=@Nat.testBit_eq_decide_div_mod_eq
abbrev rY:=@Nat.eq_zero_or_pos
abbrev rZ:=@Nat.lt_of_le_of_lt
abbrev mD:=@List.map_nil
abbrev tW:=@Array.getElem?_push
abbrev tX:=@List.getElem_of_mem
abbrev wl:=@List.getElem?_set_self
abbrev r6:=@List.any_eq_true
abbrev r7:=@beq_self_eq_true
abbrev wm:=@List.set_append_right
abbrev wo:=@List.getElem?_toArray
abbrev tY:=@List.getElem?_set
abbrev tZ:=@List.getElem?_map
abbrev t_:=@List.size_toArray
abbrev ua:=@Nat.or_lt_two_pow
abbrev ub:=@Nat.add_mod_right
abbrev uc:=@bne_self_eq_false
open Go
set_option linter.unusedSimpArgs false
set_option linter.unusedVariables false
abbrev Env:=List (Nat×List (Nat×Bool)×Value)
structure dJ where
 b:Option Nat
 T:TypeId
 cs:List Value
def lk:Env→Nat→Option (List (Nat×Bool)×Value)
 | [],_=>none
 | (d,g,v)::E,t=>bif Nat.beq d t then some (g,v) else lk E t
def V2(g h:List (Nat×Bool)):Bool:=g.all fun x=>h.any fun y=>Nat.beq x.1 y.1&&(x.2==y.2)
def nc(E:Env)(G:List (Nat×Bool)):Operand→Option Value
 | .tmp t=>match lk E t with
  | some (g,v)=>bif V2 g G then some v else none
  | none=>none
 | .const v=>some v
 | .global g=>some (.pointer (some ⟨g,0,none⟩))
 | .func f=>some (.func (.func f) #[] #[])
def ev(E:Env)(G:List (Nat×Bool))(x:Operand):Value:=(nc E G x).getD undef
def zP:List Nat→Nat×List Nat
 | []=>(0,[])
 | [h]=>(h,[h])
 | h::t=>(h,t)
def wq(P:Program)(L:List dJ){α:Type}:Sem α→List Nat→Option (α×List (Nat×Nat))
 | .pure a,_=>some (a,[])
 | .program k,hs=>wq P L (k P) hs
 | .load _ a k,hs=>match a,L[(zP hs).1]? with
  | ⟨b,off,none⟩,some ⟨some c,_,cs⟩=>match cs[off]? with
   | some v=>match wq P L (k v) (zP hs).2 with
    | some r=>some (r.1,(b,c)::r.2)
    | none=>none
   | none=>none
  | _,_=>none
 | _,_=>none
theorem uX{P:Program}{L:List dJ}{w:World}(hw:∀x∈L,∀c,x.b=some c→∀off v,x.cs[off]?=some v→w.cell? ⟨c,off,none⟩=some v){α:Type}:
  ∀(s:Sem α) (hs:List Nat) (r:α×List (Nat×Nat)),wq P L s hs=some r→r.2.map (·.1)=r.2.map (·.2)→s.run P w= .ok r.1 w:=by
 intro s
 induction s with
 | pure a=>intro hs r h _;simp only [wq,cx] at h;subst h;rfl
 | program k ih=>intro hs r h hb;simp only [wq] at h;simp only [Sem.run];exact ih _ hs r h hb
 | load m a k ih=>
  intro hs r h hb
  unfold wq at h
  split at h
  ·rename_i b off c T cs hx
   split at h
   ·rename_i v hv
    split at h
    ·rename_i r' LI
     simp only [cx] at h
     subst h
     simp only [ju,ms] at hb
     have h1:=hw _ (dt hx) c rfl off v hv
     rw [←hb.1] at h1
     simp only [Sem.run,h1]
     exact ih v _ r' LI hb.2
    ·simp at h
   ·simp at h
  ·simp at h
 | _=>intro hs r h _;simp [wq] at h
class wu where
 S:Prop
instance (priority:=low) ag6:wu:=⟨False⟩
set_option linter.unusedSectionVars false
variable [gj:wu]
def GC(a b:Nat):Prop:=gj.S→a≤b
theorem GC.of_le{a b:Nat}(h:a≤b):GC a b:=fun _=>h
theorem GC.trans{a b c:Nat}(h:GC a b)(k:GC b c):GC a c:=fun s=>k7 (h s) (k s)
theorem GC.any(n:¬gj.S)(a b:Nat):GC a b:=fun s=>absurd s n
def At(w:World)(b off:Nat)(vs:List Value):Prop:=∀i v,vs[i]?=some v→w.cell? ⟨b,off+i,none⟩=some v
def kR:Nat:=4000000001
def fz:Value→Option (Nat×Nat×List Value)
 | .tuple ⟨[.pointer (some ⟨b,off,none⟩), .agg vs]⟩=>some (b,off,vs.toList)
 | _=>none
def GD(x:dJ):List (Nat×Nat×List Value):=match x.b with
 | none=>bif Nat.beq x.T kR then x.cs.filterMap fz else []
 | some _=> []
def Cb(L:List dJ):List (Nat×Nat×List Value):=L.flatMap GD
def Q4(L:List dJ):Bool:=L.all fun x=> !(Nat.beq x.T kR)
def yM(w0:World)(W:List Nat)(w:World)(B:List Nat)(p:Nat×Nat×List Value):Prop:=(p.1∈W∨w0.heap.size≤p.1)∧p.1<w.heap.size∧p.1∉B∧At w p.1 p.2.1 p.2.2∧∃cs T,w.heap[p.1]?=some (.cells cs T (0,0))
omit gj in
theorem yM.mono{w0 w w':World}{W B B':List Nat}{p:Nat×Nat×List Value}(h:yM w0 W w B p)(hB:p.1∈B'→p.1∈B)(hs:w.heap.size≤w'.heap.size)(hh:w'.heap[p.1]?=w.heap[p.1]?):yM w0 W w' B' p:=
 ⟨h.1,oy h.2.1 hs,fun hb=>h.2.2.1 (hB hb),fun i v hv=>by
  have:=h.2.2.2.1 i v hv
  simp only [World.cell?,hh];exact this,by rw [hh];exact h.2.2.2.2⟩
omit gj in
theorem yM.base{w1 w0 w:World}{W W1 B:List Nat}{p:Nat×Nat×List Value}(h:yM w0 W w B p)(hs:w1.heap.size≤w0.heap.size)(hW:p.1∈W→p.1∈W1∨w1.heap.size≤p.1):yM w1 W1 w B p:=by
 refine⟨?_,h.2⟩
 rcases h.1 with h1 | h1
 ·exact hW h1
 ·exact .inr (k7 hs h1)
omit gj in
theorem gF{L:List dJ}{p:Nat×Nat×List Value}:p∈Cb L↔∃x∈L,p∈GD x:=kB
omit gj in
theorem HL(L M:List dJ):Cb (L++M)=Cb L++Cb M:=qt
omit gj in
theorem NI{L M:List dJ}(h:∀x∈L,x∈M):∀p∈Cb L,p∈Cb M:=by
 intro p hp
 obtain⟨x,hx,hp⟩:=gF.1 hp
 exact gF.2 ⟨x,h x hx,hp⟩
omit gj in
theorem NJ{L:List dJ}(h:Q4 L=true):Cb L= []:=by
 rw [Cb,List.flatMap_eq_nil_iff]
 intro x hx
 have:=gP.1 h x hx
 unfold GD
 split
 ·cases he:Nat.beq x.T kR with
  | true=>rw [he] at this;cases this
  | false=>rfl
 ·rfl
omit gj in
theorem wv{L:List dJ}(h:Q4 L=true){w0 w:World}{W B:List Nat}:∀p∈Cb L,yM w0 W w B p:=by
 rw [NJ h];intro p hp;cases hp
omit gj in
theorem zQ{T:TypeId}:GD ⟨none,T,[]⟩= []:=by
 unfold GD;simp only [List.filterMap_nil];cases Nat.beq T kR<;>rfl
omit gj in
theorem nR{L:List dJ}{i:Nat}{y:dJ}(h:GD y= []):∀p∈Cb (L.set i y),p∈Cb L:=by
 intro p hp
 obtain⟨x,hx,Cz⟩:=gF.1 hp
 rcases mP hx with hx | rfl
 ·exact gF.2 ⟨x,hx,Cz⟩
 ·rw [h] at Cz;cases Cz
structure Mem (w0:World) (W:List Nat) (L:List dJ) (w:World):Prop where
 os:w.os=w0.os
 tape:w.tape=w0.tape
 output:w.output=w0.output
 BG:GC w0.drawn w.drawn
 size:w0.heap.size≤w.heap.size
 bW:∀b,b<w0.heap.size→b∉W→w.heap[b]?=w0.heap[b]?
 own:∀x∈L,∀b,x.b=some b→w.heap[b]?=some (.cells x.cs.toArray x.T (0,0))
 qF:(L.filterMap dJ.b).Nodup
 new:∀x∈L,∀b,x.b=some b→b∈W∨w0.heap.size≤b
 yh:∀p∈Cb L,yM w0 W w (L.filterMap dJ.b) p
def aca(w0 w:World):Prop:=(∀b,b<w0.heap.size→w.heap[b]?=w0.heap[b]?)∧w0.heap.size≤w.heap.size
theorem Mem.cell{w0 w:World}{W:List Nat}{L:List dJ}(h:Mem w0 W L w){x:dJ}(hx:x∈L){c:Nat}(hc:x.b=some c)(off:Nat)(v:Value)
  (hv:x.cs[off]?=some v):w.cell? ⟨c,off,none⟩=some v:=by
 simp [World.cell?,h.own x hx c hc,hv]
class Q5 where
 D:List Deferred
instance (priority:=low) AW:Q5:=⟨[]⟩
variable [Pa:Q5]
structure Ok (n:Nat) (w0:World) (W:List Nat) (E:Env) (L:List dJ) (a:Act) (w:World):Prop where
 sz:a.tmps.size=n
 df:a.defers=Pa.D
 env:∀t g v,lk E t=some (g,v)→(∀x∈g,a.tmps.getD x.1 undef= .bool x.2)→a.tmps.getD t undef=v
 mem:Mem w0 W L w
omit gj in
theorem Pb{g h:List (Nat×Bool)}(hs:V2 g h=true){p:Nat×Bool→Prop}(hh:∀x∈h,p x):∀x∈g,p x:=by
 intro x hx
 simp only [V2,gP] at hs
 have:=hs x hx
 simp only [r6,bY,k8] at this
 obtain⟨y,hy,h1,h2⟩:=this
 have h1:x.1=y.1:=iV h1
 have:x=y:=Prod.ext h1 h2
 exact this▸hh y hy
theorem fE{n:Nat}{w0:World}{W:List Nat}{E:Env}{L:List dJ}{a:Act}{w:World}(h:Ok n w0 W E L a w){G:List (Nat×Bool)}
  (hG:∀x∈G,a.tmps.getD x.1 undef= .bool x.2) {x:Operand} {v:Value} (hx:nc E G x=some v):a.eval x=v:=by
 cases x with
 | tmp t=>
  simp only [nc] at hx
  split at hx
  ·rename_i g u hl
   cases hg:V2 g G with
   | true=>rw [hg] at hx;simp only [gZ,cx] at hx;subst hx;exact h.env t g u hl (Pb hg hG)
   | false=>rw [hg] at hx;simp at hx
  ·simp at hx
 | const u=>simp only [nc,cx] at hx;exact hx
 | global g=>simp only [nc,cx] at hx;exact hx
 | func f=>simp only [nc,cx] at hx;exact hx
def known(E:Env)(G:List (Nat×Bool))(o:Op):Bool:=o.operands.all fun x=>(nc E G x).isSome
def q':Op→Bool
 | .select ..=>false
 | _=>true
theorem iO{n:Nat}{w0:World}{W:List Nat}{E:Env}{L:List dJ}{a:Act}{w:World}(h:Ok n w0 W E L a w){G:List (Nat×Bool)}
  (hG:∀x∈G,a.tmps.getD x.1 undef= .bool x.2) {o:Oper} (hk:known E G o.op=true) (hs:q' o.op=true):
  execOp a.eval o=execOp (ev E G) o:=by
 apply execOp_congr o (fun cs b e=>by rw [e] at hs;simp [q'] at hs)
 intro x hx
 simp only [known,Array.all_eq_true_iff_forall_mem] at hk
 have:=hk x hx
 obtain⟨v,hv⟩:=Option.isSome_iff_exists.1 this
 rw [fE h hG hv];simp [ev,hv]
structure St where
 i:Nat
 h:Nat:=0
 m:Nat:=0
def uY(E:Env)(d:Nat):Bool:=E.all fun e=>e.2.1.all fun g=> !(Nat.beq g.1 d)
def ww(ops:Array Oper)(j:Nat):Option Nat:=(ops[j]?).bind (·.dst)
structure VB where
 E:Env
 cn:List (Nat×Nat)
 cb:List (Bool×Bool)
def NK(P:Program)(T:TypeId)(cs:Array Value)(off:Nat):Option Value:=
 match P.underlying T,P.info? T with
 | some d,some t=>match d with
  | .struct _=>some (.agg (cs.extract off (off+t.size)))
  | .array _ _=>some (.agg (cs.extract off (off+t.size)))
  | _=>cs[off]?
 | _,_=>none
def Q6(P:Program)(g:TypeId→Value→Value→Option Bool)(xs ys:Array Value):List Field→Option Bool
 | []=>some true
 | f::fs=>bif f.name== "_" then none else match NK P f.type xs f.offset,NK P f.type ys f.offset with
  | some a,some b=>match g f.type a b with
   | some r=>match fs with
    | []=>some r
    | _=>match Q6 P g xs ys fs with
     | some s=>some (r&&s)
     | none=>none
   | none=>none
  | _,_=>none
def eqV(P:Program):Nat→TypeId→Value→Value→Option Bool
 | 0,_,_,_=>none
 | d+1,t,x,y=>match P.underlying t with
  | some .bool=>match x,y with
   | .bool a, .bool b=>some (a==b)
   | _,_=>none
  | some (.int _)=>match x,y with
   | .int k a, .int k' b=>if k=k' then some (a==b) else none
   | _,_=>none
  | some .string=>match x,y with
   | .string a, .string b=>some (a.toList==b.toList)
   | _,_=>none
  | some (.struct fs)=>match x,y with
   | .agg xs, .agg ys=>bif P.stoodInHeld t then none else Q6 P (eqV P d) xs ys fs.toList
   | _,_=>none
  | _=>none
omit gj in
theorem BH{P:Program}{T:TypeId}{cs:Array Value}{off:Nat}{v:Value}(h:NK P T cs off=some v)(w:World):(part T cs off).run P w= .ok v w:=by
 unfold NK at h
 split at h
 ·rename_i d t hd ht
  have hs:(sizeOf T).run P w= .ok t.size w:=by simp [sizeOf,typeInfo,program,Sem.run,ht]
  have hu:∀w,(underlying T).run P w= .ok d w:=by intro w;simp [underlying,program,Sem.run,hd]
  unfold part isAgg
  split at h
  ·simp only [cx] at h;subst h;simp [hu,hs]
  ·simp only [cx] at h;subst h;simp [hu,hs]
  ·rename_i h1 h2
   have:(isAgg T).run P w= .ok false w:=by
    unfold isAgg
    simp only [Sem.run_bind,hu,Result.andThen_ok]
    cases d<;>first | rfl | exact absurd rfl (h1 _) | exact absurd rfl (h2 _ _)
   unfold isAgg at this
   simp only [Sem.run_bind,this,Result.andThen_ok,cM,bU,h]
   simp
 ·cases h
omit gj in
theorem LJ{P:Program}{d:Nat}{g:TypeId→Value→Value→Option Bool}{xs ys:Array Value}{w:World}
  (hg:∀t a b r,g t a b=some r→(Op.equalIn d t a b).run P w= .ok r w):∀(fs:List Field) (r:Bool),Q6 P g xs ys fs=some r→(Op.eqFields d xs ys fs).run P w= .ok r w:=by
 intro fs
 induction fs with
 | nil=>intro r h;simp only [Q6,cx] at h;subst h;simp [Op.eqFields]
 | cons f fs ih=>
  intro r h
  unfold Q6 at h
  cases hn:(f.name== "_") with
  | true=>rw [hn] at h;simp at h
  | false=>
   rw [hn] at h
   simp only [jL] at h
   have hn':f.name≠ "_" :=by simpa using hn
   split at h
   ·rename_i a b ha hb
    have ha:=BH ha w
    have hb:=BH hb w
    split at h
    ·rename_i q hq
     have he:=hg _ _ _ _ hq
     rw [Op.eqFields]
     simp only [ak hn',Sem.run_bind,ha,hb,he,Result.andThen_ok]
     split at h
     ·simp only [cx] at h
      subst h
      cases q<;>simp [Op.eqFields]
     ·split at h
      ·rename_i s hs
       simp only [cx] at h
       subst h
       have:=ih _ hs
       cases q
       ·simp
       ·simpa using this
      ·cases h
    ·cases h
   ·cases h
omit gj in
theorem GF{P:Program}{w:World}:∀(d:Nat) (t:TypeId) (x y:Value) (r:Bool),eqV P d t x y=some r→∀D,d≤D→(Op.equalIn D t x y).run P w= .ok r w:=by
 intro d
 induction d with
 | zero=>intro t x y r h;simp [eqV] at h
 | succ d ih=>
  intro t x y r h D hD
  obtain⟨D,rfl⟩:∃k,D=k+1:=⟨D-1,by omega⟩
  unfold eqV at h
  split at h
  ·rename_i hu
   split at h
   ·simp only [cx] at h;subst h;exact run_equalIn_bool' w D t _ _ hu
   ·cases h
  ·rename_i k0 hu
   split at h
   ·rename_i k a k' b
    by_cases hk:k=k'
    ·subst hk
     simp only [cp,cx] at h;subst h
     exact run_equalIn_int w D t _ _ _ _ hu
    ·simp [hk] at h
   ·cases h
  ·rename_i hu
   split at h
   ·simp only [cx] at h;subst h;exact run_equalIn_string w D t _ _ hu
   ·cases h
  ·rename_i fs hu
   split at h
   ·rename_i xs ys
    cases hp:P.stoodInHeld t with
    | true=>rw [hp] at h;simp at h
    | false=>
     rw [hp] at h
     simp only [jL] at h
     have hf:P.fieldsOf t=fs:=by simp [Program.fieldsOf,hu]
     rw [run_equalIn_struct (P:=P) w D t xs ys (by rw [hf];exact hu) hp,hf]
     exact LJ (fun t a b r hr=>ih t a b r hr D (by omega)) _ _ h
   ·cases h
  ·cases h
def eqQ(P:Program)(E:Env)(G:List (Nat×Bool)):Op→Option Bool
 | .binOp .eql t x y _=>match nc E G x,nc E G y with
  | some (.agg xs),some (.agg ys)=>bif P.eqGuardType P.depth t then none else eqV P 8 t (.agg xs) (.agg ys)
  | _,_=>none
 | .binOp .neq t x y _=>match nc E G x,nc E G y with
  | some (.agg xs),some (.agg ys)=>bif P.eqGuardType P.depth t then none else(eqV P 8 t (.agg xs) (.agg ys)).map not
  | _,_=>none
 | _=>none
omit gj in
theorem Pc{P:Program}{E:Env}{G:List (Nat×Bool)}{o:Oper}{b:Bool}(h:eqQ P E G o.op=some b)(w:World):(execOp (ev E G) o).run P w= .ok (.value (.bool b)) w:=by
 unfold eqQ at h
 split at h
 ·rename_i t x y yt ho
  split at h
  ·rename_i xs ys hx hy
   cases hg:P.eqGuardType P.depth t with
   | true=>rw [hg] at h;simp at h
   | false=>
    rw [hg] at h
    simp only [jL] at h
    have ex:ev E G x= .agg xs:=by simp [ev,hx]
    have ey:ev E G y= .agg ys:=by simp [ev,hy]
    simp only [execOp,ho,ex,ey,Sem.run_bind,run_eqGuard_agg (P:=P) w .eql t x y xs ys hg,Result.andThen_ok,run_eql_struct (P:=P) w t xs ys,GF 8 t _ _ b h 10000 (by decide)]
    rfl
  ·cases h
 ·rename_i t x y yt ho
  split at h
  ·rename_i xs ys hx hy
   cases hg:P.eqGuardType P.depth t with
   | true=>rw [hg] at h;simp at h
   | false=>
    rw [hg] at h
    simp only [jL,iF] at h
    obtain⟨b',h,rfl⟩:=h
    have ex:ev E G x= .agg xs:=by simp [ev,hx]
    have ey:ev E G y= .agg ys:=by simp [ev,hy]
    simp only [execOp,ho,ex,ey,Sem.run_bind,run_eqGuard_agg (P:=P) w .neq t x y xs ys hg,Result.andThen_ok,run_neq_struct (P:=P) w t xs ys,GF 8 t _ _ b' h 10000 (by decide)]
    rfl
  ·cases h
 ·cases h
def ZM(P:Program)(E:Env)(L:List dJ)(G:List (Nat×Bool))(o:Oper)(h:Nat):Option (Value×List (Nat×Nat)):=
 bif known E G o.op&&q' o.op then
  match eqQ P E G o.op with
  | some b=>some (.bool b,[])
  | none=>match wq P L (execOp (ev E G) o) [h] with
   | some (.value v,cn)=>some (v,cn)
   | _=>none
 else none
def Q7(E:Env)(G:List (Nat×Bool)):Op→Option Value
 | .pick (.tmp c) x y=>match nc E G (.tmp c),nc E ((c,true)::G) x,nc E ((c,false)::G) y with
  | some (.bool b),some (.bool p),some (.bool q)=>some (.bool (cond b p q))
  | _,_,_=>none
 | _=>none
def LK:Op→Bool
 | .pick (.tmp _) _ _=>true
 | _=>false
def CT(ops:Array Oper)(E:Env)(o:Oper)(m:Nat):Option (List (Nat×Bool)×List (Bool×Bool)):=
 match o.guard,m with
 | none,0=>some ([],[])
 | none,4=>some ([],[])
 | none,5=>some ([],[])
 | some (j,want),1=>match ww ops j with
  | some d=>some ([(d,want)],[])
  | none=>none
 | some (j,want),2=>match ww ops j with
  | some d=>match nc E [] (.tmp d) with
   | some (.bool b)=>some ([],[(b,want)])
   | _=>none
  | none=>none
 | some (j,want),4=>match ww ops j with
  | some d=>match nc E [] (.tmp d) with
   | some (.bool b)=>some ([],[(b,want)])
   | _=>none
  | none=>none
 | some (j,want),5=>match ww ops j with
  | some d=>match nc E [] (.tmp d) with
   | some (.bool b)=>some ([],[(b,want)])
   | _=>none
  | none=>none
 | _,_=>none
def Jb(n:Nat)(E:Env)(G:List (Nat×Bool))(dst:Option Nat)(v:Value):Option Env:=
 match dst with
 | some d=>bif Nat.blt d n&&uY E d&&G.all (fun g=> !(Nat.beq g.1 d)) then some ((d,G,v)::E) else none
 | none=>none
def NL(P:Program)(n:Nat)(ops:Array Oper)(L:List dJ)(s:St)(E:Env):Option VB:=
 match ops[s.i]? with
 | none=>none
 | some o=>match CT ops E o s.m with
  | none=>none
  | some (G,cb)=>
   match o.op,s.m with
   | .pick c x _,4=>match nc E G c,nc E G x with
    | some (.bool b),some v=>(Jb n E G o.dst v).map fun E'=>⟨E',[],(b,true)::cb⟩
    | _,_=>none
   | .pick c _ y,5=>match nc E G c,nc E G y with
    | some (.bool b),some v=>(Jb n E G o.dst v).map fun E'=>⟨E',[],(b,false)::cb⟩
    | _,_=>none
   | op,_=>bif LK op then
     match Q7 E G op with
     | some v=>(Jb n E G o.dst v).map fun E'=>⟨E',[],cb⟩
     | none=>none
    else match ZM P E L G o s.h with
     | some (v,cn)=>(Jb n E G o.dst v).map fun E'=>⟨E',cn,cb⟩
     | none=>none
def skb(v:Value)(want:Bool):Option (List (Bool×Bool)):=match v with
 | .bool b=>some [(b,!want)]
 | .tuple _=>some []
 | _=>none
def NM(n:Nat)(ops:Array Oper)(s:St)(E:Env):Option VB:=
 match ops[s.i]? with
 | none=>none
 | some o=>match o.guard,o.dst with
  | some (j,want),some d=>match ww ops j with
   | some e=>match(nc E [] (.tmp e)).bind (skb · want) with
    | some cb=>bif Nat.blt d n&&uY E d then some ⟨(d,[],undef)::E,[],cb⟩ else none
    | none=>none
   | none=>none
  | some (j,want),none=>match ww ops j with
   | some e=>match(nc E [] (.tmp e)).bind (skb · want) with
    | some cb=>some ⟨E,[],cb⟩
    | none=>none
   | none=>none
  | _,_=>none
def HM(P:Program)(n:Nat)(ops:Array Oper)(L:List dJ)(s:St)(E:Env):Option VB:=
 bif Nat.beq s.m 3 then NM n ops s E else NL P n ops L s E
def chunk(P:Program)(n:Nat)(ops:Array Oper)(L:List dJ):List St→Env→Option VB
 | [],E=>some ⟨E,[],[]⟩
 | s::l,E=>match HM P n ops L s E with
  | some r=>match chunk P n ops L l r.E with
   | some q=>some ⟨q.E,r.cn++q.cn,r.cb++q.cb⟩
   | none=>none
  | none=>none
def cl:Option VB→Option (List Nat×List Bool)
 | some r=>some (r.cn.map (·.1),r.cb.map (·.1))
 | none=>some ([0],[])
def cr:Option VB→Option (List Nat×List Bool)
 | some r=>some (r.cn.map (·.2),r.cb.map (·.2))
 | none=>none
def gE:Option VB→Env
 | some r=>r.E
 | none=> []
omit gj in
theorem blt{d n:Nat}(h:Nat.blt d n=true):d<n:=by rwa [Nat.blt_eq] at h
section sound
variable {P:Program} {Q:Exit→Act→World→Prop} {n:Nat} {w0:World} {W:List Nat} {E:Env} {L:List dJ} {ops:Array Oper}
omit gj in
theorem Q8{t:Array Value}{d e:Nat}{v u:Value}:(t.setIfInBounds d v).getD e u=if d=e∧d<t.size then v else t.getD e u:=by
 by_cases h:d=e
 ·subst h
  by_cases hd:d<t.size
  ·simp [hd]
  ·simp [hd]
 ·have:(t.setIfInBounds d v)[e]?=t[e]?:=by rw [Array.getElem?_setIfInBounds];simp [h]
  simp [xx,this,h]
theorem Ok.put{a:Act}{w:World}(h:Ok n w0 W E L a w){d:Nat}(hd:d<n)(hf:uY E d=true){G:List (Nat×Bool)}
  (hG:∀x∈G,x.1≠d) {v u:Value} (hv:(∀x∈G,a.tmps.getD x.1 undef= .bool x.2)→u=v):
  Ok n w0 W ((d,G,v)::E) L (a.put (some d) u) w:=by
 refine⟨by simp [Act.put,h.sz],by simp [Act.put,h.df],?_,h.mem⟩
 intro t g x hl hg
 simp only [lk] at hl
 simp only [Act.put,Q8,h.sz,hd,and_true] at hg⊢
 by_cases e:d=t
 ·subst e
  simp only [Nat.beq_refl,gZ,cx,dS] at hl
  obtain⟨rfl,rfl⟩:=hl
  simp only [cp]
  refine hv fun y hy=> ?_
  have:=hg y hy
  rwa [ax (fun e=>hG y hy e.symm)] at this
 ·have hb:Nat.beq d t=false:=by
   cases hq:Nat.beq d t with
   | false=>rfl
   | true=>exact absurd (iV hq) e
  rw [hb] at hl
  simp only [jL] at hl
  rw [ax e]
  refine h.env t g x hl fun y hy=> ?_
  have h1:=hg y hy
  have jR:d≠y.1:=by
   intro he
   have lO:∃e'∈E,e'.2.1=g:=by
    clear hg h1 hf h hv hb
    induction E with
    | nil=>simp [lk] at hl
    | cons e' E ih=>
     obtain⟨d',g',v'⟩:=e'
     simp only [lk] at hl
     cases hq:Nat.beq d' t with
     | true=>rw [hq] at hl;simp only [gZ,cx,dS] at hl;exact⟨(d',g',v'),by simp,hl.1⟩
     | false=>rw [hq] at hl;simp only [jL] at hl;obtain⟨e'',h1,h2⟩:=ih hl;exact⟨e'',by simp [h1],h2⟩
   obtain⟨e',he',hge⟩:=lO
   simp only [uY,gP,kA] at hf
   have:=hf e' he' y (hge▸hy)
   rw [he] at this
   simp at this
  rwa [ax jR] at h1
omit gj in
theorem oK{a:Act}{j d:Nat}{b:Bool}(hj:ww ops j=some d)(hd:d<a.tmps.size):yielded ops a.tmps j=some b↔a.tmps.getD d undef= .bool b:=by
 simp only [yielded]
 simp only [ww] at hj
 rw [hj]
 simp only [ar,xx,Array.getElem?_eq_getElem hd,rE]
 cases a.tmps[d]<;>simp
omit gj in
theorem oM{t:Array Value}{d:Nat}{b:Bool}(h:t.getD d undef= .bool b):d<t.size:=by
 rcases jw d t.size with h' | h'
 ·exact h'
 ·simp [xx,tV h',undef] at h
theorem wx{a:Act}{w:World}(h:Ok n w0 W E L a w){o:Oper}{m:Nat}{G:List (Nat×Bool)}{cb:List (Bool×Bool)}
  (hg:CT ops E o m=some (G,cb)) (hb:cb.map (·.1)=cb.map (·.2)):
  (Region.wanted o (yielded ops a.tmps)=true↔∀x∈G,a.tmps.getD x.1 undef= .bool x.2):=by
 unfold CT at hg
 unfold Region.wanted
 split at hg
 ·rename_i e;simp only [cx,dS] at hg;obtain⟨rfl,rfl⟩:=hg;simp [e]
 ·rename_i e;simp only [cx,dS] at hg;obtain⟨rfl,rfl⟩:=hg;simp [e]
 ·rename_i e;simp only [cx,dS] at hg;obtain⟨rfl,rfl⟩:=hg;simp [e]
 ·rename_i j want e
  split at hg
  ·rename_i d hd
   simp only [cx,dS] at hg
   obtain⟨rfl,rfl⟩:=hg
   simp only [e,dG,forall_eq,k8]
   rcases jw d a.tmps.size with h' | h'
   ·exact oK hd h'
   ·constructor
    ·intro hy
     simp only [yielded] at hy
     simp only [ww] at hd
     rw [hd] at hy
     simp [tV h'] at hy
    ·intro hy;exact absurd (oM hy) (by omega)
  ·simp at hg
 ·rename_i j want e
  split at hg
  ·rename_i d hd
   split at hg
   ·rename_i b hv
    simp only [cx,dS] at hg
    obtain⟨rfl,rfl⟩:=hg
    simp only [ju,mD,ms,and_true] at hb
    subst hb
    have:=fE h (G:= []) (by simp) hv
    simp only [Act.eval] at this
    have hy:=(oK (b:=b) hd (oM this)).2 this
    simp [e,hy]
   ·simp at hg
  ·simp at hg
 ·rename_i j want e
  split at hg
  ·rename_i d hd
   split at hg
   ·rename_i b hv
    simp only [cx,dS] at hg
    obtain⟨rfl,rfl⟩:=hg
    simp only [ju,mD,ms,and_true] at hb
    subst hb
    have:=fE h (G:= []) (by simp) hv
    simp only [Act.eval] at this
    have hy:=(oK (b:=b) hd (oM this)).2 this
    simp [e,hy]
   ·simp at hg
  ·simp at hg
 ·rename_i j want e
  split at hg
  ·rename_i d hd
   split at hg
   ·rename_i b hv
    simp only [cx,dS] at hg
    obtain⟨rfl,rfl⟩:=hg
    simp only [ju,mD,ms,and_true] at hb
    subst hb
    have:=fE h (G:= []) (by simp) hv
    simp only [Act.eval] at this
    have hy:=(oK (b:=b) hd (oM this)).2 this
    simp [e,hy]
   ·simp at hg
  ·simp at hg
 ·simp at hg
omit gj in
theorem CU{a:Act}{w:World}{i:Nat}{o:Oper}{K:Act→World→Prop}{v:Value}(ho:ops[i]?=some o)
  (hr:Region.wanted o (yielded ops a.tmps)=true→(execOp a.eval o).run P w= .ok (.value v) w)
  (hy:Region.wanted o (yielded ops a.tmps)=true→K (a.put o.dst v) w)
  (hn:Region.wanted o (yielded ops a.tmps)=false→K (a.put o.dst undef) w):wpOp P ops Q i K a w:=by
 unfold wpOp
 simp only [ho]
 cases hw:Region.wanted o (yielded ops a.tmps) with
 | true=>simp only [cp];exact .inl (by unfold Oper.wp;rw [hr hw];exact hy hw)
 | false=>simp only [cM,bU];exact hn hw
theorem CV{a:Act}{w:World}(h:Ok n w0 W E L a w){G:List (Nat×Bool)}{o:Oper}{hh:Nat}{v:Value}{cn:List (Nat×Nat)}
  (hv:ZM P E L G o hh=some (v,cn)) (hc:cn.map (·.1)=cn.map (·.2)) (hG:∀x∈G,a.tmps.getD x.1 undef= .bool x.2):
  (execOp a.eval o).run P w= .ok (.value v) w:=by
 unfold ZM at hv
 cases hk:(known E G o.op&&q' o.op) with
 | false=>rw [hk] at hv;simp at hv
 | true=>
  rw [hk] at hv
  simp only [gZ] at hv
  simp only [bY] at hk
  rw [iO h hG hk.1 hk.2]
  split at hv
  ·rename_i b hb
   simp only [cx,dS] at hv
   obtain⟨rfl,rfl⟩:=hv
   exact Pc hb w
  ·split at hv
   ·rename_i v' cn' hl
    simp only [cx,dS] at hv
    obtain⟨rfl,rfl⟩:=hv
    exact uX (fun x hx c hc off u hu=>h.mem.cell hx hc off u hu) _ _ _ hl hc
   ·simp at hv
theorem BI{a:Act}{w:World}(h:Ok n w0 W E L a w){G:List (Nat×Bool)}{o:Oper}{v:Value}
  (hv:Q7 E G o.op=some v) (hG:∀x∈G,a.tmps.getD x.1 undef= .bool x.2):(execOp a.eval o).run P w= .ok (.value v) w:=by
 unfold Q7 at hv
 split at hv
 ·rename_i c x y ho
  split at hv
  ·rename_i b p q h1 h2 h3
   simp only [cx] at hv
   subst hv
   have e1:=fE h hG h1
   have hc:a.tmps.getD c undef= .bool b:=e1
   simp only [execOp,ho,e1,asBool]
   cases b with
   | true=>
    have e2:=fE h (G:=(c,true)::G) (by intro z hz;rcases eK.1 hz with rfl | hz;exact hc;exact hG z hz) h2
    simp [e2,bind,Sem.bind,pure]
   | false=>
    have e3:=fE h (G:=(c,false)::G) (by intro z hz;rcases eK.1 hz with rfl | hz;exact hc;exact hG z hz) h3
    simp [e3,bind,Sem.bind,pure]
  ·simp at hv
 ·simp at hv
theorem uZ{a:Act}{w:World}(h:Ok n w0 W E L a w){G:List (Nat×Bool)}{dst:Option Nat}{v:Value}{E':Env}
  (hp:Jb n E G dst v=some E') {u:Value} (hu:(∀x∈G,a.tmps.getD x.1 undef= .bool x.2)→u=v):
  Ok n w0 W E' L (a.put dst u) w:=by
 unfold Jb at hp
 split at hp
 ·rename_i d
  cases hc:(Nat.blt d n&&uY E d&&G.all (fun g=> !(Nat.beq g.1 d))) with
  | false=>rw [hc] at hp;simp at hp
  | true=>
   rw [hc] at hp
   simp only [gZ,cx] at hp
   subst hp
   simp only [bY] at hc
   refine h.put (blt hc.1.1) hc.1.2 ?_ hu
   intro x hx he
   have:=gP.1 hc.2 x hx
   rw [he] at this
   simp at this
 ·simp at hp
theorem xB{n:Nat}{w0:World}{W:List Nat}{E:Env}{L:List dJ}{ops:Array Oper}{a:Act}{w:World}(h:Ok n w0 W E L a w){o:Oper}{j e:Nat}{want:Bool}{cb:List (Bool×Bool)}(hg:o.guard=some (j,want))(he:ww ops j=some e)
  (hv:(nc E [] (.tmp e)).bind (skb · want)=some cb) (hb:cb.map (·.1)=cb.map (·.2)):Region.wanted o (yielded ops a.tmps)=false:=by
 obtain⟨v,hv,hs⟩:=Option.bind_eq_some_iff.1 hv
 have ht:=fE h (G:= []) (by simp) hv
 simp only [Act.eval] at ht
 unfold skb at hs
 split at hs
 ·rename_i b
  simp only [cx] at hs
  subst hs
  simp only [ju,mD,ms,and_true] at hb
  have hy:=(oK (b:=b) he (oM ht)).2 ht
  simp only [Region.wanted,hg,hy,hb]
  cases want<;>rfl
 ·rename_i c
  have hy:yielded ops a.tmps j=none:=by
   simp only [yielded]
   simp only [ww] at he
   rw [he]
   simp only [ar]
   cases hx:a.tmps[e]? with
   | none=>rfl
   | some u=>
    rw [xx,hx] at ht
    simp only [rE] at ht
    subst ht
    rfl
  simp [Region.wanted,hg,hy]
 ·cases hs
theorem LL{a:Act}{w:World}(h:Ok n w0 W E L a w){s:St}{r:VB}(hs:HM P n ops L s E=some r)
  (hn:r.cn.map (·.1)=r.cn.map (·.2)) (hb:r.cb.map (·.1)=r.cb.map (·.2)) {K:Act→World→Prop}
  (hk:∀a',Ok n w0 W r.E L a' w→K a' w):wpOp P ops Q s.i K a w:=by
 unfold HM at hs
 cases hm:Nat.beq s.m 3 with
 | true=>
  rw [hm] at hs
  simp only [gZ] at hs
  unfold NM at hs
  split at hs
  ·simp at hs
  ·rename_i o ho
   split at hs
   ·rename_i j want d hg hd
    split at hs
    ·rename_i e he
     split at hs
     ·rename_i b hv
      cases hc:(Nat.blt d n&&uY E d) with
      | false=>rw [hc] at hs;simp at hs
      | true=>
       rw [hc] at hs
       simp only [gZ,cx] at hs
       subst hs
       have hw:=xB h hg he hv hb
       unfold wpOp
       simp only [ho,hw,cM,bU]
       simp only [bY] at hc
       rw [hd]
       exact hk _ (h.put (blt hc.1) hc.2 (by simp) (fun _=>rfl))
     ·simp at hs
    ·simp at hs
   ·rename_i j want hg hd
    split at hs
    ·rename_i e he
     split at hs
     ·rename_i b hv
      simp only [cx] at hs
      subst hs
      have hw:=xB h hg he hv hb
      unfold wpOp
      simp only [ho,hw,cM,bU]
      rw [hd]
      exact hk _ h
     ·simp at hs
    ·simp at hs
   ·simp at hs
 | false=>
  rw [hm] at hs
  simp only [jL] at hs
  unfold NL at hs
  split at hs
  ·simp at hs
  ·rename_i o ho
   split at hs
   ·simp at hs
   ·rename_i G cb hg
    have fin:∀(v:Value) (E':Env),cb.map (·.1)=cb.map (·.2)→Jb n E G o.dst v=some E'→
      ((∀x∈G,a.tmps.getD x.1 undef= .bool x.2)→(execOp a.eval o).run P w= .ok (.value v) w)→
      (∀a',Ok n w0 W E' L a' w→K a' w)→wpOp P ops Q s.i K a w:=by
     intro v E' Yp hp hr NN
     have hG:=wx h hg Yp
     refine CU (v:=v) ho (fun hw=>hr (hG.1 hw)) (fun _=>NN _ (uZ h hp (fun _=>rfl))) (fun hw=>NN _ (uZ h hp ?_))
     intro rb
     have:=hG.2 rb
     rw [hw] at this
     cases this
    split at hs
    ·rename_i c x y VC _
     split at hs
     ·rename_i b v h1 h2
      simp only [iF] at hs
      obtain⟨E',hp,rfl⟩:=hs
      simp only [ju,ms] at hb
      refine fin v E' hb.2 hp ?_ hk
      intro rb
      have e1:=fE h rb h1
      have e2:=fE h rb h2
      simp [execOp,VC,e1,e2,hb.1,asBool,bind,Sem.bind,pure]
     ·simp at hs
    ·rename_i c x y VC _
     split at hs
     ·rename_i b v h1 h2
      simp only [iF] at hs
      obtain⟨E',hp,rfl⟩:=hs
      simp only [ju,ms] at hb
      refine fin v E' hb.2 hp ?_ hk
      intro rb
      have e1:=fE h rb h1
      have e2:=fE h rb h2
      simp [execOp,VC,e1,e2,hb.1,asBool,bind,Sem.bind,pure]
     ·simp at hs
    ·cases hpk:LK o.op with
     | true=>
      rw [hpk] at hs
      simp only [gZ] at hs
      split at hs
      ·rename_i v hv
       simp only [iF] at hs
       obtain⟨E',hp,rfl⟩:=hs
       exact fin v E' hb hp (fun rb=>BI h hv rb) hk
      ·simp at hs
     | false=>
      rw [hpk] at hs
      simp only [jL] at hs
      split at hs
      ·rename_i v cn hv
       simp only [iF] at hs
       obtain⟨E',hp,rfl⟩:=hs
       exact fin v E' hb hp (fun rb=>CV h hv hn rb) hk
      ·simp at hs
end sound
class Jc (Q:Exit→Act→World→Prop):Prop where
 no:∀c a d v w,Q (.panic c) (Act.put a d v) w→Q (.panic c) a w
section judge
variable (P:Program) (n:Nat) (w0:World) (W:List Nat)
def JC(c:Code)(E:Env)(L:List dJ)(Q:Exit→Act→World→Prop):Prop:=∀a w,Ok n w0 W E L a w→c.wp P Q a w
def JX(e:Exit)(E:Env)(L:List dJ)(Q:Exit→Act→World→Prop):Prop:=∀a w,Ok n w0 W E L a w→Q e a w
def JO(ops:Array Oper)(k:Nat)(E:Env)(L:List dJ)(Q:Exit→Act→World→Prop):Prop:=
 ∀a w,Ok n w0 W E L a w→wpOps P ops Q ((List.range ops.size).drop k) a w
def listed(ops:Array Oper):List Nat→Array Bool
 | []=>Array.replicate ops.size false
 | i::l=>(listed ops l).setIfInBounds i true
def JD(ops:Array Oper)(Ls:List dJ)(done:List Nat)(gg:Nat)(E:Env)(L:List dJ)(Q:Exit→Act→World→Prop):Prop:=
 ∀a w,Ok n w0 W E L a w→wpAnyH P .any ops Q (Mem w0 W Ls) gg (listed ops done) a w
end judge
section judge2
variable (P:Program) (n:Nat) (w0:World) (W:List Nat)
def JK(K:Act→World→Prop)(E:Env)(L:List dJ):Prop:=∀a w,Ok n w0 W E L a w→K a w
def JP(ops:Array Oper)(k:Nat)(K:Act→World→Prop)(E:Env)(L:List dJ)(Q:Exit→Act→World→Prop):Prop:=∀a w,Ok n w0 W E L a w→wpOp P ops Q k K a w
end judge2
section rules
variable {P:Program} {n:Nat} {w0:World} {W:List Nat} {Q:Exit→Act→World→Prop} {E:Env} {L:List dJ} {ops:Array Oper}
omit gj in
theorem CW{k m:Nat}(h:k<m):(List.range m).drop k=k::(List.range m).drop (k+1):=by
 rw [qq (by simpa using h)];simp
omit gj in
theorem BJ{o:Oper}{k:Nat}(h:ops[k]?=some o):k<ops.size:=by
 rcases jw k ops.size with h' | h'
 ·exact h'
 ·simp [tV h'] at h
def steps(k:Nat):List (Nat×Nat)→List St
 | []=> []
 | (h,m)::l=>⟨k,h,m⟩::steps (k+1) l
omit gj in
theorem GG{s:St}{r:VB}(h:HM P n ops L s E=some r):s.i<ops.size:=by
 unfold HM at h
 cases hm:Nat.beq s.m 3 with
 | true=>
  rw [hm] at h
  simp only [gZ] at h
  unfold NM at h
  split at h
  ·simp at h
  ·rename_i ho;exact BJ ho
 | false=>
  rw [hm] at h
  simp only [jL] at h
  unfold NL at h
  split at h
  ·simp at h
  ·rename_i ho;exact BJ ho
omit gj in
theorem NO{s:St}{l:List St}(h:cl (chunk P n ops L (s::l) E)=cr (chunk P n ops L (s::l) E)):
  ∃r,HM P n ops L s E=some r∧r.cn.map (·.1)=r.cn.map (·.2)∧r.cb.map (·.1)=r.cb.map (·.2)∧
   cl (chunk P n ops L l r.E)=cr (chunk P n ops L l r.E)∧gE (chunk P n ops L (s::l) E)=gE (chunk P n ops L l r.E):=by
 simp only [chunk] at h⊢
 cases h1:HM P n ops L s E with
 | none=>rw [h1] at h;simp [cl,cr] at h
 | some r=>
  rw [h1] at h
  simp only at h⊢
  cases h2:chunk P n ops L l r.E with
  | none=>rw [h2] at h;simp [cl,cr] at h
  | some q=>
   rw [h2] at h
   simp only [cl,cr,mu,cx,dS] at h
   have e1:=List.append_inj h.1 (by simp)
   have e2:=List.append_inj h.2 (by simp)
   exact⟨r,rfl,e1.1,e2.1,by simp [h2,cl,cr,e1.2,e2.2],by simp [h2,gE]⟩
theorem acb:∀(l:List (Nat×Nat)) {k:Nat} {E:Env},cl (chunk P n ops L (steps k l) E)=cr (chunk P n ops L (steps k l) E)→
  JO P n w0 W ops (k+l.length) (gE (chunk P n ops L (steps k l) E)) L Q→JO P n w0 W ops k E L Q:=by
 intro l
 induction l with
 | nil=>intro k E _ h;exact h
 | cons x l ih=>
  intro k E hc h
  obtain⟨r,h1,hn,hb,hc',hg⟩:=NO hc
  rw [steps,hg] at h
  have gy:=GG h1
  intro a w cX
  rw [CW gy,wpOps_cons]
  refine LL cX h1 hn hb fun a' HN=> ?_
  refine ih hc' ?_ a' w HN
  simp only [cf] at h
  rwa [show k+(l.length+1)=k+1+l.length from by omega] at h
theorem ZN{k:Nat}(hk:ops.size=k)(h:JX n w0 W .normal E L Q):JO P n w0 W ops k E L Q:=by
 intro a w cX
 subst hk
 rw [mR (by simp)]
 exact h a w cX
theorem ao{id:Nat}(h:JO P n w0 W ops 0 E L Q):JC P n w0 W (.region id ops false) E L Q:=fun a w cX=>wp_region (h a w cX)
theorem ad{x y:Code}(h:JC P n w0 W x E L (Exit.then (y.wp P Q) Q)):JC P n w0 W (.seq x y) E L Q:=fun a w cX=>wp_seq (h a w cX)
theorem bV(h:JX n w0 W .normal E L Q):JC P n w0 W .skip E L Q:=fun a w cX=>wp_skip (h a w cX)
theorem lP{i:Nat}(h:JX n w0 W (.exit i) E L Q):JC P n w0 W (.exit i) E L Q:=fun a w cX=>wp_exit (h a w cX)
theorem aI(h:JX n w0 W .ret E L Q):JC P n w0 W .ret E L Q:=fun a w cX=>wp_ret (h a w cX)
theorem ap{i:Nat}{c:Code}(h:JC P n w0 W c E L (Exit.inBlock i Q)):JC P n w0 W (.block i c) E L Q:=fun a w cX=>wp_block (h a w cX)
theorem aP{y:Code}(h:JC P n w0 W y E L Q):JX n w0 W .normal E L (Exit.then (y.wp P Q) Q):=h
theorem ib{K:Act→World→Prop}{i:Nat}(h:JX n w0 W (.exit i) E L Q):JX n w0 W (.exit i) E L (Exit.then K Q):=h
theorem aT{K:Act→World→Prop}(h:JX n w0 W .ret E L Q):JX n w0 W .ret E L (Exit.then K Q):=h
theorem nf{i:Nat}(h:JX n w0 W .normal E L Q):JX n w0 W .normal E L (Exit.inBlock i Q):=h
theorem cg{i:Nat}(h:JX n w0 W .ret E L Q):JX n w0 W .ret E L (Exit.inBlock i Q):=h
theorem bo{i:Nat}(h:JX n w0 W .normal E L Q):JX n w0 W (.exit i) E L (Exit.inBlock i Q):=by
 intro a w cX;simp only [Exit.inBlock,cp];exact h a w cX
theorem ZO{i j:Nat}(hb:Nat.beq j i=false)(h:JX n w0 W (.exit j) E L Q):JX n w0 W (.exit j) E L (Exit.inBlock i Q):=by
 intro a w cX
 have:j≠i:=fun e=>by subst e;simp at hb
 simp only [Exit.inBlock,this,bU]
 exact h a w cX
theorem NP{c:Operand}{x y:Code}(b:Bool)(hb:nc E [] c=some (.bool b))(ht:b=true→JC P n w0 W x E L Q)(hf:b=false→JC P n w0 W y E L Q):
  JC P n w0 W (.cond c x y) E L Q:=by
 intro a w cX
 have:=fE cX (G:= []) (by simp) hb
 exact wp_cond_split this (fun e=>ht e a w cX) (fun e=>hf e a w cX)
theorem Jd{E E':Env}{a:Act}{w:World}{L':List dJ}(h:Ok n w0 W E L a w)(hE:E'.map (fun e=>lk E e.1)=E'.map (fun e=>some e.2))(hL:∀x∈L',x∈L)(hd:(L'.filterMap dJ.b).Nodup):
  Ok n w0 W E' L' a w:=by
 refine⟨h.sz,h.df,?_,?_⟩
 ·intro t g v hl hg
  have hm:∃e∈E',e=(t,g,v):=by
   clear hE
   induction E' with
   | nil=>simp [lk] at hl
   | cons e E' ih=>
    obtain⟨d,g',v'⟩:=e
    simp only [lk] at hl
    cases hq:Nat.beq d t with
    | true=>
     rw [hq] at hl;simp only [gZ,cx,dS] at hl
     have:=iV hq
     obtain⟨rfl,rfl⟩:=hl
     exact⟨_,k6,by rw [this]⟩
    | false=>rw [hq] at hl;simp only [jL] at hl;obtain⟨e,h1,h2⟩:=ih hl;exact⟨e,lJ _ h1,h2⟩
  obtain⟨e,hm,rfl⟩:=hm
  have:=List.map_inj_left.1 hE _ hm
  exact h.env t g v this hg
 ·exact⟨h.mem.os,h.mem.tape,h.mem.output,h.mem.BG,h.mem.size,h.mem.bW,fun x hx=>h.mem.own x (hL x hx),hd,fun x hx=>h.mem.new x (hL x hx),fun p hp=>(h.mem.yh p (NI hL p hp)).mono (fun hb=>by
  obtain⟨y,hy,o_⟩:=dm.1 hb
  exact dm.2 ⟨y,hL y hy,o_⟩) (bt _) rfl⟩
theorem ZP{c:Code}(E':Env)(hE:E'.map (fun e=>lk E e.1)=E'.map (fun e=>some e.2))(h:JC P n w0 W c E' L Q):JC P n w0 W c E L Q:=fun a w cX=>h a w (Jd cX hE (fun _ h=>h) cX.mem.qF)
def QB(P:Program)(fn:Func)(R:Value→World→Prop):Exit→Act→World→Prop
 | .normal,a,w | .ret,a,w=>a.defers=Pa.D∧∃v,(results fn a.tmps).run P w= .ok v w∧R v w
 | _,_,_=>False
instance {fn:Func} {R:Value→World→Prop}:Jc (QB P fn R):=⟨fun _ _ _ _ _ h=>h⟩
instance {K:Act→World→Prop} [h:Jc Q]:Jc (Exit.then K Q):=⟨fun c a d v w=>h.no c a d v w⟩
instance {i:Nat} [h:Jc Q]:Jc (Exit.inBlock i Q):=⟨fun c a d v w=>h.no c a d v w⟩
def one:List Value→Value
 | [v]=>v
 | l=> .tuple l.toArray
def AX(P:Program)(L:List dJ)(E:Env):List ResultVar→List Nat→Option (List Value×List (Nat×Nat))
 | [],_=>some ([],[])
 | .tmp t::l,hs=>match nc E [] (.tmp t),AX P L E l hs with
  | some v,some r=>some (v::r.1,r.2)
  | _,_=>none
 | .cell a t::l,hs=>match nc E [] (.tmp a) with
  | some v=>match wq P L (asAddr v>>=loadVar t) [(zP hs).1],AX P L E l (zP hs).2 with
   | some x,some r=>some (x.1::r.1,x.2++r.2)
   | _,_=>none
  | none=>none
def wy(tmps:Array Value):ResultVar→Sem Value
 | .tmp t=>pure (tmps.getD t undef)
 | .cell a t=>do loadVar t (←asAddr (tmps.getD a undef))
omit gj in
theorem yN{fn:Func}{tmps:Array Value}{w:World}{vs:List Value}(h:(fn.results.toList.mapM (wy tmps)).run P w= .ok vs w):
  (results fn tmps).run P w= .ok (one vs) w:=by
 have:results fn tmps=(do let vs←fn.results.mapM (wy tmps);pure (if h:vs.size=1 then vs[0] else .tuple vs)):=by
  unfold results
  congr 1
 rw [this,Array.mapM_eq_mapM_toList]
 simp only [Sem.run_bind,Sem.run_map,h,Result.andThen_ok,Sem.run_pure]
 congr 1
 match vs with
 | []=>rfl
 | [v]=>rfl
 | a::b::l=>simp [one]
theorem CX{a:Act}{w:World}(h:Ok n w0 W E L a w):∀(rs:List ResultVar) (hs:List Nat) (r:List Value×List (Nat×Nat)),
  AX P L E rs hs=some r→r.2.map (·.1)=r.2.map (·.2)→(rs.mapM (wy a.tmps)).run P w= .ok r.1 w:=by
 intro rs
 induction rs with
 | nil=>intro hs r hr _;simp only [AX,cx] at hr;subst hr;rfl
 | cons x rs ih=>
  intro hs r hr hc
  cases x with
  | tmp t=>
   simp only [AX] at hr
   split at hr
   ·rename_i v r' hv LI
    simp only [cx] at hr
    subst hr
    have e:=fE h (G:= []) (by simp) hv
    simp only [Act.eval] at e
    simp [wy,ih hs r' LI hc,e]
   ·simp at hr
  | cell t T=>
   simp only [AX] at hr
   split at hr
   ·rename_i v hv
    split at hr
    ·rename_i x r' hx LI
     simp only [cx] at hr
     subst hr
     simp only [mu] at hc
     have e1:=List.append_inj hc (by simp)
     have e:=fE h (G:= []) (by simp) hv
     simp only [Act.eval] at e
     have hl:=uX (fun x hx c hc off u hu=>h.mem.cell hx hc off u hu) _ _ _ hx e1.1
     simp only [Sem.run_bind] at hl
     cases ha:(asAddr v).run P w with
     | halt y w1=>rw [ha] at hl;simp at hl
     | ok y w1=>
      rw [ha] at hl
      simp only [Result.andThen_ok] at hl
      simp [wy,e,ha,hl,ih _ r' LI e1.2]
    ·simp at hr
   ·simp at hr
theorem ZQ{fn:Func}{R:Value→World→Prop}{rs:List ResultVar}(hs:List Nat)(v:Value)(bs:List (Nat×Nat))(Q9:fn.results.toList=rs)
  (hr:(AX P L E rs hs).map (fun r=>(one r.1,r.2))=some (v,bs)) (hb:bs.map (·.1)=bs.map (·.2)) (hR:∀w,Mem w0 W L w→R v w):
  JX n w0 W .ret E L (QB P fn R):=by
 intro a w cX
 simp only [iF,dS] at hr
 obtain⟨r,h1,rfl,rfl⟩:=hr
 subst Q9
 exact⟨cX.df,_,yN (CX cX _ hs r h1 hb),hR w cX.mem⟩
theorem gn{fn:Func}{R:Value→World→Prop}(h:JX n w0 W .ret E L (QB P fn R)):JX n w0 W .normal E L (QB P fn R):=h
def Je(k:Nat):List Value→Env
 | []=> []
 | v::l=>(k,[],v)::Je (k+1) l
omit gj in
theorem NQ:∀(l:List Value) (k t:Nat) (g:List (Nat×Bool)) (v:Value),lk (Je k l) t=some (g,v)→k≤t∧l[t-k]?=some v:=by
 intro l
 induction l with
 | nil=>intro k t g v h;simp [Je,lk] at h
 | cons x l ih=>
  intro k t g v h
  simp only [Je,lk] at h
  cases hq:Nat.beq k t with
  | true=>
   rw [hq] at h
   simp only [gZ,cx,dS] at h
   have:=iV hq
   subst this
   exact⟨bt _,by simp [h.2]⟩
  | false=>
   rw [hq] at h
   simp only [jL] at h
   obtain⟨h1,h2⟩:=ih (k+1) t g v h
   refine⟨by omega,?_⟩
   have:t-k=(t-(k+1))+1:=by omega
   rw [this];simpa using h2
omit Pa in
theorem enter{f:FuncId}{fn:Func}{c:Code}{args:List Value}{w:World}{R:Value→World→Prop}(hf:P.funcs[f]?=some fn)(hb:fn.body=some c)
  (hn:fn.ntmps=n) (hle:Nat.ble args.length n=true) (hm:Mem w W L w) (h: @JC _ AW P n w W c (Je 0 args) L (@QB AW P fn R)):
  Calls P f args.toArray w fun e w'=>∃v,e= .returned v∧R v w':=by
 refine calls_of_wp hf hb (wp_mono (h _ w ⟨?_,rfl,?_,hm⟩) ?_)
 ·have:=uW hle
  simp [hn];omega
 ·intro t g v hl _
  obtain⟨_,h2⟩:=NQ args 0 t g v hl
  simp only [Nat.sub_zero] at h2
  have gy:t<args.length:=by
   rcases jw t args.length with h' | h'
   ·exact h'
   ·rw [jJ h'] at h2;simp at h2
  simp only [xx]
  rw [wk (by simpa using gy)]
  simp [h2]
 ·intro e a' w' hq
  cases e with
  | normal=>obtain⟨hd,v,hr,hR⟩:=hq;exact⟨hd,v,hr,v,rfl,hR⟩
  | ret=>obtain⟨hd,v,hr,hR⟩:=hq;exact⟨hd,v,hr,v,rfl,hR⟩
  | _=>exact hq.elim
def il:Value→Bool
 | .agg _=>false
 | .tuple _=>false
 | _=>true
def zR(P:Program){α:Type}:Sem α→Option Nat→List dJ→List Nat→Option (α×List dJ×List (Nat×Nat))
 | .pure a,_,L,_=>some (a,L,[])
 | .program k,b,L,hs=>zR P (k P) b L hs
 | .mark _ k,b,L,hs=>zR P k b L hs
 | .load _ a k,b,L,hs=>match a,L[(zP hs).1]? with
  | ⟨c,off,none⟩,some ⟨some d,_,cs⟩=>match cs[off]? with
   | some v=>match zR P (k v) b L (zP hs).2 with
    | some r=>some (r.1,r.2.1,(c,d)::r.2.2)
    | none=>none
   | none=>none
  | _,_=>none
 | .store _ a v k,b,L,hs=>match a,L[(zP hs).1]? with
  | ⟨c,off,none⟩,some ⟨some d,T,cs⟩=>bif il v&&Nat.blt off cs.length then
    match zR P k b (L.set (zP hs).1 ⟨some d,T,cs.set off v⟩) (zP hs).2 with
    | some r=>some (r.1,r.2.1,(c,d)::r.2.2)
    | none=>none
   else none
  | _,_=>none
 | .new o k,b,L,hs=>match o,b with
  | .cells c T fz,some b=>bif Nat.beq fz.1 0&&Nat.beq fz.2 0 then zR P (k b) none (L++ [⟨some b,T,c.toList⟩]) hs else none
  | _,_=>none
 | _,_,_,_=>none
omit gj in
theorem rF{w:World}{b:Nat}{o:Obj}(h:w.heap[b]?=some o):b<w.heap.size:=by
 rcases jw b w.heap.size with h' | h'
 ·exact h'
 ·simp [tV h'] at h
theorem Mem.lt{w:World}(h:Mem w0 W L w){x:dJ}(hx:x∈L){b:Nat}(hb:x.b=some b):b<w.heap.size:=rF (h.own x hx b hb)
theorem Mem.alloc{w:World}(h:Mem w0 W L w)(c:Array Value)(T:TypeId):
  Mem w0 W (L++ [⟨some w.heap.size,T,c.toList⟩]) {w with heap:=w.heap.push (.cells c T (0,0))}:=by
 refine⟨h.os,h.tape,h.output,h.BG,by simp;exact Nat.le_succ_of_le h.size,?_,?_,?_,?_,?_⟩
 ·intro b hb hn
  have:=h.size
  simp only [tW]
  rw [ax (by omega)]
  exact h.bW b hb hn
 ·intro x hx b hb
  simp only [tW]
  rcases dw.1 hx with hx | hx
  ·rw [ax (by have:=h.lt hx hb;omega)];exact h.own x hx b hb
  ·simp only [dG] at hx;subst hx;cases hb;simp
 ·rw [jK,oz]
  refine⟨h.qF,by simp,?_⟩
  intro a ha b hb
  simp only [kc,List.filterMap_nil,dG] at hb
  obtain⟨x,hx,Ly⟩:=dm.1 ha
  have:=h.lt hx Ly
  omega
 ·intro x hx b hb
  rcases dw.1 hx with hx | hx
  ·exact h.new x hx b hb
  ·simp only [dG] at hx;subst hx;cases hb;exact .inr h.size
 ·intro p hp
  rw [HL] at hp
  rcases dw.1 hp with hp | hp
  ·have hq:=h.yh p hp
   have gy:=hq.2.1
   refine hq.mono (fun hb=> ?_) (by simp) (by simp only [tW];rw [ax (by omega)])
   rw [jK] at hb
   rcases dw.1 hb with hb | hb
   ·exact hb
   ·simp only [kc,List.filterMap_nil,dG] at hb;omega
  ·simp [Cb,GD] at hp
omit gj in
theorem ud{L:List dJ}{i:Nat}{x y:dJ}(hi:L[i]?=some x)(hb:y.b=x.b):(L.set i y).filterMap dJ.b=L.filterMap dJ.b:=by
 induction L generalizing i with
 | nil=>simp
 | cons z L ih=>
  cases i with
  | zero=>simp at hi;subst hi;simp [kc,hb]
  | succ i=>simp at hi;simp [kc,ih hi]
omit gj in
theorem yO{L:List dJ}{i:Nat}{x y z:dJ}(hi:L[i]?=some x)(hd:(L.filterMap dJ.b).Nodup)(hz:z∈L.set i y):z=y∨(z∈L∧∀b c,z.b=some b→x.b=some c→b≠c):=by
 induction L generalizing i with
 | nil=>simp at hz
 | cons u L ih=>
  have hd':(L.filterMap dJ.b).Nodup:=by
   rw [kc] at hd
   split at hd
   ·exact hd
   ·exact(lL.1 hd).2
  cases i with
  | zero=>
   simp at hi;subst hi
   simp only [List.set_cons_zero,eK] at hz
   rcases hz with rfl | hz
   ·exact .inl rfl
   ·refine .inr ⟨lJ _ hz,?_⟩
    intro b c h1 h2 e
    subst e
    rw [kc,h2] at hd
    exact(lL.1 hd).1 (dm.2 ⟨z,hz,h1⟩)
  | succ i=>
   simp at hi
   simp only [List.set_cons_succ,eK] at hz
   rcases hz with rfl | hz
   ·refine .inr ⟨k6,?_⟩
    intro b c h1 h2 e
    subst e
    rw [kc,h1] at hd
    exact(lL.1 hd).1 (dm.2 ⟨x,dt hi,h2⟩)
   ·rcases ih hi hd' hz with h | ⟨h1,h2⟩
    ·exact .inl h
    ·exact .inr ⟨lJ _ h1,h2⟩
theorem Mem.upd{w w':World}(h:Mem w0 W L w){i d:Nat}{T:TypeId}{cs V3:List Value}(hi:L[i]?=some ⟨some d,T,cs⟩)(hos:w'.os=w.os)(htp:w'.tape=w.tape)(hou:w'.output=w.output)(hdr:w'.drawn=w.drawn)
  (HO:w'.heap.size=w.heap.size) (ho:∀b,b≠d→w'.heap[b]?=w.heap[b]?) (hn:w'.heap[d]?=some (.cells V3.toArray T (0,0))):
  Mem w0 W (L.set i ⟨some d,T,V3⟩) w':=by
 have hx:=dt hi
 refine⟨hos.trans h.os,htp.trans h.tape,hou.trans h.output,hdr▸h.BG,HO▸h.size,?_,?_,?_,?_,?_⟩
 ·intro b hb hnb
  have:b≠d:=by
   intro e;subst e
   rcases h.new _ hx b rfl with h' | h'
   ·exact hnb h'
   ·omega
  rw [ho b this]
  exact h.bW b hb hnb
 ·intro z hz b hb
  rcases yO hi h.qF hz with rfl | ⟨hz,jR⟩
  ·cases hb;exact hn
  ·rw [ho b (jR b d hb rfl)];exact h.own z hz b hb
 ·rw [ud hi];exact h.qF;rfl
 ·intro z hz b hb
  rcases yO hi h.qF hz with rfl | ⟨hz,_⟩
  ·cases hb;exact h.new _ hx d rfl
  ·exact h.new z hz b hb
 ·intro p hp
  have hq:=h.yh p (nR rfl p hp)
  have hpd:p.1≠d:=fun e=>hq.2.2.1 (dm.2 ⟨_,hx,by rw [e]⟩)
  exact hq.mono (fun hb=>by rwa [ud (y:=⟨some d,T,V3⟩) hi rfl] at hb) (Nat.le_of_eq HO.symm) (ho _ hpd)
theorem Mem.set{w:World}(h:Mem w0 W L w){i d:Nat}{T:TypeId}{cs:List Value}(hi:L[i]?=some ⟨some d,T,cs⟩)(off:Nat)(v:Value):
  Mem w0 W (L.set i ⟨some d,T,cs.set off v⟩) (w.setCell ⟨d,off,none⟩ v):=by
 have hox:=h.own _ (dt hi) d rfl
 refine h.upd hi rfl rfl rfl rfl (by simp [World.setCell]) ?_ ?_
 ·intro b hb
  simp only [World.setCell,Array.getElem?_modify]
  rw [ax (Ne.symm hb)]
 ·simp [World.setCell,Array.getElem?_modify,hox]
theorem Mem.frozen{w:World}(h:Mem w0 W L w){x:dJ}(hx:x∈L){d:Nat}(hd:x.b=some d)(off:Nat):w.frozen? ⟨d,off,none⟩=false:=by
 simp [World.frozen?,h.own x hx d hd]
theorem CY{α:Type}:∀(s:Sem α) (b:Option Nat) (L:List dJ) (hs:List Nat) (r:α×List dJ×List (Nat×Nat)) (w:World),
  zR P s b L hs=some r→r.2.2.map (·.1)=r.2.2.map (·.2)→Mem w0 W L w→(∀c,b=some c→c=w.heap.size)→∃w',s.run P w= .ok r.1 w'∧Mem w0 W r.2.1 w':=by
 intro s
 induction s with
 | pure a=>intro b L hs r w h _ hm _;simp only [zR,cx] at h;subst h;exact⟨w,rfl,hm⟩
 | program k ih=>intro b L hs r w h hc hm hb;simp only [zR] at h;simp only [Sem.run];exact ih _ b L hs r w h hc hm hb
 | mark m k ih=>intro b L hs r w h hc hm hb;simp only [zR] at h;simp only [Sem.run];exact ih b L hs r w h hc hm hb
 | load m a k ih=>
  intro b L hs r w h hc hm hb
  unfold zR at h
  split at h
  ·rename_i c off d T cs hx
   split at h
   ·rename_i v hv
    split at h
    ·rename_i r' LI
     simp only [cx] at h
     subst h
     simp only [ju,ms] at hc
     have h1:=hm.cell (dt hx) rfl off v hv
     rw [←hc.1] at h1
     simp only [Sem.run,h1]
     exact ih v b L _ r' w LI hc.2 hm hb
    ·simp at h
   ·simp at h
  ·simp at h
 | store m a v k ih=>
  intro b L hs r w h hc hm hb
  unfold zR at h
  split at h
  ·rename_i c off d T cs hx
   cases gy:(il v&&Nat.blt off cs.length) with
   | false=>rw [gy] at h;simp at h
   | true=>
    rw [gy] at h
    simp only [gZ] at h
    simp only [bY] at gy
    split at h
    ·rename_i r' LI
     simp only [cx] at h
     subst h
     simp only [ju,ms] at hc
     have hl:=blt gy.2
     have h1:=hm.cell (dt hx) rfl off cs[off] (by simp [hl])
     have hf:=hm.frozen (dt hx) rfl off
     have h2:=hm.set hx off v
     have Yp:c=d:=hc.1
     subst Yp
     have xZ:(Sem.store m ⟨c,off,none⟩ v k).run P w=k.run P (w.setCell ⟨c,off,none⟩ v):=by
      have hi:=gy.1
      cases v with
      | agg cs=>cases hi
      | tuple cs=>cases hi
      | _=>simp only [Sem.run,h1,hf,cM,bU]
     rw [xZ]
     refine ih b _ _ r' _ LI hc.2 h2 ?_
     intro d hd;rw [hb d hd];simp [World.setCell]
    ·simp at h
  ·simp at h
 | new o k ih=>
  intro b L hs r w h hc hm hb
  unfold zR at h
  split at h
  ·rename_i c T fz b'
   cases hz:(Nat.beq fz.1 0&&Nat.beq fz.2 0) with
   | false=>rw [hz] at h;simp at h
   | true=>
    rw [hz] at h
    simp only [gZ] at h
    simp only [bY] at hz
    obtain⟨lo,hi⟩:=fz
    have e1:=iV hz.1
    have e2:=iV hz.2
    simp only at e1 e2
    subst e1 e2
    have hbb:=hb b' rfl
    subst hbb
    simp only [Sem.run]
    exact ih _ none _ hs r _ h hc (hm.alloc c T) (by simp)
  ·simp at h
 | _=>intro b L hs r w h;unfold zR at h;simp at h
def V4(n:Nat)(E:Env)(o:Oper):Bool:=match o.dst with
 | some d=>Nat.blt d n&&uY E d
 | none=>true
def ic(E:Env)(o:Oper)(v:Value):Env:=match o.dst with
 | some d=>(d,[],v)::E
 | none=>E
theorem Ok.qG{a:Act}{w w':World}{L':List dJ}(h:Ok n w0 W E L a w)(hm:Mem w0 W L' w'):Ok n w0 W E L' a w':=⟨h.sz,h.df,h.env,hm⟩
theorem k9{a:Act}{w:World}(h:Ok n w0 W E L a w){o:Oper}(hd:V4 n E o=true)(v:Value):Ok n w0 W (ic E o v) L (a.put o.dst v) w:=by
 unfold V4 at hd
 unfold ic
 split at hd
 ·rename_i d e
  rw [e]
  simp only [bY] at hd
  exact h.put (blt hd.1) hd.2 (by simp) (fun _=>rfl)
 ·rename_i e
  rw [e]
  exact h
def ZR(ops:Array Oper)(E:Env)(o:Oper)(m:Nat):Option (List Bool):=match CT ops E o m with
 | some ([],cb)=>some (cb.map (·.1))
 | _=>none
def LM(ops:Array Oper)(E:Env)(o:Oper)(m:Nat):Option (List Bool):=match CT ops E o m with
 | some ([],cb)=>some (cb.map (·.2))
 | _=>some [true,true,true]
theorem jB{a:Act}{w:World}(h:Ok n w0 W E L a w){o:Oper}{m:Nat}(hg:ZR ops E o m=LM ops E o m):Region.wanted o (yielded ops a.tmps)=true:=by
 unfold ZR LM at hg
 split at hg
 ·rename_i cb e
  simp only [cx] at hg
  exact(wx h e hg).2 (by simp)
 ·simp at hg
theorem ag7{k m:Nat}{o:Oper}(ho:ops[k]?=some o)(hg:ZR ops E o m=LM ops E o m)(hd:V4 n E o=true)(yP:known E [] o.op=true)(hs:q' o.op=true)
  (v:Value) (hv:∀w,Mem w0 W L w→(execOp (ev E []) o).run P w= .ok (.value v) w):
  ∀a w,Ok n w0 W E L a w→∀K:Act→World→Prop,(∀a' w',Ok n w0 W (ic E o v) L a' w'→K a' w')→wpOp P ops Q k K a w:=by
 intro a w cX K hK
 have hw:=jB cX hg
 refine CU (v:=v) ho (fun _=> ?_) (fun _=>hK _ _ (k9 cX hd v)) (fun h=>by rw [hw] at h;cases h)
 rw [iO cX (G:= []) (by simp) yP hs]
 exact hv w cX.mem
def cV(ops:Array Oper)(k:Nat):Oper:=(ops[k]?).getD default
def pl(n:Nat)(ops:Array Oper)(k m:Nat)(E:Env):Option (List Bool):=match ops[k]? with
 | some o=>bif V4 n E o&&known E [] o.op&&q' o.op then ZR ops E o m else none
 | none=>none
def pr(n:Nat)(ops:Array Oper)(k m:Nat)(E:Env):Option (List Bool):=match ops[k]? with
 | some o=>bif V4 n E o&&known E [] o.op&&q' o.op then LM ops E o m else some [true]
 | none=>some []
omit gj in
theorem pF{k m:Nat}(h:pl n ops k m E=pr n ops k m E):ops[k]?=some (cV ops k)∧ZR ops E (cV ops k) m=LM ops E (cV ops k) m∧V4 n E (cV ops k)=true∧
  known E [] (cV ops k).op=true∧q' (cV ops k).op=true:=by
 unfold pl pr at h
 cases ho:ops[k]? with
 | none=>rw [ho] at h;simp at h
 | some o=>
  rw [ho] at h
  have e:cV ops k=o:=by simp [cV,ho]
  rw [e]
  simp only at h
  cases hb:(V4 n E o&&known E [] o.op&&q' o.op) with
  | false=>rw [hb] at h;simp at h
  | true=>
   rw [hb] at h
   simp only [gZ] at h
   simp only [bY] at hb
   exact⟨rfl,h,hb.1.1,hb.1.2,hb.2⟩
theorem NR{K:Act→World→Prop}{k:Nat}(m:Nat)(hp:pl n ops k m E=pr n ops k m E)(v:Value)(hv:∀w,Mem w0 W L w→(execOp (ev E []) (cV ops k)).run P w= .ok (.value v) w)
  (hk:JK n w0 W K (ic E (cV ops k) v) L):JP P n w0 W ops k K E L Q:=
 have h:=pF hp
 fun a w cX=>ag7 h.1 h.2.1 h.2.2.1 h.2.2.2.1 h.2.2.2.2 v hv a w cX K hk
theorem Yq{K:Act→World→Prop}{k:Nat}(m:Nat)(v v':Value)(hp:pl n ops k m E=pr n ops k m E)(hx:wq P [] (execOp (ev E []) (cV ops k)) []=some (.value v,[]))(hv:v=v')
  (hk:JK n w0 W K (ic E (cV ops k) v') L):JP P n w0 W ops k K E L Q:=by
 subst hv
 exact NR m hp v (fun w hm=>uX (L:= []) (by simp) _ _ _ hx rfl) hk
structure Q' where
 E:Env
 L:List dJ
 cn:List (Nat×Nat)
def zJ(P:Program)(E:Env)(L:List dJ)(o:Oper)(b:Option Nat)(hs:List Nat):Option Q':=
 bif known E [] o.op&&q' o.op then
  match zR P (execOp (ev E []) o) b L hs with
  | some (.value v,L',cn)=>some ⟨ic E o v,L',cn⟩
  | some (.skip,L',cn)=>some ⟨ic E o undef,L',cn⟩
  | _=>none
 else none
def ml:Option Q'→Option (List Nat)
 | some r=>some (r.cn.map (·.1))
 | none=>some [0]
def mr:Option Q'→Option (List Nat)
 | some r=>some (r.cn.map (·.2))
 | none=>none
def mE:Option Q'→Env
 | some r=>r.E
 | none=> []
def mL:Option Q'→List dJ
 | some r=>r.L
 | none=> []
theorem acd{k m:Nat}{o:Oper}(ho:ops[k]?=some o)(hg:ZR ops E o m=LM ops E o m)(hd:V4 n E o=true)(b:Option Nat)(hs:List Nat)
  (hc:ml (zJ P E L o b hs)=mr (zJ P E L o b hs)):
  ∀a w,Ok n w0 W E L a w→(∀c,b=some c→c=w.heap.size)→∀K:Act→World→Prop,(∀a' w',Ok n w0 W (mE (zJ P E L o b hs)) (mL (zJ P E L o b hs)) a' w'→K a' w')→wpOp P ops Q k K a w:=by
 intro a w cX hb K hK
 have hw:=jB cX hg
 unfold wpOp
 simp only [ho,hw,cp]
 refine .inl ?_
 unfold Oper.wp
 generalize hr:zJ P E L o b hs=r at*
 unfold zJ at hr
 cases NN:(known E [] o.op&&q' o.op) with
 | false=>rw [NN] at hr;simp only [jL] at hr;subst hr;simp [ml,mr] at hc
 | true=>
  rw [NN] at hr
  simp only [gZ] at hr
  simp only [bY] at NN
  rw [iO cX (G:= []) (by simp) NN.1 NN.2]
  split at hr
  ·rename_i v L' cn hm
   subst hr
   simp only [ml,mr,cx] at hc
   obtain⟨w',xZ,bn⟩:=CY _ b L hs _ w hm hc cX.mem hb
   rw [xZ]
   exact hK _ _ (k9 (cX.qG bn) hd v)
  ·rename_i L' cn hm
   subst hr
   simp only [ml,mr,cx] at hc
   obtain⟨w',xZ,bn⟩:=CY _ b L hs _ w hm hc cX.mem hb
   rw [xZ]
   exact hK _ _ (k9 (cX.qG bn) hd undef)
  ·subst hr;simp [ml,mr] at hc
theorem p_a{K:Act→World→Prop}{k:Nat}(m:Nat)(hs:List Nat)(hp:pl n ops k m E=pr n ops k m E)
  (hc:∀b,ml (zJ P E L (cV ops k) (some b) hs)=mr (zJ P E L (cV ops k) (some b) hs))
  (hk:∀b,JK n w0 W K (mE (zJ P E L (cV ops k) (some b) hs)) (mL (zJ P E L (cV ops k) (some b) hs))):
  JP P n w0 W ops k K E L Q:=by
 have h:=pF hp
 intro a w cX
 exact acd h.1 h.2.1 h.2.2.1 (some w.heap.size) hs (hc _) a w cX (fun c h=>(e9 h).symm) _ (hk _)
theorem p_s{K:Act→World→Prop}{k:Nat}(m:Nat)(hs:List Nat)(hp:pl n ops k m E=pr n ops k m E)
  (hc:ml (zJ P E L (cV ops k) none hs)=mr (zJ P E L (cV ops k) none hs))
  (hk:JK n w0 W K (mE (zJ P E L (cV ops k) none hs)) (mL (zJ P E L (cV ops k) none hs))):
  JP P n w0 W ops k K E L Q:=by
 have h:=pF hp
 intro a w cX
 exact acd h.1 h.2.1 h.2.2.1 none hs hc a w cX (fun c h=>by cases h) _ hk
theorem V5{k m:Nat}{o:Oper}(ho:ops[k]?=some o)(hg:ZR ops E o m=LM ops E o m)(hd:V4 n E o=true)(yP:known E [] o.op=true)(hs:q' o.op=true)
  (f:FuncId) (args:Array Value) (hx:wq P [] (execOp (ev E []) o) []=some (.enter f args,[]))
  {R:World→Value→World→Prop} (hc:∀w,Mem w0 W L w→Calls P f args w fun e w'=>∃v,e= .returned v∧R w v w') {K:Act→World→Prop}
  (hK:∀w v w',Mem w0 W L w→R w v w'→∃L',Mem w0 W L' w'∧∀a,Ok n w0 W (ic E o v) L' a w'→K a w'):
  ∀a w,Ok n w0 W E L a w→wpOp P ops Q k K a w:=by
 intro a w cX
 have hw:=jB cX hg
 unfold wpOp
 simp only [ho,hw,cp]
 refine .inl ?_
 unfold Oper.wp
 rw [iO cX (G:= []) (by simp) yP hs,uX (L:= []) (by simp) _ _ _ hx rfl]
 refine(hc w cX.mem).mono ?_
 rintro e w' ⟨v,rfl,hR⟩
 obtain⟨L',bn,hk⟩:=hK w v w' cX.mem hR
 exact hk _ (k9 (cX.qG bn) hd v)
theorem ZS{K:Act→World→Prop}{k:Nat}(m:Nat)(f:FuncId)(args:Array Value)(hp:pl n ops k m E=pr n ops k m E)
  (hx:wq P [] (execOp (ev E []) (cV ops k)) []=some (.enter f args,[]))
  {R:World→Value→World→Prop} (hc:∀w,Mem w0 W L w→Calls P f args w fun e w'=>∃v,e= .returned v∧R w v w')
  (hK:∀w v w',Mem w0 W L w→R w v w'→∃L',Mem w0 W L' w'∧JK n w0 W K (ic E (cV ops k) v) L'):JP P n w0 W ops k K E L Q:=by
 have h:=pF hp
 intro a w cX
 refine V5 h.1 h.2.1 h.2.2.1 h.2.2.2.1 h.2.2.2.2 f args hx hc ?_ a w cX
 intro w1 v w' hm hR
 obtain⟨L',h1,h2⟩:=hK w1 v w' hm hR
 exact⟨L',h1,fun a cX=>h2 a w' cX⟩
theorem Mem.app{w w':World}{N:List dJ}(h:Mem w0 W L w)(h':Mem w [] N w'):Mem w0 W (L++N) w':=by
 refine⟨h'.os.trans h.os,h'.tape.trans h.tape,h'.output.trans h.output,h.BG.trans h'.BG,k7 h.size h'.size,?_,?_,?_,?_,?_⟩
 ·intro b hb hn
  have:=h.size
  rw [h'.bW b (by omega) (by simp)];exact h.bW b hb hn
 ·intro x hx b hb
  rcases dw.1 hx with hx | hx
  ·rw [h'.bW b (h.lt hx hb) (by simp)];exact h.own x hx b hb
  ·exact h'.own x hx b hb
 ·rw [jK,oz]
  refine⟨h.qF,h'.qF,?_⟩
  intro a ha b hb
  obtain⟨x,hx,Ly⟩:=dm.1 ha
  obtain⟨y,hy,o_⟩:=dm.1 hb
  have h1:=h.lt hx Ly
  rcases h'.new y hy b o_ with h2 | h2
  ·simp at h2
  ·omega
 ·intro x hx b hb
  have:=h.size
  rcases dw.1 hx with hx | hx
  ·exact h.new x hx b hb
  ·rcases h'.new x hx b hb with h2 | h2
   ·simp at h2
   ·exact .inr (by omega)
 ·intro p hp
  rw [HL] at hp
  rw [jK]
  rcases dw.1 hp with hp | hp
  ·have hq:=h.yh p hp
   refine hq.mono (fun hb=> ?_) h'.size (h'.bW _ hq.2.1 (by simp))
   rcases dw.1 hb with hb | hb
   ·exact hb
   ·obtain⟨y,hy,o_⟩:=dm.1 hb
    rcases h'.new y hy _ o_ with h2 | h2
    ·simp at h2
    ·have:=hq.2.1;omega
  ·have hq:=h'.yh p hp
   have hq1:w.heap.size≤p.1:=hq.1.resolve_left (by simp)
   refine(hq.base h.size (fun e=>absurd e (by simp))).mono (fun hb=> ?_) (bt _) rfl
   rcases dw.1 hb with hb | hb
   ·obtain⟨y,hy,o_⟩:=dm.1 hb
    have:=h.lt hy o_
    omega
   ·exact hb
def qF(d:Nat)(b:Bool)(E:Env):Env:=E.map fun e=>(e.1,e.2.1.filter (fun g=> !(Nat.beq g.1 d&&(g.2==b))),e.2.2)
omit gj in
theorem ZT{d:Nat}{b:Bool}:∀{E:Env} {t:Nat} {g:List (Nat×Bool)} {v:Value},lk (qF d b E) t=some (g,v)→
  ∃g',lk E t=some (g',v)∧∀x∈g',x=(d,b)∨x∈g:=by
 intro E
 induction E with
 | nil=>intro t g v h;simp [qF,lk] at h
 | cons e E ih=>
  intro t g v h
  obtain⟨e1,e2,e3⟩:=e
  simp only [qF,ju,lk] at h
  simp only [lk]
  cases hq:Nat.beq e1 t with
  | true=>
   rw [hq] at h
   simp only [gZ,cx,dS] at h
   obtain⟨rfl,rfl⟩:=h
   refine⟨e2,rfl,?_⟩
   intro x hx
   by_cases EY:(Nat.beq x.1 d&&(x.2==b))=true
   ·simp only [bY,k8] at EY
    exact .inl (Prod.ext (iV EY.1) EY.2)
   ·exact .inr (List.mem_filter.2 ⟨hx,by rw [kC] at EY;simp only [EY,oF]⟩)
  | false=>
   rw [hq] at h
   simp only [jL] at h⊢
   exact ih h
theorem Ok.split{a:Act}{w:World}(cX:Ok n w0 W E L a w){d:Nat}{b:Bool}(hb:nc E [] (.tmp d)=some (.bool b)):Ok n w0 W ((d,[], .bool b)::qF d b E) L a w:=by
 have h1:=fE cX (G:= []) (by simp) hb
 simp only [Act.eval] at h1
 refine⟨cX.sz,cX.df,?_,cX.mem⟩
 intro t g v hl hg
 simp only [lk] at hl
 cases hq:Nat.beq d t with
 | true=>
  rw [hq] at hl
  simp only [gZ,cx,dS] at hl
  obtain⟨rfl,rfl⟩:=hl
  rw [←iV hq];exact h1
 | false=>
  rw [hq] at hl
  simp only [jL] at hl
  obtain⟨g',h2,h3⟩:=ZT hl
  refine cX.env t g' v h2 fun x hx=> ?_
  rcases h3 x hx with rfl | hx
  ·exact h1
  ·exact hg x hx
theorem Ra{k:Nat}(d:Nat)(b:Bool)(hb:nc E [] (.tmp d)=some (.bool b))
  (ht:b=true→JO P n w0 W ops k ((d,[], .bool true)::qF d true E) L Q) (he:b=false→JO P n w0 W ops k ((d,[], .bool false)::qF d false E) L Q):JO P n w0 W ops k E L Q:=by
 intro a w cX
 cases b with
 | true=>exact ht rfl a w (cX.split hb)
 | false=>exact he rfl a w (cX.split hb)
theorem Rb{Ls:List dJ}{done:List Nat}{gg:Nat}(d:Nat)(b:Bool)(hb:nc E [] (.tmp d)=some (.bool b))
  (ht:b=true→JD P n w0 W ops Ls done gg ((d,[], .bool true)::qF d true E) L Q) (he:b=false→JD P n w0 W ops Ls done gg ((d,[], .bool false)::qF d false E) L Q):JD P n w0 W ops Ls done gg E L Q:=by
 intro a w cX
 cases b with
 | true=>exact ht rfl a w (cX.split hb)
 | false=>exact he rfl a w (cX.split hb)
inductive It {S T:Type} (f:S→Option (S⊕T)) (t:T):S→Prop
 | done {s}:f s=some (.inr t)→It f t s
 | step {s s'}:f s=some (.inl s')→It f t s'→It f t s
omit gj in
theorem It.ag8{S T:Type}{f:S→Option (S⊕T)}{s:S}{t t':T}(h:It f t s)(h':It f t' s):t=t':=by
 induction h with
 | done e=>cases h' with
  | done e'=>rw [e] at e';simpa using e'
  | step e' _=>rw [e] at e';simp at e'
 | step e _ ih=>cases h' with
  | done e'=>rw [e] at e';simp at e'
  | step e' h2=>rw [e] at e';simp at e';subst e';exact ih h2
open Classical in
noncomputable def loop {S T:Type} (f:S→Option (S⊕T)) (s:S):Option T:=if h:∃t,It f t s then some h.choose else none
omit gj in
theorem u3{S T:Type}{f:S→Option (S⊕T)}{s:S}{t:T}:loop f s=some t↔It f t s:=by
 unfold loop
 constructor
 ·intro h
  split at h
  ·rename_i hx;simp at h;exact h▸hx.choose_spec
  ·simp at h
 ·intro h
  have hx:∃t,It f t s:=⟨t,h⟩
  rw [dif_pos hx]
  exact fI some (hx.choose_spec.ag8 h)
omit gj in
theorem bH{S T:Type}(f:S→Option (S⊕T))(s:S):loop f s=match f s with
  | none=>none
  | some (.inl s')=>loop f s'
  | some (.inr t)=>some t:=by
 split
 ·rename_i e
  cases h:loop f s with
  | none=>rfl
  | some t=>cases u3.1 h with
   | done e'=>rw [e] at e';simp at e'
   | step e' _=>rw [e] at e';simp at e'
 ·rename_i s' e
  cases h:loop f s with
  | none=>
   cases h':loop f s' with
   | none=>rfl
   | some t=>rw [u3.2 (.step e (u3.1 h'))] at h;cases h
  | some t=>cases u3.1 h with
   | done e'=>rw [e] at e';simp at e'
   | step e' h2=>rw [e] at e';simp at e';subst e';exact(u3.2 h2).symm
 ·rename_i t e
  exact u3.2 (.done e)
def LQ{S X T:Type}(n:Nat)(w0:World)(W:List Nat)(I:S→X→Prop)(Es:S→X→Env)(Ls:S→X→List dJ)(t:T)(Q:Exit→Act→World→Prop)(y:S⊕T):Exit→Act→World→Prop:=
 Exit.then (fun a w=>∃s x,y= .inl s∧I s x∧Ok n w0 W (Es s x) (Ls s x) a w) (fun e a w=>(match e with | .outgrown=>False | _=>True)∧∃t',y= .inr t'∧(t'=t→Q e a w))
instance {S X T:Type} {I:S→X→Prop} {Es:S→X→Env} {Ls:S→X→List dJ} {t:T} {y:S⊕T} [h:Jc Q]:Jc (LQ n w0 W I Es Ls t Q y):=⟨fun c a d v w ⟨_,t',e,hq⟩=>⟨trivial,t',e,fun e=>h.no c a d v w (hq e)⟩⟩
theorem wz{S X T:Type}{I:S→X→Prop}{Es:S→X→Env}{Ls:S→X→List dJ}{t:T}{y:S⊕T}{i:Nat}(t':T)(hy:y= .inr t')(h:t'=t→JX n w0 W (.exit i) E L Q):
  JX n w0 W (.exit i) E L (LQ n w0 W I Es Ls t Q y):=fun a w cX=>⟨trivial,t',hy,fun e=>h e a w cX⟩
theorem c_{S X T:Type}{I:S→X→Prop}{Es:S→X→Env}{Ls:S→X→List dJ}{t:T}{y:S⊕T}(t':T)(hy:y= .inr t')(h:t'=t→JX n w0 W .ret E L Q):
  JX n w0 W .ret E L (LQ n w0 W I Es Ls t Q y):=fun a w cX=>⟨trivial,t',hy,fun e=>h e a w cX⟩
def aB:Option Addr→Nat | some a=>a.block | none=>0
def aO:Option Addr→Nat | some a=>a.off | none=>0
structure Rw {S:Type} (w:World) (a:Option Addr) (m:Nat) (bh:S→List Value) (xs:List S):Prop where
 spot:xs≠ []→a=some ⟨aB a,aO a,none⟩∧aB a<w.heap.size
 cell:∀j x,xs[j]?=some x→At w (aB a) (aO a+j*m) (bh x)
theorem Mem.V6{w:World}(h:Mem w0 W L w){b:Nat}(hb:b<w0.heap.size)(hW:b∉W)(o:Nat):w.cell? ⟨b,o,none⟩=w0.cell? ⟨b,o,none⟩:=by
 simp only [World.cell?,h.bW b hb hW]
theorem Mem.GH{S:Type}{w:World}(h:Mem w0 W L w){a:Option Addr}{m:Nat}{bh:S→List Value}{xs:List S}(hr:Rw w0 a m bh xs)(hW:aB a∉W):Rw w a m bh xs:=by
 constructor
 ·intro jR;exact⟨(hr.spot jR).1,oy (hr.spot jR).2 h.size⟩
 ·intro j x hx i v hv
  have jR:xs≠ []:=by rintro rfl;simp at hx
  rw [h.V6 (hr.spot jR).2 hW]
  exact hr.cell j x hx i v hv
def row{S:Type}(bh:S→List Value)(xs:List S)(sp:List Value):List Value:=xs.flatMap bh++sp
omit gj in
theorem kH{S:Type}{bh:S→List Value}{m:Nat}(hm:∀x,(bh x).length=m):∀(xs:List S) (j:Nat) (x:S),xs[j]?=some x→∀i v,(bh x)[i]?=some v→(xs.flatMap bh)[j*m+i]?=some v:=by
 intro xs
 induction xs with
 | nil=>intro j x h;simp at h
 | cons y xs ih=>
  intro j x hx i v hv
  simp only [oB]
  cases j with
  | zero=>
   simp at hx;subst hx
   have:i<(bh y).length:=by
    rcases jw i (bh y).length with h | h
    ·exact h
    ·simp [jJ h] at hv
   rw [Nat.zero_mul,lM,mQ this];exact hv
  | succ j=>
   simp at hx
   have h:=ih j x hx i v hv
   rw [nB (by rw [hm,lN];omega)]
   rw [hm,show (j+1)*m+i-m=j*m+i from by rw [lN];omega]
   exact h
theorem Mem.ownRow{S:Type}{w:World}(h:Mem w0 W L w){hh:Nat}{o:Option Nat}{T:TypeId}{bh:S→List Value}{xs:List S}{sp:List Value}
  (hx:L[hh]?=some ⟨o,T,row bh xs sp⟩) (ho:o=none→xs= []) {m:Nat} (hm:∀x,(bh x).length=m):Rw w (o.map fun b=>⟨b,0,none⟩) m bh xs:=by
 have ku:=dt hx
 cases o with
 | none=>
  have:=ho rfl
  subst this
  exact⟨fun h=>absurd rfl h,fun j x hj=>by simp at hj⟩
 | some b=>
 constructor
 ·intro _
  exact⟨rfl,h.lt ku rfl⟩
 ·intro j x hj i v hv
  have hf:=kH hm xs j x hj i v hv
  have:(row bh xs sp)[j*m+i]?=some v:=by
   unfold row
   rw [mQ]
   ·exact hf
   ·rcases jw (j*m+i) (xs.flatMap bh).length with h' | h'
    ·exact h'
    ·simp [jJ h'] at hf
  have:=h.cell ku rfl (j*m+i) v this
  simpa [aB,aO,nF] using this
def Pe(P:Program)(E:Env):Op→Option (Option Addr×Nat×Int×Nat)
 | .indexAddr T x i=>match nc E [] x,nc E [] i,P.underlying T with
  | some (.slice a len _),some (.int _ j),some (.slice el)=>(P.info? el).map fun t=>(a,len,j,t.size)
  | some (.pointer (some a)),some (.int _ j),some (.array len el)=>(P.info? el).map fun t=>(some a,len,j,t.size)
  | _,_,_=>none
 | _=>none
omit gj in
theorem run_sizeOf{el:TypeId}{t:TypeInfo}{w:World}(h:P.info? el=some t):(sizeOf el).run P w= .ok t.size w:=by
 simp [sizeOf,typeInfo,program,Sem.run,h]
omit gj in
theorem addr_add(b o m:Nat):(Addr.add ⟨b,o,none⟩ m)=⟨b,o+m,none⟩:=by
 unfold Addr.add;split<;>simp_all
omit gj in
theorem NS{o:Oper}{a:Option Addr}{len s:Nat}{j:Int}{w:World}(hq:Pe P E o.op=some (a,len,j,s))(h0:0≤j)(h1:j<len)
  (ha:a=some ⟨aB a,aO a,none⟩):(execOp (ev E []) o).run P w= .ok (.value (.pointer (some ⟨aB a,aO a+j.toNat*s,none⟩))) w:=by
 unfold Pe at hq
 split at hq
 ·rename_i T x i ho
  split at hq
  ·rename_i a' E6 cap k j' el hx hi hT
   simp only [iF,dS] at hq
   obtain⟨t,ht,rfl,rfl,rfl,rfl⟩:=hq
   have ex:ev E [] x= .slice a' E6 cap:=by simp [ev,hx]
   have ei:ev E [] i= .int k j':=by simp [ev,hi]
   cases a' with
   | none=>cases ha
   | some a'=>
    obtain⟨b,off,sp⟩:=a'
    simp only [aB,aO,cx,Addr.mk.injEq,true_and] at ha
    subst ha
    simp [execOp,ho,Instr.indexAt,ex,ei,asIntOf,underlying,program,Sem.run,hT,h0,h1,run_sizeOf ht,addr_add,aB,aO]
  ·rename_i a' k j' E6 el hx hi hT
   simp only [iF,dS] at hq
   obtain⟨t,ht,rfl,rfl,rfl,rfl⟩:=hq
   have ex:ev E [] x= .pointer (some a'):=by simp [ev,hx]
   have ei:ev E [] i= .int k j':=by simp [ev,hi]
   obtain⟨b,off,sp⟩:=a'
   simp only [aB,aO,cx,Addr.mk.injEq,true_and] at ha
   subst ha
   simp [execOp,ho,Instr.indexAt,Instr.sureAddr,ex,ei,asIntOf,underlying,program,Sem.run,hT,h0,h1,run_sizeOf ht,addr_add,aB,aO]
  ·simp at hq
 ·simp at hq
theorem ace{K:Act→World→Prop}{k:Nat}(m:Nat)(a:Option Addr)(len:Nat)(j:Int)(s:Nat)(hp:pl n ops k m E=pr n ops k m E)(hq:Pe P E (cV ops k).op=some (a,len,j,s))(h0:0≤j)(h1:j<len)
  (ha:a=some ⟨aB a,aO a,none⟩)
  (hk:JK n w0 W K (ic E (cV ops k) (.pointer (some ⟨aB a,aO a+j.toNat*s,none⟩))) L):JP P n w0 W ops k K E L Q:=
 NR m hp _ (fun _ _=>NS hq h0 h1 ha) hk
def VE(P:Program)(E:Env):Op→Option (Nat×Nat×Bool×Nat)
 | .load T x=>match nc E [] x,P.underlying T,P.info? T with
  | some (.pointer (some ⟨b,off,none⟩)),some d,some t=>some (b,off,(match d with | .struct _=>true | .array _ _=>true | _=>false),t.size)
  | _,_,_=>none
 | _=>none
def ZU(agg:Bool)(vs:List Value):Value:=bif agg then .agg vs.toArray else vs.headD undef
omit gj in
theorem tz{b off:Nat}{vs:List Value}{w:World}(h:At w b off vs):∀(m i:Nat) (acc:Array Value),i+m=vs.length→
  (loadCellsFrom ⟨b,off,none⟩ i m acc).run P w= .ok (acc++(vs.drop i).toArray) w:=by
 intro m
 induction m with
 | zero=>intro i acc he;simp [loadCellsFrom,mR (show vs.length≤i by omega)]
 | succ m ih=>
  intro i acc he
  have gy:i<vs.length:=by omega
  have hc:=h i vs[i] (by simp [gy])
  rw [loadCellsFrom]
  simp only [Sem.run_bind,load,Sem.run,addr_add,hc,Result.andThen_ok]
  rw [ih (i+1) _ (by omega),qq gy]
  simp
omit gj in
theorem jM{o:Oper}{b off s:Nat}{agg:Bool}{vs:List Value}{w:World}(hq:VE P E o.op=some (b,off,agg,s))(hl:vs.length=s)(h1:agg=true∨s=1)(h:At w b off vs):
  (execOp (ev E []) o).run P w= .ok (.value (ZU agg vs)) w:=by
 unfold VE at hq
 split at hq
 ·rename_i T x ho
  split at hq
  ·rename_i b' E7 d t hx hT ht
   simp only [cx,dS] at hq
   obtain⟨rfl,rfl,hag,rfl⟩:=hq
   have ex:ev E [] x= .pointer (some ⟨b',E7,none⟩):=by simp [ev,hx]
   have Rc:(isAgg T).run P w= .ok agg w:=by
    rw [←hag]
    unfold isAgg
    simp only [Sem.run_bind,underlying,program,Sem.run,hT,Result.andThen_ok,Sem.run_pure]
    cases d<;>rfl
   simp only [execOp,ho,Instr.loadAt,ex,Instr.sureAddr,Sem.run_bind,Sem.run_pure,Result.andThen_ok,loadVar,Rc]
   cases agg with
   | true=>
    simp only [cp,Sem.run_bind,run_sizeOf ht,Result.andThen_ok,loadCells,tz h t.size 0 #[] (by omega),Sem.run_pure,ZU,gZ]
    simp
   | false=>
    have h1:t.size=1:=by rcases h1 with h1 | h1;cases h1;exact h1
    obtain⟨v,rfl⟩:∃v,vs= [v]:=List.length_eq_one_iff.1 (by omega)
    have hc:=h 0 v (by simp)
    simp at hc
    simp [load,Sem.run,hc,ZU]
  ·simp at hq
 ·simp at hq
theorem ag9{K:Act→World→Prop}{k:Nat}(m:Nat)(b off:Nat)(agg:Bool)(vs:List Value)(hp:pl n ops k m E=pr n ops k m E)(hq:VE P E (cV ops k).op=some (b,off,agg,vs.length))
  (h1:(agg || Nat.beq vs.length 1)=true) (h:∀w,Mem w0 W L w→At w b off vs) (hk:JK n w0 W K (ic E (cV ops k) (ZU agg vs)) L):JP P n w0 W ops k K E L Q:=
 NR m hp _ (fun w hm=>jM hq rfl (by
  cases agg with
  | true=>exact .inl rfl
  | false=>exact .inr (iV (by simpa using h1))) (h w hm)) hk
omit gj in
theorem At.sub{w:World}{b off:Nat}{vs:List Value}(h:At w b off vs)(f l:Nat):At w b (off+f) ((vs.drop f).take l):=by
 intro i v hv
 have:vs[f+i]?=some v:=by
  rw [List.getElem?_take] at hv
  split at hv
  ·rwa [List.getElem?_drop] at hv
  ·cases hv
 have:=h (f+i) v this
 rwa [←nF] at this
def tS:List Value→Nat→List Value→List Value
 | cs,_,[]=>cs
 | cs,o,v::vs=>tS (cs.set o v) (o+1) vs
def V7(P:Program)(E:Env):Op→Option (Nat×Nat×List Value)
 | .store T x y=>match nc E [] x,nc E [] y,P.info? T with
  | some (.pointer (some ⟨b,off,none⟩)),some v,some t=>bif Nat.beq v.cells.size t.size&&v.cells.toList.all il then some (b,off,v.cells.toList) else none
  | _,_,_=>none
 | _=>none
omit gj in
theorem zS{L:List dJ}{i:Nat}{x:dJ}(h:L[i]?=some x):L.set i x=L:=by
 induction L generalizing i with
 | nil=>rfl
 | cons y L ih=>
  cases i with
  | zero=>simp at h;subst h;rfl
  | succ i=>simp at h;simp [ih h]
theorem lf{hh d:Nat}{T:TypeId}:∀(vs:List Value) (off i:Nat) (cs:List Value) (L:List dJ) (w:World),Mem w0 W L w→L[hh]?=some ⟨some d,T,cs⟩→off+i+vs.length≤cs.length→
  (∀v∈vs,il v=true)→∃w',(storeCells ⟨d,off,none⟩ vs i).run P w= .ok () w'∧Mem w0 W (L.set hh ⟨some d,T,tS cs (off+i) vs⟩) w':=by
 intro vs
 induction vs with
 | nil=>
  intro off i cs L w hm hi _ _
  refine⟨w,rfl,?_⟩
  simp only [tS]
  rw [zS hi]
  exact hm
 | cons v vs ih=>
  intro off i cs L w hm hi hl hv
  simp only [cf] at hl
  have gy:off+i<cs.length:=by omega
  have ku:=dt hi
  have h1:=hm.cell ku rfl (off+i) cs[off+i] (by simp [gy])
  have hf:=hm.frozen ku rfl (off+i)
  have h2:=hm.set hi (off+i) v
  have hii:=hv v (by simp)
  have hlL:hh<L.length:=by
   rcases jw hh L.length with h' | h'
   ·exact h'
   ·rw [jJ h'] at hi;cases hi
  obtain⟨w',hr,bn⟩:=ih off (i+1) (cs.set (off+i) v) _ _ h2 (by simp [hlL]) (by simp;omega) (fun u hu=>hv u (by simp [hu]))
  refine⟨w',?_,?_⟩
  ·have xZ:(store ⟨d,off+i,none⟩ v).run P w= .ok () (w.setCell ⟨d,off+i,none⟩ v):=by
    cases v with
    | agg cs=>cases hii
    | tuple cs=>cases hii
    | _=>simp only [store,Sem.run,h1,hf,cM,bU]
   rw [storeCells]
   simp only [Sem.run_bind,addr_add,xZ,Result.andThen_ok]
   exact hr
  ·simpa [tS,nF] using bn
theorem acf{K:Act→World→Prop}{k:Nat}(m hh:Nat)(b off:Nat)(vs:List Value)(T:TypeId)(cs V3:List Value)(hp:pl n ops k m E=pr n ops k m E)(hq:V7 P E (cV ops k).op=some (b,off,vs))
  (hL:L[hh]?=some ⟨some b,T,cs⟩) (gy:off+vs.length≤cs.length) (VF:tS cs off vs=V3)
  (hk:JK n w0 W K (ic E (cV ops k) undef) (L.set hh ⟨some b,T,V3⟩)):JP P n w0 W ops k K E L Q:=by
 have h:=pF hp
 intro a w cX
 have hw:=jB cX h.2.1
 unfold wpOp
 simp only [h.1,hw,cp]
 refine .inl ?_
 unfold Oper.wp
 rw [iO cX (G:= []) (by simp) h.2.2.2.1 h.2.2.2.2]
 unfold V7 at hq
 split at hq
 ·rename_i T' x y ho
  split at hq
  ·rename_i b' E7 v t hx hy ht
   cases hc:(Nat.beq v.cells.size t.size&&v.cells.toList.all il) with
   | false=>rw [hc] at hq;simp at hq
   | true=>
    rw [hc] at hq
    simp only [gZ,cx,dS] at hq
    obtain⟨rfl,rfl,rfl⟩:=hq
    simp only [bY,gP] at hc
    have HO:=iV hc.1
    obtain⟨w',hr,bn⟩:=lf (P:=P) v.cells.toList E7 0 cs L w cX.mem hL (by omega) hc.2
    have ex:ev E [] x= .pointer (some ⟨b',E7,none⟩):=by simp [ev,hx]
    have ey:ev E [] y=v:=by simp [ev,hy]
    have:(execOp (ev E []) (cV ops k)).run P w= .ok .skip w':=by
     simp only [execOp,ho,Instr.storeAt,ex,ey,Instr.sureAddr,Sem.run_bind,Sem.run_pure,Result.andThen_ok,storeVar,run_sizeOf ht,HO,ne_eq,oD,bU]
     simp only [hr,Result.andThen_ok]
    rw [this]
    simp only [Oper.upon]
    rw [Nat.add_zero,VF] at bn
    exact hk _ _ (k9 (cX.qG bn) h.2.2.1 undef)
  ·simp at hq
 ·simp at hq
omit gj in
theorem V8:∀(vs cs:List Value) (o:Nat),(tS cs o vs).length=cs.length:=by
 intro vs
 induction vs with
 | nil=>intro cs o;rfl
 | cons v vs ih=>intro cs o;rw [tS,ih];simp
omit gj in
theorem Jf:∀(vs a b:List Value) (o:Nat),o+vs.length≤a.length→tS (a++b) o vs=tS a o vs++b:=by
 intro vs
 induction vs with
 | nil=>intro a b o _;rfl
 | cons v vs ih=>
  intro a b o h
  simp only [cf] at h
  rw [tS,tS,List.set_append_left _ _ (by omega),ih _ _ _ (by simp;omega)]
omit gj in
theorem rN:∀(vs a b:List Value) (o:Nat),tS (a++b) (a.length+o) vs=a++tS b o vs:=by
 intro vs
 induction vs with
 | nil=>intro a b o;rfl
 | cons v vs ih=>
  intro a b o
  rw [tS,tS,wm _ _ (by omega)]
  have:a.length+o-a.length=o:=by omega
  rw [this,nF,ih]
omit gj in
theorem NT{S:Type}{bh:S→List Value}{m:Nat}(hm:∀x,(bh x).length=m){f:Nat}{vs:List Value}{y:S}:∀{xs:List S} {sp:List Value} {j:Nat} {x:S},xs[j]?=some x→f+vs.length≤m→
  tS (bh x) f vs=bh y→tS (row bh xs sp) (j*m+f) vs=row bh (xs.set j y) sp:=by
 intro xs
 induction xs with
 | nil=>intro sp j x h;simp at h
 | cons z xs ih=>
  intro sp j x hj hf he
  unfold row
  simp only [oB,iX]
  cases j with
  | zero=>
   simp at hj;subst hj
   rw [Nat.zero_mul,lM,Jf _ _ _ _ (by rw [hm];exact hf),he]
   simp
  | succ j=>
   simp at hj
   have h:=ih (sp:=sp) hj hf he
   unfold row at h
   rw [show (j+1)*m+f=(bh z).length+(j*m+f) from by rw [hm,lN];omega,rN,h]
   simp
def GI(P:Program)(E:Env):Op→Option (TypeId×Int×Int×Nat×Nat×List Value)
 | .makeSlice T x y=>match nc E [] x,nc E [] y,P.underlying T with
  | some (.int _ l),some (.int _ c),some (.slice el)=>match P.info? el with
   | some t=>match t.zero with
    | some z=>some (el,l,c,t.size,t.bytes,z.cells.toList)
    | none=>none
   | none=>none
  | _,_,_=>none
 | _=>none
omit gj in
theorem HP(z:List Value):∀c:Nat,(List.range (c*z.length)).map (fun i=>z.toArray[i%z.length]!)=(List.replicate c z).flatten:=by
 intro c
 induction c with
 | zero=>simp
 | succ c ih=>
  rw [lN,List.range_add,mu,ih,List.replicate_succ',List.flatten_append]
  congr 1
  simp only [List.map_map,List.flatten_cons,List.flatten_nil,gz]
  apply List.ext_getElem
  ·simp
  ·intro i h1 h2
   simp at h1
   simp [oG h1,h1]
omit gj in
theorem wrap_small{l:Int}(h0:0≤l)(h1:l≤9223372036854775807):IntKind.i64.wrap l=l:=by
 have e:l%(2^IntKind.i64.bits:Int)=l:=Int.emod_eq_of_lt h0 (by simp [IntKind.bits];omega)
 unfold IntKind.wrap
 simp only [e]
 rw [ax]
 simp [IntKind.bits,IntKind.signed]
 omega
omit gj in
theorem ZV{o:Oper}{el:TypeId}{l c:Int}{s bytes:Nat}{z:List Value}{w:World}(hq:GI P E o.op=some (el,l,c,s,bytes,z))(hc:c=l)(h0:0≤l)(hb:0<bytes)(h1:bytes*l≤140737488355328)
  (hz:z.length=s) (hs:0<s):
  (execOp (ev E []) o).run P w= .ok (.value (.slice (some ⟨w.heap.size,0,none⟩) l.toNat l.toNat)) {w with heap:=w.heap.push (.cells (List.replicate l.toNat z).flatten.toArray el (0,0))}:=by
 subst hc
 have hl:c≤140737488355328:=by
  have:(1:Int)*c≤bytes*c:=Int.mul_le_mul_of_nonneg_right (by omega) h0
  omega
 unfold GI at hq
 split at hq
 ·rename_i T x y ho
  split at hq
  ·rename_i k1 l' k2 c' NU hx hy hT
   split at hq
   ·rename_i t ht
    split at hq
    ·rename_i zv hzv
     simp only [cx,dS] at hq
     obtain⟨rfl,rfl,rfl,rfl,rfl,rfl⟩:=hq
     have ex:ev E [] x= .int k1 c':=by simp [ev,hx]
     have ey:ev E [] y= .int k2 c':=by simp [ev,hy]
     have hw:=wrap_small h0 (by omega)
     have Jg:∀w:World,(typeInfo NU).run P w= .ok t w:=by intro w;simp [typeInfo,program,Sem.run,ht]
     have ZW:∀w:World,(zeroValue NU).run P w= .ok zv w:=by intro w;simp [zeroValue,Jg,hzv]
     have hsr:∀w:World,(sizeOf NU).run P w= .ok t.size w:=by intro w;simp [sizeOf,Jg]
     have c1:¬(c'<0):=by omega
     have c2:¬((t.bytes:Int)*c'>2^48):=by omega
     have c3:¬(c'>c'):=by omega
     have LN:∀w:World,(askRoom (c'.toNat*t.bytes)).run P w= .ok () w:=by intro w;unfold askRoom;split<;>simp [mark,Sem.run]
     have hz':zv.cells.size=t.size:=by simpa using hz
     simp only [execOp,ho,Instr.makeSlice,ex,ey,asInt,asIntOf,underlying,program,Sem.run_bind,Sem.run,hT,Result.andThen_ok,Sem.run_pure,Jg,hw,hsr,LN]
     simp only [c1,c2,c3,decide_false,Bool.or_false,cM,bU,false_or,or_false,or_self,Sem.run_bind,LN,Result.andThen_ok,hsr,Sem.run_pure]
     have ZX:(Array.map (fun x=>zv.cells[x%zv.cells.size]!) (Array.range (c'.toNat*t.size)))=(List.replicate c'.toNat zv.cells.toList).flatten.toArray:=by
      have h:=HP zv.cells.toList c'.toNat
      rw [hz] at h
      rw [←h]
      apply Array.ext'
      simp [hz',List.range_eq_range',Array.toList_range]
     by_cases hn:c'.toNat*t.size=0
     ·have hc0:c'.toNat=0:=by
       rcases Nat.mul_eq_zero.1 hn with h | h
       ·exact h
       ·omega
      simp only [hn,cp,Sem.run_bind,Sem.run_pure,Result.andThen_ok,newRow,newObj,Sem.run]
      have e:∀(f:Nat→Value),Array.map f (Array.range 0)= #[]:=by intro f;apply Array.ext';simp [Array.toList_range]
      simp [hc0,e]
     ·simp only [hn,bU,Sem.run_bind,ZW,Sem.run_pure,Result.andThen_ok,newRow,newObj,Sem.run,ZX]
    ·simp at hq
   ·simp at hq
  ·simp at hq
 ·simp at hq
omit gj in
theorem flatMap_replicate{S:Type}(bh:S→List Value)(x:S)(c:Nat):(List.replicate c x).flatMap bh=(List.replicate c (bh x)).flatten:=by
 rw [List.flatMap_def,List.map_replicate]
theorem aha{K:Act→World→Prop}{S:Type}{k:Nat}(m:Nat)(el:TypeId)(l:Int)(s bytes:Nat)(bh:S→List Value)(x:S)(hp:pl n ops k m E=pr n ops k m E)(hq:GI P E (cV ops k).op=some (el,l,l,s,bytes,bh x))
  (h0:0≤l) (h1:bytes*l≤140737488355328) (hz:(Nat.beq (bh x).length s&&Nat.blt 0 s&&Nat.blt 0 bytes)=true)
  (hk:∀b,JK n w0 W K (ic E (cV ops k) (.slice (some ⟨b,0,none⟩) l.toNat l.toNat)) (L++ [⟨some b,el,row bh (List.replicate l.toNat x) []⟩])):JP P n w0 W ops k K E L Q:=by
 have h:=pF hp
 intro a w cX
 have hw:=jB cX h.2.1
 unfold wpOp
 simp only [h.1,hw,cp]
 refine .inl ?_
 unfold Oper.wp
 simp only [bY] at hz
 rw [iO cX (G:= []) (by simp) h.2.2.2.1 h.2.2.2.2,ZV hq rfl h0 (blt hz.2) h1 (iV hz.1.1) (blt hz.1.2)]
 have hm:=cX.mem.alloc (List.replicate l.toNat (bh x)).flatten.toArray el
 refine hk w.heap.size _ _ (k9 (cX.qG ?_) h.2.2.1 _)
 have e:row bh (List.replicate l.toNat x) []=(List.replicate l.toNat (bh x)).flatten:=by simp [row,flatMap_replicate]
 rw [e]
 simpa using hm
omit gj in
theorem Pf(N:Nat):∀(r c:Nat),c≤N→Builtin.growBy N r c≤2*N+192:=by
 intro r
 induction r with
 | zero=>intro c h;simp [Builtin.growBy];omega
 | succ r ih=>
  intro c h
  unfold Builtin.growBy
  split
  ·omega
  ·rename_i gy
   by_cases h2:c+(c+768)/4≤N
   ·exact ih _ h2
   ·cases r with
    | zero=>simp [Builtin.growBy];omega
    | succ r=>unfold Builtin.growBy;rw [ak (by omega)];omega
omit gj in
theorem LO{V9 cap:Nat}(h:cap<V9):Builtin.nextslicecap V9 cap≤2*V9+512:=by
 unfold Builtin.nextslicecap
 split
 ·omega
 ·split
  ·omega
  ·exact k7 (Pf V9 4 cap (by omega)) (by omega)
omit gj in
theorem Jh{S:Type}{w:World}{a:Option Addr}{m:Nat}{bh:S→List Value}{ys:List S}(hm:∀x,(bh x).length=m)(h:Rw w a m bh ys):At w (aB a) (aO a) (ys.flatMap bh):=by
 intro i v hv
 have hlen:∀zs:List S,(zs.flatMap bh).length=zs.length*m:=by
  intro zs;induction zs with
  | nil=>simp
  | cons z zs ih=>simp only [oB,cJ,ih,hm,cf,lN];omega
 have hi:i<ys.length*m:=by
  rw [←hlen]
  rcases jw i (ys.flatMap bh).length with h' | h'
  ·exact h'
  ·simp [jJ h'] at hv
 have fG:0<m:=by
  rcases rY m with h' | h'
  ·simp [h'] at hi
  ·exact h'
 have hj:i/m<ys.length:=by rw [Nat.div_lt_iff_lt_mul fG];exact hi
 have hx:ys[i/m]?=some ys[i/m]:=by simp [hj]
 have hl:i%m<(bh ys[i/m]).length:=by rw [hm];exact Nat.mod_lt _ fG
 have h1:=kH hm ys (i/m) _ hx (i%m) _ (bM hl)
 rw [Nat.mul_comm,Nat.div_add_mod] at h1
 rw [h1] at hv
 have h2:=h.cell (i/m) _ hx (i%m) v (by rw [bM hl];exact hv)
 rw [nF,Nat.mul_comm,Nat.div_add_mod] at h2
 exact h2
def Yr(P:Program)(E:Env):Op→Option (Option Addr×Nat×Nat×Option Addr×Nat×TypeId×Nat×Nat)
 | .call ⟨.builtin .append,as,ts⟩=>match as[0]?,as[1]?,ts[0]?,ts[1]? with
  | some s,some x,some sT,some xT=>match nc E [] s,nc E [] x,P.underlying sT,P.underlying xT with
   | some (.slice base sl sc),some (.slice xa n _),some (.slice el),some (.slice _)=>(P.info? el).map fun t=>(base,sl,sc,xa,n,el,t.size,t.bytes)
   | _,_,_,_=>none
  | _,_,_,_=>none
 | _=>none
omit gj in
theorem CZ{w:World}{a:Option Addr}{size k c:Nat}{vs:List Value}(hl:vs.length=k*size)(ha:vs≠ []→a=some ⟨aB a,aO a,none⟩)(hn:a=none→vs= [])(hA:At w (aB a) (aO a) vs)
  (hz:vs= []→k*size=0):(Builtin.firstCells size k (.slice a k c)).run P w= .ok vs.toArray w:=by
 cases a with
 | none=>rw [hn rfl];simp [Builtin.firstCells]
 | some a=>
  unfold Builtin.firstCells
  by_cases hv:vs= []
  ·subst hv
   have:=hz rfl
   simp [loadCells,this,loadCellsFrom]
  ·have h1:=ha hv
   obtain⟨b,o,sp⟩:=a
   simp only [aB,aO,cx,Addr.mk.injEq,true_and] at h1
   subst h1
   have hA':At w b o vs:=hA
   have:=tz (P:=P) hA' (k*size) 0 #[] (by omega)
   simpa [loadCells] using this
omit gj in
theorem NV{o:Oper}{base xa:Option Addr}{sl sc nn el size bytes:Nat}{w:World}{new:Array Value}(hq:Yr P E o.op=some (base,sl,sc,xa,nn,el,size,bytes))
  (vo:sl+nn≤sc) {xc:Nat} (C0:∀c,(Builtin.firstCells size nn (.slice xa nn c)).run P w= .ok new w) {w':World}
  (Cc:(match base with | some a=>storeCells (a.add (sl*size)) new.toList | none=>pure ()).run P w= .ok () w'):
  (execOp (ev E []) o).run P w= .ok (.value (.slice base (sl+nn) sc)) w':=by
 unfold Yr at hq
 split at hq
 ·rename_i as ts ho
  split at hq
  ·rename_i s x sT xT has hax VG htx
   split at hq
   ·rename_i GJ NW V_ xa' n' LP NU el2 hs hx hsT hxT
    simp only [iF,dS] at hq
    obtain⟨t,ht,rfl,rfl,rfl,rfl,rfl,rfl,rfl,rfl⟩:=hq
    have es:ev E [] s= .slice GJ NW V_:=by simp [ev,hs]
    have ex:ev E [] x= .slice xa' n' LP:=by simp [ev,hx]
    have h1:(as.map (ev E []))[0]?=some (.slice GJ NW V_):=by simp [has,es]
    have h2:(as.map (ev E []))[1]?=some (.slice xa' n' LP):=by simp [hax,ex]
    have EY:=C0 LP
    simp only [execOp,ho,resolve,invoke,builtin,Builtin.append_,Sem.run_bind,Sem.run_pure,Result.andThen_ok,h1,h2,VG,htx,underlying,program,Sem.run,hsT,hxT,run_sizeOf ht,Builtin.lenOf,cM,bU,vo,cp,oF,EY]
    cases GJ with
    | none=>
     simp only [Sem.run_pure,Result.ok.injEq,true_and] at Cc
     subst Cc
     simp
    | some a=>
     simp only at Cc
     simp [Cc]
   ·simp at hq
  ·simp at hq
 ·simp at hq
omit gj in
theorem Wa{o:Oper}{base xa:Option Addr}{sl sc nn el size bytes:Nat}{w:World}{bW new:Array Value}(hq:Yr P E o.op=some (base,sl,sc,xa,nn,el,size,bytes))
  (vo:¬sl+nn≤sc) (hold:∀w',w'.heap=w.heap→(Builtin.firstCells size sl (.slice base sl sc)).run P w'= .ok bW w') (C0:∀c w',w'.heap=w.heap→(Builtin.firstCells size nn (.slice xa nn c)).run P w'= .ok new w')
  (Ji:(sl+nn)≤4294967296) (hb:bytes≤4096) (hb0:0<bytes) (zv:Value) (hz:(P.info? el).bind (·.zero)=some zv) (hzs:zv.cells.size=size):
  ∃(c':Nat) (rest:List Value) (w':World),sl+nn≤c'∧rest.length=(c'-(sl+nn))*size∧w'.heap=w.heap.push (.cells ((bW++new).toList++rest).toArray el (0,0))∧w'.os=w.os∧w'.tape=w.tape∧w'.output=w.output∧w.drawn≤w'.drawn∧
   (execOp (ev E []) o).run P w= .ok (.value (.slice (some ⟨w.heap.size,0,none⟩) (sl+nn) c')) w':=by
 unfold Yr at hq
 split at hq
 ·rename_i as ts ho
  split at hq
  ·rename_i s x sT xT has hax VG htx
   split at hq
   ·rename_i GJ NW V_ xa' n' LP NU el2 hs hx hsT hxT
    simp only [iF,dS] at hq
    obtain⟨t,ht,rfl,rfl,rfl,rfl,rfl,rfl,rfl,rfl⟩:=hq
    have es:ev E [] s= .slice GJ NW V_:=by simp [ev,hs]
    have ex:ev E [] x= .slice xa' n' LP:=by simp [ev,hx]
    have h1:(as.map (ev E []))[0]?=some (.slice GJ NW V_):=by simp [has,es]
    have h2:(as.map (ev E []))[1]?=some (.slice xa' n' LP):=by simp [hax,ex]
    have Jg:∀w:World,(typeInfo NU).run P w= .ok t w:=by intro w;simp [typeInfo,program,Sem.run,ht]
    rw [ht] at hz
    simp only [ar] at hz
    have ZW:∀w:World,(zeroValue NU).run P w= .ok zv w:=by intro w;simp [zeroValue,Jg,hz]
    have ahb:=LO (show V_<NW+n' by omega)
    have c1:¬(((NW+n':Nat):Int)>IntKind.i64.max∧(False∨t.bytes=0)):=by rintro⟨_,h | h⟩;exact h;omega
    have c2:¬(Builtin.nextslicecap (NW+n') V_*t.bytes>2^48):=by
     have:=Nat.mul_le_mul ahb hb
     omega
    let c':=(NW+n')+w.tape w.drawn (.appendCap (NW+n') V_ NU)%(2^63-(NW+n'))
    let wd:World:={w with drawn:=w.drawn+1}
    have LN:∀(b:Nat) (w:World),(askRoom b).run P w= .ok () w:=by intro b w;unfold askRoom;split<;>simp [mark,Sem.run]
    have hch:(choose (.appendCap (NW+n') V_ NU)).run P w= .ok c' wd:=by simp [choose,Sem.run,Question.forced,Question.cut,c',wd]
    have ho2:=hold wd rfl
    have Pg:=C0 LP wd rfl
    refine⟨c',(Builtin.zeroCells zv.cells (c'-(NW+n'))).toList,{wd with heap:=wd.heap.push (.cells (bW++new++Builtin.zeroCells zv.cells (c'-(NW+n'))) NU (0,0))},by omega,?_,?_,rfl,rfl,rfl,Nat.le_succ _,?_⟩
    ·simp [Builtin.zeroCells,hzs]
    ·show w.heap.push _=w.heap.push _
     congr 2
     apply Array.ext'
     simp
    ·simp only [execOp,ho,resolve,invoke,builtin,Builtin.append_,Sem.run_bind,Sem.run_pure,Result.andThen_ok,h1,h2,VG,htx,underlying,program,Sem.run,hsT,hxT,run_sizeOf ht,Builtin.lenOf,cM,bU,vo,Jg,c1,c2,hch,LN,ho2,Pg,oF,cp,ZW,newRow,newObj]
     rfl
   ·simp at hq
  ·simp at hq
 ·simp at hq
omit gj in
theorem gQ{S:Type}{bh:S→List Value}{m:Nat}(hm:∀x,(bh x).length=m)(zs:List S):(zs.flatMap bh).length=zs.length*m:=by
 induction zs with
 | nil=>simp
 | cons z zs ih=>simp only [oB,cJ,ih,hm,cf,lN];omega
omit gj in
theorem HQ:∀(vs b:List Value),vs.length≤b.length→tS b 0 vs=vs++b.drop vs.length:=by
 intro vs
 induction vs with
 | nil=>intro b _;simp [tS]
 | cons v vs ih=>
  intro b h
  cases b with
  | nil=>simp at h
  | cons x b=>
   simp only [cf] at h
   have h2:=rN vs [v] b 0
   simp only [cf,bN,lM,Nat.add_zero,List.singleton_append] at h2
   simp only [tS,List.set_cons_zero,lM]
   rw [h2,ih b (by omega)]
   simp
omit gj in
theorem Ph{S:Type}{bh:S→List Value}(hc:∀x,(bh x).all il=true)(ys:List S):∀v∈ys.flatMap bh,il v=true:=by
 intro v hv
 obtain⟨y,_,hy⟩:=kB.1 hv
 exact gP.1 (hc y) v hy
omit gj in
theorem E8{β:Nat}{x:dJ}(hx:x.b=some β):∀{L:List dJ} {i:Nat},(L.filterMap dJ.b).Nodup→(∀y∈L,y.b≠some β)→((L.set i x).filterMap dJ.b).Nodup:=by
 intro L
 induction L with
 | nil=>intro i h _;simp
 | cons y L ih=>
  intro i h hn
  have hd':(L.filterMap dJ.b).Nodup:=by
   rw [kc] at h
   split at h
   ·exact h
   ·exact(lL.1 h).2
  cases i with
  | zero=>
   rw [List.set_cons_zero,kc,hx]
   refine lL.2 ⟨?_,hd'⟩
   intro hm
   obtain⟨z,hz,hzb⟩:=dm.1 hm
   exact hn z (lJ _ hz) hzb
  | succ i=>
   rw [List.set_cons_succ,kc]
   have h2:=ih (i:=i) hd' (fun z hz=>hn z (lJ _ hz))
   split
   ·exact h2
   ·rename_i b hb
    refine lL.2 ⟨?_,h2⟩
    intro hm
    obtain⟨z,hz,hzb⟩:=dm.1 hm
    rcases mP hz with hz | rfl
    ·rw [kc,hb] at h
     exact(lL.1 h).1 (dm.2 ⟨z,hz,hzb⟩)
    ·rw [hx] at hzb
     exact hn y k6 (hb.trans hzb.symm)
theorem Mem.renew{w w':World}(h:Mem w0 W L w){i:Nat}{T:TypeId}{cs:List Value}(hos:w'.os=w.os)(htp:w'.tape=w.tape)(hou:w'.output=w.output)(hdr:w.drawn≤w'.drawn)
  (hh:w'.heap=w.heap.push (.cells cs.toArray T (0,0))):Mem w0 W (L.set i ⟨some w.heap.size,T,cs⟩) w':=by
 refine⟨hos.trans h.os,htp.trans h.tape,hou.trans h.output,h.BG.trans (GC.of_le hdr),by rw [hh];simp;exact Nat.le_succ_of_le h.size,?_,?_,?_,?_,?_⟩
 ·intro b hb hn
  have:=h.size
  rw [hh,tW,ax (by omega)]
  exact h.bW b hb hn
 ·intro x hx b hb
  rw [hh,tW]
  rcases mP hx with hx | rfl
  ·rw [ax (by have:=h.lt hx hb;omega)];exact h.own x hx b hb
  ·cases hb;simp
 ·exact E8 rfl h.qF (fun y hy e=>absurd (h.lt hy e) (by omega))
 ·intro x hx b hb
  rcases mP hx with hx | rfl
  ·exact h.new x hx b hb
  ·cases hb;exact .inr h.size
 ·intro p hp
  have hq:=h.yh p (nR rfl p hp)
  have gy:=hq.2.1
  refine hq.mono (fun hb=> ?_) (by rw [hh];simp) (by rw [hh,tW,ax (by omega)])
  obtain⟨y,hy,o_⟩:=dm.1 hb
  rcases mP hy with hy | rfl
  ·exact dm.2 ⟨y,hy,o_⟩
  ·have:=e9 o_;omega
theorem acg{K:Act→World→Prop}{S:Type}{k:Nat}(m hh:Nat)(o:Option Nat)(el:TypeId)(cap nn size bytes:Nat)(xa:Option Addr)(bh:S→List Value)(xs ys:List S)(sp:List Value)(zv:Value)
  (hp:pl n ops k m E=pr n ops k m E) (hq:Yr P E (cV ops k).op=some (o.map fun b=>⟨b,0,none⟩,xs.length,cap,xa,ys.length,el,size,bytes))
  (hL:L[hh]?=some ⟨o,el,row bh xs sp⟩) (hm:∀x,(bh x).length=size) (hc:∀x,(bh x).all il=true)
  (xC:o≠none→xs.length≤cap∧sp.length=(cap-xs.length)*size) (ho:o=none→xs= []∧cap=0)
  (ZY:∀w,Mem w0 W L w→Rw w xa size bh ys) (Ji:xs.length+ys.length≤4294967296) (hz:(P.info? el).bind (·.zero)=some zv)
  (hb:(Nat.ble bytes 4096&&Nat.blt 0 bytes&&Nat.blt 0 size&&Nat.beq zv.cells.size size)=true)
  (hk:∀(o':Option Nat) (pj:Nat) (C1:List Value),(o'≠none→(xs++ys).length≤pj∧C1.length=(pj-(xs++ys).length)*size)→(o'=none→xs++ys= []∧pj=0)→
   JK n w0 W K (ic E (cV ops k) (.slice (o'.map fun b=>⟨b,0,none⟩) (xs++ys).length pj)) (L.set hh ⟨o',el,row bh (xs++ys) C1⟩)):JP P n w0 W ops k K E L Q:=by
 have h:=pF hp
 simp only [bY] at hb
 obtain⟨⟨⟨Lz,GK⟩,hb3⟩,hb4⟩:=hb
 have Lz:=uW Lz
 have GK:=blt GK
 have hb3:=blt hb3
 have hb4:=iV hb4
 intro a w cX
 have hw:=jB cX h.2.1
 unfold wpOp
 simp only [h.1,hw,cp]
 refine .inl ?_
 unfold Oper.wp
 rw [iO cX (G:= []) (by simp) h.2.2.2.1 h.2.2.2.2]
 have ku:=dt hL
 have hrw:=ZY w cX.mem
 have x5:Rw w (o.map fun b=>⟨b,0,none⟩) size bh xs:=cX.mem.ownRow hL (fun e=>(ho e).1) hm
 have fc:∀{S:Type} {bh:S→List Value} (zs:List S) (za:Option Addr) (c:Nat) (w':World),w'.heap=w.heap→(∀x,(bh x).length=size)→Rw w za size bh zs→
   (Builtin.firstCells size zs.length (.slice za zs.length c)).run P w'= .ok (zs.flatMap bh).toArray w':=by
  intro S bh zs za c w' hw' hme hr
  have LI:Rw w' za size bh zs:=by
   constructor
   ·intro jR;rw [hw'];exact hr.spot jR
   ·intro j x hj i v hv
    have:=hr.cell j x hj i v hv
    simpa [World.cell?,hw'] using this
  refine CZ (gQ hme zs) ?_ ?_ (Jh hme LI) ?_
  ·intro jR
   refine(hr.spot ?_).1
   rintro rfl;simp at jR
  ·intro hn
   rcases zs with _ | ⟨z,zs⟩
   ·rfl
   ·have:=(hr.spot (by simp)).1;rw [hn] at this;cases this
  ·intro he
   have:=gQ hme zs
   rw [he] at this
   simpa using this.symm
 by_cases vo:xs.length+ys.length≤cap
 · -- room
  cases o with
  | none=>
   obtain⟨LR,hc0⟩:=ho rfl
   have hy0:ys= []:=by
    cases ys with
    | nil=>rfl
    | cons y ys=>simp only [hc0,cf] at vo;omega
   subst hy0
   rw [NV hq vo (xc:=0) (fun c=>fc ([]:List S) xa c w rfl hm hrw) (w':=w) rfl]
   have h1:=hk none cap sp (fun e=>absurd rfl e) (fun _=>⟨by simp [LR],hc0⟩)
   have e1:L.set hh ⟨none,el,row bh (xs++ []) sp⟩=L:=by rw [gz];exact zS hL
   rw [e1] at h1
   have:=h1 _ w (k9 cX h.2.2.1 _)
   rw [Oper.upon_value]
   simpa using this
  | some b=>
   obtain⟨rk,LA⟩:=xC (by simp)
   have Pj:=gQ hm xs
   have hfy:=gQ hm ys
   have hmul:(cap-xs.length)*size=(cap-(xs.length+ys.length))*size+ys.length*size:=by
    rw [←Nat.add_mul];congr 1;omega
   obtain⟨w',hr,bn⟩:=lf (P:=P) (ys.flatMap bh) (xs.length*size) 0 (row bh xs sp) L w cX.mem hL (by simp only [row,cJ,Pj,hfy,LA];omega) (Ph hc ys)
   rw [NV hq vo (xc:=0) (fun c=>fc ys xa c w rfl hm hrw) (w':=w') (by simpa [addr_add] using hr)]
   have e1:tS (row bh xs sp) (xs.length*size+0) (ys.flatMap bh)=row bh (xs++ys) (sp.drop (ys.length*size)):=by
    unfold row
    rw [show xs.length*size+0=(xs.flatMap bh).length+0 from by rw [Pj],rN,HQ _ _ (by rw [hfy,LA];omega),hfy]
    simp
   rw [e1] at bn
   have h1:=hk (some b) cap (sp.drop (ys.length*size)) (fun _=>⟨by simpa using vo,by simp only [iu,LA,cJ];omega⟩) (fun e=>by cases e)
   have:=h1 _ w' (k9 (cX.qG bn) h.2.2.1 _)
   rw [Oper.upon_value]
   simpa using this
 ·obtain⟨c',rest,w',hc1,hc2,hw1,Ce,Re,hw4,hw5,hr⟩:=Wa hq vo (fun w' e=>fc xs _ cap w' e hm x5) (fun c w' e=>fc ys xa c w' e hm hrw) Ji Lz GK zv hz hb4
  rw [hr]
  have h1:=hk (some w.heap.size) c' rest (fun _=>⟨by simpa using hc1,by simpa using hc2⟩) (fun e=>by cases e)
  have hmm:Mem w0 W (L.set hh ⟨some w.heap.size,el,row bh (xs++ys) rest⟩) w':=
   cX.mem.renew Ce Re hw4 hw5 (by rw [hw1];simp [row])
  have:=h1 _ w' (k9 (cX.qG hmm) h.2.2.1 _)
  rw [Oper.upon_value]
  simpa using this
theorem toO{k:Nat}(hk:Nat.blt k ops.size=true)(h:JP P n w0 W ops k (wpOps P ops Q ((List.range ops.size).drop (k+1))) E L Q):JO P n w0 W ops k E L Q:=by
 intro a w cX
 rw [CW (blt hk),wpOps_cons]
 exact h a w cX
theorem fB{k:Nat}(h:JO P n w0 W ops (k+1) E L Q):JK n w0 W (wpOps P ops Q ((List.range ops.size).drop (k+1))) E L:=h
def KD(P:Program)(w0:World)(W:List Nat)(ops:Array Oper)(Q:Exit→Act→World→Prop)(Ls:List dJ)(done:List Nat)(gg k:Nat):Act→World→Prop:=
 fun a w=>Mem w0 W Ls w∧wpAnyH P .any ops Q (Mem w0 W Ls) gg ((listed ops done).setIfInBounds k true) a w
theorem Mem.less{w:World}(h:Mem w0 W L w){L':List dJ}(hL:∀x∈L',x∈L)(hd:(L'.filterMap dJ.b).Nodup):Mem w0 W L' w:=
 ⟨h.os,h.tape,h.output,h.BG,h.size,h.bW,fun x hx=>h.own x (hL x hx),hd,fun x hx=>h.new x (hL x hx),fun p hp=>(h.yh p (NI hL p hp)).mono (fun hb=>by
  obtain⟨y,hy,o_⟩:=dm.1 hb
  exact dm.2 ⟨y,hL y hy,o_⟩) (bt _) rfl⟩
theorem Mem.Rf{w:World}(h:Mem w0 W L w){L':List dJ}(hL:∀x∈L',∀c,x.b=some c→x∈L)(hd:(L'.filterMap dJ.b).Nodup)(hf:∀p∈Cb L',p∈Cb L):Mem w0 W L' w:=
 ⟨h.os,h.tape,h.output,h.BG,h.size,h.bW,fun x hx b hb=>h.own x (hL x hx b hb) b hb,hd,fun x hx b hb=>h.new x (hL x hx b hb) b hb,fun p hp=>(h.yh p (hf p hp)).mono (fun hb=>by
  obtain⟨y,hy,o_⟩:=dm.1 hb
  exact dm.2 ⟨y,hL y hy _ o_,o_⟩) (bt _) rfl⟩
def at_(L:List dJ)(l:List Nat):List dJ:=l.filterMap fun i=>L[i]?
omit gj in
theorem at_mem{L:List dJ}{l:List Nat}:∀x∈at_ L l,x∈L:=by
 intro x hx
 obtain⟨i,_,h⟩:=dm.1 hx
 exact dt h
theorem Wb{id:Nat}(Ls:List dJ)(N:Nat)(hm:P.follows .mixedOrders=true)(hN:ops.size=N)(h:JD P n w0 W ops Ls [] N E L Q):JC P n w0 W (.region id ops true) E L Q:=by
 intro a w cX
 subst hN
 refine wp_region_held (S:=Mem w0 W Ls) hm (h a _ ?_)
 exact⟨cX.sz,cX.df,cX.env,⟨cX.mem.os,cX.mem.tape,cX.mem.output,cX.mem.BG.trans (GC.of_le (Nat.le_succ _)),cX.mem.size,cX.mem.bW,cX.mem.own,cX.mem.qF,cX.mem.new,cX.mem.yh⟩⟩
theorem toD{Ls:List dJ}{done:List Nat}{gg:Nat}(k:Nat)(hr:Region.ready .any ops (listed ops done)= [k])(h:JP P n w0 W ops k (KD P w0 W ops Q Ls done gg k) E L Q):
  JD P n w0 W ops Ls done (gg+1) E L Q:=by
 intro a w cX
 refine wpAnyH_all hr (by simp) ?_
 intro i hi
 simp only [dG] at hi
 subst hi
 exact h a w cX
theorem ahc{Ls:List dJ}{done:List Nat}{gg:Nat}(k1 k2:Nat)(hr:Region.ready .any ops (listed ops done)= [k1,k2])(h1:JP P n w0 W ops k1 (KD P w0 W ops Q Ls done gg k1) E L Q)
  (h2:JP P n w0 W ops k2 (KD P w0 W ops Q Ls done gg k2) E L Q):JD P n w0 W ops Ls done (gg+1) E L Q:=by
 intro a w cX
 refine wpAnyH_all hr (by simp) ?_
 intro i hi
 simp only [eK,cq,or_false] at hi
 rcases hi with rfl | rfl
 ·exact h1 a w cX
 ·exact h2 a w cX
theorem jkD{Ls:List dJ}{done:List Nat}{gg k:Nat}(hs:∀w,Mem w0 W L w→Mem w0 W Ls w)(h:JD P n w0 W ops Ls (k::done) gg E L Q):JK n w0 W (KD P w0 W ops Q Ls done gg k) E L:=
 fun a w cX=>⟨hs w cX.mem,h a w cX⟩
theorem ZZ{Ls:List dJ}{done:List Nat}{gg:Nat}(hr:Region.ready .any ops (listed ops done)= [])(h:JX n w0 W .normal E L Q):JD P n w0 W ops Ls done gg E L Q:=
 fun a w cX=>wpAnyH_done hr (h a w cX) gg
theorem Jj{Ls:List dJ}{a:Act}{w:World}(xD:Mem w0 W Ls w)(cX:Ok n w0 W E L a w){s:St}{r:VB}(hs:HM P n ops Ls s E=some r)
  (hn:r.cn.map (·.1)=r.cn.map (·.2)) (hb:r.cb.map (·.1)=r.cb.map (·.2)):
  ∃o v,ops[s.i]?=some o∧YieldsIf P ops (Mem w0 W Ls) o v a∧Ok n w0 W r.E L (a.put o.dst v) w:=by
 have rb:∀w',Mem w0 W Ls w'→Ok n w0 W E Ls a w':=fun w' hm=>⟨cX.sz,cX.df,cX.env,hm⟩
 have gy:=GG hs
 refine⟨ops[s.i],?_⟩
 have ho:ops[s.i]?=some ops[s.i]:=by simp [gy]
 have hh:=cX
 unfold HM at hs
 cases hm:Nat.beq s.m 3 with
 | true=>
  rw [hm] at hs
  simp only [gZ] at hs
  unfold NM at hs
  rw [ho] at hs
  simp only at hs
  split at hs
  ·rename_i j want d hg hd
   split at hs
   ·rename_i e he
    split at hs
    ·rename_i b hv
     cases hc:(Nat.blt d n&&uY E d) with
     | false=>rw [hc] at hs;simp at hs
     | true=>
      rw [hc] at hs
      simp only [gZ,cx] at hs
      subst hs
      have hw:=xB cX hg he hv hb
      simp only [bY] at hc
      refine⟨undef,ho, .inr ⟨hw,rfl⟩,?_⟩
      rw [hd]
      exact cX.put (blt hc.1) hc.2 (by simp) (fun _=>rfl)
    ·simp at hs
   ·simp at hs
  ·rename_i j want hg hd
   split at hs
   ·rename_i e he
    split at hs
    ·rename_i b hv
     simp only [cx] at hs
     subst hs
     have hw:=xB cX hg he hv hb
     refine⟨undef,ho, .inr ⟨hw,rfl⟩,?_⟩
     rw [hd]
     exact cX
    ·simp at hs
   ·simp at hs
  ·simp at hs
 | false=>
  rw [hm] at hs
  simp only [jL] at hs
  unfold NL at hs
  rw [ho] at hs
  simp only at hs
  split at hs
  ·simp at hs
  ·rename_i G cb hg
   have fin:∀(v:Value) (E':Env),cb.map (·.1)=cb.map (·.2)→Jb n E G (ops[s.i]).dst v=some E'→
     ((∀x∈G,a.tmps.getD x.1 undef= .bool x.2)→∀w',Mem w0 W Ls w'→(execOp a.eval ops[s.i]).run P w'= .ok (.value v) w')→
     ∃v,ops[s.i]?=some ops[s.i]∧YieldsIf P ops (Mem w0 W Ls) ops[s.i] v a∧Ok n w0 W E' L (a.put (ops[s.i]).dst v) w:=by
    intro v E' Yp hp hr
    have hG:=wx cX hg Yp
    cases hwt:Region.wanted ops[s.i] (yielded ops a.tmps) with
    | true=>exact⟨v,ho, .inl ⟨hwt,hr (hG.1 hwt)⟩,uZ cX hp (fun _=>rfl)⟩
    | false=>
     refine⟨undef,ho, .inr ⟨hwt,rfl⟩,uZ cX hp ?_⟩
     intro ach
     have:=hG.2 ach
     rw [hwt] at this
     cases this
   split at hs
   ·rename_i c x y VC _
    split at hs
    ·rename_i b v h1 h2
     simp only [iF] at hs
     obtain⟨E',hp,rfl⟩:=hs
     simp only [ju,ms] at hb
     refine fin v E' hb.2 hp ?_
     intro Rg w' _
     have e1:=fE cX Rg h1
     have e2:=fE cX Rg h2
     simp [execOp,VC,e1,e2,hb.1,asBool,bind,Sem.bind,pure]
    ·simp at hs
   ·rename_i c x y VC _
    split at hs
    ·rename_i b v h1 h2
     simp only [iF] at hs
     obtain⟨E',hp,rfl⟩:=hs
     simp only [ju,ms] at hb
     refine fin v E' hb.2 hp ?_
     intro Rg w' _
     have e1:=fE cX Rg h1
     have e2:=fE cX Rg h2
     simp [execOp,VC,e1,e2,hb.1,asBool,bind,Sem.bind,pure]
    ·simp at hs
   ·cases hpk:LK (ops[s.i]).op with
    | true=>
     rw [hpk] at hs
     simp only [gZ] at hs
     split at hs
     ·rename_i v hv
      simp only [iF] at hs
      obtain⟨E',hp,rfl⟩:=hs
      exact fin v E' hb hp (fun Rg w' bn=>BI (rb w' bn) hv Rg)
     ·simp at hs
    | false=>
     rw [hpk] at hs
     simp only [jL] at hs
     split at hs
     ·rename_i v cn hv
      simp only [iF] at hs
      obtain⟨E',hp,rfl⟩:=hs
      exact fin v E' hb hp (fun Rg w' bn=>CV (rb w' bn) hv hn Rg)
     ·simp at hs
def C2(ops:Array Oper):List Nat→List St→Bool
 | _,[]=>true
 | done,s::l=>Region.free .any ops (listed ops done) s.i&&(Region.ready .any ops (listed ops done)).contains s.i&&C2 ops (s.i::done) l
theorem aci [Jc Q]{Ls:List dJ}(AY:Region.noSelect ops=true)(hs:∀w,Mem w0 W L w→Mem w0 W Ls w):∀(l:List St) {done:List Nat} {gg:Nat} {E:Env},C2 ops done l=true→cl (chunk P n ops Ls l E)=cr (chunk P n ops Ls l E)→
  JD P n w0 W ops Ls ((l.map St.i).reverse++done) gg (gE (chunk P n ops Ls l E)) L Q→JD P n w0 W ops Ls done (gg+l.length) E L Q:=by
 intro l
 induction l with
 | nil=>intro done gg E _ _ h;exact h
 | cons s l ih=>
  intro done gg E hd hc h
  simp only [C2,bY] at hd
  obtain⟨r,h1,hn,hb,hc',hg⟩:=NO hc
  rw [hg] at h
  intro a w cX
  obtain⟨o,v,ho,hy,HN⟩:=Jj (hs w cX.mem) cX h1 hn hb
  have Jk:=ih (done:=s.i::done) (gg:=gg) hd.2 hc' (by simpa using h) (a.put o.dst v) w HN
  refine wpAnyH_take ho AY hd.1.1 hd.1.2 (fun c a w hq=>Jc.no c a _ _ w hq) hy (hs w cX.mem) ?_
  exact Jk
theorem ahd [Jc Q]{Ls:List dJ}{done:List Nat}{N:Nat}(l:List St)(gg:Nat)(hf:gg+l.length=N)(AY:Region.noSelect ops=true)(hs:∀w,Mem w0 W L w→Mem w0 W Ls w)
  (hd:C2 ops done l=true) (hc:cl (chunk P n ops Ls l E)=cr (chunk P n ops Ls l E)) (h:JD P n w0 W ops Ls ((l.map St.i).reverse++done) gg (gE (chunk P n ops Ls l E)) L Q):JD P n w0 W ops Ls done N E L Q:=by
 subst hf
 exact aci AY hs l hd hc h
omit gj in
theorem Ys{T:TypeId}{cs:List Value}(h:Nat.beq T kR=false):GD ⟨none,T,cs⟩= []:=by
 unfold GD;simp only [h,jL]
theorem Mem.Rh{w:World}(h:Mem w0 W L w)(T:TypeId)(cs:List Value)(hf:GD ⟨none,T,cs⟩= []):Mem w0 W (L++ [⟨none,T,cs⟩]) w:=by
 refine⟨h.os,h.tape,h.output,h.BG,h.size,h.bW,?_,?_,?_,?_⟩
 ·intro x hx b hb
  rcases dw.1 hx with hx | hx
  ·exact h.own x hx b hb
  ·simp only [dG] at hx;subst hx;cases hb
 ·rw [jK];simpa using h.qF
 ·intro x hx b hb
  rcases dw.1 hx with hx | hx
  ·exact h.new x hx b hb
  ·simp only [dG] at hx;subst hx;cases hb
 ·intro p hp
  rw [HL] at hp
  rcases dw.1 hp with hp | hp
  ·exact(h.yh p hp).mono (fun hb=>by rw [jK] at hb;simpa using hb) (bt _) rfl
  ·simp only [Cb,oB,List.flatMap_nil,gz,hf] at hp;cases hp
theorem Mem.Jl{w:World}(h:Mem w0 W L w)(T:TypeId):Mem w0 W (L++ [⟨none,T,[]⟩]) w:=h.Rh T [] zQ
theorem wA{S:Type}{c:Code}(T:TypeId)(bh:S→List Value)(h:JC P n w0 W c E (L++ [⟨none,T,row bh [] []⟩]) Q):JC P n w0 W c E L Q:=
 fun a w cX=>h a w (cX.qG (cX.mem.Jl T))
theorem ahe [Jc Q]{Ls:List dJ}{done:List Nat}{gg:Nat}(k m:Nat)(AY:Region.noSelect ops=true)(hs:∀w,Mem w0 W L w→Mem w0 W Ls w)
  (hd:(Region.free .any ops (listed ops done) k&&(Region.ready .any ops (listed ops done)).contains k)=true) (hp:pl n ops k m E=pr n ops k m E) (v:Value)
  (hv:∀w,Mem w0 W Ls w→(execOp (ev E []) (cV ops k)).run P w= .ok (.value v) w)
  (h:JD P n w0 W ops Ls (k::done) gg (ic E (cV ops k) v) L Q):JD P n w0 W ops Ls done (gg+1) E L Q:=by
 have hq:=pF hp
 simp only [bY] at hd
 intro a w cX
 refine wpAnyH_take hq.1 AY hd.1 hd.2 (fun c a w hq=>Jc.no c a _ _ w hq) (.inl ⟨jB cX hq.2.1,?_⟩) (hs w cX.mem) (h _ w (k9 cX hq.2.2.1 v))
 intro w' bn
 rw [iO cX (G:= []) (by simp) hq.2.2.2.1 hq.2.2.2.2]
 exact hv w' bn
def ix{S:Type}(xs:List S)(j:Int):Option S:=if 0≤j then xs[j.toNat]? else none
omit gj in
theorem jN{S:Type}{xs:List S}{j:Int}{x:S}(h:ix xs j=some x):0≤j∧j<(xs.length:Int)∧xs[j.toNat]?=some x:=by
 unfold ix at h
 split at h
 ·rename_i h0
  have hl:j.toNat<xs.length:=by
   rcases jw j.toNat xs.length with h' | h'
   ·exact h'
   ·simp [jJ h'] at h
  exact⟨h0,by omega,h⟩
 ·cases h
omit gj in
theorem bd{α β:Type}{x:Option α}{f:α→Option β}{r:β}(h:x.bind f=some r):∃t,x=some t∧f t=some r:=Option.bind_eq_some_iff.1 h
omit gj in
theorem gd{β:Type}{p:Prop} [Decidable p]{x:Option β}{r:β}(h:(if p then x else none)=some r):p∧x=some r:=by
 split at h
 ·exact⟨‹_›,h⟩
 ·cases h
omit gj in
theorem yi{β:Type}{c:Bool}{x y:Option β}{r:β}(hc:c=true)(h:(if c=true then x else y)=some r):x=some r:=by rwa [ak hc] at h
omit gj in
theorem yj{β:Type}{c:Bool}{x y:Option β}{r:β}(hc:c=false)(h:(if c=true then x else y)=some r):y=some r:=by rwa [ax (by rw [hc];decide)] at h
omit gj in
theorem Rw.sp{S:Type}{w:World}{a:Option Addr}{m:Nat}{bh:S→List Value}{xs:List S}{j:Int}{x:S}(h:Rw w a m bh xs)(hx:ix xs j=some x):a=some ⟨aB a,aO a,none⟩:=by
 refine(h.spot ?_).1
 rintro rfl
 have:=(jN hx).2.2
 simp at this
omit gj in
theorem Rw.at{S:Type}{w:World}{a:Option Addr}{m:Nat}{bh:S→List Value}{xs:List S}{j:Int}{x:S}(h:Rw w a m bh xs)(hx:ix xs j=some x):At w (aB a) (aO a+j.toNat*m) (bh x):=
 h.cell _ _ (jN hx).2.2
def nd:List Nat→Bool
 | []=>true
 | a::l=> !(l.any (Nat.beq a))&&nd l
omit gj in
theorem tf:∀(L:List dJ),(L.filterMap dJ.b).Nodup→∀(i j:Nat) (x y:dJ) (c:Nat),L[i]?=some x→L[j]?=some y→x.b=some c→y.b=some c→i=j:=by
 intro L
 induction L with
 | nil=>intro _ i j x y c h;simp at h
 | cons z L ih=>
  intro hd i j x y c hx hy Z0 C3
  have hd':(L.filterMap dJ.b).Nodup:=by
   rw [kc] at hd
   split at hd
   ·exact hd
   ·exact(lL.1 hd).2
  have ku:∀(k:Nat) (u:dJ),L[k]?=some u→u.b=some c→z.b=some c→False:=by
   intro k u hu hc hz
   rw [kc,hz] at hd
   simp only [lL] at hd
   exact hd.1 (dm.2 ⟨u,dt hu,hc⟩)
  cases i with
  | zero=>
   cases j with
   | zero=>rfl
   | succ j=>
    simp only [tU,cx] at hx
    subst hx
    simp only [List.getElem?_cons_succ] at hy
    exact(ku j y hy C3 Z0).elim
  | succ i=>
   cases j with
   | zero=>
    simp only [tU,cx] at hy
    subst hy
    simp only [List.getElem?_cons_succ] at hx
    exact(ku i x hx Z0 C3).elim
   | succ j=>
    simp only [List.getElem?_cons_succ] at hx hy
    rw [ih hd' i j x y c hx hy Z0 C3]
omit gj in
theorem xE{a:Nat}{l:List Nat}(h:nd (a::l)=true):(∀b∈l,a≠b)∧nd l=true:=by
 simp only [nd,bY,kA] at h
 refine⟨fun b hb e=> ?_,h.2⟩
 have:=List.any_eq_false.1 h.1 b hb
 subst e
 simp [Nat.beq_refl] at this
omit gj in
theorem Jm{L:List dJ}(hd:(L.filterMap dJ.b).Nodup):∀(l:List Nat),nd l=true→((at_ L l).filterMap dJ.b).Nodup:=by
 intro l
 induction l with
 | nil=>intro _;simp [at_]
 | cons i l ih=>
  intro h
  obtain⟨h1,h2⟩:=xE h
  have ih:=ih h2
  simp only [at_] at ih⊢
  rw [kc]
  cases hi:L[i]? with
  | none=>simpa using ih
  | some x=>
   simp only []
   rw [kc]
   cases hb:x.b with
   | none=>simpa using ih
   | some c=>
    simp only [lL]
    refine⟨fun hm=> ?_,ih⟩
    obtain⟨y,hy,C3⟩:=dm.1 hm
    obtain⟨j,hj,hjy⟩:=dm.1 hy
    exact h1 j hj (tf L hd i j x y c hi hjy hb C3)
theorem Mem.pick{w:World}(h:Mem w0 W L w)(l:List Nat)(hr:nd l=true){N:List dJ}(hN:at_ L l=N):Mem w0 W N w:=by
 rw [←hN]
 refine h.less (fun x hx=> ?_) (Jm h.qF l hr)
 obtain⟨j,_,hj⟩:=dm.1 hx
 exact dt hj
theorem Wc{S X T:Type}{I:S→X→Prop}{Es:S→X→Env}{Ls:S→X→List dJ}{t:T}{y:S⊕T}(s:S)(x:X)(hy:y= .inl s)(hi:I s x)(l:List Nat)(hr:nd l=true)
  (hE:(Es s x).map (fun e=>lk E e.1)=(Es s x).map (fun e=>some e.2)) (hL:at_ L l=Ls s x):JX n w0 W .normal E L (LQ n w0 W I Es Ls t Q y):=by
 intro a w cX
 exact⟨s,x,hy,hi,(Jd cX hE (fun _ h=>h) cX.mem.qF).qG (cX.mem.pick l hr hL)⟩
theorem Wd{S X T:Type}{f:S→Option (S⊕T)}{c:Code}(I:S→X→Prop)(Es:S→X→Env)(Ls:S→X→List dJ){s:S}{t:T}(xZ:loop f s=some t)(x:X)(hI:I s x)
  (hE:(Es s x).map (fun e=>lk E e.1)=(Es s x).map (fun e=>some e.2)) (l:List Nat) (hr:nd l=true) (hL:at_ L l=Ls s x)
  (round:∀s x y,I s x→f s=some y→JC P n w0 W c (Es s x) (Ls s x) (LQ n w0 W I Es Ls t Q y)):JC P n w0 W (.loop c) E L Q:=by
 intro a w cX
 have hit:=u3.1 xZ
 have h0:Ok n w0 W (Es s x) (Ls s x) a w:=(Jd cX hE (fun _ h=>h) cX.mem.qF).qG (cX.mem.pick l hr hL)
 clear cX hE hL xZ hr
 have main:∀s,It f t s→∀x a w,I s x→Ok n w0 W (Es s x) (Ls s x) a w→∀(b:Frame) (k:List Item) (cs:List Frame),
   ∃e a' w',Q e a' w'∧Arrives P (lone (b.at a (.code c:: .inLoop c::k)) cs w) b k cs e a' w':=by
  intro s hit
  induction hit with
  | done e=>
   intro x a w hi cX b k cs
   obtain⟨ex,a',w',hq,HR⟩:=round _ x _ hi e a w cX b (.inLoop c::k) cs
   cases ex with
   | normal=>obtain⟨s',x',h,_⟩:=hq;cases h
   | exit id=>obtain⟨_,t',h,hq⟩:=hq;cases h;exact⟨_,a',w',hq rfl, .pass (x:= .inLoop c) rfl (fun _ _=> .inl (by simp)) HR⟩
   | goto l=>obtain⟨_,t',h,hq⟩:=hq;cases h;exact⟨_,a',w',hq rfl, .pass (x:= .inLoop c) rfl (fun _ _=> .inl (by simp)) HR⟩
   | ret=>obtain⟨_,t',h,hq⟩:=hq;cases h;exact⟨_,a',w',hq rfl, .pass (x:= .inLoop c) rfl (fun _ _=> .inl (by simp)) HR⟩
   | panic ch=>obtain⟨_,t',h,hq⟩:=hq;cases h;exact⟨_,a',w',hq rfl, .pass (x:= .inLoop c) rfl (fun _ _=> .inl (by simp)) HR⟩
   | outgrown=>obtain⟨_,t',h,hq⟩:=hq;cases h;exact⟨_,a',w',hq rfl, .pass (x:= .inLoop c) rfl (fun _ _=> .inl (by simp)) HR⟩
  | step e h2 ih=>
   intro x a w hi cX b k cs
   obtain⟨ex,a',w',hq,HR⟩:=round _ x _ hi e a w cX b (.inLoop c::k) cs
   cases ex with
   | normal=>
    obtain⟨s',x',h,Z3,HN⟩:=hq
    cases h
    obtain⟨e₂,a₂,w₂,hq₂,acj⟩:=ih x' a' w' Z3 HN b k cs
    exact⟨e₂,a₂,w₂,hq₂, .of_steps (Steps.trans HR (.one step_inLoop)) acj⟩
   | exit id=>obtain⟨_,t',h,hq⟩:=hq;cases h
   | goto l=>obtain⟨_,t',h,hq⟩:=hq;cases h
   | ret=>obtain⟨_,t',h,hq⟩:=hq;cases h
   | panic ch=>obtain⟨_,t',h,hq⟩:=hq;cases h
   | outgrown=>obtain⟨_,t',h,hq⟩:=hq;cases h
 intro b k cs
 obtain⟨e,a',w',hq,HR⟩:=main s hit x a w hI h0 b k cs
 exact⟨e,a',w',hq, .of_steps (.one step_loop) HR⟩
theorem aK{J:Type}{c:Code}(I:J→Prop)(Ej:J→Env)(Lj:J→List dJ)(h:JC P n w0 W c E L (Exit.then (fun a w=>∃j,I j∧Ok n w0 W (Ej j) (Lj j) a w) Q))
  (hk:∀j,I j→JX n w0 W .normal (Ej j) (Lj j) Q):JC P n w0 W c E L Q:=by
 intro a w cX
 refine wp_mono (h a w cX) ?_
 intro e a' w' hq
 cases e with
 | normal=>obtain⟨j,hi,HN⟩:=hq;exact hk j hi a' w' HN
 | _=>exact hq
theorem We{J:Type}{I:J→Prop}{Ej:J→Env}{Lj:J→List dJ}(j:J)(hi:I j)(hE:(Ej j).map (fun e=>lk E e.1)=(Ej j).map (fun e=>some e.2))(l:List Nat)(hr:nd l=true)
  (hL:at_ L l=Lj j):JX n w0 W .normal E L (Exit.then (fun a w=>∃j,I j∧Ok n w0 W (Ej j) (Lj j) a w) Q):=
 fun a w cX=>⟨j,hi,(Jd cX hE (fun _ h=>h) cX.mem.qF).qG (cX.mem.pick l hr hL)⟩
theorem lg{S:Type}{e:Exit}(T:TypeId)(bh:S→List Value)(h:JX n w0 W e E (L++ [⟨none,T,row bh [] []⟩]) Q):JX n w0 W e E L Q:=
 fun a w cX=>h a w (cX.qG (cX.mem.Jl T))
omit gj in
theorem Rw.nil{S:Type}{w:World}{m:Nat}{bh:S→List Value}:Rw w none m bh ([]:List S):=⟨fun h=>absurd rfl h,fun j x h=>by simp at h⟩
omit gj in
theorem nl{S:Type}{o:Option Nat}{xs:List S}{cap:Nat}{j:Int}{x:S}(ho:o=none→xs= []∧cap=0)(hx:ix xs j=some x):
  (o.map fun b=>(⟨b,0,none⟩:Addr))=some ⟨aB (o.map fun b=>⟨b,0,none⟩),aO (o.map fun b=>⟨b,0,none⟩),none⟩:=by
 cases o with
 | none=>
  have:=(ho rfl).1
  subst this
  have:=(jN hx).2.2
  simp at this
 | some b=>rfl
theorem Yt{K:Act→World→Prop}{S:Type}{k:Nat}(m hh b:Nat)(T:TypeId)(bh:S→List Value)(xs:List S)(sp:List Value)(j:Int)(y:S)(size f:Nat)(vs:List Value){x:S}
  (hp:pl n ops k m E=pr n ops k m E) (hq:V7 P E (cV ops k).op=some (b,0+j.toNat*size+f,vs)) (hL:L[hh]?=some ⟨some b,T,row bh xs sp⟩) (hm:∀x,(bh x).length=size)
  (hx:ix xs j=some x) (hf:Nat.ble (f+vs.length) size=true) (he:tS (bh x) f vs=bh y)
  (hk:JK n w0 W K (ic E (cV ops k) undef) (L.set hh ⟨some b,T,row bh (xs.set j.toNat y) sp⟩)):JP P n w0 W ops k K E L Q:=by
 have hf:=uW hf
 have hi:=(jN hx).2.2
 have gy:j.toNat<xs.length:=by
  rcases jw j.toNat xs.length with h' | h'
  ·exact h'
  ·simp [jJ h'] at hi
 refine acf m hh b _ vs T _ _ hp hq hL ?_ ?_ hk
 ·simp only [row,cJ,gQ hm]
  have:(j.toNat+1)*size≤xs.length*size:=Nat.mul_le_mul_right _ gy
  rw [lN] at this
  omega
 ·rw [lM]
  exact NT hm hi hf he
abbrev av(n:Nat)(S:Type):Type:={xs:List S//xs.length=n}
def av.set{n:Nat}{S:Type}(a:av n S)(j:Int)(y:S):av n S:=⟨a.1.set j.toNat y,eJ.trans a.2⟩
def av.dC{S:Type}(n:Nat)(z:S):av n S:=⟨List.replicate n z,List.length_replicate⟩
omit gj in
theorem gG{S:Type}{bh:S→List Value}{m n:Nat}(hm:∀x,(bh x).length=m)(a:av n S):(row bh a.1 []).length=n*m:=by
 rw [row,gz,gQ hm,a.2]
omit gj in
theorem zU{S:Type}{bh:S→List Value}(hc:∀x,(bh x).all il=true)(xs:List S):∀v∈row bh xs [],il v=true:=by
 intro v hv
 rw [row,gz,kB] at hv
 obtain⟨x,_,hx⟩:=hv
 exact gP.1 (hc x) v hx
theorem Mem.all{w:World}(h:Mem w0 W L w){hh b:Nat}{T:TypeId}{cs:List Value}(hx:L[hh]?=some ⟨some b,T,cs⟩):At w b 0 cs:=by
 intro i v hv
 rw [lM]
 exact h.cell (dt hx) rfl i v hv
theorem ack{K:Act→World→Prop}{S:Type}{N:Nat}{k:Nat}(m hh b sz mm:Nat)(T:TypeId)(bh:S→List Value)(a:av N S)(hp:pl n ops k m E=pr n ops k m E)(hq:VE P E (cV ops k).op=some (b,0,true,sz))
  (hL:L[hh]?=some ⟨some b,T,row bh a.1 []⟩) (hm:∀x,(bh x).length=mm) (hs:Nat.beq (N*mm) sz=true)
  (hk:JK n w0 W K (ic E (cV ops k) (.agg (row bh a.1 []).toArray)) L):JP P n w0 W ops k K E L Q:=
 NR m hp _ (fun w hw=>jM hq ((gG hm a).trans (iV hs)) (.inl rfl) (hw.all hL)) hk
def Ri(P:Program)(E:Env):Op→Option (Nat×Nat×List Value×Nat)
 | .store T x y=>match nc E [] x,nc E [] y,P.info? T with
  | some (.pointer (some ⟨b,off,none⟩)),some v,some t=>some (b,off,v.cells.toList,t.size)
  | _,_,_=>none
 | _=>none
omit gj in
theorem Pk:∀(vs pre cs:List Value),vs.length=cs.length→tS (pre++cs) pre.length vs=pre++vs:=by
 intro vs
 induction vs with
 | nil=>intro pre cs h;cases cs with
  | nil=>rfl
  | cons=>cases h
 | cons v vs ih=>
  intro pre cs h
  cases cs with
  | nil=>cases h
  | cons c cs=>
   rw [tS]
   have:(pre++c::cs).set pre.length v=(pre++ [v])++cs:=by
    rw [wm _ _ (bt _)];simp
   rw [this]
   have h2:=ih (pre++ [v]) cs (by simpa using h)
   rw [cJ] at h2
   simpa using h2
theorem ahf{K:Act→World→Prop}{S:Type}{N:Nat}{k:Nat}(m hh b sz mm:Nat)(T:TypeId)(bh:S→List Value)(a0 a:av N S)(hp:pl n ops k m E=pr n ops k m E)
  (hq:Ri P E (cV ops k).op=some (b,0,row bh a.1 [],sz))
  (hL:L[hh]?=some ⟨some b,T,row bh a0.1 []⟩) (hm:∀x,(bh x).length=mm) (hc:∀x,(bh x).all il=true) (hs:Nat.beq (N*mm) sz=true)
  (hk:JK n w0 W K (ic E (cV ops k) undef) (L.set hh ⟨some b,T,row bh a.1 []⟩)):JP P n w0 W ops k K E L Q:=by
 have h:=pF hp
 intro ac w cX
 have hw:=jB cX h.2.1
 unfold wpOp
 simp only [h.1,hw,cp]
 refine .inl ?_
 unfold Oper.wp
 rw [iO cX (G:= []) (by simp) h.2.2.2.1 h.2.2.2.2]
 have Cf:=gG hm a
 have Yu:=gG hm a0
 have hs':=iV hs
 unfold Ri at hq
 split at hq
 ·rename_i T' x y ho
  split at hq
  ·rename_i b' E7 v t hx hy ht
   simp only [cx,dS] at hq
   obtain⟨rfl,rfl,hv,rfl⟩:=hq
   have HO:v.cells.size=t.size:=by rw [←hs',←Cf,←hv];simp
   obtain⟨w',hr,bn⟩:=lf (P:=P) (row bh a.1 []) 0 0 (row bh a0.1 []) L w cX.mem hL (by omega) (zU hc a.1)
   have ex:ev E [] x= .pointer (some ⟨b',0,none⟩):=by simp [ev,hx]
   have ey:ev E [] y=v:=by simp [ev,hy]
   have:(execOp (ev E []) (cV ops k)).run P w= .ok .skip w':=by
    simp only [execOp,ho,Instr.storeAt,ex,ey,Instr.sureAddr,Sem.run_bind,Sem.run_pure,Result.andThen_ok,storeVar,run_sizeOf ht,HO,ne_eq,oD,bU]
    rw [hv]
    simp only [hr,Result.andThen_ok]
   rw [this]
   simp only [Oper.upon]
   have e:=Pk (row bh a.1 []) [] (row bh a0.1 []) (by omega)
   simp only [gm,bN] at e
   rw [show (0:Nat)+0=0 from rfl,e] at bn
   exact hk _ _ (k9 (cX.qG bn) h.2.2.1 undef)
  ·simp at hq
 ·simp at hq
def RQ(P:Program)(n:Nat)(w0:World)(W:List Nat)(E:Env)(L:List dJ)(rs:List ResultVar)(vs:List Value):Prop:=
 ∀a w,Ok n w0 W E L a w→(rs.mapM (wy a.tmps)).run P w= .ok vs w
theorem iP:RQ P n w0 W E L [] []:=fun _ _ _=>rfl
theorem Z4{t:Nat}{v:Value}{rs:List ResultVar}{vs:List Value}(hv:nc E [] (.tmp t)=some v)(h:RQ P n w0 W E L rs vs):RQ P n w0 W E L (.tmp t::rs) (v::vs):=by
 intro a w cX
 have e:=fE cX (G:= []) (by simp) hv
 simp only [Act.eval] at e
 simp [wy,h a w cX,e]
theorem Z5{S:Type}{N t b mm hh:Nat}{T T':TypeId}{rs:List ResultVar}{vs:List Value}(bh:S→List Value)(a:av N S)(hv:nc E [] (.tmp t)=some (.pointer (some ⟨b,0,none⟩)))
  (hL:L[hh]?=some ⟨some b,T',row bh a.1 []⟩) (hm:∀x,(bh x).length=mm) (hT:(match P.underlying T,P.info? T with | some (.array _ _),some i=>Nat.beq i.size (N*mm) | _,_=>false)=true)
  (h:RQ P n w0 W E L rs vs):RQ P n w0 W E L (.cell t T::rs) (.agg (row bh a.1 []).toArray::vs):=by
 intro ac w cX
 have e:=fE cX (G:= []) (by simp) hv
 simp only [Act.eval] at e
 cases hu:P.underlying T with
 | none=>simp [hu] at hT
 | some d=>
  cases hi:P.info? T with
  | none=>simp [hu,hi] at hT
  | some i=>
   cases d with
   | array q el=>
    simp only [hu,hi] at hT
    have HO:=iV hT
    have Rc:(isAgg T).run P w= .ok true w:=by
     unfold isAgg
     simp [underlying,program,Sem.run,hu]
    have hl:(loadVar T ⟨b,0,none⟩).run P w= .ok (.agg (row bh a.1 []).toArray) w:=by
     simp only [loadVar,Sem.run_bind,Rc,Result.andThen_ok,cp,run_sizeOf hi,loadCells,tz (cX.mem.all hL) i.size 0 #[] (by rw [gG hm a];omega),Sem.run_pure]
     simp
    simp [wy,e,asAddr,hl,h ac w cX]
   | _=>simp [hu] at hT
theorem gH{fn:Func}{R:Value→World→Prop}{rs:List ResultVar}{vs:List Value}(Q9:fn.results.toList=rs)(hq:RQ P n w0 W E L rs vs)(hR:∀w,Mem w0 W L w→R (one vs) w):
  JX n w0 W .ret E L (QB P fn R):=by
 intro a w cX
 subst Q9
 exact⟨cX.df,_,yN (hq a w cX),hR w cX.mem⟩
def bs(l:List (Option Nat)):List Nat:=l.filterMap id
def AZ(L:List dJ):List (Nat×dJ)→List dJ
 | []=>L
 | p::ps=>AZ (L.set p.1 p.2) ps
omit gj in
theorem pG(L:List dJ):bs (L.map dJ.b)=L.filterMap dJ.b:=by simp [bs,List.filterMap_map]
theorem Mem.pass{w:World}(h:Mem w0 W L w)(l:List Nat)(hn:nd l=true){N:List dJ}(hN:at_ L l=N)(hz:Q4 N=true:=by kernel_rfl):Mem w (bs (N.map dJ.b)) N w:=by
 subst hN
 have hs:∀x∈at_ L l,x∈L:=by
  intro x hx
  obtain⟨j,_,hj⟩:=dm.1 hx
  exact dt hj
 refine⟨rfl,rfl,rfl,GC.of_le (bt _),bt _,fun _ _ _=>rfl,fun x hx b hb=>h.own x (hs x hx) b hb,Jm h.qF l hn,fun x hx b hb=> .inl ?_,wv hz⟩
 rw [pG]
 exact dm.2 ⟨x,hx,hb⟩
omit gj in
theorem GL:∀(ps:List (Nat×dJ)) (L:List dJ),nd (ps.map (·.1))=true→ps.map (fun p=>(L[p.1]?).map dJ.b)=ps.map (fun p=>some p.2.b)→
  (AZ L ps).map dJ.b=L.map dJ.b∧∀x∈AZ L ps,(∃p∈ps,x=p.2)∨(∃i:Nat,L[i]?=some x∧∀p∈ps,p.1≠i):=by
 intro ps
 induction ps with
 | nil=>intro L _ _;exact⟨rfl,fun x hx=> .inr (by obtain⟨i,hi⟩:=ry.1 hx;exact⟨i,hi,by simp⟩)⟩
 | cons p ps ih=>
  intro L hn hi
  rw [ju] at hn
  obtain⟨h1,h2⟩:=xE hn
  simp only [ju,ms] at hi
  obtain⟨hp,hr⟩:=hi
  have acm:(L.set p.1 p.2).map dJ.b=L.map dJ.b:=by
   rw [List.map_set]
   apply List.ext_getElem?
   intro k
   rw [tY]
   split
   ·rename_i e;subst e
    split
    ·rw [tZ,hp]
    ·rename_i gy
     rw [jJ (by simpa using gy)]
   ·rfl
  have LI:ps.map (fun q=>((L.set p.1 p.2)[q.1]?).map dJ.b)=ps.map (fun q=>some q.2.b):=by
   rw [←hr]
   refine List.map_congr_left fun q _=> ?_
   rw [←tZ,←tZ,acm]
  obtain⟨ih1,ih2⟩:=ih (L.set p.1 p.2) h2 LI
  refine⟨ih1.trans acm,fun x hx=> ?_⟩
  rcases ih2 x hx with⟨q,hq,e⟩ | ⟨i,C4,Z6⟩
  ·exact .inl ⟨q,lJ _ hq,e⟩
  ·by_cases hpi:p.1=i
   ·subst hpi
    rw [tY] at C4
    simp only [cp] at C4
    split at C4
    ·exact .inl ⟨p,k6,(e9 C4).symm⟩
    ·cases C4
   ·rw [mq hpi] at C4
    exact .inr ⟨i,C4,fun q hq=>by
     rcases eK.1 hq with rfl | hq
     ·exact hpi
     ·exact Z6 q hq⟩
theorem Mem.acn{w w':World}{ps:List (Nat×dJ)}{N:List dJ}(h:Mem w0 W L w)(h':Mem w (bs (ps.map (·.2.b))) (ps.map (·.2)++N) w')(hi:ps.map (fun p=>(L[p.1]?).map dJ.b)=ps.map (fun p=>some p.2.b))
  (hn:nd (ps.map (·.1))=true):Mem w0 W (AZ L ps++N) w':=by
 obtain⟨hB,hA⟩:=GL ps L hn hi
 have u4:∀c,c∈bs (ps.map (·.2.b))→∃p∈ps,∃y,L[p.1]?=some y∧y.b=some c:=by
  intro c hc
  simp only [bs,dm,dM,id] at hc
  obtain⟨_,⟨p,hp,rfl⟩,Rj⟩:=hc
  refine⟨p,hp,?_⟩
  have:=List.map_inj_left.1 hi p hp
  obtain⟨y,hy,o_⟩:=iF.1 this
  exact⟨y,hy,o_.trans Rj⟩
 have LS:(AZ L ps).filterMap dJ.b=L.filterMap dJ.b:=by
  rw [←pG,←pG,hB]
 have hN:∀x∈N,∀c,x.b=some c→c∉bs (ps.map (·.2.b)):=by
  intro x hx c hc ku
  have hd:=h'.qF
  rw [jK,oz] at hd
  refine hd.2.2 c ?_ c (dm.2 ⟨x,hx,hc⟩) rfl
  simp only [bs,dm,dM,id] at ku
  obtain⟨_,⟨p,hp,rfl⟩,Rj⟩:=ku
  exact dm.2 ⟨p.2,dM.2 ⟨p,hp,rfl⟩,Rj⟩
 have hNn:∀x∈N,∀c,x.b=some c→w.heap.size≤c:=by
  intro x hx c hc
  rcases h'.new x (ov _ hx) c hc with h1 | h1
  ·exact(hN x hx c hc h1).elim
  ·exact h1
 have hLn:∀c,c∈L.filterMap dJ.b→c<w.heap.size∧(c∈W∨w0.heap.size≤c):=by
  intro c hc
  obtain⟨y,hy,C3⟩:=dm.1 hc
  exact⟨h.lt hy C3,h.new y hy c C3⟩
 refine⟨h'.os.trans h.os,h'.tape.trans h.tape,h'.output.trans h.output,h.BG.trans h'.BG,k7 h.size h'.size,?_,?_,?_,?_,?_⟩
 ·intro b hb hW
  rw [h'.bW b (oy hb h.size) ?_]
  ·exact h.bW b hb hW
  ·intro ku
   obtain⟨p,_,y,hy,o_⟩:=u4 b ku
   rcases h.new y (dt hy) b o_ with h1 | h1
   ·exact hW h1
   ·omega
 ·intro x hx b hb
  rcases dw.1 hx with hx | hx
  ·rcases hA x hx with⟨p,hp,rfl⟩ | ⟨i,C4,Z6⟩
   ·exact h'.own p.2 (rz _ (dM.2 ⟨p,hp,rfl⟩)) b hb
   ·rw [h'.bW b (h.lt (dt C4) hb) ?_]
    ·exact h.own x (dt C4) b hb
    ·intro ku
     obtain⟨p,hp,y,hy,o_⟩:=u4 b ku
     exact Z6 p hp (tf L h.qF p.1 i y x b hy C4 o_ hb)
  ·exact h'.own x (ov _ hx) b hb
 ·rw [jK,LS,oz]
  refine⟨h.qF,?_,?_⟩
  ·have hd:=h'.qF
   rw [jK,oz] at hd
   exact hd.2.1
  ·intro a ha c hc e
   subst e
   obtain⟨x,hx,Z0⟩:=dm.1 hc
   have:=hNn x hx a Z0
   have:=(hLn a ha).1
   omega
 ·intro x hx b hb
  rcases dw.1 hx with hx | hx
  ·have:b∈L.filterMap dJ.b:=by rw [←LS];exact dm.2 ⟨x,hx,hb⟩
   exact(hLn b this).2
  ·exact .inr (k7 h.size (hNn x hx b hb))
 ·intro p hp
  obtain⟨x,hx,Cz⟩:=gF.1 hp
  have C0:x∈ps.map (·.2)++N→yM w0 W w' ((AZ L ps++N).filterMap dJ.b) p:=by
   intro EY
   have hq:=h'.yh p (gF.2 ⟨x,EY,Cz⟩)
   have hnW:p.1∉bs (ps.map (·.2.b)):=by
    intro ku
    simp only [bs,dm,dM,id] at ku
    obtain⟨_,⟨q,hq',rfl⟩,hqc⟩:=ku
    exact hq.2.2.1 (dm.2 ⟨q.2,rz _ (dM.2 ⟨q,hq',rfl⟩),hqc⟩)
   have hq1:w.heap.size≤p.1:=hq.1.resolve_left hnW
   refine(hq.base h.size (fun e=>absurd e hnW)).mono (fun hb=> ?_) (bt _) rfl
   rw [jK,LS] at hb
   rw [jK]
   rcases dw.1 hb with hb | hb
   ·have:=(hLn _ hb).1;omega
   ·exact ov _ hb
  rcases dw.1 hx with hx | hx
  ·rcases hA x hx with⟨q,hq,rfl⟩ | ⟨i,C4,Z6⟩
   ·exact C0 (rz _ (dM.2 ⟨q,hq,rfl⟩))
   ·have hq:=h.yh p (gF.2 ⟨x,dt C4,Cz⟩)
    refine hq.mono (fun hb=> ?_) h'.size (h'.bW _ hq.2.1 (fun ku=> ?_))
    ·rw [jK,LS] at hb
     rcases dw.1 hb with hb | hb
     ·exact hb
     ·obtain⟨y,hy,o_⟩:=dm.1 hb
      have:=hNn y hy _ o_;have:=hq.2.1;omega
    ·obtain⟨q,hq',y,hy,o_⟩:=u4 _ ku
     exact hq.2.2.1 (dm.2 ⟨y,dt hy,o_⟩)
  ·exact C0 (ov _ hx)
def Jn:List dJ→List Nat→List dJ
 | L,[]=>L
 | L,i::l=>Jn (L.set i ⟨none,0,[]⟩) l
omit gj in
theorem zV:∀(l:List Nat) (L:List dJ) (i:Nat) (x:dJ) (c:Nat),(Jn L l)[i]?=some x→x.b=some c→L[i]?=some x∧i∉l:=by
 intro l
 induction l with
 | nil=>intro L i x c h _;exact⟨h,by simp⟩
 | cons j l ih=>
  intro L i x c h hc
  obtain⟨h1,h2⟩:=ih (L.set j ⟨none,0,[]⟩) i x c h hc
  by_cases hji:j=i
  ·subst hji
   rw [tY] at h1
   simp only [cp] at h1
   split at h1
   ·simp only [cx] at h1;subst h1;cases hc
   ·cases h1
  ·rw [mq hji] at h1
   exact⟨h1,by simp only [eK,not_or];exact⟨fun e=>hji e.symm,h2⟩⟩
omit gj in
theorem LU:∀(l:List Nat) (L:List dJ) (i:Nat),i∉l→(Jn L l)[i]?=L[i]?:=by
 intro l
 induction l with
 | nil=>intro L i _;rfl
 | cons j l ih=>
  intro L i h
  simp only [eK,not_or] at h
  rw [Jn,ih _ i h.2,mq (fun e=>h.1 e.symm)]
omit gj in
theorem Jo(l:List Nat)(L:List dJ):∀x∈Jn L l,∀c,x.b=some c→x∈L:=by
 intro x hx c hc
 obtain⟨i,hi⟩:=ry.1 hx
 exact dt (zV l L i x c hi hc).1
omit gj in
theorem rG:∀(L:List dJ) (i:Nat),((L.set i ⟨none,0,[]⟩).filterMap dJ.b).Sublist (L.filterMap dJ.b):=by
 intro L
 induction L with
 | nil=>intro i;simp
 | cons x L ih=>
  intro i
  cases i with
  | zero=>
   simp only [List.set_cons_zero,kc]
   cases x.b with
   | none=>exact List.Sublist.refl _
   | some c=>exact List.sublist_cons_self _ _
  | succ i=>
   simp only [List.set_cons_succ,kc]
   cases x.b with
   | none=>exact ih i
   | some c=>exact(ih i).cons_cons _
omit gj in
theorem LV:∀(l:List Nat) (L:List dJ),(L.filterMap dJ.b).Nodup→((Jn L l).filterMap dJ.b).Nodup:=by
 intro l
 induction l with
 | nil=>intro L h;exact h
 | cons j l ih=>intro L h;exact ih _ (h.sublist (rG L j))
omit gj in
theorem NY:∀(l:List Nat) (L:List dJ),∀p∈Cb (Jn L l),p∈Cb L:=by
 intro l
 induction l with
 | nil=>intro L p hp;exact hp
 | cons j l ih=>intro L p hp;exact nR (y:=⟨none,0,[]⟩) zQ p (ih _ p hp)
theorem Mem.kill{w:World}(h:Mem w0 W L w)(l:List Nat):Mem w0 W (Jn L l) w:=
 h.Rf (fun x hx c hc=>Jo l L x hx c hc) (LV l L h.qF) (NY l L)
omit gj in
theorem Z7{a b:List Nat}(h:nd (a++b)=true):nd a=true∧∀x∈a,x∉b:=by
 induction a with
 | nil=>exact⟨rfl,by simp⟩
 | cons x a ih=>
  simp only [nD] at h
  obtain⟨h1,h2⟩:=xE h
  obtain⟨i1,i2⟩:=ih h2
  refine⟨?_,?_⟩
  ·simp only [nd,bY,kA,i1,and_true]
   rw [List.any_eq_false]
   intro b hb e
   exact h1 b (rz _ hb) (iV (by simpa using e))
  ·intro y hy
   rcases eK.1 hy with rfl | hy
   ·intro hb;exact h1 y (ov _ hb) rfl
   ·exact i2 y hy
theorem Mem.ahg{w w':World}{ps:List (Nat×dJ)}{ds:List Nat}{N:List dJ}{ob:List (Option Nat)}(h:Mem w0 W L w)(h':Mem w (bs ob) (ps.map (·.2)++N) w')
  (ho:∀c,some c∈ob→some c∈ps.map (·.2.b)++(at_ L ds).map dJ.b) (hi:ps.map (fun p=>(L[p.1]?).map dJ.b)=ps.map (fun p=>some p.2.b))
  (hn:nd (ps.map (·.1)++ds)=true):Mem w0 W (AZ (Jn L ds) ps++N) w':=by
 obtain⟨zW,Pg⟩:=Z7 hn
 have hk:=h.kill ds
 have QT:ps.map (fun p=>((Jn L ds)[p.1]?).map dJ.b)=ps.map (fun p=>some p.2.b):=by
  rw [←hi]
  refine List.map_congr_left fun p hp=> ?_
  rw [LU ds L p.1 (Pg p.1 (dM.2 ⟨p,hp,rfl⟩))]
 obtain⟨hB,hA⟩:=GL ps (Jn L ds) zW QT
 have hob:∀c,c∈bs ob→(∃p∈ps,p.2.b=some c∧∃y,L[p.1]?=some y∧y.b=some c)∨(∃d∈ds,∃y,L[d]?=some y∧y.b=some c):=by
  intro c hc
  have h1:some c∈ob:=by
   obtain⟨o,h1,h2⟩:=dm.1 hc
   simp only [id] at h2;subst h2;exact h1
  rcases dw.1 (ho c h1) with h2 | h2
  ·obtain⟨p,hp,Rj⟩:=dM.1 h2
   have:=List.map_inj_left.1 hi p hp
   obtain⟨y,hy,o_⟩:=iF.1 this
   exact .inl ⟨p,hp,Rj,y,hy,o_.trans Rj⟩
  ·obtain⟨y,hy,C3⟩:=dM.1 h2
   obtain⟨d,hd,hdy⟩:=dm.1 hy
   exact .inr ⟨d,hd,y,hdy,C3⟩
 have hold:∀c,c∈bs ob→c∈W∨w0.heap.size≤c:=by
  intro c hc
  rcases hob c hc with⟨_,_,_,y,hy,C3⟩ | ⟨_,_,y,hy,C3⟩
  ·exact h.new y (dt hy) c C3
  ·exact h.new y (dt hy) c C3
 have hN:∀x∈N,∀c,x.b=some c→(∃d∈ds,∃y,L[d]?=some y∧y.b=some c)∨w.heap.size≤c:=by
  intro x hx c hc
  rcases h'.new x (ov _ hx) c hc with h1 | h1
  ·rcases hob c h1 with⟨p,hp,Rj,_⟩ | h2
   ·have hd:=h'.qF
    rw [jK,oz] at hd
    exact(hd.2.2 c (dm.2 ⟨p.2,dM.2 ⟨p,hp,rfl⟩,Rj⟩) c (dm.2 ⟨x,hx,hc⟩) rfl).elim
   ·exact .inl h2
  ·exact .inr h1
 have LS:(AZ (Jn L ds) ps).filterMap dJ.b=(Jn L ds).filterMap dJ.b:=by rw [←pG,←pG,hB]
 refine⟨h'.os.trans h.os,h'.tape.trans h.tape,h'.output.trans h.output,h.BG.trans h'.BG,k7 h.size h'.size,?_,?_,?_,?_,?_⟩
 ·intro b hb hW
  rw [h'.bW b (oy hb h.size) ?_]
  ·exact h.bW b hb hW
  ·intro ku
   rcases hold b ku with h1 | h1
   ·exact hW h1
   ·omega
 ·intro x hx b hb
  rcases dw.1 hx with hx | hx
  ·rcases hA x hx with⟨p,hp,rfl⟩ | ⟨i,C4,Z6⟩
   ·exact h'.own p.2 (rz _ (dM.2 ⟨p,hp,rfl⟩)) b hb
   ·obtain⟨hL,hid⟩:=zV ds L i x b C4 hb
    rw [h'.bW b (h.lt (dt hL) hb) ?_]
    ·exact h.own x (dt hL) b hb
    ·intro ku
     rcases hob b ku with⟨p,hp,_,y,hy,o_⟩ | ⟨d,hd,y,hy,o_⟩
     ·exact Z6 p hp (tf L h.qF p.1 i y x b hy hL o_ hb)
     ·have:=tf L h.qF d i y x b hy hL o_ hb
      subst this;exact hid hd
  ·exact h'.own x (ov _ hx) b hb
 ·rw [jK,LS,oz]
  refine⟨hk.qF,?_,?_⟩
  ·have hd:=h'.qF
   rw [jK,oz] at hd
   exact hd.2.1
  ·intro a ha c hc e
   subst e
   obtain⟨x,hx,Z0⟩:=dm.1 hc
   obtain⟨y,hy,C3⟩:=dm.1 ha
   obtain⟨i,Z3⟩:=ry.1 hy
   obtain⟨hL,hid⟩:=zV ds L i y a Z3 C3
   rcases hN x hx a Z0 with⟨d,hd,z,hz,VH⟩ | h1
   ·have:=tf L h.qF d i z y a hz hL VH C3
    subst this;exact hid hd
   ·have:=h.lt (dt hL) C3
    omega
 ·intro x hx b hb
  rcases dw.1 hx with hx | hx
  ·have:b∈(Jn L ds).filterMap dJ.b:=by rw [←LS];exact dm.2 ⟨x,hx,hb⟩
   obtain⟨y,hy,C3⟩:=dm.1 this
   exact hk.new y hy b C3
  ·rcases hN x hx b hb with⟨d,_,z,hz,VH⟩ | h1
   ·exact h.new z (dt hz) b VH
   ·exact .inr (k7 h.size h1)
 ·intro p hp
  obtain⟨x,hx,Cz⟩:=gF.1 hp
  have pn:∀c,c∈(AZ (Jn L ds) ps).filterMap dJ.b→c∈L.filterMap dJ.b:=by
   intro c hc
   rw [LS] at hc
   obtain⟨y,hy,C3⟩:=dm.1 hc
   exact dm.2 ⟨y,Jo ds L y hy c C3,C3⟩
  have C0:x∈ps.map (·.2)++N→yM w0 W w' ((AZ (Jn L ds) ps++N).filterMap dJ.b) p:=by
   intro EY
   have hq:=h'.yh p (gF.2 ⟨x,EY,Cz⟩)
   by_cases ku:p.1∈bs ob
   ·rcases hob _ ku with⟨q,hq',hqc,_⟩ | ⟨d,hd,y,hy,o_⟩
    ·exact absurd (dm.2 ⟨q.2,rz _ (dM.2 ⟨q,hq',rfl⟩),hqc⟩) hq.2.2.1
    ·refine(hq.base h.size (fun _=>h.new y (dt hy) _ o_)).mono (fun hb=> ?_) (bt _) rfl
     rw [jK] at hb⊢
     rcases dw.1 hb with hb | hb
     ·exfalso
      rw [LS] at hb
      obtain⟨z,hz,VH⟩:=dm.1 hb
      obtain⟨i,hi⟩:=ry.1 hz
      obtain⟨g1,g2⟩:=zV ds L i z _ hi VH
      have:=tf L h.qF i d z y _ g1 hy VH o_
      subst this
      exact g2 hd
     ·exact ov _ hb
   ·have hq1:w.heap.size≤p.1:=hq.1.resolve_left ku
    refine(hq.base h.size (fun e=>absurd e ku)).mono (fun hb=> ?_) (bt _) rfl
    rw [jK] at hb⊢
    rcases dw.1 hb with hb | hb
    ·obtain⟨y,hy,o_⟩:=dm.1 (pn _ hb)
     have:=h.lt hy o_;omega
    ·exact ov _ hb
  rcases dw.1 hx with hx | hx
  ·rcases hA x hx with⟨q,hq,rfl⟩ | ⟨i,C4,Z6⟩
   ·exact C0 (rz _ (dM.2 ⟨q,hq,rfl⟩))
   ·have hq:=h.yh p (NY ds L p (gF.2 ⟨x,dt C4,Cz⟩))
    refine hq.mono (fun hb=> ?_) h'.size (h'.bW _ hq.2.1 (fun ku=> ?_))
    ·rw [jK] at hb
     rcases dw.1 hb with hb | hb
     ·exact pn _ hb
     ·obtain⟨y,hy,o_⟩:=dm.1 hb
      rcases hN y hy _ o_ with⟨d,_,z,hz,VH⟩ | h1
      ·exact dm.2 ⟨z,dt hz,VH⟩
      ·have:=hq.2.1;omega
    ·rcases hob _ ku with⟨_,_,_,y,hy,o_⟩ | ⟨_,_,y,hy,o_⟩
     ·exact hq.2.2.1 (dm.2 ⟨y,dt hy,o_⟩)
     ·exact hq.2.2.1 (dm.2 ⟨y,dt hy,o_⟩)
  ·exact C0 (ov _ hx)
theorem Mem.Jp{w w':World}{ps:List (Nat×dJ)}{ds:List Nat}{N:List dJ}{ob:List (Option Nat)}(h:Mem w0 W L w)(h':Mem w (bs ob) (ps.map (·.2)++N) w')(pm:List Nat)
  (ho:ob=pm.map fun i=>(ps.map (·.2.b)++(at_ L ds).map dJ.b).getD i none) (hi:ps.map (fun p=>(L[p.1]?).map dJ.b)=ps.map (fun p=>some p.2.b))
  (hn:nd (ps.map (·.1)++ds)=true):Mem w0 W (AZ (Jn L ds) ps++N) w':=
 h.ahg h' (fun c hc=>by
  rw [ho] at hc
  obtain⟨i,_,hic⟩:=dM.1 hc
  rw [List.getD_eq_getElem?_getD] at hic
  cases hg:(ps.map (·.2.b)++(at_ L ds).map dJ.b)[i]? with
  | none=>rw [hg] at hic;cases hic
  | some o=>rw [hg] at hic;simp only [rE] at hic;subst hic;exact dt hg) hi hn
theorem NZ{K:Act→World→Prop}{k:Nat}(m:Nat)(b off:Nat)(vs:List Value)(sz:Nat)(hp:pl n ops k m E=pr n ops k m E)(hq:VE P E (cV ops k).op=some (b,off,true,sz))(hl:vs.length=sz)
  (h:∀w,Mem w0 W L w→At w b off vs) (hk:JK n w0 W K (ic E (cV ops k) (.agg vs.toArray)) L):JP P n w0 W ops k K E L Q:=
 NR m hp _ (fun w hm=>jM hq hl (.inl rfl) (h w hm)) hk
omit gj in
theorem Rk(v:List Value):∀(off j:Nat) (cs:Array Value),((v.zipIdx j).foldl (fun cs (c,i)=>cs.setIfInBounds (off+i) c) cs).toList=tS cs.toList (off+j) v:=by
 induction v with
 | nil=>intro off j cs;rfl
 | cons x v ih=>
  intro off j cs
  simp only [List.zipIdx_cons,List.foldl_cons,tS]
  rw [ih off (j+1)]
  simp [nF]
theorem Rl{size:Nat}:∀(vs:List Value) (k:Nat) (pre z:List Value),pre.length=k*size→z.length=vs.length*size→(∀v∈vs,v.cells.size=size)→
  ∃cs:Array Value,Instr.fill (fun i=>some (i*size,size)) (pre++z).toArray ((vs.zipIdx k).map fun p=>(p.2,p.1))=some cs∧cs.toList=pre++vs.flatMap fun v=>v.cells.toList:=by
 intro vs
 induction vs with
 | nil=>
  intro k pre z _ hz _
  have:z= []:=kb (by simpa using hz)
  subst this
  exact⟨_,rfl,by simp⟩
 | cons v vs ih=>
  intro k pre z hp hz hv
  have hv0:=hv v (by simp)
  have hz':z.length=vs.length*size+size:=by rw [hz,cf,lN]
  have hl:(pre++z).toArray.size=pre.length+z.length:=by simp
  have Rm:(v.cells.zipIdx.foldl (fun cs (x:Value×Nat)=>cs.setIfInBounds (k*size+x.2) x.1) (pre++z).toArray).toList=pre++v.cells.toList++z.drop size:=by
   have h1:=Rk v.cells.toList (k*size) 0 (pre++z).toArray
   have h2:(v.cells.zipIdx.foldl (fun cs (x:Value×Nat)=>cs.setIfInBounds (k*size+x.2) x.1) (pre++z).toArray)=(v.cells.toList.zipIdx 0).foldl (fun cs (x:Value×Nat)=>cs.setIfInBounds (k*size+x.2) x.1) (pre++z).toArray:=by
    rw [←Array.foldl_toList,Array.toList_zipIdx]
   rw [h2,h1,←hp,rN,HQ _ _ (by simp;omega)]
   simp [hv0]
  obtain⟨cs,hc,EZ⟩:=ih (k+1) (pre++v.cells.toList) (z.drop size) (by simp [hp,hv0,lN]) (by simp;omega) (fun u hu=>hv u (by simp [hu]))
  refine⟨cs,?_,by rw [EZ];simp⟩
  rw [List.zipIdx_cons,ju,Instr.fill]
  simp only []
  rw [ax (by simp [hv0];omega)]
  have:(v.cells.zipIdx.foldl (fun cs (x:Value×Nat)=>match x with | (c,j)=>cs.setIfInBounds (k*size+j) c) (pre++z).toArray)=(pre++v.cells.toList++z.drop size).toArray:=by
   apply Array.ext'
   rw [←Rm]
  rw [this]
  exact hc
def bsQ(P:Program)(E:Env):Op→Option (TypeId×Nat×Nat×Nat×List (Nat×Option Value))
 | .buildSlice t len parts=>match P.underlying t with
  | some (.slice el)=>match P.info? el with
   | some i=>match i.zero with
    | some z=>some (el,i.size,z.cells.size,len,parts.toList.map fun p=>(p.1,nc E [] p.2))
    | none=>none
   | none=>none
  | _=>none
 | _=>none
theorem Mem.aM{S:Type}{w:World}(h:Mem w0 W L w){a:Option Addr}{m:Nat}{bh:S→List Value}{xs:List S}(hr:Rw w0 a m bh xs)(hW:xs≠ []→aB a∉W):Rw w a m bh xs:=by
 by_cases hx:xs= []
 ·subst hx
  exact⟨fun h=>absurd rfl h,fun j x h=>by simp at h⟩
 ·exact h.GH hr (hW hx)
theorem Mem.N0{S:Type}{w:World}(h:Mem w0 W L w){a:Option Addr}{m:Nat}{bh:S→List Value}{xs:List S}(hr:Rw w0 a m bh xs)(hW:xs≠ []→aB a∉W)(l:List Nat){N:List dJ}(hN:at_ L l=N):
  xs≠ []→aB a∉bs (N.map dJ.b):=by
 intro hx ku
 subst hN
 rw [pG] at ku
 obtain⟨y,hy,o_⟩:=dm.1 ku
 obtain⟨j,_,hj⟩:=dm.1 hy
 rcases h.new y (dt hj) _ o_ with h1 | h1
 ·exact hW hx h1
 ·have:=(hr.spot hx).2
  omega
theorem Mem.Rn{S:Type}{w:World}(h:Mem w0 W L w){hh:Nat}{o:Option Nat}{T:TypeId}{cs:List Value}{xs:List S}(hx:L[hh]?=some ⟨o,T,cs⟩)(ho:o=none→xs= [])(l:List Nat)
  (hl:l.any (Nat.beq hh)=false) {N:List dJ} (hN:at_ L l=N):xs≠ []→aB (o.map fun b=>⟨b,0,none⟩)∉bs (N.map dJ.b):=by
 intro jR ku
 subst hN
 rw [pG] at ku
 obtain⟨y,hy,o_⟩:=dm.1 ku
 obtain⟨j,VI,hj⟩:=dm.1 hy
 cases o with
 | none=>exact jR (ho rfl)
 | some b=>
  have:=tf L h.qF hh j _ y b hx hj rfl o_
  subst this
  have:=List.any_eq_false.1 hl hh VI
  simp [Nat.beq_refl] at this
theorem xF{S:Type}{c:Code}(T:TypeId)(bh:S→List Value)(xs:List S)(h:JC P n w0 W c E (L++ [⟨none,T,row bh xs []⟩]) Q)(hT:Nat.beq T kR=false:=by kernel_rfl):JC P n w0 W c E L Q:=
 fun a w cX=>h a w (cX.qG (cX.mem.Rh T _ (Ys hT)))
abbrev qH(k:IntKind)(x y:Int):Int:=k.wrap (BitVec.ofInt k.bits x&&&BitVec.ofInt k.bits y).toNat
abbrev wC(k:IntKind)(x y:Int):Int:=k.wrap (BitVec.ofInt k.bits x ||| BitVec.ofInt k.bits y).toNat
abbrev yQ(k:IntKind)(x y:Int):Int:=k.wrap (BitVec.ofInt k.bits x^^^BitVec.ofInt k.bits y).toNat
abbrev kl(k:IntKind)(x y:Int):Int:=k.wrap (BitVec.ofInt k.bits x&&& ~~~(BitVec.ofInt k.bits y)).toNat
abbrev fo(k:IntKind)(x y:Int):Int:=k.wrap (x*2^(min y.toNat k.bits))
abbrev eC(k:IntKind)(x y:Int):Int:=x.fdiv (2^(min y.toNat k.bits))
def HS(E:Env):Op→Option (BinOp×Value×Value)
 | .binOp o _ x y _=>match nc E [] x,nc E [] y with
  | some u,some v=>some (o,u,v)
  | _,_=>none
 | _=>none
theorem aco{K:Act→World→Prop}{k:Nat}(m:Nat)(kx:IntKind)(x:Int)(ky:IntKind)(y:Int)(hp:pl n ops k m E=pr n ops k m E)(hq:HS E (cV ops k).op=some (.shl, .int kx x, .int ky y))(h0:0≤y)
  (hk:JK n w0 W K (ic E (cV ops k) (.int kx (fo kx x y))) L):JP P n w0 W ops k K E L Q:=
 NR m hp _ (fun w hm=>by
  unfold HS at hq
  split at hq
  ·rename_i o T a b pos ho
   split at hq
   ·rename_i u v hu hv
    simp only [cx,dS] at hq
    obtain⟨rfl,rfl,rfl⟩:=hq
    have eu:ev E [] a= .int kx x:=by simp [ev,hu]
    have ev':ev E [] b= .int ky y:=by simp [ev,hv]
    simp [execOp,ho,eu,ev',eqGuard,binOp,Op.shift,show¬y<0 by omega,fo]
   ·cases hq
  ·cases hq) hk
theorem acp{K:Act→World→Prop}{k:Nat}(m:Nat)(kx:IntKind)(x:Int)(ky:IntKind)(y:Int)(hp:pl n ops k m E=pr n ops k m E)(hq:HS E (cV ops k).op=some (.shr, .int kx x, .int ky y))(h0:0≤y)
  (hk:JK n w0 W K (ic E (cV ops k) (.int kx (eC kx x y))) L):JP P n w0 W ops k K E L Q:=
 NR m hp _ (fun w hm=>by
  unfold HS at hq
  split at hq
  ·rename_i o T a b pos ho
   split at hq
   ·rename_i u v hu hv
    simp only [cx,dS] at hq
    obtain⟨rfl,rfl,rfl⟩:=hq
    have eu:ev E [] a= .int kx x:=by simp [ev,hu]
    have ev':ev E [] b= .int ky y:=by simp [ev,hv]
    simp [execOp,ho,eu,ev',eqGuard,binOp,Op.shift,show¬y<0 by omega,eC]
   ·cases hq
  ·cases hq) hk
theorem acq{K:Act→World→Prop}{k:Nat}(m:Nat)(kx:IntKind)(x y:Int)(hp:pl n ops k m E=pr n ops k m E)(hq:HS E (cV ops k).op=some (.rem, .int kx x, .int kx y))(h0:y≠0)
  (hk:JK n w0 W K (ic E (cV ops k) (.int kx (Int.tmod x y))) L):JP P n w0 W ops k K E L Q:=
 NR m hp _ (fun w hm=>by
  unfold HS at hq
  split at hq
  ·rename_i o T a b pos ho
   split at hq
   ·rename_i u v hu hv
    simp only [cx,dS] at hq
    obtain⟨rfl,rfl,rfl⟩:=hq
    have eu:ev E [] a= .int kx x:=by simp [ev,hu]
    have ev':ev E [] b= .int kx y:=by simp [ev,hv]
    simp [execOp,ho,eu,ev',eqGuard,binOp,Op.intDiv,h0]
   ·cases hq
  ·cases hq) hk
omit gj in
theorem fK{S:Type}{o:Option Nat}{xs:List S}{c j:Nat}{y:S}(h:o=none→xs= []∧c=0):o=none→xs.set j y= []∧c=0:=
 fun e=>⟨by rw [(h e).1];rfl,(h e).2⟩
theorem Z8{K:Act→World→Prop}{S:Type}{k:Nat}(m hh:Nat)(o:Option Nat)(T:TypeId)(bh:S→List Value)(xs:List S)(sp:List Value)(j:Int)(y:S)(size f:Nat)(vs:List Value){x:S}
  (hp:pl n ops k m E=pr n ops k m E) (hq:V7 P E (cV ops k).op=some (aB (o.map fun b=>⟨b,0,none⟩),aO (o.map fun b=>⟨b,0,none⟩)+j.toNat*size+f,vs)) (hL:L[hh]?=some ⟨o,T,row bh xs sp⟩)
  (ho:o=none→xs= []) (hm:∀x,(bh x).length=size)
  (hx:ix xs j=some x) (hf:Nat.ble (f+vs.length) size=true) (he:tS (bh x) f vs=bh y)
  (hk:JK n w0 W K (ic E (cV ops k) undef) (L.set hh ⟨o,T,row bh (xs.set j.toNat y) sp⟩)):JP P n w0 W ops k K E L Q:=by
 cases o with
 | none=>rw [ho rfl] at hx;simp [ix] at hx
 | some b=>exact Yt m hh b T bh xs sp j y size f vs hp hq hL hm hx hf he hk
def ixQ(P:Program)(E:Env):Op→Option (Array Value×Nat×Int)
 | .index T x i=>match nc E [] x,nc E [] i,P.underlying T with
  | some (.agg cs),some (.int _ j),some (.array len el)=>match P.underlying el,P.info? el with
   | some (.struct _),_=>none
   | some (.array _ _),_=>none
   | some _,some t=>bif Nat.beq t.size 1 then some (cs,len,j) else none
   | _,_=>none
  | _,_,_=>none
 | _=>none
omit gj in
theorem row_one{S:Type}{bh:S→List Value}{v:S→Value}(hv:∀x,bh x= [v x])(xs:List S)(i:Nat)(x:S)(h:xs[i]?=some x):(row bh xs [])[i]?=some (v x):=by
 have:=kH (bh:=bh) (m:=1) (fun x=>by rw [hv];rfl) xs i x h 0 (v x) (by rw [hv];rfl)
 simpa [row] using this
theorem acr{K:Act→World→Prop}{S:Type}{N:Nat}{k:Nat}(m:Nat)(bh:S→List Value)(v:S→Value)(a:av N S)(j:Int){x:S}(hp:pl n ops k m E=pr n ops k m E)
  (hq:ixQ P E (cV ops k).op=some ((row bh a.1 []).toArray,N,j)) (hv:∀x,bh x= [v x]) (hx:ix a.1 j=some x)
  (hk:JK n w0 W K (ic E (cV ops k) (v x)) L):JP P n w0 W ops k K E L Q:=
 NR m hp _ (fun w hm=>by
  obtain⟨h0,h1,h2⟩:=jN hx
  have h1':j<(N:Int):=by rw [a.2] at h1;exact h1
  unfold ixQ at hq
  split at hq
  ·rename_i T y i ho
   split at hq
   ·rename_i cs kk jj len el hy hi hT
    have ey:ev E [] y= .agg cs:=by simp [ev,hy]
    have ei:ev E [] i= .int kk jj:=by simp [ev,hi]
    split at hq
    ·cases hq
    ·cases hq
    ·rename_i d t ha hb hd ht
     cases Lz:Nat.beq t.size 1 with
     | false=>rw [Lz] at hq;simp at hq
     | true=>
      rw [Lz] at hq
      simp only [gZ,cx,dS] at hq
      obtain⟨rfl,rfl,rfl⟩:=hq
      have rk:=iV Lz
      have Rc:(isAgg el).run P w= .ok false w:=by
       unfold isAgg
       cases d with
       | struct fs=>exact(ha fs rfl).elim
       | array q e=>exact(hb q e rfl).elim
       | _=>simp [underlying,program,Sem.run,hd]
      have hg:=row_one hv a.1 jj.toNat x h2
      simp [execOp,ho,Instr.index,ey,ei,asIntOf,underlying,program,Sem.run,hT,h0,h1',part,Rc,run_sizeOf ht,rk,hg]
    ·cases hq
   ·cases hq
  ·cases hq) hk
theorem Mem.start(w:World):Mem w [] [] w:=⟨rfl,rfl,rfl,GC.of_le (bt _),bt _,fun _ _ _=>rfl,by simp,by simp,by simp,wv rfl⟩
theorem acs{K:Act→World→Prop}{S:Type}{k:Nat}(m hh:Nat)(o:Option Nat)(el:TypeId)(sl nn cap size bytes:Nat)(xa:Option Addr)(bh:S→List Value)(xs ys:List S)(sp:List Value)(zv:Value)
  (Jq:xs.length=sl) (hnn:ys.length=nn)
  (hp:pl n ops k m E=pr n ops k m E) (hq:Yr P E (cV ops k).op=some (o.map fun b=>⟨b,0,none⟩,sl,cap,xa,nn,el,size,bytes))
  (hL:L[hh]?=some ⟨o,el,row bh xs sp⟩) (hm:∀x,(bh x).length=size) (hc:∀x,(bh x).all il=true)
  (xC:o≠none→sl≤cap∧sp.length=(cap-sl)*size) (ho:o=none→xs= []∧cap=0)
  (ZY:∀w,Mem w0 W L w→Rw w xa size bh ys) (Ji:xs.length+ys.length≤4294967296) (hz:(P.info? el).bind (·.zero)=some zv)
  (hb:(Nat.ble bytes 4096&&Nat.blt 0 bytes&&Nat.blt 0 size&&Nat.beq zv.cells.size size)=true)
  (hk:∀(o':Option Nat) (pj:Nat) (C1:List Value),(o'≠none→(xs++ys).length≤pj∧C1.length=(pj-(xs++ys).length)*size)→(o'=none→xs++ys= []∧pj=0)→
   JK n w0 W K (ic E (cV ops k) (.slice (o'.map fun b=>⟨b,0,none⟩) (xs++ys).length pj)) (L.set hh ⟨o',el,row bh (xs++ys) C1⟩)):JP P n w0 W ops k K E L Q:=by
 subst Jq hnn
 exact acg m hh o el cap ys.length size bytes xa bh xs ys sp zv hp hq hL hm hc xC ho ZY Ji hz hb hk
omit gj in
theorem ltn{S:Type}{xs:List S}{j:Int}{x:S}{k:Nat}(h:ix xs j=some x)(hn:xs.length=k):j<(k:Int):=hn▸(jN h).2.1
abbrev au(x:Int):Int:=IntKind.wrap .i64 x
abbrev ot(x:Int):Int:=IntKind.wrap .i16 x
abbrev w8(x:Int):Int:=IntKind.wrap .i8 x
abbrev u64(x:Int):Int:=IntKind.wrap .u64 x
abbrev u32(x:Int):Int:=IntKind.wrap .u32 x
abbrev u8(x:Int):Int:=IntKind.wrap .u8 x
end rules
section rules2
variable {P:Program} {n:Nat} {w0:World} {W:List Nat} {Q:Exit→Act→World→Prop} {E:Env} {L:List dJ} {ops:Array Oper}
theorem Z9{o:Oper}{el:TypeId}{size len:Nat}{vs:List Value}{w:World}(hq:bsQ P E o.op=some (el,size,size,len,(vs.zipIdx 0).map fun p=>(p.2,some p.1)))
  (hl:vs.length=len) (hb:(Nat.ble (len*size) 16777216&&Nat.blt 0 (len*size))=true) (hs:∀v∈vs,v.cells.size=size):
  (execOp (ev E []) o).run P w= .ok (.value (.slice (some ⟨w.heap.size,0,none⟩) len len)) {w with heap:=w.heap.push (.cells (vs.flatMap fun v=>v.cells.toList).toArray el (0,0))}:=by
 simp only [bY] at hb
 have Lz:=uW hb.1
 have GK:=blt hb.2
 unfold bsQ at hq
 split at hq
 ·rename_i t E6 parts ho
  split at hq
  ·rename_i NU hT
   split at hq
   ·rename_i i hi
    split at hq
    ·rename_i z hz
     simp only [cx,dS] at hq
     obtain⟨rfl,rfl,hzs,rfl,hp⟩:=hq
     have Z_:(parts.map fun(x:Nat×Operand)=>(x.1,ev E [] x.2)).toList=(vs.zipIdx 0).map fun p=>(p.2,p.1):=by
      rw [Array.toList_map]
      have h2:=fI (List.map fun(q:Nat×Option Value)=>(q.1,q.2.getD undef)) hp
      simp only [List.map_map] at h2
      exact h2
     have Jg:∀w:World,(typeInfo NU).run P w= .ok i w:=by intro w;simp [typeInfo,program,Sem.run,hi]
     have ZW:∀w:World,(zeroValue NU).run P w= .ok z w:=by intro w;simp [zeroValue,Jg,hz]
     have hsr:∀w:World,(sizeOf NU).run P w= .ok i.size w:=by intro w;simp [sizeOf,Jg]
     have c1:¬(E6*i.size>2^24):=by omega
     have c2:¬(E6*i.size=0):=by omega
     obtain⟨cs,hf,VF⟩:=Rl (size:=i.size) vs 0 [] ((Array.range (E6*i.size)).map (fun x=>z.cells[x%z.cells.size]!)).toList (by simp) (by simp [hl]) hs
     simp only [gm,Array.toArray_toList] at hf VF
     simp only [execOp,ho,Instr.buildSlice,underlying,program,Sem.run_bind,Sem.run,hT,Result.andThen_ok,Sem.run_pure,hsr,c1,c2,bU,ZW,Z_]
     rw [hf]
     simp only [newRow,newObj,Sem.run_bind,Sem.run,Result.andThen_ok,Sem.run_pure]
     rw [←VF]
    ·simp at hq
   ·simp at hq
  ·simp at hq
 ·simp at hq
theorem ahh{K:Act→World→Prop}{S:Type}{k:Nat}(m:Nat)(el:TypeId)(size len:Nat)(bh:S→List Value)(vs:List Value)(xs:List S)(hp:pl n ops k m E=pr n ops k m E)
  (hq:bsQ P E (cV ops k).op=some (el,size,size,len,(vs.zipIdx 0).map fun p=>(p.2,some p.1))) (hv:vs.map (fun v=>v.cells.toList)=xs.map bh) (hl:vs.length=len)
  (hb:(Nat.ble (len*size) 16777216&&Nat.blt 0 (len*size))=true) (hm:∀x,(bh x).length=size)
  (hk:∀b,JK n w0 W K (ic E (cV ops k) (.slice (some ⟨b,0,none⟩) len len)) (L++ [⟨some b,el,row bh xs []⟩])):JP P n w0 W ops k K E L Q:=by
 have h:=pF hp
 intro a w cX
 have hw:=jB cX h.2.1
 unfold wpOp
 simp only [h.1,hw,cp]
 refine .inl ?_
 unfold Oper.wp
 have hs:∀v∈vs,v.cells.size=size:=by
  intro v hv'
  have:v.cells.toList∈xs.map bh:=hv▸dM.2 ⟨v,hv',rfl⟩
  obtain⟨x,_,hx⟩:=dM.1 this
  rw [←hm x,hx];simp
 rw [iO cX (G:= []) (by simp) h.2.2.2.1 h.2.2.2.2,Z9 hq hl hb hs]
 have hm:=cX.mem.alloc (vs.flatMap fun v=>v.cells.toList).toArray el
 refine hk w.heap.size _ _ (k9 (cX.qG ?_) h.2.2.1 _)
 have e:row bh xs []=vs.flatMap fun v=>v.cells.toList:=by
  rw [row,gz,List.flatMap_def,List.flatMap_def,←hv]
 rw [e]
 simpa using hm
def nlQ(E:Env)(P:Program):Op→Option (Option Addr×Bool)
 | .binOp o t x y _=>match o,P.underlying t,nc E [] x,nc E [] y with
  | .eql,some (.slice _),some (.slice a _ _),some (.slice none _ _)=>some (a,true)
  | .neq,some (.slice _),some (.slice a _ _),some (.slice none _ _)=>some (a,false)
  | _,_,_,_=>none
 | _=>none
omit gj in
theorem GM{t:TypeId}{d:TypeId}(hT:P.underlying t=some (.slice d))(a:Option Addr)(l c l' c':Nat)(w:World):
  (Op.equal t (.slice a l c) (.slice none l' c')).run P w= .ok a.isNone w:=by
 unfold Op.equal Op.maxDepth
 rw [Op.equalIn]
 cases a<;>simp [underlying,program,Sem.run,hT]
omit gj in
theorem Z'{o:Oper}{a:Option Addr}{q:Bool}{w:World}(hq:nlQ E P o.op=some (a,q)):(execOp (ev E []) o).run P w= .ok (.value (.bool (a.isNone==q))) w:=by
 unfold nlQ at hq
 split at hq
 ·rename_i oo t x y yt ho
  split at hq
  ·rename_i d a' l c l' c' hT hx hy
   simp only [cx,dS] at hq
   obtain⟨rfl,rfl⟩:=hq
   have ex:ev E [] x= .slice a' l c:=by simp [ev,hx]
   have ey:ev E [] y= .slice none l' c':=by simp [ev,hy]
   simp [execOp,ho,ex,ey,eqGuard,binOp,GM hT]
  ·rename_i d a' l c l' c' hT hx hy
   simp only [cx,dS] at hq
   obtain⟨rfl,rfl⟩:=hq
   have ex:ev E [] x= .slice a' l c:=by simp [ev,hx]
   have ey:ev E [] y= .slice none l' c':=by simp [ev,hy]
   simp [execOp,ho,ex,ey,eqGuard,binOp,GM hT]
  ·cases hq
 ·cases hq
theorem acu{K:Act→World→Prop}{k:Nat}(m:Nat)(a:Option Addr)(q b:Bool)(hp:pl n ops k m E=pr n ops k m E)(hq:nlQ E P (cV ops k).op=some (a,q))(hb:(a.isNone==q)=b)
  (hk:JK n w0 W K (ic E (cV ops k) (.bool b)) L):JP P n w0 W ops k K E L Q:=
 NR m hp _ (fun w hm=>hb▸Z' hq) hk
def pa(a:Option Addr)(l cap size:Nat):Option Addr:=if cap=l then a else a.map (·.add (l*size))
omit gj in
theorem N1(a:Option Addr)(cap size:Nat):pa a 0 cap size=a:=by
 unfold pa
 split
 ·rfl
 ·cases a with
  | none=>rfl
  | some a=>simp [Addr.add]
omit gj in
theorem Rw.part{S:Type}{w:World}{a:Option Addr}{m:Nat}{bh:S→List Value}{xs:List S}(h:Rw w a m bh xs)(l k cap:Nat)(hc:xs.length≤cap):Rw w (pa a l cap m) m bh ((xs.drop l).take k):=by
 have key:∀(j:Nat) (x:S),((xs.drop l).take k)[j]?=some x→xs[l+j]?=some x:=by
  intro j x hx
  rw [List.getElem?_take] at hx
  split at hx
  ·rwa [List.getElem?_drop] at hx
  ·cases hx
 have xC:∀(j:Nat) (x:S),((xs.drop l).take k)[j]?=some x→a=some ⟨aB a,aO a,none⟩∧pa a l cap m=some ⟨aB a,aO a+l*m,none⟩∧aB a<w.heap.size:=by
  intro j x hx
  have h1:=key j x hx
  have gy:l+j<xs.length:=by
   rcases jw (l+j) xs.length with h' | h'
   ·exact h'
   ·simp [jJ h'] at h1
  have jR:xs≠ []:=by rintro rfl;simp at gy
  obtain⟨h2,h3⟩:=h.spot jR
  refine⟨h2,?_,h3⟩
  unfold pa
  rw [ax (by omega),h2]
  simp only [kE,addr_add]
  simp [aB,aO]
 constructor
 ·intro jR
  obtain⟨x,hx⟩:∃x,((xs.drop l).take k)[0]?=some x:=by
   cases hh:(xs.drop l).take k with
   | nil=>exact absurd hh jR
   | cons x t=>exact⟨x,rfl⟩
  obtain⟨h1,h2,h3⟩:=xC 0 x hx
  rw [h2]
  exact⟨by simp [aB,aO],by simpa [aB] using h3⟩
 ·intro j x hx
  obtain⟨h1,h2,h3⟩:=xC j x hx
  have:=h.cell (l+j) x (key j x hx)
  rw [h2]
  simp only [aB,aO] at this⊢
  rw [Nat.add_mul,←nF] at this
  exact this
omit gj in
theorem Rw.hd{S:Type}{w:World}{a:Option Addr}{m:Nat}{bh:S→List Value}{xs:List S}(h:Rw w a m bh xs)(k:Nat):Rw w a m bh (xs.take k):=by
 have:=h.part 0 k xs.length (bt _)
 rwa [N1,List.drop_zero] at this
omit gj in
theorem Rw.tl{S:Type}{w:World}{a:Option Addr}{m:Nat}{bh:S→List Value}{xs:List S}(h:Rw w a m bh xs)(l cap:Nat)(hc:xs.length≤cap):Rw w (pa a l cap m) m bh (xs.drop l):=by
 have:=h.part l xs.length cap hc
 rwa [List.take_of_length_le (by simp)] at this
omit gj in
theorem HT{S:Type}{xs:List S}{h:Int}(hg:0≤h∧h≤xs.length):(xs.take h.toNat).length=h.toNat:=by rw [gl];omega
omit gj in
theorem wD{S:Type}{xs:List S}{n:Nat}(hn:xs.length=n)(l:Int):(xs.drop l.toNat).length=n-l.toNat:=by rw [iu,hn]
omit gj in
theorem yR{S:Type}{o:Option Nat}{xs:List S}{n cap k:Nat}{sp:List Value}(hn:xs.length=n)(hs:o≠none→n≤cap∧sp.length=k)(ho:o=none→xs= []∧cap=0):xs.length≤cap:=by
 cases o with
 | none=>obtain⟨rfl,rfl⟩:=ho rfl;simp
 | some b=>rw [hn];exact(hs (by simp)).1
def oI(E:Env):Option Operand→Option (Option Int)
 | none=>some none
 | some x=>match nc E [] x with
  | some (.int _ i)=>some (some i)
  | _=>none
def slQ(P:Program)(E:Env):Op→Option (Option Addr×Nat×Nat×Option Int×Option Int×Option Int×Nat)
 | .slice T x lo hi mx=>match nc E [] x,P.underlying T,oI E lo,oI E hi,oI E mx with
  | some (.slice a len cap),some (.slice el),some lo',some Z3,some mx'=>(P.info? el).map fun t=>(a,len,cap,lo',Z3,mx',t.size)
  | _,_,_,_,_=>none
 | _=>none
omit gj in
theorem CA{x:Option Operand}(h:oI E x=some none):x=none:=by
 unfold oI at h
 split at h
 ·rfl
 ·split at h<;>cases h
omit gj in
theorem N2{x:Option Operand}{i:Int}(h:oI E x=some (some i)):∃y k,x=some y∧ev E [] y= .int k i:=by
 unfold oI at h
 split at h
 ·cases h
 ·rename_i y
  split at h
  ·rename_i k j hy
   cases h
   exact⟨y,k,rfl,by simp [ev,hy]⟩
  ·cases h
omit gj in
theorem GN{v:Value}{k:IntKind}{i:Int}(hv:v= .int k i){y:Nat}(h0:0≤i)(h1:i≤y)(c:BoundsCode)(w:World):(Instr.sliceBound v y c).run P w= .ok i.toNat w:=by
 subst hv
 simp [Instr.sliceBound,asIntOf,h0,h1]
omit gj in
theorem N3{o:Oper}{a:Option Addr}{len cap size:Nat}{h:Int}{w:World}(hq:slQ P E o.op=some (a,len,cap,none,some h,none,size))(h0:0≤h)(h1:h≤cap):
  (execOp (ev E []) o).run P w= .ok (.value (.slice a h.toNat cap)) w:=by
 unfold slQ at hq
 split at hq
 ·rename_i T x lo hi mx ho
  split at hq
  ·rename_i a' E6 pj el lo' Z3 mx' hx hT hlo hhi hmx
   simp only [iF,dS] at hq
   obtain⟨t,ht,rfl,rfl,rfl,rfl,rfl,rfl,rfl⟩:=hq
   have ex:ev E [] x= .slice a' E6 pj:=by simp [ev,hx]
   obtain rfl:=CA hlo
   obtain rfl:=CA hmx
   obtain⟨y,k,rfl,hy⟩:=N2 hhi
   have hb:=GN (P:=P) hy h0 h1
   have hz:(if pj=0 then a' else a'.map (·.add (0*t.size)))=a':=N1 a' pj t.size
   simp only [execOp,ho,ex,Instr.sliceAt,Instr.slice,Instr.sliceBounds,Option.map_none,kE,underlying,program,Sem.run_bind,Sem.run,hT,Result.andThen_ok,Sem.run_pure,Option.isSome_none,cM,bU,cp,hb,run_sizeOf ht,hz,Nat.sub_zero]
  ·cases hq
 ·cases hq
omit gj in
theorem Wf{o:Oper}{a:Option Addr}{len cap size:Nat}{l:Int}{w:World}(hq:slQ P E o.op=some (a,len,cap,some l,none,none,size))(h0:0≤l)(h1:l≤len):
  (execOp (ev E []) o).run P w= .ok (.value (.slice (pa a l.toNat cap size) (len-l.toNat) (cap-l.toNat))) w:=by
 unfold slQ at hq
 split at hq
 ·rename_i T x lo hi mx ho
  split at hq
  ·rename_i a' E6 pj el lo' Z3 mx' hx hT hlo hhi hmx
   simp only [iF,dS] at hq
   obtain⟨t,ht,rfl,rfl,rfl,rfl,rfl,rfl,rfl⟩:=hq
   have ex:ev E [] x= .slice a' E6 pj:=by simp [ev,hx]
   obtain rfl:=CA hhi
   obtain rfl:=CA hmx
   obtain⟨y,k,rfl,hy⟩:=N2 hlo
   have hb:=GN (P:=P) hy h0 h1
   simp only [execOp,ho,ex,Instr.sliceAt,Instr.slice,Instr.sliceBounds,Option.map_none,kE,underlying,program,Sem.run_bind,Sem.run,hT,Result.andThen_ok,Sem.run_pure,Option.isSome_none,cM,bU,cp,hb,run_sizeOf ht,pa]
  ·cases hq
 ·cases hq
theorem acv{K:Act→World→Prop}{k:Nat}(m:Nat)(a:Option Addr)(len cap size:Nat)(h:Int)(hp:pl n ops k m E=pr n ops k m E)(hq:slQ P E (cV ops k).op=some (a,len,cap,none,some h,none,size))(h0:0≤h)(h1:h≤cap)
  (hk:JK n w0 W K (ic E (cV ops k) (.slice a h.toNat cap)) L):JP P n w0 W ops k K E L Q:=NR m hp _ (fun w hm=>N3 hq h0 h1) hk
theorem acw{K:Act→World→Prop}{k:Nat}(m:Nat)(a:Option Addr)(len cap size:Nat)(l:Int)(hp:pl n ops k m E=pr n ops k m E)(hq:slQ P E (cV ops k).op=some (a,len,cap,some l,none,none,size))(h0:0≤l)(h1:l≤len)
  (hk:JK n w0 W K (ic E (cV ops k) (.slice (pa a l.toNat cap size) (len-l.toNat) (cap-l.toNat))) L):JP P n w0 W ops k K E L Q:=NR m hp _ (fun w hm=>Wf hq h0 h1) hk
omit gj in
theorem N4{S:Type}{bh:S→List Value}(xs:List S)(i:Nat)(sp:List Value):row bh xs sp=row bh (xs.take i) ((xs.drop i).flatMap bh++sp):=by
 unfold row;rw [←iX,←qt,kz]
theorem acx{K:Act→World→Prop}{S:Type}{k:Nat}(m hh:Nat)(o:Option Nat)(el:TypeId)(i sl nn cap size bytes:Nat)(xa:Option Addr)(bh:S→List Value)(xs ys:List S)(sp:List Value)(zv:Value)
  (hi:i≤xs.length) (Jq:xs.length=sl) (hnn:ys.length=nn)
  (hp:pl n ops k m E=pr n ops k m E) (hq:Yr P E (cV ops k).op=some (o.map fun b=>⟨b,0,none⟩,i,cap,xa,nn,el,size,bytes))
  (hL:L[hh]?=some ⟨o,el,row bh xs sp⟩) (hm:∀x,(bh x).length=size) (hc:∀x,(bh x).all il=true)
  (xC:o≠none→sl≤cap∧sp.length=(cap-sl)*size) (ho:o=none→xs= []∧cap=0)
  (ZY:∀w,Mem w0 W L w→Rw w xa size bh ys) (Ji:i+ys.length≤4294967296) (hz:(P.info? el).bind (·.zero)=some zv)
  (hb:(Nat.ble bytes 4096&&Nat.blt 0 bytes&&Nat.blt 0 size&&Nat.beq zv.cells.size size)=true)
  (hk:∀(o':Option Nat) (pj:Nat) (C1:List Value),(o'≠none→(xs.take i++ys).length≤pj∧C1.length=(pj-(xs.take i++ys).length)*size)→(o'=none→xs.take i++ys= []∧pj=0)→
   JK n w0 W K (ic E (cV ops k) (.slice (o'.map fun b=>⟨b,0,none⟩) (xs.take i++ys).length pj)) (L.set hh ⟨o',el,row bh (xs.take i++ys) C1⟩)):JP P n w0 W ops k K E L Q:=by
 subst Jq hnn
 have Jg:(xs.take i).length=i:=by rw [gl];omega
 rw [N4 xs i sp] at hL
 refine acg m hh o el cap ys.length size bytes xa bh (xs.take i) ys ((xs.drop i).flatMap bh++sp) zv hp (by rw [Jg];exact hq) hL hm hc ?_ ?_ ZY (by rw [Jg];exact Ji) hz hb hk
 ·intro e
  obtain⟨h1,h2⟩:=xC e
  rw [Jg,cJ,gQ hm,h2,iu,←Nat.add_mul]
  exact⟨by omega,by congr 1;omega⟩
 ·intro e
  obtain⟨h1,h2⟩:=ho e
  exact⟨by rw [h1];simp,h2⟩
def clQ(P:Program)(E:Env):Op→Option (Option Addr×Nat×List Value×Nat)
 | .call ⟨.builtin .clear,as,ts⟩=>match as[0]?,ts[0]? with
  | some x,some T=>match nc E [] x,P.underlying T with
   | some (.slice a n _),some (.slice el)=>match P.info? el with
    | some t=>t.zero.map fun z=>(a,n,z.cells.toList,t.size)
    | none=>none
   | _,_=>none
  | _,_=>none
 | _=>none
theorem acy{K:Act→World→Prop}{S:Type}{k:Nat}(m hh:Nat)(o:Option Nat)(T:TypeId)(i sl q cap size:Nat)(z:List Value)(bh:S→List Value)(xs:List S)(sp:List Value)
  (Jq:xs.length=sl) (hi:i=sl) (hp:pl n ops k m E=pr n ops k m E) (hq:clQ P E (cV ops k).op=some (pa (o.map fun b=>⟨b,0,none⟩) i cap size,q,z,size))
  (hL:L[hh]?=some ⟨o,T,row bh xs sp⟩) (hm:∀x,(bh x).length=size) (hz:(z.all il&&Nat.beq z.length size)=true)
  (xC:o≠none→sl≤cap∧sp.length=(cap-sl)*size) (ho:o=none→xs= []∧cap=0) (vo:sl+q≤cap)
  (hk:∀C1:List Value,C1.length=sp.length→JK n w0 W K (ic E (cV ops k) (.tuple #[])) (L.set hh ⟨o,T,row bh xs C1⟩)):JP P n w0 W ops k K E L Q:=by
 subst Jq hi
 have h:=pF hp
 intro ac w cX
 have hw:=jB cX h.2.1
 unfold wpOp
 simp only [h.1,hw,cp]
 refine .inl ?_
 unfold Oper.wp
 rw [iO cX (G:= []) (by simp) h.2.2.2.1 h.2.2.2.2]
 simp only [bY] at hz
 have hz2:=iV hz.2
 have N5:L.set hh ⟨o,T,row bh xs sp⟩=L:=zS hL
 unfold clQ at hq
 split at hq
 ·rename_i as ts VC
  split at hq
  ·rename_i x T' has VG
   split at hq
   ·rename_i a' n' pj el hx hT
    split at hq
    ·rename_i t ht
     simp only [iF,dS] at hq
     obtain⟨zv,hzv,ha,rfl,rfl,rfl⟩:=hq
     subst ha
     have ex:ev E [] x= .slice (pa (o.map fun b=>⟨b,0,none⟩) xs.length cap t.size) n' pj:=by simp [ev,hx]
     have h1:(as.map (ev E []))[0]?=some (.slice (pa (o.map fun b=>⟨b,0,none⟩) xs.length cap t.size) n' pj):=by simp [has,ex]
     have Jg:∀w:World,(typeInfo el).run P w= .ok t w:=by intro w;simp [typeInfo,program,Sem.run,ht]
     have ZW:∀w:World,(zeroValue el).run P w= .ok zv w:=by intro w;simp [zeroValue,Jg,hzv]
     by_cases hq0:n'=0
     ·subst hq0
      have hr:(execOp (ev E []) (cV ops k)).run P w= .ok (.value (.tuple #[])) w:=by
       cases Ro:pa (o.map fun b=>(⟨b,0,none⟩:Addr)) xs.length cap t.size<;>
       ·rw [Ro] at h1
        simp [execOp,VC,resolve,invoke,builtin,Builtin.clear_,h1,VG,underlying,program,Sem.run,hT]
      rw [hr,Oper.upon_value]
      have h2:=hk sp rfl
      rw [N5] at h2
      exact h2 _ w (k9 cX h.2.2.1 _)
     ·cases o with
      | none=>have:=(ho rfl).2;omega
      | some b=>
       obtain⟨rk,LA⟩:=xC (by simp)
       have Ro:pa ((some b).map fun b=>(⟨b,0,none⟩:Addr)) xs.length cap t.size=some ⟨b,xs.length*t.size,none⟩:=by
        unfold pa
        rw [ax (by omega)]
        simp [addr_add]
       have hzl:(Builtin.zeroCells zv.cells n').toList.length=n'*t.size:=by
        have:zv.cells.size=t.size:=by simpa using hz2
        simp [Builtin.zeroCells,this]
       have VH:∀v∈(Builtin.zeroCells zv.cells n').toList,il v=true:=by
        intro v hv
        simp only [Builtin.zeroCells,Array.toList_map,dM,Array.toList_range,kG] at hv
        obtain⟨j,hj,rfl⟩:=hv
        have hs:0<zv.cells.size:=by
         rcases rY zv.cells.size with h0 | h0
         ·rw [h0] at hj;simp at hj
         ·exact h0
        have gy:=Nat.mod_lt j hs
        rw [getElem!_pos zv.cells _ gy]
        exact gP.1 hz.1 _ (by simp)
       have hmul:(cap-xs.length)*t.size=(cap-(xs.length+n'))*t.size+n'*t.size:=by
        rw [←Nat.add_mul];congr 1;omega
       have Pj:=gQ hm xs
       obtain⟨w',hr,bn⟩:=lf (P:=P) (Builtin.zeroCells zv.cells n').toList (xs.length*t.size) 0 (row bh xs sp) L w cX.mem hL (by simp only [row,cJ,Pj,hzl,LA];omega) VH
       rw [Ro] at h1
       have xZ:(execOp (ev E []) (cV ops k)).run P w= .ok (.value (.tuple #[])) w':=by
        obtain⟨n',rfl⟩:∃j,n'=j+1:=⟨n'-1,by omega⟩
        simp [execOp,VC,resolve,invoke,builtin,Builtin.clear_,h1,VG,underlying,program,Sem.run,hT,ZW,hr]
       rw [xZ,Oper.upon_value]
       have e1:tS (row bh xs sp) (xs.length*t.size+0) (Builtin.zeroCells zv.cells n').toList=row bh xs (tS sp 0 (Builtin.zeroCells zv.cells n').toList):=by
        unfold row
        rw [show xs.length*t.size+0=(xs.flatMap bh).length+0 from by rw [Pj],rN]
       rw [e1] at bn
       exact hk _ (V8 _ _ _) _ w' (k9 (cX.qG bn) h.2.2.1 _)
    ·cases hq
   ·cases hq
  ·cases hq
 ·cases hq
omit gj in
theorem Wg{S:Type}{o:Option Nat}{xs ys:List S}{l cap m c:Nat}{j:Int}{x:S}(ho:o=none→xs= []∧c=0)(hy:xs= []→ys= [])(hx:ix ys j=some x):
  pa (o.map fun b=>(⟨b,0,none⟩:Addr)) l cap m=some ⟨aB (pa (o.map fun b=>⟨b,0,none⟩) l cap m),aO (pa (o.map fun b=>⟨b,0,none⟩) l cap m),none⟩:=by
 cases o with
 | none=>
  have:=hy (ho rfl).1
  subst this
  have:=(jN hx).2.2
  simp at this
 | some b=>
  unfold pa
  split
  ·rfl
  ·simp only [kE,addr_add];rfl
omit gj in
theorem LW{S:Type}{o:Option Nat}{xs:List S}{l cap m c:Nat}{j:Int}{x:S}(ho:o=none→xs= []∧c=0)(hx:ix (xs.drop l) j=some x):
  pa (o.map fun b=>(⟨b,0,none⟩:Addr)) l cap m=some ⟨aB (pa (o.map fun b=>⟨b,0,none⟩) l cap m),aO (pa (o.map fun b=>⟨b,0,none⟩) l cap m),none⟩:=
 Wg ho (fun e=>by rw [e];simp) hx
theorem aaa{S:Type}{K:Act→World→Prop}{k:Nat}{hh:Nat}{o:Option Nat}{T:TypeId}{bh:S→List Value}{xs:List S}{sp:List Value}(i:Nat)(hL:L[hh]?=some ⟨o,T,row bh xs sp⟩)
  (h:JP P n w0 W ops k K E (L.set hh ⟨o,T,row bh (xs.take i) ((xs.drop i).flatMap bh++sp)⟩) Q):JP P n w0 W ops k K E L Q:=by
 rw [←N4,zS hL] at h
 exact h
omit gj in
theorem C5{S:Type}{bh:S→List Value}{m:Nat}(hm:∀x,(bh x).length=m){o:Option Nat}{xs:List S}{n cap i:Nat}{sp:List Value}(hi:i≤xs.length)(hn:xs.length=n)
  (hs:o≠none→n≤cap∧sp.length=(cap-n)*m):o≠none→i≤cap∧((xs.drop i).flatMap bh++sp).length=(cap-i)*m:=by
 intro e
 obtain⟨h1,h2⟩:=hs e
 rw [cJ,gQ hm,h2,iu,←Nat.add_mul]
 exact⟨by omega,by congr 1;omega⟩
omit gj in
theorem LX{S:Type}{o:Option Nat}{xs:List S}{c:Nat}(i:Nat)(h:o=none→xs= []∧c=0):o=none→xs.take i= []∧c=0:=
 fun e=>⟨by rw [(h e).1];simp,(h e).2⟩
theorem C6{S:Type}{K:Act→World→Prop}{k:Nat}(T:TypeId)(bh:S→List Value)(h:JP P n w0 W ops k K E (L++ [⟨none,T,row bh [] []⟩]) Q):JP P n w0 W ops k K E L Q:=
 fun a w cX=>h a w (cX.qG (cX.mem.Jl T))
omit gj in
theorem LY{S:Type}{w:World}{a:Option Addr}{m:Nat}{bh:S→List Value}{xs:List S}(h:Rw w a m bh xs)(ha:a=none):xs= []:=by
 by_cases hx:xs= []
 ·exact hx
 ·have:=(h.spot hx).1
  rw [ha] at this
  cases this
omit gj in
theorem LZ{P:Program}(d:Nat)(el:TypeId)(kk:IntKind)(he:P.underlying el=some (.int kk))(ha:∀w,(isAgg el).run P w= .ok false w)(a b:List Int)(bh:Int→List Value)(HU:∀x,bh x= [.int kk x]):
  ∀(m s:Nat) (w:World),s+m=a.length→s+m=b.length→
  (forIn (List.range' s m 1) ((none,()):Option Bool×Unit) (fun i _=>do
   let x←part el (row bh a []).toArray (i*1)
   let y←part el (row bh b []).toArray (i*1)
   let r←Op.equalIn (d+1) el x y
   if(!r)=true then pure (ForInStep.done (some false,())) else pure (ForInStep.yield (none,()))):Sem (Option Bool×Unit)).run P w= .ok (if a.drop s==b.drop s then(none,()) else(some false,())) w:=by
 have Cg:∀(l:List Int) (i:Nat) (h:i<l.length),(row bh l []).toArray[i*1]?=some (.int kk l[i]):=by
  intro l i h
  have:=kH (bh:=bh) (m:=1) (fun x=>by rw [HU];rfl) l i l[i] (bM h) 0 (.int kk l[i]) (by rw [HU];rfl)
  unfold row
  rw [gz,wo]
  simpa using this
 intro m
 induction m with
 | zero=>
  intro s w h1 h2
  rw [mR (by omega),mR (by omega)]
  simp
 | succ m ih=>
  intro s w h1 h2
  have rk:s<a.length:=by omega
  have LA:s<b.length:=by omega
  have p1:(part el (row bh a []).toArray (s*1)).run P w= .ok (.int kk a[s]) w:=by
   simp only [part,Sem.run_bind,ha,Result.andThen_ok,cM,bU,Cg a s rk,Sem.run_pure]
  have p2:(part el (row bh b []).toArray (s*1)).run P w= .ok (.int kk b[s]) w:=by
   simp only [part,Sem.run_bind,ha,Result.andThen_ok,cM,bU,Cg b s LA,Sem.run_pure]
  have p3:(Op.equalIn (d+1) el (.int kk a[s]) (.int kk b[s])).run P w= .ok (a[s]==b[s]) w:=run_equalIn_int w d el kk kk _ _ he
  rw [List.range'_succ,List.forIn_cons]
  simp only [Sem.run_bind,p1,p2,p3,Result.andThen_ok]
  rw [qq rk,qq LA]
  by_cases e:a[s]=b[s]
  ·have e2:(a[s]==b[s])=true:=by simpa using e
   simp only [e2,jv,cM,bU,Sem.run_pure,Result.andThen_ok]
   rw [ih (s+1) w (by omega) (by omega)]
   congr 1
   rw [List.cons_beq_cons,e2,mS]
  ·have e2:(a[s]==b[s])=false:=by simpa using e
   simp only [e2,oF,cp,Sem.run_pure,Result.andThen_ok]
   congr 1
   rw [List.cons_beq_cons,e2,Bool.false_and]
   rfl
omit gj in
theorem Ch{P:Program}(d:Nat)(t el:TypeId)(N:Nat)(kk:IntKind)(ht:P.underlying t=some (.array N el))(he:P.underlying el=some (.int kk))(hs:∀w,(sizeOf el).run P w= .ok 1 w)(ha:∀w,(isAgg el).run P w= .ok false w)(a b:av N Int)(bh:Int→List Value)(HU:∀x,bh x= [.int kk x])(w:World):
  (Op.equalIn (d+2) t (.agg (row bh a.1 []).toArray) (.agg (row bh b.1 []).toArray)).run P w= .ok (a.1==b.1) w:=by
 rw [Op.equalIn]
 simp only [Sem.run_bind,run_underlying ht,Result.andThen_ok,hs]
 have:=LZ d el kk he ha a.1 b.1 bh HU N 0 w (by rw [a.2];omega) (by rw [b.2];omega)
 simp only [List.drop_zero] at this
 rw [Std.Legacy.Range.forIn_eq_forIn_range']
 simp only [Std.Legacy.Range.size,Nat.sub_zero,Nat.add_sub_cancel,Nat.div_one]
 rw [this]
 cases (a.1==b.1)<;>simp
def acz(P:Program)(E:Env):Op→Option (Bool×TypeId×Array Value×Array Value)
 | .binOp .eql t x y _=>match nc E [] x,nc E [] y with
  | some (.agg xs),some (.agg ys)=>bif P.eqGuardType P.depth t then none else some (false,t,xs,ys)
  | _,_=>none
 | .binOp .neq t x y _=>match nc E [] x,nc E [] y with
  | some (.agg xs),some (.agg ys)=>bif P.eqGuardType P.depth t then none else some (true,t,xs,ys)
  | _,_=>none
 | _=>none
theorem acA{K:Act→World→Prop}{k:Nat}(m:Nat)(ng:Bool)(t el:TypeId)(N:Nat)(kk:IntKind)(bh:Int→List Value)(a b:av N Int)(hp:pl n ops k m E=pr n ops k m E)
  (hq:acz P E (cV ops k).op=some (ng,t,(row bh a.1 []).toArray,(row bh b.1 []).toArray)) (ht:P.underlying t=some (.array N el)) (he:P.underlying el=some (.int kk)) (hs:∀w,(sizeOf el).run P w= .ok 1 w) (ha:∀w,(isAgg el).run P w= .ok false w) (HU:∀x,bh x= [.int kk x])
  (v:Bool) (hv:(if ng=true then !(a.1==b.1) else a.1==b.1)=v)
  (hk:JK n w0 W K (ic E (cV ops k) (.bool v)) L):JP P n w0 W ops k K E L Q:=
 NR m hp _ (fun w hm=>by
  subst hv
  have hr:=Ch 9998 t el N kk ht he hs ha a b bh HU w
  unfold acz at hq
  split at hq
  ·rename_i T x y yt ho
   split at hq
   ·rename_i xs ys hx hy
    cases hg:P.eqGuardType P.depth T with
    | true=>rw [hg] at hq;simp at hq
    | false=>
     rw [hg] at hq
     simp only [jL,cx,dS] at hq
     obtain⟨rfl,rfl,rfl,rfl⟩:=hq
     have ex:ev E [] x= .agg (row bh a.1 []).toArray:=by simp [ev,hx]
     have ey:ev E [] y= .agg (row bh b.1 []).toArray:=by simp [ev,hy]
     simp only [execOp,ho,ex,ey,Sem.run_bind,run_eqGuard_agg (P:=P) w .eql T x y _ _ hg,Result.andThen_ok,run_eql_struct (P:=P) w T _ _,hr]
     rfl
   ·cases hq
  ·rename_i T x y yt ho
   split at hq
   ·rename_i xs ys hx hy
    cases hg:P.eqGuardType P.depth T with
    | true=>rw [hg] at hq;simp at hq
    | false=>
     rw [hg] at hq
     simp only [jL,cx,dS] at hq
     obtain⟨rfl,rfl,rfl,rfl⟩:=hq
     have ex:ev E [] x= .agg (row bh a.1 []).toArray:=by simp [ev,hx]
     have ey:ev E [] y= .agg (row bh b.1 []).toArray:=by simp [ev,hy]
     simp only [execOp,ho,ex,ey,Sem.run_bind,run_eqGuard_agg (P:=P) w .neq T x y _ _ hg,Result.andThen_ok,run_neq_struct (P:=P) w T _ _,hr]
     rfl
   ·cases hq
  ·cases hq) hk
end rules2
section rules3
variable {P:Program} {n:Nat} {w0:World} {W:List Nat} {Q:Exit→Act→World→Prop} {E:Env} {L:List dJ} {ops:Array Oper}
structure Hd where
 a:Option Addr
 n:Nat
 c:Nat
def dZ(h:Hd):List Value:= [.slice h.a h.n h.c]
omit gj in
theorem fe(h:Hd):(dZ h).length=1:=rfl
omit gj in
theorem nI(h:Hd):(dZ h).all il=true:=rfl
def hd(hs:List Hd)(j:Int):Hd:=(hs[j.toNat]?).getD ⟨none,0,0⟩
def r8{S:Type}(w:World)(B:List Nat)(m:Nat)(bh:S→List Value)(hs:List Hd)(iG:List (List S)):Prop:=
 ∀(i:Nat) (xs:List S),iG[i]?=some xs→∃h,hs[i]?=some h∧Rw w h.a m bh xs∧xs.length=h.n∧(xs≠ []→aB h.a∉B)
omit gj in
theorem r8.Ci{S:Type}{w:World}{B:List Nat}{m:Nat}{bh:S→List Value}{hs:List Hd}{iG:List (List S)}{j:Int}{x:List S}(h:r8 w B m bh hs iG)(hx:ix iG j=some x):ix hs j=some (hd hs j):=by
 obtain⟨h0,h1,h2⟩:=jN hx
 obtain⟨y,hy,_⟩:=h _ _ h2
 unfold ix
 rw [ak h0,hy]
 simp [hd,hy]
omit gj in
theorem r8.get{S:Type}{w:World}{B:List Nat}{m:Nat}{bh:S→List Value}{hs:List Hd}{iG:List (List S)}{j:Int}{x:List S}(h:r8 w B m bh hs iG)(hx:ix iG j=some x):
  Rw w (hd hs j).a m bh x∧x.length=(hd hs j).n∧(x≠ []→aB (hd hs j).a∉B):=by
 obtain⟨h0,h1,h2⟩:=jN hx
 obtain⟨y,hy,h3⟩:=h _ _ h2
 simpa [hd,hy] using h3
omit gj in
theorem r8.nil{S:Type}{w:World}{B:List Nat}{m:Nat}{bh:S→List Value}:r8 w B m bh [] ([]:List (List S)):=by intro i xs h;simp at h
omit gj in
theorem r8.cons{S:Type}{w:World}{B:List Nat}{m:Nat}{bh:S→List Value}{hs:List Hd}{iG:List (List S)}{h:Hd}{x:List S}(h1:Rw w h.a m bh x)(h2:x.length=h.n)(h3:x≠ []→aB h.a∉B)(h4:r8 w B m bh hs iG):
  r8 w B m bh (h::hs) (x::iG):=by
 intro i xs hi
 cases i with
 | zero=>simp at hi;subst hi;exact⟨h,rfl,h1,h2,h3⟩
 | succ i=>simpa using h4 i xs (by simpa using hi)
theorem Mem.Wh{S:Type}{w:World}(h:Mem w0 W L w){m:Nat}{bh:S→List Value}{hs:List Hd}{iG:List (List S)}(hi:r8 w0 W m bh hs iG)(l:List Nat){N:List dJ}(hN:at_ L l=N):
  r8 w (bs (N.map dJ.b)) m bh hs iG:=by
 intro i xs hx
 obtain⟨y,hy,h1,h2,h3⟩:=hi i xs hx
 exact⟨y,hy,h.aM h1 h3,h2,h.N0 h1 h3 l hN⟩
omit gj in
theorem Rw.Rp{S:Type}{w:World}{a:Option Addr}{m M N:Nat}{bh:S→List Value}{lQ:av N S→List Value}{xs:List (av N S)}{x:av N S}{j:Int}(hr:Rw w a M lQ xs)(he:∀y,lQ y=row bh y.1 [])
  (hm:∀x,(bh x).length=m) (hx:ix xs j=some x):Rw w (some ⟨aB a,aO a+j.toNat*M,none⟩) m bh x.1:=by
 obtain⟨h0,h1,h2⟩:=jN hx
 have jR:xs≠ []:=by rintro rfl;simp at h2
 refine⟨fun _=>⟨rfl,(hr.spot jR).2⟩,?_⟩
 intro k y hk i v hv
 have h3:=hr.cell j.toNat x h2
 rw [he] at h3
 have h4:=kH hm x.1 k y hk i v hv
 have:=h3 (k*m+i) v (by simpa [row] using h4)
 simpa [aB,aO,nF] using this
omit gj in
theorem Yv{S:Type}{xs:List S}{j:Int}{x:S}(hx:ix xs j=some x):xs≠ []:=by
 rintro rfl
 obtain⟨_,_,h2⟩:=jN hx
 simp at h2
omit gj in
theorem Wi{S:Type}{w:World}{b m:Nat}{bh:S→List Value}(hm:∀x,(bh x).length=m):∀(xs:List S) (off:Nat),(∀j x,xs[j]?=some x→At w b (off+j*m) (bh x))→At w b off (xs.flatMap bh):=by
 intro xs
 induction xs with
 | nil=>intro off _ i v hv;simp at hv
 | cons x xs ih=>
  intro off h i v hv
  rw [oB] at hv
  rcases jw i m with hi | hi
  ·rw [mQ (by rw [hm];exact hi)] at hv
   have:=h 0 x rfl i v hv
   simpa using this
  ·rw [nB (by rw [hm];exact hi),hm] at hv
   have h1:=ih (off+m) (fun j y hj=>by
    have:=h (j+1) y (by simpa using hj)
    rwa [lN,show off+(j*m+m)=off+m+j*m from by omega] at this) (i-m) v hv
   rwa [show off+m+(i-m)=off+i from by omega] at h1
omit gj in
theorem Rw.all{S:Type}{w:World}{a:Option Addr}{m:Nat}{bh:S→List Value}{xs:List S}(h:Rw w a m bh xs)(hm:∀x,(bh x).length=m):At w (aB a) (aO a) (row bh xs []):=by
 have:=Wi hm xs (aO a) (fun j x hj=>h.cell j x hj)
 simpa [row] using this
end rules3
section short
variable {P:Program} {n:Nat} {w0:World} {W:List Nat} {Q:Exit→Act→World→Prop} {E:Env} {L:List dJ} {ops:Array Oper}
theorem Mem.pk{w:World}(h:Mem w0 W L w)(l:List Nat){N:List dJ}(hr:nd l=true:=by kernel_rfl)(hN:at_ L l=N:=by kernel_rfl):Mem w0 W N w:=h.pick l hr hN
theorem Mem.xr{S:Type}{w:World}(h:Mem w0 [] L w){a:Option Addr}{m:Nat}{bh:S→List Value}{xs:List S}(hr:Rw w0 a m bh xs):Rw w a m bh xs:=h.GH hr cq
theorem Mem.ow{S:Type}{w:World}(h:Mem w0 W L w)(hh:Nat)(o:Option Nat)(T:TypeId){bh:S→List Value}(xs:List S)(sp:List Value)(ho:o=none→xs= []){m:Nat}(hm:∀x,(bh x).length=m)
  (hx:L[hh]?=some ⟨o,T,row bh xs sp⟩:=by kernel_rfl):Rw w (o.map fun b=>⟨b,0,none⟩) m bh xs:=h.ownRow hx ho hm
theorem qh(hs:List Nat){k:Nat}(h:JO P n w0 W ops (k+(hs.map fun x=>(x,0)).length) (gE (chunk P n ops L (steps k (hs.map fun x=>(x,0))) E)) L Q)
  (hz:cl (chunk P n ops L (steps k (hs.map fun x=>(x,0))) E)=cr (chunk P n ops L (steps k (hs.map fun x=>(x,0))) E):=by kernel_rfl):JO P n w0 W ops k E L Q:=acb _ hz h
theorem qf(l:List (Nat×Nat)){k:Nat}(h:JO P n w0 W ops (k+l.length) (gE (chunk P n ops L (steps k l) E)) L Q)
  (hz:cl (chunk P n ops L (steps k l) E)=cr (chunk P n ops L (steps k l) E):=by kernel_rfl):JO P n w0 W ops k E L Q:=acb _ hz h
theorem qe{k:Nat}(h:JX n w0 W .normal E L Q)(hk:ops.size=k:=by kernel_rfl):JO P n w0 W ops k E L Q:=ZN hk h
theorem tO{k:Nat}(h:JP P n w0 W ops k (wpOps P ops Q ((List.range ops.size).drop (k+1))) E L Q)(hk:Nat.blt k ops.size=true:=by kernel_rfl):JO P n w0 W ops k E L Q:=toO hk h
theorem qs{K:Act→World→Prop}{k:Nat}(m:Nat)(hs:List Nat)(hk:JK n w0 W K (mE (zJ P E L (cV ops k) none hs)) (mL (zJ P E L (cV ops k) none hs)))
  (hp:pl n ops k m E=pr n ops k m E:=by kernel_rfl) (hc:ml (zJ P E L (cV ops k) none hs)=mr (zJ P E L (cV ops k) none hs):=by kernel_rfl):JP P n w0 W ops k K E L Q:=p_s m hs hp hc hk
theorem qa{K:Act→World→Prop}{k:Nat}(m:Nat)(hk:∀b,JK n w0 W K (mE (zJ P E L (cV ops k) (some b) [0])) (mL (zJ P E L (cV ops k) (some b) [0])))
  (hp:pl n ops k m E=pr n ops k m E:=by kernel_rfl) (hc:∀b,ml (zJ P E L (cV ops k) (some b) [0])=mr (zJ P E L (cV ops k) (some b) [0]):=by intro b;kernel_rfl):JP P n w0 W ops k K E L Q:=p_a m [0] hp hc hk
theorem pc{K:Act→World→Prop}{k:Nat}(m:Nat){f:FuncId}{args:Array Value}{R:World→Value→World→Prop}(hc:∀w,Mem w0 W L w→Calls P f args w fun e w'=>∃v,e= .returned v∧R w v w')
  (hK:∀w v w',Mem w0 W L w→R w v w'→∃L',Mem w0 W L' w'∧JK n w0 W K (ic E (cV ops k) v) L') (hp:pl n ops k m E=pr n ops k m E:=by kernel_rfl)
  (hx:wq P [] (execOp (ev E []) (cV ops k)) []=some (.enter f args,[]):=by kernel_rfl):JP P n w0 W ops k K E L Q:=ZS m f args hp hx hc hK
theorem qx{K:Act→World→Prop}{S:Type}{xs:List S}{x:S}{k:Nat}(m:Nat)(a:Option Addr){len:Nat}{j:Int}(s:Nat)(hx:ix xs j=some x)(hn:xs.length=len)(ha:a=some ⟨aB a,aO a,none⟩)
  (hk:JK n w0 W K (ic E (cV ops k) (.pointer (some ⟨aB a,aO a+j.toNat*s,none⟩))) L) (hp:pl n ops k m E=pr n ops k m E:=by kernel_rfl) (hq:Pe P E (cV ops k).op=some (a,len,j,s):=by kernel_rfl):JP P n w0 W ops k K E L Q:=
 ace m a len j s hp hq (jN hx).1 (ltn hx hn) ha hk
theorem ql{K:Act→World→Prop}{k:Nat}(m:Nat){b off:Nat}(agg:Bool){vs:List Value}(h:∀w,Mem w0 W L w→At w b off vs)(hk:JK n w0 W K (ic E (cV ops k) (ZU agg vs)) L)
  (hp:pl n ops k m E=pr n ops k m E:=by kernel_rfl) (hq:VE P E (cV ops k).op=some (b,off,agg,vs.length):=by kernel_rfl) (h1:(agg || Nat.beq vs.length 1)=true:=by kernel_rfl):JP P n w0 W ops k K E L Q:=
 ag9 m b off agg vs hp hq h1 h hk
theorem qv [Jc Q]{Ls:List dJ}{done:List Nat}{gg:Nat}(k m:Nat)(l:List Nat){v:Value}(hv:∀w,Mem w0 W Ls w→(execOp (ev E []) (cV ops k)).run P w= .ok (.value v) w)
  (h:JD P n w0 W ops Ls (k::done) gg (ic E (cV ops k) v) L Q) (AY:Region.noSelect ops=true:=by kernel_rfl) (hr:nd l=true:=by kernel_rfl) (hN:at_ L l=Ls:=by kernel_rfl)
  (hd:(Region.free .any ops (listed ops done) k&&(Region.ready .any ops (listed ops done)).contains k)=true:=by kernel_rfl) (hp:pl n ops k m E=pr n ops k m E:=by kernel_rfl):JD P n w0 W ops Ls done (gg+1) E L Q:=
 ahe k m AY (fun w h=>h.pick l hr hN) hd hp v hv h
theorem qd [Jc Q]{Ls:List dJ}{done:List Nat}{N:Nat}(l:List St)(gg:Nat)(pk:List Nat)(h:JD P n w0 W ops Ls ((l.map St.i).reverse++done) gg (gE (chunk P n ops Ls l E)) L Q)
  (hf:gg+l.length=N:=by kernel_rfl) (AY:Region.noSelect ops=true:=by kernel_rfl) (hr:nd pk=true:=by kernel_rfl) (hN:at_ L pk=Ls:=by kernel_rfl)
  (hd:C2 ops done l=true:=by kernel_rfl) (hc:cl (chunk P n ops Ls l E)=cr (chunk P n ops Ls l E):=by kernel_rfl):JD P n w0 W ops Ls done N E L Q:=
 ahd l gg hf AY (fun w h=>h.pick pk hr hN) hd hc h
theorem kD{Ls:List dJ}{done:List Nat}{gg k:Nat}(l:List Nat)(h:JD P n w0 W ops Ls (k::done) gg E L Q)(hr:nd l=true:=by kernel_rfl)(hN:at_ L l=Ls:=by kernel_rfl):JK n w0 W (KD P w0 W ops Q Ls done gg k) E L:=
 jkD (fun w h=>h.pick l hr hN) h
theorem qg{id:Nat}(Ls:List dJ)(N:Nat)(h:JD P n w0 W ops Ls [] N E L Q)(hm:P.follows .mixedOrders=true:=by kernel_rfl)(hN:ops.size=N:=by kernel_rfl):JC P n w0 W (.region id ops true) E L Q:=Wb Ls N hm hN h
theorem tD{Ls:List dJ}{done:List Nat}{gg:Nat}(k:Nat)(h:JP P n w0 W ops k (KD P w0 W ops Q Ls done gg k) E L Q)(hr:Region.ready .any ops (listed ops done)= [k]:=by kernel_rfl):JD P n w0 W ops Ls done (gg+1) E L Q:=toD k hr h
theorem qz{Ls:List dJ}{done:List Nat}{gg:Nat}(h:JX n w0 W .normal E L Q)(hr:Region.ready .any ops (listed ops done)= []:=by kernel_rfl):JD P n w0 W ops Ls done gg E L Q:=ZZ hr h
theorem qi{β:Type}{u v:Option β}{r:β}{b:Bool}{c:Operand}{x y:Code}(h:(if b=true then u else v)=some r)(ht:u=some r→JC P n w0 W x E L Q)(hf:v=some r→JC P n w0 W y E L Q)
  (hb:nc E [] c=some (.bool b):=by kernel_rfl):JC P n w0 W (.cond c x y) E L Q:=NP b hb (fun hc=>ht (yi hc h)) (fun hc=>hf (yj hc h))
theorem qp{β:Type}{u v:Option β}{r:β}{b:Bool}{k:Nat}(d:Nat)(h:(if b=true then u else v)=some r)(ht:u=some r→JO P n w0 W ops k ((d,[], .bool true)::qF d true E) L Q)(hf:v=some r→JO P n w0 W ops k ((d,[], .bool false)::qF d false E) L Q)
  (hb:nc E [] (.tmp d)=some (.bool b):=by kernel_rfl):JO P n w0 W ops k E L Q:=Ra d b hb (fun hc=>ht (yi hc h)) (fun hc=>hf (yj hc h))
theorem qm{J:Type}{I:J→Prop}{Ej:J→Env}{Lj:J→List dJ}(j:J)(hi:I j)(l:List Nat)(hE:(Ej j).map (fun e=>lk E e.1)=(Ej j).map (fun e=>some e.2):=by kernel_rfl)(hr:nd l=true:=by kernel_rfl)
  (hL:at_ L l=Lj j:=by kernel_rfl):JX n w0 W .normal E L (Exit.then (fun a w=>∃j,I j∧Ok n w0 W (Ej j) (Lj j) a w) Q):=We j hi hE l hr hL
theorem qb{S X T:Type}{I:S→X→Prop}{Es:S→X→Env}{Ls:S→X→List dJ}{t:T}{y:S⊕T}(s:S)(x:X)(hy:some (Sum.inl s)=some y)(hi:I s x)(l:List Nat)(hr:nd l=true:=by kernel_rfl)
  (hE:(Es s x).map (fun e=>lk E e.1)=(Es s x).map (fun e=>some e.2):=by kernel_rfl) (hL:at_ L l=Ls s x:=by kernel_rfl):JX n w0 W .normal E L (LQ n w0 W I Es Ls t Q y):=Wc s x (e9 hy).symm hi l hr hE hL
def rS(o:Option (List Value×List (Nat×Nat))):Option (Value×List Nat):=match o with
 | some r=>some (one r.1,r.2.map (·.1))
 | none=>none
def rT(v:Value)(o:Option (List Value×List (Nat×Nat))):Option (Value×List Nat):=match o with
 | some r=>some (v,r.2.map (·.2))
 | none=>some (v,[])
theorem qr{fn:Func}{R:Value→World→Prop}{rs:List ResultVar}(hs:List Nat){v:Value}(hR:∀w,Mem w0 W L w→R v w)(Q9:fn.results.toList=rs:=by rfl)
  (hr:rS (AX P L E rs hs)=rT v (AX P L E rs hs):=by kernel_rfl):JX n w0 W .ret E L (QB P fn R):=by
 cases hf:AX P L E rs hs with
 | none=>rw [hf] at hr;cases hr
 | some q=>
  rw [hf] at hr
  simp only [rS,rT,cx,dS] at hr
  exact ZQ hs v q.2 Q9 (by rw [hf];simp only [kE,hr.1]) hr.2 hR
abbrev vI(x:Int):Value:= .int .i64 x
abbrev vH(x:Int):Value:= .int .i16 x
abbrev vB(x:Int):Value:= .int .i8 x
abbrev vU(x:Int):Value:= .int .u32 x
abbrev vP(b:Nat):Value:= .pointer (some ⟨b,0,none⟩)
abbrev mB(o:Option Nat):Option Addr:=o.map fun b=>⟨b,0,none⟩
abbrev sB(b:Nat):Option Addr:=some ⟨b,0,none⟩
abbrev hS(o:Option Nat)(n c:Nat)(sp:List Value)(k:Nat):Prop:=o≠none→n≤c∧sp.length=(c-n)*k
abbrev hO{S:Type}(o:Option Nat)(xs:List S)(c:Nat):Prop:=o=none→xs= []∧c=0
theorem si{α:Type}{a b:α}(h:some a=some b):a=b:=e9 h
theorem sj{α:Type}{a b:α}(h:some a=some b):b=a:=(e9 h).symm
theorem qX [Jc Q]{S:Type}{xs:List S}{x:S}{Ls:List dJ}{done:List Nat}{gg:Nat}(k m:Nat)(l:List Nat)(a:Option Addr){len:Nat}{j:Int}(s:Nat)(hx:ix xs j=some x)(hn:xs.length=len)(ha:a=some ⟨aB a,aO a,none⟩)
  (h:JD P n w0 W ops Ls (k::done) gg (ic E (cV ops k) (.pointer (some ⟨aB a,aO a+j.toNat*s,none⟩))) L Q) (hq:Pe P E (cV ops k).op=some (a,len,j,s):=by kernel_rfl) (AY:Region.noSelect ops=true:=by kernel_rfl)
  (hr:nd l=true:=by kernel_rfl) (hN:at_ L l=Ls:=by kernel_rfl) (hd:(Region.free .any ops (listed ops done) k&&(Region.ready .any ops (listed ops done)).contains k)=true:=by kernel_rfl)
  (hp:pl n ops k m E=pr n ops k m E:=by kernel_rfl):JD P n w0 W ops Ls done (gg+1) E L Q:=
 qv k m l (fun _ _=>NS hq (jN hx).1 (ltn hx hn) ha) h AY hr hN hd hp
theorem qL [Jc Q]{Ls:List dJ}{done:List Nat}{gg:Nat}(k m:Nat)(l:List Nat){b off:Nat}(agg:Bool){vs:List Value}(hv:∀w,Mem w0 W Ls w→At w b off vs)
  (h:JD P n w0 W ops Ls (k::done) gg (ic E (cV ops k) (ZU agg vs)) L Q) (hq:VE P E (cV ops k).op=some (b,off,agg,vs.length):=by kernel_rfl) (h1:(agg || Nat.beq vs.length 1)=true:=by kernel_rfl)
  (AY:Region.noSelect ops=true:=by kernel_rfl) (hr:nd l=true:=by kernel_rfl) (hN:at_ L l=Ls:=by kernel_rfl)
  (hd:(Region.free .any ops (listed ops done) k&&(Region.ready .any ops (listed ops done)).contains k)=true:=by kernel_rfl) (hp:pl n ops k m E=pr n ops k m E:=by kernel_rfl):JD P n w0 W ops Ls done (gg+1) E L Q:=
 qv k m l (fun w hm=>jM hq rfl (by cases agg with | true=>exact .inl rfl | false=>exact .inr (iV h1)) (hv w hm)) h AY hr hN hd hp
theorem en{f:FuncId}{fn:Func}{c:Code}{args:List Value}{w:World}{R:Value→World→Prop}(hf:P.funcs[f]?=some fn)(hb:fn.body=some c)(hn:fn.ntmps=n)(h: @JC _ AW P n w [] c (Je 0 args) [] (@QB AW P fn R))
  (hle:Nat.ble args.length n=true:=by kernel_rfl):Calls P f args.toArray w fun e w'=>∃v,e= .returned v∧R v w':=enter hf hb hn hle (Mem.start w) h
theorem pq{K:Act→World→Prop}{k:Nat}(m:Nat){f:FuncId}{args:Array Value}{V:Value}{N:List dJ}(hc:∀w,Mem w0 W L w→Calls P f args w fun e w'=>∃v,e= .returned v∧(v=V∧Mem w [] N w'))
  (hk:JK n w0 W K (ic E (cV ops k) V) (L++N)) (hp:pl n ops k m E=pr n ops k m E:=by kernel_rfl) (hx:wq P [] (execOp (ev E []) (cV ops k)) []=some (.enter f args,[]):=by kernel_rfl):JP P n w0 W ops k K E L Q:=
 pc m hc (fun _ _ _ hm h=>⟨_,hm.app h.2,h.1▸hk⟩) hp hx
theorem aq{K:Act→World→Prop}{w w':World}{N:List dJ}(hm:Mem w0 W L w)(bn:Mem w [] N w')(hk:JK n w0 W K E (L++N)):∃L',Mem w0 W L' w'∧JK n w0 W K E L':=⟨_,hm.app bn,hk⟩
theorem Mem.ps{w:World}(h:Mem w0 W L w)(l:List Nat){N:List dJ}{V:List Nat}(hn:nd l=true:=by kernel_rfl)(hN:at_ L l=N:=by kernel_rfl)(hV:bs (N.map dJ.b)=V:=by kernel_rfl)(hz:Q4 N=true:=by kernel_rfl):Mem w V N w:=
 hV▸h.pass l hn hN hz
theorem Mem.xp{S:Type}{w:World}(h:Mem w0 W L w){a:Option Addr}{m:Nat}{bh:S→List Value}{xs:List S}(hr:Rw w0 a m bh xs)(hW:xs≠ []→aB a∉W)(l:List Nat){V:List Nat}(hV:bs ((at_ L l).map dJ.b)=V:=by kernel_rfl):
  xs≠ []→aB a∉V:=hV▸h.N0 hr hW l rfl
theorem Mem.oa{S:Type}{w:World}(h:Mem w0 W L w)(hh:Nat)(o:Option Nat){xs:List S}(ho:o=none→xs= [])(l:List Nat){V:List Nat}(hx:(L[hh]?).map dJ.b=some o:=by kernel_rfl)(hl:l.any (Nat.beq hh)=false:=by kernel_rfl)
  (hV:bs ((at_ L l).map dJ.b)=V:=by kernel_rfl):xs≠ []→aB (o.map fun b=>⟨b,0,none⟩)∉V:=by
 cases hL:L[hh]? with
 | none=>rw [hL] at hx;cases hx
 | some y=>
  rw [hL] at hx
  obtain⟨yb,yT,yc⟩:=y
  obtain rfl:yb=o:=e9 hx
  exact hV▸h.Rn hL ho l hl rfl
theorem Mem.ip{S:Type}{w:World}(h:Mem w0 W L w){m:Nat}{bh:S→List Value}{hs:List Hd}{iG:List (List S)}(hi:r8 w0 W m bh hs iG)(l:List Nat){V:List Nat}(hV:bs ((at_ L l).map dJ.b)=V:=by kernel_rfl):
  r8 w V m bh hs iG:=hV▸h.Wh hi l rfl
theorem Mem.aw{w w':World}{V:List Nat}{M:List dJ}(h:Mem w0 W L w)(is:List Nat)(h':Mem w V M w')(hM:(is.zip (M.take is.length)).map (·.2)++M.drop is.length=M:=by kernel_rfl)
  (hV:bs ((is.zip (M.take is.length)).map (·.2.b))=V:=by kernel_rfl) (hi:(is.zip (M.take is.length)).map (fun p=>(L[p.1]?).map dJ.b)=(is.zip (M.take is.length)).map (fun p=>some p.2.b):=by kernel_rfl)
  (hn:nd ((is.zip (M.take is.length)).map (·.1))=true:=by kernel_rfl):Mem w0 W (AZ L (is.zip (M.take is.length))++M.drop is.length) w':=by
 refine h.acn (ps:=is.zip (M.take is.length)) ?_ hi hn
 rw [hM,hV]
 exact h'
theorem pA{K:Act→World→Prop}{S:Type}{k:Nat}(m hh:Nat)(o:Option Nat)(el:TypeId)(sl nn cap size bytes:Nat)(xa:Option Addr)(bh:S→List Value)(xs ys:List S)(sp:List Value)(zv:Value)(Jq:xs.length=sl)(hnn:ys.length=nn)(hm:∀x,(bh x).length=size)(hc:∀x,(bh x).all il=true)(xC:o≠none→sl≤cap∧sp.length=(cap-sl)*size)(ho:o=none→xs= []∧cap=0)(ZY:∀w,Mem w0 W L w→Rw w xa size bh ys)(Ji:xs.length+ys.length≤4294967296)(hk:∀(o':Option Nat) (pj:Nat) (C1:List Value),(o'≠none→(xs++ys).length≤pj∧C1.length=(pj-(xs++ys).length)*size)→(o'=none→xs++ys= []∧pj=0)→JK n w0 W K (ic E (cV ops k) (.slice (o'.map fun b=>⟨b,0,none⟩) (xs++ys).length pj)) (L.set hh ⟨o',el,row bh (xs++ys) C1⟩))(hp:pl n ops k m E=pr n ops k m E:=by kernel_rfl)(hq:Yr P E (cV ops k).op=some (o.map fun b=>⟨b,0,none⟩,sl,cap,xa,nn,el,size,bytes):=by kernel_rfl)(hL:L[hh]?=some ⟨o,el,row bh xs sp⟩:=by kernel_rfl)(hz:(P.info? el).bind (·.zero)=some zv:=by kernel_rfl)(hb:(Nat.ble bytes 4096&&Nat.blt 0 bytes&&Nat.blt 0 size&&Nat.beq zv.cells.size size)=true:=by kernel_rfl):JP P n w0 W ops k K E L Q:=acs m hh o el sl nn cap size bytes xa bh xs ys sp zv Jq hnn hp hq hL hm hc xC ho ZY Ji hz hb hk
theorem pS{K:Act→World→Prop}{S:Type}{N:Nat}{k:Nat}(m hh b sz mm:Nat)(T:TypeId)(bh:S→List Value)(a0 a:av N S)(hm:∀x,(bh x).length=mm)(hc:∀x,(bh x).all il=true)(hk:JK n w0 W K (ic E (cV ops k) undef) (L.set hh ⟨some b,T,row bh a.1 []⟩))(hp:pl n ops k m E=pr n ops k m E:=by kernel_rfl)(hq:Ri P E (cV ops k).op=some (b,0,row bh a.1 [],sz):=by kernel_rfl)(hL:L[hh]?=some ⟨some b,T,row bh a0.1 []⟩:=by kernel_rfl)(hs:Nat.beq (N*mm) sz=true:=by kernel_rfl):JP P n w0 W ops k K E L Q:=ahf m hh b sz mm T bh a0 a hp hq hL hm hc hs hk
theorem pL{K:Act→World→Prop}{S:Type}{N:Nat}{k:Nat}(m hh b sz mm:Nat)(T:TypeId)(bh:S→List Value)(a:av N S)(hm:∀x,(bh x).length=mm)(hk:JK n w0 W K (ic E (cV ops k) (.agg (row bh a.1 []).toArray)) L)(hp:pl n ops k m E=pr n ops k m E:=by kernel_rfl)(hq:VE P E (cV ops k).op=some (b,0,true,sz):=by kernel_rfl)(hL:L[hh]?=some ⟨some b,T,row bh a.1 []⟩:=by kernel_rfl)(hs:Nat.beq (N*mm) sz=true:=by kernel_rfl):JP P n w0 W ops k K E L Q:=ack m hh b sz mm T bh a hp hq hL hm hs hk
theorem pO{K:Act→World→Prop}{S:Type}{k:Nat}{x:S}(m hh:Nat)(o:Option Nat)(T:TypeId)(bh:S→List Value)(xs:List S)(sp:List Value)(j:Int)(y:S)(size f:Nat)(vs:List Value)(ho:o=none→xs= [])(hm:∀x,(bh x).length=size)(hx:ix xs j=some x)(hk:JK n w0 W K (ic E (cV ops k) undef) (L.set hh ⟨o,T,row bh (xs.set j.toNat y) sp⟩))(hp:pl n ops k m E=pr n ops k m E:=by kernel_rfl)(hq:V7 P E (cV ops k).op=some (aB (o.map fun b=>⟨b,0,none⟩),aO (o.map fun b=>⟨b,0,none⟩)+j.toNat*size+f,vs):=by kernel_rfl)(hL:L[hh]?=some ⟨o,T,row bh xs sp⟩:=by kernel_rfl)(hf:Nat.ble (f+vs.length) size=true:=by kernel_rfl)(he:tS (bh x) f vs=bh y:=by kernel_rfl):JP P n w0 W ops k K E L Q:=Z8 m hh o T bh xs sp j y size f vs hp hq hL ho hm hx hf he hk
theorem pT{K:Act→World→Prop}{S:Type}{k:Nat}{x:S}(m hh b:Nat)(T:TypeId)(bh:S→List Value)(xs:List S)(sp:List Value)(j:Int)(y:S)(size f:Nat)(vs:List Value)(hm:∀x,(bh x).length=size)(hx:ix xs j=some x)(hk:JK n w0 W K (ic E (cV ops k) undef) (L.set hh ⟨some b,T,row bh (xs.set j.toNat y) sp⟩))(hp:pl n ops k m E=pr n ops k m E:=by kernel_rfl)(hq:V7 P E (cV ops k).op=some (b,0+j.toNat*size+f,vs):=by kernel_rfl)(hL:L[hh]?=some ⟨some b,T,row bh xs sp⟩:=by kernel_rfl)(hf:Nat.ble (f+vs.length) size=true:=by kernel_rfl)(he:tS (bh x) f vs=bh y:=by kernel_rfl):JP P n w0 W ops k K E L Q:=Yt m hh b T bh xs sp j y size f vs hp hq hL hm hx hf he hk
theorem pV{K:Act→World→Prop}{k:Nat}(m:Nat)(kx:IntKind)(x:Int)(ky:IntKind)(y:Int)(h0:0≤y)(hk:JK n w0 W K (ic E (cV ops k) (.int kx (fo kx x y))) L)(hp:pl n ops k m E=pr n ops k m E:=by kernel_rfl)(hq:HS E (cV ops k).op=some (.shl, .int kx x, .int ky y):=by kernel_rfl):JP P n w0 W ops k K E L Q:=aco m kx x ky y hp hq h0 hk
theorem pW{K:Act→World→Prop}{k:Nat}(m:Nat)(kx:IntKind)(x:Int)(ky:IntKind)(y:Int)(h0:0≤y)(hk:JK n w0 W K (ic E (cV ops k) (.int kx (eC kx x y))) L)(hp:pl n ops k m E=pr n ops k m E:=by kernel_rfl)(hq:HS E (cV ops k).op=some (.shr, .int kx x, .int ky y):=by kernel_rfl):JP P n w0 W ops k K E L Q:=acp m kx x ky y hp hq h0 hk
theorem pM{K:Act→World→Prop}{k:Nat}(m:Nat)(kx:IntKind)(x y:Int)(h0:y≠0)(hk:JK n w0 W K (ic E (cV ops k) (.int kx (Int.tmod x y))) L)(hp:pl n ops k m E=pr n ops k m E:=by kernel_rfl)(hq:HS E (cV ops k).op=some (.rem, .int kx x, .int kx y):=by kernel_rfl):JP P n w0 W ops k K E L Q:=acq m kx x y hp hq h0 hk
theorem pK{K:Act→World→Prop}{k:Nat}(m:Nat)(a:Option Addr)(len cap size:Nat)(l:Int)(h0:0≤l)(h1:l≤len)(hk:JK n w0 W K (ic E (cV ops k) (.slice (pa a l.toNat cap size) (len-l.toNat) (cap-l.toNat))) L)(hp:pl n ops k m E=pr n ops k m E:=by kernel_rfl)(hq:slQ P E (cV ops k).op=some (a,len,cap,some l,none,none,size):=by kernel_rfl):JP P n w0 W ops k K E L Q:=acw m a len cap size l hp hq h0 h1 hk
theorem pX{K:Act→World→Prop}{S:Type}{N:Nat}{k:Nat}{x:S}(m:Nat)(bh:S→List Value)(v:S→Value)(a:av N S)(j:Int)(hv:∀x,bh x= [v x])(hx:ix a.1 j=some x)(hk:JK n w0 W K (ic E (cV ops k) (v x)) L)(hp:pl n ops k m E=pr n ops k m E:=by kernel_rfl)(hq:ixQ P E (cV ops k).op=some ((row bh a.1 []).toArray,N,j):=by kernel_rfl):JP P n w0 W ops k K E L Q:=acr m bh v a j hp hq hv hx hk
theorem pC{K:Act→World→Prop}{S:Type}{k:Nat}(m hh:Nat)(o:Option Nat)(T:TypeId)(i sl q cap size:Nat)(z:List Value)(bh:S→List Value)(xs:List S)(sp:List Value)(Jq:xs.length=sl)(hi:i=sl)(hm:∀x,(bh x).length=size)(xC:o≠none→sl≤cap∧sp.length=(cap-sl)*size)(ho:o=none→xs= []∧cap=0)(vo:sl+q≤cap)(hk:∀C1:List Value,C1.length=sp.length→JK n w0 W K (ic E (cV ops k) (.tuple #[])) (L.set hh ⟨o,T,row bh xs C1⟩))(hp:pl n ops k m E=pr n ops k m E:=by kernel_rfl)(hq:clQ P E (cV ops k).op=some (pa (o.map fun b=>⟨b,0,none⟩) i cap size,q,z,size):=by kernel_rfl)(hL:L[hh]?=some ⟨o,T,row bh xs sp⟩:=by kernel_rfl)(hz:(z.all il&&Nat.beq z.length size)=true:=by kernel_rfl):JP P n w0 W ops k K E L Q:=acy m hh o T i sl q cap size z bh xs sp Jq hi hp hq hL hm hz xC ho vo hk
theorem pN{K:Act→World→Prop}{k:Nat}(m:Nat)(a:Option Addr)(q b:Bool)(hb:(a.isNone==q)=b)(hk:JK n w0 W K (ic E (cV ops k) (.bool b)) L)(hp:pl n ops k m E=pr n ops k m E:=by kernel_rfl)(hq:nlQ E P (cV ops k).op=some (a,q):=by kernel_rfl):JP P n w0 W ops k K E L Q:=acu m a q b hp hq hb hk
theorem js{Ls:List dJ}{done:List Nat}{gg:Nat}(d:Nat)(b:Bool)(ht:b=true→JD P n w0 W ops Ls done gg ((d,[], .bool true)::qF d true E) L Q)(he:b=false→JD P n w0 W ops Ls done gg ((d,[], .bool false)::qF d false E) L Q)(hb:nc E [] (.tmp d)=some (.bool b):=by kernel_rfl):JD P n w0 W ops Ls done gg E L Q:=Rb d b hb ht he
theorem jq{c:Operand}{x y:Code}(b:Bool)(ht:b=true→JC P n w0 W x E L Q)(hf:b=false→JC P n w0 W y E L Q)(hb:nc E [] c=some (.bool b):=by kernel_rfl):JC P n w0 W (.cond c x y) E L Q:=NP b hb ht hf
theorem t2{Ls:List dJ}{done:List Nat}{gg:Nat}(k1 k2:Nat)(h1:JP P n w0 W ops k1 (KD P w0 W ops Q Ls done gg k1) E L Q)(h2:JP P n w0 W ops k2 (KD P w0 W ops Q Ls done gg k2) E L Q)(hr:Region.ready .any ops (listed ops done)= [k1,k2]:=by kernel_rfl):JD P n w0 W ops Ls done (gg+1) E L Q:=ahc k1 k2 hr h1 h2
theorem rt{t:Nat}{v:Value}{rs:List ResultVar}{vs:List Value}(h:RQ P n w0 W E L rs vs)(hv:nc E [] (.tmp t)=some v:=by kernel_rfl):RQ P n w0 W E L (.tmp t::rs) (v::vs):=Z4 hv h
theorem ra{S:Type}{N t b mm hh:Nat}{T T':TypeId}{rs:List ResultVar}{vs:List Value}(bh:S→List Value)(a:av N S)(hm:∀x,(bh x).length=mm)(h:RQ P n w0 W E L rs vs)(hv:nc E [] (.tmp t)=some (.pointer (some ⟨b,0,none⟩)):=by kernel_rfl)(hL:L[hh]?=some ⟨some b,T',row bh a.1 []⟩:=by kernel_rfl)(hT:(match P.underlying T,P.info? T with | some (.array _ _),some i=>Nat.beq i.size (N*mm) | _,_=>false)=true:=by kernel_rfl):RQ P n w0 W E L (.cell t T::rs) (.agg (row bh a.1 []).toArray::vs):=Z5 bh a hv hL hm hT h
theorem jl{S X T:Type}{f:S→Option (S⊕T)}{c:Code}{s:S}{t:T}(I:S→X→Prop)(Es:S→X→Env)(Ls:S→X→List dJ)(xZ:loop f s=some t)(x:X)(hI:I s x)(l:List Nat)(round:∀s x y,I s x→f s=some y→JC P n w0 W c (Es s x) (Ls s x) (LQ n w0 W I Es Ls t Q y))(hE:(Es s x).map (fun e=>lk E e.1)=(Es s x).map (fun e=>some e.2):=by kernel_rfl)(hr:nd l=true:=by kernel_rfl)(hL:at_ L l=Ls s x:=by kernel_rfl):JC P n w0 W (.loop c) E L Q:=Wd I Es Ls xZ x hI hE l hr hL round
theorem Rq{K:Act→World→Prop}{S:Type}{k:Nat}(m:Nat)(el:TypeId)(size len:Nat)(bh:S→List Value)(vs:List Value)(xs:List S)(hv:vs.map (fun v=>v.cells.toList)=xs.map bh)(hm:∀x,(bh x).length=size)(hk:∀b,JK n w0 W K (ic E (cV ops k) (.slice (some ⟨b,0,none⟩) len len)) (L++ [⟨some b,el,row bh xs []⟩]))(hp:pl n ops k m E=pr n ops k m E:=by kernel_rfl)(hq:bsQ P E (cV ops k).op=some (el,size,size,len,(vs.zipIdx 0).map fun p=>(p.2,some p.1)):=by kernel_rfl)(hl:vs.length=len:=by kernel_rfl)(hb:(Nat.ble (len*size) 16777216&&Nat.blt 0 (len*size))=true:=by kernel_rfl):JP P n w0 W ops k K E L Q:=ahh m el size len bh vs xs hp hq hv hl hb hm hk
theorem pQ{K:Act→World→Prop}{S:Type}{k:Nat}(m:Nat)(el:TypeId)(l:Int)(s bytes:Nat)(bh:S→List Value)(x:S)(h0:0≤l)(h1:bytes*l≤140737488355328)(hk:∀b,JK n w0 W K (ic E (cV ops k) (.slice (some ⟨b,0,none⟩) l.toNat l.toNat)) (L++ [⟨some b,el,row bh (List.replicate l.toNat x) []⟩]))(hp:pl n ops k m E=pr n ops k m E:=by kernel_rfl)(hq:GI P E (cV ops k).op=some (el,l,l,s,bytes,bh x):=by kernel_rfl)(hz:(Nat.beq (bh x).length s&&Nat.blt 0 s&&Nat.blt 0 bytes)=true:=by kernel_rfl):JP P n w0 W ops k K E L Q:=aha m el l s bytes bh x hp hq h0 h1 hz hk
theorem cH{id:Nat}(hs:List Nat)(h:JO P n w0 W ops (0+(hs.map fun x=>(x,0)).length) (gE (chunk P n ops L (steps 0 (hs.map fun x=>(x,0))) E)) L Q)(hz:cl (chunk P n ops L (steps 0 (hs.map fun x=>(x,0))) E)=cr (chunk P n ops L (steps 0 (hs.map fun x=>(x,0))) E):=by kernel_rfl):JC P n w0 W (.region id ops false) E L Q:=ao (qh hs h hz)
theorem cR{id:Nat}{y:Code}(hs:List Nat)(h:JO P n w0 W ops (0+(hs.map fun x=>(x,0)).length) (gE (chunk P n ops L (steps 0 (hs.map fun x=>(x,0))) E)) L (Exit.then (y.wp P Q) Q))(hz:cl (chunk P n ops L (steps 0 (hs.map fun x=>(x,0))) E)=cr (chunk P n ops L (steps 0 (hs.map fun x=>(x,0))) E):=by kernel_rfl):JC P n w0 W (.seq (.region id ops false) y) E L Q:=ad (ao (qh hs h hz))
theorem cU{id:Nat}{y:Code}(hs:List Nat)(h:JC P n w0 W y (gE (chunk P n ops L (steps 0 (hs.map fun x=>(x,0))) E)) L Q)(hz:cl (chunk P n ops L (steps 0 (hs.map fun x=>(x,0))) E)=cr (chunk P n ops L (steps 0 (hs.map fun x=>(x,0))) E):=by kernel_rfl)(hk:ops.size=0+(hs.map fun x=>(x,0)).length:=by kernel_rfl):JC P n w0 W (.region id ops false) E L (Exit.then (y.wp P Q) Q):=ao (qh hs (qe (aP h) hk) hz)
theorem cT{id:Nat}{y:Code}(hs:List Nat)(h:JC P n w0 W y (gE (chunk P n ops L (steps 0 (hs.map fun x=>(x,0))) E)) L Q)(hz:cl (chunk P n ops L (steps 0 (hs.map fun x=>(x,0))) E)=cr (chunk P n ops L (steps 0 (hs.map fun x=>(x,0))) E):=by kernel_rfl)(hk:ops.size=0+(hs.map fun x=>(x,0)).length:=by kernel_rfl):JC P n w0 W (.seq (.region id ops false) y) E L Q:=ad (ao (qh hs (qe (aP h) hk) hz))
theorem eT{y:Code}{k:Nat}(h:JC P n w0 W y E L Q)(hk:ops.size=k:=by kernel_rfl):JO P n w0 W ops k E L (Exit.then (y.wp P Q) Q):=qe (aP h) hk
theorem kT{y:Code}(h:JC P n w0 W y E L Q):JC P n w0 W .skip E L (Exit.then (y.wp P Q) Q):=bV (aP h)
theorem nT{y:Code}{i:Nat}(h:JC P n w0 W y E L Q):JX n w0 W .normal E L (Exit.inBlock i (Exit.then (y.wp P Q) Q)):=nf (aP h)
theorem s2{x y z:Code}(h:JC P n w0 W x E L (Exit.then (y.wp P (Exit.then (z.wp P Q) Q)) (Exit.then (z.wp P Q) Q))):JC P n w0 W (.seq (.seq x y) z) E L Q:=ad (ad h)
theorem zT{y:Code}{Ls:List dJ}{done:List Nat}{gg:Nat}(h:JC P n w0 W y E L Q)(hr:Region.ready .any ops (listed ops done)= []:=by kernel_rfl):JD P n w0 W ops Ls done gg E L (Exit.then (y.wp P Q) Q):=qz (aP h) hr
theorem xR(h:JX n w0 W .ret E L Q):JX n w0 W .normal E L (Exit.then (Code.ret.wp P Q) Q):=aP (aI h)
theorem rX{K:Act→World→Prop}(h:JX n w0 W .ret E L Q):JC P n w0 W .ret E L (Exit.then K Q):=aI (aT h)
theorem oA{k:Nat}(m:Nat)(h:∀b,JO P n w0 W ops (k+1) (mE (zJ P E L (cV ops k) (some b) [0])) (mL (zJ P E L (cV ops k) (some b) [0])) Q)(hp:pl n ops k m E=pr n ops k m E:=by kernel_rfl)(hc:∀b,ml (zJ P E L (cV ops k) (some b) [0])=mr (zJ P E L (cV ops k) (some b) [0]):=by intro b;kernel_rfl)(hb:Nat.blt k ops.size=true:=by kernel_rfl):JO P n w0 W ops k E L Q:=tO (qa m (fun b=>fB (h b)) hp hc) hb
theorem oS{k:Nat}(m:Nat)(hs:List Nat)(h:JO P n w0 W ops (k+1) (mE (zJ P E L (cV ops k) none hs)) (mL (zJ P E L (cV ops k) none hs)) Q)(hp:pl n ops k m E=pr n ops k m E:=by kernel_rfl)(hc:ml (zJ P E L (cV ops k) none hs)=mr (zJ P E L (cV ops k) none hs):=by kernel_rfl)(hb:Nat.blt k ops.size=true:=by kernel_rfl):JO P n w0 W ops k E L Q:=tO (qs m hs (fB h) hp hc) hb
theorem oQ{k:Nat}(m:Nat){f:FuncId}{args:Array Value}{V:Value}{N:List dJ}(hc:∀w,Mem w0 W L w→Calls P f args w fun e w'=>∃v,e= .returned v∧(v=V∧Mem w [] N w'))(h:JO P n w0 W ops (k+1) (ic E (cV ops k) V) (L++N) Q)(hp:pl n ops k m E=pr n ops k m E:=by kernel_rfl)(hx:wq P [] (execOp (ev E []) (cV ops k)) []=some (.enter f args,[]):=by kernel_rfl)(hb:Nat.blt k ops.size=true:=by kernel_rfl):JO P n w0 W ops k E L Q:=tO (pq m hc (fB h) hp hx) hb
theorem oX{S:Type}{xs:List S}{x:S}{k:Nat}(m:Nat)(a:Option Addr){len:Nat}{j:Int}(s:Nat)(hx:ix xs j=some x)(hn:xs.length=len)(ha:a=some ⟨aB a,aO a,none⟩)(h:JO P n w0 W ops (k+1) (ic E (cV ops k) (.pointer (some ⟨aB a,aO a+j.toNat*s,none⟩))) L Q)(hp:pl n ops k m E=pr n ops k m E:=by kernel_rfl)(hq:Pe P E (cV ops k).op=some (a,len,j,s):=by kernel_rfl)(hb:Nat.blt k ops.size=true:=by kernel_rfl):JO P n w0 W ops k E L Q:=tO (qx m a s hx hn ha (fB h) hp hq) hb
theorem oL{k:Nat}(m:Nat){b off:Nat}(agg:Bool){vs:List Value}(hv:∀w,Mem w0 W L w→At w b off vs)(h:JO P n w0 W ops (k+1) (ic E (cV ops k) (ZU agg vs)) L Q)(hp:pl n ops k m E=pr n ops k m E:=by kernel_rfl)(hq:VE P E (cV ops k).op=some (b,off,agg,vs.length):=by kernel_rfl)(h1:(agg || Nat.beq vs.length 1)=true:=by kernel_rfl)(hb:Nat.blt k ops.size=true:=by kernel_rfl):JO P n w0 W ops k E L Q:=tO (ql m agg hv (fB h) hp hq h1) hb
theorem oC{k:Nat}(m:Nat){f:FuncId}{args:Array Value}{R:World→Value→World→Prop}(hc:∀w,Mem w0 W L w→Calls P f args w fun e w'=>∃v,e= .returned v∧R w v w')(hK:∀w v w',Mem w0 W L w→R w v w'→∃L',Mem w0 W L' w'∧JK n w0 W (wpOps P ops Q ((List.range ops.size).drop (k+1))) (ic E (cV ops k) v) L')(hp:pl n ops k m E=pr n ops k m E:=by kernel_rfl)(hx:wq P [] (execOp (ev E []) (cV ops k)) []=some (.enter f args,[]):=by kernel_rfl)(hb:Nat.blt k ops.size=true:=by kernel_rfl):JO P n w0 W ops k E L Q:=tO (pc m hc hK hp hx) hb
theorem oH(hs:List Nat){k:Nat}(h:JO P n w0 W ops (k+1+(hs.map fun x=>(x,0)).length) (gE (chunk P n ops L (steps (k+1) (hs.map fun x=>(x,0))) E)) L Q)(hz:cl (chunk P n ops L (steps (k+1) (hs.map fun x=>(x,0))) E)=cr (chunk P n ops L (steps (k+1) (hs.map fun x=>(x,0))) E):=by kernel_rfl):JK n w0 W (wpOps P ops Q ((List.range ops.size).drop (k+1))) E L:=fB (qh hs h hz)
theorem dQ{Ls:List dJ}{done:List Nat}{gg:Nat}(k m:Nat){f:FuncId}{args:Array Value}{V:Value}{N:List dJ}(hc:∀w,Mem w0 W L w→Calls P f args w fun e w'=>∃v,e= .returned v∧(v=V∧Mem w [] N w'))(l:List Nat)(h:JD P n w0 W ops Ls (k::done) gg (ic E (cV ops k) V) (L++N) Q)(hr:nd l=true:=by kernel_rfl)(hN:at_ (L++N) l=Ls:=by kernel_rfl)(hp:pl n ops k m E=pr n ops k m E:=by kernel_rfl)(hx:wq P [] (execOp (ev E []) (cV ops k)) []=some (.enter f args,[]):=by kernel_rfl)(hR:Region.ready .any ops (listed ops done)= [k]:=by kernel_rfl):JD P n w0 W ops Ls done (gg+1) E L Q:=tD k (pq m hc (kD l h hr hN) hp hx) hR
theorem lX{S X T:Type}{I:S→X→Prop}{Es:S→X→Env}{Ls:S→X→List dJ}{t:T}{y:S⊕T}{i:Nat}{K:Act→World→Prop}(t':T)(hy:some (Sum.inr t')=some y)(h:t'=t→JX n w0 W (.exit i) E L Q):JC P n w0 W (.exit i) E L (Exit.then K (LQ n w0 W I Es Ls t Q y)):=lP (ib (wz t' (sj hy) h))
theorem bE{α β:Type}{x:Option α}{f:α→Option β}{r:β}{G:Prop}(h:x.bind f=some r)(k:∀t,x=some t→f t=some r→G):G:=match bd h with | ⟨t,h1,h2⟩=>k t h1 h2
theorem aX{S:Type}{E':Prop}(hh:Nat)(o:Option Nat)(T:TypeId){bh:S→List Value}(xs:List S)(sp:List Value)(ho:o=none→xs= []∧E'){m:Nat}(hm:∀x,(bh x).length=m){j:Int}{x:S}(hj:ix xs j=some x)(hx:L[hh]?=some ⟨o,T,row bh xs sp⟩:=by kernel_rfl)(w:World)(h:Mem w0 W L w):At w (aB (o.map fun b=>⟨b,0,none⟩)) (aO (o.map fun b=>⟨b,0,none⟩)+j.toNat*m) (bh x):=(h.ow hh o T xs sp (fun e=>(ho e).1) hm hx).at hj
theorem qP{fn:Func}{rs:List ResultVar}{V:Value}{N:List dJ}(l:List Nat)(Q9:fn.results.toList=rs:=by rfl)(hr:rS (AX P L E rs [])=rT V (AX P L E rs []):=by kernel_rfl)(hn:nd l=true:=by kernel_rfl)(hN:at_ L l=N:=by kernel_rfl):JX n w0 W .ret E L (QB P fn fun v w=>v=V∧Mem w0 W N w):=qr [] (fun _ hm=>⟨rfl,hm.pk l hn hN⟩) Q9 hr
theorem Mem.aW{w w':World}(h:Mem w0 W L w)(ps:List (Nat×dJ))(N:List dJ)(h':Mem w (bs (ps.map (·.2.b))) (ps.map (·.2)++N) w')(hi:ps.map (fun p=>(L[p.1]?).map dJ.b)=ps.map (fun p=>some p.2.b):=by kernel_rfl)(hn:nd (ps.map (·.1))=true:=by kernel_rfl):Mem w0 W (AZ L ps++N) w':=h.acn h' hi hn
theorem eN{f:FuncId}{fn:Func}{c:Code}{args:List Value}{w:World}{R:Value→World→Prop}(hf:P.funcs[f]?=some fn)(hb:fn.body=some c)(hn:fn.ntmps=n)(hm:Mem w W L w)(h: @JC _ AW P n w W c (Je 0 args) L (@QB AW P fn R))(hle:Nat.ble args.length n=true:=by kernel_rfl):Calls P f args.toArray w fun e w'=>∃v,e= .returned v∧R v w':=enter hf hb hn hle hm h
end short
end Go.Proofs.YtplklknkkaeniaaGreat.Eng
