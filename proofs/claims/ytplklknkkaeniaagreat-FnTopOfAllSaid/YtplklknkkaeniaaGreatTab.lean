/- Tables: rows of rows that are not written any more. -/
import Derived.Test.YtplklknkkaeniaaGreatEng
namespace Go.Proofs.YtplklknkkaeniaaGreat.Eng
open Go
set_option linter.unusedSectionVars false
section
variable [gj:wu] [Pa:Q5] {P:Program} {n:Nat} {w0:World} {W:List Nat} {Q:Exit→Act→World→Prop} {E:Env} {L:List dJ} {ops:Array Oper}
def Ga:Option Addr→List Value→Value
 | some a,vs=> .tuple #[.pointer (some ⟨a.block,a.off,none⟩), .agg vs.toArray]
 | none,_=> .nilIface
def fJ{S:Type}(bh:S→List Value)(hs:List Hd)(iG:List (List S)):List Value:=(hs.zip iG).map fun p=>Ga p.1.a (row bh p.2 [])
def ph{S:Type}(hs:List Hd)(iG:List (List S)):Prop:=
 hs.length=iG.length∧∀(i:Nat) h xs,hs[i]?=some h→iG[i]?=some xs→xs.length=h.n∧(xs≠ []→h.a=some ⟨aB h.a,aO h.a,none⟩)
theorem ph.nil{S:Type}:ph [] ([]:List (List S)):=⟨rfl,fun i h xs hh=>by simp at hh⟩
theorem ph.snoc{S:Type}{hs:List Hd}{iG:List (List S)}(h:ph hs iG){o:Option Nat}{xs:List S}{m c:Nat}(hn:xs.length=m)(ho:o=none→xs= []):ph (hs++ [⟨o.map fun b=>⟨b,0,none⟩,m,c⟩]) (iG++ [xs]):=by
 refine⟨by simp [h.1],?_⟩
 intro i g ys hg hy
 rcases jw i hs.length with hi | hi
 ·rw [mQ hi] at hg
  rw [mQ (by rw [←h.1];exact hi)] at hy
  exact h.2 i g ys hg hy
 ·rw [nB hi] at hg
  rw [nB (by rw [←h.1];exact hi)] at hy
  rw [←h.1] at hy
  have e:i-hs.length=0:=by
   rcases rY (i-hs.length) with e | e
   ·exact e
   ·rw [jJ (by simp;omega)] at hg;cases hg
  rw [e] at hg hy
  simp only [tU,cx] at hg hy
  subst hg hy
  refine⟨hn,fun jR=> ?_⟩
  cases o with
  | none=>exact absurd (ho rfl) jR
  | some b=>rfl
theorem ph.Ci{S:Type}{hs:List Hd}{iG:List (List S)}(h:ph hs iG){j:Int}{x:List S}(hx:ix iG j=some x):ix hs j=some (hd hs j):=by
 obtain⟨h0,_,h2⟩:=jN hx
 have hl:j.toNat<hs.length:=by rw [h.1];exact(gY.1 h2).1
 unfold ix
 rw [ak h0]
 simp [hd,hl]
theorem ph.get{S:Type}{hs:List Hd}{iG:List (List S)}(h:ph hs iG){j:Int}{x:List S}(hx:ix iG j=some x):x.length=(hd hs j).n∧(x≠ []→(hd hs j).a=some ⟨aB (hd hs j).a,aO (hd hs j).a,none⟩):=by
 obtain⟨h0,_,h2⟩:=jN hx
 have hl:j.toNat<hs.length:=by rw [h.1];exact(gY.1 h2).1
 have:=h.2 j.toNat hs[j.toNat] x (by simp [hl]) h2
 simpa [hd,hl] using this
theorem ph.sp{S:Type}{hs:List Hd}{iG:List (List S)}(h:ph hs iG){j:Int}{x:List S}(hx:ix iG j=some x){k:Int}{y:S}(hy:ix x k=some y):(hd hs j).a=some ⟨aB (hd hs j).a,aO (hd hs j).a,none⟩:=(h.get hx).2 (Yv hy)
theorem y_{S:Type}{hs:List Hd}{iG:List (List S)}(h:ph hs iG){g:Hd}(hg:iG.length+1≤4294967296):hs.length+ [g].length≤4294967296:=by rw [h.1];exact hg
theorem Py{S:Type}{bh:S→List Value}{hs:List Hd}{iG:List (List S)}(h:hs.length=iG.length)(g:Hd)(xs:List S):fJ bh (hs++ [g]) (iG++ [xs])=fJ bh hs iG++ [Ga g.a (row bh xs [])]:=by
 unfold fJ
 rw [List.zip_append h]
 simp
theorem Og{a:Option Addr}{vs:List Value}{p:Nat×Nat×List Value}(h:fz (Ga a vs)=some p):a≠none∧p=(aB a,aO a,vs):=by
 cases a with
 | none=>simp [Ga,fz] at h
 | some a=>
  simp only [Ga,fz,cx] at h
  exact⟨by simp,h.symm⟩
theorem tp{cs:List Value}{p:Nat×Nat×List Value}:p∈GD ⟨none,kR,cs⟩↔∃v∈cs,fz v=some p:=by
 unfold GD
 simp
theorem Mem.Ms{S:Type}{w:World}(h:Mem w0 W L w)(c:Nat){bh:S→List Value}{hs:List Hd}{iG:List (List S)}(hI:ph hs iG){m:Nat}(hm:∀x,(bh x).length=m)(hx:L[c]?=some ⟨none,kR,fJ bh hs iG⟩:=by kernel_rfl):
  r8 w (L.filterMap dJ.b) m bh hs iG:=by
 intro i xs hi
 have hil:i<hs.length:=by rw [hI.1];exact(gY.1 hi).1
 have hg:hs[i]?=some hs[i]:=by simp [hil]
 obtain⟨h1,h2⟩:=hI.2 i hs[i] xs hg hi
 refine⟨hs[i],hg,?_,h1,?_⟩
 ·have key:xs≠ []→yM w0 W w (L.filterMap dJ.b) (aB hs[i].a,aO hs[i].a,row bh xs []):=by
   intro jR
   refine h.yh _ (gF.2 ⟨_,dt hx,tp.2 ⟨Ga hs[i].a (row bh xs []),?_,?_⟩⟩)
   ·unfold fJ
    refine dM.2 ⟨(hs[i],xs),?_,rfl⟩
    exact dt (i:=i) (by rw [xz];exact⟨hg,hi⟩)
   ·rw [h2 jR];rfl
  constructor
  ·intro jR;exact⟨h2 jR,(key jR).2.1⟩
  ·intro j x hj k v hv
   have jR:xs≠ []:=by rintro rfl;simp at hj
   have hf:=kH hm xs j x hj k v hv
   have:=(key jR).2.2.2.1 (j*m+k) v (by simpa [row] using hf)
   simpa [nF] using this
 ·intro jR ku
  have:yM w0 W w (L.filterMap dJ.b) (aB hs[i].a,aO hs[i].a,row bh xs []):=by
   refine h.yh _ (gF.2 ⟨_,dt hx,tp.2 ⟨Ga hs[i].a (row bh xs []),?_,?_⟩⟩)
   ·unfold fJ
    refine dM.2 ⟨(hs[i],xs),?_,rfl⟩
    exact dt (i:=i) (by rw [xz];exact⟨hg,hi⟩)
   ·rw [h2 jR];rfl
  exact this.2.2.1 ku
theorem r8.sub{S:Type}{w:World}{B B':List Nat}{m:Nat}{bh:S→List Value}{hs:List Hd}{iG:List (List S)}(h:r8 w B m bh hs iG)(hB:∀b∈B',b∈B):r8 w B' m bh hs iG:=by
 intro i xs hi
 obtain⟨y,h1,h2,h3,h4⟩:=h i xs hi
 exact⟨y,h1,h2,h3,fun jR hb=>h4 jR (hB _ hb)⟩
theorem Mem.tq{S:Type}{w:World}(h:Mem w0 W L w)(c:Nat){bh:S→List Value}{hs:List Hd}{iG:List (List S)}(hI:ph hs iG){m:Nat}(hm:∀x,(bh x).length=m)(l:List Nat){N:List dJ}
  (hx:L[c]?=some ⟨none,kR,fJ bh hs iG⟩:=by kernel_rfl) (hN:at_ L l=N:=by kernel_rfl):r8 w (bs (N.map dJ.b)) m bh hs iG:=by
 subst hN
 refine(h.Ms c hI hm hx).sub fun b hb=> ?_
 rw [pG] at hb
 obtain⟨x,hx,hxb⟩:=dm.1 hb
 exact dm.2 ⟨x,at_mem x hx,hxb⟩
theorem Mem.freeze{S:Type}{w:World}(h:Mem w0 W L w)(c i:Nat){bh:S→List Value}{hs:List Hd}{iG:List (List S)}{o:Option Nat}{T:TypeId}{xs:List S}{sp:List Value}{m cap:Nat}(hl:hs.length=iG.length)
  (hc:L[c]?=some ⟨none,kR,fJ bh hs iG⟩) (hi:L[i]?=some ⟨o,T,row bh xs sp⟩) (Co:Nat.beq c i=false):Mem w0 W ((L.set c ⟨none,kR,fJ bh (hs++ [⟨o.map fun b=>⟨b,0,none⟩,m,cap⟩]) (iG++ [xs])⟩).set i ⟨none,0,[]⟩) w:=by
 have jR:c≠i:=fun e=>by rw [e] at Co;simp at Co
 have pn:∀x∈(L.set c ⟨none,kR,fJ bh (hs++ [⟨o.map fun b=>⟨b,0,none⟩,m,cap⟩]) (iG++ [xs])⟩).set i ⟨none,0,[]⟩,∀b,x.b=some b→x∈L:=by
  intro x hx b hb
  rcases mP hx with hx | rfl
  ·rcases mP hx with hx | rfl
   ·exact hx
   ·cases hb
  ·cases hb
 have Jq:∀{L:List dJ} {c:Nat} {cs:List Value} {T':TypeId} {V3:List Value},L[c]?=some ⟨none,T',V3⟩→(L.set c ⟨none,kR,cs⟩).filterMap dJ.b=L.filterMap dJ.b:=fun h=>ud h rfl
 have LS:((L.set c ⟨none,kR,fJ bh (hs++ [⟨o.map fun b=>⟨b,0,none⟩,m,cap⟩]) (iG++ [xs])⟩).set i ⟨none,0,[]⟩).filterMap dJ.b=(L.set i ⟨none,0,[]⟩).filterMap dJ.b:=by
  rw [List.set_comm _ _ jR]
  exact Jq (by rw [mq (Ne.symm jR)];exact hc)
 have hB:∀b,b∈(L.set i ⟨none,0,[]⟩).filterMap dJ.b→b∈L.filterMap dJ.b:=fun b hb=>(rG L i).subset hb
 refine⟨h.os,h.tape,h.output,h.BG,h.size,h.bW,fun x hx b hb=>h.own x (pn x hx b hb) b hb,?_,fun x hx b hb=>h.new x (pn x hx b hb) b hb,?_⟩
 ·rw [LS];exact h.qF.sublist (rG L i)
 ·intro p hp
  rw [LS]
  have hp:=nR (y:=⟨none,0,[]⟩) zQ p hp
  obtain⟨x,hx,Cz⟩:=gF.1 hp
  have hold:p∈Cb L→yM w0 W w ((L.set i ⟨none,0,[]⟩).filterMap dJ.b) p:=fun hq=>(h.yh p hq).mono (hB _) (bt _) rfl
  rcases mP hx with hx | rfl
  ·exact hold (gF.2 ⟨x,hx,Cz⟩)
  ·rw [Py hl] at Cz
   obtain⟨v,hv,hfv⟩:=tp.1 Cz
   rcases dw.1 hv with hv | hv
   ·exact hold (gF.2 ⟨_,dt hc,tp.2 ⟨v,hv,hfv⟩⟩)
   ·simp only [dG] at hv
    subst hv
    obtain⟨h1,rfl⟩:=Og hfv
    cases o with
    | none=>exact absurd rfl h1
    | some b=>
     have ku:=dt hi
     refine⟨?_,h.lt ku rfl,?_,?_,⟨_,_,h.own _ ku b rfl⟩⟩
     ·exact h.new _ ku b rfl
     ·intro hb
      obtain⟨y,hy,o_⟩:=dm.1 hb
      rcases yO (y:=⟨none,0,[]⟩) hi h.qF hy with rfl | ⟨_,h3⟩
      ·cases o_
      ·exact h3 b b o_ rfl rfl
     ·intro k v hv
      have hv:(row bh xs [])[k]?=some v:=hv
      have:=h.cell ku rfl k v (by
       unfold row at hv⊢
       rw [gz] at hv
       rw [mQ (gY.1 hv).1];exact hv)
      simpa [aB,aO] using this
theorem A'{K:Act→World→Prop}{S:Type}(c i m cap:Nat){bh:S→List Value}{hs:List Hd}{iG:List (List S)}{o:Option Nat}{T:TypeId}{xs:List S}{sp:List Value}(hI:ph hs iG)
  (h:JK n w0 W K E ((L.set c ⟨none,kR,fJ bh (hs++ [⟨o.map fun b=>⟨b,0,none⟩,m,cap⟩]) (iG++ [xs])⟩).set i ⟨none,0,[]⟩))
  (hc:L[c]?=some ⟨none,kR,fJ bh hs iG⟩:=by kernel_rfl) (hi:L[i]?=some ⟨o,T,row bh xs sp⟩:=by kernel_rfl) (Co:Nat.beq c i=false:=by kernel_rfl):JK n w0 W K E L:=
 fun a w cX=>h a w (cX.qG (cX.mem.freeze c i hI.1 hc hi Co))
theorem Ba{K:Act→World→Prop}{S:Type}(bh:S→List Value)(h:JK n w0 W K E (L++ [⟨none,kR,fJ bh [] []⟩])):JK n w0 W K E L:=fun a w cX=>h a w (cX.qG (cX.mem.Jl kR))
theorem DC{K:Act→World→Prop}{S:Type}(T:TypeId)(bh:S→List Value)(h:JK n w0 W K E (L++ [⟨none,T,row bh [] []⟩])):JK n w0 W K E L:=fun a w cX=>h a w (cX.qG (cX.mem.Jl T))
end
section mtab
variable [gj:wu] [Pa:Q5] {P:Program} {n:Nat} {w0:World} {W:List Nat} {Q:Exit→Act→World→Prop} {E:Env} {L:List dJ} {ops:Array Oper}
def u4(hs:List Hd):List Nat:=hs.filterMap fun h=>h.a.map (·.block)
def I5(hs:List Hd):Prop:=(u4 hs).Nodup
theorem I5.nil:I5 []:=List.nodup_nil
theorem xI{S:Type}{bh:S→List Value}{hs:List Hd}{iG:List (List S)}(hI:ph hs iG){c:Nat}(hc:L[c]?=some ⟨none,kR,fJ bh hs iG⟩){b:Nat}(hb:b∈u4 hs):∃p∈Cb L,p.1=b:=by
 obtain⟨h,hh,hb⟩:=dm.1 hb
 obtain⟨a,ha,rfl⟩:=iF.1 hb
 obtain⟨i,hi⟩:=ry.1 hh
 have hil:i<iG.length:=by rw [←hI.1];exact(gY.1 hi).1
 refine⟨(a.block,a.off,row bh iG[i] []),gF.2 ⟨_,dt hc,tp.2 ⟨Ga h.a (row bh iG[i] []),?_,by rw [ha];rfl⟩⟩,rfl⟩
 unfold fJ
 refine dM.2 ⟨(h,iG[i]),dt (i:=i) ?_,rfl⟩
 rw [xz]
 exact⟨hi,by simp [hil]⟩
theorem H5{S:Type}{bh:S→List Value}{hs:List Hd}{iG:List (List S)}{p:Nat×Nat×List Value}(hp:p∈GD ⟨none,kR,fJ bh hs iG⟩):
  ∃(i:Nat) (h:Hd) (xs:List S) (a:Addr),hs[i]?=some h∧iG[i]?=some xs∧h.a=some a∧p=(a.block,a.off,row bh xs []):=by
 obtain⟨v,hv,hf⟩:=tp.1 hp
 unfold fJ at hv
 obtain⟨⟨h,xs⟩,hz,rfl⟩:=dM.1 hv
 obtain⟨i,hi⟩:=ry.1 hz
 rw [xz] at hi
 obtain⟨h1,rfl⟩:=Og hf
 cases ha:h.a with
 | none=>exact absurd ha h1
 | some a=>exact⟨i,h,xs,a,hi.1,hi.2,ha,by simp only [aB,aO]⟩
theorem H6{hs:List Hd}{h:Hd}{a:Addr}(hh:h∈hs)(ha:h.a=some a):a.block∈u4 hs:=dm.2 ⟨h,hh,by rw [ha];rfl⟩
theorem I5.ne{hs:List Hd}(h:I5 hs){i j:Nat}{x y:Hd}{a b:Addr}(Ps:i≠j)(hx:hs[i]?=some x)(hy:hs[j]?=some y)(ha:x.a=some a)(hb:y.a=some b):a.block≠b.block:=by
 unfold I5 u4 List.Nodup at h
 rw [List.pairwise_filterMap,ou] at h
 obtain⟨hi,rfl⟩:=gY.1 hx
 obtain⟨hj,rfl⟩:=gY.1 hy
 rcases Nat.lt_or_gt_of_ne Ps with gy | gy
 ·exact h i j hi hj gy a.block (by rw [ha];rfl) b.block (by rw [hb];rfl)
 ·exact Ne.symm (h j i hj hi gy b.block (by rw [hb];rfl) a.block (by rw [ha];rfl))
theorem Mem.aaA{S:Type}{w:World}(h:Mem w0 W L w)(c:Nat){bh:S→List Value}{hs:List Hd}{iG:List (List S)}(_hI:ph hs iG)(hc:L[c]?=some ⟨none,kR,fJ bh hs iG⟩:=by kernel_rfl):
  Mem w (u4 hs) [⟨none,kR,fJ bh hs iG⟩] w:=by
 refine⟨rfl,rfl,rfl,GC.of_le (bt _),bt _,fun b _ _=>rfl,?_,by simp,?_,?_⟩
 ·intro x hx b hb;simp only [dG] at hx;subst hx;cases hb
 ·intro x hx b hb;simp only [dG] at hx;subst hx;cases hb
 ·intro p hp
  have VM:p∈GD ⟨none,kR,fJ bh hs iG⟩:=by
   obtain⟨x,hx,Cz⟩:=gF.1 hp
   simp only [dG] at hx;subst hx;exact Cz
  have hq:=h.yh p (gF.2 ⟨_,dt hc,VM⟩)
  obtain⟨i,hh,xs,a,h1,_,h3,rfl⟩:=H5 VM
  exact⟨.inl (H6 (dt h1) h3),hq.2.1,by simp,hq.2.2.2⟩
theorem Mem.WM{S:Type}{w w':World}(h:Mem w0 W L w)(c:Nat){bh:S→List Value}{hs:List Hd}{iG WN:List (List S)}(hI:ph hs iG)(h':Mem w (u4 hs) [⟨none,kR,fJ bh hs WN⟩] w')
  (hc:L[c]?=some ⟨none,kR,fJ bh hs iG⟩:=by kernel_rfl) (hn:Q4 (L.set c ⟨none,0,[]⟩)=true:=by kernel_rfl):Mem w0 W (L.set c ⟨none,kR,fJ bh hs WN⟩) w':=by
 have LS:(L.set c ⟨none,kR,fJ bh hs WN⟩).filterMap dJ.b=L.filterMap dJ.b:=ud hc rfl
 have ahO:∀b,b∈L.filterMap dJ.b→b∉u4 hs:=by
  intro b hb ku
  obtain⟨p,hp,rfl⟩:=xI hI hc ku
  exact(h.yh p hp).2.2.1 hb
 refine⟨h'.os.trans h.os,h'.tape.trans h.tape,h'.output.trans h.output,h.BG.trans h'.BG,k7 h.size h'.size,?_,?_,by rw [LS];exact h.qF,?_,?_⟩
 ·intro b hb hW
  rw [h'.bW b (oy hb h.size) (fun ku=>by
   obtain⟨p,hp,rfl⟩:=xI hI hc ku
   rcases(h.yh p hp).1 with h1 | h1
   ·exact hW h1
   ·omega)]
  exact h.bW b hb hW
 ·intro x hx b hb
  rcases mP hx with hx | rfl
  ·rw [h'.bW b (h.lt hx hb) (ahO b (dm.2 ⟨x,hx,hb⟩))]
   exact h.own x hx b hb
  ·cases hb
 ·intro x hx b hb
  rcases mP hx with hx | rfl
  ·exact h.new x hx b hb
  ·cases hb
 ·intro p hp
  rw [LS]
  obtain⟨x,hx,Cz⟩:=gF.1 hp
  have EY:p∈GD ⟨none,kR,fJ bh hs WN⟩:=by
   obtain⟨i,hi⟩:=ry.1 hx
   by_cases Co:c=i
   ·subst Co
    rw [wl (gY.1 hc).1] at hi
    obtain rfl:=e9 hi
    exact Cz
   ·rw [mq Co] at hi
    have:p∈Cb (L.set c ⟨none,0,[]⟩):=gF.2 ⟨x,dt (i:=i) (by rw [mq Co];exact hi),Cz⟩
    rw [NJ hn] at this
    cases this
  have hq:=h'.yh p (gF.2 ⟨_,dG.2 rfl,EY⟩)
  obtain⟨i,hh,xs,a,h1,_,h3,rfl⟩:=H5 EY
  obtain⟨p0,hp0,e0⟩:=xI hI hc (H6 (dt h1) h3)
  have q1:=(h.yh p0 hp0).1
  have q3:=(h.yh p0 hp0).2.2.1
  rw [e0] at q1 q3
  exact⟨q1,hq.2.1,q3,hq.2.2.2⟩
theorem Mem.An{S R:Type}{w:World}(h:Mem w0 W L w)(c:Nat){bh:S→List Value}{hs:List Hd}{iG:List (List S)}(hI:ph hs iG){a:Option Addr}{m:Nat}{lQ:R→List Value}{xs:List R}(hr:Rw w0 a m lQ xs)(hW:xs≠ []→aB a∉W)
  (hc:L[c]?=some ⟨none,kR,fJ bh hs iG⟩:=by kernel_rfl):xs≠ []→aB a∉u4 hs:=by
 intro hx ku
 obtain⟨p,hp,e⟩:=xI hI hc ku
 have h1:=(hr.spot hx).2
 rcases(h.yh p hp).1 with h2 | h2
 ·rw [e] at h2;exact hW hx h2
 ·rw [e] at h2;omega
theorem Mem.G4{S R:Type}{w:World}(h:Mem w0 W L w)(c:Nat){bh:S→List Value}{hs:List Hd}{iG:List (List S)}(hI:ph hs iG){hh:Nat}{o:Option Nat}{T:TypeId}{cs:List Value}{xs:List R}(hx:L[hh]?=some ⟨o,T,cs⟩)(ho:o=none→xs= [])
  (hc:L[c]?=some ⟨none,kR,fJ bh hs iG⟩:=by kernel_rfl):xs≠ []→aB (o.map fun b=>⟨b,0,none⟩)∉u4 hs:=by
 intro jR ku
 cases o with
 | none=>exact jR (ho rfl)
 | some b=>
  obtain⟨p,hp,e⟩:=xI hI hc ku
  have e:p.1=b:=e
  exact(h.yh p hp).2.2.1 (dm.2 ⟨_,dt hx,by rw [e]⟩)
theorem Mem.DD{S R:Type}{w:World}(h:Mem w0 W L w)(c:Nat){bh:S→List Value}{hs:List Hd}{iG:List (List S)}(hI:ph hs iG){m:Nat}{lQ:R→List Value}{gs:List Hd}{yss:List (List R)}(hi:r8 w0 W m lQ gs yss)
  (hc:L[c]?=some ⟨none,kR,fJ bh hs iG⟩:=by kernel_rfl):r8 w (u4 hs) m lQ gs yss:=by
 intro i xs hx
 obtain⟨y,hy,h1,h2,h3⟩:=hi i xs hx
 exact⟨y,hy,h.aM h1 h3,h2,h.An c hI h1 h3 hc⟩
theorem ph.set{S:Type}{hs:List Hd}{iG:List (List S)}(h:ph hs iG){j:Int}{x x':List S}(hx:ix iG j=some x)(hl:x'.length=x.length):ph hs (iG.set j.toNat x'):=by
 obtain⟨_,_,h2⟩:=jN hx
 refine⟨by rw [eJ];exact h.1,?_⟩
 intro i g ys hg hy
 by_cases e:j.toNat=i
 ·subst e
  rw [wl (gY.1 h2).1] at hy
  obtain rfl:=e9 hy
  obtain⟨a1,a2⟩:=h.2 _ g x hg h2
  exact⟨hl.trans a1,fun jR=>a2 (fun e=>by subst e;exact jR (kb (by simpa using hl)))⟩
 ·rw [mq e] at hy
  exact h.2 i g ys hg hy
theorem aaB{A:Type}:∀(a b:List A),(∀(t:Nat) (v:A),a[t]?=some v→b[t]?=some v)→∃r,b=a++r:=by
 intro a
 induction a with
 | nil=>intro b _;exact⟨b,rfl⟩
 | cons x a ih=>
  intro b h
  cases b with
  | nil=>have:=h 0 x rfl;simp at this
  | cons y b=>
   have h0:=h 0 x rfl
   simp only [tU,cx] at h0
   subst h0
   obtain⟨r,hr⟩:=ih b (fun t v hv=>by simpa using h (t+1) v (by simpa using hv))
   exact⟨r,by rw [hr];rfl⟩
theorem aaC{S:Type}{w:World}(h:Mem w0 W L w){c:Nat}{bh:S→List Value}{hs:List Hd}{iG:List (List S)}(hI:ph hs iG)(hD:I5 hs){j k:Int}{x:List S}{y0 y:S}{m:Nat}(hx:ix iG j=some x)(hy:ix x k=some y0)
  (hm:∀x,(bh x).length=m) (h0:0<m) (J3:∀v∈bh y,il v=true) (hc:L[c]?=some ⟨none,kR,fJ bh hs iG⟩):
  ∃w',(storeCells ⟨aB (hd hs j).a,aO (hd hs j).a+k.toNat*m,none⟩ (bh y) 0).run P w= .ok () w'∧Mem w (u4 hs) [⟨none,kR,fJ bh hs (iG.set j.toNat (x.set k.toNat y))⟩] w':=by
 obtain⟨_,_,EY⟩:=jN hx
 obtain⟨_,_,hy2⟩:=jN hy
 have xC:=hI.sp hx hy
 have hlen:j.toNat<hs.length:=by rw [hI.1];exact(gY.1 EY).1
 have hhd:hs[j.toNat]?=some (hd hs j):=by simp [hd,hlen]
 generalize hB:aB (hd hs j).a=B at*
 generalize hO:aO (hd hs j).a=O at*
 have hq:yM w0 W w (L.filterMap dJ.b) (B,O,row bh x []):=by
  refine h.yh _ (gF.2 ⟨_,dt hc,tp.2 ⟨Ga (hd hs j).a (row bh x []),?_,by rw [xC];rfl⟩⟩)
  unfold fJ
  refine dM.2 ⟨(hd hs j,x),dt (i:=j.toNat) ?_,rfl⟩
  rw [xz]
  exact⟨hhd,EY⟩
 obtain⟨_,gy,_,hAt,cs,T,VF⟩:=hq
 have adb:B∈u4 hs:=by
  have:=H6 (dt hhd) xC
  exact this
 have J4:∀(t:Nat) v,(row bh x [])[t]?=some v→(cs.toList.drop O)[t]?=some v:=by
  intro t v hv
  have:=hAt t v hv
  simp only [World.cell?,VF] at this
  rw [List.getElem?_drop,Array.getElem?_toList]
  exact this
 obtain⟨rest,Jk⟩:=aaB _ _ J4
 have hrl:(row bh x []).length=x.length*m:=by rw [row,gz,gQ hm]
 have Mt:k.toNat<x.length:=(gY.1 hy2).1
 have hkm:k.toNat*m+m≤x.length*m:=by
  have:(k.toNat+1)*m≤x.length*m:=Nat.mul_le_mul_right _ Mt
  rwa [lN] at this
 have hOl:O≤cs.toList.length:=by
  rcases jw cs.toList.length O with hh | hh
  ·have:cs.toList.drop O= []:=mR (Nat.le_of_lt hh)
   rw [this] at Jk
   have:=fI List.length Jk
   simp only [bN,cJ,hrl] at this
   omega
  ·exact hh
 have Sf:cs.toList=cs.toList.take O++(row bh x []++rest):=by rw [←Jk,kz]
 have I6:(cs.toList.take O).length=O:=by rw [gl];omega
 have hM0:Mem w [B] [⟨some B,T,cs.toList⟩] w:=by
  refine⟨rfl,rfl,rfl,GC.of_le (bt _),bt _,fun b _ _=>rfl,?_,by simp,?_,fun p hp=>by simp [Cb,GD] at hp⟩
  ·intro z hz b hb;simp only [dG] at hz;subst hz;cases hb;simpa using VF
  ·intro z hz b hb;simp only [dG] at hz;subst hz;cases hb;exact .inl (by simp)
 obtain⟨w',hr,bn⟩:=lf (P:=P) (bh y) (O+k.toNat*m) 0 cs.toList [⟨some B,T,cs.toList⟩] w hM0 (hh:=0) rfl (by
  rw [Sf,cJ,cJ,I6,hrl,hm];omega) J3
 refine⟨w',hr,?_⟩
 have C0:tS cs.toList (O+k.toNat*m+0) (bh y)=cs.toList.take O++(row bh (x.set k.toNat y) []++rest):=by
  have e1:tS (cs.toList.take O++(row bh x []++rest)) ((cs.toList.take O).length+k.toNat*m) (bh y)=cs.toList.take O++tS (row bh x []++rest) (k.toNat*m) (bh y):=rN _ _ _ _
  have e2:tS (row bh x []++rest) (k.toNat*m) (bh y)=tS (row bh x []) (k.toNat*m) (bh y)++rest:=Jf _ _ _ _ (by rw [hrl,hm];omega)
  have e3:tS (row bh x []) (k.toNat*m) (bh y)=row bh (x.set k.toNat y) []:=by
   have:=NT (f:=0) (vs:=bh y) (y:=y) (sp:= []) hm hy2 (by rw [hm];omega) (by rw [HQ _ _ (by rw [hm,hm];exact bt _)];simp [hm])
   simpa using this
  rw [I6,←Sf] at e1
  rw [Nat.add_zero,e1,e2,e3]
 rw [C0] at bn
 have ade:w'.heap[B]?=some (.cells (cs.toList.take O++(row bh (x.set k.toNat y) []++rest)).toArray T (0,0)):=bn.own _ (dG.2 rfl) B rfl
 refine⟨bn.os,bn.tape,bn.output,bn.BG,bn.size,?_,?_,by simp,?_,?_⟩
 ·intro b hb hnb
  exact bn.bW b hb (by simp only [dG];rintro rfl;exact hnb adb)
 ·intro z hz b hb;simp only [dG] at hz;subst hz;cases hb
 ·intro z hz b hb;simp only [dG] at hz;subst hz;cases hb
 ·intro p hp
  have VM:p∈GD ⟨none,kR,fJ bh hs (iG.set j.toNat (x.set k.toNat y))⟩:=by
   obtain⟨z,hz,hpz⟩:=gF.1 hp
   simp only [dG] at hz;subst hz;exact hpz
  obtain⟨i,g,xs,a,h1,h2,h3,rfl⟩:=H5 VM
  by_cases e:j.toNat=i
  ·subst e
   rw [wl (gY.1 EY).1] at h2
   obtain rfl:=e9 h2
   rw [hhd] at h1
   obtain rfl:=e9 h1
   rw [xC] at h3
   obtain rfl:=e9 h3
   refine⟨.inl adb,oy gy bn.size,by simp,?_,⟨_,_,ade⟩⟩
   intro t v hv
   simp only [World.cell?,ade]
   show (cs.toList.take O++(row bh (x.set k.toNat y) []++rest)).toArray[O+t]?=some v
   rw [wo,nB (by rw [I6];omega),I6,Nat.add_sub_cancel_left,mQ (gY.1 hv).1]
   exact hv
  ·rw [mq e] at h2
   have jR:a.block≠B:=fun eb=>hD.ne (Ne.symm e) h1 hhd h3 xC eb
   have hq:yM w0 W w (L.filterMap dJ.b) (a.block,a.off,row bh xs []):=by
    refine h.yh _ (gF.2 ⟨_,dt hc,tp.2 ⟨Ga g.a (row bh xs []),?_,by rw [h3];rfl⟩⟩)
    unfold fJ
    refine dM.2 ⟨(g,xs),dt (i:=i) ?_,rfl⟩
    rw [xz]
    exact⟨h1,h2⟩
   have hq2:=hq.mono (B':= []) (by simp) bn.size (bn.bW a.block hq.2.1 (by simpa using jR))
   exact⟨.inl (H6 (dt h1) h3),hq2.2⟩
theorem aaD{K:Act→World→Prop}{S:Type}{k:Nat}(m c:Nat)(bh:S→List Value)(hs:List Hd)(iG:List (List S))(j k2:Int)(x:List S)(y0 y:S)(sz:Nat)(hp:pl n ops k m E=pr n ops k m E)
  (hq:V7 P E (cV ops k).op=some (aB (hd hs j).a,aO (hd hs j).a+k2.toNat*sz,bh y)) (hc:L[c]?=some ⟨none,kR,fJ bh hs iG⟩) (hn:Q4 (L.set c ⟨none,0,[]⟩)=true) (hI:ph hs iG) (hD:I5 hs) (hx:ix iG j=some x) (hy:ix x k2=some y0)
  (hm:∀x,(bh x).length=sz) (h0:Nat.blt 0 sz=true) (hk:JK n w0 W K (ic E (cV ops k) undef) (L.set c ⟨none,kR,fJ bh hs (iG.set j.toNat (x.set k2.toNat y))⟩)):JP P n w0 W ops k K E L Q:=by
 have h:=pF hp
 intro a w cX
 have hw:=jB cX h.2.1
 unfold wpOp
 simp only [h.1,hw,cp]
 refine .inl ?_
 unfold Oper.wp
 rw [iO cX (G:= []) (by simp) h.2.2.2.1 h.2.2.2.2]
 unfold V7 at hq
 split at hq
 ·rename_i T' x' y' ho
  split at hq
  ·rename_i b' E7 v t hx' hy' ht
   cases VN:(Nat.beq v.cells.size t.size&&v.cells.toList.all il) with
   | false=>rw [VN] at hq;simp at hq
   | true=>
    rw [VN] at hq
    simp only [gZ,cx,dS] at hq
    obtain⟨WO,hqo,hqv⟩:=hq
    simp only [bY,gP] at VN
    have HO:=iV VN.1
    obtain⟨w',hr,bn⟩:=aaC (P:=P) cX.mem hI hD hx hy hm (by simpa using h0) (y:=y) (by rw [←hqv];exact VN.2) hc
    have ex:ev E [] x'= .pointer (some ⟨b',E7,none⟩):=by simp [ev,hx']
    have ey:ev E [] y'=v:=by simp [ev,hy']
    have:(execOp (ev E []) (cV ops k)).run P w= .ok .skip w':=by
     simp only [execOp,ho,Instr.storeAt,ex,ey,Instr.sureAddr,Sem.run_bind,Sem.run_pure,Result.andThen_ok,storeVar,run_sizeOf ht,HO,ne_eq,oD,bU]
     rw [WO,hqo,hqv]
     simp only [hr,Result.andThen_ok]
    rw [this]
    simp only [Oper.upon]
    exact hk _ _ (k9 (cX.qG (cX.mem.WM c hI bn hc hn)) h.2.2.1 undef)
  ·simp at hq
 ·simp at hq
theorem WQ{K:Act→World→Prop}{S:Type}(c i m cap:Nat){bh:S→List Value}{hs:List Hd}{iG:List (List S)}{o:Option Nat}{T:TypeId}{xs:List S}{sp:List Value}(hI:ph hs iG)(hD:I5 hs)
  (h:I5 (hs++ [⟨o.map fun b=>⟨b,0,none⟩,m,cap⟩])→JK n w0 W K E ((L.set c ⟨none,kR,fJ bh (hs++ [⟨o.map fun b=>⟨b,0,none⟩,m,cap⟩]) (iG++ [xs])⟩).set i ⟨none,0,[]⟩))
  (hc:L[c]?=some ⟨none,kR,fJ bh hs iG⟩:=by kernel_rfl) (hi:L[i]?=some ⟨o,T,row bh xs sp⟩:=by kernel_rfl) (Co:Nat.beq c i=false:=by kernel_rfl):JK n w0 W K E L:=by
 intro a w cX
 refine h ?_ a w (cX.qG (cX.mem.freeze c i hI.1 hc hi Co))
 unfold I5 u4
 rw [jK]
 cases o with
 | none=>unfold I5 u4 at hD;simpa using hD
 | some b=>
  refine oz.2 ⟨hD,by simp,fun x hx y hy=> ?_⟩
  simp only [kE,kc,List.filterMap_nil,dG] at hy
  subst hy
  rintro rfl
  obtain⟨p,hp,e⟩:=xI hI hc hx
  exact(cX.mem.yh p hp).2.2.1 (dm.2 ⟨_,dt hi,by rw [e]⟩)
end mtab
section loose
variable [gj:wu] [Pa:Q5] {P:Program} {n:Nat} {w0:World} {W:List Nat} {Q:Exit→Act→World→Prop} {E:Env} {L:List dJ} {ops:Array Oper}
def yo{S:Type}(o:Option Nat)(a:Option Addr)(c:Nat)(sp:List Value)(n:Nat)(xs:List S)(m:Nat)(F:List (Option Addr×Nat×List S)):Prop:=
 (a=(o.map fun b=>⟨b,0,none⟩)∧(o≠none→n≤c∧sp.length=(c-n)*m)∧(o=none→xs= []∧c=0))∨(o=none∧(a,c,xs)∈F)
theorem ls0{S:Type}{a:Option Addr}{c:Nat}{sp:List Value}{n:Nat}{xs:List S}{m:Nat}{F:List (Option Addr×Nat×List S)}:yo none a c sp n xs m ((a,c,xs)::F):= .inr ⟨rfl,k6⟩
theorem ls1{S:Type}{a:Option Addr}{c:Nat}{sp:List Value}{n:Nat}{xs:List S}{m:Nat}{p:Option Addr×Nat×List S}{F:List (Option Addr×Nat×List S)}:yo none a c sp n xs m (p::(a,c,xs)::F):=
 .inr ⟨rfl,lJ _ k6⟩
theorem lsO{S:Type}{o:Option Nat}{c:Nat}{sp:List Value}{n:Nat}{xs:List S}{m:Nat}{F:List (Option Addr×Nat×List S)}(h1:o≠none→n≤c∧sp.length=(c-n)*m)(h2:o=none→xs= []∧c=0):
  yo o (o.map fun b=>⟨b,0,none⟩) c sp n xs m F:= .inl ⟨rfl,h1,h2⟩
theorem yo.own{S:Type}{o:Option Nat}{a:Option Addr}{c:Nat}{sp:List Value}{n:Nat}{xs:List S}{m:Nat}(h:yo o a c sp n xs m []):
  a=(o.map fun b=>⟨b,0,none⟩)∧(o≠none→n≤c∧sp.length=(c-n)*m)∧(o=none→xs= []∧c=0):=by
 rcases h with h | ⟨_,h⟩
 ·exact h
 ·cases h
theorem G5{L:List dJ}:(L.filterMap dJ.b).Nodup↔∀(i j:Nat) (x y:dJ) (b:Nat),i≠j→L[i]?=some x→L[j]?=some y→x.b=some b→y.b≠some b:=by
 constructor
 ·intro h i j x y b Ps hx hy hb hc
  exact Ps (tf L h i j x y b hx hy hb hc)
 ·intro h
  unfold List.Nodup
  rw [List.pairwise_filterMap,ou]
  intro i j hi hj Ps b hb b' Oa e
  subst e
  exact h i j L[i] L[j] b (by omega) (by simp [hi]) (by simp [hj]) hb Oa
theorem Mem.mv{w:World}(h:Mem w0 W L w)(i z:Nat){x:dJ}(hz:L[z]?=some x)(Sg:i≠z):Mem w0 W ((L.set z ⟨none,0,[]⟩).set i x) w:=by
 have J4:∀j y,((L.set z ⟨none,0,[]⟩).set i x)[j]?=some y→∀b,y.b=some b→(j=i∧y=x)∨(j≠i∧j≠z∧L[j]?=some y):=by
  intro j y hy b hb
  by_cases hj:i=j
  ·subst hj
   rw [tY] at hy
   split at hy
   ·split at hy
    ·exact .inl ⟨rfl,(e9 hy).symm⟩
    ·cases hy
   ·rename_i hn;exact absurd rfl hn
  ·rw [mq hj] at hy
   by_cases hk:z=j
   ·subst hk
    rw [tY] at hy
    split at hy
    ·split at hy
     ·obtain rfl:=e9 hy;cases hb
     ·cases hy
    ·rename_i hn;exact absurd rfl hn
   ·rw [mq hk] at hy
    exact .inr ⟨fun e=>hj e.symm,fun e=>hk e.symm,hy⟩
 refine h.Rf ?_ ?_ ?_
 ·intro y hy c hc
  obtain⟨j,hj⟩:=ry.1 hy
  rcases J4 j y hj c hc with⟨_,rfl⟩ | ⟨_,_,h3⟩
  ·exact dt hz
  ·exact dt h3
 ·have hd:=G5.1 h.qF
  rw [G5]
  intro j k y y' b hjk hy hy' hb Oa
  rcases J4 j y hy b hb with⟨rfl,rfl⟩ | ⟨h1,h2,h3⟩<;>rcases J4 k y' hy' b Oa with⟨e1,e2⟩ | ⟨g1,g2,g3⟩
  ·exact hjk e1.symm
  ·exact hd z k _ _ b (fun e=>g2 e.symm) hz g3 hb Oa
  ·subst e2;exact hd j z _ _ b h2 h3 hz hb Oa
  ·exact hd j k _ _ b hjk h3 g3 hb Oa
 ·intro p hp
  obtain⟨y,hy,hpy⟩:=gF.1 hp
  rcases mP hy with hy | rfl
  ·exact nR (y:=⟨none,0,[]⟩) zQ p (gF.2 ⟨y,hy,hpy⟩)
  ·exact gF.2 ⟨_,dt hz,hpy⟩
theorem Mem.aaE{w:World}(h:Mem w0 W L w)(i:Nat)(T:TypeId)(cs:List Value)(hT:Nat.beq T kR=false):Mem w0 W (L.set i ⟨none,T,cs⟩) w:=by
 have hf:GD ⟨none,T,cs⟩= []:=Ys hT
 refine h.Rf ?_ ?_ ?_
 ·intro y hy c hc
  rcases mP hy with hy | rfl
  ·exact hy
  ·cases hc
 ·have:(L.set i ⟨none,T,cs⟩).filterMap dJ.b=(L.set i ⟨none,0,[]⟩).filterMap dJ.b:=by
   have e:L.set i ⟨none,T,cs⟩=(L.set i ⟨none,0,[]⟩).set i ⟨none,T,cs⟩:=by rw [List.set_set]
   rw [e]
   by_cases hi:i<L.length
   ·exact ud (x:=⟨none,0,[]⟩) (by simp [hi]) rfl
   ·rw [List.set_eq_of_length_le (by simp;omega)]
  rw [this];exact h.qF.sublist (rG L i)
 ·exact nR hf
theorem Mem.YF{S:Type}{w:World}(h:Mem w0 W L w)(i q z:Nat){T:TypeId}{bh:S→List Value}{o1 o2 o:Option Nat}{a1 a:Option Addr}{c1 c2 c n1 n2 k m:Nat}{H7 Sh sp:List Value}{H8 LC xs:List S}{F:List (Option Addr×Nat×List S)}
  (hi:L[i]?=some ⟨o1,T,row bh H8 H7⟩) (hq:L[q]?=some ⟨o2,T,row bh LC Sh⟩) (hz:L[z]?=some ⟨o,T,row bh xs sp⟩) (jR:nd [i,q,z]=true)
  (l1:yo o1 a1 c1 H7 n1 H8 m F) (zW:H8.length=n1) (LA:o2≠none→n2≤c2∧Sh.length=(c2-n2)*m) (ho2:o2=none→LC= []∧c2=0) (Pg:LC.length=n2) (hn:xs.length=k)
  (hl:yo o a c sp k xs m [(a1,c1,H8),(o2.map fun b=>⟨b,0,none⟩,c2,LC)]):
  ∃o' C1,yo o' a c C1 k xs m F∧Mem w0 W (((L.set i ⟨o',T,row bh xs C1⟩).set q ⟨none,0,[]⟩).set z ⟨none,0,[]⟩) w:=by
 have h1:i≠q∧i≠z∧q≠z:=by
  obtain⟨g1,g2⟩:=xE jR
  obtain⟨g3,g4⟩:=xE g2
  exact⟨g1 q (by simp),g1 z (by simp),g3 z (by simp)⟩
 obtain⟨hiq,Sg,hqz⟩:=h1
 have kk:∀{L:List dJ} {w:World} (j:Nat),Mem w0 W L w→Mem w0 W (L.set j ⟨none,0,[]⟩) w:=fun j h=>h.aaE j 0 [] rfl
 rcases hl with hl | ⟨ho,hF⟩
 ·refine⟨o,sp, .inl hl,?_⟩
  have:=kk q (h.mv i z hz Sg)
  rwa [List.set_comm _ _ (Ne.symm Sg),List.set_comm _ _ (Ne.symm hqz)] at this
 ·rcases eK.1 hF with e | hF
  ·simp only [dS] at e
   obtain⟨rfl,rfl,rfl⟩:=e
   refine⟨o1,H7,by rw [←hn,zW];exact l1,?_⟩
   have:L.set i ⟨o1,T,row bh xs H7⟩=L:=by
    apply List.ext_getElem?
    intro j
    by_cases hj:i=j
    ·subst hj;rw [hi,wl (gY.1 hi).1]
    ·rw [mq hj]
   rw [this]
   exact kk z (kk q h)
  ·simp only [dG,dS] at hF
   obtain⟨rfl,rfl,rfl⟩:=hF
   refine⟨o2,Sh,by rw [←hn,Pg];exact lsO LA ho2,?_⟩
   have:=kk z (h.mv i q hq hiq)
   rwa [List.set_comm _ _ (Ne.symm hiq)] at this
theorem Mem.ls2{S:Type}{w:World}(h:Mem w0 W L w)(i z:Nat){T:TypeId}{bh:S→List Value}{o1 o:Option Nat}{a1 a a2:Option Addr}{c1 c2 c n1 k m:Nat}{H7 sp:List Value}{H8 LC xs:List S}{F:List (Option Addr×Nat×List S)}
  (hi:L[i]?=some ⟨o1,T,row bh H8 H7⟩) (hz:L[z]?=some ⟨o,T,row bh xs sp⟩) (jR:nd [i,z]=true)
  (l1:yo o1 a1 c1 H7 n1 H8 m F) (zW:H8.length=n1) (h2:(a2,c2,LC)∈F∨(a2=none∧c2=0∧LC= [])) (hn:xs.length=k)
  (hl:yo o a c sp k xs m [(a1,c1,H8),(a2,c2,LC)]):
  ∃o' C1,yo o' a c C1 k xs m F∧Mem w0 W ((L.set i ⟨o',T,row bh xs C1⟩).set z ⟨none,0,[]⟩) w:=by
 have Sg:i≠z:=by
  obtain⟨g1,g2⟩:=xE jR
  exact g1 z (by simp)
 have kk:∀{L:List dJ} {w:World} (j:Nat),Mem w0 W L w→Mem w0 W (L.set j ⟨none,0,[]⟩) w:=fun j h=>h.aaE j 0 [] rfl
 rcases hl with hl | ⟨rfl,hF⟩
 ·refine⟨o,sp, .inl hl,?_⟩
  have:=h.mv i z hz Sg
  rwa [List.set_comm _ _ (Ne.symm Sg)] at this
 ·rcases eK.1 hF with e | hF
  ·simp only [dS] at e
   obtain⟨rfl,rfl,rfl⟩:=e
   refine⟨o1,H7,by rw [←hn,zW];exact l1,?_⟩
   have:L.set i ⟨o1,T,row bh xs H7⟩=L:=by
    apply List.ext_getElem?
    intro j
    by_cases hj:i=j
    ·subst hj;rw [hi,wl (gY.1 hi).1]
    ·rw [mq hj]
   rw [this]
   exact kk z h
  ·simp only [dG,dS] at hF
   obtain⟨rfl,rfl,rfl⟩:=hF
   have hm:Mem w0 W ((L.set i ⟨none,T,row bh xs sp⟩).set z ⟨none,0,[]⟩) w:=by
    have:=h.mv i z hz Sg
    rwa [List.set_comm _ _ (Ne.symm Sg)] at this
   refine⟨none,sp,?_,hm⟩
   rcases h2 with h2 | ⟨rfl,rfl,rfl⟩
   ·exact .inr ⟨rfl,h2⟩
   ·exact .inl ⟨rfl,fun e=>absurd rfl e,fun _=>⟨rfl,rfl⟩⟩
theorem Si{K:Act→World→Prop}{S:Type}(i:Nat)(T:TypeId)(bh:S→List Value)(xs:List S)(h:JK n w0 W K E (L.set i ⟨none,T,row bh xs []⟩))(hT:Nat.beq T kR=false:=by kernel_rfl):JK n w0 W K E L:=
 fun a w cX=>h a w (cX.qG (cX.mem.aaE i T _ hT))
theorem aaF{K:Act→World→Prop}(i z:Nat)(x:dJ)(h:JK n w0 W K E ((L.set z ⟨none,0,[]⟩).set i x))(hz:L[z]?=some x:=by kernel_rfl)(Sg:Nat.beq i z=false:=by kernel_rfl):JK n w0 W K E L:=
 fun a w cX=>h a w (cX.qG (cX.mem.mv i z hz (fun e=>by rw [e] at Sg;simp at Sg)))
end loose
end Go.Proofs.YtplklknkkaeniaaGreat.Eng
