/- Tables: rows of rows that are not written any more. -/
import Derived.Test.YtolfkfjjifdmeaaGreatEng
namespace Go.Proofs.YtolfkfjjifdmeaaGreat.Eng
open Go
set_option linter.unusedSectionVars false
section
variable [dsW:DrwS] [dfW:DfS] {P:Program} {n:Nat} {w0:World} {W:List Nat} {Q:Exit→Act→World→Prop} {E:Env} {L:List Blk} {ops:Array Oper}
def cluV:Option Addr→List Value→Value
 | some a,vs=> .tuple #[.pointer (some ⟨a.block,a.off,none⟩), .agg vs.toArray]
 | none,_=> .nilIface
def cluC{S:Type}(enc:S→List Value)(hs:List Hd)(xss:List (List S)):List Value:=(hs.zip xss).map fun p=>cluV p.1.a (row enc p.2 [])
def InP{S:Type}(hs:List Hd)(xss:List (List S)):Prop:=
 hs.length=xss.length∧∀(i:Nat) h xs,hs[i]?=some h→xss[i]?=some xs→xs.length=h.n∧(xs≠ []→h.a=some ⟨aB h.a,aO h.a,none⟩)
theorem InP.nil{S:Type}:InP [] ([]:List (List S)):=⟨rfl,fun i h xs hh=>by simp at hh⟩
theorem InP.snoc{S:Type}{hs:List Hd}{xss:List (List S)}(h:InP hs xss){o:Option Nat}{xs:List S}{m c:Nat}(hn:xs.length=m)(ho:o=none→xs= []):InP (hs++ [⟨o.map fun b=>⟨b,0,none⟩,m,c⟩]) (xss++ [xs]):=by
 refine⟨by simp [h.1],?_⟩
 intro i g ys hg hy
 rcases Nat.lt_or_ge i hs.length with hi | hi
 ·rw [List.getElem?_append_left hi] at hg
  rw [List.getElem?_append_left (by rw [←h.1];exact hi)] at hy
  exact h.2 i g ys hg hy
 ·rw [List.getElem?_append_right hi] at hg
  rw [List.getElem?_append_right (by rw [←h.1];exact hi)] at hy
  rw [←h.1] at hy
  have e:i-hs.length=0:=by
   rcases Nat.eq_zero_or_pos (i-hs.length) with e | e
   ·exact e
   ·rw [List.getElem?_eq_none (by simp;omega)] at hg;cases hg
  rw [e] at hg hy
  simp only [List.getElem?_cons_zero,Option.some.injEq] at hg hy
  subst hg hy
  refine⟨hn,fun hne=> ?_⟩
  cases o with
  | none=>exact absurd (ho rfl) hne
  | some b=>rfl
theorem InP.ixh{S:Type}{hs:List Hd}{xss:List (List S)}(h:InP hs xss){j:Int}{x:List S}(hx:ix xss j=some x):ix hs j=some (hd hs j):=by
 obtain⟨h0,_,h2⟩:=ix_some hx
 have hl:j.toNat<hs.length:=by rw [h.1];exact(List.getElem?_eq_some_iff.1 h2).1
 unfold ix
 rw [if_pos h0]
 simp [hd,hl]
theorem InP.get{S:Type}{hs:List Hd}{xss:List (List S)}(h:InP hs xss){j:Int}{x:List S}(hx:ix xss j=some x):x.length=(hd hs j).n∧(x≠ []→(hd hs j).a=some ⟨aB (hd hs j).a,aO (hd hs j).a,none⟩):=by
 obtain⟨h0,_,h2⟩:=ix_some hx
 have hl:j.toNat<hs.length:=by rw [h.1];exact(List.getElem?_eq_some_iff.1 h2).1
 have:=h.2 j.toNat hs[j.toNat] x (by simp [hl]) h2
 simpa [hd,hl] using this
theorem InP.sp{S:Type}{hs:List Hd}{xss:List (List S)}(h:InP hs xss){j:Int}{x:List S}(hx:ix xss j=some x){k:Int}{y:S}(hy:ix x k=some y):(hd hs j).a=some ⟨aB (hd hs j).a,aO (hd hs j).a,none⟩:=(h.get hx).2 (ne_ix hy)
theorem tabbig{S:Type}{hs:List Hd}{xss:List (List S)}(h:InP hs xss){g:Hd}(hg:xss.length+1≤4294967296):hs.length+ [g].length≤4294967296:=by rw [h.1];exact hg
theorem cluC_snoc{S:Type}{enc:S→List Value}{hs:List Hd}{xss:List (List S)}(h:hs.length=xss.length)(g:Hd)(xs:List S):cluC enc (hs++ [g]) (xss++ [xs])=cluC enc hs xss++ [cluV g.a (row enc xs [])]:=by
 unfold cluC
 rw [List.zip_append h]
 simp
theorem fz_cluV{a:Option Addr}{vs:List Value}{p:Nat×Nat×List Value}(h:fz (cluV a vs)=some p):a≠none∧p=(aB a,aO a,vs):=by
 cases a with
 | none=>simp [cluV,fz] at h
 | some a=>
  simp only [cluV,fz,Option.some.injEq] at h
  exact⟨by simp,h.symm⟩
theorem fzs_clu{cs:List Value}{p:Nat×Nat×List Value}:p∈fzs ⟨none,CLU,cs⟩↔∃v∈cs,fz v=some p:=by
 unfold fzs
 simp
theorem Mem.cluInn{S:Type}{w:World}(h:Mem w0 W L w)(c:Nat){enc:S→List Value}{hs:List Hd}{xss:List (List S)}(hI:InP hs xss){m:Nat}(hm:∀x,(enc x).length=m)(hx:L[c]?=some ⟨none,CLU,cluC enc hs xss⟩:=by kernel_rfl):
  Inn w (L.filterMap Blk.b) m enc hs xss:=by
 intro i xs hi
 have hil:i<hs.length:=by rw [hI.1];exact(List.getElem?_eq_some_iff.1 hi).1
 have hg:hs[i]?=some hs[i]:=by simp [hil]
 obtain⟨h1,h2⟩:=hI.2 i hs[i] xs hg hi
 refine⟨hs[i],hg,?_,h1,?_⟩
 ·have key:xs≠ []→FzOk w0 W w (L.filterMap Blk.b) (aB hs[i].a,aO hs[i].a,row enc xs []):=by
   intro hne
   refine h.clu _ (mem_frz.2 ⟨_,List.mem_of_getElem? hx,fzs_clu.2 ⟨cluV hs[i].a (row enc xs []),?_,?_⟩⟩)
   ·unfold cluC
    refine List.mem_map.2 ⟨(hs[i],xs),?_,rfl⟩
    exact List.mem_of_getElem? (i:=i) (by rw [List.getElem?_zip_eq_some];exact⟨hg,hi⟩)
   ·rw [h2 hne];rfl
  constructor
  ·intro hne;exact⟨h2 hne,(key hne).2.1⟩
  ·intro j x hj k v hv
   have hne:xs≠ []:=by rintro rfl;simp at hj
   have hf:=flatMap_get hm xs j x hj k v hv
   have:=(key hne).2.2.2.1 (j*m+k) v (by simpa [row] using hf)
   simpa [Nat.add_assoc] using this
 ·intro hne hin
  have:FzOk w0 W w (L.filterMap Blk.b) (aB hs[i].a,aO hs[i].a,row enc xs []):=by
   refine h.clu _ (mem_frz.2 ⟨_,List.mem_of_getElem? hx,fzs_clu.2 ⟨cluV hs[i].a (row enc xs []),?_,?_⟩⟩)
   ·unfold cluC
    refine List.mem_map.2 ⟨(hs[i],xs),?_,rfl⟩
    exact List.mem_of_getElem? (i:=i) (by rw [List.getElem?_zip_eq_some];exact⟨hg,hi⟩)
   ·rw [h2 hne];rfl
  exact this.2.2.1 hin
theorem Inn.sub{S:Type}{w:World}{B B':List Nat}{m:Nat}{enc:S→List Value}{hs:List Hd}{xss:List (List S)}(h:Inn w B m enc hs xss)(hB:∀b∈B',b∈B):Inn w B' m enc hs xss:=by
 intro i xs hi
 obtain⟨y,h1,h2,h3,h4⟩:=h i xs hi
 exact⟨y,h1,h2,h3,fun hne hb=>h4 hne (hB _ hb)⟩
theorem Mem.cluPass{S:Type}{w:World}(h:Mem w0 W L w)(c:Nat){enc:S→List Value}{hs:List Hd}{xss:List (List S)}(hI:InP hs xss){m:Nat}(hm:∀x,(enc x).length=m)(l:List Nat){N:List Blk}
  (hx:L[c]?=some ⟨none,CLU,cluC enc hs xss⟩:=by kernel_rfl) (hN:at_ L l=N:=by kernel_rfl):Inn w (bs (N.map Blk.b)) m enc hs xss:=by
 subst hN
 refine(h.cluInn c hI hm hx).sub fun b hb=> ?_
 rw [bs_map] at hb
 obtain⟨x,hx,hxb⟩:=List.mem_filterMap.1 hb
 exact List.mem_filterMap.2 ⟨x,at_mem x hx,hxb⟩
theorem Mem.freeze{S:Type}{w:World}(h:Mem w0 W L w)(c i:Nat){enc:S→List Value}{hs:List Hd}{xss:List (List S)}{o:Option Nat}{T:TypeId}{xs:List S}{sp:List Value}{m cap:Nat}(hl:hs.length=xss.length)
  (hc:L[c]?=some ⟨none,CLU,cluC enc hs xss⟩) (hi:L[i]?=some ⟨o,T,row enc xs sp⟩) (hci:Nat.beq c i=false):Mem w0 W ((L.set c ⟨none,CLU,cluC enc (hs++ [⟨o.map fun b=>⟨b,0,none⟩,m,cap⟩]) (xss++ [xs])⟩).set i ⟨none,0,[]⟩) w:=by
 have hne:c≠i:=fun e=>by rw [e] at hci;simp at hci
 have hsub:∀x∈(L.set c ⟨none,CLU,cluC enc (hs++ [⟨o.map fun b=>⟨b,0,none⟩,m,cap⟩]) (xss++ [xs])⟩).set i ⟨none,0,[]⟩,∀b,x.b=some b→x∈L:=by
  intro x hx b hb
  rcases List.mem_or_eq_of_mem_set hx with hx | rfl
  ·rcases List.mem_or_eq_of_mem_set hx with hx | rfl
   ·exact hx
   ·cases hb
  ·cases hb
 have hsl:∀{L:List Blk} {c:Nat} {cs:List Value} {T':TypeId} {cs':List Value},L[c]?=some ⟨none,T',cs'⟩→(L.set c ⟨none,CLU,cs⟩).filterMap Blk.b=L.filterMap Blk.b:=fun h=>nodup_set h rfl
 have hfm:((L.set c ⟨none,CLU,cluC enc (hs++ [⟨o.map fun b=>⟨b,0,none⟩,m,cap⟩]) (xss++ [xs])⟩).set i ⟨none,0,[]⟩).filterMap Blk.b=(L.set i ⟨none,0,[]⟩).filterMap Blk.b:=by
  rw [List.set_comm _ _ hne]
  exact hsl (by rw [List.getElem?_set_ne (Ne.symm hne)];exact hc)
 have hB:∀b,b∈(L.set i ⟨none,0,[]⟩).filterMap Blk.b→b∈L.filterMap Blk.b:=fun b hb=>(set_none_sub L i).subset hb
 refine⟨h.os,h.tape,h.output,h.drw,h.size,h.old,fun x hx b hb=>h.own x (hsub x hx b hb) b hb,?_,fun x hx b hb=>h.new x (hsub x hx b hb) b hb,?_⟩
 ·rw [hfm];exact h.dis.sublist (set_none_sub L i)
 ·intro p hp
  rw [hfm]
  have hp:=frz_set_sub (y:=⟨none,0,[]⟩) fzs_none p hp
  obtain⟨x,hx,hpx⟩:=mem_frz.1 hp
  have hold:p∈frz L→FzOk w0 W w ((L.set i ⟨none,0,[]⟩).filterMap Blk.b) p:=fun hq=>(h.clu p hq).mono (hB _) (Nat.le_refl _) rfl
  rcases List.mem_or_eq_of_mem_set hx with hx | rfl
  ·exact hold (mem_frz.2 ⟨x,hx,hpx⟩)
  ·rw [cluC_snoc hl] at hpx
   obtain⟨v,hv,hfv⟩:=fzs_clu.1 hpx
   rcases List.mem_append.1 hv with hv | hv
   ·exact hold (mem_frz.2 ⟨_,List.mem_of_getElem? hc,fzs_clu.2 ⟨v,hv,hfv⟩⟩)
   ·simp only [List.mem_singleton] at hv
    subst hv
    obtain⟨h1,rfl⟩:=fz_cluV hfv
    cases o with
    | none=>exact absurd rfl h1
    | some b=>
     have hin:=List.mem_of_getElem? hi
     refine⟨?_,h.lt hin rfl,?_,?_,⟨_,_,h.own _ hin b rfl⟩⟩
     ·exact h.new _ hin b rfl
     ·intro hb
      obtain⟨y,hy,hyb⟩:=List.mem_filterMap.1 hb
      rcases mem_set_of (y:=⟨none,0,[]⟩) hi h.dis hy with rfl | ⟨_,h3⟩
      ·cases hyb
      ·exact h3 b b hyb rfl rfl
     ·intro k v hv
      have hv:(row enc xs [])[k]?=some v:=hv
      have:=h.cell hin rfl k v (by
       unfold row at hv⊢
       rw [List.append_nil] at hv
       rw [List.getElem?_append_left (List.getElem?_eq_some_iff.1 hv).1];exact hv)
      simpa [aB,aO] using this
theorem jk_frz{K:Act→World→Prop}{S:Type}(c i m cap:Nat){enc:S→List Value}{hs:List Hd}{xss:List (List S)}{o:Option Nat}{T:TypeId}{xs:List S}{sp:List Value}(hI:InP hs xss)
  (h:JK n w0 W K E ((L.set c ⟨none,CLU,cluC enc (hs++ [⟨o.map fun b=>⟨b,0,none⟩,m,cap⟩]) (xss++ [xs])⟩).set i ⟨none,0,[]⟩))
  (hc:L[c]?=some ⟨none,CLU,cluC enc hs xss⟩:=by kernel_rfl) (hi:L[i]?=some ⟨o,T,row enc xs sp⟩:=by kernel_rfl) (hci:Nat.beq c i=false:=by kernel_rfl):JK n w0 W K E L:=
 fun a w hok=>h a w (hok.mem' (hok.mem.freeze c i hI.1 hc hi hci))
theorem jk_clu{K:Act→World→Prop}{S:Type}(enc:S→List Value)(h:JK n w0 W K E (L++ [⟨none,CLU,cluC enc [] []⟩])):JK n w0 W K E L:=fun a w hok=>h a w (hok.mem' (hok.mem.ghost CLU))
theorem jk_ghost{K:Act→World→Prop}{S:Type}(T:TypeId)(enc:S→List Value)(h:JK n w0 W K E (L++ [⟨none,T,row enc [] []⟩])):JK n w0 W K E L:=fun a w hok=>h a w (hok.mem' (hok.mem.ghost T))
end
section mtab
variable [dsW:DrwS] [dfW:DfS] {P:Program} {n:Nat} {w0:World} {W:List Nat} {Q:Exit→Act→World→Prop} {E:Env} {L:List Blk} {ops:Array Oper}
def hbs(hs:List Hd):List Nat:=hs.filterMap fun h=>h.a.map (·.block)
def Dst(hs:List Hd):Prop:=(hbs hs).Nodup
theorem Dst.nil:Dst []:=List.nodup_nil
theorem hbs_frz{S:Type}{enc:S→List Value}{hs:List Hd}{xss:List (List S)}(hI:InP hs xss){c:Nat}(hc:L[c]?=some ⟨none,CLU,cluC enc hs xss⟩){b:Nat}(hb:b∈hbs hs):∃p∈frz L,p.1=b:=by
 obtain⟨h,hh,hb⟩:=List.mem_filterMap.1 hb
 obtain⟨a,ha,rfl⟩:=Option.map_eq_some_iff.1 hb
 obtain⟨i,hi⟩:=List.mem_iff_getElem?.1 hh
 have hil:i<xss.length:=by rw [←hI.1];exact(List.getElem?_eq_some_iff.1 hi).1
 refine⟨(a.block,a.off,row enc xss[i] []),mem_frz.2 ⟨_,List.mem_of_getElem? hc,fzs_clu.2 ⟨cluV h.a (row enc xss[i] []),?_,by rw [ha];rfl⟩⟩,rfl⟩
 unfold cluC
 refine List.mem_map.2 ⟨(h,xss[i]),List.mem_of_getElem? (i:=i) ?_,rfl⟩
 rw [List.getElem?_zip_eq_some]
 exact⟨hi,by simp [hil]⟩
theorem clu_frz{S:Type}{enc:S→List Value}{hs:List Hd}{xss:List (List S)}{p:Nat×Nat×List Value}(hp:p∈fzs ⟨none,CLU,cluC enc hs xss⟩):
  ∃(i:Nat) (h:Hd) (xs:List S) (a:Addr),hs[i]?=some h∧xss[i]?=some xs∧h.a=some a∧p=(a.block,a.off,row enc xs []):=by
 obtain⟨v,hv,hf⟩:=fzs_clu.1 hp
 unfold cluC at hv
 obtain⟨⟨h,xs⟩,hz,rfl⟩:=List.mem_map.1 hv
 obtain⟨i,hi⟩:=List.mem_iff_getElem?.1 hz
 rw [List.getElem?_zip_eq_some] at hi
 obtain⟨h1,rfl⟩:=fz_cluV hf
 cases ha:h.a with
 | none=>exact absurd ha h1
 | some a=>exact⟨i,h,xs,a,hi.1,hi.2,ha,by simp only [aB,aO]⟩
theorem hd_hbs{hs:List Hd}{h:Hd}{a:Addr}(hh:h∈hs)(ha:h.a=some a):a.block∈hbs hs:=List.mem_filterMap.2 ⟨h,hh,by rw [ha];rfl⟩
theorem Dst.ne{hs:List Hd}(h:Dst hs){i j:Nat}{x y:Hd}{a b:Addr}(hij:i≠j)(hx:hs[i]?=some x)(hy:hs[j]?=some y)(ha:x.a=some a)(hb:y.a=some b):a.block≠b.block:=by
 unfold Dst hbs List.Nodup at h
 rw [List.pairwise_filterMap,List.pairwise_iff_getElem] at h
 obtain⟨hi,rfl⟩:=List.getElem?_eq_some_iff.1 hx
 obtain⟨hj,rfl⟩:=List.getElem?_eq_some_iff.1 hy
 rcases Nat.lt_or_gt_of_ne hij with hlt | hlt
 ·exact h i j hi hj hlt a.block (by rw [ha];rfl) b.block (by rw [hb];rfl)
 ·exact Ne.symm (h j i hj hi hlt b.block (by rw [hb];rfl) a.block (by rw [ha];rfl))
theorem Mem.cluM{S:Type}{w:World}(h:Mem w0 W L w)(c:Nat){enc:S→List Value}{hs:List Hd}{xss:List (List S)}(_hI:InP hs xss)(hc:L[c]?=some ⟨none,CLU,cluC enc hs xss⟩:=by kernel_rfl):
  Mem w (hbs hs) [⟨none,CLU,cluC enc hs xss⟩] w:=by
 refine⟨rfl,rfl,rfl,Drw.of_le (Nat.le_refl _),Nat.le_refl _,fun b _ _=>rfl,?_,by simp,?_,?_⟩
 ·intro x hx b hb;simp only [List.mem_singleton] at hx;subst hx;cases hb
 ·intro x hx b hb;simp only [List.mem_singleton] at hx;subst hx;cases hb
 ·intro p hp
  have hp':p∈fzs ⟨none,CLU,cluC enc hs xss⟩:=by
   obtain⟨x,hx,hpx⟩:=mem_frz.1 hp
   simp only [List.mem_singleton] at hx;subst hx;exact hpx
  have hq:=h.clu p (mem_frz.2 ⟨_,List.mem_of_getElem? hc,hp'⟩)
  obtain⟨i,hh,xs,a,h1,_,h3,rfl⟩:=clu_frz hp'
  exact⟨.inl (hd_hbs (List.mem_of_getElem? h1) h3),hq.2.1,by simp,hq.2.2.2⟩
theorem Mem.appC{S:Type}{w w':World}(h:Mem w0 W L w)(c:Nat){enc:S→List Value}{hs:List Hd}{xss xss':List (List S)}(hI:InP hs xss)(h':Mem w (hbs hs) [⟨none,CLU,cluC enc hs xss'⟩] w')
  (hc:L[c]?=some ⟨none,CLU,cluC enc hs xss⟩:=by kernel_rfl) (hn:nof (L.set c ⟨none,0,[]⟩)=true:=by kernel_rfl):Mem w0 W (L.set c ⟨none,CLU,cluC enc hs xss'⟩) w':=by
 have hfm:(L.set c ⟨none,CLU,cluC enc hs xss'⟩).filterMap Blk.b=L.filterMap Blk.b:=nodup_set hc rfl
 have hout:∀b,b∈L.filterMap Blk.b→b∉hbs hs:=by
  intro b hb hin
  obtain⟨p,hp,rfl⟩:=hbs_frz hI hc hin
  exact(h.clu p hp).2.2.1 hb
 refine⟨h'.os.trans h.os,h'.tape.trans h.tape,h'.output.trans h.output,h.drw.trans h'.drw,Nat.le_trans h.size h'.size,?_,?_,by rw [hfm];exact h.dis,?_,?_⟩
 ·intro b hb hW
  rw [h'.old b (Nat.lt_of_lt_of_le hb h.size) (fun hin=>by
   obtain⟨p,hp,rfl⟩:=hbs_frz hI hc hin
   rcases(h.clu p hp).1 with h1 | h1
   ·exact hW h1
   ·omega)]
  exact h.old b hb hW
 ·intro x hx b hb
  rcases List.mem_or_eq_of_mem_set hx with hx | rfl
  ·rw [h'.old b (h.lt hx hb) (hout b (List.mem_filterMap.2 ⟨x,hx,hb⟩))]
   exact h.own x hx b hb
  ·cases hb
 ·intro x hx b hb
  rcases List.mem_or_eq_of_mem_set hx with hx | rfl
  ·exact h.new x hx b hb
  ·cases hb
 ·intro p hp
  rw [hfm]
  obtain⟨x,hx,hpx⟩:=mem_frz.1 hp
  have hx2:p∈fzs ⟨none,CLU,cluC enc hs xss'⟩:=by
   obtain⟨i,hi⟩:=List.mem_iff_getElem?.1 hx
   by_cases hci:c=i
   ·subst hci
    rw [List.getElem?_set_self (List.getElem?_eq_some_iff.1 hc).1] at hi
    obtain rfl:=Option.some.inj hi
    exact hpx
   ·rw [List.getElem?_set_ne hci] at hi
    have:p∈frz (L.set c ⟨none,0,[]⟩):=mem_frz.2 ⟨x,List.mem_of_getElem? (i:=i) (by rw [List.getElem?_set_ne hci];exact hi),hpx⟩
    rw [frz_nof hn] at this
    cases this
  have hq:=h'.clu p (mem_frz.2 ⟨_,List.mem_singleton.2 rfl,hx2⟩)
  obtain⟨i,hh,xs,a,h1,_,h3,rfl⟩:=clu_frz hx2
  obtain⟨p0,hp0,e0⟩:=hbs_frz hI hc (hd_hbs (List.mem_of_getElem? h1) h3)
  have q1:=(h.clu p0 hp0).1
  have q3:=(h.clu p0 hp0).2.2.1
  rw [e0] at q1 q3
  exact⟨q1,hq.2.1,q3,hq.2.2.2⟩
theorem Mem.exApartM{S R:Type}{w:World}(h:Mem w0 W L w)(c:Nat){enc:S→List Value}{hs:List Hd}{xss:List (List S)}(hI:InP hs xss){a:Option Addr}{m:Nat}{enc2:R→List Value}{xs:List R}(hr:Rw w0 a m enc2 xs)(hW:xs≠ []→aB a∉W)
  (hc:L[c]?=some ⟨none,CLU,cluC enc hs xss⟩:=by kernel_rfl):xs≠ []→aB a∉hbs hs:=by
 intro hx hin
 obtain⟨p,hp,e⟩:=hbs_frz hI hc hin
 have h1:=(hr.spot hx).2
 rcases(h.clu p hp).1 with h2 | h2
 ·rw [e] at h2;exact hW hx h2
 ·rw [e] at h2;omega
theorem Mem.ownApartM{S R:Type}{w:World}(h:Mem w0 W L w)(c:Nat){enc:S→List Value}{hs:List Hd}{xss:List (List S)}(hI:InP hs xss){hh:Nat}{o:Option Nat}{T:TypeId}{cs:List Value}{xs:List R}(hx:L[hh]?=some ⟨o,T,cs⟩)(ho:o=none→xs= [])
  (hc:L[c]?=some ⟨none,CLU,cluC enc hs xss⟩:=by kernel_rfl):xs≠ []→aB (o.map fun b=>⟨b,0,none⟩)∉hbs hs:=by
 intro hne hin
 cases o with
 | none=>exact hne (ho rfl)
 | some b=>
  obtain⟨p,hp,e⟩:=hbs_frz hI hc hin
  have e:p.1=b:=e
  exact(h.clu p hp).2.2.1 (List.mem_filterMap.2 ⟨_,List.mem_of_getElem? hx,by rw [e]⟩)
theorem Mem.innPassM{S R:Type}{w:World}(h:Mem w0 W L w)(c:Nat){enc:S→List Value}{hs:List Hd}{xss:List (List S)}(hI:InP hs xss){m:Nat}{enc2:R→List Value}{gs:List Hd}{yss:List (List R)}(hi:Inn w0 W m enc2 gs yss)
  (hc:L[c]?=some ⟨none,CLU,cluC enc hs xss⟩:=by kernel_rfl):Inn w (hbs hs) m enc2 gs yss:=by
 intro i xs hx
 obtain⟨y,hy,h1,h2,h3⟩:=hi i xs hx
 exact⟨y,hy,h.exRowW h1 h3,h2,h.exApartM c hI h1 h3 hc⟩
theorem InP.set{S:Type}{hs:List Hd}{xss:List (List S)}(h:InP hs xss){j:Int}{x x':List S}(hx:ix xss j=some x)(hl:x'.length=x.length):InP hs (xss.set j.toNat x'):=by
 obtain⟨_,_,h2⟩:=ix_some hx
 refine⟨by rw [List.length_set];exact h.1,?_⟩
 intro i g ys hg hy
 by_cases e:j.toNat=i
 ·subst e
  rw [List.getElem?_set_self (List.getElem?_eq_some_iff.1 h2).1] at hy
  obtain rfl:=Option.some.inj hy
  obtain⟨a1,a2⟩:=h.2 _ g x hg h2
  exact⟨hl.trans a1,fun hne=>a2 (fun e=>by subst e;exact hne (List.eq_nil_of_length_eq_zero (by simpa using hl)))⟩
 ·rw [List.getElem?_set_ne e] at hy
  exact h.2 i g ys hg hy
theorem pre_of{A:Type}:∀(a b:List A),(∀(t:Nat) (v:A),a[t]?=some v→b[t]?=some v)→∃r,b=a++r:=by
 intro a
 induction a with
 | nil=>intro b _;exact⟨b,rfl⟩
 | cons x a ih=>
  intro b h
  cases b with
  | nil=>have:=h 0 x rfl;simp at this
  | cons y b=>
   have h0:=h 0 x rfl
   simp only [List.getElem?_cons_zero,Option.some.injEq] at h0
   subst h0
   obtain⟨r,hr⟩:=ih b (fun t v hv=>by simpa using h (t+1) v (by simpa using hv))
   exact⟨r,by rw [hr];rfl⟩
theorem storeM{S:Type}{w:World}(h:Mem w0 W L w){c:Nat}{enc:S→List Value}{hs:List Hd}{xss:List (List S)}(hI:InP hs xss)(hD:Dst hs){j k:Int}{x:List S}{y0 y:S}{m:Nat}(hx:ix xss j=some x)(hy:ix x k=some y0)
  (hm:∀x,(enc x).length=m) (h0:0<m) (hcell:∀v∈enc y,isCell v=true) (hc:L[c]?=some ⟨none,CLU,cluC enc hs xss⟩):
  ∃w',(storeCells ⟨aB (hd hs j).a,aO (hd hs j).a+k.toNat*m,none⟩ (enc y) 0).run P w= .ok () w'∧Mem w (hbs hs) [⟨none,CLU,cluC enc hs (xss.set j.toNat (x.set k.toNat y))⟩] w':=by
 obtain⟨_,_,hx2⟩:=ix_some hx
 obtain⟨_,_,hy2⟩:=ix_some hy
 have hsp:=hI.sp hx hy
 have hlen:j.toNat<hs.length:=by rw [hI.1];exact(List.getElem?_eq_some_iff.1 hx2).1
 have hhd:hs[j.toNat]?=some (hd hs j):=by simp [hd,hlen]
 generalize hB:aB (hd hs j).a=B at*
 generalize hO:aO (hd hs j).a=O at*
 have hq:FzOk w0 W w (L.filterMap Blk.b) (B,O,row enc x []):=by
  refine h.clu _ (mem_frz.2 ⟨_,List.mem_of_getElem? hc,fzs_clu.2 ⟨cluV (hd hs j).a (row enc x []),?_,by rw [hsp];rfl⟩⟩)
  unfold cluC
  refine List.mem_map.2 ⟨(hd hs j,x),List.mem_of_getElem? (i:=j.toNat) ?_,rfl⟩
  rw [List.getElem?_zip_eq_some]
  exact⟨hhd,hx2⟩
 obtain⟨_,hlt,_,hAt,cs,T,hcs⟩:=hq
 have hBin:B∈hbs hs:=by
  have:=hd_hbs (List.mem_of_getElem? hhd) hsp
  exact this
 have hget:∀(t:Nat) v,(row enc x [])[t]?=some v→(cs.toList.drop O)[t]?=some v:=by
  intro t v hv
  have:=hAt t v hv
  simp only [World.cell?,hcs] at this
  rw [List.getElem?_drop,Array.getElem?_toList]
  exact this
 obtain⟨rest,hrest⟩:=pre_of _ _ hget
 have hrl:(row enc x []).length=x.length*m:=by rw [row,List.append_nil,flatMap_len hm]
 have hkl:k.toNat<x.length:=(List.getElem?_eq_some_iff.1 hy2).1
 have hkm:k.toNat*m+m≤x.length*m:=by
  have:(k.toNat+1)*m≤x.length*m:=Nat.mul_le_mul_right _ hkl
  rwa [Nat.succ_mul] at this
 have hOl:O≤cs.toList.length:=by
  rcases Nat.lt_or_ge cs.toList.length O with hh | hh
  ·have:cs.toList.drop O= []:=List.drop_of_length_le (Nat.le_of_lt hh)
   rw [this] at hrest
   have:=congrArg List.length hrest
   simp only [List.length_nil,List.length_append,hrl] at this
   omega
  ·exact hh
 have hsplit:cs.toList=cs.toList.take O++(row enc x []++rest):=by rw [←hrest,List.take_append_drop]
 have htk:(cs.toList.take O).length=O:=by rw [List.length_take];omega
 have hM0:Mem w [B] [⟨some B,T,cs.toList⟩] w:=by
  refine⟨rfl,rfl,rfl,Drw.of_le (Nat.le_refl _),Nat.le_refl _,fun b _ _=>rfl,?_,by simp,?_,fun p hp=>by simp [frz,fzs] at hp⟩
  ·intro z hz b hb;simp only [List.mem_singleton] at hz;subst hz;cases hb;simpa using hcs
  ·intro z hz b hb;simp only [List.mem_singleton] at hz;subst hz;cases hb;exact .inl (by simp)
 obtain⟨w',hr,hm'⟩:=storeCells_run (P:=P) (enc y) (O+k.toNat*m) 0 cs.toList [⟨some B,T,cs.toList⟩] w hM0 (hh:=0) rfl (by
  rw [hsplit,List.length_append,List.length_append,htk,hrl,hm];omega) hcell
 refine⟨w',hr,?_⟩
 have hnew:spl cs.toList (O+k.toNat*m+0) (enc y)=cs.toList.take O++(row enc (x.set k.toNat y) []++rest):=by
  have e1:spl (cs.toList.take O++(row enc x []++rest)) ((cs.toList.take O).length+k.toNat*m) (enc y)=cs.toList.take O++spl (row enc x []++rest) (k.toNat*m) (enc y):=spl_right _ _ _ _
  have e2:spl (row enc x []++rest) (k.toNat*m) (enc y)=spl (row enc x []) (k.toNat*m) (enc y)++rest:=spl_left _ _ _ _ (by rw [hrl,hm];omega)
  have e3:spl (row enc x []) (k.toNat*m) (enc y)=row enc (x.set k.toNat y) []:=by
   have:=spl_row (f:=0) (vs:=enc y) (y:=y) (sp:= []) hm hy2 (by rw [hm];omega) (by rw [spl_all _ _ (by rw [hm,hm];exact Nat.le_refl _)];simp [hm])
   simpa using this
  rw [htk,←hsplit] at e1
  rw [Nat.add_zero,e1,e2,e3]
 rw [hnew] at hm'
 have hown:w'.heap[B]?=some (.cells (cs.toList.take O++(row enc (x.set k.toNat y) []++rest)).toArray T (0,0)):=hm'.own _ (List.mem_singleton.2 rfl) B rfl
 refine⟨hm'.os,hm'.tape,hm'.output,hm'.drw,hm'.size,?_,?_,by simp,?_,?_⟩
 ·intro b hb hnb
  exact hm'.old b hb (by simp only [List.mem_singleton];rintro rfl;exact hnb hBin)
 ·intro z hz b hb;simp only [List.mem_singleton] at hz;subst hz;cases hb
 ·intro z hz b hb;simp only [List.mem_singleton] at hz;subst hz;cases hb
 ·intro p hp
  have hp':p∈fzs ⟨none,CLU,cluC enc hs (xss.set j.toNat (x.set k.toNat y))⟩:=by
   obtain⟨z,hz,hpz⟩:=mem_frz.1 hp
   simp only [List.mem_singleton] at hz;subst hz;exact hpz
  obtain⟨i,g,xs,a,h1,h2,h3,rfl⟩:=clu_frz hp'
  by_cases e:j.toNat=i
  ·subst e
   rw [List.getElem?_set_self (List.getElem?_eq_some_iff.1 hx2).1] at h2
   obtain rfl:=Option.some.inj h2
   rw [hhd] at h1
   obtain rfl:=Option.some.inj h1
   rw [hsp] at h3
   obtain rfl:=Option.some.inj h3
   refine⟨.inl hBin,Nat.lt_of_lt_of_le hlt hm'.size,by simp,?_,⟨_,_,hown⟩⟩
   intro t v hv
   simp only [World.cell?,hown]
   show (cs.toList.take O++(row enc (x.set k.toNat y) []++rest)).toArray[O+t]?=some v
   rw [List.getElem?_toArray,List.getElem?_append_right (by rw [htk];omega),htk,Nat.add_sub_cancel_left,List.getElem?_append_left (List.getElem?_eq_some_iff.1 hv).1]
   exact hv
  ·rw [List.getElem?_set_ne e] at h2
   have hne:a.block≠B:=fun eb=>hD.ne (Ne.symm e) h1 hhd h3 hsp eb
   have hq:FzOk w0 W w (L.filterMap Blk.b) (a.block,a.off,row enc xs []):=by
    refine h.clu _ (mem_frz.2 ⟨_,List.mem_of_getElem? hc,fzs_clu.2 ⟨cluV g.a (row enc xs []),?_,by rw [h3];rfl⟩⟩)
    unfold cluC
    refine List.mem_map.2 ⟨(g,xs),List.mem_of_getElem? (i:=i) ?_,rfl⟩
    rw [List.getElem?_zip_eq_some]
    exact⟨h1,h2⟩
   have hq2:=hq.mono (B':= []) (by simp) hm'.size (hm'.old a.block hq.2.1 (by simpa using hne))
   exact⟨.inl (hd_hbs (List.mem_of_getElem? h1) h3),hq2.2⟩
theorem p_strM{K:Act→World→Prop}{S:Type}{k:Nat}(m c:Nat)(enc:S→List Value)(hs:List Hd)(xss:List (List S))(j k2:Int)(x:List S)(y0 y:S)(sz:Nat)(hp:pl n ops k m E=pr n ops k m E)
  (hq:stQ P E (opAt ops k).op=some (aB (hd hs j).a,aO (hd hs j).a+k2.toNat*sz,enc y)) (hc:L[c]?=some ⟨none,CLU,cluC enc hs xss⟩) (hn:nof (L.set c ⟨none,0,[]⟩)=true) (hI:InP hs xss) (hD:Dst hs) (hx:ix xss j=some x) (hy:ix x k2=some y0)
  (hm:∀x,(enc x).length=sz) (h0:Nat.blt 0 sz=true) (hk:JK n w0 W K (putE E (opAt ops k) undef) (L.set c ⟨none,CLU,cluC enc hs (xss.set j.toNat (x.set k2.toNat y))⟩)):JP P n w0 W ops k K E L Q:=by
 have h:=pre_ok hp
 intro a w hok
 have hw:=gok_wanted hok h.2.1
 unfold wpOp
 simp only [h.1,hw,if_true]
 refine .inl ?_
 unfold Oper.wp
 rw [exec_known hok (G:= []) (by simp) h.2.2.2.1 h.2.2.2.2]
 unfold stQ at hq
 split at hq
 ·rename_i T' x' y' ho
  split at hq
  ·rename_i b' off' v t hx' hy' ht
   cases hcc:(Nat.beq v.cells.size t.size&&v.cells.toList.all isCell) with
   | false=>rw [hcc] at hq;simp at hq
   | true=>
    rw [hcc] at hq
    simp only [cond_true,Option.some.injEq,Prod.mk.injEq] at hq
    obtain⟨hqb,hqo,hqv⟩:=hq
    simp only [Bool.and_eq_true,List.all_eq_true] at hcc
    have hsz:=Nat.eq_of_beq_eq_true hcc.1
    obtain⟨w',hr,hm'⟩:=storeM (P:=P) hok.mem hI hD hx hy hm (by simpa using h0) (y:=y) (by rw [←hqv];exact hcc.2) hc
    have ex:ev E [] x'= .pointer (some ⟨b',off',none⟩):=by simp [ev,hx']
    have ey:ev E [] y'=v:=by simp [ev,hy']
    have:(execOp (ev E []) (opAt ops k)).run P w= .ok .skip w':=by
     simp only [execOp,ho,Instr.storeAt,ex,ey,Instr.sureAddr,Sem.run_bind,Sem.run_pure,Result.andThen_ok,storeVar,run_sizeOf ht,hsz,ne_eq,not_true_eq_false,if_false]
     rw [hqb,hqo,hqv]
     simp only [hr,Result.andThen_ok]
    rw [this]
    simp only [Oper.upon]
    exact hk _ _ (putE_ok (hok.mem' (hok.mem.appC c hI hm' hc hn)) h.2.2.1 undef)
  ·simp at hq
 ·simp at hq
theorem jk_frzD{K:Act→World→Prop}{S:Type}(c i m cap:Nat){enc:S→List Value}{hs:List Hd}{xss:List (List S)}{o:Option Nat}{T:TypeId}{xs:List S}{sp:List Value}(hI:InP hs xss)(hD:Dst hs)
  (h:Dst (hs++ [⟨o.map fun b=>⟨b,0,none⟩,m,cap⟩])→JK n w0 W K E ((L.set c ⟨none,CLU,cluC enc (hs++ [⟨o.map fun b=>⟨b,0,none⟩,m,cap⟩]) (xss++ [xs])⟩).set i ⟨none,0,[]⟩))
  (hc:L[c]?=some ⟨none,CLU,cluC enc hs xss⟩:=by kernel_rfl) (hi:L[i]?=some ⟨o,T,row enc xs sp⟩:=by kernel_rfl) (hci:Nat.beq c i=false:=by kernel_rfl):JK n w0 W K E L:=by
 intro a w hok
 refine h ?_ a w (hok.mem' (hok.mem.freeze c i hI.1 hc hi hci))
 unfold Dst hbs
 rw [List.filterMap_append]
 cases o with
 | none=>unfold Dst hbs at hD;simpa using hD
 | some b=>
  refine List.nodup_append.2 ⟨hD,by simp,fun x hx y hy=> ?_⟩
  simp only [Option.map_some,List.filterMap_cons,List.filterMap_nil,List.mem_singleton] at hy
  subst hy
  rintro rfl
  obtain⟨p,hp,e⟩:=hbs_frz hI hc hx
  exact(hok.mem.clu p hp).2.2.1 (List.mem_filterMap.2 ⟨_,List.mem_of_getElem? hi,by rw [e]⟩)
end mtab
section loose
variable [dsW:DrwS] [dfW:DfS] {P:Program} {n:Nat} {w0:World} {W:List Nat} {Q:Exit→Act→World→Prop} {E:Env} {L:List Blk} {ops:Array Oper}
def LsB{S:Type}(o:Option Nat)(a:Option Addr)(c:Nat)(sp:List Value)(n:Nat)(xs:List S)(m:Nat)(F:List (Option Addr×Nat×List S)):Prop:=
 (a=(o.map fun b=>⟨b,0,none⟩)∧(o≠none→n≤c∧sp.length=(c-n)*m)∧(o=none→xs= []∧c=0))∨(o=none∧(a,c,xs)∈F)
theorem ls0{S:Type}{a:Option Addr}{c:Nat}{sp:List Value}{n:Nat}{xs:List S}{m:Nat}{F:List (Option Addr×Nat×List S)}:LsB none a c sp n xs m ((a,c,xs)::F):= .inr ⟨rfl,List.mem_cons_self⟩
theorem ls1{S:Type}{a:Option Addr}{c:Nat}{sp:List Value}{n:Nat}{xs:List S}{m:Nat}{p:Option Addr×Nat×List S}{F:List (Option Addr×Nat×List S)}:LsB none a c sp n xs m (p::(a,c,xs)::F):=
 .inr ⟨rfl,List.mem_cons_of_mem _ List.mem_cons_self⟩
theorem lsO{S:Type}{o:Option Nat}{c:Nat}{sp:List Value}{n:Nat}{xs:List S}{m:Nat}{F:List (Option Addr×Nat×List S)}(h1:o≠none→n≤c∧sp.length=(c-n)*m)(h2:o=none→xs= []∧c=0):
  LsB o (o.map fun b=>⟨b,0,none⟩) c sp n xs m F:= .inl ⟨rfl,h1,h2⟩
theorem LsB.own{S:Type}{o:Option Nat}{a:Option Addr}{c:Nat}{sp:List Value}{n:Nat}{xs:List S}{m:Nat}(h:LsB o a c sp n xs m []):
  a=(o.map fun b=>⟨b,0,none⟩)∧(o≠none→n≤c∧sp.length=(c-n)*m)∧(o=none→xs= []∧c=0):=by
 rcases h with h | ⟨_,h⟩
 ·exact h
 ·cases h
theorem nodup_pos{L:List Blk}:(L.filterMap Blk.b).Nodup↔∀(i j:Nat) (x y:Blk) (b:Nat),i≠j→L[i]?=some x→L[j]?=some y→x.b=some b→y.b≠some b:=by
 constructor
 ·intro h i j x y b hij hx hy hb hc
  exact hij (blk_pos L h i j x y b hx hy hb hc)
 ·intro h
  unfold List.Nodup
  rw [List.pairwise_filterMap,List.pairwise_iff_getElem]
  intro i j hi hj hij b hb b' hb' e
  subst e
  exact h i j L[i] L[j] b (by omega) (by simp [hi]) (by simp [hj]) hb hb'
theorem Mem.mv{w:World}(h:Mem w0 W L w)(i z:Nat){x:Blk}(hz:L[z]?=some x)(hiz:i≠z):Mem w0 W ((L.set z ⟨none,0,[]⟩).set i x) w:=by
 have hget:∀j y,((L.set z ⟨none,0,[]⟩).set i x)[j]?=some y→∀b,y.b=some b→(j=i∧y=x)∨(j≠i∧j≠z∧L[j]?=some y):=by
  intro j y hy b hb
  by_cases hj:i=j
  ·subst hj
   rw [List.getElem?_set] at hy
   split at hy
   ·split at hy
    ·exact .inl ⟨rfl,(Option.some.inj hy).symm⟩
    ·cases hy
   ·rename_i hn;exact absurd rfl hn
  ·rw [List.getElem?_set_ne hj] at hy
   by_cases hk:z=j
   ·subst hk
    rw [List.getElem?_set] at hy
    split at hy
    ·split at hy
     ·obtain rfl:=Option.some.inj hy;cases hb
     ·cases hy
    ·rename_i hn;exact absurd rfl hn
   ·rw [List.getElem?_set_ne hk] at hy
    exact .inr ⟨fun e=>hj e.symm,fun e=>hk e.symm,hy⟩
 refine h.less' ?_ ?_ ?_
 ·intro y hy c hc
  obtain⟨j,hj⟩:=List.mem_iff_getElem?.1 hy
  rcases hget j y hj c hc with⟨_,rfl⟩ | ⟨_,_,h3⟩
  ·exact List.mem_of_getElem? hz
  ·exact List.mem_of_getElem? h3
 ·have hd:=nodup_pos.1 h.dis
  rw [nodup_pos]
  intro j k y y' b hjk hy hy' hb hb'
  rcases hget j y hy b hb with⟨rfl,rfl⟩ | ⟨h1,h2,h3⟩<;>rcases hget k y' hy' b hb' with⟨e1,e2⟩ | ⟨g1,g2,g3⟩
  ·exact hjk e1.symm
  ·exact hd z k _ _ b (fun e=>g2 e.symm) hz g3 hb hb'
  ·subst e2;exact hd j z _ _ b h2 h3 hz hb hb'
  ·exact hd j k _ _ b hjk h3 g3 hb hb'
 ·intro p hp
  obtain⟨y,hy,hpy⟩:=mem_frz.1 hp
  rcases List.mem_or_eq_of_mem_set hy with hy | rfl
  ·exact frz_set_sub (y:=⟨none,0,[]⟩) fzs_none p (mem_frz.2 ⟨y,hy,hpy⟩)
  ·exact mem_frz.2 ⟨_,List.mem_of_getElem? hz,hpy⟩
theorem Mem.setN{w:World}(h:Mem w0 W L w)(i:Nat)(T:TypeId)(cs:List Value)(hT:Nat.beq T CLU=false):Mem w0 W (L.set i ⟨none,T,cs⟩) w:=by
 have hf:fzs ⟨none,T,cs⟩= []:=fzs_T hT
 refine h.less' ?_ ?_ ?_
 ·intro y hy c hc
  rcases List.mem_or_eq_of_mem_set hy with hy | rfl
  ·exact hy
  ·cases hc
 ·have:(L.set i ⟨none,T,cs⟩).filterMap Blk.b=(L.set i ⟨none,0,[]⟩).filterMap Blk.b:=by
   have e:L.set i ⟨none,T,cs⟩=(L.set i ⟨none,0,[]⟩).set i ⟨none,T,cs⟩:=by rw [List.set_set]
   rw [e]
   by_cases hi:i<L.length
   ·exact nodup_set (x:=⟨none,0,[]⟩) (by simp [hi]) rfl
   ·rw [List.set_eq_of_length_le (by simp;omega)]
  rw [this];exact h.dis.sublist (set_none_sub L i)
 ·exact frz_set_sub hf
theorem Mem.ls3{S:Type}{w:World}(h:Mem w0 W L w)(i q z:Nat){T:TypeId}{enc:S→List Value}{o1 o2 o:Option Nat}{a1 a:Option Addr}{c1 c2 c n1 n2 k m:Nat}{sp1 sp2 sp:List Value}{xs1 xs2 xs:List S}{F:List (Option Addr×Nat×List S)}
  (hi:L[i]?=some ⟨o1,T,row enc xs1 sp1⟩) (hq:L[q]?=some ⟨o2,T,row enc xs2 sp2⟩) (hz:L[z]?=some ⟨o,T,row enc xs sp⟩) (hne:nd [i,q,z]=true)
  (l1:LsB o1 a1 c1 sp1 n1 xs1 m F) (hn1:xs1.length=n1) (hs2:o2≠none→n2≤c2∧sp2.length=(c2-n2)*m) (ho2:o2=none→xs2= []∧c2=0) (hn2:xs2.length=n2) (hn:xs.length=k)
  (hl:LsB o a c sp k xs m [(a1,c1,xs1),(o2.map fun b=>⟨b,0,none⟩,c2,xs2)]):
  ∃o' sp',LsB o' a c sp' k xs m F∧Mem w0 W (((L.set i ⟨o',T,row enc xs sp'⟩).set q ⟨none,0,[]⟩).set z ⟨none,0,[]⟩) w:=by
 have h1:i≠q∧i≠z∧q≠z:=by
  obtain⟨g1,g2⟩:=nd_cons hne
  obtain⟨g3,g4⟩:=nd_cons g2
  exact⟨g1 q (by simp),g1 z (by simp),g3 z (by simp)⟩
 obtain⟨hiq,hiz,hqz⟩:=h1
 have kk:∀{L:List Blk} {w:World} (j:Nat),Mem w0 W L w→Mem w0 W (L.set j ⟨none,0,[]⟩) w:=fun j h=>h.setN j 0 [] rfl
 rcases hl with hl | ⟨ho,hF⟩
 ·refine⟨o,sp, .inl hl,?_⟩
  have:=kk q (h.mv i z hz hiz)
  rwa [List.set_comm _ _ (Ne.symm hiz),List.set_comm _ _ (Ne.symm hqz)] at this
 ·rcases List.mem_cons.1 hF with e | hF
  ·simp only [Prod.mk.injEq] at e
   obtain⟨rfl,rfl,rfl⟩:=e
   refine⟨o1,sp1,by rw [←hn,hn1];exact l1,?_⟩
   have:L.set i ⟨o1,T,row enc xs sp1⟩=L:=by
    apply List.ext_getElem?
    intro j
    by_cases hj:i=j
    ·subst hj;rw [hi,List.getElem?_set_self (List.getElem?_eq_some_iff.1 hi).1]
    ·rw [List.getElem?_set_ne hj]
   rw [this]
   exact kk z (kk q h)
  ·simp only [List.mem_singleton,Prod.mk.injEq] at hF
   obtain⟨rfl,rfl,rfl⟩:=hF
   refine⟨o2,sp2,by rw [←hn,hn2];exact lsO hs2 ho2,?_⟩
   have:=kk z (h.mv i q hq hiq)
   rwa [List.set_comm _ _ (Ne.symm hiq)] at this
theorem Mem.ls2{S:Type}{w:World}(h:Mem w0 W L w)(i z:Nat){T:TypeId}{enc:S→List Value}{o1 o:Option Nat}{a1 a a2:Option Addr}{c1 c2 c n1 k m:Nat}{sp1 sp:List Value}{xs1 xs2 xs:List S}{F:List (Option Addr×Nat×List S)}
  (hi:L[i]?=some ⟨o1,T,row enc xs1 sp1⟩) (hz:L[z]?=some ⟨o,T,row enc xs sp⟩) (hne:nd [i,z]=true)
  (l1:LsB o1 a1 c1 sp1 n1 xs1 m F) (hn1:xs1.length=n1) (h2:(a2,c2,xs2)∈F∨(a2=none∧c2=0∧xs2= [])) (hn:xs.length=k)
  (hl:LsB o a c sp k xs m [(a1,c1,xs1),(a2,c2,xs2)]):
  ∃o' sp',LsB o' a c sp' k xs m F∧Mem w0 W ((L.set i ⟨o',T,row enc xs sp'⟩).set z ⟨none,0,[]⟩) w:=by
 have hiz:i≠z:=by
  obtain⟨g1,g2⟩:=nd_cons hne
  exact g1 z (by simp)
 have kk:∀{L:List Blk} {w:World} (j:Nat),Mem w0 W L w→Mem w0 W (L.set j ⟨none,0,[]⟩) w:=fun j h=>h.setN j 0 [] rfl
 rcases hl with hl | ⟨rfl,hF⟩
 ·refine⟨o,sp, .inl hl,?_⟩
  have:=h.mv i z hz hiz
  rwa [List.set_comm _ _ (Ne.symm hiz)] at this
 ·rcases List.mem_cons.1 hF with e | hF
  ·simp only [Prod.mk.injEq] at e
   obtain⟨rfl,rfl,rfl⟩:=e
   refine⟨o1,sp1,by rw [←hn,hn1];exact l1,?_⟩
   have:L.set i ⟨o1,T,row enc xs sp1⟩=L:=by
    apply List.ext_getElem?
    intro j
    by_cases hj:i=j
    ·subst hj;rw [hi,List.getElem?_set_self (List.getElem?_eq_some_iff.1 hi).1]
    ·rw [List.getElem?_set_ne hj]
   rw [this]
   exact kk z h
  ·simp only [List.mem_singleton,Prod.mk.injEq] at hF
   obtain⟨rfl,rfl,rfl⟩:=hF
   have hm:Mem w0 W ((L.set i ⟨none,T,row enc xs sp⟩).set z ⟨none,0,[]⟩) w:=by
    have:=h.mv i z hz hiz
    rwa [List.set_comm _ _ (Ne.symm hiz)] at this
   refine⟨none,sp,?_,hm⟩
   rcases h2 with h2 | ⟨rfl,rfl,rfl⟩
   ·exact .inr ⟨rfl,h2⟩
   ·exact .inl ⟨rfl,fun e=>absurd rfl e,fun _=>⟨rfl,rfl⟩⟩
theorem jk_lsN{K:Act→World→Prop}{S:Type}(i:Nat)(T:TypeId)(enc:S→List Value)(xs:List S)(h:JK n w0 W K E (L.set i ⟨none,T,row enc xs []⟩))(hT:Nat.beq T CLU=false:=by kernel_rfl):JK n w0 W K E L:=
 fun a w hok=>h a w (hok.mem' (hok.mem.setN i T _ hT))
theorem jk_lsM{K:Act→World→Prop}(i z:Nat)(x:Blk)(h:JK n w0 W K E ((L.set z ⟨none,0,[]⟩).set i x))(hz:L[z]?=some x:=by kernel_rfl)(hiz:Nat.beq i z=false:=by kernel_rfl):JK n w0 W K E L:=
 fun a w hok=>h a w (hok.mem' (hok.mem.mv i z hz (fun e=>by rw [e] at hiz;simp at hiz)))
end loose
end Go.Proofs.YtolfkfjjifdmeaaGreat.Eng
