/- What a value that came in looks like: rows, strings, structs. -/
import Derived.Test.YtplklknkkaeniaaGreatEng
import Derived.WideShapes
import Derived.RowKit
import Derived.ChangeShapes
import Derived.OpenShut
import Derived.ChangeOld
import Derived.Carry
import Derived.JoinedOf
namespace Go.Proofs.YtplklknkkaeniaaGreat.Eng
open Go
set_option linter.unusedVariables false
theorem Vu(b o n:Nat):(Addr.mk b o none).add n=⟨b,o+n,none⟩:=by
 unfold Addr.add
 split<;>simp_all
section
variable {H:Type} {bh:TypeId×Value→H} {P:Program} {w:World} {base:Nat} {spare:Nat→Bool} {held:Bool} {gg m:Nat} {t:TypeId} {cs:List Value} {x:DataW H×List MemPlace}
theorem Vv(ht:P.underlying t=some (.int .u8))(h:DataW.trod bh P w base spare held gg t cs=some x):∃n,cs= [.int .u8 n]∧0≤n∧n≤255:=by
 obtain⟨n,h,_,hw⟩:=DataW.trod_int ht h
 exact⟨n,h,bounds_u8 hw⟩
theorem Ca{S:Type}{Q:Nat→S→Prop}:∀(n:Nat),(∀i,i<n→∃a,Q i a)→∃xs:List S,xs.length=n∧∀i a,xs[i]?=some a→Q i a
 | 0,_=>⟨[],rfl,fun i a h=>by simp at h⟩
 | n+1,h=>by
  obtain⟨xs,hl,hx⟩:=Ca n (fun i hi=>h i (by omega))
  obtain⟨a,ha⟩:=h n (by omega)
  refine⟨xs++ [a],by simp [hl],fun i b hb=> ?_⟩
  by_cases hi:i<n
  ·rw [mQ (by omega)] at hb
   exact hx i b hb
  ·by_cases hn:i=n
   ·subst hn
    rw [nB (by omega),hl] at hb
    simp at hb;subst hb;exact ha
   ·rw [jJ (by simp [hl];omega)] at hb
    cases hb
theorem ab7{e:TypeId}{a:Option Addr}{n c:Nat}(ht:P.underlying t=some (.slice e))(h:DataW.trod bh P w base spare held gg t [.slice a n c]=some x):n≤c:=by
 rcases DataW.trod_slice ht h with⟨h1,_⟩ | ⟨a',len,cap,ag2,rest,k,_,h1,_,_,hl,_⟩
 ·simp only [ms,Value.slice.injEq] at h1
  omega
 ·simp only [ms,Value.slice.injEq] at h1
  omega
theorem Vw{S:Type}{e:TypeId}{Vx:S→List Value}{ok:S→Prop}(ht:P.underlying t=some (.slice e))(hm:P.cellsOf e=m)(ab0:0<m)
  (he:∀n cs x,DataW.trod bh P w base spare held n e cs=some x→∃a,cs=Vx a∧ok a) (h:DataW.trod bh P w base spare held gg t cs=some x):
  ∃(a:Option Addr) (xs:List S) (c:Nat),cs= [.slice a xs.length c]∧Rw w a m Vx xs∧xs.length≤9223372036854775807∧∀x∈xs,ok x:=by
 subst hm
 rcases DataW.trod_slice ht h with⟨rfl,_⟩ | ⟨a,len,cap,ag2,rest,n,_,rfl,_,hb,hl,hc,he',hel,_,_⟩
 ·exact⟨none,[],0,rfl,⟨fun h=>absurd rfl h,fun j x h=>by simp at h⟩,by simp,by simp⟩
 ·have key:∀i,i<len→∃s:S,w.cells? base (a.add (i*P.cellsOf e)) (P.cellsOf e)=some (Vx s)∧ok s:=by
   intro i hi
   have h1:=hel i hi
   rw [bM (by omega)] at h1
   obtain⟨V3,h2,h3⟩:=Option.bind_eq_some_iff.1 h1
   obtain⟨s,rfl,hs⟩:=he _ _ _ h3
   exact⟨s,h2,hs⟩
  obtain⟨xs,hxl,hx⟩:=Ca len key
  have akD:len≤9223372036854775807:=by unfold maxLen at hc;omega
  refine⟨some a,xs,cap,by rw [hxl],?_,by omega,?_⟩
  ·have xC:xs≠ []→a.spot=none:=by
    intro jR
    obtain⟨s,hs⟩:∃s,xs[0]?=some s:=by
     cases xs with
     | nil=>exact absurd rfl jR
     | cons s _=>exact⟨s,rfl⟩
    obtain⟨h1,_⟩:=hx 0 s hs
    obtain⟨_,hlen,J3⟩:=World.cells?_some h1
    have h0:=J3 0 ab0
    rw [bM (by omega)] at h0
    have:=World.cell?_spot h0
    simpa [Addr.add] using this
   constructor
   ·intro jR
    have hs:=xC jR
    obtain⟨s,xD⟩:∃s,xs[0]?=some s:=by
     cases xs with
     | nil=>exact absurd rfl jR
     | cons s _=>exact⟨s,rfl⟩
    obtain⟨h1,_⟩:=hx 0 s xD
    have N':=World.cells?_block h1 ab0
    obtain⟨b,o,sp⟩:=a
    simp only at hs;subst hs
    exact⟨rfl,by simpa [aB,Addr.add] using N'⟩
   ·intro j s hs i v hv
    have jR:xs≠ []:=by rintro rfl;simp at hs
    have ag3:=xC jR
    obtain⟨h1,_⟩:=hx j s hs
    obtain⟨_,hlen,J3⟩:=World.cells?_some h1
    have hi:i<P.cellsOf e:=by
     have:=(gY.1 hv).1
     omega
    have:=J3 i hi
    rw [hv] at this
    obtain⟨b,o,sp⟩:=a
    simp only at ag3;subst ag3
    simpa [aB,aO,Vu,nF] using this
  ·intro s hs
   obtain⟨j,hj⟩:=ry.1 hs
   exact(hx j s hj).2
end
theorem Vy{v u:Value}{l:List Value}(h:l= [u])(hl:l= [v]):v=u:=by
 rw [hl] at h;injection h
theorem Mem.below{w w':World}(h:Mem w [] [] w'):RowKit.Below w.heap.size w w':=
 ⟨h.os,h.tape,h.output,h.size,fun k hk=>h.bW k hk (by simp)⟩
end Go.Proofs.YtplklknkkaeniaaGreat.Eng
