/- What is drawn from bytes: numbers within their bounds, frames, lives. -/
import Derived.Test.YtolfkfjjifdmeaaGreatM0
import Derived.Test.YtolfkfjjifdmeaaGreatM3
import Derived.Test.YtolfkfjjifdmeaaGreatPFrame
import Derived.Test.YtolfkfjjifdmeaaGreatPDrum
import Derived.Test.YtolfkfjjifdmeaaGreatPPut
import Derived.Test.YtolfkfjjifdmeaaGreatPWear
import Derived.Test.YtolfkfjjifdmeaaGreatPure
namespace Go.Proofs.YtolfkfjjifdmeaaGreat
open Eng
set_option linter.unusedVariables false
set_option linter.unusedSimpArgs false
structure SOk (s:Gl00Src) (b:Nat):Prop where
 by_:∀y∈s.fcode,0≤y∧y≤255
 a0:0≤s.fat
 a1:s.fat≤b
theorem and255(x:Int):0≤bAnd .u64 x 255∧bAnd .u64 x 255≤255:=by
 have h:(BitVec.ofInt 64 x&&&BitVec.ofInt 64 255).toNat≤255:=by
  rw [BitVec.toNat_and]
  exact Nat.le_trans Nat.and_le_right (by decide)
 show 0≤IntKind.u64.wrap (((BitVec.ofInt 64 x&&&BitVec.ofInt 64 255).toNat:Nat):Int)∧IntKind.u64.wrap (((BitVec.ofInt 64 x&&&BitVec.ofInt 64 255).toNat:Nat):Int)≤255
 generalize (BitVec.ofInt 64 x&&&BitVec.ofInt 64 255).toNat=m at h
 have:IntKind.u64.wrap (m:Int)=(m:Int):=u64_in (by omega) (by omega)
 rw [this];omega
theorem next_is{s:Gl00Src}{b:Nat}(h:SOk s b)(hb:b≤1000000):∃x s',Faf s=some (x,s')∧0≤x∧x≤255∧SOk s' (b+1)∧s'.fcode=s.fcode:=by
 have e:=h.a0;have e1:=h.a1
 have key:∀i:Int,0≤i→i≤255→∃x s',Faf.k_2 s i=some (x,s')∧0≤x∧x≤255∧SOk s' (b+1)∧s'.fcode=s.fcode:=by
  intro i h0 h1
  simp only [Faf.k_2]
  rw [w64_in (n:=s.fat+1) (by omega) (by omega)]
  split
  ·exact⟨_,_,rfl,h0,h1,⟨h.by_,by simp only;omega,by simp only;omega⟩,rfl⟩
  ·have:=and255 (bShr .u64 (u64 ((u64 ((u64 (s.fseed*6364136223846793005))+(u64 i)))+1442695040888963407)) 40)
   rw [w64_in (by omega) (by omega)]
   exact⟨_,_,rfl,this.1,this.2,⟨h.by_,by simp only;omega,by simp only;omega⟩,rfl⟩
 simp only [Faf]
 by_cases c:s.fat<(s.fcode.length:Int)
 ·rw [if_pos (by simpa using c)]
  have hl:s.fat.toNat<s.fcode.length:=by omega
  have e2:ix s.fcode s.fat=some s.fcode[s.fat.toNat]:=by
   have:=ix_lt hl
   rwa [show ((s.fat.toNat:Nat):Int)=s.fat by omega] at this
  have hy:=h.by_ _ (List.getElem_mem hl)
  simp only [e2,Option.bind_some]
  rw [w64_in (by omega) (by omega)]
  exact key _ hy.1 hy.2
 ·rw [if_neg (by simpa using c)]
  exact key 0 (by omega) (by omega)
theorem pick_is{s:Gl00Src}{b:Nat}(h:SOk s b)(hb:b≤900000){n:Int}(hn:n≤200):∃x s',Fo s n=some (x,s')∧0≤x∧(1≤n→x<n)∧SOk s' (b+1)∧s'.fcode=s.fcode:=by
 simp only [Fo]
 by_cases c:n≤1
 ·rw [if_pos (by simpa using c)]
  exact⟨0,s,rfl,by omega,fun _=>by omega,⟨h.by_,h.a0,by have:=h.a1;omega⟩,rfl⟩
 ·rw [if_neg (by simpa using c)]
  obtain⟨x,s',h1,h2,h3,h4,h5⟩:=next_is h (by omega)
  simp only [h1,Option.bind_some,Fo.k_5]
  rw [if_neg (by rw [decide_eq_true_eq];omega),if_pos (by omega)]
  refine⟨_,_,rfl,?_,fun _=> ?_,⟨h.by_,h4.a0,h4.a1⟩,rfl⟩
  ·rw [Int.tmod_eq_emod_of_nonneg h2];exact Int.emod_nonneg _ (by omega)
  ·rw [Int.tmod_eq_emod_of_nonneg h2];exact Int.emod_lt_of_pos _ (by omega)
theorem src_eta{s:Gl00Src}{c:List Int}(h:s.fcode=c):(⟨c,s.fat,s.fseed⟩:Gl00Src)=s:=by
 cases s;subst h;rfl
theorem from_is(code:List Int)(hc:∀y∈code,0≤y∧y≤255):FaJ code=some ⟨code,0,0⟩∧SOk ⟨code,0,0⟩ 0:=⟨rfl,hc,by simp,by simp⟩
theorem frameDrawn_is{s:Gl00Src}{b:Nat}(h:SOk s b)(hb:b≤100):∃f s',F0 s=some (f,s')∧FOk f∧f.fSteps≤17∧f.fHammers.length≤5∧s'.fcode=s.fcode:=by
 obtain⟨x1,s1,e1,p1,q1,o1,c1⟩:=pick_is h (by omega) (n:=14) (by omega)
 obtain⟨x2,s2,e2,p2,q2,o2,c2⟩:=pick_is o1 (by omega) (n:=5) (by omega)
 have q1:=q1 (by omega);have q2:=q2 (by omega)
 have c2':s2.fcode=s.fcode:=c2.trans c1
 simp only [F0,e1,Option.bind_some,src_eta c1,e2]
 rw [w64_in (n:=1+x2) (by omega) (by omega)]
 obtain⟨⟨a3,a4,hs⟩,hr,g1,g2,g3⟩:=loop_inv (f:=F0.l_11 s) (fun st=>∃k:Nat,k≤5∧st.2.2.2=(k:Int)∧st.2.2.1.length+k=(1+x2).toNat∧(∀y∈st.2.2.1,(22≤y.fPitch∧y.fPitch≤25)∧(1≤y.fReady∧y.fReady≤4))∧SOk ⟨s.fcode,st.1,st.2.1⟩ (b+2+2*st.2.2.1.length)) (fun st=>st.2.2.2.toNat)
  (fun r=>r.2.2.length=(1+x2).toNat∧(∀y∈r.2.2,(22≤y.fPitch∧y.fPitch≤25)∧(1≤y.fReady∧y.fReady≤4))∧SOk ⟨s.fcode,r.1,r.2.1⟩ (b+20)) (by
  rintro⟨i,j,xs,_⟩ ⟨k,hk,rfl,hl,hx,ho⟩
  simp only at hl hx ho
  by_cases c:k=0
  ·right
   subst c
   simp only [F0.l_11]
   rw [if_neg (by decide)]
   exact⟨_,rfl,by simp only;omega,hx,⟨ho.by_,ho.a0,by have:=ho.a1;simp only at this⊢;omega⟩⟩
  ·left
   obtain⟨y1,t1,e3,p3,q3,o3,c3⟩:=pick_is ho (by omega) (n:=4) (by omega)
   obtain⟨y2,t2,e4,p4,q4,o4,c4⟩:=pick_is o3 (by omega) (n:=4) (by omega)
   have q3:=q3 (by omega);have q4:=q4 (by omega)
   have c3':t1.fcode=s.fcode:=c3
   have c4':t2.fcode=s.fcode:=c4.trans c3
   simp only [F0.l_11,e3,Option.bind_some,src_eta c3',e4]
   rw [if_pos (by rw [decide_eq_true_eq];omega),if_pos (by simp only [List.length_cons,List.length_nil];omega)]
   rw [w64_in (n:=22+y1) (by omega) (by omega),w8_in (n:=22+y1) (by omega) (by omega),w64_in (n:=1+y2) (by omega) (by omega),w8_in (n:=1+y2) (by omega) (by omega),w64_in (n:=(k:Int)-1) (by omega) (by omega)]
   refine⟨_,rfl,⟨k-1,by omega,by simp only;omega,by simp only [List.length_append,List.length_cons,List.length_nil];omega,?_,?_⟩,by simp only;omega⟩
   ·intro y hy
    rcases List.mem_append.1 hy with hy | hy
    ·exact hx y hy
    ·rw [List.mem_singleton] at hy;subst hy;simp only;omega
   ·have e5:=src_eta c4'
    simp only [List.length_append,List.length_cons,List.length_nil]
    rw [e5]
    exact⟨o4.by_,o4.a0,by have:=o4.a1;omega⟩) (s2.fat,s2.fseed,[],1+x2) ⟨(1+x2).toNat,by omega,by simp only;omega,by simp,by simp,by
   simp only [List.length_nil]
   rw [src_eta c2']
   exact⟨o2.by_,o2.a0,by have:=o2.a1;omega⟩⟩
 simp only at g1 g2 g3
 simp only [hr,Option.bind_some,F0.k_6]
 rw [w64_in (n:=4+x1) (by omega) (by omega),w16_in (n:=4+x1) (by omega) (by omega)]
 refine⟨_,_,rfl,⟨by simp only;omega,by simp only;omega,by simp only;omega,by simp only;omega,fun y hy=> ?_⟩,by simp only;omega,by simp only;omega,rfl⟩
 have:=g2 y hy
 simp only
 omega
end Go.Proofs.YtolfkfjjifdmeaaGreat
