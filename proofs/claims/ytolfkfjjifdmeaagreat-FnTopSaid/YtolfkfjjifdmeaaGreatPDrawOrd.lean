/- Drums and orders drawn from bytes are valid. -/
import Derived.Test.YtolfkfjjifdmeaaGreatM3
import Derived.Test.YtolfkfjjifdmeaaGreatM4
import Derived.Test.YtolfkfjjifdmeaaGreatPFrame
import Derived.Test.YtolfkfjjifdmeaaGreatPDrum
import Derived.Test.YtolfkfjjifdmeaaGreatPCodes
import Derived.Test.YtolfkfjjifdmeaaGreatPPut
import Derived.Test.YtolfkfjjifdmeaaGreatPBits
import Derived.Test.YtolfkfjjifdmeaaGreatPCost
import Derived.Test.YtolfkfjjifdmeaaGreatPDTab
import Derived.Test.YtolfkfjjifdmeaaGreatPFit
import Derived.Test.YtolfkfjjifdmeaaGreatPDraw
import Derived.Test.YtolfkfjjifdmeaaGreatPDrawDrum
import Derived.Test.YtolfkfjjifdmeaaGreatPBPath
import Derived.Test.YtolfkfjjifdmeaaGreatPOrdImpl
import Derived.Test.YtolfkfjjifdmeaaGreatPOrdSpec
import Derived.Test.YtolfkfjjifdmeaaGreatPDTabC
import Derived.Test.YtolfkfjjifdmeaaGreatPBestOrd
import Derived.Test.YtolfkfjjifdmeaaGreatPOrdLaw
import Derived.Test.YtolfkfjjifdmeaaGreatPure
namespace Go.Proofs.YtolfkfjjifdmeaaGreat
open Eng
set_option linter.unusedVariables false
set_option linter.unusedSimpArgs false
theorem a2Frame_is(code:List Int)(hc:∀y∈code,0≤y∧y≤255):∃f,FbJ code=some f∧FOk f:=by
 obtain⟨e,h⟩:=from_is code hc
 obtain⟨f,s',e1,h1,_⟩:=frameDrawn_is h (by omega)
 exact⟨f,by simp only [FbJ,e,e1,Option.bind_some],h1⟩
theorem a2Drums_is{f:GFrame}(hf:FOk f)(code:List Int)(hc:∀y∈code,0≤y∧y≤255):∃ds,Fao code f=some ds∧ds.length≤5∧∀d∈ds,DIn d∧drumB f d=true:=by
 obtain⟨e,h⟩:=from_is code hc
 obtain⟨x1,s1,e1,p1,q1,o1,c1⟩:=pick_is h (by omega) (n:=6) (by omega)
 have q1:=q1 (by omega)
 have c1':s1.fcode=code:=c1
 simp only [Fao,e,e1,Option.bind_some]
 obtain⟨⟨xs,a3,a4⟩,hr,g1,g2⟩:=loop_inv (f:=Fao.l_11 code f) (fun st=>∃k:Nat,k≤5∧st.2.2.2=(k:Int)∧st.1.length+k≤5∧(∀d∈st.1,DIn d∧drumB f d=true)∧SOk ⟨code,st.2.1,st.2.2.1⟩ (1+40*st.1.length)) (fun st=>st.2.2.2.toNat)
  (fun r=>r.1.length≤5∧∀d∈r.1,DIn d∧drumB f d=true) (by
  rintro⟨xs,i,j,_⟩ ⟨k,hk,rfl,hl,hx,ho⟩
  simp only at hl hx ho
  by_cases c:k=0
  ·right
   subst c
   simp only [Fao.l_11]
   rw [if_neg (by decide)]
   exact⟨_,rfl,by simp only;omega,hx⟩
  ·left
   obtain⟨d,s',e2,d1,d2,d3,d4⟩:=drumDrawn_is hf ho (by omega)
   have d4':s'.fcode=code:=d4
   simp only [Fao.l_11,e2,Option.bind_some]
   rw [if_pos (by rw [decide_eq_true_eq];omega),if_pos (by simp only [List.length_cons,List.length_nil];omega),w64_in (by omega) (by omega)]
   refine⟨_,rfl,⟨k-1,by omega,by simp only;omega,by simp only [List.length_append,List.length_cons,List.length_nil];omega,?_,?_⟩,by simp only;omega⟩
   ·intro y hy
    rcases List.mem_append.1 hy with hy | hy
    ·exact hx y hy
    ·rw [List.mem_singleton] at hy;subst hy;exact⟨d1,drumB_of d2⟩
   ·simp only [List.length_append,List.length_cons,List.length_nil]
    rw [src_eta d4']
    exact⟨d3.by_,d3.a0,by have:=d3.a1;omega⟩) ([],s1.fat,s1.fseed,x1) ⟨x1.toNat,by omega,by simp only;omega,by simp only [List.length_nil];omega,by simp,by
   simp only [List.length_nil]
   rw [src_eta c1']
   exact⟨o1.by_,o1.a0,by have:=o1.a1;omega⟩⟩
 have hr':loop (Fao.l_11 code f) ([],s1.fat,s1.fseed,x1)=_:=hr
 rw [hr']
 exact⟨xs,by simp only [Option.bind_some,Fao.k_6],g1,g2⟩
theorem a2Order_is(code:List Int)(hc:∀y∈code,0≤y∧y≤255){n:Nat}(hn1:1≤n)(hn:n≤8):∃o,FR code (n:Int)=some (cst o)∧IsO n o:=by
 obtain⟨e,h⟩:=from_is code hc
 have l0:loop (FR.l_21 (n:Int)) ([],0)=some (cst (List.range n)):=by
  have:=loop_seq (f:=FR.l_21 (n:Int)) n (fun k=>(cst (List.range k),(k:Int))) (cst (List.range n)) (fun k hk=>by
   simp only [FR.l_21]
   rw [if_pos (by rw [decide_eq_true_eq];omega),if_pos (by rw [cst_len];simp;omega),w64_in (by omega) (by omega),List.range_succ,cst_app]
   rfl) (by
   simp only [FR.l_21]
   rw [if_neg (by simp)])
  exact this
 obtain⟨⟨xs,a3,a4⟩,hr,o,rfl,ho⟩:=loop_inv (f:=FR.l_12 code) (fun st=>∃(k:Nat) (o:List Nat),k<n∧st.2.2.2=(k:Int)∧st.1=cst o∧o.Perm (List.range n)∧SOk ⟨code,st.2.1,st.2.2.1⟩ (n-k)) (fun st=>st.2.2.2.toNat)
  (fun r=>∃o,r.1=cst o∧o.Perm (List.range n)) (by
  rintro⟨_,i,j,_⟩ ⟨k,o,hk,rfl,rfl,hp,hs⟩
  simp only at hs
  have hol:o.length=n:=by rw [hp.length_eq,List.length_range]
  by_cases c:k=0
  ·right
   subst c
   simp only [FR.l_12]
   rw [if_neg (by decide)]
   exact⟨_,rfl,o,rfl,hp⟩
  ·left
   have hw:w64 ((k:Int)+1)=((k+1:Nat):Int):=by rw [w64_in (by omega) (by omega)];omega
   obtain⟨x,s',e1,p1,q1,o1,c1⟩:=pick_is hs (by omega) (n:=((k+1:Nat):Int)) (by omega)
   have q1:=q1 (by omega)
   obtain⟨m,rfl⟩:∃m:Nat,x=(m:Int):=⟨x.toNat,by omega⟩
   have c1':s'.fcode=code:=c1
   have hkl:k<o.length:=by omega
   have hml:m<o.length:=by omega
   have hset:∀(l:List Nat) (i v:Nat),(cst l).set i ((v:Nat):Int)=cst (l.set i v):=fun l i v=>by simp [cst,List.map_set]
   have hx2:∃z,ix (cst (o.set k o[m])) (m:Int)=some z:=⟨_,ix_cst (show m<(o.set k o[m]).length by rw [List.length_set];exact hml)⟩
   obtain⟨z,hz⟩:=hx2
   simp only [FR.l_12,hw,e1,Option.bind_some,ix_cst hkl,ix_cst hml,Int.toNat_natCast,hset,hz]
   rw [if_pos (by rw [decide_eq_true_eq];omega),w64_in (by omega) (by omega)]
   refine⟨_,rfl,⟨k-1,(o.set k o[m]).set m o[k],by omega,by simp only;omega,rfl,(List.set_set_perm hkl hml).trans hp,?_⟩,by simp only;omega⟩
   rw [src_eta c1']
   exact⟨o1.by_,o1.a0,by have:=o1.a1;omega⟩) (cst (List.range n),(⟨code,0,0⟩:Gl00Src).fat,(⟨code,0,0⟩:Gl00Src).fseed,w64 ((n:Int)-1)) ⟨n-1,List.range n,by omega,by simp only;rw [w64_in (by omega) (by omega)];omega,rfl,List.Perm.refl _,⟨h.by_,h.a0,by have:=h.a1;simp only at this⊢;omega⟩⟩
 refine⟨o,?_,IsO.of_perm ho⟩
 simp only [FR,e,Option.bind_some,l0,FR.k_3,hr,FR.k_7]
end Go.Proofs.YtolfkfjjifdmeaaGreat
