/- The choices for a note, sorted by their costs: the program's stable sort and the reference's insertion come to the same list. -/
import Derived.Test.YtolfkfjjifdmeaaGreatM0
import Derived.Test.YtolfkfjjifdmeaaGreatM1
import Derived.Test.YtolfkfjjifdmeaaGreatM2
import Derived.Test.YtolfkfjjifdmeaaGreatM3
import Derived.Test.YtolfkfjjifdmeaaGreatPStab
import Derived.Test.YtolfkfjjifdmeaaGreatPFrame
import Derived.Test.YtolfkfjjifdmeaaGreatPDrum
import Derived.Test.YtolfkfjjifdmeaaGreatPCodes
import Derived.Test.YtolfkfjjifdmeaaGreatPTune
import Derived.Test.YtolfkfjjifdmeaaGreatPChoices
import Derived.Test.YtolfkfjjifdmeaaGreatPCosts
import Derived.Test.YtolfkfjjifdmeaaGreatPLeast
import Derived.Test.YtolfkfjjifdmeaaGreatPure
namespace Go.Proofs.YtolfkfjjifdmeaaGreat
open Eng
set_option linter.unusedVariables false
set_option linter.unusedSimpArgs false
theorem cSym_eq(c:GCosts):∀(fu:Nat) (d:List GChoice) (a m b:Int),Fa.rec_ fu d a m b c=gSym.rec_ (fun x y=>F9 x y c) fu d a m b:=by
 intro fu
 induction fu with
 | zero=>intro d a m b;rfl
 | succ fu ih=>
  intro d a m b
  have e:(fun d a m b=>Fa.rec_ fu d a m b c)=gSym.rec_ (fun x y=>F9 x y c) fu:=by
   funext d a m b;exact ih d a m b
  have h:Fa.step (Fa.rec_ fu) d a m b c=gSym.step (fun x y=>F9 x y c) (fun d a m b=>Fa.rec_ fu d a m b c) d a m b:=rfl
  rw [e] at h
  exact h
theorem cStab_eq(c:GCosts)(d:List GChoice)(n:Int):Fb d n c=gStab (fun x y=>F9 x y c) d n:=by
 have hs:∀d a m b,Fa d a m b c=gSym (fun x y=>F9 x y c) d a m b:=fun d a m b=>cSym_eq c 200 d a m b
 have hi:∀d a b,Fd d a b c=gIns (fun x y=>F9 x y c) d a b:=fun d a b=>rfl
 have e1:∀i:Int,Fb.l_21 n c i=gStab.l_21 (fun x y=>F9 x y c) n i:=by
  intro i;funext s
  obtain⟨xs,i2,i3⟩:=s
  simp only [Fb.l_21,gStab.l_21,hs]
 have e2:Fb.l_10 n c=gStab.l_10 (fun x y=>F9 x y c) n:=by
  funext s
  obtain⟨xs,i⟩:=s
  simp only [Fb.l_10,gStab.l_10,e1,Fb.k_16,gStab.k_16,Fb.k_13,gStab.k_13,hs]
 have e3:Fb.l_27 n c=gStab.l_27 (fun x y=>F9 x y c) n:=by
  funext s
  obtain⟨xs,i,j⟩:=s
  simp only [Fb.l_27,gStab.l_27,hi]
 simp only [Fb,gStab,Fb.k_4,gStab.k_4,Fb.k_7,gStab.k_7,e2,e3,hi]
theorem cSort_eq(c:GCosts)(d:List GChoice):FA d c=gSort (fun x y=>F9 x y c) d:=by
 simp only [FA,gSort,cStab_eq]
def posN(l:Int):Nat:=if 0<l then(2*l).toNat else(-2*l-1).toNat
def numC(x:GChoice):Nat:=if x.fAway=true then 100000 else(posN x.fLate*3+posN x.fOctave)*24+x.fTrack.toNat
theorem flat_pair{S:Type}(num:S→Nat)(g:Nat→List S)(B base:Nat):∀m,(∀i,i<m→(g i).Pairwise (fun a b=>num a<num b)∧∀x∈g i,base+i*B≤num x∧num x<base+(i+1)*B)→
  ((List.range m).flatMap g).Pairwise (fun a b=>num a<num b)∧∀x∈(List.range m).flatMap g,base≤num x∧num x<base+m*B:=by
 intro m
 induction m with
 | zero=>intro _;simp
 | succ m ih=>
  intro h
  obtain⟨h1,h2⟩:=ih (fun i hi=>h i (by omega))
  obtain⟨h3,h4⟩:=h m (by omega)
  rw [List.range_succ,List.flatMap_append]
  simp only [List.flatMap_cons,List.flatMap_nil,List.append_nil]
  have e:(m+1)*B=m*B+B:=Nat.succ_mul m B
  refine⟨List.pairwise_append.2 ⟨h1,h3,fun a ha b hb=> ?_⟩,fun x hx=> ?_⟩
  ·have:=h2 a ha;have:=h4 b hb;omega
  ·rcases List.mem_append.1 hx with hx | hx
   ·have:=h2 x hx;omega
   ·have:=h4 x hx;omega
theorem tk_num(f:GFrame)(n:GNote)(l o:Int)(hf:f.fHammers.length≤24):(tk f n l o).Pairwise (fun a b=>numC a<numC b)∧∀x∈tk f n l o,(posN l*3+posN o)*24≤numC x∧numC x<(posN l*3+posN o)*24+24:=by
 obtain⟨h1,h2⟩:=flat_pair numC (mt f n l o) 1 ((posN l*3+posN o)*24) f.fHammers.length (fun i hi=>by
  unfold mt
  split
  ·refine⟨by simp,fun x hx=> ?_⟩
   simp only [List.mem_singleton] at hx
   subst hx
   have:numC ⟨false,l,o,w8 (i:Int)⟩=(posN l*3+posN o)*24+i:=by
    simp only [numC,Bool.false_eq_true,if_false]
    rw [w8_in (by omega) (by omega)];simp
   omega
  ·simp)
 refine⟨h1,fun x hx=> ?_⟩
 have:=h2 x hx
 omega
theorem allFor_num(f:GFrame)(n:GNote)(hf:f.fHammers.length≤24):(allFor f n).Pairwise (fun a b=>numC a<numC b):=by
 have hoc:∀(l:Int) (j:Nat),j<3→(oc f n l j).Pairwise (fun a b=>numC a<numC b)∧∀x∈oc f n l j,posN l*72+j*24≤numC x∧numC x<posN l*72+(j+1)*24:=by
  intro l j hj
  have hq:∃o,[(0:Int),-1,1][j]?=some o∧posN o=j:=by
   match j,hj with
   | 0,_=>exact⟨0,rfl,rfl⟩
   | 1,_=>exact⟨-1,rfl,rfl⟩
   | 2,_=>exact⟨1,rfl,rfl⟩
  obtain⟨o,ho,hj2⟩:=hq
  unfold oc
  rw [ho]
  obtain⟨h1,h2⟩:=tk_num f n l o hf
  refine⟨h1,fun x hx=> ?_⟩
  have:=h2 x hx
  omega
 have hla:∀i,i<7→(la f n i).Pairwise (fun a b=>numC a<numC b)∧∀x∈la f n i,0+i*72≤numC x∧numC x<0+(i+1)*72:=by
  intro i hi
  have hq:∃l,[(0:Int),-1,1,-2,2,-3,3][i]?=some l∧posN l=i:=by
   match i,hi with
   | 0,_=>exact⟨0,rfl,rfl⟩
   | 1,_=>exact⟨-1,rfl,rfl⟩
   | 2,_=>exact⟨1,rfl,rfl⟩
   | 3,_=>exact⟨-2,rfl,rfl⟩
   | 4,_=>exact⟨2,rfl,rfl⟩
   | 5,_=>exact⟨-3,rfl,rfl⟩
   | 6,_=>exact⟨3,rfl,rfl⟩
  obtain⟨l,hl,hp⟩:=hq
  unfold la
  rw [hl]
  simp only
  split
  ·obtain⟨h1,h2⟩:=flat_pair numC (oc f n l) 24 (posN l*72) 3 (hoc l)
   refine⟨h1,fun x hx=> ?_⟩
   have:=h2 x hx
   omega
  ·simp
 obtain⟨h1,h2⟩:=flat_pair numC (la f n) 72 0 7 hla
 unfold allFor
 refine List.pairwise_append.2 ⟨h1,by simp,fun a ha b hb=> ?_⟩
 simp only [List.mem_singleton] at hb
 subst hb
 have:=h2 a ha
 have:numC ⟨true,0,0,0⟩=100000:=rfl
 omega
noncomputable def cmpS (c:GCosts) (x y:GChoice):Option Int:=(FC c x).bind fun a=>(FC c y).bind fun b=>some (if a<b then-1 else 0)
theorem ins_step(c:GCosts):FF.l_12 c=gIns.l_11 (cmpS c) 0:=by
 funext ⟨xs,i⟩
 simp only [FF.l_12,gIns.l_11,cmpS]
 by_cases h0:i>0
 ·simp only [h0,decide_true,if_true]
  cases h1:ix xs i with
  | none=>rfl
  | some x=>
   simp only [Option.bind_some]
   cases h2:ix xs (w64 (i-1)) with
   | none=>rfl
   | some y=>
    simp only [Option.bind_some]
    cases h3:FC c x with
    | none=>rfl
    | some a=>
     simp only [Option.bind_some]
     cases h4:FC c y with
     | none=>rfl
     | some b=>
      simp only [Option.bind_some]
      by_cases hab:a<b
      ·simp [hab]
      ·simp [hab]
 ·simp only [h0,decide_false,Bool.false_eq_true,if_false]
theorem ordered_eq(f:GFrame)(n:GNote)(c:GCosts){xs:List GChoice}(h:Fx f n=some xs):FF f n c=gIns (cmpS c) xs 0 (xs.length:Int):=by
 simp only [FF,h,Option.bind_some,gIns]
 have e:FF.l_6 c xs=gIns.l_5 (cmpS c) 0 (xs.length:Int):=by
  funext ⟨ys,i⟩
  simp only [FF.l_6,gIns.l_5,ins_step]
  rfl
 rw [e]
 rfl
theorem sorted_eq{S:Type}{key:S→Int}{num:S→Nat}:∀{X Y:List S},X.Perm Y→X.Pairwise (ltK key num)→Y.Pairwise (ltK key num)→X=Y:=by
 intro X
 induction X with
 | nil=>intro Y h _ _;exact(List.perm_nil.1 h.symm).symm
 | cons x X ih=>
  intro Y h hx hy
  cases Y with
  | nil=>exact absurd h.length_eq (by simp)
  | cons y Y=>
   have hxy:x=y:=by
    rcases List.mem_cons.1 (h.mem_iff.1 (List.mem_cons_self (a:=x) (l:=X))) with e | h1
    ·exact e
    ·rcases List.mem_cons.1 (h.mem_iff.2 (List.mem_cons_self (a:=y) (l:=Y))) with e | h2
     ·exact e.symm
     ·have a:=(List.pairwise_cons.1 hx).1 y h2
      have b:=(List.pairwise_cons.1 hy).1 x h1
      unfold ltK at a b
      omega
   subst hxy
   rw [ih ((List.perm_cons x).1 h) (List.pairwise_cons.1 hx).2 (List.pairwise_cons.1 hy).2]
theorem choices_sorted{f:GFrame}(hf:FOk f){c:GCosts}(hc:COk c){n:GNote}(ha:0≤n.fAt∧n.fAt≤199)(hp:0≤n.fPitch∧n.fPitch≤47):
  ∃Y,FA (allFor f n) c=some Y∧FF f n c=some Y∧Y.Perm (allFor f n)∧Y.Pairwise (ltK (costV c) numC):=by
 have hl:=allFor_len f n hf.h1
 have hnum:=allFor_num f n hf.h1
 have hc1:CmK (fun x y=>F9 x y c) small3 (costV c):=by
  intro x y hx hy
  simp only [F9,of_is hc hx,of_is hc hy,Option.bind_some,FaH,FaX]
  by_cases hlt:costV c x<costV c y
  ·exact⟨-1,by simp [hlt],by simp [hlt]⟩
  ·by_cases hgt:costV c x>costV c y
   ·exact⟨1,by simp [hlt,hgt],by simp [hlt]⟩
   ·exact⟨0,by simp [hlt,hgt],by simp [hlt]⟩
 have hc2:CmK (cmpS c) small3 (costV c):=by
  intro x y hx hy
  simp only [cmpS,cost_is hc hx,cost_is hc hy,Option.bind_some]
  by_cases hlt:costV c x<costV c y
  ·exact⟨-1,by simp [hlt],by simp [hlt]⟩
  ·exact⟨0,by simp [hlt],by simp [hlt]⟩
 have hD:∀y∈allFor f n,small3 y:=fun y hy=>all_small hf ha hp hy
 obtain⟨Y,y1,y2,y3⟩:=stable_is (num:=numC) hc1 (allFor f n) (by omega) hD hnum
 obtain⟨Z,z1,z2,z3⟩:=ins_is (num:=numC) hc2 [] (allFor f n) [] (by simp;omega) hD hnum
 have e:Y=Z:=sorted_eq (y2.trans z2.symm) y3 z3
 subst e
 refine⟨Y,by rw [cSort_eq];exact y1,?_,y2,y3⟩
 rw [ordered_eq f n c (l07For_is hf n)]
 simpa using z1
end Go.Proofs.YtolfkfjjifdmeaaGreat
