/- Notes put in order one by one: the reference's way. -/
import Derived.Test.YtolfkfjjifdmeaaGreatM0
import Derived.Test.YtolfkfjjifdmeaaGreatPFrame
import Derived.Test.YtolfkfjjifdmeaaGreatPDrum
import Derived.Test.YtolfkfjjifdmeaaGreatPTune
import Derived.Test.YtolfkfjjifdmeaaGreatPure
namespace Go.Proofs.YtolfkfjjifdmeaaGreat
open Eng
set_option linter.unusedVariables false
set_option linter.unusedSimpArgs false
theorem befN_asymm{a b:GNote}(h1:befN a b=true)(h2:befN b a=true):False:=by
 rw [befN_iff] at h1 h2;omega
theorem befN_trans{a b c:GNote}(h1:befN a b=true)(h2:befN b c=true):befN a c=true:=by
 rw [befN_iff] at h1 h2⊢;omega
theorem note_ext{a b:GNote}(h1:a.fAt=b.fAt)(h2:a.fPitch=b.fPitch):a=b:=by
 cases a;cases b;simp_all
theorem befN_total{a b:GNote}(h1:¬befN a b=true)(h2:a≠b):befN b a=true:=by
 rw [befN_iff] at h1⊢
 have:¬(a.fAt=b.fAt∧a.fPitch=b.fPitch):=fun h=>h2 (note_ext h.1 h.2)
 omega
theorem befN_irrefl(a:GNote):¬befN a a=true:=by rw [befN_iff];omega
abbrev Strict(l:List GNote):Prop:=l.Pairwise fun x y=>befN x y=true
theorem strict_eq:∀(a b:List GNote),Strict a→Strict b→(∀x,x∈a↔x∈b)→a=b:=by
 intro a
 induction a with
 | nil=>
  intro b _ _ h
  cases b with
  | nil=>rfl
  | cons y b=>exact absurd ((h y).2 (by simp)) (by simp)
 | cons x a ih=>
  intro b ha hb h
  cases b with
  | nil=>exact absurd ((h x).1 (by simp)) (by simp)
  | cons y b=>
   unfold Strict at ha hb
   rw [List.pairwise_cons] at ha hb
   have hxy:x=y:=by
    refine Classical.byContradiction fun e=> ?_
    have h1:x∈b:=by
     rcases List.mem_cons.1 ((h x).1 (by simp)) with h1 | h1
     ·exact absurd h1 e
     ·exact h1
    have h2:y∈a:=by
     rcases List.mem_cons.1 ((h y).2 (by simp)) with h2 | h2
     ·exact absurd h2.symm e
     ·exact h2
    exact befN_asymm (ha.1 y h2) (hb.1 x h1)
   subst hxy
   rw [ih b ha.2 hb.2 fun z=> ?_]
   constructor
   ·intro hz
    rcases List.mem_cons.1 ((h z).1 (List.mem_cons_of_mem _ hz)) with e | e
    ·subst e;exact absurd (ha.1 z hz) (befN_irrefl z)
    ·exact e
   ·intro hz
    rcases List.mem_cons.1 ((h z).2 (List.mem_cons_of_mem _ hz)) with e | e
    ·subst e;exact absurd (hb.1 z hz) (befN_irrefl z)
    ·exact e
theorem eqN(a b:GNote):((a.fAt==b.fAt)&&(a.fPitch==b.fPitch))=decide (a=b):=by
 rw [Bool.eq_iff_iff,decide_eq_true_eq]
 simp only [Bool.and_eq_true,beq_iff_eq]
 constructor
 ·rintro⟨h1,h2⟩;exact note_ext h1 h2
 ·rintro rfl;exact⟨rfl,rfl⟩
theorem place_is(list xs:List GNote)(hx:xs.length≤1000000){i:Nat}(hi:i<list.length):∃j,j≤xs.length∧loop (Fu.l_14 list xs (i:Int)) 0=some (j:Int)∧(∀(m:Nat) (hm:m<xs.length),m<j→befN xs[m] list[i]=true)∧(∀hj:j<xs.length,¬befN xs[j] list[i]=true):=by
 obtain⟨r,hr,k,rfl,hk,h1,h2⟩:=loop_inv (f:=Fu.l_14 list xs (i:Int)) (fun s=>∃k:Nat,k≤xs.length∧s=(k:Int)∧∀(m:Nat) (hm:m<xs.length),m<k→befN xs[m] list[i]=true) (fun s=>xs.length-s.toNat)
  (fun r=>∃k:Nat,r=(k:Int)∧k≤xs.length∧(∀(m:Nat) (hm:m<xs.length),m<k→befN xs[m] list[i]=true)∧(∀hj:k<xs.length,¬befN xs[k] list[i]=true)) (by
  rintro _ ⟨k,hk,rfl,h⟩
  by_cases hlt:k<xs.length
  ·simp only [Fu.l_14,ix_lt hlt,ix_lt hi,Option.bind_some,l01Before_is]
   rw [if_pos (by simpa using hlt)]
   cases hb:befN xs[k] list[i] with
   | true=>
    left
    refine⟨((k+1:Nat):Int),by rw [w64_in (n:=(k:Int)+1) (by omega) (by omega)];simp,⟨k+1,by omega,rfl,fun m hm hmk=> ?_⟩,by omega⟩
    by_cases e:m=k
    ·subst e;exact hb
    ·exact h m hm (by omega)
   | false=>
    right
    exact⟨_,by simp,k,rfl,hk,h,fun _=>by rw [hb];simp⟩
  ·right
   simp only [Fu.l_14]
   rw [if_neg (by simpa using hlt)]
   exact⟨_,rfl,k,rfl,hk,h,fun h'=>absurd h' hlt⟩) 0 ⟨0,by omega,rfl,fun m _ h=>by omega⟩
 exact⟨k,hk,hr,h1,h2⟩
theorem insert_strict{xs:List GNote}{x:GNote}(hs:Strict xs){j:Nat}(h1:∀(m:Nat) (hm:m<xs.length),m<j→befN xs[m] x=true)(h2:∀hj:j<xs.length,befN x xs[j]=true):Strict (xs.take j++x::xs.drop j):=by
 have hlow:∀a∈xs.take j,befN a x=true:=by
  intro a ha
  obtain⟨i,hi,rfl⟩:=List.mem_iff_getElem.1 ha
  rw [List.length_take] at hi
  rw [List.getElem_take]
  exact h1 i (by omega) (by omega)
 have hhigh:∀b∈xs.drop j,befN x b=true:=by
  intro b hb
  obtain⟨i,hi,rfl⟩:=List.mem_iff_getElem.1 hb
  rw [List.length_drop] at hi
  rw [List.getElem_drop]
  have hj:j<xs.length:=by omega
  cases i with
  | zero=>simpa using h2 hj
  | succ i=>exact befN_trans (h2 hj) (List.pairwise_iff_getElem.1 hs j (j+(i+1)) hj (by omega) (by omega))
 unfold Strict
 rw [List.pairwise_append]
 refine⟨hs.sublist (List.take_sublist _ _),?_,?_⟩
 ·rw [List.pairwise_cons]
  exact⟨hhigh,hs.sublist (List.drop_sublist _ _)⟩
 ·intro a ha b hb
  rcases List.mem_cons.1 hb with rfl | hb
  ·exact hlow a ha
  ·exact befN_trans (hlow a ha) (hhigh b hb)
theorem insert_mem(xs:List GNote)(x:GNote)(j:Nat)(y:GNote):y∈xs.take j++x::xs.drop j↔y=x∨y∈xs:=by
 have:y∈xs↔y∈xs.take j∨y∈xs.drop j:=by
  rw [←List.mem_append,List.take_append_drop]
 rw [this,List.mem_append,List.mem_cons]
 constructor
 ·rintro(h | h | h)
  ·exact .inr (.inl h)
  ·exact .inl h
  ·exact .inr (.inr h)
 ·rintro(h | h | h)
  ·exact .inr (.inl h)
  ·exact .inl h
  ·exact .inr (.inr h)
theorem l01Sorted_is(list:List GNote)(hl:list.length≤1000000):∃r,Fu list=some r∧Strict r∧(∀x,x∈r↔x∈list)∧r.length≤list.length:=by
 obtain⟨r,hr,h1,h2,h3⟩:=loop_for (f:=Fu.l_5 list) list.length (by omega) (fun k xs=>Strict xs∧(∀x,x∈xs↔x∈list.take k)∧xs.length≤k) (fun r=>Strict r∧(∀x,x∈r↔x∈list)∧r.length≤list.length)
  (fun k xs hk hi=>by
   obtain⟨g1,g2,g3⟩:=hi
   left
   obtain⟨j,hj,e1,e2,e3⟩:=place_is list xs (by omega) hk
   have hmem:∀x,x∈list.take (k+1)↔x∈list.take k∨x=list[k]:=by
    intro x
    rw [List.take_succ_eq_append_getElem hk,List.mem_append,List.mem_singleton]
   have ins:(∀hj:j<xs.length,xs[j]≠list[k])→∃a',Fu.k_9 list xs (k:Int) (j:Int)=some (.inl (a',w64 ((k:Int)+1)))∧(Strict a'∧(∀x,x∈a'↔x∈list.take (k+1))∧a'.length≤k+1):=by
    intro hne
    refine⟨xs.take j++list[k]::xs.drop j,?_,insert_strict g1 e2 (fun hj'=>befN_total (e3 hj') (hne hj')),fun x=> ?_,?_⟩
    ·simp only [Fu.k_9,ix_lt hk,Option.bind_some,Int.toNat_natCast,List.nil_append,List.length_nil]
     rw [if_pos (by omega),if_pos (by simp only [List.length_drop];omega),if_pos (by omega),if_pos (by simp only [List.length_cons,List.length_nil];omega),if_pos (by simp only [List.length_append,List.length_take,List.length_drop,List.length_cons,List.length_nil];omega)]
     simp
    ·rw [insert_mem,hmem,g2]
     exact or_comm
    ·simp only [List.length_append,List.length_take,List.length_drop,List.length_cons];omega
   simp only [Fu.l_5,e1,Option.bind_some,Fu.k_8]
   rw [if_pos (by simpa using hk)]
   by_cases hjl:j<xs.length
   ·rw [if_pos (by simpa using hjl)]
    simp only [ix_lt hjl,ix_lt hk,Option.bind_some,eqN]
    by_cases e:xs[j]=list[k]
    ·rw [if_pos (by simpa using e)]
     refine⟨xs,rfl,g1,fun x=> ?_,by omega⟩
     rw [hmem,g2]
     constructor
     ·exact .inl
     ·rintro(h | h)
      ·exact h
      ·rw [h,←e];exact(g2 _).1 (List.getElem_mem hjl)
    ·rw [if_neg (by simpa using e)]
     exact ins fun _=>e
   ·rw [if_neg (by simpa using hjl)]
    exact ins fun h=>absurd h hjl)
  (fun xs hi=>by
   obtain⟨g1,g2,g3⟩:=hi
   rw [List.take_length] at g2
   exact⟨xs,by simp [Fu.l_5],g1,g2,g3⟩) [] ⟨by simp,by simp,by simp⟩
 exact⟨r,by simp only [Fu,hr,Option.bind_some,Fu.k_2],h1,h2,h3⟩
end Go.Proofs.YtolfkfjjifdmeaaGreat
