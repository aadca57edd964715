/- The codes of lists of drums, and the table of their costs: the program's are the reference's. -/
import Derived.Test.YtolfkfjjifdmeaaGreatM0
import Derived.Test.YtolfkfjjifdmeaaGreatM3
import Derived.Test.YtolfkfjjifdmeaaGreatM4
import Derived.Test.YtolfkfjjifdmeaaGreatPFrame
import Derived.Test.YtolfkfjjifdmeaaGreatPDrum
import Derived.Test.YtolfkfjjifdmeaaGreatPCodes
import Derived.Test.YtolfkfjjifdmeaaGreatPPut
import Derived.Test.YtolfkfjjifdmeaaGreatPBits
import Derived.Test.YtolfkfjjifdmeaaGreatPCost
import Derived.Test.YtolfkfjjifdmeaaGreatPure
namespace Go.Proofs.YtolfkfjjifdmeaaGreat
open Eng
set_option linter.unusedVariables false
set_option linter.unusedSimpArgs false
theorem firstOf3(a b c:Int):Ff [a,b,c]=some (if a≠0 then a else if b≠0 then b else c):=by
 have g0:Ff.l_3 [a,b,c] 0=some (if a≠0 then .inr (.inl a) else .inl 1):=by
  by_cases h:a=0<;>simp [Ff.l_3,ix,h,w64_in]
 have g1:Ff.l_3 [a,b,c] 1=some (if b≠0 then .inr (.inl b) else .inl 2):=by
  by_cases h:b=0<;>simp [Ff.l_3,ix,h,w64_in]
 have g2:Ff.l_3 [a,b,c] 2=some (if c≠0 then .inr (.inl c) else .inl 3):=by
  by_cases h:c=0<;>simp [Ff.l_3,ix,h,w64_in]
 have g3:Ff.l_3 [a,b,c] 3=some (.inr (.inr ())):=by simp [Ff.l_3]
 simp only [Ff]
 rw [loop_eq,g0]
 by_cases ha:a=0
 ·simp only [ha,ne_eq,not_true_eq_false,if_false]
  rw [loop_eq];rw [ha] at g1 g2 g3;rw [g1]
  by_cases hb:b=0
  ·simp only [hb,ne_eq,not_true_eq_false,if_false]
   rw [loop_eq];rw [hb] at g2 g3;rw [g2]
   by_cases hc:c=0
   ·simp only [hc,ne_eq,not_true_eq_false,if_false]
    rw [loop_eq];rw [hc] at g3;rw [g3];simp [Ff.k_1]
   ·simp [hc]
  ·simp [hb]
 ·simp [ha]
theorem loop_code{S:Type}{f:Int→Option (Int⊕(Int⊕Unit))}(xs:List S)(p:S→Bool)(c:Int)(hn:xs.length≤9223372036854775807)
  (hf:∀(k:Nat) (hk:k<xs.length),f (k:Int)=some (if p xs[k]=true then .inl (w64 ((k:Int)+1)) else .inr (.inl c)))
  (he:f (xs.length:Int)=some (.inr (.inr ()))):loop f 0=some (if xs.all p=true then .inr () else .inl c):=by
 have key:∀m k:Nat,k+m=xs.length→(∀i (h:i<xs.length),i<k→p xs[i]=true)→loop f (k:Int)=some (if xs.all p=true then .inr () else .inl c):=by
  intro m
  induction m with
  | zero=>
   intro k hk hall
   obtain rfl:k=xs.length:=by omega
   rw [loop_eq,he,if_pos]
   refine List.all_eq_true.2 fun x hx=> ?_
   obtain⟨i,h,rfl⟩:=List.mem_iff_getElem.1 hx
   exact hall i h h
  | succ m ih=>
   intro k hk hall
   have hlt:k<xs.length:=by omega
   rw [loop_eq,hf k hlt]
   by_cases h:p xs[k]=true
   ·rw [if_pos h]
    simp only
    rw [w64_in (by omega) (by omega),show (k:Int)+1=((k+1:Nat):Int) from rfl]
    exact ih (k+1) (by omega) (fun i hi hik=>by
     by_cases e:i=k
     ·subst e;exact h
     ·exact hall i hi (by omega))
   ·rw [if_neg h]
    simp only
    rw [if_neg]
    intro ha
    exact h (List.all_eq_true.1 ha _ (List.getElem_mem hlt))
 exact key xs.length 0 (by omega) (fun i _ h=>absurd h (by omega))
def listV(f:GFrame)(ds:List (Arr 96 Int)):Int:=if frameB f=true∧ds.all (drumB f)=true then(if ds.length≤8 then 0 else 3) else 1
theorem listCode_is(f:GFrame)(hi:FIn f)(hl:f.fHammers.length≤9223372036854775807)(ds:List (Arr 96 Int))(hds:ds.length≤9223372036854775807)(hd:∀d∈ds,DIn d):Fa9 f ds=some (listV f ds):=by
 simp only [Fa9,drumCode_is f hi hl ds hds hd,Option.bind_some,FQ]
 unfold listV
 by_cases h:frameB f=true∧ds.all (drumB f)=true
 ·rw [if_pos h,if_pos h]
  by_cases h8:ds.length≤8
  ·rw [if_pos (by simp;omega)];simp [firstOf2,h8]
  ·rw [if_neg (by simp;omega)];simp [firstOf2,h8]
 ·rw [if_neg h,if_neg h]
  by_cases h8:ds.length≤8
  ·rw [if_pos (by simp;omega)];simp [firstOf2]
  ·rw [if_neg (by simp;omega)];simp [firstOf2]
theorem l05Asked_is(f:GFrame)(hi:FIn f)(hl:f.fHammers.length≤9223372036854775807)(ds:List (Arr 96 Int))(hds:ds.length≤9223372036854775807)(hd:∀d∈ds,DIn d):Faq f ds=some (listV f ds):=by
 simp only [Faq,l02Frame_is f hl,Option.bind_some]
 cases hf:frameB f with
 | false=>simp [listV,hf]
 | true=>
  simp only [Bool.not_true,Bool.false_eq_true,if_false]
  rw [loop_code ds (drumB f) 1 hds (fun k hk=>by
   simp only [Faq.l_4,ix_lt hk,Option.bind_some,l02Drum_is (frameB_ok hf hi) (hd _ (List.getElem_mem hk))]
   rw [if_pos (by simpa using hk)]
   by_cases he:drumB f ds[k]=true<;>simp [he]) (by simp [Faq.l_4])]
  unfold listV
  cases ha:ds.all (drumB f) with
  | false=>simp [hf]
  | true=>
   simp only [hf,if_true,Option.bind_some,Faq.k_2,and_self]
   by_cases h8:ds.length≤8
   ·rw [if_neg (by simp;omega),if_pos h8]
   ·rw [if_pos (by simp;omega),if_neg h8]
def tabD(ds:List (Arr 96 Int)):List (List Int):=ds.map fun a=>ds.map fun b=>((distD a b:Nat):Int)
theorem loop_map{S T:Type}(xs:List S)(g:S→T){f:List T×Int→Option ((List T×Int)⊕List T)}(hn:xs.length≤4294967296)
  (hf:∀ys (k:Nat) (hk:k<xs.length),ys.length+1≤4294967296→f (ys,(k:Int))=some (.inl (ys++ [g xs[k]],w64 ((k:Int)+1)))) (he:∀ys,f (ys,(xs.length:Int))=some (.inr ys)):loop f ([],0)=some (xs.map g):=by
 have:=loop_seq (f:=f) xs.length (fun k=>((xs.take k).map g,(k:Int))) (xs.map g) (fun k hk=>by
  have e:(xs.take (k+1)).map g=(xs.take k).map g++ [g xs[k]]:=by rw [List.take_add_one,List.getElem?_eq_getElem hk];simp only [List.map_append,Option.toList_some,List.map_cons,List.map_nil]
  rw [hf _ k hk (by simp;omega),w64_in (by omega) (by omega),e]
  rfl) (by rw [he];simp)
 simpa using this
theorem costs_is(ds:List (Arr 96 Int))(hl:ds.length≤4294967296)(hd:∀d∈ds,DIn d):F7 ds=some (tabD ds):=by
 have h0:loop (F7.l_3 ds) ([],0)=some (tabD ds):=loop_map ds (fun a=>ds.map fun b=>((distD a b:Nat):Int)) hl (fun ys k hk hy=>by
  have h1:loop (F7.l_10 ds ds[k]) ([],0)=some (ds.map fun b=>((distD ds[k] b:Nat):Int)):=loop_map ds _ hl (fun zs j hj hz=>by
   simp only [F7.l_10,ix_lt hj,Option.bind_some,cost_val (hd _ (List.getElem_mem hk)) (hd _ (List.getElem_mem hj))]
   rw [if_pos (by simpa using hj),if_pos (by simpa using hz)]) (fun zs=>by simp [F7.l_10])
  simp only [F7.l_3,ix_lt hk,Option.bind_some,h1,F7.k_7]
  rw [if_pos (by simpa using hk),if_pos hy]) (fun ys=>by simp [F7.l_3])
 simp only [F7,h0,Option.bind_some,F7.k_1]
theorem l05Table_is(ds:List (Arr 96 Int))(hl:ds.length≤4294967296)(hd:∀d∈ds,DIn d):FM ds=some (tabD ds):=by
 have h0:loop (FM.l_3 ds) ([],0)=some (tabD ds):=loop_map ds (fun a=>ds.map fun b=>((distD a b:Nat):Int)) hl (fun ys k hk hy=>by
  have h1:loop (FM.l_9 ds (k:Int)) ([],0)=some (ds.map fun b=>((distD ds[k] b:Nat):Int)):=loop_map ds _ hl (fun zs j hj hz=>by
   simp only [FM.l_9,ix_lt hj,ix_lt hk,Option.bind_some,l05Cost_is (hd _ (List.getElem_mem hk)) (hd _ (List.getElem_mem hj))]
   rw [if_pos (by simpa using hj),if_pos (by simpa using hz)]) (fun zs=>by simp [FM.l_9])
  simp only [FM.l_3,Option.bind_some,h1,FM.k_6]
  rw [if_pos (by simpa using hk),if_pos hy]) (fun ys=>by simp [FM.l_3])
 simp only [FM,h0,Option.bind_some,FM.k_1]
theorem tabD_at{ds:List (Arr 96 Int)}{i k:Nat}(hi:i<ds.length)(hk:k<ds.length):∃r,ix (tabD ds) (i:Int)=some r∧ix r (k:Int)=some ((distD ds[i] ds[k]:Nat):Int):=by
 refine⟨_,ix_lt (by simp [tabD];exact hi),?_⟩
 rw [ix_lt (by simp [tabD];exact hk)]
 simp [tabD]
end Go.Proofs.YtolfkfjjifdmeaaGreat
