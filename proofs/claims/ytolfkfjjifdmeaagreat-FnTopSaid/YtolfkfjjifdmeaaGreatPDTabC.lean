/- The table of the drums' costs, and the code of drums with which to begin. -/
import Derived.Test.YtolfkfjjifdmeaaGreatM0
import Derived.Test.YtolfkfjjifdmeaaGreatM3
import Derived.Test.YtolfkfjjifdmeaaGreatM4
import Derived.Test.YtolfkfjjifdmeaaGreatPFrame
import Derived.Test.YtolfkfjjifdmeaaGreatPDrum
import Derived.Test.YtolfkfjjifdmeaaGreatPCodes
import Derived.Test.YtolfkfjjifdmeaaGreatPPut
import Derived.Test.YtolfkfjjifdmeaaGreatPBits
import Derived.Test.YtolfkfjjifdmeaaGreatPCost
import Derived.Test.YtolfkfjjifdmeaaGreatPDTab
import Derived.Test.YtolfkfjjifdmeaaGreatPBPath
import Derived.Test.YtolfkfjjifdmeaaGreatPOrdImpl
import Derived.Test.YtolfkfjjifdmeaaGreatPure
namespace Go.Proofs.YtolfkfjjifdmeaaGreat
open Eng
set_option linter.unusedVariables false
set_option linter.unusedSimpArgs false
def cstD(ds:List (Arr 96 Int))(i k:Nat):Nat:=match ds[i]?,ds[k]? with | some a,some b=>distD a b | _,_=>0
theorem tabC_is{ds:List (Arr 96 Int)}(h1:1≤ds.length)(h8:ds.length≤8):TabC (tabD ds) ds.length (cstD ds):=by
 refine⟨by simp [tabD],fun i k hi hk=> ?_,fun i k=> ?_,h1,h8⟩
 ·obtain⟨r,r1,r2⟩:=tabD_at hi hk
  refine⟨r,r1,?_⟩
  rw [r2];simp [cstD,hi,hk]
 ·unfold cstD
  split
  ·have:=distD_le;rename_i a b _ _;have:=this a b;omega
  ·omega
def startF(f:GFrame)(ds:List (Arr 96 Int))(first:Int):Int:=if listV f ds≠0 then listV f ds else if¬(-1≤first∧first≤(ds.length:Int)-1) then 2 else if ds.length=0 then 6 else 0
theorem startF_ok{f:GFrame}{ds:List (Arr 96 Int)}{first:Int}(h:startF f ds first=0):1≤ds.length∧ds.length≤8∧-1≤first∧first<ds.length:=by
 unfold startF listV at h
 by_cases h1:frameB f=true∧ds.all (drumB f)=true
 ·rw [if_pos h1] at h
  by_cases h8:ds.length≤8
  ·rw [if_pos h8] at h
   simp only [ne_eq,not_true_eq_false,if_false] at h
   by_cases hr:-1≤first∧first≤(ds.length:Int)-1
   ·rw [if_neg (by simpa using hr)] at h
    by_cases h0:ds.length=0
    ·rw [if_pos h0] at h;cases h
    ·omega
   ·rw [if_pos hr] at h;cases h
  ·rw [if_neg h8] at h;simp at h
 ·rw [if_neg h1] at h;simp at h
theorem startCodeF_is(f:GFrame)(hi:FIn f)(hl:f.fHammers.length≤9223372036854775807)(ds:List (Arr 96 Int))(hds:ds.length≤4294967296)(hd:∀d∈ds,DIn d)(first:Int):Fbn f ds first=some (startF f ds first):=by
 have w:w64 ((ds.length:Int)-1)=(ds.length:Int)-1:=w64_in (by omega) (by omega)
 simp only [Fbn,listCode_is f hi hl ds (by omega) hd,FbB,FG,Option.bind_some,w,FQ]
 unfold startF
 by_cases hr:-1≤first∧first≤(ds.length:Int)-1
 ·rw [show (decide ((-1:Int)≤first)&&decide (first≤(ds.length:Int)-1))=true by simp;omega]
  simp only [if_true,Option.bind_some]
  by_cases h:listV f ds=0
  ·by_cases h0:ds.length=0
   ·rw [if_neg (by rw [decide_eq_true_eq];omega)];simp [firstOf3,h,h0,hr];omega
   ·rw [if_pos (by rw [decide_eq_true_eq];omega)];simp [firstOf3,h,h0,hr]
  ·by_cases h0:ds.length=0
   ·rw [if_neg (by rw [decide_eq_true_eq];omega)];simp [firstOf3,h]
   ·rw [if_pos (by rw [decide_eq_true_eq];omega)];simp [firstOf3,h]
 ·rw [show (decide ((-1:Int)≤first)&&decide (first≤(ds.length:Int)-1))=false by rw [Bool.eq_false_iff];simp;omega]
  simp only [Bool.false_eq_true,if_false,Option.bind_some]
  by_cases h:listV f ds=0
  ·by_cases h0:ds.length=0
   ·rw [if_neg (by rw [decide_eq_true_eq];omega)];simp [firstOf3,h,hr]
   ·rw [if_pos (by rw [decide_eq_true_eq];omega)];simp [firstOf3,h,hr]
  ·by_cases h0:ds.length=0
   ·rw [if_neg (by rw [decide_eq_true_eq];omega)];simp [firstOf3,h]
   ·rw [if_pos (by rw [decide_eq_true_eq];omega)];simp [firstOf3,h]
theorem l05FirstF_is(f:GFrame)(hi:FIn f)(hl:f.fHammers.length≤9223372036854775807)(ds:List (Arr 96 Int))(hds:ds.length≤4294967296)(hd:∀d∈ds,DIn d)(first:Int):F1 f ds first=some (startF f ds first):=by
 have w:w64 ((ds.length:Int)-1)=(ds.length:Int)-1:=w64_in (by omega) (by omega)
 simp only [F1,l05Asked_is f hi hl ds (by omega) hd,FI,Option.bind_some,w]
 unfold startF
 by_cases h:listV f ds=0
 ·by_cases hr:-1≤first∧first≤(ds.length:Int)-1
  ·rw [show (decide (first≥(-1:Int))&&decide (first≤(ds.length:Int)-1))=true by simp;omega]
   simp only [h,beq_self_eq_true,if_true,Bool.not_true,Bool.false_eq_true,if_false,F1.k_3,F1.k_5,Bool.true_and,ne_eq,not_true_eq_false,hr,and_self]
   by_cases h0:ds.length=0
   ·simp [h0]
   ·rw [if_neg (by simp;intro h2;exact h0 (by rw [h2];rfl)),if_neg h0]
  ·rw [show (decide (first≥(-1:Int))&&decide (first≤(ds.length:Int)-1))=false by rw [Bool.eq_false_iff];simp;omega]
   simp [h,F1.k_3,F1.k_5,hr]
 ·simp [h,F1.k_3,F1.k_5]
end Go.Proofs.YtolfkfjjifdmeaaGreat
