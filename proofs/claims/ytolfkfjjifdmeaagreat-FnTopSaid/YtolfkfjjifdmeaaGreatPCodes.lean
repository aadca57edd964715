/- The codes of frames, drums and places: the program's are the reference's. -/
import Derived.Test.YtolfkfjjifdmeaaGreatM0
import Derived.Test.YtolfkfjjifdmeaaGreatM1
import Derived.Test.YtolfkfjjifdmeaaGreatPFrame
import Derived.Test.YtolfkfjjifdmeaaGreatPDrum
import Derived.Test.YtolfkfjjifdmeaaGreatPure
namespace Go.Proofs.YtolfkfjjifdmeaaGreat
open Eng
set_option linter.unusedVariables false
set_option linter.unusedSimpArgs false
theorem firstOf2(a b:Int):Ff [a,b]=some (if a≠0 then a else b):=by
 simp only [Ff]
 rw [loop_eq]
 by_cases ha:a=0
 ·rw [show Ff.l_3 [a,b] 0=some (.inl 1) by simp [Ff.l_3,ix,ha,w64_in]]
  simp only
  rw [loop_eq]
  by_cases hb:b=0
  ·rw [show Ff.l_3 [a,b] 1=some (.inl 2) by simp [Ff.l_3,ix,hb,w64_in]]
   simp only
   rw [loop_eq,show Ff.l_3 [a,b] 2=some (.inr (.inr ())) by simp [Ff.l_3]]
   simp [ha,hb,Ff.k_1]
  ·rw [show Ff.l_3 [a,b] 1=some (.inr (.inl b)) by simp [Ff.l_3,ix,hb]]
   simp [ha]
 ·rw [show Ff.l_3 [a,b] 0=some (.inr (.inl a)) by simp [Ff.l_3,ix,ha]]
  simp [ha]
theorem contains_drum{f:GFrame}(hf:FOk f)(ds:List (Arr 96 Int))(hl:ds.length≤9223372036854775807)(hd:∀d∈ds,DIn d):F4 ds f=some (!(ds.all (drumB f))):=by
 obtain⟨t,ht,hq⟩:=loop_find (f:=Ft.l_3 ds f) ds (fun x=> !(drumB f x)) hl (fun k hk=>by
  simp only [Ft.l_3,ix_lt hk,Option.bind_some,Fbv,isDrum_is hf (hd _ (List.getElem_mem hk))]
  rw [if_pos (by simpa using hk)]
  by_cases he:drumB f ds[k]=true<;>simp [he]) (by simp [Ft.l_3])
 simp only [F4,Ft,ht,Option.bind_some]
 rcases hq with⟨hany,k,rfl,_⟩ | ⟨hany,rfl⟩
 ·rw [any_not] at hany
  rw [hany];simp
 ·rw [any_not] at hany
  rw [hany];simp [Ft.k_1]
theorem drumCode_is(f:GFrame)(hi:FIn f)(hl:f.fHammers.length≤9223372036854775807)(ds:List (Arr 96 Int))(hds:ds.length≤9223372036854775807)(hd:∀d∈ds,DIn d):
  FaO f ds=some (if frameB f=true∧ds.all (drumB f)=true then 0 else 1):=by
 simp only [FaO,validFrame_is f hl,Option.bind_some]
 cases hf:frameB f with
 | false=>simp [FQ]
 | true=>
  simp only [if_true,contains_drum (frameB_ok hf hi) ds hds hd,Option.bind_some,Bool.not_not,unless_is]
  cases ds.all (drumB f)<;>simp
theorem drumCode1(f:GFrame)(hi:FIn f)(hl:f.fHammers.length≤9223372036854775807)(d:Arr 96 Int)(hd:DIn d):
  FaO f [d]=some (if frameB f=true∧drumB f d=true then 0 else 1):=by
 rw [drumCode_is f hi hl [d] (by simp) (by simpa using hd)];simp
theorem l02Asked_is(f:GFrame)(hi:FIn f)(hl:f.fHammers.length≤9223372036854775807)(d:Arr 96 Int)(hd:DIn d):
  FaB f d=some (if frameB f=true∧drumB f d=true then 0 else 1):=by
 simp only [FaB,l02Frame_is f hl,Option.bind_some]
 cases hf:frameB f with
 | false=>simp [FaB.k_2]
 | true=>
  simp only [l02Drum_is (frameB_ok hf hi) hd,Option.bind_some,FaB.k_2]
  cases drumB f d<;>simp
end Go.Proofs.YtolfkfjjifdmeaaGreat
