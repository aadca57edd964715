/- What a drum plays: the program's list and the reference's. -/
import Derived.Test.YtolfkfjjifdmeaaGreatM0
import Derived.Test.YtolfkfjjifdmeaaGreatM1
import Derived.Test.YtolfkfjjifdmeaaGreatPFrame
import Derived.Test.YtolfkfjjifdmeaaGreatPDrum
import Derived.Test.YtolfkfjjifdmeaaGreatPTune
import Derived.Test.YtolfkfjjifdmeaaGreatPMade
import Derived.Test.YtolfkfjjifdmeaaGreatPure
namespace Go.Proofs.YtolfkfjjifdmeaaGreat
open Eng
set_option linter.unusedVariables false
set_option linter.unusedSimpArgs false
def np(f:GFrame)(d:Arr 96 Int)(s t:Nat):List GNote:=if pin d s t=true then((f.fHammers[t]?).map fun h=>(⟨(s:Int),h.fPitch⟩:GNote)).toList else []
theorem np_len(f:GFrame)(d:Arr 96 Int)(s t:Nat):(np f d s t).length≤1:=by
 unfold np
 split
 ·cases f.fHammers[t]?<;>simp
 ·simp
def nr(f:GFrame)(d:Arr 96 Int)(s:Nat):List GNote:=(List.range f.fHammers.length).flatMap (np f d s)
theorem nr_len(f:GFrame)(d:Arr 96 Int)(s:Nat):(nr f d s).length≤f.fHammers.length*1:=app_len _ _ _ fun k _=>np_len f d s k
def nall(f:GFrame)(d:Arr 96 Int):List GNote:=(List.range f.fSteps.toNat).flatMap (nr f d)
theorem playIn{f:GFrame}(hf:FOk f){d:Arr 96 Int}(hd:DIn d)(s:Nat)(hs:(s:Int)<f.fSteps)(xs:List GNote)(hx:xs.length≤4000):
  loop (Fe.l_12 d 0 (w64 f.fSteps) f (s:Int) (f.fHammers.length:Int)) (xs,0)=some (xs++nr f d s):=by
 have h1:=hf.h1;have h2:=hf.s1;have h3:=hf.s0
 refine loop_app f.fHammers.length 1 (by omega) (np f d s) xs (fun k _=>np_len f d s k) (fun ys k hk hy=> ?_) (fun ys=>by simp [Fe.l_12])
 simp only [Fe.l_12,has_is hd (show s<96 by omega) (t:=k) (by omega),Option.bind_some]
 rw [if_pos (by simpa using hk)]
 unfold np
 cases c:pin d s k with
 | true=>
  simp only [if_true,Fa5,FG,ix_lt hk,Option.bind_some,List.getElem?_eq_getElem hk,Option.map_some,Option.toList_some]
  rw [w64_in (n:=f.fSteps) (by omega) (by omega),w64_in (n:=0+f.fSteps) (by omega) (by omega),w64_in (n:=0+f.fSteps-1) (by omega) (by omega),if_pos (by simp only [ge_iff_le,Bool.and_eq_true,decide_eq_true_eq];omega),w64_in (n:=(s:Int)-0) (by omega) (by omega),w16_in (n:=(s:Int)-0) (by omega) (by omega)]
  rw [if_pos (by simp only [List.length_cons,List.length_nil];omega)]
  simp
 | false=>simp
theorem specPlayIn{f:GFrame}(hf:FOk f){d:Arr 96 Int}(hd:DIn d)(s:Nat)(hs:(s:Int)<f.fSteps)(xs:List GNote)(hx:xs.length≤4000):
  loop (FU.l_12 f d (s:Int)) (xs,0)=some (xs++nr f d s):=by
 have h1:=hf.h1;have h2:=hf.s1;have h3:=hf.s0
 refine loop_app f.fHammers.length 1 (by omega) (np f d s) xs (fun k _=>np_len f d s k) (fun ys k hk hy=> ?_) (fun ys=>by simp [FU.l_12])
 simp only [FU.l_12,pin_is hd (show s<96 by omega) (t:=k) (by omega),Option.bind_some]
 rw [if_pos (by simpa using hk)]
 unfold np
 cases c:pin d s k with
 | true=>
  simp only [if_true,ix_lt hk,Option.bind_some,List.getElem?_eq_getElem hk,Option.map_some,Option.toList_some]
  rw [w16_in (n:=(s:Int)) (by omega) (by omega),if_pos (by simp only [List.length_cons,List.length_nil];omega)]
 | false=>simp
theorem played_is{f:GFrame}(hf:FOk f){d:Arr 96 Int}(hd:DIn d):FaN f d 0 (w64 f.fSteps)=Fbt (nall f d):=by
 have h1:=hf.h1;have h2:=hf.s1;have h3:=hf.s0
 have e:w64 f.fSteps=(f.fSteps.toNat:Int):=by rw [w64_in (by omega) (by omega)];omega
 have:=loop_app (f:=Fe.l_5 f d 0 (w64 f.fSteps) f) f.fSteps.toNat 24 (by omega) (nr f d) [] (fun k _=>by have:=nr_len f d k;omega) (fun ys k hk hy=>by
  simp only [List.length_nil] at hy
  simp only [Fe.l_5,size_is,Option.bind_some,playIn hf hd k (by omega) ys (by omega),Fe.k_9]
  rw [if_pos (by rw [e,decide_eq_true_eq];omega)]) (fun ys=>by simp [Fe.l_5,e])
 simp only [FaN,Fe,this,Option.bind_some,Fe.k_2,List.nil_append]
 show (Fbt (nall f d)).bind some=_
 cases Fbt (nall f d)<;>rfl
theorem l02Tune_is{f:GFrame}(hf:FOk f){d:Arr 96 Int}(hd:DIn d):FU f d=Fu (nall f d):=by
 have h1:=hf.h1;have h2:=hf.s1;have h3:=hf.s0
 have e:w64 f.fSteps=(f.fSteps.toNat:Int):=by rw [w64_in (by omega) (by omega)];omega
 have:=loop_app (f:=FU.l_6 f d) f.fSteps.toNat 24 (by omega) (nr f d) [] (fun k _=>by have:=nr_len f d k;omega) (fun ys k hk hy=>by
  simp only [List.length_nil] at hy
  simp only [FU.l_6,Option.bind_some,specPlayIn hf hd k (by omega) ys (by omega),FU.k_9]
  rw [if_pos (by rw [e,decide_eq_true_eq];omega)]) (fun ys=>by simp [FU.l_6,e])
 simp only [FU,this,Option.bind_some,FU.k_2,List.nil_append]
 show (Fu (nall f d)).bind some=_
 cases Fu (nall f d)<;>rfl
end Go.Proofs.YtolfkfjjifdmeaaGreat
