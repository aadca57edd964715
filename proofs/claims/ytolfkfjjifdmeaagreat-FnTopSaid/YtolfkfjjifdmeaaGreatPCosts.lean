/- Costs: the program's test and the cost of a choice are the reference's; the least of some numbers. -/
import Derived.Test.YtolfkfjjifdmeaaGreatM0
import Derived.Test.YtolfkfjjifdmeaaGreatM1
import Derived.Test.YtolfkfjjifdmeaaGreatPFrame
import Derived.Test.YtolfkfjjifdmeaaGreatPure
namespace Go.Proofs.YtolfkfjjifdmeaaGreat
open Eng
set_option linter.unusedVariables false
set_option linter.unusedSimpArgs false
def CIn(c:GCosts):Prop:=(-32768≤c.fAway∧c.fAway≤32767)∧(-32768≤c.fOctave∧c.fOctave≤32767)∧(-32768≤c.fStep∧c.fStep≤32767)
def costsB(c:GCosts):Bool:=(decide (0≤c.fAway)&&decide (c.fAway≤1000))&&((decide (0≤c.fOctave)&&decide (c.fOctave≤1000))&&(decide (0≤c.fStep)&&decide (c.fStep≤1000)))
theorem l07Costs_is{c:GCosts}(h:CIn c):Fbz c=some (costsB c):=by
 obtain⟨h1,h2,h3⟩:=h
 simp only [Fbz,FI,Option.bind_some,costsB,ge_iff_le]
 rw [w64_in (n:=c.fAway) (by omega) (by omega),w64_in (n:=c.fOctave) (by omega) (by omega),w64_in (n:=c.fStep) (by omega) (by omega)]
 cases (decide (0≤c.fAway)&&decide (c.fAway≤1000))<;>cases (decide (0≤c.fOctave)&&decide (c.fOctave≤1000))<;>simp
theorem validCosts_is{c:GCosts}(h:CIn c):Fbg c=some (costsB c):=by
 obtain⟨h1,h2,h3⟩:=h
 simp only [Fbg,FG,Option.bind_some,costsB]
 rw [w64_in (n:=c.fAway) (by omega) (by omega),w64_in (n:=c.fOctave) (by omega) (by omega),w64_in (n:=c.fStep) (by omega) (by omega)]
 cases (decide (0≤c.fAway)&&decide (c.fAway≤1000))<;>cases (decide (0≤c.fOctave)&&decide (c.fOctave≤1000))<;>simp
structure COk (c:GCosts):Prop where
 a:0≤c.fAway∧c.fAway≤1000
 o:0≤c.fOctave∧c.fOctave≤1000
 s:0≤c.fStep∧c.fStep≤1000
theorem costsB_ok{c:GCosts}(h:costsB c=true):COk c:=by
 unfold costsB at h
 simp only [Bool.and_eq_true,decide_eq_true_eq] at h
 exact⟨h.1,h.2.1,h.2.2⟩
def small3(x:GChoice):Prop:=x.fAway=true∨(-3≤x.fLate∧x.fLate≤3)
def costV(c:GCosts)(x:GChoice):Int:=if x.fAway=true then c.fAway else c.fStep*(if x.fLate<0 then-x.fLate else x.fLate)+(if x.fOctave=0 then 0 else c.fOctave)
theorem late_le(s l:Int)(h0:0≤s)(h1:s≤1000)(hl0:0≤l)(hl:l≤3):0≤s*l∧s*l≤3000:=by
 have:s*l≤1000*l:=Int.mul_le_mul_of_nonneg_right h1 hl0
 exact⟨Int.mul_nonneg h0 hl0,by omega⟩
theorem costV_le{c:GCosts}(h:COk c){x:GChoice}(hx:small3 x):0≤costV c x∧costV c x≤4000:=by
 obtain⟨h1,h2,h3⟩:=h
 unfold costV
 by_cases ha:x.fAway=true
 ·rw [if_pos ha];omega
 ·rw [if_neg ha]
  rcases hx with hx | hx
  ·exact absurd hx ha
  ·have:=late_le c.fStep (if x.fLate<0 then-x.fLate else x.fLate) h3.1 h3.2 (by split<;>omega) (by split<;>omega)
   generalize c.fStep*(if x.fLate<0 then-x.fLate else x.fLate)=z at*
   split<;>omega
theorem cost_is{c:GCosts}(h:COk c){x:GChoice}(hx:small3 x):FC c x=some (costV c x):=by
 obtain⟨h1,h2,h3⟩:=h
 unfold FC costV
 by_cases ha:x.fAway=true
 ·rw [if_pos ha,if_pos ha,w64_in (by omega) (by omega)]
 ·rw [if_neg ha,if_neg ha]
  rcases hx with hx | hx
  ·exact absurd hx ha
  ·have hb:=late_le c.fStep (if x.fLate<0 then-x.fLate else x.fLate) h3.1 h3.2 (by split<;>omega) (by split<;>omega)
   rw [w64_in (n:=x.fLate) (by omega) (by omega)]
   by_cases hl:x.fLate<0
   ·simp only [if_pos hl] at hb⊢
    rw [if_pos (by simpa using hl),w64_in (n:=0-x.fLate) (by omega) (by omega),Int.zero_sub]
    simp only [FC.k_2,FC.k_4]
    rw [w64_in (n:=c.fStep) (by omega) (by omega),w64_in (n:=c.fStep*-x.fLate) (by omega) (by omega),w64_in (n:=c.fOctave) (by omega) (by omega),w64_in (n:=c.fStep*-x.fLate+c.fOctave) (by omega) (by omega)]
    by_cases ho:x.fOctave=0<;>simp [ho]
   ·simp only [if_neg hl] at hb⊢
    rw [if_neg (by simpa using hl)]
    simp only [FC.k_2,FC.k_4]
    rw [w64_in (n:=c.fStep) (by omega) (by omega),w64_in (n:=c.fStep*x.fLate) (by omega) (by omega),w64_in (n:=c.fOctave) (by omega) (by omega),w64_in (n:=c.fStep*x.fLate+c.fOctave) (by omega) (by omega)]
    by_cases ho:x.fOctave=0<;>simp [ho]
theorem of_is{c:GCosts}(h:COk c){x:GChoice}(hx:small3 x):Fau c x=some (costV c x):=by
 obtain⟨h1,h2,h3⟩:=h
 unfold Fau costV
 by_cases ha:x.fAway=true
 ·rw [if_pos ha,if_pos ha,w64_in (by omega) (by omega)]
 ·rw [if_neg ha,if_neg ha]
  rcases hx with hx | hx
  ·exact absurd hx ha
  ·have hb:=late_le c.fStep (if x.fLate<0 then-x.fLate else x.fLate) h3.1 h3.2 (by split<;>omega) (by split<;>omega)
   have e:(if w8 (0-x.fLate)>x.fLate then w8 (0-x.fLate) else x.fLate)=(if x.fLate<0 then-x.fLate else x.fLate):=by
    rw [w8_in (by omega) (by omega)]
    split<;>split<;>omega
   have e2:w64 (if x.fLate<0 then-x.fLate else x.fLate)=(if x.fLate<0 then-x.fLate else x.fLate):=by split<;>exact w64_in (by omega) (by omega)
   rw [e,e2]
   generalize (if x.fLate<0 then-x.fLate else x.fLate)=l at*
   have e3:FbS (x.fOctave !=0)=some (if x.fOctave=0 then 0 else 1):=by
    unfold FbS
    by_cases ho:x.fOctave=0<;>simp [ho]
   simp only [e3,Option.bind_some]
   rw [w64_in (n:=c.fStep) (by omega) (by omega),w64_in (n:=c.fStep*l) (by omega) (by omega),w64_in (n:=c.fOctave) (by omega) (by omega)]
   by_cases ho:x.fOctave=0
   ·simp only [if_pos ho,Int.mul_zero]
    rw [w64_in (n:=0) (by omega) (by omega),w64_in (by omega) (by omega)]
   ·simp only [if_neg ho,Int.mul_one]
    rw [w64_in (n:=c.fOctave) (by omega) (by omega),w64_in (by omega) (by omega)]
def leastL(m:Int)(xs:List Int):Int:=xs.foldl (fun m x=>if x<m then x else m) m
theorem leastL_snoc(m:Int)(xs:List Int)(x:Int):leastL m (xs++ [x])=if x<leastL m xs then x else leastL m xs:=by
 unfold leastL;rw [List.foldl_append];rfl
theorem leastL_spec:∀(xs:List Int) (m:Int),leastL m xs≤m∧(∀x∈xs,leastL m xs≤x)∧(leastL m xs=m∨leastL m xs∈xs):=by
 intro xs
 induction xs with
 | nil=>intro m;simp [leastL]
 | cons y xs ih=>
  intro m
  have e:leastL m (y::xs)=leastL (if y<m then y else m) xs:=rfl
  obtain⟨h1,h2,h3⟩:=ih (if y<m then y else m)
  rw [e]
  have hle:(if y<m then y else m)≤m∧(if y<m then y else m)≤y:=by split<;>omega
  refine⟨by omega,fun x hx=> ?_,?_⟩
  ·rcases List.mem_cons.1 hx with rfl | hx
   ·omega
   ·exact h2 x hx
  ·rcases h3 with h3 | h3
   ·by_cases hy:y<m
    ·rw [if_pos hy] at h3⊢;right;rw [h3];simp
    ·rw [if_neg hy] at h3⊢;left;exact h3
   ·right;simp [h3]
theorem leastL_eq{m m':Int}{xs xs':List Int}(h:∀x,(x=m∨x∈xs)↔(x=m'∨x∈xs')):leastL m xs=leastL m' xs':=by
 obtain⟨a1,a2,a3⟩:=leastL_spec xs m
 obtain⟨b1,b2,b3⟩:=leastL_spec xs' m'
 have h1:=(h _).1 a3
 have h2:=(h _).2 b3
 apply Int.le_antisymm
 ·rcases h2 with h2 | h2
  ·rw [h2];exact a1
  ·exact a2 _ h2
 ·rcases h1 with h1 | h1
  ·rw [h1];exact b1
  ·exact b2 _ h1
end Go.Proofs.YtolfkfjjifdmeaaGreat
