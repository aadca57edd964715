/- Arrangements that fit: what the program says of them; the greedy one fits. -/
import Derived.Test.YtolfkfjjifdmeaaGreatM0
import Derived.Test.YtolfkfjjifdmeaaGreatM2
import Derived.Test.YtolfkfjjifdmeaaGreatM3
import Derived.Test.YtolfkfjjifdmeaaGreatM4
import Derived.Test.YtolfkfjjifdmeaaGreatPStab
import Derived.Test.YtolfkfjjifdmeaaGreatPFrame
import Derived.Test.YtolfkfjjifdmeaaGreatPDrum
import Derived.Test.YtolfkfjjifdmeaaGreatPCodes
import Derived.Test.YtolfkfjjifdmeaaGreatPPut
import Derived.Test.YtolfkfjjifdmeaaGreatPTune
import Derived.Test.YtolfkfjjifdmeaaGreatPMadeS
import Derived.Test.YtolfkfjjifdmeaaGreatPChoices
import Derived.Test.YtolfkfjjifdmeaaGreatPCosts
import Derived.Test.YtolfkfjjifdmeaaGreatPLeast
import Derived.Test.YtolfkfjjifdmeaaGreatPBound
import Derived.Test.YtolfkfjjifdmeaaGreatPFit
import Derived.Test.YtolfkfjjifdmeaaGreatPSearch
import Derived.Test.YtolfkfjjifdmeaaGreatPChSort
import Derived.Test.YtolfkfjjifdmeaaGreatPArr
import Derived.Test.YtolfkfjjifdmeaaGreatPBestArr
import Derived.Test.YtolfkfjjifdmeaaGreatPGreedyL
import Derived.Test.YtolfkfjjifdmeaaGreatPDraw
import Derived.Test.YtolfkfjjifdmeaaGreatPDrawShort
import Derived.Test.YtolfkfjjifdmeaaGreatPure
namespace Go.Proofs.YtolfkfjjifdmeaaGreat
open Eng
set_option linter.unusedVariables false
set_option linter.unusedSimpArgs false
theorem sameChoices_refl(t:List GChoice)(h:t.length≤1000000):FN t t=some true:=by
 have h0:loop (FN.l_3 t t) 0=some (.inr ()):=loop_seq (f:=FN.l_3 t t) t.length (fun k=>(k:Int)) (.inr ()) (fun k hk=>by
  simp only [FN.l_3,ix_lt hk,Option.bind_some]
  rw [if_pos (by simpa using hk),if_neg (by simp),w64_in (n:=(k:Int)+1) (by omega) (by omega)]
  simp) (by simp [FN.l_3])
 simp [FN,h0,FN.k_1]
theorem same_refl(t:List Int)(h:t.length≤1000000):FbO t t=some true:=by
 have h0:loop (Fas.l_3 t t) 0=some (.inr ()):=loop_seq (f:=Fas.l_3 t t) t.length (fun k=>(k:Int)) (.inr ()) (fun k hk=>by
  simp only [Fas.l_3,ix_lt hk,Option.bind_some]
  rw [if_pos (by simpa using hk),if_neg (by simp),w64_in (n:=(k:Int)+1) (by omega) (by omega)]
  simp) (by simp [Fas.l_3])
 simp [FbO,Fas,h0,Fas.k_1]
theorem choiceB_in{f:GFrame}(hf:FOk f){n:GNote}(ha:0≤n.fAt∧n.fAt≤199)(hp:0≤n.fPitch∧n.fPitch≤47){x:GChoice}(hx:x∈allFor f n):choiceB x=true:=by
 have hh1:=hf.h1
 rcases(mem_allFor hf ha hp x).1 hx with rfl | ⟨h1,h2,h3,h4,k,h5,h6,h7⟩
 ·rfl
 ·unfold choiceB
  rw [h1]
  simp only [Bool.false_eq_true,if_false,Bool.and_eq_true,decide_eq_true_eq]
  rw [w64_in (n:=x.fLate) (by omega) (by omega),w64_in (n:=x.fOctave) (by omega) (by omega),w64_in (n:=x.fTrack) (by omega) (by omega)]
  omega
theorem a2Costs_is(code:List Int)(hc:∀y∈code,0≤y∧y≤255):∃c,FbE code=some c∧COk c∧CIn c:=by
 obtain⟨e,h⟩:=from_is code hc
 obtain⟨x1,s1,e1,p1,q1,o1,c1⟩:=pick_is h (by omega) (n:=12) (by omega)
 obtain⟨x2,s2,e2,p2,q2,o2,c2⟩:=pick_is o1 (by omega) (n:=6) (by omega)
 obtain⟨x3,s3,e3,p3,q3,o3,c3⟩:=pick_is o2 (by omega) (n:=4) (by omega)
 have q1:=q1 (by omega);have q2:=q2 (by omega);have q3:=q3 (by omega)
 have c1':s1.fcode=code:=c1
 have c2':s2.fcode=code:=c2.trans c1
 simp only [FbE,e,Option.bind_some,Fbc,e1,src_eta c1',e2,src_eta c2',e3]
 rw [w16_in (n:=x1) (by omega) (by omega),w16_in (n:=x2) (by omega) (by omega),w16_in (n:=x3) (by omega) (by omega)]
 exact⟨_,rfl,⟨by simp only;omega,by simp only;omega,by simp only;omega⟩,⟨by simp only;omega,by simp only;omega,by simp only;omega⟩⟩
theorem costsB_of{c:GCosts}(h:COk c):costsB c=true:=by
 have h1:=h.a;have h2:=h.o;have h3:=h.s
 unfold costsB
 simp only [Bool.and_eq_true,decide_eq_true_eq]
 omega
structure FitL (f:GFrame) (t:List GNote) (l:List GChoice):Prop where
 len:l.length=t.length
 fit:fitsAt f t l 0 (Arr.rep 96 0) t.length
theorem fits_mem{f:GFrame}{t:List GNote}:∀(r list:List GChoice) (d:Arr 96 Int),list.length+r.length=t.length→fitsAt f t (list++r) list.length d r.length→∀x∈r,∃n∈t,x∈allFor f n:=by
 intro r
 induction r with
 | nil=>intro _ _ _ _ x hx;cases hx
 | cons y r ih=>
  intro list d hl h x hx
  simp only [List.length_cons] at hl h
  have hk:list.length<t.length:=by omega
  obtain⟨h1,d',_,h3⟩:=fits_step (List.getElem?_eq_getElem hk) h
  rcases List.mem_cons.1 hx with rfl | hx
  ·exact⟨t[list.length],List.getElem_mem hk,h1⟩
  ·exact ih (list++ [y]) d' (by simp;omega) (by simpa using h3) x hx
section
variable {f:GFrame} {t:List GNote} {l:List GChoice}
theorem FitL.mem(h:FitL f t l):∀x∈l,∃n∈t,x∈allFor f n:=fits_mem l [] (Arr.rep 96 0) (by simpa using h.len) (by rw [h.len];simpa using h.fit)
theorem FitL.cb(h:FitL f t l)(hf:FOk f)(ht:TOk t):l.all choiceB=true:=by
 rw [List.all_eq_true]
 intro x hx
 obtain⟨n,hn,hm⟩:=h.mem x hx
 have:=ht.nt n hn
 exact choiceB_in hf (n:=n) (by omega) (by omega) hm
theorem FitL.asked(h:FitL f t l)(hf:FOk f)(ht:TOk t):askedB f t l=0:=by
 unfold askedB;rw [if_pos ⟨frameB_of hf,tuneB_of ht,h.cb hf ht⟩,if_pos h.len]
theorem FitL.check(h:FitL f t l)(hf:FOk f)(ht:TOk t)(hi:FIn f)(hn:∀n∈t,NIn n):Fa3 f t l=some (true,0):=by
 have hh1:=hf.h1;have htl:=ht.len;have hll:=h.len
 obtain⟨e,he⟩:=h.fit
 have hv:fitV f t l= .inl e:=he
 have hfit:=fitted_is hi (show f.fHammers.length≤9223372036854775807 by omega) (show t.length≤9223372036854775807 by omega) hn (show l.length≤9223372036854775807 by omega)
 rw [if_pos (h.asked hf ht),hv] at hfit
 simp [Fa3,hfit]
end
theorem greedy_fit{f:GFrame}{t:List GNote}(c:GCosts)(hf:FOk f)(ht:TOk t):FitL f t (gSt f t c t.length).1:=by
 have key:∀k,k≤t.length→(gSt f t c k).1.length=k∧Ctx f t c (gSt f t c k).2 (gSt f t c k).1 (sumC c (gSt f t c k).1):=by
  intro k
  induction k with
  | zero=>intro _;exact⟨rfl,rfl,fun rest=>rfl⟩
  | succ k ih=>
   intro hk
   obtain⟨h1,h2⟩:=ih (by omega)
   have hkt:k<t.length:=by omega
   obtain⟨p1,d',p2⟩:=gPick_ok f c t[k] (gSt f t c k).2
   simp only [gSt,List.getElem?_eq_getElem hkt,p2]
   have hn:t[(gSt f t c k).1.length]?=some t[k]:=by rw [h1];exact List.getElem?_eq_getElem hkt
   have h3:=ctx_step h2 hn p1 p2
   refine⟨by simp [h1],?_⟩
   have e:sumC c (gSt f t c k).1+costV c (gPick f c t[k] (gSt f t c k).2)=sumC c ((gSt f t c k).1++ [gPick f c t[k] (gSt f t c k).2]):=by rw [sumC_app];simp [sumC,sumL]
   rw [e] at h3
   exact h3
 obtain⟨h1,h2⟩:=key t.length (Nat.le_refl _)
 refine⟨h1,(gSt f t c t.length).2,?_⟩
 have:=h2.fit []
 rw [h1,Nat.sub_self,List.append_nil] at this
 exact this
end Go.Proofs.YtolfkfjjifdmeaaGreat
