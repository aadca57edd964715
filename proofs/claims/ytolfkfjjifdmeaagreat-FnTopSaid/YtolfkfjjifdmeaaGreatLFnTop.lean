/- The law of what a drum plays, of arrangements and of orders: its plain function answers true at every input. -/
import Derived.Test.YtolfkfjjifdmeaaGreatM0
import Derived.Test.YtolfkfjjifdmeaaGreatM1
import Derived.Test.YtolfkfjjifdmeaaGreatM2
import Derived.Test.YtolfkfjjifdmeaaGreatM3
import Derived.Test.YtolfkfjjifdmeaaGreatM4
import Derived.Test.YtolfkfjjifdmeaaGreatPStab
import Derived.Test.YtolfkfjjifdmeaaGreatPFrame
import Derived.Test.YtolfkfjjifdmeaaGreatPDrum
import Derived.Test.YtolfkfjjifdmeaaGreatPCodes
import Derived.Test.YtolfkfjjifdmeaaGreatPPut
import Derived.Test.YtolfkfjjifdmeaaGreatPTune
import Derived.Test.YtolfkfjjifdmeaaGreatPMadeS
import Derived.Test.YtolfkfjjifdmeaaGreatPMade
import Derived.Test.YtolfkfjjifdmeaaGreatPChoices
import Derived.Test.YtolfkfjjifdmeaaGreatPCosts
import Derived.Test.YtolfkfjjifdmeaaGreatPLeast
import Derived.Test.YtolfkfjjifdmeaaGreatPFit
import Derived.Test.YtolfkfjjifdmeaaGreatPHeard
import Derived.Test.YtolfkfjjifdmeaaGreatPBells
import Derived.Test.YtolfkfjjifdmeaaGreatPSearch
import Derived.Test.YtolfkfjjifdmeaaGreatPChSort
import Derived.Test.YtolfkfjjifdmeaaGreatPArr
import Derived.Test.YtolfkfjjifdmeaaGreatPBestArr
import Derived.Test.YtolfkfjjifdmeaaGreatPGreedyL
import Derived.Test.YtolfkfjjifdmeaaGreatPDraw
import Derived.Test.YtolfkfjjifdmeaaGreatPDrawShort
import Derived.Test.YtolfkfjjifdmeaaGreatPFitL
import Derived.Test.YtolfkfjjifdmeaaGreatPBits
import Derived.Test.YtolfkfjjifdmeaaGreatPClash
import Derived.Test.YtolfkfjjifdmeaaGreatPCost
import Derived.Test.YtolfkfjjifdmeaaGreatPDTab
import Derived.Test.YtolfkfjjifdmeaaGreatPDrawDrum
import Derived.Test.YtolfkfjjifdmeaaGreatPBPath
import Derived.Test.YtolfkfjjifdmeaaGreatPOrdImpl
import Derived.Test.YtolfkfjjifdmeaaGreatPOrdSpec
import Derived.Test.YtolfkfjjifdmeaaGreatPDTabC
import Derived.Test.YtolfkfjjifdmeaaGreatPBestOrd
import Derived.Test.YtolfkfjjifdmeaaGreatPOrdLaw
import Derived.Test.YtolfkfjjifdmeaaGreatPDrawOrd
import Derived.Test.YtolfkfjjifdmeaaGreatPOrdVal
import Derived.Test.YtolfkfjjifdmeaaGreatPure
import Derived.Test.YtolfkfjjifdmeaaGreatSFnTop
namespace Go.Proofs.YtolfkfjjifdmeaaGreat
open Eng
set_option linter.unusedVariables false
set_option linter.unusedSimpArgs false
theorem sameTune_refl(t:List GNote)(h:t.length≤1000000):Fa8 t t=some true:=by
 have h0:loop (Far.l_3 t t) 0=some (.inr ()):=loop_seq (f:=Far.l_3 t t) t.length (fun k=>(k:Int)) (.inr ()) (fun k hk=>by
  simp only [Far.l_3,ix_lt hk,Option.bind_some]
  rw [if_pos (by simpa using hk),if_neg (by simp),w64_in (n:=(k:Int)+1) (by omega) (by omega)]
  simp) (by simp [Far.l_3])
 simp [Fa8,Far,h0,Far.k_1]
theorem top_orders(code0 more1:List Int)(o0:∀y∈code0,0≤y∧y≤255)(o1:∀y∈more1,0≤y∧y≤255):laws_FnTop.k_20 code0 more1=some true:=by
 obtain⟨f,e1,hf⟩:=a2Frame_is more1 o1
 obtain⟨ds,e2,hdl,hdd⟩:=a2Drums_is hf code0 o0
 have hh1:=hf.h1;have hs0:=hf.s0;have hs1:=hf.s1
 have hi:FIn f:=⟨by omega,fun y hy=>by have:=hf.hp y hy;omega⟩
 have hl:f.fHammers.length≤9223372036854775807:=by omega
 have hds:ds.length≤4294967296:=by omega
 have hd:∀d∈ds,DIn d:=fun d h=>(hdd d h).1
 have hv:listV f ds=0:=by
  unfold listV
  rw [if_pos ⟨frameB_of hf,List.all_eq_true.2 fun d h=>(hdd d h).2⟩,if_pos (by omega)]
 obtain⟨out,sum,code,b1,b2,b3,b4,b5⟩:=bestOrder_same f ds (-1) hi hl hds hd
 simp only [laws_FnTop.k_20,e1,e2,b1,b2,Option.bind_some,bne_self_eq_false,Bool.false_eq_true,if_false,same_refl out (by omega),Bool.not_true,Bool.or_self,laws_FnTop.k_26]
 by_cases hn:ds.length=0
 ·have hc6:startF f ds (-1)=6:=by
   unfold startF
   rw [if_neg (by simp [hv]),if_neg (by simp;omega),if_pos hn]
  rw [hc6] at b4
  subst b4
  rfl
 ·have h1:1≤ds.length:=by omega
  have h8:ds.length≤8:=by omega
  have hT:=tabC_is h1 h8
  have hc0:startF f ds (-1)=0:=by
   unfold startF
   rw [if_neg (by simp [hv]),if_neg (by simp;omega),if_neg hn]
  rw [hc0] at b4
  subst b4
  obtain⟨x,x1,x2,x3,x4⟩:=best_all (cstD ds) h1
  have b5:=b5 rfl
  rw [if_pos (by omega),x1] at b5
  obtain⟨rfl,rfl⟩:=Prod.mk.inj b5
  obtain⟨o2,d1,d2⟩:=a2Order_is more1 o1 h1 h8
  have oc1:=orderCost_one hi hl hd hv hT d2
  have:=x4 o2 d2
  simp only [bne_self_eq_false,Bool.false_eq_true,if_false,d1,oc1,Option.bind_some,beq_self_eq_true,Bool.true_and,Option.some.injEq,decide_eq_true_eq]
  show ((x.1:Nat):Int)≤_
  omega
theorem FnTop_ok(code0 more1:List Int)(o0:(code0.length≤9223372036854775807∧∀y∈code0,(0≤y∧y≤255)))(o1:(more1.length≤9223372036854775807∧∀y∈more1,(0≤y∧y≤255))):laws_FnTop code0 more1=some true:=by
 simp only [laws_FnTop,laws_a2Long,Option.bind_some]
 cases hlong:(decide ((code0.length:Int)>3000)) || (decide ((more1.length:Int)>3000)) with
 | true=>rfl
 | false=>
  obtain⟨f,t,e1,hs⟩:=a2Short_is code0 o0.2
  obtain⟨c,e3,hc,hci⟩:=a2Costs_is more1 o1.2
  have hf:=hs.fr;have ht:=hs.tn
  have hh1:=hf.h1;have hs0:=hf.s0;have hs1:=hf.s1;have htl:=ht.len
  have hi:FIn f:=⟨by omega,fun y hy=>by have:=hf.hp y hy;omega⟩
  have hn:∀n∈t,NIn n:=fun n hn=>by have:=ht.nt n hn;exact⟨by omega,by omega⟩
  have hall:frameB f=true∧tuneB t=true∧costsB c=true:=⟨frameB_of hf,tuneB_of ht,costsB_of hc⟩
  obtain⟨a1,a2,_⟩:=arrange_is (c:=c) 20000 hi (show f.fHammers.length≤1048576 by omega) (show t.length≤1048576 by omega) hn hci
  have a3:FbI f t c 20000=some (arrangeV f t c 20000):=by simp only [FbI,a2,Option.bind_some]
  obtain⟨g,g1,g2,_,g4⟩:=greedy_all f t c hi hn hci (by omega) (by omega)
  obtain rfl:=g4 hall
  have gf:=greedy_fit c hf ht
  generalize hL:(gSt f t c t.length).1=list at*
  have hl:=gf.len
  obtain⟨d,hv⟩:=gf.fit
  have hv:fitV f t list= .inl d:=hv
  have hask:=gf.asked hf ht
  have hfit:=fitted_is hi (show f.fHammers.length≤9223372036854775807 by omega) (show t.length≤9223372036854775807 by omega) hn (show list.length≤9223372036854775807 by omega)
  rw [if_pos hask,hv] at hfit
  have hdr:=l07Drum_is hi (show f.fHammers.length≤9223372036854775807 by omega) (show t.length≤9223372036854775807 by omega) hn (show list.length≤9223372036854775807 by omega)
  unfold drumV at hdr
  rw [if_pos hask,hv] at hdr
  obtain⟨dg,hcnt⟩:=fitV_dg hf ht hl hv
  have hdB:drumB f d=true:=drumB_of dg.in_
  have hdc:=drumCode1 f hi (show f.fHammers.length≤9223372036854775807 by omega) d dg.din
  have hda:=l02Asked_is f hi (show f.fHammers.length≤9223372036854775807 by omega) d dg.din
  rw [if_pos ⟨frameB_of hf,hdB⟩] at hdc hda
  have hnl:(nall f d).length≤39:=by
   have h3:=hs.hm;have h4:=hs.st
   have:=app_len f.fSteps.toNat 3 (nr f d) (fun k _=>by have:=nr_len f d k;omega)
   unfold nall
   omega
  obtain⟨r,m1,m2,m3,m4,m5⟩:=made_tune hf (d:=d) (by omega)
  have hrn:∀n∈r,NIn n:=fun n h=>by have:=m3.nt n h;exact⟨by omega,by omega⟩
  have hdf:Fbh f t list=some (d,0):=by simp [Fbh,hfit]
  have hsd:FbG f t list=some (d,0):=by simp [FbG,hdr]
  have hpl:Fbi f d=some (true,0):=by simp [Fbi,FbA,hdc,allClashes_no hf dg]
  have hhd:Fbm f t list=some (r,0):=by simp [Fbm,hdf,played_is hf dg.din,m1]
  have hto:FbN f d=some (r,0):=by
   simp only [FbN,hda,l02Tune_is hf dg.din,m2,Option.bind_some]
   rw [if_neg (by simp),if_neg (by rw [decide_eq_true_eq];omega)]
  have hti:FbM f d=some (r,0):=by
   simp [FbM,hdc,played_is hf dg.din,m1,FbP,validTune_is (show r.length≤9223372036854775807 by omega) hrn,tuneB_of m3]
  obtain⟨bells,hb1,hb2⟩:=canPlay_is hf m3 m5
  have hv2:arrangeV f t c 20000=if(arrV f t c 20000).over=true then([],0,7) else((arrV f t c 20000).best,(arrV f t c 20000).least,0):=by
   unfold arrangeV;rw [if_neg (by simp [hall]),if_neg (by omega)]
  have hal:(arrangeV f t c 20000).1.length≤1000000:=by
   rw [hv2]
   cases ho:(arrV f t c 20000).over with
   | true=>simp
   | false=>have:=(arrV_best hf hc ht 20000 ho).2.1;simp;omega
  have h20:=top_orders code0 more1 o0.2 o1.2
  have h19:laws_FnTop.k_19 code0 more1 (f,t) (arrangeV f t c 20000) (arrangeV f t c 20000) false=some true:=by
   simp only [laws_FnTop.k_19,hv2]
   cases ho:(arrV f t c 20000).over with
   | true=>simp [h20]
   | false=>
    obtain⟨v1,v2,v3,v4,v5⟩:=arrV_best hf hc ht 20000 ho
    have vf:FitL f t (arrV f t c 20000).best:=⟨v2,v3⟩
    simp [vf.check hf ht hi hn,h20]
  have h15:∀q,q=false→laws_FnTop.k_15 code0 more1 (f,t) c q=some true:=by
   rintro _ rfl
   simp only [laws_FnTop.k_15,a1,a3,Option.bind_some,bne_self_eq_false,Bool.false_eq_true,if_false,sameChoices_refl _ hal,Bool.not_true,Bool.or_self,h19]
  simp only [Bool.false_eq_true,if_false,e1,e3,g1,g2,hdf,hsd,hhd,hti,hto,hpl,hb1,hb2,Option.bind_some,bne_self_eq_false,Bool.or_self,sameChoices_refl list (show list.length≤1000000 by omega),Bool.not_true,beq_self_eq_true,sameTune_refl r (show r.length≤1000000 by omega),h15]
end Go.Proofs.YtolfkfjjifdmeaaGreat
