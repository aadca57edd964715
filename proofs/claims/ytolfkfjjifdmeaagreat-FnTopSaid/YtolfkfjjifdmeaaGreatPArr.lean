/- Arrangements: the program's answer is the reference's. -/
import Derived.Test.YtolfkfjjifdmeaaGreatM0
import Derived.Test.YtolfkfjjifdmeaaGreatM2
import Derived.Test.YtolfkfjjifdmeaaGreatM3
import Derived.Test.YtolfkfjjifdmeaaGreatPStab
import Derived.Test.YtolfkfjjifdmeaaGreatPFrame
import Derived.Test.YtolfkfjjifdmeaaGreatPDrum
import Derived.Test.YtolfkfjjifdmeaaGreatPCodes
import Derived.Test.YtolfkfjjifdmeaaGreatPTune
import Derived.Test.YtolfkfjjifdmeaaGreatPChoices
import Derived.Test.YtolfkfjjifdmeaaGreatPCosts
import Derived.Test.YtolfkfjjifdmeaaGreatPLeast
import Derived.Test.YtolfkfjjifdmeaaGreatPBound
import Derived.Test.YtolfkfjjifdmeaaGreatPFit
import Derived.Test.YtolfkfjjifdmeaaGreatPSearch
import Derived.Test.YtolfkfjjifdmeaaGreatPChSort
import Derived.Test.YtolfkfjjifdmeaaGreatPure
namespace Go.Proofs.YtolfkfjjifdmeaaGreat
open Eng
set_option linter.unusedVariables false
set_option linter.unusedSimpArgs false
theorem lookL_keep{f:GFrame}{n:GNote}{c:GCosts}{b budget:Int}{go:Arr 96 Int→List GChoice→Int→SS→SS}(hgo:∀d l co s,0≤co→0≤s.least→0≤(go d l co s).least){d:Arr 96 Int}{list:List GChoice}{cost:Int}(hc:0≤cost):
  ∀(xs:List GChoice) (s:SS),(∀x∈xs,0≤costV c x)→0≤s.least→0≤(lookL f n c b budget go d list cost xs s).least:=by
 intro xs
 induction xs with
 | nil=>intro s _ h;exact h
 | cons x xs ih=>
  intro s hx h
  have hx0:=hx x (by simp)
  have hxs:∀y∈xs,0≤costV c y:=fun y hy=>hx y (by simp [hy])
  simp only [lookL]
  split
  ·exact ih s hxs h
  ·rename_i d' _
   have hg:=hgo d' (list++ [x]) (cost+costV c x) ⟨s.looks+1,s.over,s.best,s.least⟩ (by omega) h
   split
   ·exact ih s hxs h
   ·split
    ·exact h
    ·split
     ·exact hg
     ·exact ih _ hxs hg
theorem srch_keep{f:GFrame}{t:List GNote}{c:GCosts}{all:List (List GChoice)}{bnd:List Int}{budget:Int}(hp:∀xs∈all,∀x∈xs,0≤costV c x):
  ∀(m:Nat) (d:Arr 96 Int) (l:List GChoice) (co:Int) (s:SS),0≤co→0≤s.least→0≤(srch f t c all bnd budget m d l co s).least:=by
 intro m
 induction m with
 | zero=>intro d l co s h _;exact h
 | succ m ih=>
  intro d l co s h0 h1
  simp only [srch]
  split
  ·rename_i n xs hn hx
   exact lookL_keep ih h0 xs s (hp xs (List.mem_of_getElem? hx)) h1
  ·exact h1
theorem lookL_found{f:GFrame}{n:GNote}{c:GCosts}{b budget:Int}{go:Arr 96 Int→List GChoice→Int→SS→SS}(hk:∀d l co s,0≤co→0≤s.least→0≤(go d l co s).least)
  {d:Arr 96 Int} {list:List GChoice} {cost:Int} (hgo:∀d' x co s,0≤co→(go d' (list++ [x]) co s).over=false→0≤(go d' (list++ [x]) co s).least) (hc:0≤cost):
  ∀(xs:List GChoice) (s:SS),(∀x∈xs,0≤costV c x)→(∃x∈xs,x.fAway=true)→(lookL f n c b budget go d list cost xs s).over=false→0≤(lookL f n c b budget go d list cost xs s).least:=by
 intro xs
 induction xs with
 | nil=>rintro s _ ⟨x,hx,_⟩;cases hx
 | cons x xs ih=>
  intro s hx hw ho
  have hx0:=hx x (by simp)
  have hxs:∀y∈xs,0≤costV c y:=fun y hy=>hx y (by simp [hy])
  simp only [lookL] at ho⊢
  cases hpv:putV f n x d with
  | none=>
   simp only [hpv] at ho⊢
   refine ih s hxs ?_ ho
   obtain⟨y,hy,hy2⟩:=hw
   rcases List.mem_cons.1 hy with rfl | hy
   ·simp [putV,hy2] at hpv
   ·exact⟨y,hy,hy2⟩
  | some d'=>
   simp only [hpv] at ho⊢
   split at ho
   ·rename_i hl
    rw [if_pos hl]
    exact lookL_keep hk hc xs s hxs hl.1
   ·rename_i hl
    rw [if_neg hl]
    split at ho
    ·cases ho
    ·rename_i hb
     rw [if_neg hb]
     split at ho
     ·rename_i h1;rw [h1] at ho;cases ho
     ·rename_i h1
      rw [if_neg h1]
      exact lookL_keep hk hc xs _ hxs (hgo d' x _ _ (by omega) (by simpa using h1))
theorem srch_found{f:GFrame}{t:List GNote}{c:GCosts}{all:List (List GChoice)}{bnd:List Int}{budget:Int}(hal:all.length=t.length)(hp:∀xs∈all,∀x∈xs,0≤costV c x)(hw:∀xs∈all,∃x∈xs,x.fAway=true):
  ∀(m:Nat) (d:Arr 96 Int) (l:List GChoice) (co:Int) (s:SS),l.length+m=t.length→0≤co→(srch f t c all bnd budget m d l co s).over=false→0≤(srch f t c all bnd budget m d l co s).least:=by
 intro m
 induction m with
 | zero=>intro d l co s _ h _;exact h
 | succ m ih=>
  intro d l co s hl h0 ho
  have hkt:l.length<t.length:=by omega
  have hka:l.length<all.length:=by omega
  simp only [srch,List.getElem?_eq_getElem hkt,List.getElem?_eq_getElem hka] at ho⊢
  exact lookL_found (srch_keep hp m) (fun d' x co s h1 h2=>ih d' (l++ [x]) co s (by simp;omega) h1 h2) h0 _ s (hp _ (List.getElem_mem hka)) (hw _ (List.getElem_mem hka)) ho
noncomputable def ordC (f:GFrame) (c:GCosts) (n:GNote):List GChoice:=(FA (allFor f n) c).getD []
theorem ordC_is{f:GFrame}(hf:FOk f){c:GCosts}(hc:COk c){n:GNote}(ha:0≤n.fAt∧n.fAt≤199)(hp:0≤n.fPitch∧n.fPitch≤47):
  FA (allFor f n) c=some (ordC f c n)∧FF f n c=some (ordC f c n)∧(ordC f c n).Perm (allFor f n):=by
 obtain⟨Y,h1,h2,h3,_⟩:=choices_sorted hf hc ha hp
 have e:ordC f c n=Y:=by unfold ordC;rw [h1];rfl
 rw [e]
 exact⟨h1,h2,h3⟩
noncomputable def arrV (f:GFrame) (t:List GNote) (c:GCosts) (budget:Int):SS:=srch f t c (t.map (ordC f c)) (bst (t.map (leastC f c)) t.length) budget t.length (Arr.rep 96 0) [] 0 ⟨0,false,[],-1⟩
noncomputable def arrangeV (f:GFrame) (t:List GNote) (c:GCosts) (budget:Int):List GChoice×Int×Int:=
 if¬(frameB f=true∧tuneB t=true∧costsB c=true) then([],0,1) else if¬(0≤budget∧budget≤20000) then([],0,2)
 else if(arrV f t c budget).over=true then([],0,7) else((arrV f t c budget).best,(arrV f t c budget).least,0)
theorem src_ok{f:GFrame}(hf:FOk f){c:GCosts}(hc:COk c){t:List GNote}(ht:TOk t):SrcOk f t c (t.map (ordC f c)) (bst (t.map (leastC f c)) t.length):=by
 have hl:=ht.len
 refine⟨hf,ht,hc,by simp,?_,by simp [bst],?_⟩
 ·intro k n xs hn hx
  rw [List.getElem?_map,hn] at hx
  obtain rfl:=Option.some.inj hx
  have hnt:=ht.nt n (List.mem_of_getElem? hn)
  have hp:=(ordC_is hf hc (n:=n) (by omega) (by omega)).2.2
  have:=allFor_len f n hf.h1
  exact⟨by rw [hp.length_eq];exact this,fun x hx=>hp.mem_iff.1 hx⟩
 ·intro b hb
  simp only [bst,List.mem_map,List.mem_range] at hb
  obtain⟨i,_,rfl⟩:=hb
  split
  ·refine suf_le (fun x hx=> ?_) (by simpa using hl) i
   obtain⟨n,hn,rfl⟩:=List.mem_map.1 hx
   have:=ht.nt n hn
   exact leastC_le hf hc (by omega) (by omega)
  ·omega
theorem arrange_is{f:GFrame}{t:List GNote}{c:GCosts}(budget:Int)(hi:FIn f)(hl:f.fHammers.length≤1048576)(ht:t.length≤1048576)(hn:∀n∈t,NIn n)(hc:CIn c):
  Fan f t c budget=some (arrangeV f t c budget)∧Fz f t c budget=some (arrangeV f t c budget)∧(arrangeV f t c budget).1.length≤120:=by
 simp only [Fan,Fz,arrangeCode_is hi hl ht hn hc,given_is hi hl ht hn hc,Option.bind_some,FG,unless_is,firstOf2,FI,arrangeV]
 by_cases h:frameB f=true∧tuneB t=true∧costsB c=true
 ·have hf:=frameB_ok h.1 hi
  have htk:=tuneB_ok h.2.1
  have hck:=costsB_ok h.2.2
  have htl:=htk.len
  simp only [h,and_self,not_true_eq_false,if_false,if_true]
  by_cases hr:0≤budget∧budget≤20000
  ·have e:(decide (budget≥0)&&decide (budget≤20000))=true:=by simp only [Bool.and_eq_true,decide_eq_true_eq];omega
   have hall:∀k (hk:k<t.length),(0≤t[k].fAt∧t[k].fAt≤199)∧(0≤t[k].fPitch∧t[k].fPitch≤47):=fun k hk=>by
    have:=htk.nt _ (List.getElem_mem hk);omega
   have lI:=loop_seq (f:=Fan.l_10 f t c) t.length (fun k=>((t.take k).map (ordC f c),(k:Int))) (t.map (ordC f c)) (fun k hk=>by
    obtain⟨a1,a2⟩:=hall k hk
    simp only [Fan.l_10,ix_lt hk,Option.bind_some,choices_is hf a2.1 a2.2,(ordC_is hf hck a1 a2).1]
    rw [if_pos (by simpa using hk),if_pos (by simp;omega),w64_in (n:=(k:Int)+1) (by omega) (by omega),List.take_succ_eq_append_getElem hk,List.map_append]
    rfl) (by simp [Fan.l_10])
   have lS:=loop_seq (f:=Fz.l_14 f t c) t.length (fun k=>((t.take k).map (ordC f c),(k:Int))) (t.map (ordC f c)) (fun k hk=>by
    obtain⟨a1,a2⟩:=hall k hk
    simp only [Fz.l_14,ix_lt hk,Option.bind_some,(ordC_is hf hck a1 a2).2.1]
    rw [if_pos (by simpa using hk),if_pos (by simp;omega),w64_in (n:=(k:Int)+1) (by omega) (by omega),List.take_succ_eq_append_getElem hk,List.map_append]
    rfl) (by simp [Fz.l_14])
   have lB:=loop_seq (f:=Fz.l_10 f t c) (t.length+1) (fun k=>((List.range k).map (fun i=>suf (t.map (leastC f c)) i),(k:Int))) (bst (t.map (leastC f c)) t.length) (fun k hk=>by
    simp only [Fz.l_10,specBound hf hck htk (show k≤t.length by omega),Option.bind_some]
    rw [if_pos (by rw [decide_eq_true_eq];omega),if_pos (by simp;omega),w64_in (n:=(k:Int)+1) (by omega) (by omega),List.range_succ,List.map_append]
    rfl) (by
    simp only [Fz.l_10]
    rw [if_neg (by rw [decide_eq_true_eq];omega)]
    simp [bst])
   simp only [List.take_zero,List.map_nil,List.range_zero] at lI lS lB
   have lI':loop (Fan.l_10 f t c) ([],0)=some (t.map (ordC f c)):=lI
   have lS':loop (Fz.l_14 f t c) ([],0)=some (t.map (ordC f c)):=lS
   have lB':loop (Fz.l_10 f t c) ([],0)=some (bst (t.map (leastC f c)) t.length):=lB
   have hsrc:=src_ok hf hck htk
   obtain⟨s1,s2,s3⟩:=search_is hsrc hr t.length 200 130 (Arr.rep 96 0) [] 0 ⟨0,false,[],-1⟩ (by simp) (by omega) (by omega) DIn_rep (by simp) ⟨by simp,hr.1,by simp,by simp⟩ rfl
   have hfnd:(arrV f t c budget).over=false→0≤(arrV f t c budget).least:=by
    refine srch_found (by simp) ?_ ?_ t.length (Arr.rep 96 0) [] 0 _ (by simp) (by omega)
    ·intro xs hxs x hx
     obtain⟨n,hn',rfl⟩:=List.mem_map.1 hxs
     have hnt:=htk.nt n hn'
     have hxa:=(ordC_is hf hck (n:=n) (by omega) (by omega)).2.2.mem_iff.1 hx
     exact(costV_le hck (all_small hf (n:=n) (by omega) (by omega) hxa)).1
    ·intro xs hxs
     obtain⟨n,hn',rfl⟩:=List.mem_map.1 hxs
     have hnt:=htk.nt n hn'
     exact⟨⟨true,0,0,0⟩,(ordC_is hf hck (n:=n) (by omega) (by omega)).2.2.mem_iff.2 (by unfold allFor;simp),rfl⟩
   have g1:Fg ⟨f,t,c,t.map (ordC f c),bst (t.map (leastC f c)) t.length,budget,0,false,[],-1⟩ (Arr.rep 96 0) [] 0=some (mkA f t c (t.map (ordC f c)) (bst (t.map (leastC f c)) t.length) budget (arrV f t c budget)):=s1
   have g2:Fv ⟨f,t,c,t.map (ordC f c),bst (t.map (leastC f c)) t.length,budget,0,false,[],0⟩ (Arr.rep 96 0) [] 0=some (!(arrV f t c budget).over,mkS f t c (t.map (ordC f c)) (bst (t.map (leastC f c)) t.length) budget (arrV f t c budget)):=s2
   have g3:(arrV f t c budget).best.length≤120:=s3.2.2.2
   simp only [e,if_pos hr,hr,and_self,not_true_eq_false,if_false,bounds_is hf hck htk,lI',lS',lB',Option.bind_some,Fan.k_6,Fz.k_3,Fz.k_5,g1,g2,mkA,mkS]
   cases ho:(arrV f t c budget).over with
   | true=>simp
   | false=>simp [hfnd ho,g3]
  ·have e:(decide (budget≥0)&&decide (budget≤20000))=false:=by
    rw [Bool.eq_false_iff]
    simp only [ne_eq,Bool.and_eq_true,decide_eq_true_eq]
    omega
   simp [e,hr]
 ·simp [h]
end Go.Proofs.YtolfkfjjifdmeaaGreat
