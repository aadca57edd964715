/- Greedy choices: the program's are the reference's, and what they are. -/
import Derived.Test.YtolfkfjjifdmeaaGreatM0
import Derived.Test.YtolfkfjjifdmeaaGreatM1
import Derived.Test.YtolfkfjjifdmeaaGreatPFrame
import Derived.Test.YtolfkfjjifdmeaaGreatPFit
import Derived.Test.YtolfkfjjifdmeaaGreatPCosts
import Derived.Test.YtolfkfjjifdmeaaGreatPure
namespace Go.Proofs.YtolfkfjjifdmeaaGreat
open Eng
set_option linter.unusedVariables false
set_option linter.unusedSimpArgs false
def okP(f:GFrame)(n:GNote)(d:Arr 96 Int)(x:GChoice):Bool:=(putV f n x d).isSome
def pick(c:GCosts)(m x:GChoice):GChoice:=if costV c x<costV c m then x else m
def bestL(c:GCosts):List GChoice→GChoice
 | []=>⟨true,0,0,0⟩
 | y::zs=>zs.foldl (pick c) y
theorem best_mem(c:GCosts)(xs:List GChoice)(h:xs≠ []):bestL c xs∈xs:=by
 have key:∀(zs:List GChoice) (y:GChoice),zs.foldl (pick c) y∈y::zs:=by
  intro zs
  induction zs with
  | nil=>intro y;simp
  | cons z zs ih=>
   intro y
   rw [List.foldl_cons]
   have:=ih (pick c y z)
   rcases List.mem_cons.1 this with h | h
   ·rw [h];unfold pick;split<;>simp
   ·exact List.mem_cons_of_mem _ (List.mem_cons_of_mem _ h)
 cases xs with
 | nil=>exact absurd rfl h
 | cons y zs=>exact key zs y
theorem best_snoc(c:GCosts)(xs:List GChoice)(h:xs≠ [])(x:GChoice):bestL c (xs++ [x])=pick c (bestL c xs) x:=by
 cases xs with
 | nil=>exact absurd rfl h
 | cons y zs=>simp [bestL]
theorem small_all{f:GFrame}(hf:FOk f){n:GNote}(ha:0≤n.fAt∧n.fAt≤199)(hp:0≤n.fPitch∧n.fPitch≤47){x:GChoice}(hx:x∈allFor f n):small3 x:=by
 rcases(mem_allFor hf ha hp x).1 hx with rfl | ⟨_,h,_⟩
 ·exact .inl rfl
 ·exact .inr h
theorem away_mem(f:GFrame)(n:GNote):(⟨true,0,0,0⟩:GChoice)∈allFor f n:=by unfold allFor;simp
theorem filt_ne(f:GFrame)(n:GNote)(d:Arr 96 Int):(allFor f n).filter (okP f n d)≠ []:=by
 intro h
 have:(⟨true,0,0,0⟩:GChoice)∈(allFor f n).filter (okP f n d):=List.mem_filter.2 ⟨away_mem f n,rfl⟩
 rw [h] at this;cases this
theorem take_set_snoc{S:Type}{xs:List S}{i:Nat}(h:i<xs.length)(v:S):(xs.set i v).take (i+1)=xs.take i++ [v]:=by
 rw [List.take_succ_eq_append_getElem (by simpa using h)]
 rw [List.take_set,List.set_eq_of_length_le (by rw [List.length_take];omega)]
 simp
theorem del_is{f:GFrame}{d:Arr 96 Int}{n:GNote}(keep:GChoice→Bool)(s:List GChoice)(hl:s.length≤1000000)(hk:∀x∈s,Fa7 x f d n=some (!(keep x))):
  Fn s f d n=some (s.filter keep):=by
 obtain⟨t,ht,hq⟩:=loop_find (f:=Fr.l_3 s f d n) s (fun x=> !(keep x)) (by omega) (fun k hk'=>by
  simp only [Fr.l_3,ix_lt hk',Option.bind_some,hk _ (List.getElem_mem hk')]
  rw [if_pos (by simpa using hk')]
  cases keep s[k]<;>simp) (by simp [Fr.l_3])
 simp only [Fn,Fr,ht,Option.bind_some]
 rcases hq with⟨hany,k,rfl,hk1,hk2,hk3⟩ | ⟨hany,rfl⟩
 ·simp only [Option.bind_some]
  rw [if_neg (by simp<;>omega),w64_in (by omega) (by omega)]
  obtain⟨r,hr,hr2⟩:=loop_inv (f:=Fn.l_8 s f d n) (fun st=>∃(i j:Nat),i<j∧j≤s.length∧st.2.1=(i:Int)∧st.2.2=(j:Int)∧st.1.length=s.length∧st.1.take i=(s.take j).filter keep∧∀m,j≤m→st.1[m]?=s[m]?) (fun st=>s.length-st.2.2.toNat)
   (fun r=>∃i:Nat,r.2=(i:Int)∧i≤r.1.length∧r.1.take i=s.filter keep) (by
   rintro⟨xs,_,_⟩ ⟨i,j,hij,hj,rfl,rfl,hlen,htk,hdr⟩
   simp only at hlen htk hdr
   by_cases hjl:j<s.length
   ·left
    have hjx:j<xs.length:=by omega
    have e:xs[j]=s[j]:=by
     have:=hdr j (Nat.le_refl _)
     rw [List.getElem?_eq_getElem hjx,List.getElem?_eq_getElem hjl] at this
     exact Option.some.inj this
    simp only [Fn.l_8,ix_lt hjx,e,hk _ (List.getElem_mem hjl),Option.bind_some,Bool.not_not]
    rw [if_pos (by simpa using hjl),w64_in (n:=(j:Int)+1) (by omega) (by omega)]
    cases hkp:keep s[j] with
    | true=>
     simp only [if_true,ix_lt (show i<xs.length by omega),Option.bind_some]
     rw [w64_in (n:=(i:Int)+1) (by omega) (by omega)]
     refine⟨_,rfl,⟨i+1,j+1,by omega,by omega,by simp,by simp,by simpa using hlen,?_,fun m hm=> ?_⟩,by simp;omega⟩
     ·simp only [Int.toNat_natCast]
      rw [take_set_snoc (by omega),htk,List.take_succ_eq_append_getElem hjl,List.filter_append]
      simp [hkp]
     ·simp only [Int.toNat_natCast]
      rw [List.getElem?_set_ne (by omega)]
      exact hdr m (by omega)
    | false=>
     simp only [Bool.false_eq_true,if_false]
     refine⟨_,rfl,⟨i,j+1,by omega,by omega,by simp,by simp,hlen,?_,fun m hm=>hdr m (by omega)⟩,by simp;omega⟩
     rw [htk,List.take_succ_eq_append_getElem hjl,List.filter_append]
     simp [hkp]
   ·right
    simp only [Fn.l_8]
    rw [if_neg (by simpa using hjl)]
    refine⟨_,rfl,i,rfl,by simp only;omega,?_⟩
    rw [htk,List.take_of_length_le (by omega)]) (s,(k:Int),(k:Int)+1) ⟨k,k+1,by omega,by omega,rfl,by simp,rfl,by
     rw [List.take_succ_eq_append_getElem hk1,List.filter_append]
     have h1:(s.take k).filter keep=s.take k:=List.filter_eq_self.2 fun x hx=>by
      obtain⟨m,hm,rfl⟩:=List.mem_iff_getElem.1 hx
      rw [List.length_take] at hm
      have:=hk3 m (by omega) (by omega)
      rw [List.getElem_take]
      simpa using this
     have h2:keep s[k]=false:=by simpa using hk2
     rw [h1];simp [h2],fun m _=>rfl⟩
  obtain⟨i,hi1,hi2,hi3⟩:=hr2
  rw [hr]
  simp only [Option.bind_some,Fn.k_4,hi1]
  rw [if_pos (by omega),Int.toNat_natCast,hi3]
 ·simp only [Fr.k_1,Option.bind_some]
  rw [if_pos (by simp)]
  congr 1
  symm
  refine List.filter_eq_self.2 fun x hx=> ?_
  have:=List.any_eq_false.1 hany x hx
  simpa using this
theorem cmp64_is(x y:Int):FaH x y=some (if x<y then-1 else if x>y then 1 else 0):=by
 simp only [FaH,FaX,Option.bind_some,bne_self_eq_false,Bool.false_eq_true,if_false,decide_eq_true_eq]
 split
 ·rfl
 ·split<;>rfl
theorem greedy2_is{c:GCosts}(hc:COk c){x y:GChoice}(hx:small3 x)(hy:small3 y):∃r,Fby x y c=some r∧(r<0↔costV c x<costV c y):=by
 simp only [Fby,of_is hc hx,of_is hc hy,Option.bind_some,cmp64_is]
 refine⟨_,rfl,?_⟩
 split
 ·simp_all
 ·split<;>simp_all
theorem min_is{c:GCosts}(hc:COk c)(ys:List GChoice)(hne:ys≠ [])(hl:ys.length≤1000000)(hs:∀x∈ys,small3 x):Fs ys c=some (bestL c ys):=by
 have hpos:0<ys.length:=List.length_pos_iff.2 hne
 simp only [Fs]
 rw [if_neg (by simp;omega),show (0:Int)=((0:Nat):Int) from rfl,ix_lt hpos]
 simp only [Option.bind_some]
 let M:Nat→GChoice:=fun k=>bestL c (ys.take (k+1))
 have hM0:M 0=ys[0]:=by
  simp only [M]
  rw [List.take_succ_eq_append_getElem hpos];simp [bestL]
 have:=loop_seq (f:=Fs.l_12 ys c) (ys.length-1) (fun k=>((M k).fAway,(M k).fLate,(M k).fOctave,(M k).fTrack,((k+1:Nat):Int))) ((bestL c ys).fAway,(bestL c ys).fLate,(bestL c ys).fOctave,(bestL c ys).fTrack) (fun k hk=>by
  have hk1:k+1<ys.length:=by omega
  have hne2:ys.take (k+1)≠ []:=by
   intro h
   have:=congrArg List.length h
   rw [List.length_take,List.length_nil] at this
   omega
  have hm:M k∈ys:=List.mem_of_mem_take (best_mem c _ hne2)
  have eM:M (k+1)=pick c (M k) ys[k+1]:=by
   simp only [M]
   rw [List.take_succ_eq_append_getElem hk1,best_snoc c _ hne2]
  obtain⟨r,hr1,hr2⟩:=greedy2_is hc (hs _ (List.getElem_mem hk1)) (hs _ hm)
  simp only [Fs.l_12,ix_lt hk1,Option.bind_some]
  rw [if_pos (by rw [decide_eq_true_eq];omega)]
  rw [show (⟨(M k).fAway,(M k).fLate,(M k).fOctave,(M k).fTrack⟩:GChoice)=M k from rfl,hr1]
  simp only [Option.bind_some]
  rw [w64_in (n:=((k+1:Nat):Int)+1) (by omega) (by omega),eM]
  unfold pick
  by_cases hlt:costV c ys[k+1]<costV c (M k)
  ·rw [if_pos (by rw [decide_eq_true_eq];exact hr2.2 hlt),if_pos hlt]
   rfl
  ·rw [if_neg (by rw [decide_eq_true_eq];exact fun h=>hlt (hr2.1 h)),if_neg hlt]
   rfl) (by
  simp only [Fs.l_12]
  rw [if_neg (by rw [decide_eq_true_eq];omega)]
  simp only [M]
  rw [List.take_of_length_le (by omega)])
 have h2:loop (Fs.l_12 ys c) (ys[0].fAway,ys[0].fLate,ys[0].fOctave,ys[0].fTrack,1)=some ((bestL c ys).fAway,(bestL c ys).fLate,(bestL c ys).fOctave,(bestL c ys).fTrack):=by
  rw [←this];simp only [hM0];rfl
 rw [h2]
 rfl
theorem specBest{f:GFrame}(hf:FOk f){c:GCosts}(hc:COk c){t:List GNote}(ht:TOk t){d:Arr 96 Int}(hd:DIn d){k:Nat}(hk:k<t.length):
  ∃(j:Nat) (hj:j<(allFor f t[k]).length),loop (FH.l_20 f t c d (k:Int) (allFor f t[k])) (-1,0)=some (j:Int)∧(allFor f t[k])[j]=bestL c ((allFor f t[k]).filter (okP f t[k] d)):=by
 have hn:=ht.nt _ (List.getElem_mem hk)
 have hal:=allFor_len f t[k] hf.h1
 generalize hxs:allFor f t[k]=xs at hal
 have hsm:∀x∈xs,small3 x:=fun x hx=>small_all hf (n:=t[k]) (by omega) (by omega) (hxs▸hx)
 obtain⟨r,hr,j,rfl,hj,hb⟩:=loop_inv (f:=FH.l_20 f t c d (k:Int) xs) (fun st=>∃m:Nat,m≤xs.length∧st.2=(m:Int)∧(((xs.take m).filter (okP f t[k] d)= []∧st.1=-1)∨((xs.take m).filter (okP f t[k] d)≠ []∧∃(j:Nat) (hj:j<xs.length),st.1=(j:Int)∧xs[j]=bestL c ((xs.take m).filter (okP f t[k] d))))) (fun st=>xs.length-st.2.toNat)
  (fun r=>∃j:Nat,r=(j:Int)∧∃hj:j<xs.length,xs[j]=bestL c (xs.filter (okP f t[k] d))) (by
  rintro⟨b,_⟩ ⟨m,hm,rfl,hst⟩
  simp only at hst
  by_cases hml:m<xs.length
  ·left
   have hmem:xs[m]∈xs:=List.getElem_mem hml
   have ep:FaS f d t[k] xs[m]=some (match putV f t[k] xs[m] d with | some d'=>(true,d') | none=>(false,d)):=l07Put_is hf (by omega) (by omega) (hxs▸hmem) hd
   have etk:(xs.take (m+1)).filter (okP f t[k] d)=(xs.take m).filter (okP f t[k] d)++if okP f t[k] d xs[m]=true then [xs[m]] else []:=by
    rw [List.take_succ_eq_append_getElem hml,List.filter_append]
    congr 1
    cases h:okP f t[k] d xs[m]<;>simp [h]
   simp only [FH.l_20,ix_lt hk,ix_lt hml,Option.bind_some,ep,FH.k_24]
   rw [if_pos (by simpa using hml),w64_in (n:=(m:Int)+1) (by omega) (by omega)]
   cases hpv:putV f t[k] xs[m] d with
   | none=>
    have ho:okP f t[k] d xs[m]=false:=by unfold okP;rw [hpv];rfl
    rw [ho] at etk
    simp only [Bool.false_eq_true,if_false,List.append_nil] at etk
    simp only [Bool.false_eq_true,if_false]
    exact⟨_,rfl,⟨m+1,by omega,by simp,by rw [etk];exact hst⟩,by simp;omega⟩
   | some d'=>
    have ho:okP f t[k] d xs[m]=true:=by unfold okP;rw [hpv];rfl
    rw [ho] at etk
    simp only [if_true] at etk⊢
    rcases hst with⟨h1,h2⟩ | ⟨h1,j,hj,h2,h3⟩
    ·rw [h2,if_pos (by decide)]
     refine⟨_,rfl,⟨m+1,by omega,by simp, .inr ⟨by rw [etk];simp,m,hml,rfl,?_⟩⟩,by simp;omega⟩
     rw [etk,h1];rfl
    ·rw [h2,if_neg (by simp)]
     simp only [ix_lt hj,Option.bind_some,cost_is hc (hsm _ hmem),cost_is hc (hsm _ (List.getElem_mem hj))]
     by_cases hlt:costV c xs[m]<costV c xs[j]
     ·rw [if_pos (by simpa using hlt)]
      refine⟨_,rfl,⟨m+1,by omega,by simp, .inr ⟨by rw [etk];simp,m,hml,rfl,?_⟩⟩,by simp;omega⟩
      rw [etk,best_snoc c _ h1,←h3,pick,if_pos hlt]
     ·rw [if_neg (by simpa using hlt)]
      refine⟨_,rfl,⟨m+1,by omega,by simp, .inr ⟨by rw [etk];simp,j,hj,rfl,?_⟩⟩,by simp;omega⟩
      rw [etk,best_snoc c _ h1,←h3,pick,if_neg hlt]
  ·right
   simp only [FH.l_20]
   rw [if_neg (by simpa using hml)]
   refine⟨_,rfl,?_⟩
   rw [List.take_of_length_le (by omega)] at hst
   rcases hst with⟨h1,_⟩ | ⟨_,j,hj,h2,h3⟩
   ·exact absurd h1 (hxs▸filt_ne f t[k] d)
   ·exact⟨j,h2,hj,h3⟩) (-1,0) ⟨0,by omega,rfl, .inl ⟨by simp,rfl⟩⟩
 exact⟨j,hj,hr,hb⟩
def gPick(f:GFrame)(c:GCosts)(n:GNote)(d:Arr 96 Int):GChoice:=bestL c ((allFor f n).filter (okP f n d))
def gSt(f:GFrame)(t:List GNote)(c:GCosts):Nat→List GChoice×Arr 96 Int
 | 0=>([],Arr.rep 96 0)
 | k+1=>match t[k]? with
  | none=>gSt f t c k
  | some n=>((gSt f t c k).1++ [gPick f c n (gSt f t c k).2],(putV f n (gPick f c n (gSt f t c k).2) (gSt f t c k).2).getD (gSt f t c k).2)
theorem gPick_ok(f:GFrame)(c:GCosts)(n:GNote)(d:Arr 96 Int):gPick f c n d∈allFor f n∧∃d',putV f n (gPick f c n d) d=some d':=by
 have:=best_mem c _ (filt_ne f n d)
 obtain⟨h1,h2⟩:=List.mem_filter.1 this
 exact⟨h1,Option.isSome_iff_exists.1 h2⟩
theorem gSt_inv{f:GFrame}(hf:FOk f){t:List GNote}(ht:TOk t)(c:GCosts):∀k,k≤t.length→(gSt f t c k).1.length=k∧DIn (gSt f t c k).2:=by
 intro k
 induction k with
 | zero=>intro _;exact⟨rfl,DIn_rep⟩
 | succ k ih=>
  intro hk
  obtain⟨h1,h2⟩:=ih (by omega)
  have hn:=ht.nt _ (List.getElem_mem (show k<t.length by omega))
  obtain⟨p1,d',p2⟩:=gPick_ok f c t[k] (gSt f t c k).2
  simp only [gSt,List.getElem?_eq_getElem (show k<t.length by omega)]
  refine⟨by simp [h1],?_⟩
  rw [p2]
  exact putV_in hf (by omega) (by omega) p1 h2 p2
theorem greedy_all(f:GFrame)(t:List GNote)(c:GCosts)(hi:FIn f)(hn:∀n∈t,NIn n)(hc:CIn c)(hf:f.fHammers.length≤1048576)(ht:t.length≤1048576):
  ∃r,Fav f t c=some r∧FH f t c=some r∧r.1.length≤4096∧(frameB f=true∧tuneB t=true∧costsB c=true→r=((gSt f t c t.length).1,0)):=by
 have eI:FaG f t c=some (if frameB f=true∧tuneB t=true∧costsB c=true then 0 else 1):=by
  simp only [FaG,tuneFrameCode_is (show f.fHammers.length≤9223372036854775807 by omega) (show t.length≤9223372036854775807 by omega) hn (list:= []) (by simp),Option.bind_some,validCosts_is hc,unless_is,firstOf2']
  cases frameB f<;>cases tuneB t<;>cases costsB c<;>simp
 have eS:Faj f t c=some (if frameB f=true∧tuneB t=true∧costsB c=true then 0 else 1):=by
  simp only [Faj,l02Frame_is f (show f.fHammers.length≤9223372036854775807 by omega),Option.bind_some,l01Ok_is (show t.length≤9223372036854775807 by omega) hn,l07Costs_is hc,Faj.k_2]
  cases frameB f<;>cases tuneB t<;>cases costsB c<;>simp
 simp only [Fav,FH,eI,eS,Option.bind_some]
 by_cases hall:frameB f=true∧tuneB t=true∧costsB c=true
 ·have hfk:=frameB_ok hall.1 hi
  have htk:=tuneB_ok hall.2.1
  have hck:=costsB_ok hall.2.2
  have htl:=htk.len
  simp only [if_pos hall,bne_self_eq_false,Bool.false_eq_true,if_false]
  have sI:=loop_seq (f:=Fav.l_8 f t c) t.length (fun k=>((gSt f t c k).1,(gSt f t c k).2,(k:Int))) ((gSt f t c t.length).1,(gSt f t c t.length).2) (fun k hk=>by
   obtain⟨hlen,hd⟩:=gSt_inv hfk htk c k (by omega)
   have hnk:=htk.nt _ (List.getElem_mem hk)
   obtain⟨p1,d',p2⟩:=gPick_ok f c t[k] (gSt f t c k).2
   have hal:=allFor_len f t[k] hfk.h1
   have hfl:=List.length_filter_le (okP f t[k] (gSt f t c k).2) (allFor f t[k])
   simp only [Fav.l_8,ix_lt hk,Option.bind_some,choices_is hfk (show 0≤t[k].fPitch by omega) (show t[k].fPitch≤47 by omega)]
   rw [if_pos (by simpa using hk),del_is (okP f t[k] (gSt f t c k).2) (allFor f t[k]) (by omega) (fun x hx=>by
    simp only [Fa7,canPut_is hfk (show 0≤t[k].fAt∧t[k].fAt≤199 by omega) (show 0≤t[k].fPitch∧t[k].fPitch≤47 by omega) hx hd,Option.bind_some];rfl)]
   simp only [Option.bind_some,min_is hck _ (filt_ne f t[k] (gSt f t c k).2) (by omega) (fun x hx=>small_all hfk (n:=t[k]) (by omega) (by omega) (List.mem_filter.1 hx).1)]
   rw [show bestL c ((allFor f t[k]).filter (okP f t[k] (gSt f t c k).2))=gPick f c t[k] (gSt f t c k).2 from rfl,puts_is hfk (by omega) (by omega) p1 hd p2]
   simp only [Option.bind_some]
   rw [if_pos (by rw [hlen];simp;omega),w64_in (n:=(k:Int)+1) (by omega) (by omega)]
   simp only [gSt,List.getElem?_eq_getElem hk,p2]
   rfl) (by simp [Fav.l_8])
  have sS:=loop_seq (f:=FH.l_8 f t c) t.length (fun k=>((gSt f t c k).1,(gSt f t c k).2,(k:Int))) ((gSt f t c t.length).1,(gSt f t c t.length).2) (fun k hk=>by
   obtain⟨hlen,hd⟩:=gSt_inv hfk htk c k (by omega)
   have hnk:=htk.nt _ (List.getElem_mem hk)
   obtain⟨p1,d',p2⟩:=gPick_ok f c t[k] (gSt f t c k).2
   obtain⟨j,hj,hb1,hb2⟩:=specBest hfk hck htk hd hk
   simp only [FH.l_8,ix_lt hk,Option.bind_some,l07For_is hfk,hb1,FH.k_13,ix_lt hj]
   rw [hb2,show bestL c ((allFor f t[k]).filter (okP f t[k] (gSt f t c k).2))=gPick f c t[k] (gSt f t c k).2 from rfl,l07Put_is hfk (by omega) (by omega) p1 hd,p2]
   simp only [Option.bind_some]
   rw [if_pos (by simpa using hk),if_pos (by rw [hlen];simp;omega),w64_in (n:=(k:Int)+1) (by omega) (by omega)]
   simp only [gSt,List.getElem?_eq_getElem hk,p2]
   rfl) (by simp [FH.l_8])
  simp only [gSt] at sI sS
  have sI':loop (Fav.l_8 f t c) ([],Arr.rep 96 0,0)=some ((gSt f t c t.length).1,(gSt f t c t.length).2):=sI
  have sS':loop (FH.l_8 f t c) ([],Arr.rep 96 0,0)=some ((gSt f t c t.length).1,(gSt f t c t.length).2):=sS
  rw [sI',sS']
  refine⟨((gSt f t c t.length).1,0),by simp [Fav.k_4],by simp [FH.k_4],?_,fun _=>rfl⟩
  have:=(gSt_inv hfk htk c t.length (Nat.le_refl _)).1
  simp only
  omega
 ·simp only [if_neg hall]
  exact⟨([],1),by simp,by simp,by simp,fun h=>absurd h hall⟩
end Go.Proofs.YtolfkfjjifdmeaaGreat
