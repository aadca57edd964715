/- Orders of drums: no order costs less than the best one, no circle less than the best one. -/
import Derived.Test.YtolfkfjjifdmeaaGreatM4
import Derived.Test.YtolfkfjjifdmeaaGreatPFrame
import Derived.Test.YtolfkfjjifdmeaaGreatPDrum
import Derived.Test.YtolfkfjjifdmeaaGreatPCodes
import Derived.Test.YtolfkfjjifdmeaaGreatPPut
import Derived.Test.YtolfkfjjifdmeaaGreatPBits
import Derived.Test.YtolfkfjjifdmeaaGreatPCost
import Derived.Test.YtolfkfjjifdmeaaGreatPDTab
import Derived.Test.YtolfkfjjifdmeaaGreatPBPath
import Derived.Test.YtolfkfjjifdmeaaGreatPOrdImpl
import Derived.Test.YtolfkfjjifdmeaaGreatPOrdSpec
import Derived.Test.YtolfkfjjifdmeaaGreatPDTabC
import Derived.Test.YtolfkfjjifdmeaaGreatPBestOrd
import Derived.Test.YtolfkfjjifdmeaaGreatPure
namespace Go.Proofs.YtolfkfjjifdmeaaGreat
open Eng
set_option linter.unusedVariables false
set_option linter.unusedSimpArgs false
def costP(c:Nat→Nat→Nat)(tl:Nat→Nat):Nat→List Nat→Nat
 | a,[]=>tl a
 | a,k::r=>c a k+costP c tl k r
section
variable {c:Nat→Nat→Nat} {tl:Nat→Nat} {n:Nat}
theorem costP_zero(c:Nat→Nat→Nat):∀(r:List Nat) (a:Nat),costP c (fun _=>0) a r=costO c (a::r):=by
 intro r
 induction r with
 | nil=>intro a;rfl
 | cons k r ih=>intro a;simp only [costP,costO,ih]
theorem bestP_val:∀(m a left:Nat),card n left=m→(bestP c tl n m a left).1=costP c tl a (bestP c tl n m a left).2:=by
 intro m
 induction m with
 | zero=>intro a left _;rfl
 | succ m ih=>
  intro a left h
  obtain⟨k,ks1,ks2,e,e2,_,_⟩:=bestP_step (c:=c) (tl:=tl) (a:=a) h
  have hk:k∈rem n left:=by rw [e];simp
  obtain⟨hkn,hkb⟩:=mem_rem.1 hk
  have:=ih k (off left k) (by have:=card_off hkn hkb;omega)
  rw [e2]
  show c a k+_=costP c tl a ([k]++_)
  simp only [List.cons_append,List.nil_append,costP]
  omega
theorem bestP_perm:∀(m a left:Nat),card n left=m→(bestP c tl n m a left).2.Nodup∧∀x,x∈(bestP c tl n m a left).2↔x<n∧left.testBit x=true:=by
 intro m
 induction m with
 | zero=>
  intro a left h
  refine⟨List.nodup_nil,fun x=> ?_⟩
  have hr:rem n left= []:=List.eq_nil_of_length_eq_zero (by rw [rem_len,h])
  rw [←mem_rem,hr]
  exact Iff.rfl
 | succ m ih=>
  intro a left h
  obtain⟨k,ks1,ks2,e,e2,_,_⟩:=bestP_step (c:=c) (tl:=tl) (a:=a) h
  have hk:k∈rem n left:=by rw [e];simp
  obtain⟨hkn,hkb⟩:=mem_rem.1 hk
  obtain⟨h1,h2⟩:=ih k (off left k) (by have:=card_off hkn hkb;omega)
  have e3:(bestP c tl n (m+1) a left).2=k::(bestP c tl n m k (off left k)).2:=by rw [e2];simp [shift]
  rw [e3]
  refine⟨List.nodup_cons.2 ⟨fun hm=> ?_,h1⟩,fun x=> ?_⟩
  ·have:=((h2 k).1 hm).2
   rw [off_bit,hkb] at this
   simp at this
  ·rw [List.mem_cons,h2,off_bit]
   by_cases ex:k=x
   ·subst ex;simp [hkn,hkb]
   ·have ex':¬x=k:=fun h=>ex h.symm
    simp [ex,ex']
theorem path_ge:∀(m a left:Nat) (r:List Nat),card n left=m→r.length=m→r.Nodup→(∀x∈r,x<n∧left.testBit x=true)→(bestP c tl n m a left).1≤costP c tl a r:=by
 intro m
 induction m with
 | zero=>
  intro a left r _ hr _ _
  obtain rfl:=List.eq_nil_of_length_eq_zero hr
  exact Nat.le_refl _
 | succ m ih=>
  intro a left r h hr hd hx
  cases r with
  | nil=>simp at hr
  | cons k r=>
   obtain⟨hkn,hkb⟩:=hx k (by simp)
   obtain⟨ks,ks1,ks2,e,e2,b1,b2⟩:=bestP_step (c:=c) (tl:=tl) (a:=a) h
   have hd2:=List.nodup_cons.1 hd
   have h1:=ih k (off left k) r (by have:=card_off hkn hkb;omega) (by simpa using hr) hd2.2 (fun x hxr=>by
    obtain⟨g1,g2⟩:=hx x (by simp [hxr])
    refine⟨g1,?_⟩
    have:¬k=x:=fun e=>by subst e;exact hd2.1 hxr
    rw [off_bit,g2];simp [this])
   have h2:(bestP c tl n (m+1) a left).1≤c a k+(bestP c tl n m k (off left k)).1:=by
    have hm:k∈rem n left:=mem_rem.2 ⟨hkn,hkb⟩
    rw [e] at hm
    rcases List.mem_append.1 hm with hm | hm
    ·exact Nat.le_of_lt (b1 k hm)
    ·rcases List.mem_cons.1 hm with rfl | hm
     ·rw [e2];exact Nat.le_refl _
     ·exact b2 k hm
   simp only [costP]
   omega
def IsO(n:Nat)(o:List Nat):Prop:=o.Nodup∧∀x,x∈o↔x<n
theorem IsO.perm{o:List Nat}(h:IsO n o):o.Perm (List.range n):=(List.perm_ext_iff_of_nodup h.1 List.nodup_range).2 (fun x=>by rw [h.2,List.mem_range])
theorem IsO.len{o:List Nat}(h:IsO n o):o.length=n:=by rw [h.perm.length_eq,List.length_range]
theorem IsO.of_perm{o:List Nat}(h:o.Perm (List.range n)):IsO n o:=⟨h.nodup_iff.2 List.nodup_range,fun x=>by rw [h.mem_iff,List.mem_range]⟩
theorem off_card{a:Nat}(ha:a<n):card n (off (fullN n) a)=n-1:=by have:=card_off ha (full_bit ha);rw [full_card] at this;omega
theorem from_perm(c:Nat→Nat→Nat)(tl:Nat→Nat){a:Nat}(ha:a<n):∃r,(fromV c tl n a).2=a::r∧IsO n (a::r)∧(fromV c tl n a).1=costP c tl a r:=by
 obtain⟨h1,h2⟩:=bestP_perm (c:=c) (tl:=tl) (n-1) a (off (fullN n) a) (off_card ha)
 refine⟨(bestP c tl n (n-1) a (off (fullN n) a)).2,by simp [fromV,shift],⟨List.nodup_cons.2 ⟨fun hm=> ?_,h1⟩,fun x=> ?_⟩,?_⟩
 ·have:=((h2 a).1 hm).2
  rw [off_bit,full_bit ha] at this
  simp at this
 ·rw [List.mem_cons,h2,off_bit]
  by_cases ex:a=x
  ·subst ex;simp [ha]
  ·have ex':¬x=a:=fun h=>ex h.symm
   by_cases hx:x<n
   ·rw [full_bit hx];simp [ex,ex',hx]
   ·simp [ex',hx]
 ·rw [←bestP_val (n-1) a (off (fullN n) a) (off_card ha)]
  simp [fromV,shift]
theorem from_least(c:Nat→Nat→Nat)(tl:Nat→Nat){a:Nat}{r:List Nat}(h:IsO n (a::r)):(fromV c tl n a).1≤costP c tl a r:=by
 have ha:a<n:=(h.2 a).1 (by simp)
 have hd:=List.nodup_cons.1 h.1
 have hl:=h.len
 have:=path_ge (c:=c) (tl:=tl) (n-1) a (off (fullN n) a) r (off_card ha) (by simp at hl;omega) hd.2 (fun x hx=>by
  have hxn:x<n:=(h.2 x).1 (by simp [hx])
  have:¬a=x:=fun e=>by subst e;exact hd.1 hx
  exact⟨hxn,by rw [off_bit,full_bit hxn];simp [this]⟩)
 simpa [fromV,shift] using this
theorem best_all(c:Nat→Nat→Nat)(hn:1≤n):∃x,fms none ((List.range n).map (fromV c (fun _=>0) n))=some x∧IsO n x.2∧x.1=costO c x.2∧∀o,IsO n o→x.1≤costO c o:=by
 have hne:(List.range n).map (fromV c (fun _=>0) n)≠ []:=by
  intro e
  have:=congrArg List.length e
  rw [List.length_map,List.length_range,List.length_nil] at this
  omega
 obtain⟨x,hx⟩:=fms_some hne
 obtain⟨us,vs,e,h1,h2⟩:=fms_first hx
 have hmem:x∈(List.range n).map (fromV c (fun _=>0) n):=by rw [e];simp
 obtain⟨a,ha,rfl⟩:=List.mem_map.1 hmem
 obtain⟨r,r1,r2,r3⟩:=from_perm c (fun _=>0) (List.mem_range.1 ha)
 refine⟨_,hx,by rw [r1];exact r2,by rw [r3,r1,costP_zero],fun o ho=> ?_⟩
 cases o with
 | nil=>have:=ho.len;simp at this;omega
 | cons b s=>
  have h3:=from_least c (fun _=>0) ho
  rw [costP_zero] at h3
  have hb:b<n:=(ho.2 b).1 (by simp)
  have hbm:fromV c (fun _=>0) n b∈(List.range n).map (fromV c (fun _=>0) n):=List.mem_map.2 ⟨b,List.mem_range.2 hb,rfl⟩
  rw [e] at hbm
  have:(fromV c (fun _=>0) n a).1≤(fromV c (fun _=>0) n b).1:=by
   rcases List.mem_append.1 hbm with h | h
   ·exact Nat.le_of_lt (h1 _ h)
   ·rcases List.mem_cons.1 h with h | h
    ·rw [h];exact Nat.le_refl _
    ·exact h2 _ h
  omega
end
theorem isOrder_is{n:Nat}{o:List Nat}(h:IsO n o)(hn:n≤1000):Fat (cst o) (n:Int)=some true:=by
 have hl:=h.len
 have:=loop_allN (f:=Fat.l_3 (cst o) (n:Int)) n (fun _=>true) (by omega) (fun k hk=>by
  have hm:((k:Int)∈cst o):=(mem_cst o k).2 ((h.2 k).2 hk)
  simp only [Fat.l_3,containsI (cst o) (k:Int) (by rw [cst_len];omega),Option.bind_some,hm,decide_true,Bool.not_true,Bool.false_eq_true,if_false]
  rw [if_pos (by rw [decide_eq_true_eq];omega),if_pos trivial]) (by simp [Fat.l_3])
 simp only [Fat]
 rw [if_neg (by rw [cst_len];simp;omega),this,if_pos (by simp)]
 simp [Fat.k_1]
end Go.Proofs.YtolfkfjjifdmeaaGreat
