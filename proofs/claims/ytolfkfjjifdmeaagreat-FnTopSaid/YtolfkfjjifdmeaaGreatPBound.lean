/- The sums of the least costs from each index on: the program's way, backward, and the reference's. -/
import Derived.Test.YtolfkfjjifdmeaaGreatM2
import Derived.Test.YtolfkfjjifdmeaaGreatM3
import Derived.Test.YtolfkfjjifdmeaaGreatPFrame
import Derived.Test.YtolfkfjjifdmeaaGreatPDrum
import Derived.Test.YtolfkfjjifdmeaaGreatPCodes
import Derived.Test.YtolfkfjjifdmeaaGreatPTune
import Derived.Test.YtolfkfjjifdmeaaGreatPChoices
import Derived.Test.YtolfkfjjifdmeaaGreatPCosts
import Derived.Test.YtolfkfjjifdmeaaGreatPLeast
import Derived.Test.YtolfkfjjifdmeaaGreatPure
namespace Go.Proofs.YtolfkfjjifdmeaaGreat
open Eng
set_option linter.unusedVariables false
set_option linter.unusedSimpArgs false
def sumL:List Int→Int
 | []=>0
 | x::t=>x+sumL t
theorem sumL_snoc(x:Int):∀l:List Int,sumL (l++ [x])=sumL l+x
 | []=>by simp [sumL]
 | y::l=>by simp only [List.cons_append,sumL,sumL_snoc x l];omega
theorem sumL_le{B:Int}:∀(l:List Int),(∀x∈l,0≤x∧x≤B)→0≤sumL l∧sumL l≤B*l.length
 | [],_=>by simp [sumL]
 | x::l,h=>by
  have h1:=sumL_le l (fun y hy=>h y (by simp [hy]))
  have h2:=h x (by simp)
  simp only [sumL,List.length_cons]
  rw [show B*((l.length+1:Nat):Int)=B*l.length+B by rw [Int.natCast_add,Int.mul_add];simp]
  omega
def suf(xs:List Int)(k:Nat):Int:=sumL (xs.drop k)
theorem suf_step{xs:List Int}{k:Nat}(h:k<xs.length):suf xs k=xs[k]+suf xs (k+1):=by
 unfold suf
 rw [List.drop_eq_getElem_cons h];rfl
theorem suf_le{xs:List Int}(h:∀x∈xs,0≤x∧x≤4000)(hl:xs.length≤120)(k:Nat):0≤suf xs k∧suf xs k≤480000:=by
 have h1:=sumL_le (B:=4000) (xs.drop k) (fun x hx=>h x (List.mem_of_mem_drop hx))
 have h2:(xs.drop k).length≤120:=by rw [List.length_drop];omega
 unfold suf
 omega
theorem leastC_le{f:GFrame}(hf:FOk f){c:GCosts}(hc:COk c){n:GNote}(ha:0≤n.fAt∧n.fAt≤199)(hp:0≤n.fPitch∧n.fPitch≤47):0≤leastC f c n∧leastC f c n≤4000:=by
 obtain⟨h1,_,h3⟩:=leastL_spec ((allFor f n).map (costV c)) c.fAway
 have ha':=hc.a
 unfold leastC
 refine⟨?_,by omega⟩
 rcases h3 with h3 | h3
 ·omega
 ·obtain⟨x,hx,e⟩:=List.mem_map.1 h3
  have:=costV_le hc (all_small hf ha hp hx)
  omega
theorem seqO_steps{A S T:Type}{body:A→S→Option (S⊕T)}(ys:List A)(st:Nat→S)(h:∀k (hk:k<ys.length),body ys[k] (st k)=some (.inl (st (k+1)))):seqO body ys (st 0)=some (.inl (st ys.length)):=by
 have key:∀j k,k+j=ys.length→seqO body (ys.drop k) (st k)=some (.inl (st ys.length)):=by
  intro j
  induction j with
  | zero=>intro k hk;rw [List.drop_of_length_le (by omega)];simp only [seqO];rw [show k=ys.length by omega]
  | succ j ih=>
   intro k hk
   rw [List.drop_eq_getElem_cons (show k<ys.length by omega)]
   simp only [seqO,h k (by omega),Option.bind_some]
   exact ih (k+1) (by omega)
 simpa using key ys.length 0 (by omega)
def bst(xs:List Int)(k:Nat):List Int:=(List.range (xs.length+1)).map fun i=>if xs.length-k≤i then suf xs i else 0
theorem bst_len(xs:List Int)(k:Nat):(bst xs k).length=xs.length+1:=by simp [bst]
theorem bst_at(xs:List Int)(k:Nat){i:Nat}(h:i≤xs.length):ix (bst xs k) (i:Int)=some (if xs.length-k≤i then suf xs i else 0):=by
 rw [ix_lt (show i<(bst xs k).length by rw [bst_len];omega)]
 simp [bst]
theorem back_len(xs:List Int):(backL xs).length=xs.length:=by simp [backL]
theorem bounds_seq{xs:List Int}(h:∀x∈xs,0≤x∧x≤4000)(hl:xs.length≤120):seqO Fay.l_3 (backL xs) (List.replicate (xs.length+1) 0)=some (.inl (bst xs xs.length)):=by
 have h0:bst xs 0=List.replicate (xs.length+1) 0:=by
  apply List.ext_getElem
  ·simp [bst]
  ·intro i h1 h2
   simp only [bst,List.getElem_map,List.getElem_range,List.getElem_replicate]
   simp only [bst,List.length_map,List.length_range] at h1
   split
   ·have:i=xs.length:=by omega
    subst this
    unfold suf
    rw [List.drop_of_length_le (Nat.le_refl _)];rfl
   ·rfl
 have:=seqO_steps (body:=Fay.l_3) (backL xs) (bst xs) (fun k hk=>by
  rw [back_len] at hk
  have hi:xs.length-1-k<xs.length:=by omega
  have hs:=suf_step hi
  have b1:=suf_le h hl (xs.length-1-k)
  have hg:xs[xs.length-1-k]?.getD 0=xs[xs.length-1-k]:=by rw [List.getElem?_eq_getElem hi];rfl
  have e1:w64 (((xs.length-1-k:Nat):Int)+1)=((xs.length-1-k+1:Nat):Int):=by rw [w64_in (by omega) (by omega)];omega
  simp only [backL,List.getElem_map,List.getElem_range,Fay.l_3,hg,e1,bst_at xs k (show xs.length-1-k+1≤xs.length by omega),bst_at xs k (show xs.length-1-k≤xs.length by omega),Option.bind_some]
  rw [if_pos (show xs.length-k≤xs.length-1-k+1 by omega),w64_in (by omega) (by omega)]
  congr 2
  apply List.ext_getElem
  ·simp [bst]
  ·intro i h1 h2
   simp only [bst,List.getElem_set,List.getElem_map,List.getElem_range,Int.toNat_natCast]
   by_cases e:xs.length-1-k=i
   ·subst e
    rw [if_pos rfl,if_pos (by omega)];omega
   ·rw [if_neg e]
    by_cases c:xs.length-k≤i
    ·rw [if_pos c,if_pos (by omega)]
    ·rw [if_neg c,if_neg (by omega)])
 rw [back_len,h0] at this
 exact this
theorem bounds_is{f:GFrame}(hf:FOk f){c:GCosts}(hc:COk c){t:List GNote}(ht:TOk t):Fay f t c=some (bst (t.map (leastC f c)) t.length):=by
 have hl:=ht.len
 have hx:∀x∈t.map (leastC f c),0≤x∧x≤4000:=by
  intro x hx
  obtain⟨n,hn,rfl⟩:=List.mem_map.1 hx
  have:=ht.nt n hn
  exact leastC_le hf hc (by omega) (by omega)
 have hs:=bounds_seq hx (by simpa using hl)
 have e:w64 ((t.length:Int)+1)=((t.length+1:Nat):Int):=by rw [w64_in (by omega) (by omega)];omega
 simp only [List.length_map] at hs
 simp only [Fay,e,leastEach_is hf hc ht,Option.bind_some,Int.toNat_natCast,hs,List.length_map,Fay.k_7]
 rw [if_pos (by omega),if_pos (by omega)]
theorem specBound{f:GFrame}(hf:FOk f){c:GCosts}(hc:COk c){t:List GNote}(ht:TOk t){i:Nat}(hi:i≤t.length):Fah f t c (i:Int)=some (suf (t.map (leastC f c)) i):=by
 have hl:=ht.len
 have hx:∀x∈t.map (leastC f c),0≤x∧x≤4000:=by
  intro x hx
  obtain⟨n,hn,rfl⟩:=List.mem_map.1 hx
  have:=ht.nt n hn
  exact leastC_le hf hc (by omega) (by omega)
 have:=loop_seq (f:=Fah.l_5 f t c) (t.length-i) (fun k=>(sumL (((t.map (leastC f c)).drop i).take k),((i+k:Nat):Int))) (suf (t.map (leastC f c)) i) (fun k hk=>by
  have hk2:i+k<t.length:=by omega
  have hn:=ht.nt _ (List.getElem_mem hk2)
  have hb:=sumL_le (B:=4000) (((t.map (leastC f c)).drop i).take (k+1)) (fun x hx'=>hx x (List.mem_of_mem_drop (List.mem_of_mem_take hx')))
  have hlen:(((t.map (leastC f c)).drop i).take (k+1)).length≤120:=by rw [List.length_take,List.length_drop,List.length_map];omega
  have hkd:k<((t.map (leastC f c)).drop i).length:=by rw [List.length_drop,List.length_map];omega
  have hsn:sumL (((t.map (leastC f c)).drop i).take (k+1))=sumL (((t.map (leastC f c)).drop i).take k)+leastC f c t[i+k]:=by
   rw [List.take_succ_eq_append_getElem hkd,sumL_snoc]
   simp
  simp only [Fah.l_5,ix_lt hk2,Option.bind_some,specLeast hf hc (show 0≤t[i+k].fAt∧t[i+k].fAt≤199 by omega) (show 0≤t[i+k].fPitch∧t[i+k].fPitch≤47 by omega)]
  rw [if_pos (by rw [decide_eq_true_eq];omega),←hsn,w64_in (n:=sumL _) (by omega) (by omega),w64_in (n:=((i+k:Nat):Int)+1) (by omega) (by omega)]
  congr 3) (by
  simp only [Fah.l_5]
  rw [if_neg (by rw [decide_eq_true_eq];omega),List.take_of_length_le (by rw [List.length_drop,List.length_map];omega)]
  rfl)
 have h0:loop (Fah.l_5 f t c) (0,(i:Int))=some (suf (t.map (leastC f c)) i):=by simpa [sumL] using this
 simp only [Fah,h0,Option.bind_some,Fah.k_2]
end Go.Proofs.YtolfkfjjifdmeaaGreat
