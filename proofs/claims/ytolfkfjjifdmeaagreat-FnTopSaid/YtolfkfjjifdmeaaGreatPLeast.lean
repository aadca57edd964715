/- The least cost of a choice for each note, the program's and the reference's. -/
import Derived.Test.YtolfkfjjifdmeaaGreatM0
import Derived.Test.YtolfkfjjifdmeaaGreatM1
import Derived.Test.YtolfkfjjifdmeaaGreatM2
import Derived.Test.YtolfkfjjifdmeaaGreatM3
import Derived.Test.YtolfkfjjifdmeaaGreatPFrame
import Derived.Test.YtolfkfjjifdmeaaGreatPDrum
import Derived.Test.YtolfkfjjifdmeaaGreatPCodes
import Derived.Test.YtolfkfjjifdmeaaGreatPTune
import Derived.Test.YtolfkfjjifdmeaaGreatPChoices
import Derived.Test.YtolfkfjjifdmeaaGreatPCosts
import Derived.Test.YtolfkfjjifdmeaaGreatPure
namespace Go.Proofs.YtolfkfjjifdmeaaGreat
open Eng
set_option linter.unusedVariables false
set_option linter.unusedSimpArgs false
theorem all_small{f:GFrame}(hf:FOk f){n:GNote}(ha:0≤n.fAt∧n.fAt≤199)(hp:0≤n.fPitch∧n.fPitch≤47){x:GChoice}(hx:x∈allFor f n):small3 x:=by
 rcases(mem_allFor hf ha hp x).1 hx with rfl | ⟨h1,h2,_⟩
 ·exact .inl rfl
 ·exact .inr h2
theorem cons_of{A:Type}{l:List A}(h:0<l.length):l=l[0]::l.drop 1:=by
 cases l with
 | nil=>simp at h
 | cons a l=>simp
def leastC(f:GFrame)(c:GCosts)(n:GNote):Int:=leastL c.fAway ((allFor f n).map (costV c))
theorem implLeast{f:GFrame}(hf:FOk f){c:GCosts}(hc:COk c){n:GNote}(ha:0≤n.fAt∧n.fAt≤199)(hp:0≤n.fPitch∧n.fPitch≤47):
  loop (FJ.l_13 c (allFor f n)) (w64 c.fAway,0)=some (leastC f c n):=by
 have hl:=allFor_len f n hf.h1
 have:=loop_seq (f:=FJ.l_13 c (allFor f n)) (allFor f n).length (fun k=>(leastL c.fAway (((allFor f n).take k).map (costV c)),(k:Int))) (leastC f c n) (fun k hk=>by
  have hs:=all_small hf ha hp (List.getElem_mem hk)
  simp only [FJ.l_13,ix_lt hk,Option.bind_some,of_is hc hs]
  rw [if_pos (by simpa using hk),w64_in (n:=(k:Int)+1) (by omega) (by omega),List.take_succ_eq_append_getElem hk,List.map_append,List.map_cons,List.map_nil,leastL_snoc]
  rfl) (by
  simp only [FJ.l_13]
  rw [if_neg (by simp),List.take_length];rfl)
 rw [w64_in (by have:=hc.a;omega) (by have:=hc.a;omega)]
 simpa [leastL] using this
theorem specLeast{f:GFrame}(hf:FOk f){c:GCosts}(hc:COk c){n:GNote}(ha:0≤n.fAt∧n.fAt≤199)(hp:0≤n.fPitch∧n.fPitch≤47):Fap f n c=some (leastC f c n):=by
 have hl:=allFor_len f n hf.h1
 have hne:0<(allFor f n).length:=by simp [allFor]
 simp only [Fap,l07For_is hf n,Option.bind_some]
 have h0:ix (allFor f n) 0=some (allFor f n)[0]:=ix_lt hne
 simp only [h0,Option.bind_some,cost_is hc (all_small hf ha hp (List.getElem_mem hne))]
 have:=loop_seq (f:=Fap.l_8 c (allFor f n)) ((allFor f n).length-1) (fun k=>(leastL (costV c (allFor f n)[0]) ((((allFor f n).drop 1).take k).map (costV c)),((k+1:Nat):Int)))
  (leastL (costV c (allFor f n)[0]) (((allFor f n).drop 1).map (costV c))) (fun k hk=>by
  have hk2:k+1<(allFor f n).length:=by omega
  have hk3:k<((allFor f n).drop 1).length:=by rw [List.length_drop];omega
  have hs:=all_small hf ha hp (List.getElem_mem hk2)
  have e3:((allFor f n).drop 1)[k]=(allFor f n)[k+1]:=by rw [List.getElem_drop];congr 1;omega
  simp only [Fap.l_8,ix_lt hk2,Option.bind_some,cost_is hc hs,Fbq]
  rw [if_pos (by simp;omega),w64_in (n:=((k+1:Nat):Int)+1) (by omega) (by omega),List.take_succ_eq_append_getElem hk3,List.map_append,List.map_cons,List.map_nil,leastL_snoc,e3]
  generalize leastL (costV c (allFor f n)[0]) ((((allFor f n).drop 1).take k).map (costV c))=z
  have e4:(if(decide (z<costV c (allFor f n)[k+1]))=true then some z else some (costV c (allFor f n)[k+1]))=some (if costV c (allFor f n)[k+1]<z then costV c (allFor f n)[k+1] else z):=by
   simp only [decide_eq_true_eq]
   split<;>split<;>congr 1<;>omega
  rw [e4]
  simp only [Option.bind_some]
  congr 1) (by
  simp only [Fap.l_8]
  rw [if_neg (by simp;omega),List.take_of_length_le (by simp)])
 have e1:leastL (costV c (allFor f n)[0]) (((allFor f n).drop 1).map (costV c))=leastC f c n:=by
  unfold leastC
  apply leastL_eq
  have hd:(allFor f n)=(allFor f n)[0]::(allFor f n).drop 1:=cons_of hne
  have haw:c.fAway∈(allFor f n).map (costV c):=List.mem_map.2 ⟨⟨true,0,0,0⟩,by simp [allFor],by simp [costV]⟩
  intro x
  constructor
  ·rintro(rfl | hx)
   ·right;exact List.mem_map.2 ⟨_,List.getElem_mem hne,rfl⟩
   ·right
    obtain⟨y,hy,rfl⟩:=List.mem_map.1 hx
    exact List.mem_map.2 ⟨y,List.mem_of_mem_drop hy,rfl⟩
  ·intro hx
   have hx:x∈(allFor f n).map (costV c):=by
    rcases hx with rfl | hx
    ·exact haw
    ·exact hx
   rw [hd] at hx
   simpa using hx
 simp only [List.take_zero,List.map_nil] at this
 rw [show leastL (costV c (allFor f n)[0]) []=costV c (allFor f n)[0] from rfl,show (((0+1:Nat):Int))=1 from rfl] at this
 rw [this,e1]
 rfl
theorem given_is{f:GFrame}(hi:FIn f)(hl:f.fHammers.length≤1048576){t:List GNote}(ht:t.length≤1048576)(hn:∀n∈t,NIn n){c:GCosts}(hc:CIn c):
  Faj f t c=some (if frameB f=true∧tuneB t=true∧costsB c=true then 0 else 1):=by
 simp only [Faj,l02Frame_is f (by omega),l01Ok_is (show t.length≤9223372036854775807 by omega) hn,l07Costs_is hc,Option.bind_some,Faj.k_2]
 cases frameB f<;>cases tuneB t<;>cases costsB c<;>simp
theorem firstOf3(a b c:Int):Ff [a,b,c]=some (if a≠0 then a else if b≠0 then b else c):=by
 simp only [Ff]
 rw [loop_eq]
 by_cases ha:a=0
 ·rw [show Ff.l_3 [a,b,c] 0=some (.inl 1) by simp [Ff.l_3,ix,ha,w64_in]]
  simp only
  rw [loop_eq]
  by_cases hb:b=0
  ·rw [show Ff.l_3 [a,b,c] 1=some (.inl 2) by simp [Ff.l_3,ix,hb,w64_in]]
   simp only
   rw [loop_eq]
   by_cases hc:c=0
   ·rw [show Ff.l_3 [a,b,c] 2=some (.inl 3) by simp [Ff.l_3,ix,hc,w64_in]]
    simp only
    rw [loop_eq,show Ff.l_3 [a,b,c] 3=some (.inr (.inr ())) by simp [Ff.l_3]]
    simp [ha,hb,hc,Ff.k_1]
   ·rw [show Ff.l_3 [a,b,c] 2=some (.inr (.inl c)) by simp [Ff.l_3,ix,hc]]
    simp [ha,hb]
  ·rw [show Ff.l_3 [a,b,c] 1=some (.inr (.inl b)) by simp [Ff.l_3,ix,hb]]
   simp [ha,hb]
 ·rw [show Ff.l_3 [a,b,c] 0=some (.inr (.inl a)) by simp [Ff.l_3,ix,ha]]
  simp [ha]
theorem choicesCode_nil:FaV []=some 0:=by
 simp only [FaV,FT,Fh]
 rw [loop_eq,show Fh.l_3 [] 0=some (.inr (.inr ())) by simp [Fh.l_3]]
 rfl
theorem arrangeCode_is{f:GFrame}(hi:FIn f)(hl:f.fHammers.length≤1048576){t:List GNote}(ht:t.length≤1048576)(hn:∀n∈t,NIn n){c:GCosts}(hc:CIn c):
  FaG f t c=some (if frameB f=true∧tuneB t=true∧costsB c=true then 0 else 1):=by
 simp only [FaG,FaE,validFrame_is f (show f.fHammers.length≤9223372036854775807 by omega),tuneCode1 (show t.length≤9223372036854775807 by omega) hn,choicesCode_nil,validCosts_is hc,unless_is,firstOf3,firstOf2,Option.bind_some]
 cases frameB f<;>cases tuneB t<;>cases costsB c<;>simp
theorem leastEach_is{f:GFrame}(hf:FOk f){c:GCosts}(hc:COk c){t:List GNote}(ht:TOk t):FJ f t c=some (t.map (leastC f c)):=by
 have hl:=ht.len
 have:=loop_seq (f:=FJ.l_5 f t c) t.length (fun k=>((t.take k).map (leastC f c),(k:Int))) (t.map (leastC f c)) (fun k hk=>by
  obtain⟨a,b,d,e⟩:=ht.nt _ (List.getElem_mem hk)
  simp only [FJ.l_5,ix_lt hk,Option.bind_some,choices_is hf d e,implLeast hf hc ⟨a,b⟩ ⟨d,e⟩,FJ.k_10]
  rw [if_pos (by simpa using hk),if_pos (by simp only [List.length_map,List.length_take,List.length_cons,List.length_nil];omega),w64_in (n:=(k:Int)+1) (by omega) (by omega),List.take_succ_eq_append_getElem hk,List.map_append]
  rfl) (by simp [FJ.l_5])
 simp only [List.take_zero,List.map_nil] at this
 simp only [FJ]
 rw [show ((0:Int))=((0:Nat):Int) from rfl,this]
 rfl
end Go.Proofs.YtolfkfjjifdmeaaGreat
