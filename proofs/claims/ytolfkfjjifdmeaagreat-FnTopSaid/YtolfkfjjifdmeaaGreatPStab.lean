/- slices.SortStableFunc: what it comes to, over any comparison that tells a key. -/
import Derived.Test.YtolfkfjjifdmeaaGreatT
import Derived.Test.YtolfkfjjifdmeaaGreatPure
namespace Go.Proofs.YtolfkfjjifdmeaaGreat
open Eng
set_option linter.unusedVariables false
set_option linter.unusedSimpArgs false
noncomputable def gIns.k_2 {S:Type} (cmp:S→S→Option Int) (xs_1:List S):Option (List S):=some xs_1
noncomputable def gIns.k_8 {S:Type} (cmp:S→S→Option Int) (i_4:Int) (xs_7:List S):Option (((List S)×Int)⊕(List S)):=some (.inl (xs_7,(w64 (i_4+1))))
noncomputable def gIns.l_11 {S:Type} (cmp:S→S→Option Int) (a1:Int):((List S)×Int)→Option (((List S)×Int)⊕(List S))
 | (xs_9,i_10)=>(if(decide (i_10>a1))=true then(ix xs_9 i_10).bind fun x_13=>(ix xs_9 (w64 (i_10-1))).bind fun x_14=>(cmp x_13 x_14).bind fun t_15=>(if(decide (t_15<0))=true then(ix xs_9 (w64 (i_10-1))).bind fun x_16=>(ix xs_9 i_10).bind fun x_17=>(ix xs_9 i_10).bind fun x_18=>(ix (xs_9.set i_10.toNat x_16) (w64 (i_10-1))).bind fun x_19=>some (.inl (((xs_9.set i_10.toNat x_16).set (w64 (i_10-1)).toNat x_17),(w64 (i_10-1)))) else some (.inr xs_9)) else some (.inr xs_9))
noncomputable def gIns.l_5 {S:Type} (cmp:S→S→Option Int) (a1:Int) (b2:Int):((List S)×Int)→Option (((List S)×Int)⊕(List S))
 | (xs_3,i_4)=>(if(decide (i_4<b2))=true then(loop (gIns.l_11 cmp a1) (xs_3,i_4)).bind fun t_12=>gIns.k_8 cmp i_4 t_12 else some (.inr xs_3))
noncomputable def gIns {S:Type} (cmp:S→S→Option Int) (data0:List S) (a1:Int) (b2:Int):Option (List S):=(loop (gIns.l_5 cmp a1 b2) (data0,(w64 (a1+1)))).bind fun t_6=>gIns.k_2 cmp t_6
noncomputable def gSwap.k_2 {S:Type} (cmp:S→S→Option Int) (xs_1:List S):Option (List S):=some xs_1
noncomputable def gSwap.l_5 {S:Type} (cmp:S→S→Option Int) (a1:Int) (b2:Int) (n3:Int):((List S)×Int)→Option (((List S)×Int)⊕(List S))
 | (xs_3,i_4)=>(if(decide (i_4<n3))=true then(ix xs_3 (w64 (b2+i_4))).bind fun x_7=>(ix xs_3 (w64 (a1+i_4))).bind fun x_8=>(ix xs_3 (w64 (a1+i_4))).bind fun x_9=>(ix (xs_3.set (w64 (a1+i_4)).toNat x_7) (w64 (b2+i_4))).bind fun x_10=>some (.inl (((xs_3.set (w64 (a1+i_4)).toNat x_7).set (w64 (b2+i_4)).toNat x_8),(w64 (i_4+1)))) else some (.inr xs_3))
noncomputable def gSwap {S:Type} (cmp:S→S→Option Int) (data0:List S) (a1:Int) (b2:Int) (n3:Int):Option (List S):=(loop (gSwap.l_5 cmp a1 b2 n3) (data0,0)).bind fun t_6=>gSwap.k_2 cmp t_6
noncomputable def gRot.k_3 {S:Type} (cmp:S→S→Option Int) (m2:Int) (xs_1:List S) (i_2:Int):Option (List S):=(gSwap cmp xs_1 (w64 (m2-i_2)) m2 i_2).bind fun t_4=>some t_4
noncomputable def gRot.k_13 {S:Type} (cmp:S→S→Option Int) (xs_10:List S) (i_11:Int) (i_12:Int):Option (((List S)×Int×Int)⊕(((List S)×Int))):=some (.inl (xs_10,i_11,i_12))
noncomputable def gRot.l_8 {S:Type} (cmp:S→S→Option Int) (m2:Int):((List S)×Int×Int)→Option (((List S)×Int×Int)⊕(((List S)×Int)))
 | (xs_5,i_6,i_7)=>(if(i_6 !=i_7)=true then(if(decide (i_6>i_7))=true then(gSwap cmp xs_5 (w64 (m2-i_6)) m2 i_7).bind fun t_14=>gRot.k_13 cmp t_14 (w64 (i_6-i_7)) i_7 else(gSwap cmp xs_5 (w64 (m2-i_6)) (w64 ((w64 (m2+i_7))-i_6)) i_6).bind fun t_15=>gRot.k_13 cmp t_15 i_6 (w64 (i_7-i_6))) else some (.inr (xs_5,i_6)))
noncomputable def gRot {S:Type} (cmp:S→S→Option Int) (data0:List S) (a1:Int) (m2:Int) (b3:Int):Option (List S):=(loop (gRot.l_8 cmp m2) (data0,(w64 (m2-a1)),(w64 (b3-m2)))).bind fun t_9=>gRot.k_3 cmp m2 t_9.1 t_9.2
noncomputable def gSym.k_4 {S:Type} (cmp:S→S→Option Int) (xs_3:List S):Option (List S):=some xs_3
noncomputable def gSym.l_7 {S:Type} (cmp:S→S→Option Int) (i_1:Int):((List S)×Int)→Option (((List S)×Int)⊕(List S))
 | (xs_5,i_6)=>(if(decide (i_6<(w64 (i_1-1))))=true then(ix xs_5 (w64 (i_6+1))).bind fun x_9=>(ix xs_5 i_6).bind fun x_10=>(ix xs_5 i_6).bind fun x_11=>(ix (xs_5.set i_6.toNat x_9) (w64 (i_6+1))).bind fun x_12=>some (.inl (((xs_5.set i_6.toNat x_9).set (w64 (i_6+1)).toNat x_10),(w64 (i_6+1)))) else some (.inr xs_5))
noncomputable def gSym.k_2 {S:Type} (cmp:S→S→Option Int) (data0:List S) (a1:Int) (i_1:Int):Option (List S):=(loop (gSym.l_7 cmp i_1) (data0,a1)).bind fun t_8=>gSym.k_4 cmp t_8
noncomputable def gSym.k_19 {S:Type} (cmp:S→S→Option Int) (i_17:Int) (i_18:Int):Option ((Int×Int)⊕(Int)):=some (.inl (i_17,i_18))
noncomputable def gSym.l_15 {S:Type} (cmp:S→S→Option Int) (data0:List S) (a1:Int):(Int×Int)→Option ((Int×Int)⊕(Int))
 | (i_13,i_14)=>(if(decide (i_13<i_14))=true then(ix data0 (w64 (bShr .u64 (u64 (w64 (i_13+i_14))) 1))).bind fun x_20=>(ix data0 a1).bind fun x_21=>(cmp x_20 x_21).bind fun t_22=>(if(decide (t_22<0))=true then gSym.k_19 cmp (w64 ((w64 (bShr .u64 (u64 (w64 (i_13+i_14))) 1))+1)) i_14 else gSym.k_19 cmp i_13 (w64 (bShr .u64 (u64 (w64 (i_13+i_14))) 1))) else some (.inr i_13))
noncomputable def gSym.k_26 {S:Type} (cmp:S→S→Option Int) (xs_25:List S):Option (List S):=some xs_25
noncomputable def gSym.l_29 {S:Type} (cmp:S→S→Option Int) (i_23:Int):((List S)×Int)→Option (((List S)×Int)⊕(List S))
 | (xs_27,i_28)=>(if(decide (i_28>i_23))=true then(ix xs_27 (w64 (i_28-1))).bind fun x_31=>(ix xs_27 i_28).bind fun x_32=>(ix xs_27 i_28).bind fun x_33=>(ix (xs_27.set i_28.toNat x_31) (w64 (i_28-1))).bind fun x_34=>some (.inl (((xs_27.set i_28.toNat x_31).set (w64 (i_28-1)).toNat x_32),(w64 (i_28-1)))) else some (.inr xs_27))
noncomputable def gSym.k_24 {S:Type} (cmp:S→S→Option Int) (data0:List S) (m2:Int) (i_23:Int):Option (List S):=(loop (gSym.l_29 cmp i_23) (data0,m2)).bind fun t_30=>gSym.k_26 cmp t_30
noncomputable def gSym.k_41 {S:Type} (cmp:S→S→Option Int) (i_39:Int) (i_40:Int):Option ((Int×Int)⊕(Int)):=some (.inl (i_39,i_40))
noncomputable def gSym.l_37 {S:Type} (cmp:S→S→Option Int) (data0:List S) (m2:Int):(Int×Int)→Option ((Int×Int)⊕(Int))
 | (i_35,i_36)=>(if(decide (i_35<i_36))=true then(ix data0 m2).bind fun x_42=>(ix data0 (w64 (bShr .u64 (u64 (w64 (i_35+i_36))) 1))).bind fun x_43=>(cmp x_42 x_43).bind fun t_44=>(if(!(decide (t_44<0)))=true then gSym.k_41 cmp (w64 ((w64 (bShr .u64 (u64 (w64 (i_35+i_36))) 1))+1)) i_36 else gSym.k_41 cmp i_35 (w64 (bShr .u64 (u64 (w64 (i_35+i_36))) 1))) else some (.inr i_35))
noncomputable def gSym.k_53 {S:Type} (cmp:S→S→Option Int) (self_:(List S)→Int→Int→Int→Option (List S)) (a1:Int) (m2:Int) (b3:Int) (i_48:Int) (xs_52:List S):Option (List S):=(if((decide ((w64 (bShr .u64 (u64 (w64 (a1+b3))) 1))<(w64 ((w64 ((w64 (bShr .u64 (u64 (w64 (a1+b3))) 1))+m2))-i_48))))&&(decide ((w64 ((w64 ((w64 (bShr .u64 (u64 (w64 (a1+b3))) 1))+m2))-i_48))<b3)))=true then(self_ xs_52 (w64 (bShr .u64 (u64 (w64 (a1+b3))) 1)) (w64 ((w64 ((w64 (bShr .u64 (u64 (w64 (a1+b3))) 1))+m2))-i_48)) b3).bind fun t_54=>some t_54 else some xs_52)
noncomputable def gSym.k_51 {S:Type} (cmp:S→S→Option Int) (self_:(List S)→Int→Int→Int→Option (List S)) (a1:Int) (m2:Int) (b3:Int) (i_48:Int) (xs_50:List S):Option (List S):=(if((decide (a1<i_48))&&(decide (i_48<(w64 (bShr .u64 (u64 (w64 (a1+b3))) 1)))))=true then(self_ xs_50 a1 i_48 (w64 (bShr .u64 (u64 (w64 (a1+b3))) 1))).bind fun t_55=>gSym.k_53 cmp self_ a1 m2 b3 i_48 t_55 else gSym.k_53 cmp self_ a1 m2 b3 i_48 xs_50)
noncomputable def gSym.k_49 {S:Type} (cmp:S→S→Option Int) (self_:(List S)→Int→Int→Int→Option (List S)) (data0:List S) (a1:Int) (m2:Int) (b3:Int) (i_48:Int):Option (List S):=(if((decide (i_48<m2))&&(decide (m2<(w64 ((w64 ((w64 (bShr .u64 (u64 (w64 (a1+b3))) 1))+m2))-i_48)))))=true then(gRot cmp data0 i_48 m2 (w64 ((w64 ((w64 (bShr .u64 (u64 (w64 (a1+b3))) 1))+m2))-i_48))).bind fun t_56=>gSym.k_51 cmp self_ a1 m2 b3 i_48 t_56 else gSym.k_51 cmp self_ a1 m2 b3 i_48 data0)
noncomputable def gSym.k_63 {S:Type} (cmp:S→S→Option Int) (i_61:Int) (i_62:Int):Option ((Int×Int)⊕(Int)):=some (.inl (i_61,i_62))
noncomputable def gSym.l_59 {S:Type} (cmp:S→S→Option Int) (data0:List S) (a1:Int) (m2:Int) (b3:Int):(Int×Int)→Option ((Int×Int)⊕(Int))
 | (i_57,i_58)=>(if(decide (i_57<i_58))=true then(ix data0 (w64 ((w64 ((w64 ((w64 (bShr .u64 (u64 (w64 (a1+b3))) 1))+m2))-1))-(w64 (bShr .u64 (u64 (w64 (i_57+i_58))) 1))))).bind fun x_64=>(ix data0 (w64 (bShr .u64 (u64 (w64 (i_57+i_58))) 1))).bind fun x_65=>(cmp x_64 x_65).bind fun t_66=>(if(!(decide (t_66<0)))=true then gSym.k_63 cmp (w64 ((w64 (bShr .u64 (u64 (w64 (i_57+i_58))) 1))+1)) i_58 else gSym.k_63 cmp i_57 (w64 (bShr .u64 (u64 (w64 (i_57+i_58))) 1))) else some (.inr i_57))
noncomputable def gSym.k_47 {S:Type} (cmp:S→S→Option Int) (self_:(List S)→Int→Int→Int→Option (List S)) (data0:List S) (a1:Int) (m2:Int) (b3:Int) (i_45:Int) (i_46:Int):Option (List S):=(loop (gSym.l_59 cmp data0 a1 m2 b3) (i_45,i_46)).bind fun t_60=>gSym.k_49 cmp self_ data0 a1 m2 b3 t_60
noncomputable def gSym.step {S:Type} (cmp:S→S→Option Int) (self_:(List S)→Int→Int→Int→Option (List S)) (data0:List S) (a1:Int) (m2:Int) (b3:Int):Option (List S):=(if((w64 (m2-a1))==1)=true then(loop (gSym.l_15 cmp data0 a1) (m2,b3)).bind fun t_16=>gSym.k_2 cmp data0 a1 t_16 else(if((w64 (b3-m2))==1)=true then(loop (gSym.l_37 cmp data0 m2) (a1,m2)).bind fun t_38=>gSym.k_24 cmp data0 m2 t_38 else(if(decide (m2>(w64 (bShr .u64 (u64 (w64 (a1+b3))) 1))))=true then gSym.k_47 cmp self_ data0 a1 m2 b3 (w64 ((w64 ((w64 (bShr .u64 (u64 (w64 (a1+b3))) 1))+m2))-b3)) (w64 (bShr .u64 (u64 (w64 (a1+b3))) 1)) else gSym.k_47 cmp self_ data0 a1 m2 b3 a1 m2)))
noncomputable def gSym.rec_ {S:Type} (cmp:S→S→Option Int):Nat→(List S)→Int→Int→Int→Option (List S)
 | 0=>fun data0 a1 m2 b3=>none
 | fu+1=>gSym.step cmp (gSym.rec_ cmp fu)
noncomputable def gSym {S:Type} (cmp:S→S→Option Int) (data0:List S) (a1:Int) (m2:Int) (b3:Int):Option (List S):=gSym.rec_ cmp 200 data0 a1 m2 b3
noncomputable def gStab.k_7 {S:Type} (cmp:S→S→Option Int) (xs_6:List S):Option (List S):=some xs_6
noncomputable def gStab.k_13 {S:Type} (cmp:S→S→Option Int) (i_9:Int) (xs_12:List S):Option (((List S)×Int)⊕(List S)):=some (.inl (xs_12,(w64 (i_9*2))))
noncomputable def gStab.k_16 {S:Type} (cmp:S→S→Option Int) (n1:Int) (i_9:Int) (xs_14:List S) (i_15:Int):Option (((List S)×Int)⊕(List S)):=(if(decide ((w64 (i_15+i_9))<n1))=true then(gSym cmp xs_14 i_15 (w64 (i_15+i_9)) n1).bind fun t_17=>gStab.k_13 cmp i_9 t_17 else gStab.k_13 cmp i_9 xs_14)
noncomputable def gStab.l_21 {S:Type} (cmp:S→S→Option Int) (n1:Int) (i_9:Int):((List S)×Int×Int)→Option (((List S)×Int×Int)⊕(((List S)×Int)))
 | (xs_18,i_19,i_20)=>(if(decide (i_20≤n1))=true then(gSym cmp xs_18 i_19 (w64 (i_19+i_9)) i_20).bind fun t_23=>some (.inl (t_23,i_20,(w64 (i_20+(w64 (2*i_9)))))) else some (.inr (xs_18,i_19)))
noncomputable def gStab.l_10 {S:Type} (cmp:S→S→Option Int) (n1:Int):((List S)×Int)→Option (((List S)×Int)⊕(List S))
 | (xs_8,i_9)=>(if(decide (i_9<n1))=true then(loop (gStab.l_21 cmp n1 i_9) (xs_8,0,(w64 (2*i_9)))).bind fun t_22=>gStab.k_16 cmp n1 i_9 t_22.1 t_22.2 else some (.inr xs_8))
noncomputable def gStab.k_4 {S:Type} (cmp:S→S→Option Int) (n1:Int) (xs_1:List S) (i_2:Int) (i_3:Int):Option (List S):=(gIns cmp xs_1 i_2 n1).bind fun t_5=>(loop (gStab.l_10 cmp n1) (t_5,20)).bind fun t_11=>gStab.k_7 cmp t_11
noncomputable def gStab.l_27 {S:Type} (cmp:S→S→Option Int) (n1:Int):((List S)×Int×Int)→Option (((List S)×Int×Int)⊕(((List S)×Int×Int)))
 | (xs_24,i_25,i_26)=>(if(decide (i_26≤n1))=true then(gIns cmp xs_24 i_25 i_26).bind fun t_29=>some (.inl (t_29,i_26,(w64 (i_26+20)))) else some (.inr (xs_24,i_25,i_26)))
noncomputable def gStab {S:Type} (cmp:S→S→Option Int) (data0:List S) (n1:Int):Option (List S):=(loop (gStab.l_27 cmp n1) (data0,0,20)).bind fun t_28=>gStab.k_4 cmp n1 t_28.1 t_28.2.1 t_28.2.2
noncomputable def gSort {S:Type} (cmp:S→S→Option Int) (x0:List S):Option (List S):=(gStab cmp x0 (x0.length:Int)).bind fun t_1=>some t_1
def CmK{S:Type}(cmp:S→S→Option Int)(D:S→Prop)(key:S→Int):Prop:=∀x y,D x→D y→∃c,cmp x y=some c∧(c<0↔key x<key y)
def ltK{S:Type}(key:S→Int)(num:S→Nat)(x y:S):Prop:=key x<key y∨(key x=key y∧num x<num y)
theorem ltK.trans{S:Type}{key:S→Int}{num:S→Nat}{x y z:S}(h:ltK key num x y)(k:ltK key num y z):ltK key num x z:=by
 unfold ltK at*;omega
theorem ltK.of_not{S:Type}{key:S→Int}{num:S→Nat}{x y:S}(h:¬key x<key y)(hn:num y<num x):ltK key num y x:=by
 unfold ltK;omega
theorem ix_mid{S:Type}{l1 l2:List S}{x:S}{k:Int}(h:(l1.length:Int)=k):ix (l1++x::l2) k=some x:=by
 subst h;exact ix_get (by simp)
theorem set_mid{S:Type}{l1 l2:List S}{x y:S}{k:Nat}(h:l1.length=k):(l1++x::l2).set k y=l1++y::l2:=by
 subst h;simp
theorem snoc_cases{S:Type}(l:List S):l= []∨∃l' x,l=l'++ [x]:=by
 rcases List.eq_nil_or_concat l with h | ⟨l',x,h⟩
 ·exact .inl h
 ·exact .inr ⟨l',x,by rw [h,List.concat_eq_append]⟩
theorem swap_mid{S:Type}{l1 l2:List S}{x y:S}{i j:Int}(hi:(l1.length:Int)=i)(hj:(l1.length:Int)+1=j):
  ix (l1++y::x::l2) i=some y∧ix (l1++y::x::l2) j=some x∧((l1++y::x::l2).set j.toNat y).set i.toNat x=l1++x::y::l2∧((l1++y::x::l2).set i.toNat x).set j.toNat y=l1++x::y::l2:=by
 have e1:i.toNat=l1.length:=by omega
 have e2:j.toNat=(l1++ [y]).length:=by simp;omega
 have e3:j.toNat=(l1++ [x]).length:=by simp;omega
 refine⟨ix_mid hi,?_,?_,?_⟩
 ·rw [show l1++y::x::l2=(l1++ [y])++x::l2 by simp]
  exact ix_mid (by simp;omega)
 ·rw [show l1++y::x::l2=(l1++ [y])++x::l2 by simp,set_mid e2.symm,show (l1++ [y])++y::l2=l1++y::(y::l2) by simp,set_mid e1.symm]
 ·rw [set_mid e1.symm,show l1++x::x::l2=(l1++ [x])++x::l2 by simp,set_mid e3.symm];simp
theorem ix_set_ne{S:Type}{l:List S}{i j:Int}{y z:S}(h:ix l j=some z)(hne:i.toNat≠j.toNat):ix (l.set i.toNat y) j=some z:=by
 unfold ix at*
 split at h
 ·rename_i hj;rw [if_pos hj,List.getElem?_set_ne hne];exact h
 ·cases h
section
variable {S:Type} {cmp:S→S→Option Int} {D:S→Prop} {key:S→Int} {num:S→Nat}
theorem ins_inner(hc:CmK cmp D key)(P R:List S)(x:S)(hx:D x)(hb:P.length≤4611686018427387904):∀(n:Nat) (Y1 Y2:List S),Y1.length=n→P.length+n≤4611686018427387904→(∀y∈Y1,D y∧num y<num x)→(Y1++Y2).Pairwise (ltK key num)→(∀y∈Y2,ltK key num x y)→
  ∃Z,loop (gIns.l_11 cmp (P.length:Int)) (P++Y1++x::(Y2++R),(P.length:Int)+(n:Int))=some (P++Z++R)∧Z.Perm (x::(Y1++Y2))∧Z.Pairwise (ltK key num):=by
 intro n
 induction n with
 | zero=>
  intro Y1 Y2 hn _ _ hp hlt
  obtain rfl:=List.eq_nil_of_length_eq_zero hn
  refine⟨x::Y2,?_,by simp,List.pairwise_cons.2 ⟨hlt,by simpa using hp⟩⟩
  rw [loop_eq];simp [gIns.l_11]
 | succ n ih=>
  intro Y1 Y2 hn hbd hy hp hlt
  rcases snoc_cases Y1 with rfl | ⟨Y,y,rfl⟩
  ·simp at hn
  have hYn:Y.length=n:=by simp at hn;exact hn
  obtain⟨hDy,hyx⟩:=hy y (by simp)
  obtain⟨c,hcc,hci⟩:=hc x y hx hDy
  have hw:w64 ((P.length:Int)+((n+1:Nat):Int)-1)=(P.length:Int)+(n:Int):=by rw [w64_in (by omega) (by omega)];omega
  have e:P++(Y++ [y])++x::(Y2++R)=(P++Y)++y::x::(Y2++R):=by simp
  obtain⟨s1,s2,s3,s4⟩:=swap_mid (l1:=P++Y) (l2:=Y2++R) (x:=x) (y:=y) (i:=(P.length:Int)+(n:Int)) (j:=(P.length:Int)+((n+1:Nat):Int)) (by simp;omega) (by simp;omega)
  by_cases hlt2:c<0
  ·obtain⟨Z,z1,z2,z3⟩:=ih Y (y::Y2) hYn (by omega) (fun z hz=>hy z (by simp [hz])) (by simpa using hp) (by
    intro z hz
    rcases List.mem_cons.1 hz with rfl | hz
    ·exact .inl (hci.1 hlt2)
    ·exact hlt z hz)
   refine⟨Z,?_,z2.trans (by simp),z3⟩
   rw [loop_eq]
   have hs:ix (((P++Y)++y::x::(Y2++R)).set ((P.length:Int)+((n+1:Nat):Int)).toNat y) ((P.length:Int)+(n:Int))=some y:=ix_set_ne s1 (by omega)
   simp only [gIns.l_11,e,hw,s1,s2,hcc,Option.bind_some,hlt2,decide_true,if_true,hs]
   rw [if_pos (by simp;omega),s3]
   simp only [List.append_assoc,List.cons_append] at z1⊢
   exact z1
  ·refine⟨Y++ [y]++x::Y2,?_,List.perm_middle,?_⟩
   ·rw [loop_eq]
    simp only [gIns.l_11,e,hw,s1,s2,hcc,Option.bind_some,hlt2,decide_false,Bool.false_eq_true,if_false]
    rw [if_pos (by simp;omega)]
    simp
   ·have hk:ltK key num y x:=ltK.of_not (fun h=>hlt2 (hci.2 h)) hyx
    have hp1:=List.pairwise_append.1 hp
    refine List.pairwise_append.2 ⟨hp1.1,List.pairwise_cons.2 ⟨hlt,hp1.2.1⟩,?_⟩
    intro a ha b hb
    rcases List.mem_cons.1 hb with rfl | hb
    ·rcases List.mem_append.1 ha with ha | ha
     ·have:=(List.pairwise_append.1 hp1.1).2.2 a ha y (by simp)
      exact this.trans hk
     ·simp at ha;subst ha;exact hk
    ·exact hp1.2.2 a ha b hb
theorem ins_outer(hc:CmK cmp D key)(P R:List S):∀(X Z:List S),P.length+Z.length+X.length≤4611686018427387904→(∀y∈Z,D y)→(∀y∈X,D y)→Z.Pairwise (ltK key num)→(∀y∈Z,∀x∈X,num y<num x)→X.Pairwise (fun a b=>num a<num b)→
  ∃Y,loop (gIns.l_5 cmp (P.length:Int) ((P.length+Z.length+X.length:Nat):Int)) (P++Z++X++R,(P.length:Int)+(Z.length:Int))=some (P++Y++R)∧Y.Perm (Z++X)∧Y.Pairwise (ltK key num):=by
 intro X
 induction X with
 | nil=>
  intro Z _ _ _ hp _ _
  refine⟨Z,?_,by simp,hp⟩
  rw [loop_eq];simp [gIns.l_5]
 | cons x X ih=>
  intro Z hb hZ hX hp hzx hpx
  obtain⟨Z2,z1,z2,z3⟩:=ins_inner (num:=num) hc P (X++R) x (hX x (by simp)) (by omega) Z.length Z [] rfl (by simp at hb;omega) (fun y hy=>⟨hZ y hy,hzx y hy x (by simp)⟩) (by simpa using hp) (by simp)
  have hl:Z2.length=Z.length+1:=by rw [z2.length_eq];simp
  have hmem:∀y∈Z2,y=x∨y∈Z:=fun y hy=>by
   have:=z2.mem_iff.1 hy
   simpa using this
  obtain⟨Y,y1,y2,y3⟩:=ih Z2 (by simp at hb;omega) (fun y hy=>by rcases hmem y hy with rfl | h;exact hX _ (by simp);exact hZ y h) (fun y hy=>hX y (by simp [hy])) z3
   (fun y hy a ha=>by
    rcases hmem y hy with rfl | h
    ·exact(List.pairwise_cons.1 hpx).1 a ha
    ·exact hzx y h a (by simp [ha])) (List.pairwise_cons.1 hpx).2
  refine⟨Y,?_,?_,y3⟩
  ·rw [loop_eq]
   have e:P++Z++x::X++R=P++Z++x::([]++(X++R)):=by simp
   have hw:w64 ((P.length:Int)+(Z.length:Int)+1)=(P.length:Int)+(Z2.length:Int):=by rw [hl,w64_in (by omega) (by simp at hb;omega)];omega
   simp only [gIns.l_5,gIns.k_8]
   rw [if_pos (by simp;omega),e,z1]
   simp only [Option.bind_some,hw]
   rw [show P++Z2++(X++R)=P++Z2++X++R by simp]
   rw [show ((P.length+Z.length+(x::X).length:Nat):Int)=((P.length+Z2.length+X.length:Nat):Int) by simp [hl];omega]
   exact y1
  ·refine y2.trans ?_
   refine(z2.append_right X).trans ?_
   simp only [List.append_nil,List.cons_append]
   exact List.perm_middle.symm
theorem ins_is(hc:CmK cmp D key)(P X R:List S)(hb:P.length+X.length≤4611686018427387900)(hX:∀y∈X,D y)(hpx:X.Pairwise (fun a b=>num a<num b)):
  ∃Y,gIns cmp (P++X++R) (P.length:Int) ((P.length+X.length:Nat):Int)=some (P++Y++R)∧Y.Perm X∧Y.Pairwise (ltK key num):=by
 have hw:w64 ((P.length:Int)+1)=(P.length:Int)+1:=w64_in (by omega) (by omega)
 cases X with
 | nil=>
  refine⟨[],?_,by simp,by simp⟩
  unfold gIns
  rw [hw,loop_eq]
  simp only [gIns.l_5]
  rw [if_neg (by simp;omega)]
  simp [gIns.k_2]
 | cons x X=>
  obtain⟨Y,y1,y2,y3⟩:=ins_outer (num:=num) hc P R X [x] (by simp at hb⊢;omega) (fun y hy=>by simp at hy;subst hy;exact hX _ (by simp)) (fun y hy=>hX y (by simp [hy])) (by simp)
   (fun y hy a ha=>by simp at hy;subst hy;exact(List.pairwise_cons.1 hpx).1 a ha) (List.pairwise_cons.1 hpx).2
  refine⟨Y,?_,by simpa using y2,y3⟩
  unfold gIns
  rw [hw,show ((P.length+(x::X).length:Nat):Int)=((P.length+ [x].length+X.length:Nat):Int) by simp;omega]
  have y1:loop (gIns.l_5 cmp (P.length:Int) ((P.length+ [x].length+X.length:Nat):Int)) (P++(x::X)++R,(P.length:Int)+1)=some (P++Y++R):=by simpa using y1
  rw [y1];rfl
end
section
variable {S:Type} {cmp:S→S→Option Int}
theorem swap_loop(n a b:Int):∀(A B P M R:List S) (i:Int),A.length=B.length→0≤i→0≤a→0≤b→n=i+(A.length:Int)→a+i=(P.length:Int)→b+i=((P++A++M).length:Int)→b+n≤4611686018427387904→a≤b→
  loop (gSwap.l_5 cmp a b n) (P++A++M++B++R,i)=some (P++B++M++A++R):=by
 intro A
 induction A with
 | nil=>
  intro B P M R i hl _ _ _ hn _ _ _ _
  obtain rfl:=List.eq_nil_of_length_eq_zero hl.symm
  rw [loop_eq]
  simp only [gSwap.l_5]
  rw [if_neg (by simp [hn])]
 | cons x A ih=>
  intro B P M R i hl hi ha0 hb0 hn ha hb hbd hab
  cases B with
  | nil=>simp at hl
  | cons y B=>
   have hl2:A.length=B.length:=by simpa using hl
   simp only [List.length_append,List.length_cons] at hn hb
   have wa:w64 (a+i)=a+i:=w64_in (by omega) (by omega)
   have wb:w64 (b+i)=b+i:=w64_in (by omega) (by omega)
   have wi:w64 (i+1)=i+1:=w64_in (by omega) (by omega)
   have e1:P++x::A++M++y::B++R=P++x::(A++M++y::B++R):=by simp
   have e2:P++x::A++M++y::B++R=(P++x::A++M)++y::(B++R):=by simp
   have i1:ix (P++x::A++M++y::B++R) (a+i)=some x:=by rw [e1];exact ix_mid (by omega)
   have i2:ix (P++x::A++M++y::B++R) (b+i)=some y:=by rw [e2];exact ix_mid (by simp;omega)
   have s1:(P++x::A++M++y::B++R).set (a+i).toNat y=(P++y::A++M)++y::(B++R):=by rw [e1,set_mid (by omega)];simp
   have i3:ix ((P++x::A++M++y::B++R).set (a+i).toNat y) (b+i)=some y:=by rw [s1];exact ix_mid (by simp;omega)
   have s2:((P++x::A++M++y::B++R).set (a+i).toNat y).set (b+i).toNat x=(P++ [y])++A++(M++ [x])++B++R:=by rw [s1,set_mid (by simp;omega)];simp
   rw [loop_eq]
   simp only [gSwap.l_5,wa,wb,wi,i1,i2,i3,s2,Option.bind_some]
   rw [if_pos (by simp;omega)]
   simp only
   rw [ih B (P++ [y]) (M++ [x]) R (i+1) hl2 (by omega) ha0 hb0 (by omega) (by simp;omega) (by simp;omega) hbd hab]
   simp
theorem swap_is(P A M B R:List S){a b n:Int}(hl:A.length=B.length)(ha:a=(P.length:Int))(hb:b=((P++A++M).length:Int))(hn:n=(A.length:Int))(hbd:b+n≤4611686018427387904):
  gSwap cmp (P++A++M++B++R) a b n=some (P++B++M++A++R):=by
 unfold gSwap
 rw [swap_loop n a b A B P M R 0 hl (by omega) (by omega) (by omega) (by omega) (by omega) (by omega) hbd (by rw [ha,hb];simp;omega)]
 rfl
theorem rot_loop(m:Int):∀(n:Nat) (A B P R:List S),A.length+B.length≤n→A≠ []→B≠ []→m=((P++A).length:Int)→m+(B.length:Int)≤4611686018427387904→
  ((loop (gRot.l_8 cmp m) (P++A++B++R,(A.length:Int),(B.length:Int))).bind fun t=>gRot.k_3 cmp m t.1 t.2)=some (P++B++A++R):=by
 intro n
 induction n with
 | zero=>intro A B P R hn hA;exact absurd (List.eq_nil_of_length_eq_zero (by omega)) hA
 | succ n ih=>
  intro A B P R hn hA hB hm hbd
  have hA1:=List.length_pos_iff.2 hA
  have hB1:=List.length_pos_iff.2 hB
  simp only [List.length_append] at hm
  have w1:w64 (m-(A.length:Int))=(P.length:Int):=by rw [w64_in (by omega) (by omega)];omega
  rw [loop_eq]
  simp only [gRot.l_8,gRot.k_13,w1]
  by_cases he:A.length=B.length
  ·rw [if_neg (by simp [he])]
   simp only [Option.bind_some,gRot.k_3,w1]
   have:=swap_is (cmp:=cmp) P A [] B R (a:=(P.length:Int)) (b:=m) (n:=(A.length:Int)) he rfl (by simp;omega) rfl (by omega)
   simp only [List.append_nil] at this
   rw [this];rfl
  ·rw [if_pos (by simp;omega)]
   by_cases hgt:B.length<A.length
   ·rw [if_pos (by simp;omega)]
    have e:A=A.take B.length++A.drop B.length:=(List.take_append_drop _ _).symm
    have l1:(A.take B.length).length=B.length:=by rw [List.length_take];omega
    have l2:(A.drop B.length).length=A.length-B.length:=List.length_drop
    have s:=swap_is (cmp:=cmp) P (A.take B.length) (A.drop B.length) B R (a:=(P.length:Int)) (b:=m) (n:=(B.length:Int)) l1 rfl (by simp;omega) (by omega) (by omega)
    have e2:P++A.take B.length++A.drop B.length++B++R=P++A++B++R:=by rw [List.append_assoc P,List.take_append_drop]
    rw [e2] at s
    rw [s]
    simp only [Option.bind_some]
    have w2:w64 ((A.length:Int)-(B.length:Int))=((A.drop B.length).length:Int):=by rw [w64_in (by omega) (by omega),l2];omega
    rw [w2]
    have:=ih (A.drop B.length) (A.take B.length) (P++B) R (by omega) (by intro h;rw [h] at l2;simp at l2;omega) (by intro h;rw [h] at l1;simp at l1;omega) (by simp only [List.length_append];omega) (by rw [l1];exact hbd)
    rw [l1] at this
    rw [this,show P++B++A.take B.length++A.drop B.length++R=P++B++A++R by rw [List.append_assoc (P++B),List.take_append_drop]]
   ·rw [if_neg (by simp;omega)]
    have hlt:A.length<B.length:=by omega
    have l1:(B.take (B.length-A.length)).length=B.length-A.length:=by rw [List.length_take];omega
    have l2:(B.drop (B.length-A.length)).length=A.length:=by rw [List.length_drop];omega
    have w2:w64 (w64 (m+(B.length:Int))-(A.length:Int))=m+(B.length:Int)-(A.length:Int):=by rw [w64_in (n:=m+_) (by omega) (by omega),w64_in (by omega) (by omega)]
    have s:=swap_is (cmp:=cmp) P A (B.take (B.length-A.length)) (B.drop (B.length-A.length)) R (a:=(P.length:Int)) (b:=m+(B.length:Int)-(A.length:Int)) (n:=(A.length:Int)) l2.symm rfl (by simp only [List.length_append];omega) rfl (by omega)
    have e2:P++A++B.take (B.length-A.length)++B.drop (B.length-A.length)++R=P++A++B++R:=by rw [List.append_assoc (P++A),List.take_append_drop]
    rw [e2] at s
    rw [w2,s]
    simp only [Option.bind_some]
    have w3:w64 ((B.length:Int)-(A.length:Int))=((B.take (B.length-A.length)).length:Int):=by rw [w64_in (by omega) (by omega),l1];omega
    rw [w3]
    have:=ih (B.drop (B.length-A.length)) (B.take (B.length-A.length)) P (A++R) (by omega) (by intro h;rw [h] at l2;simp at l2;omega) (by intro h;rw [h] at l1;simp at l1;omega) (by simp only [List.length_append];omega) (by omega)
    rw [l2] at this
    rw [show P++B.drop (B.length-A.length)++B.take (B.length-A.length)++A++R=P++B.drop (B.length-A.length)++B.take (B.length-A.length)++(A++R) by simp,this]
    rw [List.append_assoc P,List.take_append_drop]
    simp
theorem rot_is(P A B R:List S){a m b:Int}(hA:A≠ [])(hB:B≠ [])(ha:a=(P.length:Int))(hm:m=((P++A).length:Int))(hb:b=((P++A++B).length:Int))(hbd:b≤4611686018427387904):
  gRot cmp (P++A++B++R) a m b=some (P++B++A++R):=by
 unfold gRot
 simp only [List.length_append] at hm hb
 have w1:w64 (m-a)=(A.length:Int):=by rw [w64_in (by omega) (by omega)];omega
 have w2:w64 (b-m)=(B.length:Int):=by rw [w64_in (by omega) (by omega)];omega
 rw [w1,w2]
 exact rot_loop m (A.length+B.length) A B P R (Nat.le_refl _) hA hB (by simp only [List.length_append];omega) (by omega)
end
theorem half_is{s:Int}(h0:0≤s)(h1:s≤9223372036854775807):w64 (bShr .u64 (u64 (w64 s)) 1)=s/2:=by
 obtain⟨n,rfl⟩:=Int.eq_ofNat_of_zero_le h0
 rw [w64_in (n:=(n:Int)) (by omega) (by omega),u64_in (n:=(n:Int)) (by omega) (by omega)]
 have:=bShr_nat .u64 n 1 (by decide)
 rw [show ((1:Nat):Int)=1 from rfl] at this
 rw [this,Nat.shiftRight_eq_div_pow]
 rw [w64_in (by omega) (by omega)]
 simp
theorem bsearch{f:Int×Int→Option ((Int×Int)⊕Int)}(pf:Int→Bool)(lo hi:Int)
  (hf:∀i j,lo≤i→i<j→j≤hi→f (i,j)=some (.inl (if pf ((i+j)/2) then((i+j)/2+1,j) else(i,(i+j)/2)))) (he:∀i,f (i,i)=some (.inr i)):
  ∀(n:Nat) (i j:Int),lo≤i→i≤j→j≤hi→(j-i).toNat≤n→(i=lo∨pf (i-1)=true)→(j=hi∨pf j=false)→∃k,lo≤k∧k≤hi∧loop f (i,j)=some k∧(k=lo∨pf (k-1)=true)∧(k=hi∨pf k=false):=by
 intro n
 induction n with
 | zero=>
  intro i j h1 h2 h3 hn hi hj
  obtain rfl:i=j:=by omega
  exact⟨i,h1,h3,by rw [loop_eq,he],hi,hj⟩
 | succ n ih=>
  intro i j h1 h2 h3 hn hi hj
  by_cases e:i=j
  ·subst e;exact⟨i,h1,h3,by rw [loop_eq,he],hi,hj⟩
  ·rw [loop_eq,hf i j h1 (by omega) h3]
   cases hp:pf ((i+j)/2) with
   | true=>simp only [if_true];exact ih _ _ (by omega) (by omega) h3 (by omega) (.inr (by rw [Int.add_sub_cancel];exact hp)) hj
   | false=>simp only [Bool.false_eq_true,if_false];exact ih _ _ h1 (by omega) (by omega) (by omega) hi (.inr hp)
theorem ix_in{S:Type}(P X R:List S){c:Int}{k:Nat}(hk:k<X.length)(hc:c=(P.length:Int)+(k:Int)):ix (P++X++R) c=some X[k]:=by
 have e:c=((P.length+k:Nat):Int):=by omega
 rw [e]
 refine ix_get ?_
 rw [List.append_assoc,List.getElem?_append_right (by omega),Nat.add_sub_cancel_left,List.getElem?_append_left hk]
 simp [hk]
section
variable {S:Type} {cmp:S→S→Option Int} {D:S→Prop} {key:S→Int} {num:S→Nat}
theorem split_lt{B:List S}(hp:B.Pairwise (ltK key num))(s:Nat){x:S}(h:∀y,1≤s→B[s-1]?=some y→ltK key num y x)(hs:s≤B.length):∀y∈B.take s,ltK key num y x:=by
 intro y hy
 obtain⟨i,hi,rfl⟩:=List.mem_iff_getElem.1 hy
 have hi1:i<s:=by rw [List.length_take] at hi;omega
 rw [List.getElem_take]
 have hz:B[s-1]?=some B[s-1]:=List.getElem?_eq_getElem _
 have h1:=h _ (by omega) hz
 by_cases e:i=s-1
 ·subst e;exact h1
 ·exact(List.pairwise_iff_getElem.1 hp i (s-1) (by omega) (by omega) (by omega)).trans h1
theorem split_gt{B:List S}(hp:B.Pairwise (ltK key num))(s:Nat){x:S}(h:∀y,B[s]?=some y→ltK key num x y):∀y∈B.drop s,ltK key num x y:=by
 intro y hy
 obtain⟨i,hi,rfl⟩:=List.mem_iff_getElem.1 hy
 have hi1:s+i<B.length:=by rw [List.length_drop] at hi;omega
 rw [List.getElem_drop]
 have hz:B[s]?=some B[s]:=List.getElem?_eq_getElem _
 have h1:=h _ hz
 by_cases e:i=0
 ·subst e;exact h1
 ·exact h1.trans (List.pairwise_iff_getElem.1 hp s (s+i) (by omega) (by omega) (by omega))
theorem mvR(x:S)(i:Int):∀(B P R:List S),i=((P.length+B.length+1:Nat):Int)→i≤4611686018427387904→loop (gSym.l_7 cmp i) (P++x::(B++R),(P.length:Int))=some (P++B++x::R):=by
 intro B
 induction B with
 | nil=>
  intro P R hi hb
  have hw:w64 (i-1)=i-1:=w64_in (by omega) (by omega)
  rw [loop_eq];simp only [gSym.l_7,hw]
  rw [if_neg (by simp at hi;simp;omega)];simp
 | cons y B ih=>
  intro P R hi hb
  simp only [List.length_cons] at hi
  have hw:w64 (i-1)=i-1:=w64_in (by omega) (by omega)
  have hw2:w64 ((P.length:Int)+1)=(P.length:Int)+1:=w64_in (by omega) (by omega)
  obtain⟨s1,s2,s3,s4⟩:=swap_mid (l1:=P) (l2:=B++R) (x:=y) (y:=x) (i:=(P.length:Int)) (j:=(P.length:Int)+1) rfl rfl
  have s5:ix ((P++x::y::(B++R)).set ((P.length:Int)).toNat y) ((P.length:Int)+1)=some y:=ix_set_ne s2 (by omega)
  rw [loop_eq]
  rw [show P++x::(y::B++R)=P++x::y::(B++R) by simp]
  simp only [gSym.l_7,hw,hw2,s1,s2,s5,s4,Option.bind_some]
  rw [if_pos (by simp;omega)]
  have:=ih (P++ [y]) R (by simp;omega) hb
  simp only [List.length_append,List.length_singleton] at this
  rw [show ((P.length+1:Nat):Int)=(P.length:Int)+1 by omega] at this
  simp only
  rw [show P++y::x::(B++R)=P++ [y]++x::(B++R) by simp,this]
  simp
theorem mvL(x:S)(i:Int)(P:List S)(hi:i=(P.length:Int)):∀(n:Nat) (A R:List S),A.length=n→P.length+n≤4611686018427387904→loop (gSym.l_29 cmp i) (P++A++x::R,(P.length:Int)+(n:Int))=some (P++x::(A++R)):=by
 intro n
 induction n with
 | zero=>
  intro A R hA hb
  obtain rfl:=List.eq_nil_of_length_eq_zero hA
  rw [loop_eq];simp [gSym.l_29,hi]
 | succ n ih=>
  intro A R hA hb
  rcases snoc_cases A with rfl | ⟨A,y,rfl⟩
  ·simp at hA
  have hAn:A.length=n:=by simpa using hA
  have hw:w64 ((P.length:Int)+((n+1:Nat):Int)-1)=(P.length:Int)+(n:Int):=by rw [w64_in (by omega) (by omega)];omega
  obtain⟨s1,s2,s3,s4⟩:=swap_mid (l1:=P++A) (l2:=R) (x:=x) (y:=y) (i:=(P.length:Int)+(n:Int)) (j:=(P.length:Int)+((n+1:Nat):Int)) (by simp;omega) (by simp;omega)
  have s5:ix (((P++A)++y::x::R).set ((P.length:Int)+((n+1:Nat):Int)).toNat y) ((P.length:Int)+(n:Int))=some y:=ix_set_ne s1 (by omega)
  rw [loop_eq,show P++(A++ [y])++x::R=(P++A)++y::x::R by simp]
  simp only [gSym.l_29,hw,s1,s2,s5,s3,Option.bind_some]
  rw [if_pos (by simp;omega)]
  simp only
  rw [ih A (y::R) hAn (by omega)]
  simp
end
section
variable {S:Type} {cmp:S→S→Option Int} {D:S→Prop} {key:S→Int} {num:S→Nat}
theorem sym_left(hc:CmK cmp D key)(x:S)(B P R:List S){a m b:Int}(ha:a=(P.length:Int))(hm:m=(P.length:Int)+1)(hb:b=((P.length+1+B.length:Nat):Int))(hbd:b≤4611686018427387904)
  (hx:D x) (hB:∀y∈B,D y) (hp:B.Pairwise (ltK key num)) (hn:∀y∈B,num x<num y):
  ∃Z,((loop (gSym.l_15 cmp (P++ [x]++B++R) a) (m,b)).bind fun t=>gSym.k_2 cmp (P++ [x]++B++R) a t)=some (P++Z++R)∧Z.Perm (x::B)∧Z.Pairwise (ltK key num):=by
 have ix0:ix (P++ [x]++B++R) a=some x:=by
  rw [show P++ [x]++B++R=P++x::(B++R) by simp];exact ix_mid ha.symm
 have ixB:∀(k:Nat) (hk:k<B.length),ix (P++ [x]++B++R) (m+(k:Int))=some B[k]:=fun k hk=>ix_in (P++ [x]) B R hk (by simp;omega)
 let pf:Int→Bool:=fun h=>match B[(h-m).toNat]? with | some y=>decide (key y<key x) | none=>true
 have pfk:∀(k:Nat) (hk:k<B.length),pf (m+(k:Int))=decide (key B[k]<key x):=by
  intro k hk
  simp only [pf,show (m+(k:Int)-m).toNat=k by omega,List.getElem?_eq_getElem hk]
 obtain⟨k,k1,k2,k3,k4,k5⟩:=bsearch (f:=gSym.l_15 cmp (P++ [x]++B++R) a) pf m b (by
  intro i j h1 h2 h3
  have hw:w64 (bShr .u64 (u64 (w64 (i+j))) 1)=(i+j)/2:=half_is (by omega) (by omega)
  obtain⟨q,hq⟩:=Int.eq_ofNat_of_zero_le (show 0≤(i+j)/2-m by omega)
  have hqb:q<B.length:=by omega
  have eh:(i+j)/2=m+(q:Int):=by omega
  obtain⟨c,c1,c2⟩:=hc B[q] x (hB _ (List.getElem_mem hqb)) hx
  have hw2:w64 ((i+j)/2+1)=(i+j)/2+1:=w64_in (by omega) (by omega)
  simp only [gSym.l_15,gSym.k_19,hw,hw2,ix0]
  rw [if_pos (by simpa using h2),eh,ixB q hqb,pfk q hqb]
  simp only [Option.bind_some,c1]
  by_cases hlt:c<0
  ·simp [hlt,c2.1 hlt]
  ·have:¬key B[q]<key x:=fun h=>hlt (c2.2 h)
   simp [hlt,this]) (by intro i;simp [gSym.l_15]) (b-m).toNat m b (by omega) (by omega) (by omega) (by omega) (.inl rfl) (.inl rfl)
 obtain⟨s,hs⟩:=Int.eq_ofNat_of_zero_le (show 0≤k-m by omega)
 have hsl:s≤B.length:=by omega
 have lt1:∀y∈B.take s,ltK key num y x:=split_lt hp s (by
  intro y h1 hy
  have hl:s-1<B.length:=by omega
  rw [List.getElem?_eq_getElem hl] at hy
  cases hy
  rcases k4 with h | h
  ·omega
  ·rw [show k-1=m+((s-1:Nat):Int) by omega,pfk (s-1) hl] at h
   exact .inl (by simpa using h)) hsl
 have lt2:∀y∈B.drop s,ltK key num x y:=split_gt hp s (by
  intro y hy
  have hl:s<B.length:=(List.getElem?_eq_some_iff.1 hy).1
  rw [List.getElem?_eq_getElem hl] at hy
  cases hy
  rcases k5 with h | h
  ·omega
  ·rw [show k=m+(s:Int) by omega,pfk s hl] at h
   exact ltK.of_not (by simpa using h) (hn _ (List.getElem_mem hl)))
 have hsp:=List.take_append_drop s B
 refine⟨B.take s++x::B.drop s,?_,?_,?_⟩
 ·rw [k3]
  simp only [Option.bind_some,gSym.k_2]
  have hl1:(B.take s).length=s:=by rw [List.length_take];omega
  have:=mvR (cmp:=cmp) x k (B.take s) P (B.drop s++R) (by rw [hl1];omega) (by omega)
  rw [show P++x::(B.take s++(B.drop s++R))=P++ [x]++B++R by rw [←List.append_assoc (B.take s),hsp];simp] at this
  rw [ha,this]
  simp [gSym.k_4]
 ·refine List.perm_middle.trans ?_
  rw [hsp]
 ·have hp2:(B.take s++B.drop s).Pairwise (ltK key num):=by rw [hsp];exact hp
  have hp3:=List.pairwise_append.1 hp2
  refine List.pairwise_append.2 ⟨hp3.1,List.pairwise_cons.2 ⟨lt2,hp3.2.1⟩,?_⟩
  intro u hu v hv
  rcases List.mem_cons.1 hv with rfl | hv
  ·exact lt1 u hu
  ·exact hp3.2.2 u hu v hv
theorem sym_right(hc:CmK cmp D key)(x:S)(A P R:List S){a m:Int}(ha:a=(P.length:Int))(hm:m=((P.length+A.length:Nat):Int))(hbd:m≤4611686018427387904)
  (hx:D x) (hA:∀y∈A,D y) (hp:A.Pairwise (ltK key num)) (hn:∀y∈A,num y<num x):
  ∃Z,((loop (gSym.l_37 cmp (P++A++ [x]++R) m) (a,m)).bind fun t=>gSym.k_24 cmp (P++A++ [x]++R) m t)=some (P++Z++R)∧Z.Perm (A++ [x])∧Z.Pairwise (ltK key num):=by
 have ix0:ix (P++A++ [x]++R) m=some x:=by
  rw [show P++A++ [x]++R=(P++A)++x::R by simp];exact ix_mid (by simp;omega)
 have ixA:∀(k:Nat) (hk:k<A.length),ix (P++A++ [x]++R) (a+(k:Int))=some A[k]:=fun k hk=>by
  rw [List.append_assoc (P++A)];exact ix_in P A ([x]++R) hk (by omega)
 let pf:Int→Bool:=fun h=>match A[(h-a).toNat]? with | some y=> !(decide (key x<key y)) | none=>true
 have pfk:∀(k:Nat) (hk:k<A.length),pf (a+(k:Int))= !(decide (key x<key A[k])):=by
  intro k hk
  simp only [pf,show (a+(k:Int)-a).toNat=k by omega,List.getElem?_eq_getElem hk]
 obtain⟨k,k1,k2,k3,k4,k5⟩:=bsearch (f:=gSym.l_37 cmp (P++A++ [x]++R) m) pf a m (by
  intro i j h1 h2 h3
  have hw:w64 (bShr .u64 (u64 (w64 (i+j))) 1)=(i+j)/2:=half_is (by omega) (by omega)
  obtain⟨q,hq⟩:=Int.eq_ofNat_of_zero_le (show 0≤(i+j)/2-a by omega)
  have hqb:q<A.length:=by omega
  have eh:(i+j)/2=a+(q:Int):=by omega
  obtain⟨c,c1,c2⟩:=hc x A[q] hx (hA _ (List.getElem_mem hqb))
  have hw2:w64 ((i+j)/2+1)=(i+j)/2+1:=w64_in (by omega) (by omega)
  simp only [gSym.l_37,gSym.k_41,hw,hw2,ix0]
  rw [if_pos (by simpa using h2),eh,ixA q hqb,pfk q hqb]
  simp only [Option.bind_some,c1]
  by_cases hlt:c<0
  ·simp [hlt,c2.1 hlt]
  ·have:¬key x<key A[q]:=fun h=>hlt (c2.2 h)
   simp [hlt,this]) (by intro i;simp [gSym.l_37]) (m-a).toNat a m (by omega) (by omega) (by omega) (by omega) (.inl rfl) (.inl rfl)
 obtain⟨s,hs⟩:=Int.eq_ofNat_of_zero_le (show 0≤k-a by omega)
 have hsl:s≤A.length:=by omega
 have lt1:∀y∈A.take s,ltK key num y x:=split_lt hp s (by
  intro y h1 hy
  have hl:s-1<A.length:=by omega
  rw [List.getElem?_eq_getElem hl] at hy
  cases hy
  rcases k4 with h | h
  ·omega
  ·rw [show k-1=a+((s-1:Nat):Int) by omega,pfk (s-1) hl] at h
   exact ltK.of_not (by simpa using h) (hn _ (List.getElem_mem hl))) hsl
 have lt2:∀y∈A.drop s,ltK key num x y:=split_gt hp s (by
  intro y hy
  have hl:s<A.length:=(List.getElem?_eq_some_iff.1 hy).1
  rw [List.getElem?_eq_getElem hl] at hy
  cases hy
  rcases k5 with h | h
  ·omega
  ·rw [show k=a+(s:Int) by omega,pfk s hl] at h
   exact .inl (by simpa using h))
 have hsp:=List.take_append_drop s A
 refine⟨A.take s++x::A.drop s,?_,?_,?_⟩
 ·rw [k3]
  simp only [Option.bind_some,gSym.k_24]
  have hl1:(A.take s).length=s:=by rw [List.length_take];omega
  have hl2:(A.drop s).length=A.length-s:=List.length_drop
  have:=mvL (cmp:=cmp) x k (P++A.take s) (by simp only [List.length_append,hl1];omega) (A.length-s) (A.drop s) R hl2 (by simp only [List.length_append,hl1];omega)
  rw [show P++A.take s++A.drop s++x::R=P++A++ [x]++R by rw [List.append_assoc P,hsp];simp,show (((P++A.take s).length:Nat):Int)+((A.length-s:Nat):Int)=m by simp only [List.length_append,hl1];omega] at this
  rw [this]
  simp [gSym.k_26]
 ·refine List.perm_middle.trans ?_
  rw [hsp]
  exact(List.perm_append_comm (l₁:= [x]) (l₂:=A))
 ·have hp2:(A.take s++A.drop s).Pairwise (ltK key num):=by rw [hsp];exact hp
  have hp3:=List.pairwise_append.1 hp2
  refine List.pairwise_append.2 ⟨hp3.1,List.pairwise_cons.2 ⟨lt2,hp3.2.1⟩,?_⟩
  intro u hu v hv
  rcases List.mem_cons.1 hv with rfl | hv
  ·exact lt1 u hu
  ·exact hp3.2.2 u hu v hv
end
section
variable {S:Type} {cmp:S→S→Option Int} {D:S→Prop} {key:S→Int} {num:S→Nat}
theorem sym_cut(hc:CmK cmp D key)(A B P R:List S){a m b mid lo hi:Int}(ha:a=(P.length:Int))(hm:m=((P.length+A.length:Nat):Int))(hb:b=((P.length+A.length+B.length:Nat):Int))(hbd:b≤2305843009213693952)
  (hmid:mid=(a+b)/2) (hA:∀y∈A,D y) (hB:∀y∈B,D y) (hpA:A.Pairwise (ltK key num)) (hpB:B.Pairwise (ltK key num)) (hn:∀x∈A,∀y∈B,num x<num y)
  (hlh:(m≤mid∧lo=a∧hi=m)∨(mid<m∧lo=mid+m-b∧hi=mid)) (hA0:1≤A.length) (hB0:1≤B.length):
  ∃s e:Nat,s≤A.length∧e≤B.length∧a+(s:Int)+(e:Int)=mid∧loop (gSym.l_59 cmp (P++A++B++R) a m b) (lo,hi)=some (a+(s:Int))∧
   (∀x∈A.take s,∀y∈B.drop e,ltK key num x y)∧(∀x∈B.take e,∀y∈A.drop s,ltK key num x y):=by
 have ixA:∀(k:Nat) (hk:k<A.length),ix (P++A++B++R) (a+(k:Int))=some A[k]:=fun k hk=>by
  rw [List.append_assoc (P++A)];exact ix_in P A (B++R) hk (by omega)
 have ixB:∀(k:Nat) (hk:k<B.length),ix (P++A++B++R) (m+(k:Int))=some B[k]:=fun k hk=>ix_in (P++A) B R hk (by simp only [List.length_append];omega)
 have w0:w64 (bShr .u64 (u64 (w64 (a+b))) 1)=mid:=by rw [half_is (by omega) (by omega)];omega
 have w1:w64 (w64 (mid+m)-1)=mid+m-1:=by rw [w64_in (n:=mid+m) (by omega) (by omega),w64_in (by omega) (by omega)]
 have two:∀c:Int,lo≤c→c<hi→∃(q r:Nat) (hq:q<A.length) (hr:r<B.length),c=a+(q:Int)∧mid+m-1-c=m+(r:Int):=by
  intro c h1 h2
  obtain⟨q,hq⟩:=Int.eq_ofNat_of_zero_le (show 0≤c-a by omega)
  obtain⟨r,hr⟩:=Int.eq_ofNat_of_zero_le (show 0≤mid-1-c by omega)
  exact⟨q,r,by omega,by omega,by omega,by omega⟩
 let pf:Int→Bool:=fun c=>match A[(c-a).toNat]?,B[(mid-1-c).toNat]? with | some x,some y=> !(decide (key y<key x)) | _,_=>true
 have pfk:∀(q r:Nat) (hq:q<A.length) (hr:r<B.length),a+(q:Int)+(r:Int)+1=mid→pf (a+(q:Int))= !(decide (key B[r]<key A[q])):=by
  intro q r hq hr he
  simp only [pf,show (a+(q:Int)-a).toNat=q by omega,show (mid-1-(a+(q:Int))).toNat=r by omega,List.getElem?_eq_getElem hq,List.getElem?_eq_getElem hr]
 obtain⟨k,k1,k2,k3,k4,k5⟩:=bsearch (f:=gSym.l_59 cmp (P++A++B++R) a m b) pf lo hi (by
  intro i j h1 h2 h3
  have hw:w64 (bShr .u64 (u64 (w64 (i+j))) 1)=(i+j)/2:=half_is (by omega) (by omega)
  obtain⟨q,r,hq,hr,e1,e2⟩:=two ((i+j)/2) (by omega) (by omega)
  obtain⟨c,c1,c2⟩:=hc B[r] A[q] (hB _ (List.getElem_mem hr)) (hA _ (List.getElem_mem hq))
  have hw2:w64 ((i+j)/2+1)=(i+j)/2+1:=w64_in (by omega) (by omega)
  have hw3:w64 (mid+m-1-(i+j)/2)=m+(r:Int):=by rw [w64_in (by omega) (by omega)];exact e2
  simp only [gSym.l_59,gSym.k_63,hw,hw2,w0,w1,hw3]
  rw [if_pos (by simpa using h2),e1,ixB r hr,ixA q hq,pfk q r hq hr (by omega)]
  simp only [Option.bind_some,c1]
  by_cases hlt:c<0
  ·simp [hlt,c2.1 hlt]
  ·have:¬key B[r]<key A[q]:=fun h=>hlt (c2.2 h)
   simp [hlt,this]) (by intro i;simp [gSym.l_59]) (hi-lo).toNat lo hi (by omega) (by omega) (by omega) (by omega) (.inl rfl) (.inl rfl)
 obtain⟨s,hs⟩:=Int.eq_ofNat_of_zero_le (show 0≤k-a by omega)
 obtain⟨e,he⟩:=Int.eq_ofNat_of_zero_le (show 0≤mid-k by omega)
 refine⟨s,e,by omega,by omega,by omega,by rw [k3];congr 1;omega,?_,?_⟩
 · -- left of the cut in A, right of it in B
  intro x hx
  refine split_gt hpB e ?_
  intro y hy
  have hl:e<B.length:=(List.getElem?_eq_some_iff.1 hy).1
  rw [List.getElem?_eq_getElem hl] at hy
  cases hy
  refine split_lt hpA s ?_ (by omega) x hx
  intro z h1 hz
  have hl2:s-1<A.length:=by omega
  rw [List.getElem?_eq_getElem hl2] at hz
  cases hz
  rcases k4 with h | h
  ·omega
  ·rw [show k-1=a+((s-1:Nat):Int) by omega,pfk (s-1) e hl2 hl (by omega)] at h
   exact ltK.of_not (by simpa using h) (hn _ (List.getElem_mem hl2) _ (List.getElem_mem hl))
 ·intro x hx
  refine split_gt hpA s ?_
  intro y hy
  have hl:s<A.length:=(List.getElem?_eq_some_iff.1 hy).1
  rw [List.getElem?_eq_getElem hl] at hy
  cases hy
  refine split_lt hpB e ?_ (by omega) x hx
  intro z h1 hz
  have hl2:e-1<B.length:=by omega
  rw [List.getElem?_eq_getElem hl2] at hz
  cases hz
  rcases k5 with h | h
  ·omega
  ·rw [show k=a+(s:Int) by omega,pfk s (e-1) hl hl2 (by omega)] at h
   exact .inl (by simpa using h)
theorem sym_is(hc:CmK cmp D key):∀(fu:Nat) (A B P R:List S) (a m b:Int),1≤A.length→1≤B.length→A.length+B.length≤2^fu→a=(P.length:Int)→m=((P.length+A.length:Nat):Int)→b=((P.length+A.length+B.length:Nat):Int)→b≤2305843009213693952→
  (∀y∈A,D y)→(∀y∈B,D y)→A.Pairwise (ltK key num)→B.Pairwise (ltK key num)→(∀x∈A,∀y∈B,num x<num y)→
  ∃Z,gSym.rec_ cmp fu (P++A++B++R) a m b=some (P++Z++R)∧Z.Perm (A++B)∧Z.Pairwise (ltK key num):=by
 intro fu
 induction fu with
 | zero=>intro A B P R a m b h1 h2 h3;simp at h3;omega
 | succ fu ih=>
  intro A B P R a m b hA0 hB0 hsz ha hm hb hbd hA hB hpA hpB hn
  rw [Nat.pow_succ] at hsz
  have w1:w64 (m-a)=(A.length:Int):=by rw [w64_in (by omega) (by omega)];omega
  have w2:w64 (b-m)=(B.length:Int):=by rw [w64_in (by omega) (by omega)];omega
  have w0:w64 (bShr .u64 (u64 (w64 (a+b))) 1)=(a+b)/2:=half_is (by omega) (by omega)
  simp only [gSym.rec_,gSym.step,w1,w2,w0]
  by_cases e1:A.length=1
  ·obtain⟨x,rfl⟩:=List.length_eq_one_iff.1 e1
   rw [if_pos (by simp)]
   obtain⟨Z,z1,z2,z3⟩:=sym_left (num:=num) hc x B P R ha (by simp at hm;omega) (by simp at hb;omega) (by omega) (hA x (by simp)) hB hpB (fun y hy=>hn x (by simp) y hy)
   exact⟨Z,z1,by simpa using z2,z3⟩
  ·rw [if_neg (by simp;omega)]
   by_cases e2:B.length=1
   ·obtain⟨x,rfl⟩:=List.length_eq_one_iff.1 e2
    rw [if_pos (by simp)]
    exact sym_right (num:=num) hc x A P R ha hm (by omega) (hB x (by simp)) hA hpA (fun y hy=>hn y hy x (by simp))
   ·rw [if_neg (by simp;omega)]
    obtain⟨mid,hmid⟩:∃mid,mid=(a+b)/2:=⟨_,rfl⟩
    rw [←hmid]
    have tail:∀s e:Nat,s≤A.length→e≤B.length→a+(s:Int)+(e:Int)=mid→(∀x∈A.take s,∀y∈B.drop e,ltK key num x y)→(∀x∈B.take e,∀y∈A.drop s,ltK key num x y)→
      ∃Z,gSym.k_49 cmp (gSym.rec_ cmp fu) (P++A++B++R) a m b (a+(s:Int))=some (P++Z++R)∧Z.Perm (A++B)∧Z.Pairwise (ltK key num):=by
     intro s e hs he hse l1 l2
     obtain⟨A1,hA1⟩:∃A1,A1=A.take s:=⟨_,rfl⟩
     obtain⟨A2,hA2⟩:∃A2,A2=A.drop s:=⟨_,rfl⟩
     obtain⟨C,hC⟩:∃C,C=B.take e:=⟨_,rfl⟩
     obtain⟨E,hE⟩:∃E,E=B.drop e:=⟨_,rfl⟩
     have hAe:A=A1++A2:=by rw [hA1,hA2,List.take_append_drop]
     have hBe:B=C++E:=by rw [hC,hE,List.take_append_drop]
     have nA1:A1.length=s:=by rw [hA1,List.length_take];omega
     have nC:C.length=e:=by rw [hC,List.length_take];omega
     have nA2:A2.length=A.length-s:=by rw [hA2];exact List.length_drop
     have nE:E.length=B.length-e:=by rw [hE];exact List.length_drop
     rw [←hA1,←hE] at l1
     rw [←hC,←hA2] at l2
     clear hA1 hA2 hC hE
     subst hAe hBe
     have pA:=List.pairwise_append.1 hpA
     have pB:=List.pairwise_append.1 hpB
     have w3:w64 (w64 (mid+m)-(a+(s:Int)))=m+(e:Int):=by rw [w64_in (n:=mid+m) (by omega) (by omega),w64_in (by omega) (by omega)];omega
     obtain⟨Z1,y1,y2,y3⟩:∃Z1,(if(decide (a<a+(s:Int))&&decide (a+(s:Int)<mid))=true then gSym.rec_ cmp fu (P++A1++C++(A2++E++R)) a (a+(s:Int)) mid else some (P++A1++C++(A2++E++R)))=some (P++Z1++(A2++E++R))∧Z1.Perm (A1++C)∧Z1.Pairwise (ltK key num):=by
      by_cases hcond:1≤s∧1≤e
      ·rw [if_pos (by simp;omega)]
       exact ih A1 C P (A2++E++R) a (a+(s:Int)) mid (by omega) (by omega) (by simp only [List.length_append] at*;omega) ha (by omega) (by omega) (by omega) (fun y hy=>hA y (by simp [hy])) (fun y hy=>hB y (by simp [hy])) pA.1 pB.1
        (fun x hx y hy=>hn x (by simp [hx]) y (by simp [hy]))
      ·rw [if_neg (by simp;omega)]
       refine⟨A1++C,by simp,List.Perm.refl _,?_⟩
       rcases Nat.eq_zero_or_pos s with h | h
       ·rw [List.eq_nil_of_length_eq_zero (by omega:A1.length=0)];simpa using pB.1
       ·rw [List.eq_nil_of_length_eq_zero (by omega:C.length=0)];simpa using pA.1
     have nZ1:Z1.length=s+e:=by rw [y2.length_eq,List.length_append];omega
     obtain⟨Z2,x1,x2,x3⟩:∃Z2,(if(decide (mid<m+(e:Int))&&decide (m+(e:Int)<b))=true then gSym.rec_ cmp fu (P++Z1++(A2++E++R)) mid (m+(e:Int)) b else some (P++Z1++(A2++E++R)))=some (P++(Z1++Z2)++R)∧Z2.Perm (A2++E)∧Z2.Pairwise (ltK key num):=by
      simp only [List.length_append] at hm hb hs he
      by_cases hcond:1≤A2.length∧1≤E.length
      ·rw [if_pos (by simp;omega)]
       obtain⟨Z2,q1,q2,q3⟩:=ih A2 E (P++Z1) R mid (m+(e:Int)) b (by omega) (by omega) (by simp only [List.length_append] at*;omega) (by simp only [List.length_append];omega) (by simp only [List.length_append];omega) (by simp only [List.length_append];omega) hbd (fun y hy=>hA y (by simp [hy])) (fun y hy=>hB y (by simp [hy])) pA.2.1 pB.2.1
        (fun x hx y hy=>hn x (by simp [hx]) y (by simp [hy]))
       refine⟨Z2,?_,q2,q3⟩
       rw [show P++Z1++(A2++E++R)=P++Z1++A2++E++R by simp,q1];simp
      ·rw [if_neg (by simp;omega)]
       refine⟨A2++E,by simp,List.Perm.refl _,?_⟩
       rcases Nat.eq_zero_or_pos A2.length with h | h
       ·rw [List.eq_nil_of_length_eq_zero h];simpa using pB.2.1
       ·rw [List.eq_nil_of_length_eq_zero (by omega:E.length=0)];simpa using pA.2.1
     have hmid0:w64 (bShr .u64 (u64 (w64 (a+b))) 1)=mid:=by rw [w0];exact hmid.symm
     have k51:gSym.k_51 cmp (gSym.rec_ cmp fu) a m b (a+(s:Int)) (P++A1++C++(A2++E++R))=some (P++(Z1++Z2)++R):=by
      simp only [gSym.k_51,gSym.k_53,hmid0,w3]
      have x1':(if(decide (mid<m+(e:Int))&&decide (m+(e:Int)<b))=true then(gSym.rec_ cmp fu (P++Z1++(A2++E++R)) mid (m+(e:Int)) b).bind fun t_54=>some t_54 else some (P++Z1++(A2++E++R)))=some (P++(Z1++Z2)++R):=by
       rw [←x1];split<;>simp
      by_cases hcond:(decide (a<a+(s:Int))&&decide (a+(s:Int)<mid))=true
      ·rw [if_pos hcond] at y1⊢
       rw [y1];simp only [Option.bind_some];exact x1'
      ·rw [if_neg hcond] at y1⊢
       rw [Option.some.inj y1];exact x1'
     refine⟨Z1++Z2,?_,?_,?_⟩
     ·simp only [gSym.k_49,hmid0,w3]
      simp only [List.length_append] at hm hb hs he
      by_cases hcond:1≤A2.length∧1≤e
      ·rw [if_pos (by simp;omega)]
       have:=rot_is (cmp:=cmp) (P++A1) A2 C (E++R) (a:=a+(s:Int)) (m:=m) (b:=m+(e:Int)) (by intro h;rw [h] at hcond;simp at hcond) (by intro h;rw [h] at nC;simp at nC;omega) (by simp only [List.length_append];omega) (by simp only [List.length_append];omega) (by simp only [List.length_append];omega) (by omega)
       rw [show P++(A1++A2)++(C++E)++R=P++A1++A2++C++(E++R) by simp,this]
       simp only [Option.bind_some]
       rw [show P++A1++C++A2++(E++R)=P++A1++C++(A2++E++R) by simp]
       exact k51
      ·rw [if_neg (by simp;omega)]
       have:P++(A1++A2)++(C++E)++R=P++A1++C++(A2++E++R):=by
        rcases Nat.eq_zero_or_pos A2.length with h | h
        ·rw [List.eq_nil_of_length_eq_zero h];simp
        ·rw [List.eq_nil_of_length_eq_zero (by omega:C.length=0)];simp
       rw [this];exact k51
     ·refine(y2.append x2).trans ?_
      rw [List.append_assoc,List.append_assoc,←List.append_assoc C,←List.append_assoc A2]
      exact((List.perm_append_comm (l₁:=C) (l₂:=A2)).append_right E).append_left A1
     ·refine List.pairwise_append.2 ⟨y3,x3,?_⟩
      intro u hu v hv
      rcases List.mem_append.1 (y2.mem_iff.1 hu) with hu | hu<;>rcases List.mem_append.1 (x2.mem_iff.1 hv) with hv | hv
      ·exact pA.2.2 u hu v hv
      ·exact l1 u hu v hv
      ·exact l2 u hu v hv
      ·exact pB.2.2 u hu v hv
    by_cases hgt:mid<m
    ·rw [if_pos (by simpa using hgt)]
     have w5:w64 (w64 (mid+m)-b)=mid+m-b:=by rw [w64_in (n:=mid+m) (by omega) (by omega),w64_in (by omega) (by omega)]
     rw [w5]
     obtain⟨s,e,q1,q2,q3,q4,q5,q6⟩:=sym_cut (num:=num) hc A B P R ha hm hb hbd hmid hA hB hpA hpB hn (.inr ⟨hgt,rfl,rfl⟩) hA0 hB0
     simp only [gSym.k_47,q4,Option.bind_some]
     exact tail s e q1 q2 q3 q5 q6
    ·rw [if_neg (by simpa using hgt)]
     obtain⟨s,e,q1,q2,q3,q4,q5,q6⟩:=sym_cut (num:=num) hc A B P R ha hm hb hbd hmid hA hB hpA hpB hn (.inl ⟨by omega,rfl,rfl⟩) hA0 hB0
     simp only [gSym.k_47,q4,Option.bind_some]
     exact tail s e q1 q2 q3 q5 q6
end
section
variable {S:Type} {cmp:S→S→Option Int} {D:S→Prop} {key:S→Int} {num:S→Nat}
inductive BlkS (key:S→Int) (num:S→Nat) (bs:Nat):List (List S)→List S→Prop
 | nil:BlkS key num bs [] []
 | part {Z X:List S}:1≤Z.length→Z.length<bs→Z.Perm X→Z.Pairwise (ltK key num)→BlkS key num bs [Z] X
 | full {Z X:List S} {Zs:List (List S)} {Xr:List S}:Z.length=bs→Z.Perm X→Z.Pairwise (ltK key num)→BlkS key num bs Zs Xr→BlkS key num bs (Z::Zs) (X++Xr)
theorem BlkS.perm{bs:Nat}{Zs:List (List S)}{X:List S}(h:BlkS key num bs Zs X):Zs.flatten.Perm X:=by
 induction h with
 | nil=>simp
 | part _ _ hp _=>simpa using hp
 | full _ hp _ _ ih=>simpa using hp.append ih
theorem blk_ins(hc:CmK cmp D key)(n:Int):∀(k:Nat) (X P:List S),X.length≤k→n=((P.length+X.length:Nat):Int)→P.length+X.length≤288230376151711744→(∀y∈X,D y)→X.Pairwise (fun a b=>num a<num b)→
  ∃Zs,BlkS key num 20 Zs X∧((loop (gStab.l_27 cmp n) (P++X,(P.length:Int),(P.length:Int)+20)).bind fun t=>gIns cmp t.1 t.2.1 n)=some (P++Zs.flatten):=by
 intro k
 induction k with
 | zero=>
  intro X P hk hn hbd hD hp
  obtain rfl:=List.eq_nil_of_length_eq_zero (Nat.le_zero.1 hk)
  obtain⟨Y,y1,y2,_⟩:=ins_is (num:=num) hc P [] [] (by omega) (by simp) (by simp)
  refine⟨[], .nil,?_⟩
  rw [loop_eq]
  simp only [gStab.l_27]
  rw [if_neg (by simp [hn];omega)]
  have:Y= []:=by simpa using y2
  subst this
  rw [hn];simpa using y1
 | succ k ih=>
  intro X P hk hn hbd hD hp
  rw [loop_eq]
  simp only [gStab.l_27]
  by_cases h20:20≤X.length
  ·rw [if_pos (by simp;omega)]
   have hsp:=List.take_append_drop 20 X
   have l1:(X.take 20).length=20:=by rw [List.length_take];omega
   have l2:(X.drop 20).length=X.length-20:=List.length_drop
   have hp2:=List.pairwise_append.1 (by rw [hsp];exact hp:(X.take 20++X.drop 20).Pairwise _)
   obtain⟨Y,y1,y2,y3⟩:=ins_is (num:=num) hc P (X.take 20) (X.drop 20) (by rw [l1];omega) (fun y hy=>hD y (List.mem_of_mem_take hy)) hp2.1
   rw [List.append_assoc P,hsp,l1,show ((P.length+20:Nat):Int)=(P.length:Int)+20 by omega] at y1
   rw [y1]
   have nY:Y.length=20:=by rw [y2.length_eq,l1]
   have w1:w64 ((P.length:Int)+20+20)=((P++Y).length:Int)+20:=by rw [w64_in (by omega) (by omega),List.length_append,nY];omega
   simp only [Option.bind_some,w1]
   obtain⟨Zs,z1,z2⟩:=ih (X.drop 20) (P++Y) (by omega) (by rw [List.length_append,nY,l2];omega) (by rw [List.length_append,nY,l2];omega) (fun y hy=>hD y (List.mem_of_mem_drop hy)) hp2.2.1
   refine⟨Y::Zs,by rw [←hsp];exact .full nY y2 y3 z1,?_⟩
   rw [show ((P++Y).length:Int)=(P.length:Int)+20 by rw [List.length_append,nY];omega] at z2⊢
   rw [z2];simp
  ·rw [if_neg (by simp;omega)]
   obtain⟨Y,y1,y2,y3⟩:=ins_is (num:=num) hc P X [] (by omega) hD hp
   simp only [List.append_nil] at y1
   simp only [Option.bind_some]
   rw [hn,y1]
   cases X with
   | nil=>
    have:Y= []:=by simpa using y2
    subst this
    exact⟨[], .nil,by simp⟩
   | cons x X=>exact⟨[Y], .part (by rw [y2.length_eq];simp) (by rw [y2.length_eq];omega) y2 y3,by simp⟩
theorem num_apart{X Xr Z:List S}(hp:(X++Xr).Pairwise (fun a b=>num a<num b)){Z2 X2 Xr2:List S}(h2:Xr=X2++Xr2)(hz:Z.Perm X)(hz2:Z2.Perm X2):∀x∈Z,∀y∈Z2,num x<num y:=by
 intro x hx y hy
 subst h2
 exact(List.pairwise_append.1 hp).2.2 x (hz.mem_iff.1 hx) y (by simp [hz2.mem_iff.1 hy])
theorem two200{n:Nat}(h:n≤2305843009213693952):n≤2^200:=Nat.le_trans h (by decide)
theorem blk_pass(hc:CmK cmp D key)(n:Int)(bs:Nat)(hbs:1≤bs)(hbs2:bs≤288230376151711744):∀(k:Nat) (Zs:List (List S)) (X P:List S),Zs.length≤k→BlkS key num bs Zs X→n=((P.length+X.length:Nat):Int)→P.length+X.length≤288230376151711744→(∀y∈X,D y)→X.Pairwise (fun a b=>num a<num b)→
  ∃Zs',BlkS key num (bs*2) Zs' X∧((loop (gStab.l_21 cmp n (bs:Int)) (P++Zs.flatten,(P.length:Int),(P.length:Int)+2*(bs:Int))).bind fun t=>gStab.k_16 cmp n (bs:Int) t.1 t.2)=some (.inl (P++Zs'.flatten,((bs*2:Nat):Int))):=by
 have wb:w64 ((bs:Int)*2)=((bs*2:Nat):Int):=by rw [w64_in (by omega) (by omega)];omega
 have w2:w64 (2*(bs:Int))=2*(bs:Int):=w64_in (by omega) (by omega)
 intro k
 induction k with
 | zero=>
  intro Zs X P hk hB hn hbd hD hp
  obtain rfl:=List.eq_nil_of_length_eq_zero (Nat.le_zero.1 hk)
  cases hB
  refine⟨[], .nil,?_⟩
  rw [loop_eq];simp only [gStab.l_21]
  rw [if_neg (by simp at hn;simp;omega)]
  have w1:w64 ((P.length:Int)+(bs:Int))=(P.length:Int)+(bs:Int):=w64_in (by omega) (by omega)
  simp only [Option.bind_some,gStab.k_16,gStab.k_13,w1,wb]
  rw [if_neg (by simp at hn;simp;omega)]
 | succ k ih=>
  intro Zs X P hk hB hn hbd hD hp
  have w1:w64 ((P.length:Int)+(bs:Int))=(P.length:Int)+(bs:Int):=w64_in (by omega) (by omega)
  cases hB with
  | nil=>
   refine⟨[], .nil,?_⟩
   rw [loop_eq];simp only [gStab.l_21]
   rw [if_neg (by simp at hn;simp;omega)]
   simp only [Option.bind_some,gStab.k_16,gStab.k_13,w1,wb]
   rw [if_neg (by simp at hn;simp;omega)]
  | @part Z _ h1 h2 h3 h4=>
   refine⟨[Z], .part h1 (by omega) h3 h4,?_⟩
   have hl:=h3.length_eq
   rw [loop_eq];simp only [gStab.l_21]
   rw [if_neg (by simp;omega)]
   simp only [Option.bind_some,gStab.k_16,gStab.k_13,w1,wb]
   rw [if_neg (by simp;omega)]
  | @full Z X1 Zs Xr h1 h2 h3 h4=>
   have hl:=h2.length_eq
   simp only [List.length_append] at hn hbd
   have hp2:=List.pairwise_append.1 hp
   cases h4 with
   | nil=>
    refine⟨[Z], .part (by omega) (by omega) (by simpa using h2) h3,?_⟩
    rw [loop_eq];simp only [gStab.l_21]
    rw [if_neg (by simp at hn;simp;omega)]
    simp only [Option.bind_some,gStab.k_16,gStab.k_13,w1,wb]
    rw [if_neg (by simp at hn;simp;omega)]
   | @part Z2 _ g1 g2 g3 g4=>
    have hl2:=g3.length_eq
    obtain⟨Y,y1,y2,y3⟩:=sym_is (num:=num) hc 200 Z Z2 P [] (P.length:Int) ((P.length:Int)+(bs:Int)) n (by omega) g1 (two200 (by omega)) rfl (by omega) (by omega) (by omega) (fun y hy=>hD y (by simp [h2.mem_iff.1 hy])) (fun y hy=>hD y (by simp [g3.mem_iff.1 hy])) h3 g4 (num_apart hp (Xr2:= []) (by simp) h2 g3)
    refine⟨[Y], .part (by rw [y2.length_eq];simp;omega) (by rw [y2.length_eq,List.length_append];omega) (y2.trans (h2.append g3)) y3,?_⟩
    rw [loop_eq];simp only [gStab.l_21]
    rw [if_neg (by simp;omega)]
    simp only [Option.bind_some,gStab.k_16,gStab.k_13,w1,wb,gSym]
    rw [if_pos (by simp;omega)]
    simp only [List.append_nil] at y1
    rw [show P++ [Z,Z2].flatten=P++Z++Z2 by simp,y1]
    simp
   | @full Z2 X2 Zs2 Xr2 g1 g2 g3 g4=>
    have hl2:=g2.length_eq
    simp only [List.length_append] at hn hbd
    obtain⟨Y,y1,y2,y3⟩:=sym_is (num:=num) hc 200 Z Z2 P Zs2.flatten (P.length:Int) ((P.length:Int)+(bs:Int)) ((P.length:Int)+2*(bs:Int)) (by omega) (by omega) (two200 (by omega)) rfl (by omega) (by omega) (by omega) (fun y hy=>hD y (by simp [h2.mem_iff.1 hy])) (fun y hy=>hD y (by simp [g2.mem_iff.1 hy])) h3 g3 (num_apart hp rfl h2 g2)
    have nY:Y.length=bs*2:=by rw [y2.length_eq,List.length_append];omega
    obtain⟨Zs',z1,z2⟩:=ih Zs2 Xr2 (P++Y) (by simp at hk;omega) g4 (by rw [List.length_append,nY];omega) (by rw [List.length_append,nY];omega) (fun y hy=>hD y (by simp [hy])) (List.pairwise_append.1 hp2.2.1).2.1
    refine⟨Y::Zs',by rw [←List.append_assoc];exact .full nY (y2.trans (h2.append g2)) y3 z1,?_⟩
    rw [loop_eq];simp only [gStab.l_21]
    rw [if_pos (by simp;omega)]
    have w3:w64 ((P.length:Int)+2*(bs:Int)+2*(bs:Int))=((P++Y).length:Int)+2*(bs:Int):=by rw [w64_in (by omega) (by omega),List.length_append,nY];omega
    simp only [w1,w2,w3,gSym]
    rw [show P++(Z::Z2::Zs2).flatten=P++Z++Z2++Zs2.flatten by simp,y1]
    simp only [Option.bind_some]
    rw [show (P.length:Int)+2*(bs:Int)=((P++Y).length:Int) by rw [List.length_append,nY];omega]
    rw [z2];simp
theorem blk_all(hc:CmK cmp D key)(n:Int)(X:List S)(hn:n=(X.length:Int))(hbd:X.length≤144115188075855872)(hD:∀y∈X,D y)(hp:X.Pairwise (fun a b=>num a<num b)):∀(k bs:Nat) (Zs:List (List S)),X.length-bs≤k→1≤bs→bs≤288230376151711744→BlkS key num bs Zs X→
  ∃Y,loop (gStab.l_10 cmp n) (Zs.flatten,(bs:Int))=some Y∧Y.Perm X∧Y.Pairwise (ltK key num):=by
 intro k
 induction k with
 | zero=>
  intro bs Zs hk h1 h2 hB
  have hperm:=hB.perm
  refine⟨Zs.flatten,?_,hperm,?_⟩
  ·rw [loop_eq];simp only [gStab.l_10]
   rw [if_neg (by simp;omega)]
  ·cases hB with
   | nil=>simp
   | part _ _ _ h=>simpa using h
   | @full Z X1 Zs Xr g1 g2 g3 g4=>
    have:=g2.length_eq
    simp only [List.length_append] at hk
    cases g4 with
    | nil=>simpa using g3
    | part a1 a2 a3 _=>have:=a3.length_eq;omega
    | full a1 a2 _ _=>have:=a2.length_eq;simp only [List.length_append] at hk;omega
 | succ k ih=>
  intro bs Zs hk h1 h2 hB
  by_cases hlt:bs<X.length
  ·obtain⟨Zs',z1,z2⟩:=blk_pass hc n bs h1 h2 Zs.length Zs X [] (Nat.le_refl _) hB (by simpa using hn) (by simp;omega) hD hp
   obtain⟨Y,y1,y2,y3⟩:=ih (bs*2) Zs' (by omega) (by omega) (by omega) z1
   refine⟨Y,?_,y2,y3⟩
   rw [loop_eq];simp only [gStab.l_10]
   rw [if_pos (by simp;omega)]
   have w2:w64 (2*(bs:Int))=2*(bs:Int):=w64_in (by omega) (by omega)
   simp only [List.nil_append,List.length_nil] at z2
   rw [w2]
   rw [show ((0:Nat):Int)+2*(bs:Int)=2*(bs:Int) by omega] at z2
   rw [show (0:Int)=((0:Nat):Int) from rfl,z2]
   exact y1
  ·exact ih bs Zs (by omega) h1 h2 hB
theorem stable_is(hc:CmK cmp D key)(X:List S)(hbd:X.length≤144115188075855872)(hD:∀y∈X,D y)(hp:X.Pairwise (fun a b=>num a<num b)):
  ∃Y,gSort cmp X=some Y∧Y.Perm X∧Y.Pairwise (ltK key num):=by
 obtain⟨Zs,z1,z2⟩:=blk_ins (num:=num) hc (X.length:Int) X.length X [] (Nat.le_refl _) (by simp) (by simp;omega) hD hp
 obtain⟨Y,y1,y2,y3⟩:=blk_all hc (X.length:Int) X rfl hbd hD hp X.length 20 Zs (by omega) (by omega) (by omega) z1
 refine⟨Y,?_,y2,y3⟩
 simp only [List.nil_append,List.length_nil] at z2
 unfold gSort gStab
 rw [show ((0:Nat):Int)+20=20 from rfl] at z2
 cases hl:loop (gStab.l_27 cmp (X.length:Int)) (X,0,20) with
 | none=>rw [show ((0:Nat):Int)=0 from rfl,hl] at z2;cases z2
 | some t=>
  rw [show ((0:Nat):Int)=0 from rfl,hl] at z2
  simp only [Option.bind_some] at z2⊢
  simp only [gStab.k_4,z2,Option.bind_some]
  rw [show (20:Int)=((20:Nat):Int) from rfl,y1]
  rfl
end
end Go.Proofs.YtolfkfjjifdmeaaGreat
