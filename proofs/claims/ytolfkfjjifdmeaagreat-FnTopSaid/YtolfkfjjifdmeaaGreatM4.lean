/- Functions of the program that the law reaches: a plain function each, and that the call comes to its answer if the plain function has one. Printed by a program. -/
import Derived.Test.YtolfkfjjifdmeaaGreatT
import Derived.Test.YtolfkfjjifdmeaaGreatTab
import Derived.Test.YtolfkfjjifdmeaaGreatM0
import Derived.Test.YtolfkfjjifdmeaaGreatM1
import Derived.Test.YtolfkfjjifdmeaaGreatM2
import Derived.Test.YtolfkfjjifdmeaaGreatM3
namespace Go.Proofs.YtolfkfjjifdmeaaGreat
open Eng
set_option linter.unusedVariables false
set_option linter.unusedSectionVars false
set_option maxRecDepth 100000
variable [dsW:DrwS]
noncomputable section
def Faq.k_2(list1:List (Arr 96 Int)):Option (Int):=(if(decide ((list1.length:Int)>8))=true then some 3 else some 0)
def Faq.l_4(f0:GFrame)(list1:List (Arr 96 Int)):Int→Option ((Int)⊕(Int⊕Unit))
 | i_0=>(if(decide (i_0<(list1.length:Int)))=true then(ix list1 i_0).bind fun x_2=>(F8 f0 x_2).bind fun t_3=>(if(!t_3)=true then some (.inr (.inl 1)) else some (.inl (w64 (i_0+1)))) else some (.inr (.inr ())))
def Faq(f0:GFrame)(list1:List (Arr 96 Int)):Option (Int):=(Fy f0).bind fun t_4=>(if(!t_4)=true then some 1 else(loop (Faq.l_4 f0 list1) 0).bind fun t_5=>match t_5 with | .inl p=>some p | .inr p=>Faq.k_2 list1)
theorem Faq.calls(f0:GFrame)(list1:List (Arr 96 Int))(w:World)(r:Int){C_a:Option Addr}{C_an:Nat}(C_c:Nat)(C_h:Rw w C_a 2 encGHammer f0.fHammers)(C_hn:f0.fHammers.length=C_an){D_a:Option Addr}{D_an:Nat}(D_c:Nat)(D_h:Rw w D_a 96 encA96U32 list1)(D_hn:list1.length=D_an)(A_b:Nat)(hm0:Mem w (bs [some A_b]) [⟨some A_b,27,[(vH f0.fSteps),(.slice C_a C_an C_c)]⟩] w)(C_ha:f0.fHammers≠ []→aB C_a∉bs [some A_b])(D_ha:list1≠ []→aB D_a∉bs [some A_b])(h:Faq f0 list1=some r):
   Calls Tryz.prog 172 #[(vP A_b),(.slice D_a D_an D_c)] w fun e w'=>∃v,e= .returned v∧(v=(vI r)∧Mem w (bs [some A_b]) [⟨some A_b,27,[(vH f0.fSteps),(.slice C_a C_an C_c)]⟩] w'):=by
 subst C_hn D_hn
 rw [Faq] at h
 refine enter (args:= [(vP A_b),(.slice D_a list1.length D_c)]) Tryz.func172 rfl Tryz.ntmps172 (by kernel_rfl) (L:= [⟨some A_b,27,[(vH f0.fSteps),(.slice C_a f0.fHammers.length C_c)]⟩]) (W:=bs [some A_b]) hm0 (jc_seq (jc_region (qh [0] (qe (jx_then (jc_seq (jc_seq (jc_region (qh [0] ?_)))))))))
 obtain⟨t_4,ht_0,h⟩:=bd h
 refine tO (pc 0 (fun w hm=>Fy.calls f0 w _ C_c (hm.exRowW C_h C_ha) rfl A_b (hm.ps [0]) (hm.xp C_h C_ha [0]) ht_0) ?_)
 rintro w v w' hm ⟨rfl,hm'⟩
 refine⟨_,hm.appW (ps:= [(0,⟨some A_b,27,[(vH f0.fSteps),(.slice C_a f0.fHammers.length C_c)]⟩)]) (N:= []) hm' (by kernel_rfl) (by kernel_rfl),jkO ?_⟩
 clear hm hm'
 refine qh [0] (qe (jx_then (qi h (fun h=> ?_) (fun h=> ?_))))
 ·refine jc_seq (jc_region (qh [0] (qe (jx_then (jc_ret (jx_thenr ?_))))))
  obtain rfl:=si h
  exact qr [] (fun w hm=>⟨rfl,hm.pk [0]⟩)
 ·refine jc_skip (jx_then (jc_seq (jc_seq (jc_region (qh [0] (qe (jx_then (jc_meet (fun(_:Unit)=>Faq.k_2 list1=some r) (fun(_:Unit)=> [(1,[],(.slice D_a list1.length D_c)),(4,[],(vI 0))]) (fun(_:Unit)=> [⟨some A_b,27,[(vH f0.fSteps),(.slice C_a f0.fHammers.length C_c)]⟩]) ?_ ?_))))))))
  ·refine jc_block ?_
   obtain⟨t_5,ht_7,hr_6⟩:=bd h
   refine jl (fun(i_0:Int) (_:Unit)=>True) (fun i_0 _=> [(0,[],(vP A_b)),(1,[],(.slice D_a list1.length D_c)),(4,[],(vI 0)),(5,[],(vI i_0))]) (fun i_0 _=> [⟨some A_b,27,[(vH f0.fSteps),(.slice C_a f0.fHammers.length C_c)]⟩]) ht_7 () trivial [0] ?_
   rintro i_0 _ y_01 _ h
   rw [Faq.l_4] at h
   refine jc_seq (jc_seq (jc_region (qh [0,0,0,0] (qe (jx_then (qi h (fun h=> ?_) (fun h=> ?_)))))))
   ·refine jc_skip (jx_then (jc_seq (jc_block (jc_seq (jc_region (qh [0,0,0] ?_))))))
    obtain⟨x_2,hx_1,h⟩:=bd h
    refine tO (qx 0 D_a 96 hx_1 rfl (D_h.sp hx_1) (jkO ?_))
    obtain⟨t_3,ht_8,h⟩:=bd h
    refine tO (pc 0 (fun w hm=>F8.calls f0 x_2 w _ C_c (hm.exRowW C_h C_ha) rfl ((hm.exRowW D_h D_ha).inArr (fun _=>rfl) encU32_len hx_1) A_b (hm.ps [0]) (hm.xp C_h C_ha [0]) (fun _=>(hm.xp D_h D_ha [0]) (ne_ix hx_1)) ht_8) ?_)
    rintro w v w' hm ⟨rfl,hm'⟩
    refine⟨_,hm.appW (ps:= [(0,⟨some A_b,27,[(vH f0.fSteps),(.slice C_a f0.fHammers.length C_c)]⟩)]) (N:= []) hm' (by kernel_rfl) (by kernel_rfl),jkO ?_⟩
    clear hm hm'
    refine qh [0] (qe (jx_then (qi h (fun h=> ?_) (fun h=> ?_))))
    ·refine jc_seq (jc_region (qh [0] (qe (jx_then (jc_ret (jx_inr (jx_thenr (jx_leaver (.inl 1) (sj h) (fun e_9=> ?_)))))))))
     subst e_9
     refine jx_inr (jx_thenr (jx_thenr ?_))
     obtain rfl:=si hr_6
     exact qr [] (fun w hm=>⟨rfl,hm.pk [0]⟩)
    ·exact jc_skip (jx_inn (jx_then (jc_region (qh [0,0,0] (qe (qb (w64 (i_0+1)) () h trivial [0]))))))
   ·refine jc_exit (jx_thenx (jx_leave (.inr ()) (sj h) (fun e_00=> ?_)))
    subst e_00
    exact jx_ine (qm () hr_6 [0])
  ·rintro _ h
   replace h:Faq.k_2 list1=some r:=h
   rw [Faq.k_2] at h
   refine jx_then (jc_seq (jc_seq (jc_region (qh [0,0,0] (qe (jx_then (qi h (fun h=> ?_) (fun h=> ?_))))))))
   ·refine jc_seq (jc_region (qh [0] (qe (jx_then (jc_ret (jx_thenr ?_))))))
    obtain rfl:=si h
    exact qr [] (fun w hm=>⟨rfl,hm.pk [0]⟩)
   ·refine jc_skip (jx_then (jc_seq (jc_region (qh [0] (qe (jx_then (jc_ret ?_)))))))
    obtain rfl:=si h
    exact qr [] (fun w hm=>⟨rfl,hm.pk [0]⟩)
def F1.k_5(i_1:Int):Option (Int):=some i_1
def F1.k_3(list1:List (Arr 96 Int))(i_0:Int):Option (Int):=(if((i_0==0)&&((list1.length:Int)==0))=true then F1.k_5 6 else F1.k_5 i_0)
def F1(f0:GFrame)(list1:List (Arr 96 Int))(first2:Int):Option (Int):=(Faq f0 list1).bind fun t_2=>(if(t_2==0)=true then(FI first2 (-1) (w64 ((list1.length:Int)-1))).bind fun t_3=>(if(!t_3)=true then F1.k_3 list1 2 else F1.k_3 list1 t_2) else F1.k_3 list1 t_2)
theorem F1.calls(f0:GFrame)(list1:List (Arr 96 Int))(first2:Int)(w:World)(r:Int){C_a:Option Addr}{C_an:Nat}(C_c:Nat)(C_h:Rw w C_a 2 encGHammer f0.fHammers)(C_hn:f0.fHammers.length=C_an){D_a:Option Addr}{D_an:Nat}(D_c:Nat)(D_h:Rw w D_a 96 encA96U32 list1)(D_hn:list1.length=D_an)(A_b:Nat)(hm0:Mem w (bs [some A_b]) [⟨some A_b,27,[(vH f0.fSteps),(.slice C_a C_an C_c)]⟩] w)(C_ha:f0.fHammers≠ []→aB C_a∉bs [some A_b])(D_ha:list1≠ []→aB D_a∉bs [some A_b])(h:F1 f0 list1 first2=some r):
   Calls Tryz.prog 101 #[(vP A_b),(.slice D_a D_an D_c),(vI first2)] w fun e w'=>∃v,e= .returned v∧(v=(vI r)∧Mem w (bs [some A_b]) [⟨some A_b,27,[(vH f0.fSteps),(.slice C_a C_an C_c)]⟩] w'):=by
 subst C_hn D_hn
 rw [F1] at h
 refine enter (args:= [(vP A_b),(.slice D_a list1.length D_c),(vI first2)]) Tryz.func101 rfl Tryz.ntmps101 (by kernel_rfl) (L:= [⟨some A_b,27,[(vH f0.fSteps),(.slice C_a f0.fHammers.length C_c)]⟩]) (W:=bs [some A_b]) hm0 (jc_seq (jc_region (qh [0] (qe (jx_then (jc_seq (jc_region (qh [0,0] ?_))))))))
 obtain⟨t_2,ht_2,h⟩:=bd h
 refine tO (pc 0 (fun w hm=>Faq.calls f0 list1 w _ C_c (hm.exRowW C_h C_ha) rfl D_c (hm.exRowW D_h D_ha) rfl A_b (hm.ps [0]) (hm.xp C_h C_ha [0]) (hm.xp D_h D_ha [0]) ht_2) ?_)
 rintro w v w' hm ⟨rfl,hm'⟩
 refine⟨_,hm.appW (ps:= [(0,⟨some A_b,27,[(vH f0.fSteps),(.slice C_a f0.fHammers.length C_c)]⟩)]) (N:= []) hm' (by kernel_rfl) (by kernel_rfl),jkO ?_⟩
 clear hm hm'
 refine qh [0] (qe (jx_then (jc_seq (jc_meet (fun(i_0:Int)=>F1.k_3 list1 i_0=some r) (fun i_0=> [(1,[],(.slice D_a list1.length D_c)),(6,[],(vI 0)),(7,[],(vI i_0))]) (fun i_0=> [⟨some A_b,27,[(vH f0.fSteps),(.slice C_a f0.fHammers.length C_c)]⟩]) ?_ ?_))))
 ·refine jc_seq (jc_region (qf [(0,0),(0,0),(0,0),(0,1),(0,1),(0,1),(0,1)] (qp 13 h (fun h=> ?_) (fun h=> ?_))))
  ·obtain⟨t_3,ht_5,h⟩:=bd h
   refine tO (pq 2 (fun w hm=>FI.calls first2 (-1) (w64 ((list1.length:Int)-1)) w _ ht_5) (jkO (qf [(0,2),(0,4)] (qe (jx_then (qi h (fun h=> ?_) (fun h=> ?_)))))))
   ·exact jc_region (qh [0] (qe (qm 2 h [0])))
   ·exact jc_skip (qm t_2 h [0])
  ·exact qf [(0,3),(0,3),(0,5)] (qe (jx_then (jq false (fun hc_4=>nomatch hc_4) (fun hc_4=>(jc_skip (qm t_2 h [0]))))))
 ·rintro i_0 h
  replace h:F1.k_3 list1 i_0=some r:=h
  rw [F1.k_3] at h
  refine jx_then (jc_seq (jc_meet (fun(i_1:Int)=>F1.k_5 i_1=some r) (fun i_1=> [(6,[],(vI 0)),(7,[],(vI i_1))]) (fun i_1=> [⟨some A_b,27,[(vH f0.fSteps),(.slice C_a f0.fHammers.length C_c)]⟩]) ?_ ?_))
  ·refine jc_seq (jc_region (qf [(0,0),(0,0),(0,0),(0,1),(0,1),(0,1),(0,0)] (qe (jx_then (qi h (fun h=> ?_) (fun h=> ?_))))))
   ·exact jc_region (qh [0] (qe (qm 6 h [0])))
   ·exact jc_skip (qm i_0 h [0])
  ·rintro i_1 h
   replace h:F1.k_5 i_1=some r:=h
   rw [F1.k_5] at h
   refine jx_then (jc_seq (jc_region (qh [0,0] (qe (jx_then (jc_ret ?_))))))
   obtain rfl:=si h
   exact qr [] (fun w hm=>⟨rfl,hm.pk [0]⟩)
def Fai.k_2(i_2:Int):Option (Int):=some i_2
def Fai.l_5:(Int×Int)→Option ((Int×Int)⊕(Int))
 | (i_0,i_1)=>(if(decide (i_0>0))=true then some (.inl ((u32 (Int.tdiv i_0 2)),(w64 (i_1+(w64 (Int.tmod i_0 2)))))) else some (.inr i_1))
def Fai(bits0:Int):Option (Int):=(loop Fai.l_5 (bits0,0)).bind fun t_3=>Fai.k_2 t_3
theorem Fai.calls(bits0:Int)(w:World)(r:Int)(h:Fai bits0=some r):
   Calls Tryz.prog 232 #[(vU bits0)] w fun e w'=>∃v,e= .returned v∧(v=(vI r)∧Mem w [] [] w'):=by
 rw [Fai] at h
 refine en Tryz.func232 rfl Tryz.ntmps232 (jc_seq (jc_region (qh [0] (qe (jx_then (jc_seq (jc_region (qh [0] (qe (jx_then (jc_seq (jc_meet (fun(i_2:Int)=>Fai.k_2 i_2=some r) (fun i_2=> [(2,[],(vI 0)),(3,[],(vI i_2))]) (fun i_2=> []) ?_ ?_))))))))))))
 ·refine jc_block ?_
  obtain⟨t_3,ht_4,hr_5⟩:=bd h
  refine jl (fun(s:Int×Int) (x:Unit)=>match s,x with | ⟨i_0,i_1⟩,_=>True) (fun⟨i_0,i_1⟩ _=> [(0,[],(vU i_0)),(2,[],(vI 0)),(3,[],(vI i_1))]) (fun⟨i_0,i_1⟩ _=> []) ht_4 () trivial [] ?_
  rintro⟨i_0,i_1⟩ _ y_7 _ h
  rw [Fai.l_5] at h
  refine jc_seq (jc_seq (jc_region (qh [0,0] (qe (jx_then (qi h (fun h=> ?_) (fun h=> ?_)))))))
  ·exact jc_skip (jx_then (jc_seq (jc_block (jc_region (qh [0,0,0,0,0,0] (qe (jx_inn (jx_then (jc_region (qh [0,0,0] (qe (qb ((u32 (Int.tdiv i_0 2)),(w64 (i_1+(w64 (Int.tmod i_0 2))))) () h trivial []))))))))))))
  ·refine jc_exit (jx_thenx (jx_leave i_1 (sj h) (fun e_6=> ?_)))
   subst e_6
   exact jx_ine (qm i_1 hr_5 [])
 ·rintro i_2 h
  replace h:Fai.k_2 i_2=some r:=h
  rw [Fai.k_2] at h
  refine jx_then (jc_seq (jc_region (qh [0,0] (qe (jx_then (jc_ret ?_))))))
  obtain rfl:=si h
  exact qr [] (fun w hm=>⟨rfl,hm.pk []⟩)
def Fad.k_2(i_2:Int):Option (Int):=some i_2
def Fad.l_5(a0:Arr 96 Int)(b1:Arr 96 Int):(Int×Int)→Option ((Int×Int)⊕(Int))
 | (i_0,i_1)=>(if(decide (i_1<96))=true then(ix b1.1 i_1).bind fun x_3=>(ix a0.1 i_1).bind fun x_4=>(Fai (bClr .u32 x_3 x_4)).bind fun t_5=>some (.inl ((w64 (i_0+t_5)),(w64 (i_1+1)))) else some (.inr i_0))
def Fad(a0:Arr 96 Int)(b1:Arr 96 Int):Option (Int):=(loop (Fad.l_5 a0 b1) (0,0)).bind fun t_8=>Fad.k_2 t_8
theorem Fad.calls(a0:Arr 96 Int)(b1:Arr 96 Int)(w:World)(r:Int){A_b A_q:Nat}(A_h:Rw w (some ⟨A_b,A_q,none⟩) 1 encU32 a0.1){B_b B_q:Nat}(B_h:Rw w (some ⟨B_b,B_q,none⟩) 1 encU32 b1.1)(h:Fad a0 b1=some r):
   Calls Tryz.prog 214 #[(.pointer (some ⟨A_b,A_q,none⟩)),(.pointer (some ⟨B_b,B_q,none⟩))] w fun e w'=>∃v,e= .returned v∧(v=(vI r)∧Mem w [] [] w'):=by
 rw [Fad] at h
 refine en Tryz.func214 rfl Tryz.ntmps214 (jc_seq (jc_region (qh [0] (qe (jx_then (jc_seq (jc_region (qh [0] (qe (jx_then (jc_seq (jc_seq (jc_region (qh [0] (qe (jx_then (jc_meet (fun(i_2:Int)=>Fad.k_2 i_2=some r) (fun i_2=> [(4,[],(vI 0)),(5,[],(vI i_2))]) (fun i_2=> []) ?_ ?_)))))))))))))))))
 ·refine jc_block ?_
  obtain⟨t_8,ht_9,hr_00⟩:=bd h
  refine jl (fun(s:Int×Int) (x:Unit)=>match s,x with | ⟨i_0,i_1⟩,_=>True) (fun⟨i_0,i_1⟩ _=> [(0,[],(.pointer (some ⟨A_b,A_q,none⟩))),(1,[],(.pointer (some ⟨B_b,B_q,none⟩))),(4,[],(vI 0)),(5,[],(vI i_0)),(6,[],(vI i_1))]) (fun⟨i_0,i_1⟩ _=> []) ht_9 () trivial [] ?_
  rintro⟨i_0,i_1⟩ _ y_03 _ h
  rw [Fad.l_5] at h
  refine jc_seq (jc_seq (jc_region (qh [0,0] (qe (jx_then (qi h (fun h=> ?_) (fun h=> ?_)))))))
  ·refine jc_skip (jx_then (jc_seq (jc_block (qg [] 15 (qd [⟨0,0,0⟩,⟨1,0,0⟩,⟨2,0,0⟩,⟨3,0,0⟩,⟨6,0,0⟩,⟨7,0,0⟩,⟨8,0,0⟩] 8 [] ?_)))))
   obtain⟨x_3,hx_6,h⟩:=bd h
   refine qX 4 0 [] (some ⟨B_b,B_q,none⟩) 1 hx_6 b1.2 (B_h.sp hx_6) (qL 5 0 [] false (fun w hm=>(hm.xr B_h).at hx_6) ?_)
   obtain⟨x_4,hx_7,h⟩:=bd h
   refine qX 9 0 [] (some ⟨A_b,A_q,none⟩) 1 hx_7 a0.2 (A_h.sp hx_7) (qL 10 0 [] false (fun w hm=>(hm.xr A_h).at hx_7) (qd [⟨11,0,0⟩] 3 [] ?_))
   obtain⟨t_5,ht_01,h⟩:=bd h
   exact tD 12 (pq 0 (fun w hm=>Fai.calls (bClr .u32 x_3 x_4) w _ ht_01) (kD [] (qd [⟨13,0,0⟩,⟨14,0,0⟩] 0 [] (qz (jx_inn (jx_then (jc_region (qh [0,0,0] (qe (qb ((w64 (i_0+t_5)),(w64 (i_1+1))) () h trivial []))))))))))
  ·refine jc_exit (jx_thenx (jx_leave i_0 (sj h) (fun e_02=> ?_)))
   subst e_02
   exact jx_ine (qm i_0 hr_00 [])
 ·rintro i_2 h
  replace h:Fad.k_2 i_2=some r:=h
  rw [Fad.k_2] at h
  refine jx_then (jc_seq (jc_region (qh [0,0] (qe (jx_then (jc_ret ?_))))))
  obtain rfl:=si h
  exact qr [] (fun w hm=>⟨rfl,hm.pk []⟩)
def FbK(a0:Arr 96 Int)(b1:Arr 96 Int):Option (Int):=(Fad a0 b1).bind fun t_0=>(Fad b1 a0).bind fun t_1=>some (w64 (t_0+t_1))
theorem FbK.calls(a0:Arr 96 Int)(b1:Arr 96 Int)(w:World)(r:Int){A_b A_q:Nat}(A_h:Rw w (some ⟨A_b,A_q,none⟩) 1 encU32 a0.1){B_b B_q:Nat}(B_h:Rw w (some ⟨B_b,B_q,none⟩) 1 encU32 b1.1)(h:FbK a0 b1=some r):
   Calls Tryz.prog 173 #[(.pointer (some ⟨A_b,A_q,none⟩)),(.pointer (some ⟨B_b,B_q,none⟩))] w fun e w'=>∃v,e= .returned v∧(v=(vI r)∧Mem w [] [] w'):=by
 rw [FbK] at h
 refine en Tryz.func173 rfl Tryz.ntmps173 (jc_seq (jc_region (qh [0] (qe (jx_then (jc_seq (jc_region (qh [0,0] ?_))))))))
 obtain⟨t_0,ht_0,h⟩:=bd h
 refine tO (pq 0 (fun w hm=>Fad.calls a0 b1 w _ (hm.xr A_h) (hm.xr B_h) ht_0) (jkO (qh [0,0] ?_)))
 obtain⟨t_1,ht_1,h⟩:=bd h
 refine tO (pq 0 (fun w hm=>Fad.calls b1 a0 w _ (hm.xr B_h) (hm.xr A_h) ht_1) (jkO (qh [0,0] (qe (jx_then (jc_ret ?_))))))
 obtain rfl:=si h
 exact qr [] (fun w hm=>⟨rfl,hm.pk []⟩)
def FM.k_1(xt_01:List (List Int)):Option ((List (List Int))):=some xt_01
def FM.k_6(xt_1:List (List Int))(i_2:Int)(xs_3:List Int):Option (((List (List Int))×Int)⊕((List (List Int)))):=(if xt_1.length+1≤4294967296 then some (.inl ((xt_1++ [xs_3]),(w64 (i_2+1)))) else none)
def FM.l_9(list0:List (Arr 96 Int))(i_2:Int):((List Int)×Int)→Option (((List Int)×Int)⊕((List Int)))
 | (xs_4,i_02)=>(if(decide (i_02<(list0.length:Int)))=true then(ix list0 i_2).bind fun x_0f=>(ix list0 i_02).bind fun x_0g=>(FbK x_0f x_0g).bind fun t_06=>(if xs_4.length+([t_06]:List Int).length≤4294967296 then some (.inl ((xs_4++([t_06]:List Int)),(w64 (i_02+1)))) else none) else some (.inr xs_4))
def FM.l_3(list0:List (Arr 96 Int)):((List (List Int))×Int)→Option (((List (List Int))×Int)⊕((List (List Int))))
 | (xt_1,i_2)=>(if(decide (i_2<(list0.length:Int)))=true then(loop (FM.l_9 list0 i_2) (([]:List Int),0)).bind fun t_0j=>FM.k_6 xt_1 i_2 t_0j else some (.inr xt_1))
def FM(list0:List (Arr 96 Int)):Option ((List (List Int))):=(loop (FM.l_3 list0) (([]:List (List Int)),0)).bind fun t_0k=>FM.k_1 t_0k
theorem FM.calls(list0:List (Arr 96 Int))(w:World)(r:(List (List Int))){A_a:Option Addr}{A_an:Nat}(A_c:Nat)(A_h:Rw w A_a 96 encA96U32 list0)(A_hn:list0.length=A_an)(h:FM list0=some r):
   Calls Tryz.prog 102 #[(.slice A_a A_an A_c)] w fun e w'=>∃v,e= .returned v∧(∃(o0:Option Nat) (c0:Nat) (s0:List Value) (n0:Nat) (h0:List Hd),InP h0 r∧h0.length=n0∧(hS o0 n0 c0 s0 1)∧(hO o0 h0 c0)∧v= .slice (mB o0) n0 c0∧Mem w [] [⟨o0,60,row encHd h0 s0⟩,⟨none,CLU,cluC encI64 h0 r⟩] w'):=by
 subst A_hn
 rw [FM] at h
 refine en Tryz.func102 rfl Tryz.ntmps102 (jc_seq (jc_region (qh [0] (qe (jx_then (jc_seq (jc_region (tO (qa 0 (fun b_0s=>jk_clu encI64 (jkO (qh [0] (qe (jx_then (jc_seq (jc_seq (jc_region (qh [0] (qe (jx_then (jc_meet (fun(j:(List (List Int))×(List Hd)×(Option Nat)×Nat×(List Value)×Nat)=>match j with | ⟨xt_01,hh_8,o_04,cap_07,sp_09,n_0a⟩=>FM.k_1 xt_01=some r∧(hh_8.length=n_0a)∧(hS o_04 n_0a cap_07 sp_09 1)∧(hO o_04 hh_8 cap_07)∧(InP hh_8 xt_01)) (fun⟨xt_01,hh_8,o_04,cap_07,sp_09,n_0a⟩=> [(2,[],(.slice none 0 0)),(3,[],(.slice (mB o_04) n_0a cap_07))]) (fun⟨xt_01,hh_8,o_04,cap_07,sp_09,n_0a⟩=> [⟨o_04,60,row encHd hh_8 sp_09⟩,⟨none,CLU,cluC encI64 hh_8 xt_01⟩]) ?_ ?_)))))))))))))))))))))
 ·refine jc_block ?_
  obtain⟨t_0k,ht_0t,hr_0u⟩:=bd h
  refine jl (fun(s:(List (List Int))×Int) (x:(List Hd)×(Option Nat)×Nat×(List Value)×Nat)=>match s,x with | ⟨xt_1,i_2⟩,⟨hh_0,o_5,cap_9,sp_00,n_0b⟩=>(hh_0.length=n_0b)∧(hS o_5 n_0b cap_9 sp_00 1)∧(hO o_5 hh_0 cap_9)∧(InP hh_0 xt_1)) (fun⟨xt_1,i_2⟩ ⟨hh_0,o_5,cap_9,sp_00,n_0b⟩=> [(0,[],(.slice A_a list0.length A_c)),(2,[],(.slice none 0 0)),(3,[],(.slice (mB o_5) n_0b cap_9)),(4,[],(vI i_2))]) (fun⟨xt_1,i_2⟩ ⟨hh_0,o_5,cap_9,sp_00,n_0b⟩=> [⟨o_5,60,row encHd hh_0 sp_00⟩,⟨none,CLU,cluC encI64 hh_0 xt_1⟩]) ht_0t ⟨([]:List Hd),(some b_0s),0,[],0⟩ ⟨rfl,(fun _=>⟨Nat.le_refl _,by simp⟩),(fun e=>nomatch e),InP.nil⟩ [0,1] ?_
  rintro⟨xt_1,i_2⟩ ⟨hh_0,o_5,cap_9,sp_00,n_0b⟩ y_0l ⟨rfl,hs_0m,ho_0n,hI_3161⟩ h
  rw [FM.l_3] at h
  refine jc_seq (jc_seq (jc_region (qh [0,0,0,0] (qe (jx_then (qi h (fun h=> ?_) (fun h=> ?_)))))))
  ·refine jc_skip (jx_then (jc_seq (jc_block (jc_seq (jc_region (tO (qa 0 (fun b_0v=>jkO (qh [0] (qe (jx_then (jc_seq (jc_seq (jc_region (qh [0] (qe (jx_then (jc_meet (fun(j:(List Int)×(Option Nat)×Nat×(List Value)×Nat)=>match j with | ⟨xs_3,o_6,cap_7,sp_0c,n_0d⟩=>FM.k_6 xt_1 i_2 xs_3=some y_0l∧(xs_3.length=n_0d)∧(hS o_6 n_0d cap_7 sp_0c 1)∧(hO o_6 xs_3 cap_7)) (fun⟨xs_3,o_6,cap_7,sp_0c,n_0d⟩=> [(0,[],(.slice A_a list0.length A_c)),(2,[],(.slice none 0 0)),(3,[],(.slice (mB o_5) hh_0.length cap_9)),(4,[],(vI i_2)),(5,[],(.slice (mB o_6) n_0d cap_7))]) (fun⟨xs_3,o_6,cap_7,sp_0c,n_0d⟩=> [⟨o_5,60,row encHd hh_0 sp_00⟩,⟨none,CLU,cluC encI64 hh_0 xt_1⟩,⟨o_6,2,row encI64 xs_3 sp_0c⟩]) ?_ ?_))))))))))))))))))
   ·refine jc_block ?_
    obtain⟨t_0j,ht_0w,hr_0x⟩:=bd h
    refine jl (fun(s:(List Int)×Int) (x:(Option Nat)×Nat×(List Value)×Nat)=>match s,x with | ⟨xs_4,i_02⟩,⟨o_03,cap_05,sp_08,n_0e⟩=>(xs_4.length=n_0e)∧(hS o_03 n_0e cap_05 sp_08 1)∧(hO o_03 xs_4 cap_05)) (fun⟨xs_4,i_02⟩ ⟨o_03,cap_05,sp_08,n_0e⟩=> [(0,[],(.slice A_a list0.length A_c)),(2,[],(.slice none 0 0)),(3,[],(.slice (mB o_5) hh_0.length cap_9)),(4,[],(vI i_2)),(5,[],(.slice (mB o_03) n_0e cap_05)),(6,[],(vI i_02))]) (fun⟨xs_4,i_02⟩ ⟨o_03,cap_05,sp_08,n_0e⟩=> [⟨o_5,60,row encHd hh_0 sp_00⟩,⟨none,CLU,cluC encI64 hh_0 xt_1⟩,⟨o_03,2,row encI64 xs_4 sp_08⟩]) ht_0w ⟨(some b_0v),0,[],0⟩ ⟨rfl,(fun _=>⟨Nat.le_refl _,by simp⟩),(fun e=>nomatch e)⟩ [0,1,2] ?_
    rintro⟨xs_4,i_02⟩ ⟨o_03,cap_05,sp_08,n_0e⟩ y_1g ⟨rfl,hs_0o,ho_0p⟩ h
    rw [FM.l_9] at h
    refine jc_seq (jc_seq (jc_region (qh [0,0,0,0] (qe (jx_then (qi h (fun h=> ?_) (fun h=> ?_)))))))
    ·refine jc_skip (jx_then (jc_seq (jc_block (qg [⟨o_5,60,row encHd hh_0 sp_00⟩,⟨none,CLU,cluC encI64 hh_0 xt_1⟩] 11 (qd [⟨0,0,0⟩,⟨1,0,0⟩,⟨2,0,0⟩,⟨4,0,0⟩,⟨5,0,0⟩] 6 [0,1] ?_)))))
     obtain⟨x_0f,hx_0h,h⟩:=bd h
     refine qX 3 0 [0,1] A_a 96 hx_0h rfl (A_h.sp hx_0h) ?_
     obtain⟨x_0g,hx_0i,h⟩:=bd h
     refine qX 6 0 [0,1] A_a 96 hx_0i rfl (A_h.sp hx_0i) ?_
     obtain⟨t_06,ht_0y,h⟩:=bd h
     refine tD 7 (pq 0 (fun w hm=>FbK.calls x_0f x_0g w _ ((hm.xr A_h).inArr (fun _=>rfl) encU32_len hx_0h) ((hm.xr A_h).inArr (fun _=>rfl) encU32_len hx_0i) ht_0y) (kD [0,1] (tD 8 (qa 0 (fun b_0q=>kD [0,1] ?_)))))
     obtain⟨hg_0z,h⟩:=gd h
     exact tD 9 (pA 0 2 o_03 2 xs_4.length 1 cap_05 1 8 (sB b_0q) encI64 xs_4 ([t_06]:List Int) sp_08 (vI 0) rfl rfl encI64_len encI64_cell hs_0o ho_0p (fun w hm=>(hm.ow 3 (some b_0q) 2 ([t_06]:List Int) [] (fun e=>nomatch e) encI64_len)) hg_0z (fun o_10 cap_11 sp_12 hs_13 ho_14=>kD [0,1] (qd [⟨10,0,0⟩] 0 [0,1] (qz (jx_inn (jx_then (jc_region (qh [0,0,0] (qe (qb ((xs_4++([t_06]:List Int)),(w64 (i_02+1))) ⟨o_10,cap_11,sp_12,(xs_4++([t_06]:List Int)).length⟩ h ⟨rfl,hs_13,ho_14⟩ [0,1,2]))))))))))
    ·refine jc_exit (jx_thenx (jx_leave xs_4 (sj h) (fun e_15=> ?_)))
     subst e_15
     exact jx_ine (qm ⟨xs_4,o_03,cap_05,sp_08,xs_4.length⟩ ⟨hr_0x,rfl,hs_0o,ho_0p⟩ [0,1,2])
   ·rintro⟨xs_3,o_6,cap_7,sp_0c,n_0d⟩ ⟨h,rfl,hs_1h,ho_16⟩
    replace h:FM.k_6 xt_1 i_2 xs_3=some y_0l:=h
    rw [FM.k_6] at h
    refine jx_then (jc_region (qh [0,0] (tO (qa 0 (fun b_0r=>jkO ?_)))))
    obtain⟨hg_17,h⟩:=gd h
    exact tO (pA 0 0 o_5 60 hh_0.length 1 cap_9 1 24 (sB b_0r) encHd hh_0 [(Hd.mk (mB o_6) xs_3.length cap_7)] sp_00 (.slice none 0 0) rfl rfl encHd_len encHd_cell hs_0m ho_0n (fun w hm=>(hm.ow 3 (some b_0r) 60 ([(Hd.mk (mB o_6) xs_3.length cap_7)]) [] (fun e=>nomatch e) encHd_len)) (tabbig hI_3161 hg_17) (fun o_18 cap_19 sp_1a hs_1b ho_1c=>jk_frz (enc:=encI64) (hs:=hh_0) (xss:=xt_1) (o:=o_6) (T:=2) (xs:=xs_3) (sp:=sp_0c) 1 2 xs_3.length cap_7 hI_3161 (jkO (qh [0] (qe (jx_inn (jx_then (jc_region (qh [0,0,0] (qe (qb ((xt_1++ [xs_3]),(w64 (i_2+1))) ⟨(hh_0++ [(Hd.mk (mB o_6) xs_3.length cap_7)]),o_18,cap_19,sp_1a,(hh_0++ [(Hd.mk (mB o_6) xs_3.length cap_7)]).length⟩ h ⟨rfl,hs_1b,ho_1c,(hI_3161.snoc (o:=o_6) rfl (fun e=>(ho_16 e).1))⟩ [0,1])))))))))))
  ·refine jc_exit (jx_thenx (jx_leave xt_1 (sj h) (fun e_1d=> ?_)))
   subst e_1d
   exact jx_ine (qm ⟨xt_1,hh_0,o_5,cap_9,sp_00,hh_0.length⟩ ⟨hr_0u,rfl,hs_0m,ho_0n,hI_3161⟩ [0,1])
 ·rintro⟨xt_01,hh_8,o_04,cap_07,sp_09,n_0a⟩ ⟨h,rfl,hs_1e,ho_1f,hI_2587⟩
  replace h:FM.k_1 xt_01=some r:=h
  rw [FM.k_1] at h
  refine jx_then (jc_seq (jc_region (qh [0,0] (qe (jx_then (jc_ret ?_))))))
  obtain rfl:=si h
  exact qr [] (fun w hm=>⟨o_04,cap_07,sp_09,hh_8.length,hh_8,hI_2587,rfl,hs_1e,ho_1f,rfl,hm.pk [0,1]⟩)
def FD.k_8(at1:Int)(left2:Int)(xt_5:List (List Int))(i_1:Int):Option (Int×(List (List Int))):=(ix xt_5 at1).bind fun x_00=>(ix x_00 left2).bind fun x_06=>some (i_1,(xt_5.set at1.toNat (x_00.set left2.toNat i_1)))
def FD.l_13(self_:(List (List Int))→Int→Int→Bool→(List (List Int))→Option (Int×(List (List Int))))(table0:List (List Int))(at1:Int)(left2:Int)(circle3:Bool):((List (List Int))×Int×Int)→Option (((List (List Int))×Int×Int)⊕(((List (List Int))×Int)))
 | (xt_4,i_3,i_0)=>(if(decide (i_0<(table0.length:Int)))=true then(if 0≤(u64 i_0) then(if((Int.tmod (bShr .i64 left2 (u64 i_0)) 2)==0)=true then some (.inl (xt_4,i_3,(w64 (i_0+1)))) else(ix table0 at1).bind fun x_9=>(ix x_9 i_0).bind fun x_01=>(if 0≤(u64 i_0) then(self_ table0 i_0 (bXor .i64 left2 (bShl .i64 1 (u64 i_0))) circle3 xt_4).bind fun t_2=>(if((decide (i_3<0)) || (decide ((w64 (x_01+t_2.1))<i_3)))=true then some (.inl (t_2.2,(w64 (x_01+t_2.1)),(w64 (i_0+1)))) else some (.inl (t_2.2,i_3,(w64 (i_0+1))))) else none)) else none) else some (.inr (xt_4,i_3)))
def FD.step(self_:(List (List Int))→Int→Int→Bool→(List (List Int))→Option (Int×(List (List Int))))(table0:List (List Int))(at1:Int)(left2:Int)(circle3:Bool)(known4:List (List Int)):Option (Int×(List (List Int))):=(if(left2==0)=true then(if circle3=true then(ix table0 at1).bind fun x_07=>(ix x_07 0).bind fun x_08=>some (x_08,known4) else some (0,known4)) else(ix known4 at1).bind fun x_09=>(ix x_09 left2).bind fun x_0a=>(if(decide (x_0a≥0))=true then(ix known4 at1).bind fun x_0b=>(ix x_0b left2).bind fun x_0c=>some (x_0c,known4) else(loop (FD.l_13 self_ table0 at1 left2 circle3) (known4,(-1),0)).bind fun t_6=>FD.k_8 at1 left2 t_6.1 t_6.2))
def FD.rec_:Nat→(List (List Int))→Int→Int→Bool→(List (List Int))→Option (Int×(List (List Int)))
 | 0=>fun table0 at1 left2 circle3 known4=>none
 | fu+1=>FD.step (FD.rec_ fu)
def FD(table0:List (List Int))(at1:Int)(left2:Int)(circle3:Bool)(known4:List (List Int)):Option (Int×(List (List Int))):=FD.rec_ 16 table0 at1 left2 circle3 known4
theorem FD.step_calls(self_:(List (List Int))→Int→Int→Bool→(List (List Int))→Option (Int×(List (List Int))))(hself:∀(table0:List (List Int)) (at1:Int) (left2:Int) (circle3:Bool) (known4:List (List Int)) (w:World) (r:Int×(List (List Int))) {A_a:Option Addr} {A_an:Nat} (A_c:Nat) {A_hs:List Hd} (A_h:Rw w A_a 1 encHd A_hs) (A_hn:table0.length=A_an) {E_a:Option Addr} {E_an:Nat} (E_c:Nat) {E_hs:List Hd} (E_h:Rw w E_a 1 encHd E_hs) (E_hn:known4.length=E_an) (E_I:InP E_hs known4) (E_D:Dst E_hs) (hm0:Mem w (hbs E_hs) [⟨none,CLU,cluC encI64 E_hs known4⟩] w) (A_ha:A_hs≠ []→aB A_a∉hbs E_hs) (A_i:Inn w (hbs E_hs) 1 encI64 A_hs table0) (E_ha:E_hs≠ []→aB E_a∉hbs E_hs) (h:self_ table0 at1 left2 circle3 known4=some r),
   Calls Tryz.prog 174 #[(.slice A_a A_an A_c),(vI at1),(vI left2),(.bool circle3),(.slice E_a E_an E_c)] w fun e w'=>∃v,e= .returned v∧(InP E_hs r.2∧v=(vI r.1)∧Mem w (hbs E_hs) [⟨none,CLU,cluC encI64 E_hs r.2⟩] w')) (table0:List (List Int)) (at1:Int) (left2:Int) (circle3:Bool) (known4:List (List Int)) (w:World) (r:Int×(List (List Int))) {A_a:Option Addr} {A_an:Nat} (A_c:Nat) {A_hs:List Hd} (A_h:Rw w A_a 1 encHd A_hs) (A_hn:table0.length=A_an) {E_a:Option Addr} {E_an:Nat} (E_c:Nat) {E_hs:List Hd} (E_h:Rw w E_a 1 encHd E_hs) (E_hn:known4.length=E_an) (E_I:InP E_hs known4) (E_D:Dst E_hs) (hm0:Mem w (hbs E_hs) [⟨none,CLU,cluC encI64 E_hs known4⟩] w) (A_ha:A_hs≠ []→aB A_a∉hbs E_hs) (A_i:Inn w (hbs E_hs) 1 encI64 A_hs table0) (E_ha:E_hs≠ []→aB E_a∉hbs E_hs) (h:FD.step self_ table0 at1 left2 circle3 known4=some r):
   Calls Tryz.prog 174 #[(.slice A_a A_an A_c),(vI at1),(vI left2),(.bool circle3),(.slice E_a E_an E_c)] w fun e w'=>∃v,e= .returned v∧(InP E_hs r.2∧v=(vI r.1)∧Mem w (hbs E_hs) [⟨none,CLU,cluC encI64 E_hs r.2⟩] w'):=by
 subst A_hn E_hn
 rw [FD.step] at h
 refine enter (args:= [(.slice A_a table0.length A_c),(vI at1),(vI left2),(.bool circle3),(.slice E_a known4.length E_c)]) Tryz.func174 rfl Tryz.ntmps174 (by kernel_rfl) (L:= [⟨none,CLU,cluC encI64 E_hs known4⟩]) (W:=hbs E_hs) hm0 (jc_seq (jc_region (qh [0] (qe (jx_then (jc_seq (jc_seq (jc_region (qh [0,0] (qe (jx_then (qi h (fun h=> ?_) (fun h=> ?_)))))))))))))
 ·refine jc_seq (jc_seq (jc_region (qh [0] (qe (jx_then (qi h (fun h=> ?_) (fun h=> ?_)))))))
  ·refine jc_seq (jc_region (qh [0,0] ?_))
   obtain⟨x_07,hx_1,h⟩:=bd h
   refine tO (qx 0 A_a 1 hx_1 rfl (A_h.sp (A_i.ixh hx_1)) (jkO (tO (ql 0 false (fun w hm=>((hm.exRowW A_h A_ha).at (A_i.ixh hx_1))) (jkO ?_)))))
   obtain⟨x_08,hx_02,h⟩:=bd h
   refine tO (qx 0 (hd A_hs at1).a 1 hx_02 (A_i.get hx_1).2.1 ((A_i.get hx_1).1.sp hx_02) (jkO (tO (ql 0 false (fun w hm=>((hm.exRowW (A_i.get hx_1).1 (A_i.get hx_1).2.2).at hx_02)) (jkO (qh [0] (qe (jx_then (jc_ret (jx_thenr (jx_thenr ?_)))))))))))
   obtain rfl:=si h
   exact qr [] (fun w hm=>⟨E_I,rfl,hm.pk [0]⟩)
  ·refine jc_skip (jx_then (jc_seq (jc_region (qh [0] (qe (jx_then (jc_ret (jx_thenr ?_))))))))
   obtain rfl:=si h
   exact qr [] (fun w hm=>⟨E_I,rfl,hm.pk [0]⟩)
 ·refine jc_skip (jx_then (jc_seq (jc_seq (jc_region (qh [0,0] ?_)))))
  obtain⟨x_09,hx_6,h⟩:=bd h
  refine tO (qx 0 E_a 1 hx_6 (E_I.1.symm.trans E_I.1) (E_h.sp (E_I.ixh hx_6)) (jkO (tO (ql 0 false (fun w hm=>((hm.exRowW E_h E_ha).at (E_I.ixh hx_6))) (jkO (qh [0] ?_))))))
  obtain⟨x_0a,hx_9,h⟩:=bd h
  refine tO (qx 0 (hd E_hs at1).a 1 hx_9 (E_I.get hx_6).1 (E_I.sp hx_6 hx_9) (jkO (tO (ql 0 false (fun w hm=>(((hm.cluInn 0 E_I encI64_len).get hx_6).1.at hx_9)) (jkO (qh [0] (qe (jx_then (qi h (fun h=> ?_) (fun h=> ?_))))))))))
  ·refine jc_seq (jc_region (qh [0,0] ?_))
   obtain⟨x_0b,hx_2,h⟩:=bd h
   refine tO (qx 0 E_a 1 hx_2 (E_I.1.symm.trans E_I.1) (E_h.sp (E_I.ixh hx_2)) (jkO (tO (ql 0 false (fun w hm=>((hm.exRowW E_h E_ha).at (E_I.ixh hx_2))) (jkO (qh [0] ?_))))))
   obtain⟨x_0c,hx_03,h⟩:=bd h
   refine tO (qx 0 (hd E_hs at1).a 1 hx_03 (E_I.get hx_2).1 (E_I.sp hx_2 hx_03) (jkO (tO (ql 0 false (fun w hm=>(((hm.cluInn 0 E_I encI64_len).get hx_2).1.at hx_03)) (jkO (qh [0] (qe (jx_then (jc_ret (jx_thenr ?_))))))))))
   obtain rfl:=si h
   exact qr [] (fun w hm=>⟨E_I,rfl,hm.pk [0]⟩)
  ·refine jc_skip (jx_then (jc_seq (jc_region (qh [0] (qe (jx_then (jc_seq (jc_seq (jc_region (qh [0] (qe (jx_then (jc_meet (fun(j:(List (List Int))×Int)=>match j with | ⟨xt_5,i_1⟩=>FD.k_8 at1 left2 xt_5 i_1=some r∧(InP E_hs xt_5)) (fun⟨xt_5,i_1⟩=> [(1,[],(vI at1)),(2,[],(vI left2)),(4,[],(.slice E_a known4.length E_c)),(10,[],(vI 0)),(11,[],(vI i_1))]) (fun⟨xt_5,i_1⟩=> [⟨none,CLU,cluC encI64 E_hs xt_5⟩]) ?_ ?_)))))))))))))
   ·refine jc_block ?_
    obtain⟨t_6,ht_0d,hr_0e⟩:=bd h
    refine jl (fun(s:(List (List Int))×Int×Int) (x:Unit)=>match s,x with | ⟨xt_4,i_3,i_0⟩,_=>(InP E_hs xt_4)) (fun⟨xt_4,i_3,i_0⟩ _=> [(0,[],(.slice A_a table0.length A_c)),(1,[],(vI at1)),(2,[],(vI left2)),(3,[],(.bool circle3)),(4,[],(.slice E_a known4.length E_c)),(10,[],(vI 0)),(11,[],(vI i_3)),(12,[],(vI i_0))]) (fun⟨xt_4,i_3,i_0⟩ _=> [⟨none,CLU,cluC encI64 E_hs xt_4⟩]) ht_0d () E_I [0] ?_
    rintro⟨xt_4,i_3,i_0⟩ _ y_0j hI_239 h
    rw [FD.l_13] at h
    refine jc_seq (jc_seq (jc_region (qh [0,0,0,0] (qe (jx_then (qi h (fun h=> ?_) (fun h=> ?_)))))))
    ·refine jc_skip (jx_then (jc_seq (jc_block (jc_seq (jc_seq (jc_region (qh [0,0,0] ?_)))))))
     obtain⟨hg_0f,h⟩:=gd h
     refine tO (pW 0 .i64 left2 .u64 (u64 i_0) hg_0f (jkO (qh [0,0] (qe (jx_then (qi h (fun h=> ?_) (fun h=> ?_)))))))
     ·exact jc_exit (jx_thenx (jx_ine (jx_then (jc_region (qh [0,0,0] (qe (qb (xt_4,i_3,(w64 (i_0+1))) () h hI_239 [0])))))))
     ·refine jc_skip (jx_then (jc_seq (qg [] 19 (qd [⟨0,0,0⟩,⟨1,0,0⟩,⟨4,0,0⟩,⟨7,0,0⟩,⟨8,0,0⟩,⟨9,0,0⟩,⟨10,0,0⟩,⟨11,0,0⟩,⟨14,0,0⟩,⟨15,0,0⟩] 9 [] ?_))))
      obtain⟨x_9,hx_7,h⟩:=bd h
      refine qX 2 0 [] A_a 1 hx_7 rfl (A_h.sp (A_i.ixh hx_7)) (qL 3 0 [] false (fun w hm=>(hm.exRowW A_h A_ha).at (A_i.ixh hx_7)) ?_)
      obtain⟨x_01,hx_04,h⟩:=bd h
      refine qX 5 0 [] ((hd A_hs at1).a) 1 hx_04 (A_i.get hx_7).2.1 ((A_i.get hx_7).1.sp hx_04) (qL 6 0 [] false (fun w hm=>(hm.exRowW (A_i.get hx_7).1 (A_i.get hx_7).2.2).at hx_04) ?_)
      obtain⟨hg_0g,h⟩:=gd h
      refine tD 12 (pV 0 .i64 1 .u64 (u64 i_0) hg_0g (kD [] (qd [⟨13,0,0⟩] 3 [] ?_)))
      obtain⟨t_2,ht_0h,h⟩:=bd h
      refine tD 16 (pc 0 (fun w hm=>hself table0 i_0 (bXor .i64 left2 (bShl .i64 1 (u64 i_0))) circle3 xt_4 w _ A_c (hm.exRowW A_h A_ha) rfl E_c (hm.exRowW E_h E_ha) (hI_239.1.symm.trans E_I.1) hI_239 E_D (hm.cluM 0 hI_239) (hm.exApartM (enc:=encI64) 0 hI_239 A_h A_ha) (hm.innPassM (enc:=encI64) 0 hI_239 A_i) E_ha ht_0h) ?_)
      rintro w v w' hm ⟨hI_257,rfl,hm'⟩
      refine⟨_,hm.appC 0 hI_239 hm',kD [] ?_⟩
      clear hm hm'
      refine qd [⟨17,0,0⟩,⟨18,0,0⟩] 0 [] (qz (jx_then (jc_seq (jc_region (qf [(0,0),(0,0),(0,0),(0,1),(0,1),(0,1),(0,0)] (qe (jx_then (qi h (fun h=> ?_) (fun h=> ?_)))))))))
      ·exact jc_region (qh [0,0] (qe (jx_inn (jx_then (jc_region (qh [0,0,0] (qe (qb (t_2.2,(w64 (x_01+t_2.1)),(w64 (i_0+1))) () h hI_257 [0]))))))))
      ·exact jc_skip (jx_inn (jx_then (jc_region (qh [0,0,0] (qe (qb (t_2.2,i_3,(w64 (i_0+1))) () h hI_257 [0]))))))
    ·refine jc_exit (jx_thenx (jx_leave (xt_4,i_3) (sj h) (fun e_0i=> ?_)))
     subst e_0i
     exact jx_ine (qm ⟨xt_4,i_3⟩ ⟨hr_0e,hI_239⟩ [0])
   ·rintro⟨xt_5,i_1⟩ ⟨h,hI_199⟩
    replace h:FD.k_8 at1 left2 xt_5 i_1=some r:=h
    rw [FD.k_8] at h
    refine jx_then (jc_seq (jc_region (qh [0,0] ?_)))
    obtain⟨x_00,hx_8,h⟩:=bd h
    refine tO (qx 0 E_a 1 hx_8 (hI_199.1.symm.trans E_I.1) (E_h.sp (hI_199.ixh hx_8)) (jkO (tO (ql 0 false (fun w hm=>((hm.exRowW E_h E_ha).at (hI_199.ixh hx_8))) (jkO (qh [0,0] ?_))))))
    obtain⟨x_06,hx_05,h⟩:=bd h
    refine tO (qx 0 (hd E_hs at1).a 1 hx_05 (hI_199.get hx_8).1 (hI_199.sp hx_8 hx_05) (jkO (tO (p_strM 0 0 encI64 E_hs xt_5 at1 left2 x_00 x_06 i_1 1 (by kernel_rfl) (by kernel_rfl) (by kernel_rfl) (by kernel_rfl) hI_199 E_D hx_8 hx_05 encI64_len (by kernel_rfl) (jkO (qe (jx_then (jc_seq (jc_region (qh [0,0] (qe (jx_then (jc_ret ?_)))))))))))))
    obtain rfl:=si h
    exact qr [] (fun w hm=>⟨(hI_199.set hx_8 List.length_set),rfl,hm.pk [0]⟩)
theorem FD.rec_calls(fu:Nat):∀(table0:List (List Int)) (at1:Int) (left2:Int) (circle3:Bool) (known4:List (List Int)) (w:World) (r:Int×(List (List Int))) {A_a:Option Addr} {A_an:Nat} (A_c:Nat) {A_hs:List Hd} (A_h:Rw w A_a 1 encHd A_hs) (A_hn:table0.length=A_an) {E_a:Option Addr} {E_an:Nat} (E_c:Nat) {E_hs:List Hd} (E_h:Rw w E_a 1 encHd E_hs) (E_hn:known4.length=E_an) (E_I:InP E_hs known4) (E_D:Dst E_hs) (hm0:Mem w (hbs E_hs) [⟨none,CLU,cluC encI64 E_hs known4⟩] w) (A_ha:A_hs≠ []→aB A_a∉hbs E_hs) (A_i:Inn w (hbs E_hs) 1 encI64 A_hs table0) (E_ha:E_hs≠ []→aB E_a∉hbs E_hs) (h:FD.rec_ fu table0 at1 left2 circle3 known4=some r),
   Calls Tryz.prog 174 #[(.slice A_a A_an A_c),(vI at1),(vI left2),(.bool circle3),(.slice E_a E_an E_c)] w fun e w'=>∃v,e= .returned v∧(InP E_hs r.2∧v=(vI r.1)∧Mem w (hbs E_hs) [⟨none,CLU,cluC encI64 E_hs r.2⟩] w'):=by
 induction fu with
 | zero=>intros;rename_i h;cases h
 | succ fu ih=>exact @FD.step_calls _ (FD.rec_ fu) @ih
theorem FD.calls(table0:List (List Int))(at1:Int)(left2:Int)(circle3:Bool)(known4:List (List Int))(w:World)(r:Int×(List (List Int))){A_a:Option Addr}{A_an:Nat}(A_c:Nat){A_hs:List Hd}(A_h:Rw w A_a 1 encHd A_hs)(A_hn:table0.length=A_an){E_a:Option Addr}{E_an:Nat}(E_c:Nat){E_hs:List Hd}(E_h:Rw w E_a 1 encHd E_hs)(E_hn:known4.length=E_an)(E_I:InP E_hs known4)(E_D:Dst E_hs)(hm0:Mem w (hbs E_hs) [⟨none,CLU,cluC encI64 E_hs known4⟩] w)(A_ha:A_hs≠ []→aB A_a∉hbs E_hs)(A_i:Inn w (hbs E_hs) 1 encI64 A_hs table0)(E_ha:E_hs≠ []→aB E_a∉hbs E_hs)(h:FD table0 at1 left2 circle3 known4=some r):
   Calls Tryz.prog 174 #[(.slice A_a A_an A_c),(vI at1),(vI left2),(.bool circle3),(.slice E_a E_an E_c)] w fun e w'=>∃v,e= .returned v∧(InP E_hs r.2∧v=(vI r.1)∧Mem w (hbs E_hs) [⟨none,CLU,cluC encI64 E_hs r.2⟩] w'):=
 FD.rec_calls 16 table0 at1 left2 circle3 known4 w r A_c A_h A_hn E_c E_h E_hn E_I E_D hm0 A_ha A_i E_ha h
def Fp.k_4(t_03:Int×(List (List Int)))(xt_0n:List (List Int))(xs_09:List Int):Option ((List Int)×Int):=some (xs_09,t_03.1)
def Fp.k_15(xt_0c:List (List Int))(xs_04:List Int)(i_0i:Int)(i_0j:Int)(i_0k:Int):Option (((List (List Int))×(List Int)×Int×Int×Int)⊕(((List (List Int))×(List Int)))):=some (.inl (xt_0c,xs_04,i_0i,i_0j,i_0k))
def Fp.l_17(table0:List (List Int))(circle2:Bool)(xs_2:List Int)(i_4:Int)(i_8:Int)(i_05:Int):((List (List Int))×Int)→Option (((List (List Int))×Int)⊕(((List (List Int))×(List Int)×Int×Int×Int)))
 | (xt_9,i_0)=>(if(decide (i_0<(table0.length:Int)))=true then(if 0≤(u64 i_0) then(if((Int.tmod (bShr .i64 i_4 (u64 i_0)) 2)==0)=true then some (.inl (xt_9,(w64 (i_0+1)))) else(if 0≤(u64 i_0) then(FD table0 i_0 (bXor .i64 i_4 (bShl .i64 1 (u64 i_0))) circle2 xt_9).bind fun t_0d=>(ix table0 i_8).bind fun x_17=>(ix x_17 i_0).bind fun x_18=>(if((w64 (x_18+t_0d.1))==i_05)=true then(if xs_2.length+([i_0]:List Int).length≤4294967296 then(if 0≤(u64 i_0) then some (.inr (t_0d.2,(xs_2++([i_0]:List Int)),(bXor .i64 i_4 (bShl .i64 1 (u64 i_0))),i_0,t_0d.1)) else none) else none) else some (.inl (t_0d.2,(w64 (i_0+1))))) else none)) else none) else some (.inr (xt_9,xs_2,i_4,i_8,i_05)))
def Fp.l_9(table0:List (List Int))(circle2:Bool):((List (List Int))×(List Int)×Int×Int×Int)→Option (((List (List Int))×(List Int)×Int×Int×Int)⊕(((List (List Int))×(List Int))))
 | (xt_0e,xs_2,i_4,i_8,i_05)=>(if(i_4 !=0)=true then(loop (Fp.l_17 table0 circle2 xs_2 i_4 i_8 i_05) (xt_0e,0)).bind fun t_0s=>Fp.k_15 t_0s.1 t_0s.2.1 t_0s.2.2.1 t_0s.2.2.2.1 t_0s.2.2.2.2 else some (.inr (xt_0e,xs_2)))
def Fp.k_1(table0:List (List Int))(first1:Int)(circle2:Bool)(xt_0f:List (List Int)):Option ((List Int)×Int):=(if 0≤(u64 (table0.length:Int)) then(if 0≤(u64 first1) then(FD table0 first1 (bXor .i64 (w64 ((bShl .i64 1 (u64 (table0.length:Int)))-1)) (bShl .i64 1 (u64 first1))) circle2 xt_0f).bind fun t_03=>(loop (Fp.l_9 table0 circle2) (t_03.2,([first1]:List Int),(bXor .i64 (w64 ((bShl .i64 1 (u64 (table0.length:Int)))-1)) (bShl .i64 1 (u64 first1))),first1,t_03.1)).bind fun t_12=>Fp.k_4 t_03 t_12.1 t_12.2 else none) else none)
def Fp.k_26(xt_5:List (List Int))(i_7:Int)(xs_0a:List Int):Option (((List (List Int))×Int)⊕((List (List Int)))):=(if xt_5.length+1≤4294967296 then some (.inl ((xt_5++ [xs_0a]),(w64 (i_7+1)))) else none)
def Fp.l_29(table0:List (List Int)):((List Int)×Int)→Option (((List Int)×Int)⊕((List Int)))
 | (xs_00,i_06)=>(if(decide (i_06<(((bShl .i64 1 (u64 (table0.length:Int))).toNat):Int)))=true then(ix xs_00 i_06).bind fun x_1j=>some (.inl ((xs_00.set i_06.toNat (-1)),(w64 (i_06+1)))) else some (.inr xs_00))
def Fp.l_23(table0:List (List Int)):((List (List Int))×Int)→Option (((List (List Int))×Int)⊕((List (List Int))))
 | (xt_5,i_7)=>(if(decide (i_7<(table0.length:Int)))=true then(if 0≤(u64 (table0.length:Int)) then(if 0≤(bShl .i64 1 (u64 (table0.length:Int)))∧(bShl .i64 1 (u64 (table0.length:Int)))≤17592186044416 then(loop (Fp.l_29 table0) ((List.replicate (bShl .i64 1 (u64 (table0.length:Int))).toNat 0),0)).bind fun t_19=>Fp.k_26 xt_5 i_7 t_19 else none) else none) else some (.inr xt_5))
def Fp(table0:List (List Int))(first1:Int)(circle2:Bool):Option ((List Int)×Int):=(loop (Fp.l_23 table0) (([]:List (List Int)),0)).bind fun t_1a=>Fp.k_1 table0 first1 circle2 t_1a
set_option maxHeartbeats 8000000 in
theorem Fp.calls(table0:List (List Int))(first1:Int)(circle2:Bool)(w:World)(r:(List Int)×Int){A_a:Option Addr}{A_an:Nat}(A_c:Nat){A_hs:List Hd}(A_h:Rw w A_a 1 encHd A_hs)(A_hn:table0.length=A_an)(A_i:Inn w [] 1 encI64 A_hs table0)(h:Fp table0 first1 circle2=some r):
   Calls Tryz.prog 103 #[(.slice A_a A_an A_c),(vI first1),(.bool circle2)] w fun e w'=>∃v,e= .returned v∧(∃(o0:Option Nat) (c0:Nat) (s0:List Value) (n0:Nat),r.1.length=n0∧(hS o0 n0 c0 s0 1)∧(hO o0 r.1 c0)∧v= .tuple #[.slice (mB o0) n0 c0,(vI r.2)]∧Mem w [] [⟨o0,2,row encI64 r.1 s0⟩] w'):=by
 subst A_hn
 rw [Fp] at h
 refine en Tryz.func103 rfl Tryz.ntmps103 (jc_seq (jc_region (qh [0,0] (qe (jx_then (jc_seq (jc_region (qh [0,0,0] (qe (jx_then (jc_seq (jc_region (tO (qa 0 (fun b_1k=>jk_clu encI64 (jkO (qh [0] (qe (jx_then (jc_seq (jc_seq (jc_region (qh [0] (qe (jx_then (jc_meet (fun(j:(List (List Int))×(List Hd)×(Option Nat)×Nat×(List Value)×Nat)=>match j with | ⟨xt_0f,hh_1,o_6,cap_0b,sp_01,n_0t⟩=>Fp.k_1 table0 first1 circle2 xt_0f=some r∧(hh_1.length=n_0t)∧(hS o_6 n_0t cap_0b sp_01 1)∧(hO o_6 hh_1 cap_0b)∧(InP hh_1 xt_0f)∧(Dst hh_1)) (fun⟨xt_0f,hh_1,o_6,cap_0b,sp_01,n_0t⟩=> [(0,[],(.slice A_a table0.length A_c)),(1,[],(vI first1)),(2,[],(.bool circle2)),(6,[],(.slice none 0 0)),(7,[],(vI 0)),(8,[],(vI (table0.length:Int))),(9,[],(.slice (mB o_6) n_0t cap_0b))]) (fun⟨xt_0f,hh_1,o_6,cap_0b,sp_01,n_0t⟩=> [⟨o_6,60,row encHd hh_1 sp_01⟩,⟨none,CLU,cluC encI64 hh_1 xt_0f⟩]) ?_ ?_))))))))))))))))))))))))))
 ·refine jc_block ?_
  obtain⟨t_1a,ht_1l,hr_1m⟩:=bd h
  refine jl (fun(s:(List (List Int))×Int) (x:(List Hd)×(Option Nat)×Nat×(List Value)×Nat)=>match s,x with | ⟨xt_5,i_7⟩,⟨hh_3,o_02,cap_0g,sp_0l,n_0u⟩=>(hh_3.length=n_0u)∧(hS o_02 n_0u cap_0g sp_0l 1)∧(hO o_02 hh_3 cap_0g)∧(InP hh_3 xt_5)∧(Dst hh_3)) (fun⟨xt_5,i_7⟩ ⟨hh_3,o_02,cap_0g,sp_0l,n_0u⟩=> [(0,[],(.slice A_a table0.length A_c)),(1,[],(vI first1)),(2,[],(.bool circle2)),(6,[],(.slice none 0 0)),(7,[],(vI 0)),(8,[],(vI (table0.length:Int))),(9,[],(.slice (mB o_02) n_0u cap_0g)),(10,[],(vI i_7))]) (fun⟨xt_5,i_7⟩ ⟨hh_3,o_02,cap_0g,sp_0l,n_0u⟩=> [⟨o_02,60,row encHd hh_3 sp_0l⟩,⟨none,CLU,cluC encI64 hh_3 xt_5⟩]) ht_1l ⟨([]:List Hd),(some b_1k),0,[],0⟩ ⟨rfl,(fun _=>⟨Nat.le_refl _,by simp⟩),(fun e=>nomatch e),InP.nil,Dst.nil⟩ [0,1] ?_
  rintro⟨xt_5,i_7⟩ ⟨hh_3,o_02,cap_0g,sp_0l,n_0u⟩ y_1b ⟨rfl,hs_1c,ho_1d,hI_2754,hD_2755⟩ h
  rw [Fp.l_23] at h
  refine jc_seq (jc_seq (jc_region (qh [0,0,0] (qe (jx_then (qi h (fun h=> ?_) (fun h=> ?_)))))))
  ·refine jc_skip (jx_then (jc_seq (jc_block (jc_seq (jc_region (qh [0,0] ?_))))))
   obtain⟨hg_1n,h⟩:=gd h
   refine tO (pV 0 .i64 1 .u64 (u64 (table0.length:Int)) hg_1n (jkO ?_))
   obtain⟨hg_1o,h⟩:=gd h
   refine tO (pQ 0 2 (bShl .i64 1 (u64 (table0.length:Int))) 1 8 encI64 0 hg_1o.1 (by omega) (fun b_07=>jkO (qh [0] (qe (jx_then (jc_seq (jc_seq (jc_region (qh [0] (qe (jx_then (jc_meet (fun(xs_0a:(List Int))=>Fp.k_26 xt_5 i_7 xs_0a=some y_1b∧(xs_0a.length=(bShl .i64 1 (u64 (table0.length:Int))).toNat)) (fun xs_0a=> [(0,[],(.slice A_a table0.length A_c)),(1,[],(vI first1)),(2,[],(.bool circle2)),(6,[],(.slice none 0 0)),(7,[],(vI 0)),(8,[],(vI (table0.length:Int))),(9,[],(.slice (mB o_02) hh_3.length cap_0g)),(10,[],(vI i_7)),(11,[],(.slice (sB b_07) ((bShl .i64 1 (u64 (table0.length:Int))).toNat) ((bShl .i64 1 (u64 (table0.length:Int))).toNat)))]) (fun xs_0a=> [⟨o_02,60,row encHd hh_3 sp_0l⟩,⟨none,CLU,cluC encI64 hh_3 xt_5⟩,⟨(some b_07),2,row encI64 xs_0a []⟩]) ?_ ?_))))))))))))
   ·refine jc_block ?_
    obtain⟨t_19,ht_1p,hr_1q⟩:=bd h
    refine jl (fun(s:(List Int)×Int) (x:Unit)=>match s,x with | ⟨xs_00,i_06⟩,_=>(xs_00.length=(bShl .i64 1 (u64 (table0.length:Int))).toNat)) (fun⟨xs_00,i_06⟩ _=> [(0,[],(.slice A_a table0.length A_c)),(1,[],(vI first1)),(2,[],(.bool circle2)),(6,[],(.slice none 0 0)),(7,[],(vI 0)),(8,[],(vI (table0.length:Int))),(9,[],(.slice (mB o_02) hh_3.length cap_0g)),(10,[],(vI i_7)),(11,[],(.slice (sB b_07) ((bShl .i64 1 (u64 (table0.length:Int))).toNat) ((bShl .i64 1 (u64 (table0.length:Int))).toNat))),(12,[],(vI i_06))]) (fun⟨xs_00,i_06⟩ _=> [⟨o_02,60,row encHd hh_3 sp_0l⟩,⟨none,CLU,cluC encI64 hh_3 xt_5⟩,⟨(some b_07),2,row encI64 xs_00 []⟩]) ht_1p () List.length_replicate [0,1,2] ?_
    rintro⟨xs_00,i_06⟩ _ y_2o hn_13 h
    rw [Fp.l_29] at h
    refine jc_seq (jc_seq (jc_region (qh [0,0,0,0] (qe (jx_then (qi h (fun h=> ?_) (fun h=> ?_)))))))
    ·refine jc_skip (jx_then (jc_seq (jc_block (jc_region (qh [0,0] ?_)))))
     obtain⟨x_1j,hx_1e,h⟩:=bd h
     exact tO (qx 0 (sB b_07) 1 hx_1e hn_13 rfl (jkO (tO (pT 0 2 b_07 2 encI64 xs_00 [] i_06 (-1) 1 0 [(vI (-1))] encI64_len hx_1e (jkO (qe (jx_inn (jx_then (jc_region (qh [0,0,0] (qe (qb ((xs_00.set i_06.toNat (-1)),(w64 (i_06+1))) () h (List.length_set.trans hn_13) [0,1,2]))))))))))))
    ·refine jc_exit (jx_thenx (jx_leave xs_00 (sj h) (fun e_1r=> ?_)))
     subst e_1r
     exact jx_ine (qm xs_00 ⟨hr_1q,hn_13⟩ [0,1,2])
   ·rintro xs_0a ⟨h,hn_1s⟩
    replace h:Fp.k_26 xt_5 i_7 xs_0a=some y_1b:=h
    rw [Fp.k_26] at h
    refine jx_then (jc_region (qh [0,0] (tO (qa 0 (fun b_1f=>jkO ?_)))))
    obtain⟨hg_1t,h⟩:=gd h
    exact tO (pA 0 0 o_02 60 hh_3.length 1 cap_0g 1 24 (sB b_1f) encHd hh_3 [(Hd.mk (sB b_07) ((bShl .i64 1 (u64 (table0.length:Int))).toNat) ((bShl .i64 1 (u64 (table0.length:Int))).toNat))] sp_0l (.slice none 0 0) rfl rfl encHd_len encHd_cell hs_1c ho_1d (fun w hm=>(hm.ow 3 (some b_1f) 60 ([(Hd.mk (sB b_07) ((bShl .i64 1 (u64 (table0.length:Int))).toNat) ((bShl .i64 1 (u64 (table0.length:Int))).toNat))]) [] (fun e=>nomatch e) encHd_len)) (tabbig hI_2754 hg_1t) (fun o_1u cap_1v sp_1w hs_1x ho_1y=>jk_frzD (enc:=encI64) (hs:=hh_3) (xss:=xt_5) (o:=(some b_07)) (T:=2) (xs:=xs_0a) (sp:= []) 1 2 ((bShl .i64 1 (u64 (table0.length:Int))).toNat) ((bShl .i64 1 (u64 (table0.length:Int))).toNat) hI_2754 hD_2755 (fun hD_2816=>jkO (qh [0] (qe (jx_inn (jx_then (jc_region (qh [0,0,0] (qe (qb ((xt_5++ [xs_0a]),(w64 (i_7+1))) ⟨(hh_3++ [(Hd.mk (sB b_07) ((bShl .i64 1 (u64 (table0.length:Int))).toNat) ((bShl .i64 1 (u64 (table0.length:Int))).toNat))]),o_1u,cap_1v,sp_1w,(hh_3++ [(Hd.mk (sB b_07) ((bShl .i64 1 (u64 (table0.length:Int))).toNat) ((bShl .i64 1 (u64 (table0.length:Int))).toNat))]).length⟩ h ⟨rfl,hs_1x,ho_1y,(hI_2754.snoc (o:=(some b_07)) hn_1s (fun e=>nomatch e)),hD_2816⟩ [0,1])))))))))))
  ·refine jc_exit (jx_thenx (jx_leave xt_5 (sj h) (fun e_1z=> ?_)))
   subst e_1z
   exact jx_ine (qm ⟨xt_5,hh_3,o_02,cap_0g,sp_0l,hh_3.length⟩ ⟨hr_1m,rfl,hs_1c,ho_1d,hI_2754,hD_2755⟩ [0,1])
 ·rintro⟨xt_0f,hh_1,o_6,cap_0b,sp_01,n_0t⟩ ⟨h,rfl,hs_2p,ho_11,hI_767,hD_768⟩
  replace h:Fp.k_1 table0 first1 circle2 xt_0f=some r:=h
  rw [Fp.k_1] at h
  refine jx_then (jc_seq (jc_region (qh [0,0] ?_)))
  obtain⟨hg_20,h⟩:=gd h
  refine tO (pV 0 .i64 1 .u64 (u64 (table0.length:Int)) hg_20 (jkO (qh [0,0,0] ?_)))
  obtain⟨hg_21,h⟩:=gd h
  refine tO (pV 0 .i64 1 .u64 (u64 first1) hg_21 (jkO (qh [0,0] (qe (jx_then (jc_seq (jc_region (qh [0,0,0,0,0] ?_))))))))
  obtain⟨t_03,ht_22,h⟩:=bd h
  refine tO (pc 0 (fun w hm=>FD.calls table0 first1 (bXor .i64 (w64 ((bShl .i64 1 (u64 (table0.length:Int)))-1)) (bShl .i64 1 (u64 first1))) circle2 xt_0f w _ A_c (hm.xr A_h) rfl cap_0b (hm.ow 0 o_6 60 hh_1 sp_01 (fun e=>(ho_11 e).1) encHd_len) (hI_767.1.symm.trans rfl) hI_767 hD_768 (hm.cluM 1 hI_767) (hm.exApartM (enc:=encI64) 1 hI_767 A_h (fun _=>List.not_mem_nil)) (hm.innPassM (enc:=encI64) 1 hI_767 A_i) (hm.ownApartM (enc:=encI64) (R:=Hd) (hh:=0) (o:=o_6) (T:=60) (cs:=row encHd hh_1 sp_01) (xs:=hh_1) 1 hI_767 (by kernel_rfl) (fun e=>(ho_11 e).1)) ht_22) ?_)
  rintro w v w' hm ⟨hI_772,rfl,hm'⟩
  refine⟨_,hm.appC 1 hI_767 hm',jkO ?_⟩
  clear hm hm'
  refine qh [0] (qe (jx_then (jc_seq (jc_region (qh [0] (tO (qa 0 (fun b_23=>jkO (qh [0] (qe (jx_then (jc_seq (jc_region (qh [0,0] (qe (jx_then (jc_seq (jc_region (qh [0,0] (qe (jx_then (jc_seq (jc_meet (fun(j:(List (List Int))×(List Int)×(Option Nat)×Nat×(List Value)×Nat)=>match j with | ⟨xt_0n,xs_09,o_0o,cap_0q,sp_0v,n_0w⟩=>Fp.k_4 t_03 xt_0n xs_09=some r∧(InP hh_1 xt_0n)∧(xs_09.length=n_0w)∧(hS o_0o n_0w cap_0q sp_0v 1)∧(hO o_0o xs_09 cap_0q)) (fun⟨xt_0n,xs_09,o_0o,cap_0q,sp_0v,n_0w⟩=> [(6,[],(.slice none 0 0)),(7,[],(vI 0)),(14,[],(vI t_03.1)),(15,[],(.slice (mB o_0o) n_0w cap_0q))]) (fun⟨xt_0n,xs_09,o_0o,cap_0q,sp_0v,n_0w⟩=> [⟨o_6,60,row encHd hh_1 sp_01⟩,⟨none,CLU,cluC encI64 hh_1 xt_0n⟩,⟨o_0o,2,row encI64 xs_09 sp_0v⟩]) ?_ ?_)))))))))))))))))))))))
  ·refine jc_block ?_
   obtain⟨t_12,ht_24,hr_25⟩:=bd h
   refine jl (fun(s:(List (List Int))×(List Int)×Int×Int×Int) (x:(Option Nat)×Nat×(List Value)×Nat)=>match s,x with | ⟨xt_0e,xs_2,i_4,i_8,i_05⟩,⟨o_08,cap_0h,sp_0m,n_0x⟩=>(InP hh_1 xt_0e)∧(xs_2.length=n_0x)∧(hS o_08 n_0x cap_0h sp_0m 1)∧(hO o_08 xs_2 cap_0h)) (fun⟨xt_0e,xs_2,i_4,i_8,i_05⟩ ⟨o_08,cap_0h,sp_0m,n_0x⟩=> [(0,[],(.slice A_a table0.length A_c)),(2,[],(.bool circle2)),(6,[],(.slice none 0 0)),(7,[],(vI 0)),(8,[],(vI (table0.length:Int))),(9,[],(.slice (mB o_6) hh_1.length cap_0b)),(13,[],(vI i_4)),(14,[],(vI t_03.1)),(15,[],(.slice (mB o_08) n_0x cap_0h)),(16,[],(vI i_8)),(17,[],(vI i_05))]) (fun⟨xt_0e,xs_2,i_4,i_8,i_05⟩ ⟨o_08,cap_0h,sp_0m,n_0x⟩=> [⟨o_6,60,row encHd hh_1 sp_01⟩,⟨none,CLU,cluC encI64 hh_1 xt_0e⟩,⟨o_08,2,row encI64 xs_2 sp_0m⟩]) ht_24 ⟨(some b_23),1,[],1⟩ ⟨hI_772,rfl,(fun _=>⟨Nat.le_refl _,by simp⟩),(fun e=>nomatch e)⟩ [0,1,2] ?_
   rintro⟨xt_0e,xs_2,i_4,i_8,i_05⟩ ⟨o_08,cap_0h,sp_0m,n_0x⟩ y_1g ⟨hI_2281,rfl,hs_14,ho_15⟩ h
   rw [Fp.l_9] at h
   refine jc_seq (jc_seq (jc_region (qh [0,0] (qe (jx_then (qi h (fun h=> ?_) (fun h=> ?_)))))))
   ·refine jc_skip (jx_then (jc_block (jc_seq (jc_region (qh [0] (qe (jx_then (jc_meet (fun(j:(List (List Int))×(List Int)×Int×Int×Int×(Option Nat)×Nat×(List Value)×Nat)=>match j with | ⟨xt_0c,xs_04,i_0i,i_0j,i_0k,o_0p,cap_0r,sp_0y,n_0z⟩=>Fp.k_15 xt_0c xs_04 i_0i i_0j i_0k=some y_1g∧(InP hh_1 xt_0c)∧(xs_04.length=n_0z)∧(hS o_0p n_0z cap_0r sp_0y 1)∧(hO o_0p xs_04 cap_0r)) (fun⟨xt_0c,xs_04,i_0i,i_0j,i_0k,o_0p,cap_0r,sp_0y,n_0z⟩=> [(0,[],(.slice A_a table0.length A_c)),(2,[],(.bool circle2)),(6,[],(.slice none 0 0)),(7,[],(vI 0)),(8,[],(vI (table0.length:Int))),(9,[],(.slice (mB o_6) hh_1.length cap_0b)),(13,[],(vI i_0i)),(14,[],(vI t_03.1)),(15,[],(.slice (mB o_0p) n_0z cap_0r)),(16,[],(vI i_0j)),(17,[],(vI i_0k))]) (fun⟨xt_0c,xs_04,i_0i,i_0j,i_0k,o_0p,cap_0r,sp_0y,n_0z⟩=> [⟨o_6,60,row encHd hh_1 sp_01⟩,⟨none,CLU,cluC encI64 hh_1 xt_0c⟩,⟨o_0p,2,row encI64 xs_04 sp_0y⟩]) ?_ ?_))))))))
    ·refine jc_block ?_
     obtain⟨t_0s,ht_26,hr_1h⟩:=bd h
     refine jl (fun(s:(List (List Int))×Int) (x:Unit)=>match s,x with | ⟨xt_9,i_0⟩,_=>(InP hh_1 xt_9)) (fun⟨xt_9,i_0⟩ _=> [(0,[],(.slice A_a table0.length A_c)),(2,[],(.bool circle2)),(6,[],(.slice none 0 0)),(7,[],(vI 0)),(8,[],(vI (table0.length:Int))),(9,[],(.slice (mB o_6) hh_1.length cap_0b)),(13,[],(vI i_4)),(14,[],(vI t_03.1)),(15,[],(.slice (mB o_08) xs_2.length cap_0h)),(16,[],(vI i_8)),(17,[],(vI i_05)),(18,[],(vI i_0))]) (fun⟨xt_9,i_0⟩ _=> [⟨o_6,60,row encHd hh_1 sp_01⟩,⟨none,CLU,cluC encI64 hh_1 xt_9⟩,⟨o_08,2,row encI64 xs_2 sp_0m⟩]) ht_26 () hI_2281 [0,1,2] ?_
     rintro⟨xt_9,i_0⟩ _ y_2q hI_2558 h
     rw [Fp.l_17] at h
     refine jc_seq (jc_seq (jc_region (qh [0,0,0] (qe (jx_then (qi h (fun h=> ?_) (fun h=> ?_)))))))
     ·refine jc_skip (jx_then (jc_seq (jc_block (jc_seq (jc_seq (jc_region (qh [0,0,0] ?_)))))))
      obtain⟨hg_27,h⟩:=gd h
      refine tO (pW 0 .i64 i_4 .u64 (u64 i_0) hg_27 (jkO (qh [0,0] (qe (jx_then (qi h (fun h=> ?_) (fun h=> ?_)))))))
      ·exact jc_exit (jx_thenx (jx_ine (jx_then (jc_region (qh [0,0,0] (qe (qb (xt_9,(w64 (i_0+1))) () h hI_2558 [0,1,2])))))))
      ·refine jc_skip (jx_then (jc_seq (jc_region (qh [0,0,0,0,0] ?_))))
       obtain⟨hg_28,h⟩:=gd h
       refine tO (pV 0 .i64 1 .u64 (u64 i_0) hg_28 (jkO (qh [0,0,0] ?_)))
       obtain⟨t_0d,ht_29,h⟩:=bd h
       refine tO (pc 0 (fun w hm=>FD.calls table0 i_0 (bXor .i64 i_4 (bShl .i64 1 (u64 i_0))) circle2 xt_9 w _ A_c (hm.xr A_h) rfl cap_0b (hm.ow 0 o_6 60 hh_1 sp_01 (fun e=>(ho_11 e).1) encHd_len) (hI_2558.1.symm.trans rfl) hI_2558 hD_768 (hm.cluM 1 hI_2558) (hm.exApartM (enc:=encI64) 1 hI_2558 A_h (fun _=>List.not_mem_nil)) (hm.innPassM (enc:=encI64) 1 hI_2558 A_i) (hm.ownApartM (enc:=encI64) (R:=Hd) (hh:=0) (o:=o_6) (T:=60) (cs:=row encHd hh_1 sp_01) (xs:=hh_1) 1 hI_2558 (by kernel_rfl) (fun e=>(ho_11 e).1)) ht_29) ?_)
       rintro w v w' hm ⟨hI_2569,rfl,hm'⟩
       refine⟨_,hm.appC 1 hI_2558 hm',jkO ?_⟩
       clear hm hm'
       refine qh [0] (qe (jx_then (jc_seq (jc_region (qh [0,0] ?_)))))
       obtain⟨x_17,hx_10,h⟩:=bd h
       refine tO (qx 0 A_a 1 hx_10 rfl (A_h.sp (A_i.ixh hx_10)) (jkO (tO (ql 0 false (fun w hm=>((hm.xr A_h).at (A_i.ixh hx_10))) (jkO (qh [0] ?_))))))
       obtain⟨x_18,hx_16,h⟩:=bd h
       refine tO (qx 0 (hd A_hs i_8).a 1 hx_16 (A_i.get hx_10).2.1 ((A_i.get hx_10).1.sp hx_16) (jkO (tO (ql 0 false (fun w hm=>((hm.exRow (A_i.get hx_10).1 List.not_mem_nil).at hx_16)) (jkO (qh [0,0,0,0] (qe (jx_then (qi h (fun h=> ?_) (fun h=> ?_))))))))))
       ·refine jc_seq (jc_region (qh [0,0] (tO (qa 0 (fun b_1i=>jkO ?_)))))
        obtain⟨hg_2a,h⟩:=gd h
        refine tO (pA 0 2 o_08 2 xs_2.length 1 cap_0h 1 8 (sB b_1i) encI64 xs_2 ([i_0]:List Int) sp_0m (vI 0) rfl rfl encI64_len encI64_cell hs_14 ho_15 (fun w hm=>(hm.ow 3 (some b_1i) 2 ([i_0]:List Int) [] (fun e=>nomatch e) encI64_len)) hg_2a (fun o_2b cap_2c sp_2d hs_2e ho_2f=>jkO (qh [0] (qe (jx_then (jc_seq (jc_region (qh [0,0,0] ?_))))))))
        obtain⟨hg_2g,h⟩:=gd h
        refine tO (pV 0 .i64 1 .u64 (u64 i_0) hg_2g (jkO (qh [0,0] (qe (jx_then (jc_seq (jc_region (qh [0,0] (qe (jx_then (jc_seq (jc_region (qh [0,0] (qe (jx_then (jc_exit (jx_inx rfl (jx_thenx (jx_leave (t_0d.2,(xs_2++([i_0]:List Int)),(bXor .i64 i_4 (bShl .i64 1 (u64 i_0))),i_0,t_0d.1) (sj h) (fun e_2h=> ?_))))))))))))))))))))
        subst e_2h
        exact jx_ine (qm ⟨t_0d.2,(xs_2++([i_0]:List Int)),(bXor .i64 i_4 (bShl .i64 1 (u64 i_0))),i_0,t_0d.1,o_2b,cap_2c,sp_2d,(xs_2++([i_0]:List Int)).length⟩ ⟨hr_1h,hI_2569,rfl,hs_2e,ho_2f⟩ [0,1,2])
       ·exact jc_skip (jx_inn (jx_then (jc_region (qh [0,0,0] (qe (qb (t_0d.2,(w64 (i_0+1))) () h hI_2569 [0,1,2]))))))
     ·refine jc_exit (jx_thenx (jx_leave (xt_9,xs_2,i_4,i_8,i_05) (sj h) (fun e_2i=> ?_)))
      subst e_2i
      exact jx_ine (qm ⟨xt_9,xs_2,i_4,i_8,i_05,o_08,cap_0h,sp_0m,xs_2.length⟩ ⟨hr_1h,hI_2558,rfl,hs_14,ho_15⟩ [0,1,2])
    ·rintro⟨xt_0c,xs_04,i_0i,i_0j,i_0k,o_0p,cap_0r,sp_0y,n_0z⟩ ⟨h,hI_2508,rfl,hs_2j,ho_2k⟩
     replace h:Fp.k_15 xt_0c xs_04 i_0i i_0j i_0k=some y_1g:=h
     rw [Fp.k_15] at h
     exact jx_inn (qb (xt_0c,xs_04,i_0i,i_0j,i_0k) ⟨o_0p,cap_0r,sp_0y,xs_04.length⟩ h ⟨hI_2508,rfl,hs_2j,ho_2k⟩ [0,1,2])
   ·refine jc_exit (jx_thenx (jx_leave (xt_0e,xs_2) (sj h) (fun e_2l=> ?_)))
    subst e_2l
    exact jx_ine (qm ⟨xt_0e,xs_2,o_08,cap_0h,sp_0m,xs_2.length⟩ ⟨hr_25,hI_2281,rfl,hs_14,ho_15⟩ [0,1,2])
  ·rintro⟨xt_0n,xs_09,o_0o,cap_0q,sp_0v,n_0w⟩ ⟨h,hI_1677,rfl,hs_2m,ho_2n⟩
   replace h:Fp.k_4 t_03 xt_0n xs_09=some r:=h
   rw [Fp.k_4] at h
   refine jx_then (jc_seq (jc_region (qh [0,0,0,0] (qe (jx_then (jc_ret ?_))))))
   obtain rfl:=si h
   exact qr [] (fun w hm=>⟨o_0o,cap_0q,sp_0v,xs_09.length,rfl,hs_2m,ho_2n,rfl,hm.pk [2]⟩)
def Fae.k_7(xs_3:List Int)(i_7:Int):Option ((List Int)×Int×Int):=some (xs_3,i_7,0)
def Fae.l_11(list1:List (Arr 96 Int))(t_4:(List (List Int))):((List Int)×Int×Int)→Option (((List Int)×Int×Int)⊕(((List Int)×Int)))
 | (xs_2,i_0,i_1)=>(if(decide (i_1<(list1.length:Int)))=true then(Fp t_4 i_1 false).bind fun t_5=>(if(decide (t_5.2<i_0))=true then some (.inl (t_5.1,t_5.2,(w64 (i_1+1)))) else some (.inl (xs_2,i_0,(w64 (i_1+1))))) else some (.inr (xs_2,i_0)))
def Fae(f0:GFrame)(list1:List (Arr 96 Int))(first2:Int):Option ((List Int)×Int×Int):=(F1 f0 list1 first2).bind fun t_8=>(if(t_8 !=0)=true then some (([]:List Int),0,t_8) else(FM list1).bind fun t_4=>(if(decide (first2≥0))=true then(Fp t_4 first2 false).bind fun t_08=>some (t_08.1,t_08.2,0) else(Fp t_4 0 false).bind fun t_09=>(loop (Fae.l_11 list1 t_4) (t_09.1,t_09.2,1)).bind fun t_0a=>Fae.k_7 t_0a.1 t_0a.2))
theorem Fae.calls(f0:GFrame)(list1:List (Arr 96 Int))(first2:Int)(w:World)(r:(List Int)×Int×Int){C_a:Option Addr}{C_an:Nat}(C_c:Nat)(C_h:Rw w C_a 2 encGHammer f0.fHammers)(C_hn:f0.fHammers.length=C_an){D_a:Option Addr}{D_an:Nat}(D_c:Nat)(D_h:Rw w D_a 96 encA96U32 list1)(D_hn:list1.length=D_an)(h:Fae f0 list1 first2=some r):
   Calls Tryz.prog 27 #[(.agg #[(vH f0.fSteps),(.slice C_a C_an C_c)]),(.slice D_a D_an D_c),(vI first2)] w fun e w'=>∃v,e= .returned v∧(∃(o0:Option Nat) (c0:Nat) (s0:List Value) (n0:Nat),r.1.length=n0∧(hS o0 n0 c0 s0 1)∧(hO o0 r.1 c0)∧v= .tuple #[.slice (mB o0) n0 c0,(vI r.2.1),(vI r.2.2)]∧Mem w [] [⟨o0,2,row encI64 r.1 s0⟩] w'):=by
 subst C_hn D_hn
 rw [Fae] at h
 refine en Tryz.func27 rfl Tryz.ntmps27 (jc_seq (jc_region (tO (qa 0 (fun b_8=>jkO (qh [0,0,0] (qe (jx_then (jc_seq (jc_seq (jc_region (qh [0,0] ?_))))))))))))
 obtain⟨t_8,ht_3,h⟩:=bd h
 refine tO (pc 0 (fun w hm=>F1.calls f0 list1 first2 w _ C_c (hm.xr C_h) rfl D_c (hm.xr D_h) rfl b_8 (hm.ps [0]) (hm.xp C_h (fun _=>List.not_mem_nil) [0]) (hm.xp D_h (fun _=>List.not_mem_nil) [0]) ht_3) ?_)
 rintro w v w' hm ⟨rfl,hm'⟩
 refine⟨_,hm.appW (ps:= [(0,⟨some b_8,27,[(vH f0.fSteps),(.slice C_a f0.fHammers.length C_c)]⟩)]) (N:= []) hm' (by kernel_rfl) (by kernel_rfl),jkO ?_⟩
 clear hm hm'
 refine qh [0] (qe (jx_then (jc_seq (jc_region (qh [0,0] (qe (jx_then (qi h (fun h=> ?_) (fun h=> ?_)))))))))
 ·refine jc_seq (jc_region (tO (qa 0 (fun b_0d=>jkO (qh [0,0,0,0] (qe (jx_then (jc_ret (jx_thenr ?_)))))))))
  obtain rfl:=si h
  exact qr [] (fun w hm=>⟨(some b_0d),0,[],0,rfl,(fun _=>⟨Nat.le_refl _,by simp⟩),(fun e=>nomatch e),rfl,hm.pk [1]⟩)
 ·refine jc_skip (jx_then (jc_seq (jc_region (qh [0] ?_))))
  obtain⟨t_4,ht_2,h⟩:=bd h
  refine tO (pc 0 (fun w hm=>FM.calls list1 w _ D_c (hm.xr D_h) rfl ht_2) ?_)
  rintro w v w' hm ⟨o_0,cap_1,sp_07,_,hh_9,hI_15,rfl,hs_0a,ho_5,rfl,hm'⟩
  refine aq hm hm' (jkO (qh [0] (qe (jx_then (jc_seq (jc_seq (jc_region (qh [0,0] (qe (jx_then (qi h (fun h=> ?_) (fun h=> ?_))))))))))))
  ·refine jc_seq (jc_region (qh [0,0] ?_))
   obtain⟨t_08,ht_0e,h⟩:=bd h
   refine tO (pc 0 (fun w hm=>Fp.calls t_4 first2 false w _ cap_1 (hm.ow 1 o_0 60 hh_9 sp_07 (fun e=>(ho_5 e).1) encHd_len) (hI_15.1.symm.trans rfl) (hm.cluPass (N:= []) 2 hI_15 encI64_len []) ht_0e) ?_)
   rintro w v w' hm ⟨o_0f,cap_0g,sp_0h,_,rfl,hs_0i,ho_0j,rfl,hm'⟩
   refine aq hm hm' (jkO (qh [0,0,0,0,0] (qe (jx_then (jc_seq (jc_region (qh [0,0,0,0,0] (qe (jx_then (jc_ret (jx_thenr ?_)))))))))))
   obtain rfl:=si h
   exact qr [] (fun w hm=>⟨o_0f,cap_0g,sp_0h,t_08.1.length,rfl,hs_0i,ho_0j,rfl,hm.pk [3]⟩)
  ·refine jc_skip (jx_then (jc_seq (jc_region (qh [0] ?_))))
   obtain⟨t_09,ht_0k,h⟩:=bd h
   refine tO (pc 0 (fun w hm=>Fp.calls t_4 0 false w _ cap_1 (hm.ow 1 o_0 60 hh_9 sp_07 (fun e=>(ho_5 e).1) encHd_len) (hI_15.1.symm.trans rfl) (hm.cluPass (N:= []) 2 hI_15 encI64_len []) ht_0k) ?_)
   rintro w v w' hm ⟨o_0l,cap_0m,sp_0n,_,rfl,hs_0o,ho_0p,rfl,hm'⟩
   refine aq hm hm' (jkO (qh [0,0,0,0,0] (qe (jx_then (jc_seq (jc_seq (jc_region (qh [0] (qe (jx_then (jc_meet (fun(j:(List Int)×Int×(Option Nat)×Nat×(List Value)×Nat)=>match j with | ⟨xs_3,i_7,o_00,cap_02,sp_04,n_05⟩=>Fae.k_7 xs_3 i_7=some r∧(xs_3.length=n_05)∧(hS o_00 n_05 cap_02 sp_04 1)∧(hO o_00 xs_3 cap_02)) (fun⟨xs_3,i_7,o_00,cap_02,sp_04,n_05⟩=> [(6,[],(.slice none 0 0)),(7,[],(vI 0)),(8,[],(vI 0)),(13,[],(.slice (mB o_00) n_05 cap_02)),(14,[],(vI i_7))]) (fun⟨xs_3,i_7,o_00,cap_02,sp_04,n_05⟩=> [⟨some b_8,27,[(vH f0.fSteps),(.slice C_a f0.fHammers.length C_c)]⟩,⟨o_0,60,row encHd hh_9 sp_07⟩,⟨none,CLU,cluC encI64 hh_9 t_4⟩,⟨none,0,[]⟩,⟨o_00,2,row encI64 xs_3 sp_04⟩]) ?_ ?_)))))))))))
   ·refine jc_block ?_
    obtain⟨t_0a,ht_0q,hr_0r⟩:=bd h
    refine jc_ghost 0 (fun(_:Unit)=>([]:List Value)) (jl (fun(s:(List Int)×Int×Int) (x:(Option Nat)×Nat×(List Value)×Nat)=>match s,x with | ⟨xs_2,i_0,i_1⟩,⟨o_6,cap_01,sp_03,n_06⟩=>(xs_2.length=n_06)∧(hS o_6 n_06 cap_01 sp_03 1)∧(hO o_6 xs_2 cap_01)) (fun⟨xs_2,i_0,i_1⟩ ⟨o_6,cap_01,sp_03,n_06⟩=> [(1,[],(.slice D_a list1.length D_c)),(6,[],(.slice none 0 0)),(7,[],(vI 0)),(8,[],(vI 0)),(10,[],(.slice (mB o_0) hh_9.length cap_1)),(13,[],(.slice (mB o_6) n_06 cap_01)),(14,[],(vI i_0)),(15,[],(vI i_1))]) (fun⟨xs_2,i_0,i_1⟩ ⟨o_6,cap_01,sp_03,n_06⟩=> [⟨some b_8,27,[(vH f0.fSteps),(.slice C_a f0.fHammers.length C_c)]⟩,⟨o_0,60,row encHd hh_9 sp_07⟩,⟨none,CLU,cluC encI64 hh_9 t_4⟩,⟨none,0,[]⟩,⟨o_6,2,row encI64 xs_2 sp_03⟩]) ht_0q ⟨o_0l,cap_0m,sp_0n,t_09.1.length⟩ ⟨rfl,hs_0o,ho_0p⟩ [0,1,2,4,3] ?_)
    rintro⟨xs_2,i_0,i_1⟩ ⟨o_6,cap_01,sp_03,n_06⟩ y_11 ⟨rfl,hs_0b,ho_0c⟩ h
    rw [Fae.l_11] at h
    refine jc_seq (jc_seq (jc_region (qh [0,0,0,0] (qe (jx_then (qi h (fun h=> ?_) (fun h=> ?_)))))))
    ·refine jc_skip (jx_then (jc_seq (jc_block (jc_seq (jc_region (qh [0,0] ?_))))))
     obtain⟨t_5,ht_0s,h⟩:=bd h
     refine tO (pc 0 (fun w hm=>Fp.calls t_4 i_1 false w _ cap_1 (hm.ow 1 o_0 60 hh_9 sp_07 (fun e=>(ho_5 e).1) encHd_len) (hI_15.1.symm.trans rfl) (hm.cluPass (N:= []) 2 hI_15 encI64_len []) ht_0s) ?_)
     rintro w v w' hm ⟨o_0t,cap_0u,sp_0v,_,rfl,hs_0w,ho_0x,rfl,hm'⟩
     refine aq hm hm' (jkO (qh [0,0,0,0,0] (qe (jx_then (jc_seq (jc_region (qh [0,0,0] (qe (jx_then (qi h (fun h=> ?_) (fun h=> ?_)))))))))))
     ·exact jc_seq (jc_region (qh [0,0] (qe (jx_then (jc_region (qh [0,0] (qe (jx_inn (jx_then (jc_region (qh [0,0,0] (qe (qb (t_5.1,t_5.2,(w64 (i_1+1))) ⟨o_0t,cap_0u,sp_0v,t_5.1.length⟩ h ⟨rfl,hs_0w,ho_0x⟩ [0,1,2,3,5])))))))))))))
     ·exact jc_skip (jx_inn (jx_then (jc_region (qh [0,0,0] (qe (qb (xs_2,i_0,(w64 (i_1+1))) ⟨o_6,cap_01,sp_03,xs_2.length⟩ h ⟨rfl,hs_0b,ho_0c⟩ [0,1,2,3,4]))))))
    ·refine jc_exit (jx_thenx (jx_leave (xs_2,i_0) (sj h) (fun e_0y=> ?_)))
     subst e_0y
     exact jx_ine (qm ⟨xs_2,i_0,o_6,cap_01,sp_03,xs_2.length⟩ ⟨hr_0r,rfl,hs_0b,ho_0c⟩ [0,1,2,3,4])
   ·rintro⟨xs_3,i_7,o_00,cap_02,sp_04,n_05⟩ ⟨h,rfl,hs_0z,ho_10⟩
    replace h:Fae.k_7 xs_3 i_7=some r:=h
    rw [Fae.k_7] at h
    refine jx_then (jc_seq (jc_region (qh [0,0,0,0,0] (qe (jx_then (jc_ret ?_))))))
    obtain rfl:=si h
    exact qr [] (fun w hm=>⟨o_00,cap_02,sp_04,xs_3.length,rfl,hs_0z,ho_10,rfl,hm.pk [4]⟩)
def Fas.k_1:Option (Bool):=some true
def Fas.l_3(a0:List Int)(b1:List Int):Int→Option ((Int)⊕(Bool⊕Unit))
 | i_0=>(if(decide (i_0<(a0.length:Int)))=true then(ix a0 i_0).bind fun x_3=>(ix b1 i_0).bind fun x_4=>(if(x_3 !=x_4)=true then some (.inr (.inl false)) else some (.inl (w64 (i_0+1)))) else some (.inr (.inr ())))
def Fas(a0:List Int)(b1:List Int):Option (Bool):=(if((a0.length:Int) !=(b1.length:Int))=true then some false else(loop (Fas.l_3 a0 b1) 0).bind fun t_5=>match t_5 with | .inl p=>some p | .inr p=>Fas.k_1)
theorem Fas.calls(a0:List Int)(b1:List Int)(w:World)(r:Bool){A_a:Option Addr}{A_an:Nat}(A_c:Nat)(A_h:Rw w A_a 1 encI64 a0)(A_hn:a0.length=A_an){B_a:Option Addr}{B_an:Nat}(B_c:Nat)(B_h:Rw w B_a 1 encI64 b1)(B_hn:b1.length=B_an)(h:Fas a0 b1=some r):
   Calls Tryz.prog 104 #[(.slice A_a A_an A_c),(.slice B_a B_an B_c)] w fun e w'=>∃v,e= .returned v∧(v=(.bool r)∧Mem w [] [] w'):=by
 subst A_hn B_hn
 rw [Fas] at h
 refine en Tryz.func104 rfl Tryz.ntmps104 (jc_seq (jc_region (qh [0] (qe (jx_then (jc_seq (jc_seq (jc_region (qh [0,0,0,0,0] (qe (jx_then (qi h (fun h=> ?_) (fun h=> ?_)))))))))))))
 ·refine jc_seq (jc_region (qh [0] (qe (jx_then (jc_ret (jx_thenr ?_))))))
  obtain rfl:=si h
  exact qr [] (fun w hm=>⟨rfl,hm.pk []⟩)
 ·refine jc_skip (jx_then (jc_seq (jc_seq (jc_region (qh [0] (qe (jx_then (jc_meet (fun(_:Unit)=>Fas.k_1=some r) (fun(_:Unit)=> [(4,[],(.bool false))]) (fun(_:Unit)=> []) ?_ ?_))))))))
  ·refine jc_block ?_
   obtain⟨t_5,ht_7,hr_6⟩:=bd h
   refine jl (fun(i_0:Int) (_:Unit)=>True) (fun i_0 _=> [(0,[],(.slice A_a a0.length A_c)),(1,[],(.slice B_a b1.length B_c)),(4,[],(.bool false)),(5,[],(vI i_0))]) (fun i_0 _=> []) ht_7 () trivial [] ?_
   rintro i_0 _ y_00 _ h
   rw [Fas.l_3] at h
   refine jc_seq (jc_seq (jc_region (qh [0,0,0,0] (qe (jx_then (qi h (fun h=> ?_) (fun h=> ?_)))))))
   ·refine jc_skip (jx_then (jc_seq (jc_block (jc_seq (qg [] 9 (qd [⟨0,0,0⟩,⟨1,0,0⟩,⟨4,0,0⟩,⟨5,0,0⟩] 5 [] ?_))))))
    obtain⟨x_3,hx_1,h⟩:=bd h
    refine qX 2 0 [] A_a 1 hx_1 rfl (A_h.sp hx_1) (qL 3 0 [] false (fun w hm=>(hm.xr A_h).at hx_1) ?_)
    obtain⟨x_4,hx_2,h⟩:=bd h
    refine qX 6 0 [] B_a 1 hx_2 rfl (B_h.sp hx_2) (qL 7 0 [] false (fun w hm=>(hm.xr B_h).at hx_2) (qd [⟨8,0,0⟩] 0 [] (qz (jx_then (qi h (fun h=> ?_) (fun h=> ?_))))))
    ·refine jc_seq (jc_region (qh [0] (qe (jx_then (jc_ret (jx_inr (jx_thenr (jx_leaver (.inl false) (sj h) (fun e_8=> ?_)))))))))
     subst e_8
     refine jx_inr (jx_thenr (jx_thenr ?_))
     obtain rfl:=si hr_6
     exact qr [] (fun w hm=>⟨rfl,hm.pk []⟩)
    ·exact jc_skip (jx_inn (jx_then (jc_region (qh [0,0,0] (qe (qb (w64 (i_0+1)) () h trivial []))))))
   ·refine jc_exit (jx_thenx (jx_leave (.inr ()) (sj h) (fun e_9=> ?_)))
    subst e_9
    exact jx_ine (qm () hr_6 [])
  ·rintro _ h
   replace h:Fas.k_1=some r:=h
   rw [Fas.k_1] at h
   refine jx_then (jc_seq (jc_region (qh [0] (qe (jx_then (jc_ret ?_))))))
   obtain rfl:=si h
   exact qr [] (fun w hm=>⟨rfl,hm.pk []⟩)
def FbO(a0:List Int)(b1:List Int):Option (Bool):=(Fas a0 b1).bind fun t_0=>some t_0
theorem FbO.calls(a0:List Int)(b1:List Int)(w:World)(r:Bool){A_a:Option Addr}{A_an:Nat}(A_c:Nat)(A_h:Rw w A_a 1 encI64 a0)(A_hn:a0.length=A_an){B_a:Option Addr}{B_an:Nat}(B_c:Nat)(B_h:Rw w B_a 1 encI64 b1)(B_hn:b1.length=B_an)(h:FbO a0 b1=some r):
   Calls Tryz.prog 28 #[(.slice A_a A_an A_c),(.slice B_a B_an B_c)] w fun e w'=>∃v,e= .returned v∧(v=(.bool r)∧Mem w [] [] w'):=by
 subst A_hn B_hn
 rw [FbO] at h
 refine en Tryz.func28 rfl Tryz.ntmps28 (jc_seq (jc_region (qh [0] (qe (jx_then (jc_seq (jc_region (qh [0,0] ?_))))))))
 obtain⟨t_0,ht_0,h⟩:=bd h
 refine tO (pq 0 (fun w hm=>Fas.calls a0 b1 w _ A_c (hm.xr A_h) rfl B_c (hm.xr B_h) rfl ht_0) (jkO (qh [0] (qe (jx_then (jc_ret ?_))))))
 obtain rfl:=si h
 exact qr [] (fun w hm=>⟨rfl,hm.pk []⟩)
def FR.k_7(xs_00:List Int)(i_06:Int)(i_07:Int):Option ((List Int)):=some xs_00
def FR.l_12(code0:List Int):((List Int)×Int×Int×Int)→Option (((List Int)×Int×Int×Int)⊕(((List Int)×Int×Int)))
 | (xs_2,i_01,i_02,i_3)=>(if(decide (i_3>0))=true then(Fo (⟨code0,i_01,i_02⟩:Gl00Src) (w64 (i_3+1))).bind fun t_7=>(ix xs_2 i_3).bind fun x_0d=>(ix xs_2 t_7.1).bind fun x_08=>(ix xs_2 i_3).bind fun x_0n=>(ix (xs_2.set i_3.toNat x_08) t_7.1).bind fun x_0o=>some (.inl (((xs_2.set i_3.toNat x_08).set t_7.1.toNat x_0d),t_7.2.fat,t_7.2.fseed,(w64 (i_3-1)))) else some (.inr (xs_2,i_01,i_02)))
def FR.k_3(code0:List Int)(n1:Int)(t_6:Gl00Src)(xs_0:List Int):Option ((List Int)):=(loop (FR.l_12 code0) (xs_0,t_6.fat,t_6.fseed,(w64 (n1-1)))).bind fun t_0e=>FR.k_7 t_0e.1 t_0e.2.1 t_0e.2.2
def FR.l_21(n1:Int):((List Int)×Int)→Option (((List Int)×Int)⊕((List Int)))
 | (xs_4,i_5)=>(if(decide (i_5<n1))=true then(if xs_4.length+([i_5]:List Int).length≤4294967296 then some (.inl ((xs_4++([i_5]:List Int)),(w64 (i_5+1)))) else none) else some (.inr xs_4))
def FR(code0:List Int)(n1:Int):Option ((List Int)):=(FaJ code0).bind fun t_6=>(loop (FR.l_21 n1) (([]:List Int),0)).bind fun t_0j=>FR.k_3 code0 n1 t_6 t_0j
theorem FR.calls(code0:List Int)(n1:Int)(w:World)(r:(List Int)){A_a:Option Addr}{A_an:Nat}(A_c:Nat)(A_h:Rw w A_a 1 encU8 code0)(A_hn:code0.length=A_an)(h:FR code0 n1=some r):
   Calls Tryz.prog 30 #[(.slice A_a A_an A_c),(vI n1)] w fun e w'=>∃v,e= .returned v∧(∃(o0:Option Nat) (c0:Nat) (s0:List Value) (n0:Nat),r.length=n0∧(hS o0 n0 c0 s0 1)∧(hO o0 r c0)∧v= .slice (mB o0) n0 c0∧Mem w [] [⟨o0,2,row encI64 r s0⟩] w'):=by
 subst A_hn
 rw [FR] at h
 refine en Tryz.func30 rfl Tryz.ntmps30 (jc_seq (jc_region (qh [0] (qe (jx_then (jc_seq (jc_region (qh [0] ?_))))))))
 obtain⟨t_6,ht_6,h⟩:=bd h
 refine tO (pc 0 (fun w hm=>FaJ.calls code0 w _ A_c (hm.xr A_h) rfl ht_6) ?_)
 rintro w v w' hm ⟨b_0,rfl,hm'⟩
 refine aq hm hm' (jkO (qh [0] (qe (jx_then (jc_seq (jc_region (tO (qa 0 (fun b_0p=>jkO (qh [0] (qe (jx_then (jc_seq (jc_seq (jc_region (qh [0] (qe (jx_then (jc_meet (fun(j:(List Int)×(Option Nat)×Nat×(List Value)×Nat)=>match j with | ⟨xs_0,o_1,cap_9,sp_8,n_0a⟩=>FR.k_3 code0 n1 t_6 xs_0=some r∧(xs_0.length=n_0a)∧(hS o_1 n_0a cap_9 sp_8 1)∧(hO o_1 xs_0 cap_9)) (fun⟨xs_0,o_1,cap_9,sp_8,n_0a⟩=> [(1,[],(vI n1)),(4,[],(.slice none 0 0)),(5,[],(vP b_0)),(6,[],(.slice (mB o_1) n_0a cap_9))]) (fun⟨xs_0,o_1,cap_9,sp_8,n_0a⟩=> [⟨some b_0,179,[(.slice A_a code0.length A_c),(vI t_6.fat),(.int .u64 t_6.fseed)]⟩,⟨o_1,2,row encI64 xs_0 sp_8⟩]) ?_ ?_)))))))))))))))))))
 ·refine jc_block ?_
  obtain⟨t_0j,ht_0q,hr_0r⟩:=bd h
  refine jl (fun(s:(List Int)×Int) (x:(Option Nat)×Nat×(List Value)×Nat)=>match s,x with | ⟨xs_4,i_5⟩,⟨o_04,cap_05,sp_09,n_0b⟩=>(xs_4.length=n_0b)∧(hS o_04 n_0b cap_05 sp_09 1)∧(hO o_04 xs_4 cap_05)) (fun⟨xs_4,i_5⟩ ⟨o_04,cap_05,sp_09,n_0b⟩=> [(1,[],(vI n1)),(4,[],(.slice none 0 0)),(5,[],(vP b_0)),(6,[],(.slice (mB o_04) n_0b cap_05)),(7,[],(vI i_5))]) (fun⟨xs_4,i_5⟩ ⟨o_04,cap_05,sp_09,n_0b⟩=> [⟨some b_0,179,[(.slice A_a code0.length A_c),(vI t_6.fat),(.int .u64 t_6.fseed)]⟩,⟨o_04,2,row encI64 xs_4 sp_09⟩]) ht_0q ⟨(some b_0p),0,[],0⟩ ⟨rfl,(fun _=>⟨Nat.le_refl _,by simp⟩),(fun e=>nomatch e)⟩ [0,1] ?_
  rintro⟨xs_4,i_5⟩ ⟨o_04,cap_05,sp_09,n_0b⟩ y_17 ⟨rfl,hs_0k,ho_0l⟩ h
  rw [FR.l_21] at h
  refine jc_seq (jc_seq (jc_region (qh [0,0,0] (qe (jx_then (qi h (fun h=> ?_) (fun h=> ?_)))))))
  ·refine jc_skip (jx_then (jc_seq (jc_block (jc_region (qh [0,0] (tO (qa 0 (fun b_0m=>jkO ?_))))))))
   obtain⟨hg_0s,h⟩:=gd h
   exact tO (pA 0 1 o_04 2 xs_4.length 1 cap_05 1 8 (sB b_0m) encI64 xs_4 ([i_5]:List Int) sp_09 (vI 0) rfl rfl encI64_len encI64_cell hs_0k ho_0l (fun w hm=>(hm.ow 2 (some b_0m) 2 ([i_5]:List Int) [] (fun e=>nomatch e) encI64_len)) hg_0s (fun o_0t cap_0u sp_0v hs_0w ho_0x=>jkO (qh [0] (qe (jx_inn (jx_then (jc_region (qh [0,0,0] (qe (qb ((xs_4++([i_5]:List Int)),(w64 (i_5+1))) ⟨o_0t,cap_0u,sp_0v,(xs_4++([i_5]:List Int)).length⟩ h ⟨rfl,hs_0w,ho_0x⟩ [0,1]))))))))))
  ·refine jc_exit (jx_thenx (jx_leave xs_4 (sj h) (fun e_0y=> ?_)))
   subst e_0y
   exact jx_ine (qm ⟨xs_4,o_04,cap_05,sp_09,xs_4.length⟩ ⟨hr_0r,rfl,hs_0k,ho_0l⟩ [0,1])
 ·rintro⟨xs_0,o_1,cap_9,sp_8,n_0a⟩ ⟨h,rfl,hs_0z,ho_10⟩
  replace h:FR.k_3 code0 n1 t_6 xs_0=some r:=h
  rw [FR.k_3] at h
  refine jx_then (jc_seq (jc_seq (jc_region (qh [0,0,0] (qe (jx_then (jc_meet (fun(j:(List Int)×Int×Int)=>match j with | ⟨xs_00,i_06,i_07⟩=>FR.k_7 xs_00 i_06 i_07=some r∧(xs_00.length=xs_0.length)∧(hO o_1 xs_00 cap_9)) (fun⟨xs_00,i_06,i_07⟩=> [(4,[],(.slice none 0 0)),(6,[],(.slice (mB o_1) xs_0.length cap_9))]) (fun⟨xs_00,i_06,i_07⟩=> [⟨some b_0,179,[(.slice A_a code0.length A_c),(vI i_06),(.int .u64 i_07)]⟩,⟨o_1,2,row encI64 xs_00 sp_8⟩]) ?_ ?_)))))))
  ·refine jc_block ?_
   obtain⟨t_0e,ht_11,hr_12⟩:=bd h
   refine jl (fun(s:(List Int)×Int×Int×Int) (x:Unit)=>match s,x with | ⟨xs_2,i_01,i_02,i_3⟩,_=>(xs_2.length=xs_0.length)∧(hO o_1 xs_2 cap_9)) (fun⟨xs_2,i_01,i_02,i_3⟩ _=> [(4,[],(.slice none 0 0)),(5,[],(vP b_0)),(6,[],(.slice (mB o_1) xs_0.length cap_9)),(8,[],(vI i_3))]) (fun⟨xs_2,i_01,i_02,i_3⟩ _=> [⟨some b_0,179,[(.slice A_a code0.length A_c),(vI i_01),(.int .u64 i_02)]⟩,⟨o_1,2,row encI64 xs_2 sp_8⟩]) ht_11 () ⟨rfl,ho_10⟩ [0,1] ?_
   rintro⟨xs_2,i_01,i_02,i_3⟩ _ y_18 ⟨hn_0c,ho_03⟩ h
   rw [FR.l_12] at h
   refine jc_seq (jc_seq (jc_region (qh [0,0] (qe (jx_then (qi h (fun h=> ?_) (fun h=> ?_)))))))
   ·refine jc_skip (jx_then (jc_seq (jc_block (jc_seq (jc_region (qh [0,0,0] ?_))))))
    obtain⟨t_7,ht_13,h⟩:=bd h
    refine tO (pc 0 (fun w hm=>Fo.calls (⟨code0,i_01,i_02⟩:Gl00Src) (w64 (i_3+1)) w _ A_c (hm.xr A_h) rfl b_0 (hm.ps [0]) (hm.xp A_h (fun _=>List.not_mem_nil) [0]) ht_13) ?_)
    rintro w v w' hm ⟨rfl,hm'⟩
    refine⟨_,hm.appW (ps:= [(0,⟨some b_0,179,[(.slice A_a code0.length A_c),(vI t_7.2.fat),(.int .u64 t_7.2.fseed)]⟩)]) (N:= []) hm' (by kernel_rfl) (by kernel_rfl),jkO ?_⟩
    clear hm hm'
    refine qh [0] (qe (jx_then (jc_seq (jc_region (qh [0,0] ?_)))))
    obtain⟨x_0d,hx_0f,h⟩:=bd h
    refine tO (qx 0 (mB o_1) 1 hx_0f hn_0c (spo ho_03 hx_0f) (jkO (tO (ql 0 false (fun w hm=>((hm.ow 1 o_1 2 xs_2 sp_8 (fun e=>(ho_03 e).1) encI64_len).at hx_0f)) (jkO (qh [0] (qe (jx_then (jc_seq (jc_region (qh [0,0,0,0] ?_)))))))))))
    obtain⟨x_08,hx_0g,h⟩:=bd h
    refine tO (qx 0 (mB o_1) 1 hx_0g hn_0c (spo ho_03 hx_0g) (jkO (tO (ql 0 false (fun w hm=>((hm.ow 1 o_1 2 xs_2 sp_8 (fun e=>(ho_03 e).1) encI64_len).at hx_0g)) (jkO ?_)))))
    obtain⟨x_0n,hx_0h,h⟩:=bd h
    refine tO (qx 0 (mB o_1) 1 hx_0h hn_0c (spo ho_03 hx_0h) (jkO (tO (pO 0 1 o_1 2 encI64 xs_2 sp_8 i_3 x_08 1 0 [(vI x_08)] (fun e=>(ho_03 e).1) encI64_len hx_0h (jkO (qe (jx_then (jc_region (qh [0,0,0] ?_)))))))))
    obtain⟨x_0o,hx_0i,h⟩:=bd h
    exact tO (qx 0 (mB o_1) 1 hx_0i (List.length_set.trans hn_0c) (spo (set_ho ho_03) hx_0i) (jkO (tO (pO 0 1 o_1 2 encI64 (xs_2.set i_3.toNat x_08) sp_8 t_7.1 x_0d 1 0 [(vI x_0d)] (fun e=>((set_ho ho_03) e).1) encI64_len hx_0i (jkO (qe (jx_inn (jx_then (jc_region (qh [0,0,0] (qe (qb (((xs_2.set i_3.toNat x_08).set t_7.1.toNat x_0d),t_7.2.fat,t_7.2.fseed,(w64 (i_3-1))) () h ⟨(List.length_set.trans (List.length_set.trans hn_0c)),(set_ho (set_ho ho_03))⟩ [0,1]))))))))))))
   ·refine jc_exit (jx_thenx (jx_leave (xs_2,i_01,i_02) (sj h) (fun e_14=> ?_)))
    subst e_14
    exact jx_ine (qm ⟨xs_2,i_01,i_02⟩ ⟨hr_12,hn_0c,ho_03⟩ [0,1])
  ·rintro⟨xs_00,i_06,i_07⟩ ⟨h,hn_15,ho_16⟩
   replace h:FR.k_7 xs_00 i_06 i_07=some r:=h
   rw [FR.k_7] at h
   refine jx_then (jc_seq (jc_region (qh [0,0] (qe (jx_then (jc_ret ?_))))))
   obtain rfl:=si h
   exact qr [] (fun w hm=>⟨o_1,cap_9,sp_8,xs_0.length,hn_15,hs_0z,ho_16,rfl,hm.pk [1]⟩)
def Fat.k_1:Option (Bool):=some true
def Fat.l_3(order0:List Int)(n1:Int):Int→Option ((Int)⊕(Bool⊕Unit))
 | i_0=>(if(decide (i_0<n1))=true then(Faw order0 i_0).bind fun t_1=>(if(!t_1)=true then some (.inr (.inl false)) else some (.inl (w64 (i_0+1)))) else some (.inr (.inr ())))
def Fat(order0:List Int)(n1:Int):Option (Bool):=(if((order0.length:Int) !=n1)=true then some false else(loop (Fat.l_3 order0 n1) 0).bind fun t_2=>match t_2 with | .inl p=>some p | .inr p=>Fat.k_1)
theorem Fat.calls(order0:List Int)(n1:Int)(w:World)(r:Bool){A_a:Option Addr}{A_an:Nat}(A_c:Nat)(A_h:Rw w A_a 1 encI64 order0)(A_hn:order0.length=A_an)(h:Fat order0 n1=some r):
   Calls Tryz.prog 106 #[(.slice A_a A_an A_c),(vI n1)] w fun e w'=>∃v,e= .returned v∧(v=(.bool r)∧Mem w [] [] w'):=by
 subst A_hn
 rw [Fat] at h
 refine en Tryz.func106 rfl Tryz.ntmps106 (jc_seq (jc_region (qh [0] (qe (jx_then (jc_seq (jc_seq (jc_region (qh [0,0,0,0] (qe (jx_then (qi h (fun h=> ?_) (fun h=> ?_)))))))))))))
 ·refine jc_seq (jc_region (qh [0] (qe (jx_then (jc_ret (jx_thenr ?_))))))
  obtain rfl:=si h
  exact qr [] (fun w hm=>⟨rfl,hm.pk []⟩)
 ·refine jc_skip (jx_then (jc_seq (jc_seq (jc_region (qh [0,0] (qe (jx_then (jc_meet (fun(_:Unit)=>Fat.k_1=some r) (fun(_:Unit)=> [(4,[],(.bool false))]) (fun(_:Unit)=> []) ?_ ?_))))))))
  ·refine jc_block ?_
   obtain⟨t_2,ht_4,hr_3⟩:=bd h
   refine jl (fun(i_0:Int) (_:Unit)=>True) (fun i_0 _=> [(0,[],(.slice A_a order0.length A_c)),(4,[],(.bool false)),(10,[],(vI n1)),(11,[],(vI i_0))]) (fun i_0 _=> []) ht_4 () trivial [] ?_
   rintro i_0 _ y_8 _ h
   rw [Fat.l_3] at h
   refine jc_seq (jc_region (qh [0] (qe (jx_then (jc_seq (qi h (fun h=> ?_) (fun h=> ?_)))))))
   ·refine jc_skip (jx_then (jc_seq (jc_block (jc_seq (jc_region (qh [0,0] (qe (jx_then (jc_seq (jc_region (qh [0,0] ?_)))))))))))
    obtain⟨t_1,ht_5,h⟩:=bd h
    refine tO (pq 0 (fun w hm=>Faw.calls order0 i_0 w _ A_c (hm.xr A_h) rfl ht_5) (jkO (qh [0] (qe (jx_then (qi h (fun h=> ?_) (fun h=> ?_)))))))
    ·refine jc_seq (jc_region (qh [0] (qe (jx_then (jc_ret (jx_inr (jx_thenr (jx_leaver (.inl false) (sj h) (fun e_6=> ?_)))))))))
     subst e_6
     refine jx_inr (jx_thenr (jx_thenr ?_))
     obtain rfl:=si hr_3
     exact qr [] (fun w hm=>⟨rfl,hm.pk []⟩)
    ·exact jc_skip (jx_inn (jx_then (jc_region (qh [0,0] (qe (qb (w64 (i_0+1)) () h trivial []))))))
   ·refine jc_exit (jx_thenx (jx_leave (.inr ()) (sj h) (fun e_7=> ?_)))
    subst e_7
    exact jx_ine (qm () hr_3 [])
  ·rintro _ h
   replace h:Fat.k_1=some r:=h
   rw [Fat.k_1] at h
   refine jx_then (jc_seq (jc_region (qh [0] (qe (jx_then (jc_ret ?_))))))
   obtain rfl:=si h
   exact qr [] (fun w hm=>⟨rfl,hm.pk []⟩)
def Fbp(f0:GFrame)(list1:List (Arr 96 Int))(order2:List Int):Option (Int×Int):=(Fa9 f0 list1).bind fun t_0=>(Fat order2 (list1.length:Int)).bind fun t_2=>(FQ t_2 4).bind fun t_1=>(Ff ([t_0,t_1]:List Int)).bind fun t_3=>(if(t_3 !=0)=true then some (0,t_3) else(F7 list1).bind fun t_4=>(FX t_4 order2).bind fun t_5=>some (t_5,0))
theorem Fbp.calls(f0:GFrame)(list1:List (Arr 96 Int))(order2:List Int)(w:World)(r:Int×Int){C_a:Option Addr}{C_an:Nat}(C_c:Nat)(C_h:Rw w C_a 2 encGHammer f0.fHammers)(C_hn:f0.fHammers.length=C_an){D_a:Option Addr}{D_an:Nat}(D_c:Nat)(D_h:Rw w D_a 96 encA96U32 list1)(D_hn:list1.length=D_an){E_a:Option Addr}{E_an:Nat}(E_c:Nat)(E_h:Rw w E_a 1 encI64 order2)(E_hn:order2.length=E_an)(h:Fbp f0 list1 order2=some r):
   Calls Tryz.prog 29 #[(.agg #[(vH f0.fSteps),(.slice C_a C_an C_c)]),(.slice D_a D_an D_c),(.slice E_a E_an E_c)] w fun e w'=>∃v,e= .returned v∧(v= .tuple #[(vI r.1),(vI r.2)]∧Mem w [] [] w'):=by
 subst C_hn D_hn E_hn
 rw [Fbp] at h
 refine en Tryz.func29 rfl Tryz.ntmps29 (jc_seq (jc_region (tO (qa 0 (fun b_0=>jkO (qh [0,0] (qe (jx_then (jc_seq (jc_seq (jc_region (qh [0,0] ?_))))))))))))
 obtain⟨t_0,ht_6,h⟩:=bd h
 refine tO (pq 0 (fun w hm=>Fa9.calls f0 list1 w _ C_c (hm.xr C_h) rfl D_c (hm.xr D_h) rfl ht_6) (jkO (qh [0,0,0] ?_)))
 obtain⟨t_2,ht_7,h⟩:=bd h
 refine tO (pq 0 (fun w hm=>Fat.calls order2 (list1.length:Int) w _ E_c (hm.xr E_h) rfl ht_7) (jkO ?_))
 obtain⟨t_1,ht_8,h⟩:=bd h
 refine tO (pq 0 (fun w hm=>FQ.calls t_2 4 w _ ht_8) (jkO (tO (qa 0 (fun b_9=>jkO ?_)))))
 obtain⟨t_3,ht_00,h⟩:=bd h
 refine tO (pq 0 (fun w hm=>Ff.calls ([t_0,t_1]:List Int) w _ 2 (hm.ow 1 (some b_9) 2 ([t_0,t_1]:List Int) [] (fun e=>nomatch e) encI64_len) rfl ht_00) (jkO (qh [0] (qe (jx_then (jc_seq (jc_region (qh [0,0] (qe (jx_then (qi h (fun h=> ?_) (fun h=> ?_))))))))))))
 ·refine jc_seq (jc_region (qh [0,0,0] (qe (jx_then (jc_ret (jx_thenr ?_))))))
  obtain rfl:=si h
  exact qr [] (fun w hm=>⟨rfl,hm.pk []⟩)
 ·refine jc_skip (jx_then (jc_seq (jc_region (qh [0] ?_))))
  obtain⟨t_4,ht_01,h⟩:=bd h
  refine tO (pc 0 (fun w hm=>F7.calls list1 w _ D_c (hm.xr D_h) rfl ht_01) ?_)
  rintro w v w' hm ⟨o_02,cap_03,sp_04,_,hh_05,hI_21,rfl,hs_08,ho_06,rfl,hm'⟩
  refine aq hm hm' (jkO (qh [0] ?_))
  obtain⟨t_5,ht_07,h⟩:=bd h
  refine tO (pq 0 (fun w hm=>FX.calls t_4 order2 w _ cap_03 (hm.ow 2 o_02 60 hh_05 sp_04 (fun e=>(ho_06 e).1) encHd_len) (hI_21.1.symm.trans rfl) (hm.cluPass (N:= []) 3 hI_21 encI64_len []) E_c (hm.xr E_h) rfl ht_07) (jkO (qh [0,0] (qe (jx_then (jc_ret ?_))))))
  obtain rfl:=si h
  exact qr [] (fun w hm=>⟨rfl,hm.pk []⟩)
def laws_FnTop.k_26(more1:List Int)(t_7:GFrame)(t_6:(List (Arr 96 Int)))(t_03:(List Int)×Int×Int)(t_04:(List Int)×Int×Int)(q_0b:Bool):Option (Bool):=(if q_0b=true then some false else(if(t_03.2.2 !=0)=true then some (t_03.2.2==6) else(FR more1 (t_6.length:Int)).bind fun t_0d=>(Fbp t_7 t_6 t_0d).bind fun t_08=>some ((t_08.2==0)&&(decide (t_08.1≥t_04.2.1)))))
def laws_FnTop.k_20(code0:List Int)(more1:List Int):Option (Bool):=(FbJ more1).bind fun t_7=>(Fao code0 t_7).bind fun t_6=>(Fbo t_7 t_6 (-1)).bind fun t_03=>(Fae t_7 t_6 (-1)).bind fun t_04=>(if(t_03.2.2 !=t_04.2.2)=true then laws_FnTop.k_26 more1 t_7 t_6 t_03 t_04 true else(FbO t_03.1 t_04.1).bind fun t_0z=>laws_FnTop.k_26 more1 t_7 t_6 t_03 t_04 ((!t_0z) || (t_03.2.1 !=t_04.2.1)))
def laws_FnTop.k_19(code0:List Int)(more1:List Int)(t_0:GFrame×(List GNote))(t_8:(List GChoice)×Int×Int)(t_9:(List GChoice)×Int×Int)(q_06:Bool):Option (Bool):=(if q_06=true then some false else(if(t_8.2.2==0)=true then(Fa3 t_0.1 t_0.2 t_9.1).bind fun t_0g=>(if((t_0g.2 !=0) || (!t_0g.1))=true then some false else laws_FnTop.k_20 code0 more1) else laws_FnTop.k_20 code0 more1))
def laws_FnTop.k_15(code0:List Int)(more1:List Int)(t_0:GFrame×(List GNote))(t_3:GCosts)(q_0e:Bool):Option (Bool):=(if q_0e=true then some false else(Fan t_0.1 t_0.2 t_3 20000).bind fun t_8=>(FbI t_0.1 t_0.2 t_3 20000).bind fun t_9=>(if(t_8.2.2 !=t_9.2.2)=true then laws_FnTop.k_19 code0 more1 t_0 t_8 t_9 true else(FN t_8.1 t_9.1).bind fun t_0v=>laws_FnTop.k_19 code0 more1 t_0 t_8 t_9 ((!t_0v) || (t_8.2.1 !=t_9.2.1))))
def laws_FnTop(code0:List Int)(more1:List Int):Option (Bool):=(laws_a2Long code0 more1).bind fun t_1c=>(if t_1c=true then some true else(FbD code0).bind fun t_0=>(FbE more1).bind fun t_3=>(Fav t_0.1 t_0.2 t_3).bind fun t_0a=>(FH t_0.1 t_0.2 t_3).bind fun t_00=>(Fbh t_0.1 t_0.2 t_00.1).bind fun t_2=>(FbG t_0.1 t_0.2 t_00.1).bind fun t_1=>(Fbm t_0.1 t_0.2 t_00.1).bind fun t_5=>(FbM t_0.1 t_1.1).bind fun t_09=>(FbN t_0.1 t_1.1).bind fun t_4=>(Fbi t_0.1 t_1.1).bind fun t_01=>(Fam t_0.1).bind fun t_05=>(FbH t_05.1 t_4.1).bind fun t_02=>(if((t_0a.2 !=t_00.2) || (t_0a.2 !=0))=true then laws_FnTop.k_15 code0 more1 t_0 t_3 true else(FN t_0a.1 t_00.1).bind fun t_0c=>(if(((!t_0c) || (t_2.2 !=t_1.2)) || (t_2.2 !=0))=true then laws_FnTop.k_15 code0 more1 t_0 t_3 true else(if((((!(t_2.1.1==t_1.1.1)) || (t_5.2 !=0)) || (t_09.2 !=t_4.2)) || (t_09.2 !=0))=true then laws_FnTop.k_15 code0 more1 t_0 t_3 true else(Fa8 t_09.1 t_4.1).bind fun t_10=>(if(!t_10)=true then laws_FnTop.k_15 code0 more1 t_0 t_3 true else(Fa8 t_5.1 t_4.1).bind fun t_07=>laws_FnTop.k_15 code0 more1 t_0 t_3 ((((((!t_07) || (t_01.2 !=0)) || (!t_01.1)) || (t_05.2 !=0)) || (t_02.2 !=0)) || (!t_02.1)))))))
set_option maxHeartbeats 8000000 in
theorem laws_FnTop.calls(code0:List Int)(more1:List Int)(w:World)(r:Bool){A_a:Option Addr}{A_an:Nat}(A_c:Nat)(A_h:Rw w A_a 1 encU8 code0)(A_hn:code0.length=A_an){B_a:Option Addr}{B_an:Nat}(B_c:Nat)(B_h:Rw w B_a 1 encU8 more1)(B_hn:more1.length=B_an)(h:laws_FnTop code0 more1=some r):
   Calls Tryz.prog 3 #[(.slice A_a A_an A_c),(.slice B_a B_an B_c)] w fun e w'=>∃v,e= .returned v∧(v=(.bool r)∧Mem w [] [] w'):=by
 subst A_hn B_hn
 rw [laws_FnTop] at h
 refine en Tryz.func3 rfl Tryz.ntmps3 (jc_seq (jc_region (qh [0] (qe (jx_then (jc_seq (jc_seq (jc_region (qh [0,0] ?_)))))))))
 obtain⟨t_1c,ht_3,h⟩:=bd h
 refine tO (pq 0 (fun w hm=>laws_a2Long.calls code0 more1 w _ A_c (hm.xr A_h) rfl B_c (hm.xr B_h) rfl ht_3) (jkO (qe (jx_then (qi h (fun h=> ?_) (fun h=> ?_))))))
 ·refine jc_seq (jc_region (qh [0] (qe (jx_then (jc_ret (jx_thenr ?_))))))
  obtain rfl:=si h
  exact qr [] (fun w hm=>⟨rfl,hm.pk []⟩)
 ·refine jc_skip (jx_then (jc_seq (jc_region (qh [0] ?_))))
  obtain⟨t_0,ht_00,h⟩:=bd h
  refine tO (pc 0 (fun w hm=>FbD.calls code0 w _ A_c (hm.xr A_h) rfl ht_00) ?_)
  rintro w v w' hm ⟨o_2,cap_1,sp_5,_,rfl,hs_09,ho_4,o_01,cap_05,sp_02,_,rfl,hs_0e,ho_0h,rfl,hm'⟩
  refine aq hm hm' (jkO (qh [0,0,0] (tO (qa 0 (fun b_8=>jkO (tO (qs 0 [2] (jkO (qh [0] (qe (jx_then (jc_seq (jc_region (qh [0] ?_))))))))))))))
  obtain⟨t_3,ht_9,h⟩:=bd h
  refine tO (pq 0 (fun w hm=>FbE.calls more1 w _ B_c (hm.xr B_h) rfl ht_9) (jkO (tO (qa 0 (fun b_06=>jkO (tO (qs 0 [3] (jkO (qe (jx_then (jc_seq (jc_region (qh [2,0,3] ?_)))))))))))))
  obtain⟨t_0a,ht_1e,h⟩:=bd h
  refine tO (pc 0 (fun w hm=>Fav.calls t_0.1 t_0.2 t_3 w _ cap_1 (hm.ow 0 o_2 132 t_0.1.fHammers sp_5 (fun e=>(ho_4 e).1) encGHammer_len) rfl cap_05 (hm.ow 1 o_01 101 t_0.2 sp_02 (fun e=>(ho_0h e).1) encGNote_len) rfl ht_1e) ?_)
  rintro w v w' hm ⟨o_0m,cap_7,sp_6,_,rfl,hs_03,ho_04,rfl,hm'⟩
  refine aq hm hm' (jkO (qh [0,0,0,0,0] (qe (jx_then (jc_seq (jc_region (qh [2,0,3] ?_)))))))
  obtain⟨t_00,ht_0b,h⟩:=bd h
  refine tO (pc 0 (fun w hm=>FH.calls t_0.1 t_0.2 t_3 w _ cap_1 (hm.ow 0 o_2 132 t_0.1.fHammers sp_5 (fun e=>(ho_4 e).1) encGHammer_len) rfl cap_05 (hm.ow 1 o_01 101 t_0.2 sp_02 (fun e=>(ho_0h e).1) encGNote_len) rfl ht_0b) ?_)
  rintro w v w' hm ⟨o_0f,cap_0d,sp_08,_,rfl,hs_0z,ho_0g,rfl,hm'⟩
  refine aq hm hm' (jkO (qh [0,0,0,0,0] (qe (jx_then (jc_seq (jc_region (qh [2,0,0] ?_)))))))
  obtain⟨t_2,ht_0v,h⟩:=bd h
  refine tO (pq 0 (fun w hm=>Fbh.calls t_0.1 t_0.2 t_00.1 w _ cap_1 (hm.ow 0 o_2 132 t_0.1.fHammers sp_5 (fun e=>(ho_4 e).1) encGHammer_len) rfl cap_05 (hm.ow 1 o_01 101 t_0.2 sp_02 (fun e=>(ho_0h e).1) encGNote_len) rfl cap_0d (hm.ow 5 o_0f 104 t_00.1 sp_08 (fun e=>(ho_0g e).1) encGChoice_len) rfl ht_0v) (jkO (qh [0,0,0] (tO (qa 0 (fun b_0c=>jkO (tO (pS 0 6 b_0c 96 1 40 encU32 (Arr.rep 96 0) t_2.1 encU32_len encU32_cell (jkO (qh [0] (qe (jx_then (jc_seq (jc_region (qh [2,0,0] ?_)))))))))))))))
  obtain⟨t_1,ht_10,h⟩:=bd h
  refine tO (pq 0 (fun w hm=>FbG.calls t_0.1 t_0.2 t_00.1 w _ cap_1 (hm.ow 0 o_2 132 t_0.1.fHammers sp_5 (fun e=>(ho_4 e).1) encGHammer_len) rfl cap_05 (hm.ow 1 o_01 101 t_0.2 sp_02 (fun e=>(ho_0h e).1) encGNote_len) rfl cap_0d (hm.ow 5 o_0f 104 t_00.1 sp_08 (fun e=>(ho_0g e).1) encGChoice_len) rfl ht_10) (jkO (qh [0,0,0] (tO (qa 0 (fun b_07=>jkO (tO (pS 0 7 b_07 96 1 40 encU32 (Arr.rep 96 0) t_1.1 encU32_len encU32_cell (jkO (qh [0] (qe (jx_then (jc_seq (jc_region (qh [2,0,0] ?_)))))))))))))))
  obtain⟨t_5,ht_1f,h⟩:=bd h
  refine tO (pc 0 (fun w hm=>Fbm.calls t_0.1 t_0.2 t_00.1 w _ cap_1 (hm.ow 0 o_2 132 t_0.1.fHammers sp_5 (fun e=>(ho_4 e).1) encGHammer_len) rfl cap_05 (hm.ow 1 o_01 101 t_0.2 sp_02 (fun e=>(ho_0h e).1) encGNote_len) rfl cap_0d (hm.ow 5 o_0f 104 t_00.1 sp_08 (fun e=>(ho_0g e).1) encGChoice_len) rfl ht_1f) ?_)
  rintro w v w' hm ⟨o_0n,cap_1g,sp_0o,_,rfl,hs_2d,ho_1h,rfl,hm'⟩
  refine aq hm hm' (jkO (qh [0,0,0,0,0] (qe (jx_then (jc_seq (jc_region (qh [2] (tO (pL 0 7 b_07 96 1 40 encU32 t_1.1 encU32_len (jkO ?_))))))))))
  obtain⟨t_09,ht_1i,h⟩:=bd h
  refine tO (pc 0 (fun w hm=>FbM.calls t_0.1 t_1.1 w _ cap_1 (hm.ow 0 o_2 132 t_0.1.fHammers sp_5 (fun e=>(ho_4 e).1) encGHammer_len) rfl ht_1i) ?_)
  rintro w v w' hm ⟨o_0p,cap_1j,sp_0q,_,rfl,hs_2e,ho_1k,rfl,hm'⟩
  refine aq hm hm' (jkO (qh [0,0,0,0,0] (qe (jx_then (jc_seq (jc_region (qh [2] (tO (pL 0 7 b_07 96 1 40 encU32 t_1.1 encU32_len (jkO ?_))))))))))
  obtain⟨t_4,ht_1l,h⟩:=bd h
  refine tO (pc 0 (fun w hm=>FbN.calls t_0.1 t_1.1 w _ cap_1 (hm.ow 0 o_2 132 t_0.1.fHammers sp_5 (fun e=>(ho_4 e).1) encGHammer_len) rfl ht_1l) ?_)
  rintro w v w' hm ⟨o_0i,cap_13,sp_0j,_,rfl,hs_2f,ho_14,rfl,hm'⟩
  refine aq hm hm' (jkO (qh [0,0,0,0,0] (qe (jx_then (jc_seq (jc_region (qh [2] (tO (pL 0 7 b_07 96 1 40 encU32 t_1.1 encU32_len (jkO ?_))))))))))
  obtain⟨t_01,ht_1m,h⟩:=bd h
  refine tO (pq 0 (fun w hm=>Fbi.calls t_0.1 t_1.1 w _ cap_1 (hm.ow 0 o_2 132 t_0.1.fHammers sp_5 (fun e=>(ho_4 e).1) encGHammer_len) rfl ht_1m) (jkO (qh [0,0,0,0,0] (qe (jx_then (jc_seq (jc_region (qh [2] ?_))))))))
  obtain⟨t_05,ht_1n,h⟩:=bd h
  refine tO (pq 0 (fun w hm=>Fam.calls t_0.1 w _ cap_1 (hm.ow 0 o_2 132 t_0.1.fHammers sp_5 (fun e=>(ho_4 e).1) encGHammer_len) rfl ht_1n) (jkO (qh [0,0,0,0,0] (qe (jx_then (jc_seq (jc_region (qh [0,0] ?_))))))))
  obtain⟨t_02,ht_1o,h⟩:=bd h
  refine tO (pq 0 (fun w hm=>FbH.calls t_05.1 t_4.1 w _ cap_13 (hm.ow 10 o_0i 101 t_4.1 sp_0j (fun e=>(ho_14 e).1) encGNote_len) rfl ht_1o) (jkO (qh [0,0,0,0,0] (qe (jx_then (jc_seq (jc_seq (jc_meet (fun(q_0e:Bool)=>laws_FnTop.k_15 code0 more1 t_0 t_3 q_0e=some r) (fun q_0e=> [(0,[],(.slice A_a code0.length A_c)),(1,[],(.slice B_a more1.length B_c)),(4,[],(.bool false)),(5,[],(vP b_8)),(6,[],(.slice (mB o_01) t_0.2.length cap_05)),(7,[],(vP b_06)),(191,[],(.bool q_0e))]) (fun q_0e=> [⟨o_2,132,row encGHammer t_0.1.fHammers sp_5⟩,⟨o_01,101,row encGNote t_0.2 sp_02⟩,⟨some b_8,27,[(vH t_0.1.fSteps),(.slice (mB o_2) t_0.1.fHammers.length cap_1)]⟩,⟨some b_06,33,[(vH t_3.fAway),(vH t_3.fOctave),(vH t_3.fStep)]⟩,⟨o_0m,104,row encGChoice t_0a.1 sp_6⟩,⟨o_0f,104,row encGChoice t_00.1 sp_08⟩,⟨(some b_0c),40,row encU32 t_2.1.1 []⟩,⟨(some b_07),40,row encU32 t_1.1.1 []⟩,⟨o_0n,101,row encGNote t_5.1 sp_0o⟩,⟨o_0p,101,row encGNote t_09.1 sp_0q⟩,⟨o_0i,101,row encGNote t_4.1 sp_0j⟩]) ?_ ?_))))))))
  ·refine jc_region (qf [(0,0),(0,0),(0,0),(0,0),(0,1),(0,1),(0,0),(0,0),(0,1),(0,1)] (qp 127 h (fun h=> ?_) (fun h=> ?_)))
   ·exact qf [(0,3),(0,3),(0,4),(0,0),(0,3),(0,3),(0,3),(0,4),(0,0),(0,3),(0,3),(0,4),(0,0),(0,3),(0,3),(0,3),(0,4),(0,0),(0,3),(0,3),(0,4),(0,0),(0,3),(0,3),(0,3),(0,4),(0,0),(0,3),(0,3),(0,4),(0,0),(0,3),(0,3),(0,3),(0,3),(0,4),(0,0),(0,3),(0,3),(0,3),(0,3),(0,4),(0,0),(0,3),(0,3),(0,4),(0,0),(0,3),(0,3),(0,4),(0,0),(0,3),(0,3),(0,4),(0,0),(0,3),(0,3),(0,4),(0,0),(0,3),(0,3),(0,4)] (qe (qm true h [0,1,2,3,4,5,6,7,8,9,10]))
   ·obtain⟨t_0c,ht_1p,h⟩:=bd h
    refine tO (pq 2 (fun w hm=>FN.calls t_0a.1 t_00.1 w _ cap_7 (hm.ow 4 o_0m 104 t_0a.1 sp_6 (fun e=>(ho_04 e).1) encGChoice_len) rfl cap_0d (hm.ow 5 o_0f 104 t_00.1 sp_08 (fun e=>(ho_0g e).1) encGChoice_len) rfl ht_1p) (jkO (qf [(0,2),(0,5),(0,0),(0,1),(0,1),(0,1),(0,0),(0,0),(0,1),(0,1),(0,0),(0,0)] (qp 142 h (fun h=> ?_) (fun h=> ?_)))))
    ·exact qf [(0,3),(0,3),(0,3),(0,4),(0,0),(0,3),(0,3),(0,4),(0,0),(0,3),(0,3),(0,3),(0,4),(0,0),(0,3),(0,3),(0,4),(0,0),(0,3),(0,3),(0,3),(0,3),(0,4),(0,0),(0,3),(0,3),(0,3),(0,3),(0,4),(0,0),(0,3),(0,3),(0,4),(0,0),(0,3),(0,3),(0,4),(0,0),(0,3),(0,3),(0,4),(0,0),(0,3),(0,3),(0,4),(0,0),(0,3),(0,3),(0,4)] (qe (qm true h [0,1,2,3,4,5,6,7,8,9,10]))
    ·refine tO (pL 2 6 b_0c 96 1 40 encU32 t_2.1 encU32_len (jkO (tO (pL 2 7 b_07 96 1 40 encU32 t_1.1 encU32_len (jkO (tO (p_eqA 2 true 40 38 96 .u32 encU32 t_2.1 t_1.1 (by kernel_rfl) (by kernel_rfl) Tryz.underlying40 Tryz.underlying38 (fun w=>Tryz.sizeOf38 w) (fun w=>Tryz.isAgg38 w) (fun _=>rfl) (!(t_2.1.1==t_1.1.1)) rfl (jkO (qf [(0,5),(0,0),(0,1),(0,1),(0,0),(0,0),(0,1),(0,1),(0,1),(0,0),(0,0),(0,1),(0,1),(0,0),(0,0),(0,1),(0,1)] (qp 160 h (fun h=> ?_) (fun h=> ?_)))))))))))
     ·exact qf [(0,3),(0,3),(0,4),(0,0),(0,3),(0,3),(0,3),(0,3),(0,4),(0,0),(0,3),(0,3),(0,4),(0,0),(0,3),(0,3),(0,4),(0,0),(0,3),(0,3),(0,4),(0,0),(0,3),(0,3),(0,4),(0,0),(0,3),(0,3),(0,4)] (qe (qm true h [0,1,2,3,4,5,6,7,8,9,10]))
     ·obtain⟨t_10,ht_1q,h⟩:=bd h
      refine tO (pq 2 (fun w hm=>Fa8.calls t_09.1 t_4.1 w _ cap_1j (hm.ow 9 o_0p 101 t_09.1 sp_0q (fun e=>(ho_1k e).1) encGNote_len) rfl cap_13 (hm.ow 10 o_0i 101 t_4.1 sp_0j (fun e=>(ho_14 e).1) encGNote_len) rfl ht_1q) (jkO (qf [(0,2),(0,5),(0,0),(0,1),(0,1)] (qp 166 h (fun h=> ?_) (fun h=> ?_)))))
      ·exact qf [(0,3),(0,3),(0,4),(0,0),(0,3),(0,3),(0,4),(0,0),(0,3),(0,3),(0,4),(0,0),(0,3),(0,3),(0,4),(0,0),(0,3),(0,3),(0,4),(0,0),(0,3),(0,3),(0,4)] (qe (qm true h [0,1,2,3,4,5,6,7,8,9,10]))
      ·obtain⟨t_07,ht_1r,h⟩:=bd h
       exact tO (pq 2 (fun w hm=>Fa8.calls t_5.1 t_4.1 w _ cap_1g (hm.ow 8 o_0n 101 t_5.1 sp_0o (fun e=>(ho_1h e).1) encGNote_len) rfl cap_13 (hm.ow 10 o_0i 101 t_4.1 sp_0j (fun e=>(ho_14 e).1) encGNote_len) rfl ht_1r) (jkO (qf [(0,2),(0,5),(0,0),(0,1),(0,1),(0,0),(0,0),(0,1),(0,1),(0,0),(0,0),(0,1),(0,1),(0,0),(0,0),(0,1),(0,1),(0,0),(0,0),(0,1),(0,1),(0,0)] (qe (qm ((((((!t_07) || (t_01.2 !=0)) || (!t_01.1)) || (t_05.2 !=0)) || (t_02.2 !=0)) || (!t_02.1)) h [0,1,2,3,4,5,6,7,8,9,10])))))
  ·rintro q_0e h
   replace h:laws_FnTop.k_15 code0 more1 t_0 t_3 q_0e=some r:=h
   rw [laws_FnTop.k_15] at h
   refine jx_then (qi h (fun h=> ?_) (fun h=> ?_))
   ·refine jc_seq (jc_region (qh [0] (qe (jx_then (jc_ret (jx_thenr ?_))))))
    obtain rfl:=si h
    exact qr [] (fun w hm=>⟨rfl,hm.pk []⟩)
   ·refine jc_skip (jx_then (jc_seq (jc_region (qh [2,0,3] ?_))))
    obtain⟨t_8,ht_1s,h⟩:=bd h
    refine tO (pc 0 (fun w hm=>Fan.calls t_0.1 t_0.2 t_3 20000 w _ cap_1 (hm.ow 0 o_2 132 t_0.1.fHammers sp_5 (fun e=>(ho_4 e).1) encGHammer_len) rfl cap_05 (hm.ow 1 o_01 101 t_0.2 sp_02 (fun e=>(ho_0h e).1) encGNote_len) rfl ht_1s) ?_)
    rintro w v w' hm ⟨o_0w,cap_1t,sp_0x,_,rfl,hs_2g,ho_1u,rfl,hm'⟩
    refine aq hm hm' (jkO (qh [0,0,0,0,0,0,0] (qe (jx_then (jc_seq (jc_region (qh [2,0,3] ?_)))))))
    obtain⟨t_9,ht_1v,h⟩:=bd h
    refine tO (pc 0 (fun w hm=>FbI.calls t_0.1 t_0.2 t_3 20000 w _ cap_1 (hm.ow 0 o_2 132 t_0.1.fHammers sp_5 (fun e=>(ho_4 e).1) encGHammer_len) rfl cap_05 (hm.ow 1 o_01 101 t_0.2 sp_02 (fun e=>(ho_0h e).1) encGNote_len) rfl ht_1v) ?_)
    rintro w v w' hm ⟨o_0l,cap_15,sp_0r,_,rfl,hs_2h,ho_1d,rfl,hm'⟩
    refine aq hm hm' (jkO (qh [0,0,0,0,0,0,0] (qe (jx_then (jc_seq (jc_seq (jc_meet (fun(q_06:Bool)=>laws_FnTop.k_19 code0 more1 t_0 t_8 t_9 q_06=some r) (fun q_06=> [(0,[],(.slice A_a code0.length A_c)),(1,[],(.slice B_a more1.length B_c)),(4,[],(.bool false)),(5,[],(vP b_8)),(6,[],(.slice (mB o_01) t_0.2.length cap_05)),(30,[],(vI t_8.2.2)),(31,[],(.slice (mB o_0l) t_9.1.length cap_15)),(221,[],(.bool q_06))]) (fun q_06=> [⟨o_2,132,row encGHammer t_0.1.fHammers sp_5⟩,⟨o_01,101,row encGNote t_0.2 sp_02⟩,⟨some b_8,27,[(vH t_0.1.fSteps),(.slice (mB o_2) t_0.1.fHammers.length cap_1)]⟩,⟨some b_06,33,[(vH t_3.fAway),(vH t_3.fOctave),(vH t_3.fStep)]⟩,⟨o_0m,104,row encGChoice t_0a.1 sp_6⟩,⟨o_0f,104,row encGChoice t_00.1 sp_08⟩,⟨(some b_0c),40,row encU32 t_2.1.1 []⟩,⟨(some b_07),40,row encU32 t_1.1.1 []⟩,⟨o_0n,101,row encGNote t_5.1 sp_0o⟩,⟨o_0p,101,row encGNote t_09.1 sp_0q⟩,⟨o_0i,101,row encGNote t_4.1 sp_0j⟩,⟨o_0w,104,row encGChoice t_8.1 sp_0x⟩,⟨o_0l,104,row encGChoice t_9.1 sp_0r⟩]) ?_ ?_)))))))
    ·refine jc_region (qf [(0,0),(0,0),(0,0),(0,0),(0,1),(0,1)] (qp 211 h (fun h=> ?_) (fun h=> ?_)))
     ·exact qf [(0,3),(0,3),(0,4),(0,0),(0,3),(0,3),(0,3),(0,4)] (qe (qm true h [0,1,2,3,4,5,6,7,8,9,10,11,12]))
     ·obtain⟨t_0v,ht_1w,h⟩:=bd h
      exact tO (pq 2 (fun w hm=>FN.calls t_8.1 t_9.1 w _ cap_1t (hm.ow 11 o_0w 104 t_8.1 sp_0x (fun e=>(ho_1u e).1) encGChoice_len) rfl cap_15 (hm.ow 12 o_0l 104 t_9.1 sp_0r (fun e=>(ho_1d e).1) encGChoice_len) rfl ht_1w) (jkO (qf [(0,2),(0,5),(0,0),(0,1),(0,1),(0,1),(0,0)] (qe (qm ((!t_0v) || (t_8.2.1 !=t_9.2.1)) h [0,1,2,3,4,5,6,7,8,9,10,11,12])))))
    ·rintro q_06 h
     replace h:laws_FnTop.k_19 code0 more1 t_0 t_8 t_9 q_06=some r:=h
     rw [laws_FnTop.k_19] at h
     refine jx_then (qi h (fun h=> ?_) (fun h=> ?_))
     ·refine jc_seq (jc_region (qh [0] (qe (jx_then (jc_ret (jx_thenr ?_))))))
      obtain rfl:=si h
      exact qr [] (fun w hm=>⟨rfl,hm.pk []⟩)
     ·refine jc_skip (jx_then (jc_seq (jc_meet (fun(_:Unit)=>laws_FnTop.k_20 code0 more1=some r) (fun(_:Unit)=> [(0,[],(.slice A_a code0.length A_c)),(1,[],(.slice B_a more1.length B_c)),(4,[],(.bool false))]) (fun(_:Unit)=> [⟨o_2,132,row encGHammer t_0.1.fHammers sp_5⟩,⟨o_01,101,row encGNote t_0.2 sp_02⟩,⟨some b_8,27,[(vH t_0.1.fSteps),(.slice (mB o_2) t_0.1.fHammers.length cap_1)]⟩,⟨some b_06,33,[(vH t_3.fAway),(vH t_3.fOctave),(vH t_3.fStep)]⟩,⟨o_0m,104,row encGChoice t_0a.1 sp_6⟩,⟨o_0f,104,row encGChoice t_00.1 sp_08⟩,⟨(some b_0c),40,row encU32 t_2.1.1 []⟩,⟨(some b_07),40,row encU32 t_1.1.1 []⟩,⟨o_0n,101,row encGNote t_5.1 sp_0o⟩,⟨o_0p,101,row encGNote t_09.1 sp_0q⟩,⟨o_0i,101,row encGNote t_4.1 sp_0j⟩,⟨o_0w,104,row encGChoice t_8.1 sp_0x⟩,⟨o_0l,104,row encGChoice t_9.1 sp_0r⟩]) ?_ ?_)))
      ·refine jc_seq (jc_region (qh [0,0] (qe (jx_then (qi h (fun h=> ?_) (fun h=> ?_))))))
       ·refine jc_seq (jc_region (qh [2,0,0] ?_))
        obtain⟨t_0g,ht_1x,h⟩:=bd h
        refine tO (pq 0 (fun w hm=>Fa3.calls t_0.1 t_0.2 t_9.1 w _ cap_1 (hm.ow 0 o_2 132 t_0.1.fHammers sp_5 (fun e=>(ho_4 e).1) encGHammer_len) rfl cap_05 (hm.ow 1 o_01 101 t_0.2 sp_02 (fun e=>(ho_0h e).1) encGNote_len) rfl cap_15 (hm.ow 12 o_0l 104 t_9.1 sp_0r (fun e=>(ho_1d e).1) encGChoice_len) rfl ht_1x) (jkO (qh [0,0,0,0,0] (qe (jx_then (jc_seq (jc_region (qf [(0,0),(0,0),(0,0),(0,1),(0,1),(0,0)] (qe (jx_then (qi h (fun h=> ?_) (fun h=> ?_))))))))))))
        ·refine jc_seq (jc_region (qh [0] (qe (jx_then (jc_ret (jx_thenr (jx_thenr ?_)))))))
         obtain rfl:=si h
         exact qr [] (fun w hm=>⟨rfl,hm.pk []⟩)
        ·exact jc_skip (qm () h [0,1,2,3,4,5,6,7,8,9,10,11,12])
       ·exact jc_skip (qm () h [0,1,2,3,4,5,6,7,8,9,10,11,12])
      ·rintro _ h
       replace h:laws_FnTop.k_20 code0 more1=some r:=h
       rw [laws_FnTop.k_20] at h
       refine jx_then (jc_seq (jc_region (qh [0] ?_)))
       obtain⟨t_7,ht_1y,h⟩:=bd h
       refine tO (pc 0 (fun w hm=>FbJ.calls more1 w _ B_c (hm.xr B_h) rfl ht_1y) ?_)
       rintro w v w' hm ⟨o_0k,cap_0s,sp_0t,_,rfl,hs_2i,ho_11,rfl,hm'⟩
       refine aq hm hm' (jkO (tO (qa 0 (fun b_16=>jkO (tO (qs 0 [14] (jkO (qe (jx_then (jc_seq (jc_region (qh [0,14] ?_))))))))))))
       obtain⟨t_6,ht_1z,h⟩:=bd h
       refine tO (pc 0 (fun w hm=>Fao.calls code0 t_7 w _ A_c (hm.xr A_h) rfl cap_0s (hm.ow 13 o_0k 132 t_7.fHammers sp_0t (fun e=>(ho_11 e).1) encGHammer_len) rfl ht_1z) ?_)
       rintro w v w' hm ⟨o_0u,cap_12,sp_0y,_,rfl,hs_2j,ho_17,rfl,hm'⟩
       refine aq hm hm' (jkO (qh [0] (qe (jx_then (jc_seq (jc_region (qh [14,0] ?_)))))))
       obtain⟨t_03,ht_20,h⟩:=bd h
       refine tO (pc 0 (fun w hm=>Fbo.calls t_7 t_6 (-1) w _ cap_0s (hm.ow 13 o_0k 132 t_7.fHammers sp_0t (fun e=>(ho_11 e).1) encGHammer_len) rfl cap_12 (hm.ow 15 o_0u 40 t_6 sp_0y (fun e=>(ho_17 e).1) encA96U32_len) rfl ht_20) ?_)
       rintro w v w' hm ⟨o_18,cap_21,sp_19,_,rfl,hs_2k,ho_22,rfl,hm'⟩
       refine aq hm hm' (jkO (qh [0,0,0,0,0,0,0] (qe (jx_then (jc_seq (jc_region (qh [14,0] ?_)))))))
       obtain⟨t_04,ht_23,h⟩:=bd h
       refine tO (pc 0 (fun w hm=>Fae.calls t_7 t_6 (-1) w _ cap_0s (hm.ow 13 o_0k 132 t_7.fHammers sp_0t (fun e=>(ho_11 e).1) encGHammer_len) rfl cap_12 (hm.ow 15 o_0u 40 t_6 sp_0y (fun e=>(ho_17 e).1) encA96U32_len) rfl ht_23) ?_)
       rintro w v w' hm ⟨o_1a,cap_24,sp_1b,_,rfl,hs_2l,ho_25,rfl,hm'⟩
       refine aq hm hm' (jkO (qh [0,0,0,0,0,0,0] (qe (jx_then (jc_seq (jc_seq (jc_meet (fun(q_0b:Bool)=>laws_FnTop.k_26 more1 t_7 t_6 t_03 t_04 q_0b=some r) (fun q_0b=> [(1,[],(.slice B_a more1.length B_c)),(4,[],(.bool false)),(36,[],(vP b_16)),(37,[],(.slice (mB o_0u) t_6.length cap_12)),(40,[],(vI t_03.2.2)),(42,[],(vI t_04.2.1)),(269,[],(.bool q_0b))]) (fun q_0b=> [⟨o_2,132,row encGHammer t_0.1.fHammers sp_5⟩,⟨o_01,101,row encGNote t_0.2 sp_02⟩,⟨some b_8,27,[(vH t_0.1.fSteps),(.slice (mB o_2) t_0.1.fHammers.length cap_1)]⟩,⟨some b_06,33,[(vH t_3.fAway),(vH t_3.fOctave),(vH t_3.fStep)]⟩,⟨o_0m,104,row encGChoice t_0a.1 sp_6⟩,⟨o_0f,104,row encGChoice t_00.1 sp_08⟩,⟨(some b_0c),40,row encU32 t_2.1.1 []⟩,⟨(some b_07),40,row encU32 t_1.1.1 []⟩,⟨o_0n,101,row encGNote t_5.1 sp_0o⟩,⟨o_0p,101,row encGNote t_09.1 sp_0q⟩,⟨o_0i,101,row encGNote t_4.1 sp_0j⟩,⟨o_0w,104,row encGChoice t_8.1 sp_0x⟩,⟨o_0l,104,row encGChoice t_9.1 sp_0r⟩,⟨o_0k,132,row encGHammer t_7.fHammers sp_0t⟩,⟨some b_16,27,[(vH t_7.fSteps),(.slice (mB o_0k) t_7.fHammers.length cap_0s)]⟩,⟨o_0u,40,row encA96U32 t_6 sp_0y⟩,⟨o_18,2,row encI64 t_03.1 sp_19⟩,⟨o_1a,2,row encI64 t_04.1 sp_1b⟩]) ?_ ?_)))))))
       ·refine jc_region (qf [(0,0),(0,0),(0,0),(0,0),(0,1),(0,1)] (qp 259 h (fun h=> ?_) (fun h=> ?_)))
        ·exact qf [(0,3),(0,3),(0,4),(0,0),(0,3),(0,3),(0,3),(0,4)] (qe (qm true h [0,1,2,3,4,5,6,7,8,9,10,11,12,13,14,15,16,17]))
        ·obtain⟨t_0z,ht_26,h⟩:=bd h
         exact tO (pq 2 (fun w hm=>FbO.calls t_03.1 t_04.1 w _ cap_21 (hm.ow 16 o_18 2 t_03.1 sp_19 (fun e=>(ho_22 e).1) encI64_len) rfl cap_24 (hm.ow 17 o_1a 2 t_04.1 sp_1b (fun e=>(ho_25 e).1) encI64_len) rfl ht_26) (jkO (qf [(0,2),(0,5),(0,0),(0,1),(0,1),(0,1),(0,0)] (qe (qm ((!t_0z) || (t_03.2.1 !=t_04.2.1)) h [0,1,2,3,4,5,6,7,8,9,10,11,12,13,14,15,16,17])))))
       ·rintro q_0b h
        replace h:laws_FnTop.k_26 more1 t_7 t_6 t_03 t_04 q_0b=some r:=h
        rw [laws_FnTop.k_26] at h
        refine jx_then (qi h (fun h=> ?_) (fun h=> ?_))
        ·refine jc_seq (jc_region (qh [0] (qe (jx_then (jc_ret (jx_thenr ?_))))))
         obtain rfl:=si h
         exact qr [] (fun w hm=>⟨rfl,hm.pk []⟩)
        ·refine jc_skip (jx_then (jc_seq (jc_seq (jc_region (qh [0,0] (qe (jx_then (qi h (fun h=> ?_) (fun h=> ?_)))))))))
         ·refine jc_seq (jc_region (qh [0,0,0] (qe (jx_then (jc_ret (jx_thenr ?_))))))
          obtain rfl:=si h
          exact qr [] (fun w hm=>⟨rfl,hm.pk []⟩)
         ·refine jc_skip (jx_then (jc_seq (qg [⟨o_2,132,row encGHammer t_0.1.fHammers sp_5⟩,⟨o_01,101,row encGNote t_0.2 sp_02⟩,⟨some b_8,27,[(vH t_0.1.fSteps),(.slice (mB o_2) t_0.1.fHammers.length cap_1)]⟩,⟨some b_06,33,[(vH t_3.fAway),(vH t_3.fOctave),(vH t_3.fStep)]⟩,⟨o_0m,104,row encGChoice t_0a.1 sp_6⟩,⟨o_0f,104,row encGChoice t_00.1 sp_08⟩,⟨(some b_0c),40,row encU32 t_2.1.1 []⟩,⟨(some b_07),40,row encU32 t_1.1.1 []⟩,⟨o_0n,101,row encGNote t_5.1 sp_0o⟩,⟨o_0p,101,row encGNote t_09.1 sp_0q⟩,⟨o_0i,101,row encGNote t_4.1 sp_0j⟩,⟨o_0w,104,row encGChoice t_8.1 sp_0x⟩,⟨o_0l,104,row encGChoice t_9.1 sp_0r⟩,⟨o_0k,132,row encGHammer t_7.fHammers sp_0t⟩,⟨some b_16,27,[(vH t_7.fSteps),(.slice (mB o_0k) t_7.fHammers.length cap_0s)]⟩,⟨o_0u,40,row encA96U32 t_6 sp_0y⟩,⟨o_18,2,row encI64 t_03.1 sp_19⟩,⟨o_1a,2,row encI64 t_04.1 sp_1b⟩] 12 (qd [⟨0,14,0⟩,⟨1,0,0⟩,⟨2,0,0⟩,⟨3,0,0⟩,⟨4,0,0⟩] 7 [0,1,2,3,4,5,6,7,8,9,10,11,12,13,14,15,16,17] ?_))))
          obtain⟨t_0d,ht_27,h⟩:=bd h
          refine tD 5 (pc 0 (fun w hm=>FR.calls more1 (t_6.length:Int) w _ B_c (hm.xr B_h) rfl ht_27) ?_)
          rintro w v w' hm ⟨o_28,cap_29,sp_2a,_,rfl,hs_2m,ho_2b,rfl,hm'⟩
          refine aq hm hm' (kD [0,1,2,3,4,5,6,7,8,9,10,11,12,13,14,15,16,17] ?_)
          obtain⟨t_08,ht_2c,h⟩:=bd h
          refine tD 6 (pq 0 (fun w hm=>Fbp.calls t_7 t_6 t_0d w _ cap_0s (hm.ow 13 o_0k 132 t_7.fHammers sp_0t (fun e=>(ho_11 e).1) encGHammer_len) rfl cap_12 (hm.ow 15 o_0u 40 t_6 sp_0y (fun e=>(ho_17 e).1) encA96U32_len) rfl cap_29 (hm.ow 18 o_28 2 t_0d sp_2a (fun e=>(ho_2b e).1) encI64_len) rfl ht_2c) (kD [0,1,2,3,4,5,6,7,8,9,10,11,12,13,14,15,16,17] (qd [⟨7,0,0⟩,⟨8,0,0⟩,⟨9,0,0⟩,⟨10,0,0⟩,⟨11,0,0⟩] 0 [0,1,2,3,4,5,6,7,8,9,10,11,12,13,14,15,16,17] (qz (jx_then (jc_seq (jc_region (qf [(0,0),(0,0),(0,0),(0,1),(0,1),(0,1),(0,0),(0,0)] (qe (jx_then (jc_ret ?_)))))))))))
          obtain rfl:=si h
          exact qr [] (fun w hm=>⟨rfl,hm.pk []⟩)
end
end Go.Proofs.YtolfkfjjifdmeaaGreat
