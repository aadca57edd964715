/- Functions of the program that the law reaches: a plain function each, and that the call comes to its answer if the plain function has one. Printed by a program. -/
import Derived.Test.YtolfkfjjifdmeaaGreatT
import Derived.Test.YtolfkfjjifdmeaaGreatSort
import Derived.Test.YtolfkfjjifdmeaaGreatM0
namespace Go.Proofs.YtolfkfjjifdmeaaGreat
open Eng
set_option linter.unusedVariables false
set_option linter.unusedSectionVars false
set_option maxRecDepth 100000
variable [dsW:DrwS]
noncomputable section
def Faj.k_2(q_0:Bool):Option (Int):=(if q_0=true then some 1 else some 0)
def Faj(f0:GFrame)(t1:List GNote)(c2:GCosts):Option (Int):=(Fy f0).bind fun t_2=>(if(!t_2)=true then Faj.k_2 true else(Fab t1).bind fun t_3=>(if(!t_3)=true then Faj.k_2 true else(Fbz c2).bind fun t_1=>Faj.k_2 (!t_1)))
theorem Faj.calls(f0:GFrame)(t1:List GNote)(c2:GCosts)(w:World)(r:Int){C_a:Option Addr}{C_an:Nat}(C_c:Nat)(C_h:Rw w C_a 2 encGHammer f0.fHammers)(C_hn:f0.fHammers.length=C_an){D_a:Option Addr}{D_an:Nat}(D_c:Nat)(D_h:Rw w D_a 2 encGNote t1)(D_hn:t1.length=D_an)(A_b:Nat)(hm0:Mem w (bs [some A_b]) [⟨some A_b,27,[(vH f0.fSteps),(.slice C_a C_an C_c)]⟩] w)(C_ha:f0.fHammers≠ []→aB C_a∉bs [some A_b])(D_ha:t1≠ []→aB D_a∉bs [some A_b])(h:Faj f0 t1 c2=some r):
   Calls Tryz.prog 69 #[(vP A_b),(.slice D_a D_an D_c),(.agg #[(vH c2.fAway),(vH c2.fOctave),(vH c2.fStep)])] w fun e w'=>∃v,e= .returned v∧(v=(vI r)∧Mem w (bs [some A_b]) [⟨some A_b,27,[(vH f0.fSteps),(.slice C_a C_an C_c)]⟩] w'):=by
 subst C_hn D_hn
 rw [Faj] at h
 refine enter (args:= [(vP A_b),(.slice D_a t1.length D_c),(.agg #[(vH c2.fAway),(vH c2.fOctave),(vH c2.fStep)])]) Tryz.func69 rfl Tryz.ntmps69 (by kernel_rfl) (L:= [⟨some A_b,27,[(vH f0.fSteps),(.slice C_a f0.fHammers.length C_c)]⟩]) (W:=bs [some A_b]) hm0 (jc_seq (jc_region (tO (qa 0 (fun b_0=>jkO (qh [0] (qe (jx_then (jc_seq (jc_seq (jc_meet (fun(q_0:Bool)=>Faj.k_2 q_0=some r) (fun q_0=> [(6,[],(vI 0)),(19,[],(.bool q_0))]) (fun q_0=> [⟨some A_b,27,[(vH f0.fSteps),(.slice C_a f0.fHammers.length C_c)]⟩,⟨some b_0,33,[(vH c2.fAway),(vH c2.fOctave),(vH c2.fStep)]⟩]) ?_ ?_)))))))))))
 ·refine jc_region (qh [0] ?_)
  obtain⟨t_2,ht_4,h⟩:=bd h
  refine tO (pc 0 (fun w hm=>Fy.calls f0 w _ C_c (hm.exRowW C_h C_ha) rfl A_b (hm.ps [0]) (hm.xp C_h C_ha [0]) ht_4) ?_)
  rintro w v w' hm ⟨rfl,hm'⟩
  refine⟨_,hm.appW (ps:= [(0,⟨some A_b,27,[(vH f0.fSteps),(.slice C_a f0.fHammers.length C_c)]⟩)]) (N:= []) hm' (by kernel_rfl) (by kernel_rfl),jkO ?_⟩
  clear hm hm'
  refine qf [(0,0),(0,0),(0,1)] (qp 10 h (fun h=> ?_) (fun h=> ?_))
  ·exact qf [(0,3),(0,3),(0,4),(0,0),(0,3),(0,3),(0,3),(0,4)] (qe (qm true h [0,1]))
  ·obtain⟨t_3,ht_5,h⟩:=bd h
   refine tO (pq 2 (fun w hm=>Fab.calls t1 w _ D_c (hm.exRowW D_h D_ha) rfl ht_5) (jkO (qf [(0,2),(0,5),(0,0),(1,1)] (qp 15 h (fun h=> ?_) (fun h=> ?_)))))
   ·exact qf [(0,3),(0,3),(0,4)] (qe (qm true h [0,1]))
   ·obtain⟨t_1,ht_6,h⟩:=bd h
    exact tO (pq 2 (fun w hm=>Fbz.calls c2 w _ ht_6) (jkO (qf [(0,2),(0,5)] (qe (qm (!t_1) h [0,1])))))
 ·rintro q_0 h
  replace h:Faj.k_2 q_0=some r:=h
  rw [Faj.k_2] at h
  refine jx_then (qi h (fun h=> ?_) (fun h=> ?_))
  ·refine jc_seq (jc_region (qh [0] (qe (jx_then (jc_ret (jx_thenr ?_))))))
   obtain rfl:=si h
   exact qr [] (fun w hm=>⟨rfl,hm.pk [0]⟩)
  ·refine jc_skip (jx_then (jc_seq (jc_region (qh [0] (qe (jx_then (jc_ret ?_)))))))
   obtain rfl:=si h
   exact qr [] (fun w hm=>⟨rfl,hm.pk [0]⟩)
def FP.k_2(xs_2:List Int):Option ((List Int)):=some xs_2
def FP.l_5(most0:Int):((List Int)×Int)→Option (((List Int)×Int)⊕((List Int)))
 | (xs_1,i_0)=>(if(decide (i_0≤most0))=true then(if xs_1.length+([(w8 (0-i_0)),i_0]:List Int).length≤4294967296 then some (.inl ((xs_1++([(w8 (0-i_0)),i_0]:List Int)),(w8 (i_0+1)))) else none) else some (.inr xs_1))
def FP(most0:Int):Option ((List Int)):=(loop (FP.l_5 most0) (([0]:List Int),1)).bind fun t_01=>FP.k_2 t_01
theorem FP.calls(most0:Int)(w:World)(r:(List Int))(h:FP most0=some r):
   Calls Tryz.prog 138 #[(vB most0)] w fun e w'=>∃v,e= .returned v∧(∃(o0:Option Nat) (c0:Nat) (s0:List Value) (n0:Nat),r.length=n0∧(hS o0 n0 c0 s0 1)∧(hO o0 r c0)∧v= .slice (mB o0) n0 c0∧Mem w [] [⟨o0,99,row encI8 r s0⟩] w'):=by
 rw [FP] at h
 refine en Tryz.func138 rfl Tryz.ntmps138 (jc_seq (jc_region (qh [0] (qe (jx_then (jc_seq (jc_region (tO (qa 0 (fun b_2=>jkO (qh [0] (qe (jx_then (jc_seq (jc_seq (jc_region (qh [0] (qe (jx_then (jc_meet (fun(j:(List Int)×(Option Nat)×Nat×(List Value)×Nat)=>match j with | ⟨xs_2,o_4,cap_6,sp_8,n_9⟩=>FP.k_2 xs_2=some r∧(xs_2.length=n_9)∧(hS o_4 n_9 cap_6 sp_8 1)∧(hO o_4 xs_2 cap_6)) (fun⟨xs_2,o_4,cap_6,sp_8,n_9⟩=> [(2,[],(.slice none 0 0)),(3,[],(.slice (mB o_4) n_9 cap_6))]) (fun⟨xs_2,o_4,cap_6,sp_8,n_9⟩=> [⟨o_4,99,row encI8 xs_2 sp_8⟩]) ?_ ?_))))))))))))))))))))
 ·refine jc_block ?_
  obtain⟨t_01,ht_05,hr_06⟩:=bd h
  refine jl (fun(s:(List Int)×Int) (x:(Option Nat)×Nat×(List Value)×Nat)=>match s,x with | ⟨xs_1,i_0⟩,⟨o_3,cap_5,sp_7,n_00⟩=>(xs_1.length=n_00)∧(hS o_3 n_00 cap_5 sp_7 1)∧(hO o_3 xs_1 cap_5)) (fun⟨xs_1,i_0⟩ ⟨o_3,cap_5,sp_7,n_00⟩=> [(0,[],(vB most0)),(2,[],(.slice none 0 0)),(3,[],(.slice (mB o_3) n_00 cap_5)),(4,[],(vB i_0))]) (fun⟨xs_1,i_0⟩ ⟨o_3,cap_5,sp_7,n_00⟩=> [⟨o_3,99,row encI8 xs_1 sp_7⟩]) ht_05 ⟨(some b_2),1,[],1⟩ ⟨rfl,(fun _=>⟨Nat.le_refl _,by simp⟩),(fun e=>nomatch e)⟩ [0] ?_
  rintro⟨xs_1,i_0⟩ ⟨o_3,cap_5,sp_7,n_00⟩ y_0g ⟨rfl,hs_02,ho_03⟩ h
  rw [FP.l_5] at h
  refine jc_seq (jc_seq (jc_region (qh [0,0,0] (qe (jx_then (qi h (fun h=> ?_) (fun h=> ?_)))))))
  ·refine jc_skip (jx_then (jc_seq (jc_block (jc_region (qh [0,0,0,0] (tO (qa 0 (fun b_04=>jkO ?_))))))))
   obtain⟨hg_07,h⟩:=gd h
   exact tO (pA 0 0 o_3 99 xs_1.length 2 cap_5 1 1 (sB b_04) encI8 xs_1 ([(w8 (0-i_0)),i_0]:List Int) sp_7 (vB 0) rfl rfl encI8_len encI8_cell hs_02 ho_03 (fun w hm=>(hm.ow 1 (some b_04) 99 ([(w8 (0-i_0)),i_0]:List Int) [] (fun e=>nomatch e) encI8_len)) hg_07 (fun o_08 cap_09 sp_0a hs_0b ho_0c=>jkO (qh [0] (qe (jx_inn (jx_then (jc_region (qh [0,0,0] (qe (qb ((xs_1++([(w8 (0-i_0)),i_0]:List Int)),(w8 (i_0+1))) ⟨o_08,cap_09,sp_0a,(xs_1++([(w8 (0-i_0)),i_0]:List Int)).length⟩ h ⟨rfl,hs_0b,ho_0c⟩ [0]))))))))))
  ·refine jc_exit (jx_thenx (jx_leave xs_1 (sj h) (fun e_0d=> ?_)))
   subst e_0d
   exact jx_ine (qm ⟨xs_1,o_3,cap_5,sp_7,xs_1.length⟩ ⟨hr_06,rfl,hs_02,ho_03⟩ [0])
 ·rintro⟨xs_2,o_4,cap_6,sp_8,n_9⟩ ⟨h,rfl,hs_0e,ho_0f⟩
  replace h:FP.k_2 xs_2=some r:=h
  rw [FP.k_2] at h
  refine jx_then (jc_seq (jc_region (qh [0,0] (qe (jx_then (jc_ret ?_))))))
  obtain rfl:=si h
  exact qr [] (fun w hm=>⟨o_4,cap_6,sp_8,xs_2.length,rfl,hs_0e,ho_0f,rfl,hm.pk [0]⟩)
def Fx.k_4(xs_00:List GChoice):Option ((List GChoice)):=(if xs_00.length+([(⟨true,0,0,0⟩:GChoice)]:List GChoice).length≤4294967296 then some (xs_00++([(⟨true,0,0,0⟩:GChoice)]:List GChoice)) else none)
def Fx.k_12(i_1:Int)(xs_7:List GChoice):Option (((List GChoice)×Int)⊕((List GChoice))):=some (.inl (xs_7,(w64 (i_1+1))))
def Fx.k_18(i_3:Int)(xs_02:List GChoice):Option (((List GChoice)×Int)⊕((List GChoice))):=some (.inl (xs_02,(w64 (i_3+1))))
def Fx.l_21(f0:GFrame)(n1:GNote)(t_0:(List Int))(t_2:(List Int))(i_1:Int)(i_3:Int):((List GChoice)×Int)→Option (((List GChoice)×Int)⊕((List GChoice)))
 | (xs_5,i_9)=>(if(decide (i_9<(f0.fHammers.length:Int)))=true then(ix f0.fHammers i_9).bind fun x_15=>(ix t_2 i_3).bind fun x_16=>(if(x_15.fPitch==(w8 (n1.fPitch+(w8 (12*x_16)))))=true then(ix t_0 i_1).bind fun x_0f=>(ix t_2 i_3).bind fun x_0g=>(if xs_5.length+([(⟨false,x_0f,x_0g,(w8 i_9)⟩:GChoice)]:List GChoice).length≤4294967296 then some (.inl ((xs_5++([(⟨false,x_0f,x_0g,(w8 i_9)⟩:GChoice)]:List GChoice)),(w64 (i_9+1)))) else none) else some (.inl (xs_5,(w64 (i_9+1))))) else some (.inr xs_5))
def Fx.l_15(f0:GFrame)(n1:GNote)(t_0:(List Int))(t_2:(List Int))(i_1:Int):((List GChoice)×Int)→Option (((List GChoice)×Int)⊕((List GChoice)))
 | (xs_01,i_3)=>(if(decide (i_3<(t_2.length:Int)))=true then(loop (Fx.l_21 f0 n1 t_0 t_2 i_1 i_3) (xs_01,0)).bind fun t_17=>Fx.k_18 i_3 t_17 else some (.inr xs_01))
def Fx.l_7(f0:GFrame)(n1:GNote)(t_0:(List Int))(t_2:(List Int)):((List GChoice)×Int)→Option (((List GChoice)×Int)⊕((List GChoice)))
 | (xs_4,i_1)=>(if(decide (i_1<(t_0.length:Int)))=true then(ix t_0 i_1).bind fun x_0v=>(FI (w64 ((w64 n1.fAt)+(w64 x_0v))) 0 (w64 ((w64 f0.fSteps)-1))).bind fun t_6=>(if(!t_6)=true then some (.inl (xs_4,(w64 (i_1+1)))) else(loop (Fx.l_15 f0 n1 t_0 t_2 i_1) (xs_4,0)).bind fun t_18=>Fx.k_12 i_1 t_18) else some (.inr xs_4))
def Fx(f0:GFrame)(n1:GNote):Option ((List GChoice)):=(FP 3).bind fun t_0=>(FP 1).bind fun t_2=>(loop (Fx.l_7 f0 n1 t_0 t_2) (([]:List GChoice),0)).bind fun t_0h=>Fx.k_4 t_0h
theorem Fx.calls(f0:GFrame)(n1:GNote)(w:World)(r:(List GChoice)){C_a:Option Addr}{C_an:Nat}(C_c:Nat)(C_h:Rw w C_a 2 encGHammer f0.fHammers)(C_hn:f0.fHammers.length=C_an)(A_b:Nat)(hm0:Mem w (bs [some A_b]) [⟨some A_b,27,[(vH f0.fSteps),(.slice C_a C_an C_c)]⟩] w)(C_ha:f0.fHammers≠ []→aB C_a∉bs [some A_b])(h:Fx f0 n1=some r):
   Calls Tryz.prog 70 #[(vP A_b),(.agg #[(vH n1.fAt),(vB n1.fPitch)])] w fun e w'=>∃v,e= .returned v∧(∃(o0:Option Nat) (c0:Nat) (s0:List Value) (n0:Nat),r.length=n0∧(hS o0 n0 c0 s0 4)∧(hO o0 r c0)∧v= .slice (mB o0) n0 c0∧Mem w (bs [some A_b]) [⟨some A_b,27,[(vH f0.fSteps),(.slice C_a C_an C_c)]⟩,⟨o0,104,row encGChoice r s0⟩] w'):=by
 subst C_hn
 rw [Fx] at h
 refine enter (args:= [(vP A_b),(.agg #[(vH n1.fAt),(vB n1.fPitch)])]) Tryz.func70 rfl Tryz.ntmps70 (by kernel_rfl) (L:= [⟨some A_b,27,[(vH f0.fSteps),(.slice C_a f0.fHammers.length C_c)]⟩]) (W:=bs [some A_b]) hm0 (jc_seq (jc_region (tO (qa 0 (fun b_0=>jkO (qh [0] (qe (jx_then (jc_seq (jc_region (tO (qa 0 (fun b_2=>jkO (qh [0] (qe (jx_then (jc_seq (jc_region ?_))))))))))))))))))
 obtain⟨t_0,ht_00,h⟩:=bd h
 refine tO (pc 0 (fun w hm=>FP.calls 3 w _ ht_00) ?_)
 rintro w v w' hm ⟨o_8,cap_4,sp_1,_,rfl,hs_27,ho_0h,rfl,hm'⟩
 refine aq hm hm' (jkO (qh [0] (qe (jx_then (jc_seq (jc_region ?_))))))
 obtain⟨t_2,ht_0v,h⟩:=bd h
 refine tO (pc 0 (fun w hm=>FP.calls 1 w _ ht_0v) ?_)
 rintro w v w' hm ⟨o_6,cap_7,sp_03,_,rfl,hs_01,ho_3,rfl,hm'⟩
 refine aq hm hm' (jkO (qh [0] (qe (jx_then (jc_seq (jc_seq (jc_region (qh [0] (qe (jx_then (jc_meet (fun(j:(List GChoice)×(Option Nat)×Nat×(List Value)×Nat)=>match j with | ⟨xs_00,o_0b,cap_0i,sp_0m,n_0n⟩=>Fx.k_4 xs_00=some r∧(xs_00.length=n_0n)∧(hS o_0b n_0n cap_0i sp_0m 4)∧(hO o_0b xs_00 cap_0i)) (fun⟨xs_00,o_0b,cap_0i,sp_0m,n_0n⟩=> [(4,[],(.slice none 0 0)),(5,[],(.slice (mB o_0b) n_0n cap_0i))]) (fun⟨xs_00,o_0b,cap_0i,sp_0m,n_0n⟩=> [⟨some A_b,27,[(vH f0.fSteps),(.slice C_a f0.fHammers.length C_c)]⟩,⟨some b_0,101,[(vH n1.fAt),(vB n1.fPitch)]⟩,⟨o_0b,104,row encGChoice xs_00 sp_0m⟩,⟨o_8,99,row encI8 t_0 sp_1⟩,⟨o_6,99,row encI8 t_2 sp_03⟩]) ?_ ?_)))))))))))
 ·refine jc_block ?_
  obtain⟨t_0h,ht_1f,hr_1g⟩:=bd h
  refine jl (fun(s:(List GChoice)×Int) (x:(Option Nat)×Nat×(List Value)×Nat)=>match s,x with | ⟨xs_4,i_1⟩,⟨o_04,cap_06,sp_07,n_0o⟩=>(xs_4.length=n_0o)∧(hS o_04 n_0o cap_06 sp_07 4)∧(hO o_04 xs_4 cap_06)) (fun⟨xs_4,i_1⟩ ⟨o_04,cap_06,sp_07,n_0o⟩=> [(0,[],(vP A_b)),(3,[],(vP b_0)),(4,[],(.slice none 0 0)),(5,[],(.slice (mB o_04) n_0o cap_06)),(6,[],(.slice (mB o_8) t_0.length cap_4)),(7,[],(.slice (mB o_6) t_2.length cap_7)),(8,[],(vI i_1))]) (fun⟨xs_4,i_1⟩ ⟨o_04,cap_06,sp_07,n_0o⟩=> [⟨some A_b,27,[(vH f0.fSteps),(.slice C_a f0.fHammers.length C_c)]⟩,⟨some b_0,101,[(vH n1.fAt),(vB n1.fPitch)]⟩,⟨o_04,104,row encGChoice xs_4 sp_07⟩,⟨o_8,99,row encI8 t_0 sp_1⟩,⟨o_6,99,row encI8 t_2 sp_03⟩]) ht_1f ⟨(some b_2),0,[],0⟩ ⟨rfl,(fun _=>⟨Nat.le_refl _,by simp⟩),(fun e=>nomatch e)⟩ [0,1,2,3,4] ?_
  rintro⟨xs_4,i_1⟩ ⟨o_04,cap_06,sp_07,n_0o⟩ y_19 ⟨rfl,hs_0w,ho_0x⟩ h
  rw [Fx.l_7] at h
  refine jc_seq (jc_seq (jc_region (qh [0,0,0,0] (qe (jx_then (qi h (fun h=> ?_) (fun h=> ?_)))))))
  ·refine jc_skip (jx_then (jc_seq (jc_block (jc_seq (jc_seq (qg [⟨some A_b,27,[(vH f0.fSteps),(.slice C_a f0.fHammers.length C_c)]⟩,⟨some b_0,101,[(vH n1.fAt),(vB n1.fPitch)]⟩,⟨o_04,104,row encGChoice xs_4 sp_07⟩,⟨o_8,99,row encI8 t_0 sp_1⟩,⟨o_6,99,row encI8 t_2 sp_03⟩] 17 (qd [⟨0,0,0⟩,⟨1,1,0⟩,⟨2,0,0⟩,⟨3,0,0⟩,⟨4,0,0⟩,⟨9,0,0⟩,⟨10,0,0⟩,⟨11,0,0⟩,⟨12,0,0⟩,⟨13,0,0⟩,⟨14,0,0⟩] 6 [0,1,2,3,4] ?_)))))))
   obtain⟨x_0v,hx_0y,h⟩:=bd h
   refine qX 5 0 [0,1,2,3,4] (mB o_8) 1 hx_0y rfl (spo ho_0h hx_0y) (qL 6 0 [0,1,2,3,4] false (fun w hm=>(hm.ow 3 o_8 99 t_0 sp_1 (fun e=>(ho_0h e).1) encI8_len).at hx_0y) (qd [⟨7,0,0⟩,⟨8,0,0⟩] 2 [0,1,2,3,4] ?_))
   obtain⟨t_6,ht_1h,h⟩:=bd h
   refine tD 15 (pq 0 (fun w hm=>FI.calls (w64 ((w64 n1.fAt)+(w64 x_0v))) 0 (w64 ((w64 f0.fSteps)-1)) w _ ht_1h) (kD [0,1,2,3,4] (qd [⟨16,0,0⟩] 0 [0,1,2,3,4] (qz (jx_then (qi h (fun h=> ?_) (fun h=> ?_)))))))
   ·exact jc_exit (jx_thenx (jx_ine (jx_then (jc_region (qh [0,0,0] (qe (qb (xs_4,(w64 (i_1+1))) ⟨o_04,cap_06,sp_07,xs_4.length⟩ h ⟨rfl,hs_0w,ho_0x⟩ [0,1,2,3,4])))))))
   ·refine jc_skip (jx_then (jc_seq (jc_region (qh [0] (qe (jx_then (jc_meet (fun(j:(List GChoice)×(Option Nat)×Nat×(List Value)×Nat)=>match j with | ⟨xs_7,o_0c,cap_0j,sp_0p,n_0q⟩=>Fx.k_12 i_1 xs_7=some y_19∧(xs_7.length=n_0q)∧(hS o_0c n_0q cap_0j sp_0p 4)∧(hO o_0c xs_7 cap_0j)) (fun⟨xs_7,o_0c,cap_0j,sp_0p,n_0q⟩=> [(0,[],(vP A_b)),(3,[],(vP b_0)),(4,[],(.slice none 0 0)),(5,[],(.slice (mB o_0c) n_0q cap_0j)),(6,[],(.slice (mB o_8) t_0.length cap_4)),(7,[],(.slice (mB o_6) t_2.length cap_7)),(8,[],(vI i_1))]) (fun⟨xs_7,o_0c,cap_0j,sp_0p,n_0q⟩=> [⟨some A_b,27,[(vH f0.fSteps),(.slice C_a f0.fHammers.length C_c)]⟩,⟨some b_0,101,[(vH n1.fAt),(vB n1.fPitch)]⟩,⟨o_0c,104,row encGChoice xs_7 sp_0p⟩,⟨o_8,99,row encI8 t_0 sp_1⟩,⟨o_6,99,row encI8 t_2 sp_03⟩]) ?_ ?_)))))))
    ·refine jc_block ?_
     obtain⟨t_18,ht_1i,hr_1j⟩:=bd h
     refine jl (fun(s:(List GChoice)×Int) (x:(Option Nat)×Nat×(List Value)×Nat)=>match s,x with | ⟨xs_01,i_3⟩,⟨o_08,cap_0d,sp_0k,n_0r⟩=>(xs_01.length=n_0r)∧(hS o_08 n_0r cap_0d sp_0k 4)∧(hO o_08 xs_01 cap_0d)) (fun⟨xs_01,i_3⟩ ⟨o_08,cap_0d,sp_0k,n_0r⟩=> [(0,[],(vP A_b)),(3,[],(vP b_0)),(4,[],(.slice none 0 0)),(5,[],(.slice (mB o_08) n_0r cap_0d)),(6,[],(.slice (mB o_8) t_0.length cap_4)),(7,[],(.slice (mB o_6) t_2.length cap_7)),(8,[],(vI i_1)),(9,[],(vI i_3))]) (fun⟨xs_01,i_3⟩ ⟨o_08,cap_0d,sp_0k,n_0r⟩=> [⟨some A_b,27,[(vH f0.fSteps),(.slice C_a f0.fHammers.length C_c)]⟩,⟨some b_0,101,[(vH n1.fAt),(vB n1.fPitch)]⟩,⟨o_08,104,row encGChoice xs_01 sp_0k⟩,⟨o_8,99,row encI8 t_0 sp_1⟩,⟨o_6,99,row encI8 t_2 sp_03⟩]) ht_1i ⟨o_04,cap_06,sp_07,xs_4.length⟩ ⟨rfl,hs_0w,ho_0x⟩ [0,1,2,3,4] ?_
     rintro⟨xs_01,i_3⟩ ⟨o_08,cap_0d,sp_0k,n_0r⟩ y_1a ⟨rfl,hs_1b,ho_1c⟩ h
     rw [Fx.l_15] at h
     refine jc_seq (jc_seq (jc_region (qh [0,0,0,0] (qe (jx_then (qi h (fun h=> ?_) (fun h=> ?_)))))))
     ·refine jc_skip (jx_then (jc_seq (jc_block (jc_seq (jc_region (qh [0] (qe (jx_then (jc_meet (fun(j:(List GChoice)×(Option Nat)×Nat×(List Value)×Nat)=>match j with | ⟨xs_02,o_0e,cap_0l,sp_0s,n_0t⟩=>Fx.k_18 i_3 xs_02=some y_1a∧(xs_02.length=n_0t)∧(hS o_0e n_0t cap_0l sp_0s 4)∧(hO o_0e xs_02 cap_0l)) (fun⟨xs_02,o_0e,cap_0l,sp_0s,n_0t⟩=> [(0,[],(vP A_b)),(3,[],(vP b_0)),(4,[],(.slice none 0 0)),(5,[],(.slice (mB o_0e) n_0t cap_0l)),(6,[],(.slice (mB o_8) t_0.length cap_4)),(7,[],(.slice (mB o_6) t_2.length cap_7)),(8,[],(vI i_1)),(9,[],(vI i_3))]) (fun⟨xs_02,o_0e,cap_0l,sp_0s,n_0t⟩=> [⟨some A_b,27,[(vH f0.fSteps),(.slice C_a f0.fHammers.length C_c)]⟩,⟨some b_0,101,[(vH n1.fAt),(vB n1.fPitch)]⟩,⟨o_0e,104,row encGChoice xs_02 sp_0s⟩,⟨o_8,99,row encI8 t_0 sp_1⟩,⟨o_6,99,row encI8 t_2 sp_03⟩]) ?_ ?_)))))))))
      ·refine jc_block ?_
       obtain⟨t_17,ht_1k,hr_1l⟩:=bd h
       refine jl (fun(s:(List GChoice)×Int) (x:(Option Nat)×Nat×(List Value)×Nat)=>match s,x with | ⟨xs_5,i_9⟩,⟨o_05,cap_09,sp_0a,n_0u⟩=>(xs_5.length=n_0u)∧(hS o_05 n_0u cap_09 sp_0a 4)∧(hO o_05 xs_5 cap_09)) (fun⟨xs_5,i_9⟩ ⟨o_05,cap_09,sp_0a,n_0u⟩=> [(0,[],(vP A_b)),(3,[],(vP b_0)),(4,[],(.slice none 0 0)),(5,[],(.slice (mB o_05) n_0u cap_09)),(6,[],(.slice (mB o_8) t_0.length cap_4)),(7,[],(.slice (mB o_6) t_2.length cap_7)),(8,[],(vI i_1)),(9,[],(vI i_3)),(10,[],(vI i_9))]) (fun⟨xs_5,i_9⟩ ⟨o_05,cap_09,sp_0a,n_0u⟩=> [⟨some A_b,27,[(vH f0.fSteps),(.slice C_a f0.fHammers.length C_c)]⟩,⟨some b_0,101,[(vH n1.fAt),(vB n1.fPitch)]⟩,⟨o_05,104,row encGChoice xs_5 sp_0a⟩,⟨o_8,99,row encI8 t_0 sp_1⟩,⟨o_6,99,row encI8 t_2 sp_03⟩]) ht_1k ⟨o_08,cap_0d,sp_0k,xs_01.length⟩ ⟨rfl,hs_1b,ho_1c⟩ [0,1,2,3,4] ?_
       rintro⟨xs_5,i_9⟩ ⟨o_05,cap_09,sp_0a,n_0u⟩ y_28 ⟨rfl,hs_0z,ho_10⟩ h
       rw [Fx.l_21] at h
       refine jc_seq (jc_seq (jc_region (qh [0,0,0,0,0,0,0] (qe (jx_then (qi h (fun h=> ?_) (fun h=> ?_)))))))
       ·refine jc_skip (jx_then (jc_seq (jc_block (jc_seq (qg [⟨some A_b,27,[(vH f0.fSteps),(.slice C_a f0.fHammers.length C_c)]⟩,⟨some b_0,101,[(vH n1.fAt),(vB n1.fPitch)]⟩,⟨o_05,104,row encGChoice xs_5 sp_0a⟩,⟨o_8,99,row encI8 t_0 sp_1⟩,⟨o_6,99,row encI8 t_2 sp_03⟩] 17 (qd [⟨0,0,0⟩,⟨1,0,0⟩,⟨2,0,0⟩,⟨3,0,0⟩,⟨4,0,0⟩,⟨8,0,0⟩,⟨9,1,0⟩,⟨10,0,0⟩,⟨11,0,0⟩] 8 [0,1,2,3,4] ?_))))))
        obtain⟨x_15,hx_11,h⟩:=bd h
        refine qX 5 0 [0,1,2,3,4] C_a 2 hx_11 rfl (C_h.sp hx_11) (qd [⟨6,0,0⟩] 6 [0,1,2,3,4] (qL 7 0 [0,1,2,3,4] false (fun w hm=>((hm.exRowW C_h C_ha).at hx_11).sub 0 1) ?_))
        obtain⟨x_16,hx_12,h⟩:=bd h
        refine qX 12 0 [0,1,2,3,4] (mB o_6) 1 hx_12 rfl (spo ho_3 hx_12) (qL 13 0 [0,1,2,3,4] false (fun w hm=>(hm.ow 4 o_6 99 t_2 sp_03 (fun e=>(ho_3 e).1) encI8_len).at hx_12) (qd [⟨14,0,0⟩,⟨15,0,0⟩,⟨16,0,0⟩] 0 [0,1,2,3,4] (qz (jx_then (qi h (fun h=> ?_) (fun h=> ?_))))))
        ·refine qg [⟨some A_b,27,[(vH f0.fSteps),(.slice C_a f0.fHammers.length C_c)]⟩,⟨some b_0,101,[(vH n1.fAt),(vB n1.fPitch)]⟩,⟨o_8,99,row encI8 t_0 sp_1⟩,⟨o_6,99,row encI8 t_2 sp_03⟩] 15 (qd [⟨0,0,0⟩,⟨1,0,0⟩,⟨2,0,0⟩,⟨5,0,0⟩,⟨6,0,0⟩,⟨9,0,0⟩,⟨10,0,0⟩] 8 [0,1,3,4] ?_)
         obtain⟨x_0f,hx_13,h⟩:=bd h
         refine qX 3 0 [0,1,3,4] (mB o_8) 1 hx_13 rfl (spo ho_0h hx_13) (qL 4 0 [0,1,3,4] false (fun w hm=>(hm.ow 2 o_8 99 t_0 sp_1 (fun e=>(ho_0h e).1) encI8_len).at hx_13) ?_)
         obtain⟨x_0g,hx_14,h⟩:=bd h
         refine qX 7 0 [0,1,3,4] (mB o_6) 1 hx_14 rfl (spo ho_3 hx_14) (qL 8 0 [0,1,3,4] false (fun w hm=>(hm.ow 3 o_6 99 t_2 sp_03 (fun e=>(ho_3 e).1) encI8_len).at hx_14) (qd [⟨11,0,0⟩] 3 [0,1,3,4] (tD 12 (qa 0 (fun b_1d=>kD [0,1,3,4] ?_)))))
         obtain⟨hg_1m,h⟩:=gd h
         exact tD 13 (pA 0 2 o_05 104 xs_5.length 1 cap_09 4 4 (sB b_1d) encGChoice xs_5 ([(⟨false,x_0f,x_0g,(w8 i_9)⟩:GChoice)]:List GChoice) sp_0a (.agg #[(.bool false),(vB 0),(vB 0),(vB 0)]) rfl rfl encGChoice_len encGChoice_cell hs_0z ho_10 (fun w hm=>(hm.ow 5 (some b_1d) 104 ([(⟨false,x_0f,x_0g,(w8 i_9)⟩:GChoice)]:List GChoice) [] (fun e=>nomatch e) encGChoice_len)) hg_1m (fun o_1n cap_1o sp_1p hs_1q ho_1r=>kD [0,1,3,4] (qd [⟨14,0,0⟩] 0 [0,1,3,4] (qz (jx_inn (jx_then (jc_region (qh [0,0,0] (qe (qb ((xs_5++([(⟨false,x_0f,x_0g,(w8 i_9)⟩:GChoice)]:List GChoice)),(w64 (i_9+1))) ⟨o_1n,cap_1o,sp_1p,(xs_5++([(⟨false,x_0f,x_0g,(w8 i_9)⟩:GChoice)]:List GChoice)).length⟩ h ⟨rfl,hs_1q,ho_1r⟩ [0,1,2,3,4]))))))))))
        ·exact jc_skip (jx_inn (jx_then (jc_region (qh [0,0,0] (qe (qb (xs_5,(w64 (i_9+1))) ⟨o_05,cap_09,sp_0a,xs_5.length⟩ h ⟨rfl,hs_0z,ho_10⟩ [0,1,2,3,4]))))))
       ·refine jc_exit (jx_thenx (jx_leave xs_5 (sj h) (fun e_1s=> ?_)))
        subst e_1s
        exact jx_ine (qm ⟨xs_5,o_05,cap_09,sp_0a,xs_5.length⟩ ⟨hr_1l,rfl,hs_0z,ho_10⟩ [0,1,2,3,4])
      ·rintro⟨xs_02,o_0e,cap_0l,sp_0s,n_0t⟩ ⟨h,rfl,hs_1t,ho_1u⟩
       replace h:Fx.k_18 i_3 xs_02=some y_1a:=h
       rw [Fx.k_18] at h
       exact jx_inn (jx_then (jc_region (qh [0,0,0] (qe (qb (xs_02,(w64 (i_3+1))) ⟨o_0e,cap_0l,sp_0s,xs_02.length⟩ h ⟨rfl,hs_1t,ho_1u⟩ [0,1,2,3,4])))))
     ·refine jc_exit (jx_thenx (jx_leave xs_01 (sj h) (fun e_1v=> ?_)))
      subst e_1v
      exact jx_ine (qm ⟨xs_01,o_08,cap_0d,sp_0k,xs_01.length⟩ ⟨hr_1j,rfl,hs_1b,ho_1c⟩ [0,1,2,3,4])
    ·rintro⟨xs_7,o_0c,cap_0j,sp_0p,n_0q⟩ ⟨h,rfl,hs_1w,ho_1x⟩
     replace h:Fx.k_12 i_1 xs_7=some y_19:=h
     rw [Fx.k_12] at h
     exact jx_inn (jx_then (jc_region (qh [0,0,0] (qe (qb (xs_7,(w64 (i_1+1))) ⟨o_0c,cap_0j,sp_0p,xs_7.length⟩ h ⟨rfl,hs_1w,ho_1x⟩ [0,1,2,3,4])))))
  ·refine jc_exit (jx_thenx (jx_leave xs_4 (sj h) (fun e_1y=> ?_)))
   subst e_1y
   exact jx_ine (qm ⟨xs_4,o_04,cap_06,sp_07,xs_4.length⟩ ⟨hr_1g,rfl,hs_0w,ho_0x⟩ [0,1,2,3,4])
 ·rintro⟨xs_00,o_0b,cap_0i,sp_0m,n_0n⟩ ⟨h,rfl,hs_1z,ho_20⟩
  replace h:Fx.k_4 xs_00=some r:=h
  rw [Fx.k_4] at h
  refine jx_then (jc_seq (jc_region (qh [0,0] (tO (qa 0 (fun b_1e=>jkO ?_))))))
  obtain⟨hg_21,h⟩:=gd h
  refine tO (pA 0 2 o_0b 104 xs_00.length 1 cap_0i 4 4 (sB b_1e) encGChoice xs_00 ([(⟨true,0,0,0⟩:GChoice)]:List GChoice) sp_0m (.agg #[(.bool false),(vB 0),(vB 0),(vB 0)]) rfl rfl encGChoice_len encGChoice_cell hs_1z ho_20 (fun w hm=>(hm.ow 5 (some b_1e) 104 ([(⟨true,0,0,0⟩:GChoice)]:List GChoice) [] (fun e=>nomatch e) encGChoice_len)) hg_21 (fun o_22 cap_23 sp_24 hs_25 ho_26=>jkO (qh [0] (qe (jx_then (jc_ret ?_))))))
  obtain rfl:=si h
  exact qr [] (fun w hm=>⟨o_22,cap_23,sp_24,((xs_00++([(⟨true,0,0,0⟩:GChoice)]:List GChoice)).length),rfl,hs_25,ho_26,rfl,hm.pk [0,2]⟩)
def FaW(d0:Arr 96 Int)(step1:Int)(track2:Int):Option (Bool):=(ix d0.1 step1).bind fun x_0=>(if 0≤(u64 track2) then some ((Int.tmod (bShr .u32 x_0 (u64 track2)) 2)==1) else none)
theorem FaW.calls(d0:Arr 96 Int)(step1:Int)(track2:Int)(w:World)(r:Bool){A_b A_q:Nat}(A_h:Rw w (some ⟨A_b,A_q,none⟩) 1 encU32 d0.1)(h:FaW d0 step1 track2=some r):
   Calls Tryz.prog 152 #[(.pointer (some ⟨A_b,A_q,none⟩)),(vI step1),(vI track2)] w fun e w'=>∃v,e= .returned v∧(v=(.bool r)∧Mem w [] [] w'):=by
 rw [FaW] at h
 refine en Tryz.func152 rfl Tryz.ntmps152 (jc_seq (jc_region (qh [0] (qe (jx_then (jc_seq (jc_region (qh [0,0,0] ?_))))))))
 obtain⟨x_0,hx_0,h⟩:=bd h
 refine tO (qx 0 (some ⟨A_b,A_q,none⟩) 1 hx_0 d0.2 (A_h.sp hx_0) (jkO (tO (ql 0 false (fun w hm=>((hm.xr A_h).at hx_0)) (jkO (qh [0,0] ?_))))))
 obtain⟨hg_1,h⟩:=gd h
 refine tO (pW 0 .u32 x_0 .u64 (u64 track2) hg_1 (jkO (qh [0,0,0] (qe (jx_then (jc_ret ?_))))))
 obtain rfl:=si h
 exact qr [] (fun w hm=>⟨rfl,hm.pk []⟩)
def FZ.k_3:Option (Bool):=some true
def FZ.k_8(i_0:Int)(q_1:Bool):Option ((Int)⊕(Bool⊕Unit)):=(if q_1=true then some (.inr (.inl false)) else some (.inl (w64 (i_0+1))))
def FZ.l_5(f0:GFrame)(d1:Arr 96 Int)(step2:Int)(track3:Int)(x_2:GHammer):Int→Option ((Int)⊕(Bool⊕Unit))
 | i_0=>(if(decide (i_0<(w64 x_2.fReady)))=true then(if(w64 f0.fSteps)≠0 then(FaW d1 (Int.tmod (w64 (step2+i_0)) (w64 f0.fSteps)) track3).bind fun t_5=>(if t_5=true then FZ.k_8 i_0 true else(if(w64 f0.fSteps)≠0 then(FaW d1 (Int.tmod (w64 ((w64 (step2+(w64 f0.fSteps)))-i_0)) (w64 f0.fSteps)) track3).bind fun t_3=>FZ.k_8 i_0 t_3 else none)) else none) else some (.inr (.inr ())))
def FZ(f0:GFrame)(d1:Arr 96 Int)(step2:Int)(track3:Int):Option (Bool):=(FaW d1 step2 track3).bind fun t_6=>(if t_6=true then some false else(ix f0.fHammers track3).bind fun x_2=>(loop (FZ.l_5 f0 d1 step2 track3 x_2) 1).bind fun t_7=>match t_7 with | .inl p=>some p | .inr p=>FZ.k_3)
theorem FZ.calls(f0:GFrame)(d1:Arr 96 Int)(step2:Int)(track3:Int)(w:World)(r:Bool){C_a:Option Addr}{C_an:Nat}(C_c:Nat)(C_h:Rw w C_a 2 encGHammer f0.fHammers)(C_hn:f0.fHammers.length=C_an){D_b D_q:Nat}(D_h:Rw w (some ⟨D_b,D_q,none⟩) 1 encU32 d1.1)(A_b:Nat)(hm0:Mem w (bs [some A_b]) [⟨some A_b,27,[(vH f0.fSteps),(.slice C_a C_an C_c)]⟩] w)(C_ha:f0.fHammers≠ []→aB C_a∉bs [some A_b])(D_ha:d1.1≠ []→aB (some ⟨D_b,D_q,none⟩)∉bs [some A_b])(h:FZ f0 d1 step2 track3=some r):
   Calls Tryz.prog 140 #[(vP A_b),(.pointer (some ⟨D_b,D_q,none⟩)),(vI step2),(vI track3)] w fun e w'=>∃v,e= .returned v∧(v=(.bool r)∧Mem w (bs [some A_b]) [⟨some A_b,27,[(vH f0.fSteps),(.slice C_a C_an C_c)]⟩] w'):=by
 subst C_hn
 rw [FZ] at h
 refine enter (args:= [(vP A_b),(.pointer (some ⟨D_b,D_q,none⟩)),(vI step2),(vI track3)]) Tryz.func140 rfl Tryz.ntmps140 (by kernel_rfl) (L:= [⟨some A_b,27,[(vH f0.fSteps),(.slice C_a f0.fHammers.length C_c)]⟩]) (W:=bs [some A_b]) hm0 (jc_seq (jc_region (qh [0] (qe (jx_then (jc_seq (jc_seq (jc_region (qh [0,0,0] ?_)))))))))
 obtain⟨t_6,ht_00,h⟩:=bd h
 refine tO (pq 0 (fun w hm=>FaW.calls d1 step2 track3 w _ (hm.exRowW D_h D_ha) ht_00) (jkO (qe (jx_then (qi h (fun h=> ?_) (fun h=> ?_))))))
 ·refine jc_seq (jc_region (qh [0] (qe (jx_then (jc_ret (jx_thenr ?_))))))
  obtain rfl:=si h
  exact qr [] (fun w hm=>⟨rfl,hm.pk [0]⟩)
 ·refine jc_skip (jx_then (jc_seq (jc_region (qh [0,0,0,0,0,0] (qe (jx_then (jc_seq (jc_region (qh [0,0,0,0,0] ?_)))))))))
  obtain⟨x_2,hx_4,h⟩:=bd h
  refine tO (qx 0 C_a 2 hx_4 rfl (C_h.sp hx_4) (jkO (qh [0] (tO (ql 0 false (fun w hm=>(((hm.exRowW C_h C_ha).at hx_4).sub 1 1)) (jkO (qh [0,0] (qe (jx_then (jc_seq (jc_seq (jc_region (qh [0] (qe (jx_then (jc_meet (fun(_:Unit)=>FZ.k_3=some r) (fun(_:Unit)=> [(8,[],(.bool false))]) (fun(_:Unit)=> [⟨some A_b,27,[(vH f0.fSteps),(.slice C_a f0.fHammers.length C_c)]⟩]) ?_ ?_))))))))))))))))
  ·refine jc_block ?_
   obtain⟨t_7,ht_01,hr_8⟩:=bd h
   refine jl (fun(i_0:Int) (_:Unit)=>True) (fun i_0 _=> [(1,[],(.pointer (some ⟨D_b,D_q,none⟩))),(2,[],(vI step2)),(3,[],(vI track3)),(8,[],(.bool false)),(9,[],(vI (w64 f0.fSteps))),(10,[],(vI (w64 x_2.fReady))),(11,[],(vI i_0))]) (fun i_0 _=> [⟨some A_b,27,[(vH f0.fSteps),(.slice C_a f0.fHammers.length C_c)]⟩]) ht_01 () trivial [0] ?_
   rintro i_0 _ y_9 _ h
   rw [FZ.l_5] at h
   refine jc_seq (jc_seq (jc_region (qh [0,0,0] (qe (jx_then (qi h (fun h=> ?_) (fun h=> ?_)))))))
   ·refine jc_skip (jx_then (jc_seq (jc_block (jc_seq (jc_meet (fun(q_1:Bool)=>FZ.k_8 i_0 q_1=some y_9) (fun q_1=> [(1,[],(.pointer (some ⟨D_b,D_q,none⟩))),(2,[],(vI step2)),(3,[],(vI track3)),(8,[],(.bool false)),(9,[],(vI (w64 f0.fSteps))),(10,[],(vI (w64 x_2.fReady))),(11,[],(vI i_0)),(54,[],(.bool q_1))]) (fun q_1=> [⟨some A_b,27,[(vH f0.fSteps),(.slice C_a f0.fHammers.length C_c)]⟩]) ?_ ?_)))))
    ·refine jc_region (qh [0,0,0,0,0] ?_)
     obtain⟨hg_02,h⟩:=gd h
     refine tO (pM 0 .i64 (w64 (step2+i_0)) (w64 f0.fSteps) hg_02 (jkO (qh [0] ?_)))
     obtain⟨t_5,ht_03,h⟩:=bd h
     refine tO (pq 0 (fun w hm=>FaW.calls d1 (Int.tmod (w64 (step2+i_0)) (w64 f0.fSteps)) track3 w _ (hm.exRowW D_h D_ha) ht_03) (jkO (qf [(0,0),(0,1),(0,1),(0,1),(0,1),(0,1),(0,1),(0,1)] (qp 43 h (fun h=> ?_) (fun h=> ?_)))))
     ·exact qf [(0,3),(0,3),(0,3),(0,4)] (qe (qm true h [0]))
     ·obtain⟨hg_04,h⟩:=gd h
      refine tO (pM 2 .i64 (w64 ((w64 (step2+(w64 f0.fSteps)))-i_0)) (w64 f0.fSteps) hg_04 (jkO (qf [(0,2)] ?_)))
      obtain⟨t_3,ht_05,h⟩:=bd h
      exact tO (pq 2 (fun w hm=>FaW.calls d1 (Int.tmod (w64 ((w64 (step2+(w64 f0.fSteps)))-i_0)) (w64 f0.fSteps)) track3 w _ (hm.exRowW D_h D_ha) ht_05) (jkO (qf [(0,5)] (qe (qm t_3 h [0])))))
    ·rintro q_1 h
     replace h:FZ.k_8 i_0 q_1=some y_9:=h
     rw [FZ.k_8] at h
     refine jx_then (qi h (fun h=> ?_) (fun h=> ?_))
     ·refine jc_seq (jc_region (qh [0] (qe (jx_then (jc_ret (jx_inr (jx_thenr (jx_leaver (.inl false) (sj h) (fun e_06=> ?_)))))))))
      subst e_06
      refine jx_inr (jx_thenr (jx_thenr ?_))
      obtain rfl:=si hr_8
      exact qr [] (fun w hm=>⟨rfl,hm.pk [0]⟩)
     ·exact jc_skip (jx_inn (jx_then (jc_region (qh [0,0,0] (qe (qb (w64 (i_0+1)) () h trivial [0]))))))
   ·refine jc_exit (jx_thenx (jx_leave (.inr ()) (sj h) (fun e_07=> ?_)))
    subst e_07
    exact jx_ine (qm () hr_8 [0])
  ·rintro _ h
   replace h:FZ.k_3=some r:=h
   rw [FZ.k_3] at h
   refine jx_then (jc_seq (jc_region (qh [0] (qe (jx_then (jc_ret ?_))))))
   obtain rfl:=si h
   exact qr [] (fun w hm=>⟨rfl,hm.pk [0]⟩)
def FaS(f0:GFrame)(d1:Arr 96 Int)(n2:GNote)(x3:GChoice):Option (Bool×(Arr 96 Int)):=(if x3.fAway=true then some (true,d1) else(FZ f0 d1 (w64 ((w64 n2.fAt)+(w64 x3.fLate))) (w64 x3.fTrack)).bind fun t_1=>(if(!t_1)=true then some (false,d1) else(ix d1.1 (w64 ((w64 n2.fAt)+(w64 x3.fLate)))).bind fun x_0=>(if 0≤(u64 x3.fTrack) then(ix d1.1 (w64 ((w64 n2.fAt)+(w64 x3.fLate)))).bind fun x_3=>some (true,(Arr.set d1 (w64 ((w64 n2.fAt)+(w64 x3.fLate))) (bOr .u32 x_0 (bShl .u32 1 (u64 x3.fTrack))))) else none)))
theorem FaS.calls(f0:GFrame)(d1:Arr 96 Int)(n2:GNote)(x3:GChoice)(w:World)(r:Bool×(Arr 96 Int)){C_a:Option Addr}{C_an:Nat}(C_c:Nat)(C_h:Rw w C_a 2 encGHammer f0.fHammers)(C_hn:f0.fHammers.length=C_an)(A_b:Nat)(D_b:Nat)(hm0:Mem w (bs [some A_b,some D_b]) [⟨some A_b,27,[(vH f0.fSteps),(.slice C_a C_an C_c)]⟩,⟨(some D_b),40,row encU32 d1.1 []⟩] w)(C_ha:f0.fHammers≠ []→aB C_a∉bs [some A_b,some D_b])(h:FaS f0 d1 n2 x3=some r):
   Calls Tryz.prog 71 #[(vP A_b),(vP D_b),(.agg #[(vH n2.fAt),(vB n2.fPitch)]),(.agg #[(.bool x3.fAway),(vB x3.fLate),(vB x3.fOctave),(vB x3.fTrack)])] w fun e w'=>∃v,e= .returned v∧(v=(.bool r.1)∧Mem w (bs [some A_b,some D_b]) [⟨some A_b,27,[(vH f0.fSteps),(.slice C_a C_an C_c)]⟩,⟨(some D_b),40,row encU32 r.2.1 []⟩] w'):=by
 subst C_hn
 rw [FaS] at h
 refine enter (args:= [(vP A_b),(vP D_b),(.agg #[(vH n2.fAt),(vB n2.fPitch)]),(.agg #[(.bool x3.fAway),(vB x3.fLate),(vB x3.fOctave),(vB x3.fTrack)])]) Tryz.func71 rfl Tryz.ntmps71 (by kernel_rfl) (L:= [⟨some A_b,27,[(vH f0.fSteps),(.slice C_a f0.fHammers.length C_c)]⟩,⟨(some D_b),40,row encU32 d1.1 []⟩]) (W:=bs [some A_b,some D_b]) hm0 (jc_seq (jc_region (tO (qa 0 (fun b_1=>jkO (tO (qa 0 (fun b_0=>jkO (qh [0] (qe (jx_then (jc_seq (jc_seq (jc_region (qh [0,3] (qe (jx_then (qi h (fun h=> ?_) (fun h=> ?_)))))))))))))))))))
 ·refine jc_seq (jc_region (qh [0] (qe (jx_then (jc_ret (jx_thenr ?_))))))
  obtain rfl:=si h
  exact qr [] (fun w hm=>⟨rfl,hm.pk [0,1]⟩)
 ·refine jc_skip (jx_then (jc_seq (jc_region (qh [0,2,0,0,3,0,0,0] (qe (jx_then (jc_seq (jc_seq (jc_region (qh [0,0,0,0,3,0] ?_))))))))))
  obtain⟨t_1,ht_6,h⟩:=bd h
  refine tO (pc 0 (fun w hm=>FZ.calls f0 d1 (w64 ((w64 n2.fAt)+(w64 x3.fLate))) (w64 x3.fTrack) w _ C_c (hm.exRowW C_h C_ha) rfl (hm.ow 1 (some D_b) 40 d1.1 [] (fun e=>nomatch e) encU32_len) A_b (hm.ps [0]) (hm.xp C_h C_ha [0]) (hm.oa 1 (some D_b) (fun e=>nomatch e) [0]) ht_6) ?_)
  rintro w v w' hm ⟨rfl,hm'⟩
  refine⟨_,hm.appW (ps:= [(0,⟨some A_b,27,[(vH f0.fSteps),(.slice C_a f0.fHammers.length C_c)]⟩)]) (N:= []) hm' (by kernel_rfl) (by kernel_rfl),jkO ?_⟩
  clear hm hm'
  refine qh [0] (qe (jx_then (qi h (fun h=> ?_) (fun h=> ?_))))
  ·refine jc_seq (jc_region (qh [0] (qe (jx_then (jc_ret (jx_thenr ?_))))))
   obtain rfl:=si h
   exact qr [] (fun w hm=>⟨rfl,hm.pk [0,1]⟩)
  ·refine jc_skip (jx_then (jc_seq (qg [⟨some A_b,27,[(vH f0.fSteps),(.slice C_a f0.fHammers.length C_c)]⟩,⟨some b_1,101,[(vH n2.fAt),(vB n2.fPitch)]⟩,⟨some b_0,104,[(.bool x3.fAway),(vB x3.fLate),(vB x3.fOctave),(vB x3.fTrack)]⟩] 15 (qd [⟨0,0,0⟩,⟨1,0,0⟩,⟨2,0,0⟩,⟨3,0,0⟩,⟨4,0,0⟩,⟨7,0,0⟩,⟨8,2,0⟩,⟨9,0,0⟩,⟨12,0,0⟩] 6 [0,2,3] ?_))))
   obtain⟨x_0,hx_2,h⟩:=bd h
   refine qX 5 0 [0,2,3] (sB D_b) 1 hx_2 d1.2 rfl (t2 6 10 ?_ ?_)
   ·refine ql 0 false (fun w hm=>((hm.ow 1 (some D_b) 40 d1.1 [] (fun e=>nomatch e) encU32_len).at hx_2)) (kD [0,2,3] ?_)
    obtain⟨hg_7,h⟩:=gd h
    refine tD 10 (pV 0 .u32 1 .u64 (u64 x3.fTrack) hg_7 (kD [0,2,3] (qd [⟨11,0,0⟩] 2 [0,2,3] ?_)))
    obtain⟨x_3,hx_4,h⟩:=bd h
    refine qX 13 0 [0,2,3] (sB D_b) 1 hx_4 d1.2 rfl (tD 14 (pT 0 1 D_b 40 encU32 d1.1 [] (w64 ((w64 n2.fAt)+(w64 x3.fLate))) (bOr .u32 x_0 (bShl .u32 1 (u64 x3.fTrack))) 1 0 [(vU (bOr .u32 x_0 (bShl .u32 1 (u64 x3.fTrack))))] encU32_len hx_4 (kD [0,2,3] (qz (jx_then (jc_seq (jc_region (qh [0] (qe (jx_then (jc_ret ?_)))))))))))
    obtain rfl:=si h
    exact qr [] (fun w hm=>⟨rfl,hm.pk [0,1]⟩)
   ·obtain⟨hg_8,h⟩:=gd h
    refine pV 0 .u32 1 .u64 (u64 x3.fTrack) hg_8 (kD [0,2,3] (tD 6 (ql 0 false (fun w hm=>((hm.ow 1 (some D_b) 40 d1.1 [] (fun e=>nomatch e) encU32_len).at hx_2)) (kD [0,2,3] (qd [⟨11,0,0⟩] 2 [0,2,3] ?_)))))
    obtain⟨x_3,hx_5,h⟩:=bd h
    refine qX 13 0 [0,2,3] (sB D_b) 1 hx_5 d1.2 rfl (tD 14 (pT 0 1 D_b 40 encU32 d1.1 [] (w64 ((w64 n2.fAt)+(w64 x3.fLate))) (bOr .u32 x_0 (bShl .u32 1 (u64 x3.fTrack))) 1 0 [(vU (bOr .u32 x_0 (bShl .u32 1 (u64 x3.fTrack))))] encU32_len hx_5 (kD [0,2,3] (qz (jx_then (jc_seq (jc_region (qh [0] (qe (jx_then (jc_ret ?_)))))))))))
    obtain rfl:=si h
    exact qr [] (fun w hm=>⟨rfl,hm.pk [0,1]⟩)
def FC.k_4(i_1:Int):Option (Int):=some i_1
def FC.k_2(c0:GCosts)(x1:GChoice)(i_0:Int):Option (Int):=(if(x1.fOctave !=0)=true then FC.k_4 (w64 ((w64 ((w64 c0.fStep)*i_0))+(w64 c0.fOctave))) else FC.k_4 (w64 ((w64 c0.fStep)*i_0)))
def FC(c0:GCosts)(x1:GChoice):Option (Int):=(if x1.fAway=true then some (w64 c0.fAway) else(if(decide ((w64 x1.fLate)<0))=true then FC.k_2 c0 x1 (w64 (0-(w64 x1.fLate))) else FC.k_2 c0 x1 (w64 x1.fLate)))
theorem FC.calls(c0:GCosts)(x1:GChoice)(w:World)(r:Int)(h:FC c0 x1=some r):
   Calls Tryz.prog 72 #[(.agg #[(vH c0.fAway),(vH c0.fOctave),(vH c0.fStep)]),(.agg #[(.bool x1.fAway),(vB x1.fLate),(vB x1.fOctave),(vB x1.fTrack)])] w fun e w'=>∃v,e= .returned v∧(v=(vI r)∧Mem w [] [] w'):=by
 rw [FC] at h
 refine en Tryz.func72 rfl Tryz.ntmps72 (jc_seq (jc_region (tO (qa 0 (fun b_0=>jkO (tO (qa 0 (fun b_2=>jkO (qh [0] (qe (jx_then (jc_seq (jc_seq (jc_region (qh [0,1] (qe (jx_then (qi h (fun h=> ?_) (fun h=> ?_)))))))))))))))))))
 ·refine jc_seq (jc_region (qh [0,0,0,0] (qe (jx_then (jc_ret (jx_thenr ?_))))))
  obtain rfl:=si h
  exact qr [] (fun w hm=>⟨rfl,hm.pk []⟩)
 ·refine jc_skip (jx_then (jc_seq (jc_region (qh [0,1,0,0] (qe (jx_then (jc_seq (jc_meet (fun(i_0:Int)=>FC.k_2 c0 x1 i_0=some r) (fun i_0=> [(2,[],(vP b_0)),(3,[],(vP b_2)),(4,[],(vI 0)),(5,[],(vI i_0))]) (fun i_0=> [⟨some b_0,33,[(vH c0.fAway),(vH c0.fOctave),(vH c0.fStep)]⟩,⟨some b_2,104,[(.bool x1.fAway),(vB x1.fLate),(vB x1.fOctave),(vB x1.fTrack)]⟩]) ?_ ?_))))))))
  ·refine jc_seq (jc_region (qh [0,0] (qe (jx_then (qi h (fun h=> ?_) (fun h=> ?_))))))
   ·exact jc_region (qh [0,0,0] (qe (qm (w64 (0-(w64 x1.fLate))) h [0,1])))
   ·exact jc_skip (qm (w64 x1.fLate) h [0,1])
  ·rintro i_0 h
   replace h:FC.k_2 c0 x1 i_0=some r:=h
   rw [FC.k_2] at h
   refine jx_then (jc_seq (jc_region (qh [0,0,0,0,0,0] (qe (jx_then (jc_seq (jc_meet (fun(i_1:Int)=>FC.k_4 i_1=some r) (fun i_1=> [(4,[],(vI 0)),(6,[],(vI i_1))]) (fun i_1=> [⟨some b_0,33,[(vH c0.fAway),(vH c0.fOctave),(vH c0.fStep)]⟩,⟨some b_2,104,[(.bool x1.fAway),(vB x1.fLate),(vB x1.fOctave),(vB x1.fTrack)]⟩]) ?_ ?_)))))))
   ·refine jc_seq (jc_region (qh [0,1,0] (qe (jx_then (qi h (fun h=> ?_) (fun h=> ?_))))))
    ·exact jc_region (qh [0,0,0,0,0,0] (qe (qm (w64 ((w64 ((w64 c0.fStep)*i_0))+(w64 c0.fOctave))) h [0,1])))
    ·exact jc_skip (qm (w64 ((w64 c0.fStep)*i_0)) h [0,1])
   ·rintro i_1 h
    replace h:FC.k_4 i_1=some r:=h
    rw [FC.k_4] at h
    refine jx_then (jc_seq (jc_region (qh [0,0] (qe (jx_then (jc_ret ?_))))))
    obtain rfl:=si h
    exact qr [] (fun w hm=>⟨rfl,hm.pk []⟩)
def FH.k_4(xs_3:List GChoice)(a_09:Arr 96 Int):Option ((List GChoice)×Int):=some (xs_3,0)
def FH.k_13(f0:GFrame)(t1:List GNote)(xs_0:List GChoice)(a_2:Arr 96 Int)(i_6:Int)(t_1:(List GChoice))(i_06:Int):Option (((List GChoice)×(Arr 96 Int)×Int)⊕(((List GChoice)×(Arr 96 Int)))):=(ix t1 i_6).bind fun x_0j=>(ix t_1 i_06).bind fun x_0k=>(FaS f0 a_2 x_0j x_0k).bind fun t_0h=>(ix t_1 i_06).bind fun x_0a=>(if xs_0.length+([x_0a]:List GChoice).length≤4294967296 then some (.inl ((xs_0++([x_0a]:List GChoice)),t_0h.2,(w64 (i_6+1)))) else none)
def FH.k_24(i_7:Int)(i_5:Int)(a_0b:Arr 96 Int)(q_07:Bool):Option ((Int×Int)⊕(Int)):=(if q_07=true then some (.inl (i_5,(w64 (i_5+1)))) else some (.inl (i_7,(w64 (i_5+1)))))
def FH.l_20(f0:GFrame)(t1:List GNote)(c2:GCosts)(a_2:Arr 96 Int)(i_6:Int)(t_1:(List GChoice)):(Int×Int)→Option ((Int×Int)⊕(Int))
 | (i_7,i_5)=>(if(decide (i_5<(t_1.length:Int)))=true then(ix t1 i_6).bind fun x_0l=>(ix t_1 i_5).bind fun x_0m=>(FaS f0 a_2 x_0l x_0m).bind fun t_04=>(if t_04.1=true then(if(decide (i_7<0))=true then FH.k_24 i_7 i_5 t_04.2 true else(ix t_1 i_5).bind fun x_0n=>(ix t_1 i_7).bind fun x_0o=>(FC c2 x_0n).bind fun t_0p=>(FC c2 x_0o).bind fun t_0q=>FH.k_24 i_7 i_5 t_04.2 (decide (t_0p<t_0q))) else FH.k_24 i_7 i_5 t_04.2 false) else some (.inr i_7))
def FH.l_8(f0:GFrame)(t1:List GNote)(c2:GCosts):((List GChoice)×(Arr 96 Int)×Int)→Option (((List GChoice)×(Arr 96 Int)×Int)⊕(((List GChoice)×(Arr 96 Int))))
 | (xs_0,a_2,i_6)=>(if(decide (i_6<(t1.length:Int)))=true then(ix t1 i_6).bind fun x_9=>(Fx f0 x_9).bind fun t_1=>(loop (FH.l_20 f0 t1 c2 a_2 i_6 t_1) ((-1),0)).bind fun t_12=>FH.k_13 f0 t1 xs_0 a_2 i_6 t_1 t_12 else some (.inr (xs_0,a_2)))
def FH(f0:GFrame)(t1:List GNote)(c2:GCosts):Option ((List GChoice)×Int):=(Faj f0 t1 c2).bind fun t_4=>(if(t_4 !=0)=true then some (([]:List GChoice),t_4) else(loop (FH.l_8 f0 t1 c2) (([]:List GChoice),(Arr.rep 96 0),0)).bind fun t_0g=>FH.k_4 t_0g.1 t_0g.2)
set_option maxHeartbeats 8000000 in
theorem FH.calls(f0:GFrame)(t1:List GNote)(c2:GCosts)(w:World)(r:(List GChoice)×Int){C_a:Option Addr}{C_an:Nat}(C_c:Nat)(C_h:Rw w C_a 2 encGHammer f0.fHammers)(C_hn:f0.fHammers.length=C_an){D_a:Option Addr}{D_an:Nat}(D_c:Nat)(D_h:Rw w D_a 2 encGNote t1)(D_hn:t1.length=D_an)(h:FH f0 t1 c2=some r):
   Calls Tryz.prog 10 #[(.agg #[(vH f0.fSteps),(.slice C_a C_an C_c)]),(.slice D_a D_an D_c),(.agg #[(vH c2.fAway),(vH c2.fOctave),(vH c2.fStep)])] w fun e w'=>∃v,e= .returned v∧(∃(o0:Option Nat) (c0:Nat) (s0:List Value) (n0:Nat),r.1.length=n0∧(hS o0 n0 c0 s0 4)∧(hO o0 r.1 c0)∧v= .tuple #[.slice (mB o0) n0 c0,(vI r.2)]∧Mem w [] [⟨o0,104,row encGChoice r.1 s0⟩] w'):=by
 subst C_hn D_hn
 rw [FH] at h
 refine en Tryz.func10 rfl Tryz.ntmps10 (jc_seq (jc_region (tO (qa 0 (fun b_4=>jkO (tO (qa 0 (fun b_3=>jkO (qh [0,0] (qe (jx_then (jc_seq (jc_seq (jc_region (qh [0,1] ?_)))))))))))))))
 obtain⟨t_4,ht_2,h⟩:=bd h
 refine tO (pc 0 (fun w hm=>Faj.calls f0 t1 c2 w _ C_c (hm.xr C_h) rfl D_c (hm.xr D_h) rfl b_4 (hm.ps [0]) (hm.xp C_h (fun _=>List.not_mem_nil) [0]) (hm.xp D_h (fun _=>List.not_mem_nil) [0]) ht_2) ?_)
 rintro w v w' hm ⟨rfl,hm'⟩
 refine⟨_,hm.appW (ps:= [(0,⟨some b_4,27,[(vH f0.fSteps),(.slice C_a f0.fHammers.length C_c)]⟩)]) (N:= []) hm' (by kernel_rfl) (by kernel_rfl),jkO ?_⟩
 clear hm hm'
 refine qh [0] (qe (jx_then (jc_seq (jc_region (qh [0,0] (qe (jx_then (qi h (fun h=> ?_) (fun h=> ?_)))))))))
 ·refine jc_seq (jc_region (tO (qa 0 (fun b_18=>jkO (qh [0,0,0] (qe (jx_then (jc_ret (jx_thenr ?_)))))))))
  obtain rfl:=si h
  exact qr [] (fun w hm=>⟨(some b_18),0,[],0,rfl,(fun _=>⟨Nat.le_refl _,by simp⟩),(fun e=>nomatch e),rfl,hm.pk [2]⟩)
 ·refine jc_skip (jx_then (jc_seq (jc_region (tO (qa 0 (fun b_0g=>jkO (qh [0] (qe (jx_then (jc_seq (jc_region (qh [0] (tO (qa 0 (fun b_9=>jkO (tO (pS 0 3 b_9 96 1 40 encU32 (Arr.rep 96 0) (Arr.rep 96 0) encU32_len encU32_cell (jkO (qe (jx_then (jc_seq (jc_seq (jc_region (qh [0] (qe (jx_then (jc_meet (fun(j:(List GChoice)×(Arr 96 Int)×(Option Nat)×Nat×(List Value)×Nat)=>match j with | ⟨xs_3,a_09,o_08,cap_0c,sp_0d,n_0e⟩=>FH.k_4 xs_3 a_09=some r∧(xs_3.length=n_0e)∧(hS o_08 n_0e cap_0c sp_0d 4)∧(hO o_08 xs_3 cap_0c)) (fun⟨xs_3,a_09,o_08,cap_0c,sp_0d,n_0e⟩=> [(6,[],(.slice none 0 0)),(7,[],(vI 0)),(9,[],(.slice (mB o_08) n_0e cap_0c))]) (fun⟨xs_3,a_09,o_08,cap_0c,sp_0d,n_0e⟩=> [⟨some b_4,27,[(vH f0.fSteps),(.slice C_a f0.fHammers.length C_c)]⟩,⟨some b_3,33,[(vH c2.fAway),(vH c2.fOctave),(vH c2.fStep)]⟩,⟨o_08,104,row encGChoice xs_3 sp_0d⟩,⟨(some b_9),40,row encU32 a_09.1 []⟩]) ?_ ?_)))))))))))))))))))))))))))
  ·refine jc_block ?_
   obtain⟨t_0g,ht_19,hr_1a⟩:=bd h
   refine jl (fun(s:(List GChoice)×(Arr 96 Int)×Int) (x:(Option Nat)×Nat×(List Value)×Nat)=>match s,x with | ⟨xs_0,a_2,i_6⟩,⟨o_00,cap_02,sp_01,n_0f⟩=>(xs_0.length=n_0f)∧(hS o_00 n_0f cap_02 sp_01 4)∧(hO o_00 xs_0 cap_02)) (fun⟨xs_0,a_2,i_6⟩ ⟨o_00,cap_02,sp_01,n_0f⟩=> [(1,[],(.slice D_a t1.length D_c)),(3,[],(vP b_4)),(5,[],(vP b_3)),(6,[],(.slice none 0 0)),(7,[],(vI 0)),(9,[],(.slice (mB o_00) n_0f cap_02)),(10,[],(vP b_9)),(11,[],(vI i_6))]) (fun⟨xs_0,a_2,i_6⟩ ⟨o_00,cap_02,sp_01,n_0f⟩=> [⟨some b_4,27,[(vH f0.fSteps),(.slice C_a f0.fHammers.length C_c)]⟩,⟨some b_3,33,[(vH c2.fAway),(vH c2.fOctave),(vH c2.fStep)]⟩,⟨o_00,104,row encGChoice xs_0 sp_01⟩,⟨(some b_9),40,row encU32 a_2.1 []⟩]) ht_19 ⟨(some b_0g),0,[],0⟩ ⟨rfl,(fun _=>⟨Nat.le_refl _,by simp⟩),(fun e=>nomatch e)⟩ [0,1,2,3] ?_
   rintro⟨xs_0,a_2,i_6⟩ ⟨o_00,cap_02,sp_01,n_0f⟩ y_13 ⟨rfl,hs_14,ho_15⟩ h
   rw [FH.l_8] at h
   refine jc_seq (jc_seq (jc_region (qh [0,0,0,0] (qe (jx_then (qi h (fun h=> ?_) (fun h=> ?_)))))))
   ·refine jc_skip (jx_then (jc_seq (jc_block (jc_seq (jc_region (qh [0,0] ?_))))))
    obtain⟨x_9,hx_0r,h⟩:=bd h
    refine tO (qx 0 D_a 2 hx_0r rfl (D_h.sp hx_0r) (jkO (tO (ql 0 true (fun w hm=>((hm.xr D_h).at hx_0r)) (jkO ?_)))))
    obtain⟨t_1,ht_1b,h⟩:=bd h
    refine tO (pc 0 (fun w hm=>Fx.calls f0 x_9 w _ C_c (hm.xr C_h) rfl b_4 (hm.ps [0]) (hm.xp C_h (fun _=>List.not_mem_nil) [0]) ht_1b) ?_)
    rintro w v w' hm ⟨o_8,cap_0s,sp_03,_,rfl,hs_1s,ho_05,rfl,hm'⟩
    refine⟨_,hm.appW (ps:= [(0,⟨some b_4,27,[(vH f0.fSteps),(.slice C_a f0.fHammers.length C_c)]⟩)]) (N:= [⟨o_8,104,row encGChoice t_1 sp_03⟩]) hm' (by kernel_rfl) (by kernel_rfl),jkO ?_⟩
    clear hm hm'
    refine qh [0] (qe (jx_then (jc_seq (jc_region (qh [0] (qe (jx_then (jc_seq (jc_seq (jc_region (qh [0] (qe (jx_then (jc_meet (fun(i_06:Int)=>FH.k_13 f0 t1 xs_0 a_2 i_6 t_1 i_06=some y_13) (fun i_06=> [(1,[],(.slice D_a t1.length D_c)),(3,[],(vP b_4)),(5,[],(vP b_3)),(6,[],(.slice none 0 0)),(7,[],(vI 0)),(9,[],(.slice (mB o_00) xs_0.length cap_02)),(10,[],(vP b_9)),(11,[],(vI i_6)),(12,[],(.slice (mB o_8) t_1.length cap_0s)),(13,[],(vI i_06))]) (fun i_06=> [⟨some b_4,27,[(vH f0.fSteps),(.slice C_a f0.fHammers.length C_c)]⟩,⟨some b_3,33,[(vH c2.fAway),(vH c2.fOctave),(vH c2.fStep)]⟩,⟨o_00,104,row encGChoice xs_0 sp_01⟩,⟨(some b_9),40,row encU32 a_2.1 []⟩,⟨o_8,104,row encGChoice t_1 sp_03⟩]) ?_ ?_))))))))))))))
    ·refine jc_block ?_
     obtain⟨t_12,ht_1c,hr_1d⟩:=bd h
     refine jl (fun(s:Int×Int) (x:Unit)=>match s,x with | ⟨i_7,i_5⟩,_=>True) (fun⟨i_7,i_5⟩ _=> [(1,[],(.slice D_a t1.length D_c)),(3,[],(vP b_4)),(5,[],(vP b_3)),(6,[],(.slice none 0 0)),(7,[],(vI 0)),(9,[],(.slice (mB o_00) xs_0.length cap_02)),(10,[],(vP b_9)),(11,[],(vI i_6)),(12,[],(.slice (mB o_8) t_1.length cap_0s)),(13,[],(vI i_7)),(14,[],(vI i_5))]) (fun⟨i_7,i_5⟩ _=> [⟨some b_4,27,[(vH f0.fSteps),(.slice C_a f0.fHammers.length C_c)]⟩,⟨some b_3,33,[(vH c2.fAway),(vH c2.fOctave),(vH c2.fStep)]⟩,⟨o_00,104,row encGChoice xs_0 sp_01⟩,⟨(some b_9),40,row encU32 a_2.1 []⟩,⟨o_8,104,row encGChoice t_1 sp_03⟩]) ht_1c () trivial [0,1,2,3,4] ?_
     rintro⟨i_7,i_5⟩ _ y_16 _ h
     rw [FH.l_20] at h
     refine jc_seq (jc_seq (jc_region (qh [0,0,0,0] (qe (jx_then (qi h (fun h=> ?_) (fun h=> ?_)))))))
     ·refine jc_skip (jx_then (jc_seq (jc_block (jc_seq (jc_region (tO (pL 0 3 b_9 96 1 40 encU32 a_2 encU32_len (jkO (tO (qa 0 (fun b_0i=>jkO (tO (pS 0 5 b_0i 96 1 40 encU32 (Arr.rep 96 0) a_2 encU32_len encU32_cell (jkO (qe (jx_then (jc_seq (jc_meet (fun(j:(Arr 96 Int)×Bool)=>match j with | ⟨a_0b,q_07⟩=>FH.k_24 i_7 i_5 a_0b q_07=some y_16) (fun⟨a_0b,q_07⟩=> [(1,[],(.slice D_a t1.length D_c)),(3,[],(vP b_4)),(5,[],(vP b_3)),(6,[],(.slice none 0 0)),(7,[],(vI 0)),(9,[],(.slice (mB o_00) xs_0.length cap_02)),(10,[],(vP b_9)),(11,[],(vI i_6)),(12,[],(.slice (mB o_8) t_1.length cap_0s)),(13,[],(vI i_7)),(14,[],(vI i_5)),(70,[],(.bool q_07))]) (fun⟨a_0b,q_07⟩=> [⟨some b_4,27,[(vH f0.fSteps),(.slice C_a f0.fHammers.length C_c)]⟩,⟨some b_3,33,[(vH c2.fAway),(vH c2.fOctave),(vH c2.fStep)]⟩,⟨o_00,104,row encGChoice xs_0 sp_01⟩,⟨(some b_9),40,row encU32 a_2.1 []⟩,⟨o_8,104,row encGChoice t_1 sp_03⟩,⟨(some b_0i),40,row encU32 a_0b.1 []⟩]) ?_ ?_))))))))))))))))))
      ·refine qg [⟨some b_4,27,[(vH f0.fSteps),(.slice C_a f0.fHammers.length C_c)]⟩,⟨some b_3,33,[(vH c2.fAway),(vH c2.fOctave),(vH c2.fStep)]⟩,⟨o_00,104,row encGChoice xs_0 sp_01⟩,⟨(some b_9),40,row encU32 a_2.1 []⟩,⟨o_8,104,row encGChoice t_1 sp_03⟩] 28 (qd [⟨0,0,0⟩,⟨1,0,0⟩,⟨4,0,0⟩,⟨5,0,0⟩] 24 [0,1,2,3,4] ?_)
       obtain⟨x_0l,hx_0t,h⟩:=bd h
       refine qX 2 0 [0,1,2,3,4] D_a 2 hx_0t rfl (D_h.sp hx_0t) (qL 3 0 [0,1,2,3,4] true (fun w hm=>(hm.xr D_h).at hx_0t) ?_)
       obtain⟨x_0m,hx_0u,h⟩:=bd h
       refine qX 6 0 [0,1,2,3,4] (mB o_8) 4 hx_0u rfl (spo ho_05 hx_0u) (qL 7 0 [0,1,2,3,4] true (fun w hm=>(hm.ow 4 o_8 104 t_1 sp_03 (fun e=>(ho_05 e).1) encGChoice_len).at hx_0u) ?_)
       obtain⟨t_04,ht_1e,h⟩:=bd h
       refine tD 8 (pc 0 (fun w hm=>FaS.calls f0 a_2 x_0l x_0m w _ C_c (hm.xr C_h) rfl b_4 b_0i (hm.ps [0,5]) (hm.xp C_h (fun _=>List.not_mem_nil) [0,5]) ht_1e) ?_)
       rintro w v w' hm ⟨rfl,hm'⟩
       refine⟨_,hm.appW (ps:= [(0,⟨some b_4,27,[(vH f0.fSteps),(.slice C_a f0.fHammers.length C_c)]⟩),(5,⟨(some b_0i),40,row encU32 t_04.2.1 []⟩)]) (N:= []) hm' (by kernel_rfl) (by kernel_rfl),kD [0,1,2,3,4] ?_⟩
       clear hm hm'
       refine qd [⟨9,0,0⟩,⟨10,0,1⟩,⟨11,0,1⟩] 16 [0,1,2,3,4] (js 52 t_04.1 (fun hc_0v=> ?_) (fun hc_0v=> ?_))
       ·replace h:=ifT hc_0v h
        refine qd [⟨12,0,2⟩,⟨13,1,1⟩,⟨14,0,1⟩,⟨15,0,1⟩,⟨19,1,1⟩,⟨20,0,1⟩,⟨21,0,1⟩] 9 [0,1,2,3,4] (js 55 (decide (i_7<0)) (fun hc_0w=> ?_) (fun hc_0w=> ?_))
        ·replace h:=ifT hc_0w h
         exact qd [⟨16,0,3⟩,⟨17,0,3⟩,⟨18,0,3⟩,⟨22,0,3⟩,⟨23,0,3⟩,⟨24,0,3⟩,⟨25,0,3⟩,⟨26,0,4⟩,⟨27,0,4⟩] 0 [0,1,2,3,4] (qz (qm ⟨t_04.2,true⟩ h [0,1,2,3,4,5]))
        ·replace h:=ifF hc_0w h
         obtain⟨x_0n,hx_0x,h⟩:=bd h
         refine qX 16 2 [0,1,2,3,4] (mB o_8) 4 hx_0x rfl (spo ho_05 hx_0x) (qL 17 2 [0,1,2,3,4] true (fun w hm=>(hm.ow 4 o_8 104 t_1 sp_03 (fun e=>(ho_05 e).1) encGChoice_len).at hx_0x) ?_)
         obtain⟨x_0o,hx_0y,h⟩:=bd h
         refine qX 22 2 [0,1,2,3,4] (mB o_8) 4 hx_0y rfl (spo ho_05 hx_0y) (qL 23 2 [0,1,2,3,4] true (fun w hm=>(hm.ow 4 o_8 104 t_1 sp_03 (fun e=>(ho_05 e).1) encGChoice_len).at hx_0y) ?_)
         obtain⟨t_0p,ht_1f,h⟩:=bd h
         refine tD 18 (pq 2 (fun w hm=>FC.calls c2 x_0n w _ ht_1f) (kD [0,1,2,3,4] ?_))
         obtain⟨t_0q,ht_1g,h⟩:=bd h
         exact tD 24 (pq 2 (fun w hm=>FC.calls c2 x_0o w _ ht_1g) (kD [0,1,2,3,4] (qd [⟨25,0,2⟩,⟨26,0,5⟩,⟨27,0,4⟩] 0 [0,1,2,3,4] (qz (qm ⟨t_04.2,(decide (t_0p<t_0q))⟩ h [0,1,2,3,4,5])))))
       ·replace h:=ifF hc_0v h
        exact qd [⟨12,0,3⟩,⟨13,0,3⟩,⟨14,0,3⟩,⟨15,0,3⟩,⟨16,0,3⟩,⟨17,0,3⟩,⟨18,0,3⟩,⟨19,0,3⟩,⟨20,0,3⟩,⟨21,0,3⟩,⟨22,0,3⟩,⟨23,0,3⟩,⟨24,0,3⟩,⟨25,0,3⟩,⟨26,0,3⟩,⟨27,0,5⟩] 0 [0,1,2,3,4] (qz (qm ⟨t_04.2,false⟩ h [0,1,2,3,4,5]))
      ·rintro⟨a_0b,q_07⟩ h
       replace h:FH.k_24 i_7 i_5 a_0b q_07=some y_16:=h
       rw [FH.k_24] at h
       refine jx_then (qi h (fun h=> ?_) (fun h=> ?_))
       ·exact jc_region (qh [0,0] (qe (jx_inn (jx_then (jc_region (qh [0,0,0] (qe (qb (i_5,(w64 (i_5+1))) () h trivial [0,1,2,3,4]))))))))
       ·exact jc_skip (jx_inn (jx_then (jc_region (qh [0,0,0] (qe (qb (i_7,(w64 (i_5+1))) () h trivial [0,1,2,3,4]))))))
     ·refine jc_exit (jx_thenx (jx_leave i_7 (sj h) (fun e_1h=> ?_)))
      subst e_1h
      exact jx_ine (qm i_7 hr_1d [0,1,2,3,4])
    ·rintro i_06 h
     replace h:FH.k_13 f0 t1 xs_0 a_2 i_6 t_1 i_06=some y_13:=h
     rw [FH.k_13] at h
     refine jx_then (jc_seq (qg [⟨some b_4,27,[(vH f0.fSteps),(.slice C_a f0.fHammers.length C_c)]⟩,⟨some b_3,33,[(vH c2.fAway),(vH c2.fOctave),(vH c2.fStep)]⟩,⟨o_00,104,row encGChoice xs_0 sp_01⟩,⟨o_8,104,row encGChoice t_1 sp_03⟩] 9 (qd [⟨0,0,0⟩,⟨1,0,0⟩,⟨4,0,0⟩,⟨5,0,0⟩] 5 [0,1,2,4] ?_)))
     obtain⟨x_0j,hx_0z,h⟩:=bd h
     refine qX 2 0 [0,1,2,4] D_a 2 hx_0z rfl (D_h.sp hx_0z) (qL 3 0 [0,1,2,4] true (fun w hm=>(hm.xr D_h).at hx_0z) ?_)
     obtain⟨x_0k,hx_10,h⟩:=bd h
     refine qX 6 0 [0,1,2,4] (mB o_8) 4 hx_10 rfl (spo ho_05 hx_10) (qL 7 0 [0,1,2,4] true (fun w hm=>(hm.ow 3 o_8 104 t_1 sp_03 (fun e=>(ho_05 e).1) encGChoice_len).at hx_10) ?_)
     obtain⟨t_0h,ht_1i,h⟩:=bd h
     refine tD 8 (pc 0 (fun w hm=>FaS.calls f0 a_2 x_0j x_0k w _ C_c (hm.xr C_h) rfl b_4 b_9 (hm.ps [0,3]) (hm.xp C_h (fun _=>List.not_mem_nil) [0,3]) ht_1i) ?_)
     rintro w v w' hm ⟨rfl,hm'⟩
     refine⟨_,hm.appW (ps:= [(0,⟨some b_4,27,[(vH f0.fSteps),(.slice C_a f0.fHammers.length C_c)]⟩),(3,⟨(some b_9),40,row encU32 t_0h.2.1 []⟩)]) (N:= []) hm' (by kernel_rfl) (by kernel_rfl),kD [0,1,2,4] ?_⟩
     clear hm hm'
     refine qz (jx_then (jc_region (qh [0,0,0] ?_)))
     obtain⟨x_0a,hx_11,h⟩:=bd h
     refine tO (qx 0 (mB o_8) 4 hx_11 rfl (spo ho_05 hx_11) (jkO (tO (ql 0 true (fun w hm=>((hm.ow 4 o_8 104 t_1 sp_03 (fun e=>(ho_05 e).1) encGChoice_len).at hx_11)) (jkO (tO (qa 0 (fun b_17=>jkO ?_))))))))
     obtain⟨hg_1j,h⟩:=gd h
     exact tO (pA 0 2 o_00 104 xs_0.length 1 cap_02 4 4 (sB b_17) encGChoice xs_0 ([x_0a]:List GChoice) sp_01 (.agg #[(.bool false),(vB 0),(vB 0),(vB 0)]) rfl rfl encGChoice_len encGChoice_cell hs_14 ho_15 (fun w hm=>(hm.ow 5 (some b_17) 104 ([x_0a]:List GChoice) [] (fun e=>nomatch e) encGChoice_len)) hg_1j (fun o_1k cap_1l sp_1m hs_1n ho_1o=>jkO (qh [0] (qe (jx_inn (jx_then (jc_region (qh [0,0,0] (qe (qb ((xs_0++([x_0a]:List GChoice)),t_0h.2,(w64 (i_6+1))) ⟨o_1k,cap_1l,sp_1m,(xs_0++([x_0a]:List GChoice)).length⟩ h ⟨rfl,hs_1n,ho_1o⟩ [0,1,2,3]))))))))))
   ·refine jc_exit (jx_thenx (jx_leave (xs_0,a_2) (sj h) (fun e_1p=> ?_)))
    subst e_1p
    exact jx_ine (qm ⟨xs_0,a_2,o_00,cap_02,sp_01,xs_0.length⟩ ⟨hr_1a,rfl,hs_14,ho_15⟩ [0,1,2,3])
  ·rintro⟨xs_3,a_09,o_08,cap_0c,sp_0d,n_0e⟩ ⟨h,rfl,hs_1q,ho_1r⟩
   replace h:FH.k_4 xs_3 a_09=some r:=h
   rw [FH.k_4] at h
   refine jx_then (jc_seq (jc_region (qh [0,0,0] (qe (jx_then (jc_ret ?_))))))
   obtain rfl:=si h
   exact qr [] (fun w hm=>⟨o_08,cap_0c,sp_0d,xs_3.length,rfl,hs_1q,ho_1r,rfl,hm.pk [2]⟩)
def FY.k_1:Option (Int):=some (-1)
def FY.l_3(s0:List GChoice)(v1:GChoice):Int→Option ((Int)⊕(Int⊕Unit))
 | i_0=>(if(decide (i_0<(s0.length:Int)))=true then(ix s0 i_0).bind fun x_1=>(if((v1.fAway==x_1.fAway)&&((v1.fLate==x_1.fLate)&&((v1.fOctave==x_1.fOctave)&&(v1.fTrack==x_1.fTrack))))=true then some (.inr (.inl i_0)) else some (.inl (w64 (i_0+1)))) else some (.inr (.inr ())))
def FY(s0:List GChoice)(v1:GChoice):Option (Int):=(loop (FY.l_3 s0 v1) 0).bind fun t_4=>match t_4 with | .inl p=>some p | .inr p=>FY.k_1
theorem FY.calls(s0:List GChoice)(v1:GChoice)(w:World)(r:Int){A_a:Option Addr}{A_an:Nat}(A_c:Nat)(A_h:Rw w A_a 4 encGChoice s0)(A_hn:s0.length=A_an)(h:FY s0 v1=some r):
   Calls Tryz.prog 222 #[(.slice A_a A_an A_c),(.agg #[(.bool v1.fAway),(vB v1.fLate),(vB v1.fOctave),(vB v1.fTrack)])] w fun e w'=>∃v,e= .returned v∧(v=(vI r)∧Mem w [] [] w'):=by
 subst A_hn
 rw [FY] at h
 refine en Tryz.func222 rfl Tryz.ntmps222 (jc_seq (jc_region (tO (qa 0 (fun b_2=>jkO (qh [0] (qe (jx_then (jc_seq (jc_seq (jc_region (qh [0,0,0] (qe (jx_then (jc_meet (fun(_:Unit)=>FY.k_1=some r) (fun(_:Unit)=> [(4,[],(vI 0))]) (fun(_:Unit)=> [⟨some b_2,104,[(.bool v1.fAway),(vB v1.fLate),(vB v1.fOctave),(vB v1.fTrack)]⟩]) ?_ ?_)))))))))))))))
 ·refine jc_block ?_
  obtain⟨t_4,ht_6,hr_5⟩:=bd h
  refine jl (fun(i_0:Int) (_:Unit)=>True) (fun i_0 _=> [(0,[],(.slice A_a s0.length A_c)),(3,[],(vP b_2)),(4,[],(vI 0)),(7,[],(vI (s0.length:Int))),(8,[],(vI i_0))]) (fun i_0 _=> [⟨some b_2,104,[(.bool v1.fAway),(vB v1.fLate),(vB v1.fOctave),(vB v1.fTrack)]⟩]) ht_6 () trivial [0] ?_
  rintro i_0 _ y_9 _ h
  rw [FY.l_3] at h
  refine jc_seq (jc_region (qh [0] (qe (jx_then (jc_seq (qi h (fun h=> ?_) (fun h=> ?_)))))))
  ·refine jc_skip (jx_then (jc_seq (jc_block (jc_seq (jc_region (qh [0,0] (qe (jx_then (jc_seq (qg [⟨some b_2,104,[(.bool v1.fAway),(vB v1.fLate),(vB v1.fOctave),(vB v1.fTrack)]⟩] 6 (qd [⟨0,0,0⟩,⟨1,0,0⟩,⟨2,0,0⟩] 3 [0] ?_)))))))))))
   obtain⟨x_1,hx_3,h⟩:=bd h
   refine qX 3 0 [0] A_a 4 hx_3 rfl (A_h.sp hx_3) (qL 4 0 [0] true (fun w hm=>(hm.xr A_h).at hx_3) (qd [⟨5,0,0⟩] 0 [0] (qz (jx_then (qi h (fun h=> ?_) (fun h=> ?_))))))
   ·refine jc_seq (jc_region (qh [0,0] (qe (jx_then (jc_ret (jx_inr (jx_thenr (jx_leaver (.inl i_0) (sj h) (fun e_7=> ?_)))))))))
    subst e_7
    refine jx_inr (jx_thenr (jx_thenr ?_))
    obtain rfl:=si hr_5
    exact qr [] (fun w hm=>⟨rfl,hm.pk []⟩)
   ·exact jc_skip (jx_inn (jx_then (jc_region (qh [0,0] (qe (qb (w64 (i_0+1)) () h trivial [0]))))))
  ·refine jc_exit (jx_thenx (jx_leave (.inr ()) (sj h) (fun e_8=> ?_)))
   subst e_8
   exact jx_ine (qm () hr_5 [0])
 ·rintro _ h
  replace h:FY.k_1=some r:=h
  rw [FY.k_1] at h
  refine jx_then (jc_seq (jc_region (qh [0] (qe (jx_then (jc_ret ?_))))))
  obtain rfl:=si h
  exact qr [] (fun w hm=>⟨rfl,hm.pk []⟩)
def FaL(s0:List GChoice)(v1:GChoice):Option (Bool):=(FY s0 v1).bind fun t_0=>some (decide (t_0≥0))
theorem FaL.calls(s0:List GChoice)(v1:GChoice)(w:World)(r:Bool){A_a:Option Addr}{A_an:Nat}(A_c:Nat)(A_h:Rw w A_a 4 encGChoice s0)(A_hn:s0.length=A_an)(h:FaL s0 v1=some r):
   Calls Tryz.prog 196 #[(.slice A_a A_an A_c),(.agg #[(.bool v1.fAway),(vB v1.fLate),(vB v1.fOctave),(vB v1.fTrack)])] w fun e w'=>∃v,e= .returned v∧(v=(.bool r)∧Mem w [] [] w'):=by
 subst A_hn
 rw [FaL] at h
 refine en Tryz.func196 rfl Tryz.ntmps196 (jc_seq (jc_region (tO (qa 0 (fun b_0=>jkO (qh [0] (qe (jx_then (jc_seq (jc_region (qh [0,0] ?_)))))))))))
 obtain⟨t_0,ht_1,h⟩:=bd h
 refine tO (pq 0 (fun w hm=>FY.calls s0 v1 w _ A_c (hm.xr A_h) rfl ht_1) (jkO (qh [0,0] (qe (jx_then (jc_ret ?_))))))
 obtain rfl:=si h
 exact qr [] (fun w hm=>⟨rfl,hm.pk []⟩)
def FS.k_2(list2:List GChoice)(a_3:Arr 96 Int):Option ((Arr 96 Int)×Int):=some (a_3,(list2.length:Int))
def FS.k_9(t1:List GNote)(a_0:Arr 96 Int)(i_2:Int)(x_1:GChoice)(q_5:Bool):Option (((Arr 96 Int)×Int)⊕(((Arr 96 Int)×Int)⊕(Arr 96 Int))):=(if q_5=true then some (.inr (.inl ((Arr.rep 96 0),i_2))) else(ix t1 i_2).bind fun x_9=>(FaP a_0 x_9 x_1).bind fun t_6=>some (.inl (t_6,(w64 (i_2+1)))))
def FS.l_5(f0:GFrame)(t1:List GNote)(list2:List GChoice):((Arr 96 Int)×Int)→Option (((Arr 96 Int)×Int)⊕(((Arr 96 Int)×Int)⊕(Arr 96 Int)))
 | (a_0,i_2)=>(if(decide (i_2<(list2.length:Int)))=true then(ix list2 i_2).bind fun x_1=>(ix t1 i_2).bind fun x_00=>(Fj f0 x_00).bind fun t_7=>(FaL t_7 x_1).bind fun t_01=>(if(!t_01)=true then FS.k_9 t1 a_0 i_2 x_1 true else(ix t1 i_2).bind fun x_02=>(FaD f0 a_0 x_02 x_1).bind fun t_03=>FS.k_9 t1 a_0 i_2 x_1 (!t_03)) else some (.inr (.inr a_0)))
def FS(f0:GFrame)(t1:List GNote)(list2:List GChoice):Option ((Arr 96 Int)×Int):=(loop (FS.l_5 f0 t1 list2) ((Arr.rep 96 0),0)).bind fun t_09=>match t_09 with | .inl p=>some p | .inr p=>FS.k_2 list2 p
theorem FS.calls(f0:GFrame)(t1:List GNote)(list2:List GChoice)(w:World)(r:(Arr 96 Int)×Int){C_a:Option Addr}{C_an:Nat}(C_c:Nat)(C_h:Rw w C_a 2 encGHammer f0.fHammers)(C_hn:f0.fHammers.length=C_an){D_a:Option Addr}{D_an:Nat}(D_c:Nat)(D_h:Rw w D_a 2 encGNote t1)(D_hn:t1.length=D_an){E_a:Option Addr}{E_an:Nat}(E_c:Nat)(E_h:Rw w E_a 4 encGChoice list2)(E_hn:list2.length=E_an)(h:FS f0 t1 list2=some r):
   Calls Tryz.prog 141 #[(.agg #[(vH f0.fSteps),(.slice C_a C_an C_c)]),(.slice D_a D_an D_c),(.slice E_a E_an E_c)] w fun e w'=>∃v,e= .returned v∧(v= .tuple #[(.agg (row encU32 r.1.1 []).toArray),(vI r.2)]∧Mem w [] [] w'):=by
 subst C_hn D_hn E_hn
 rw [FS] at h
 refine en Tryz.func141 rfl Tryz.ntmps141 (jc_seq (jc_region (tO (qa 0 (fun b_3=>jkO (tO (qa 0 (fun b_4=>jkO (qh [0] (qe (jx_then (jc_seq (jc_region (qh [0] (tO (qa 0 (fun b_0=>jkO (tO (pS 0 2 b_0 96 1 40 encU32 (Arr.rep 96 0) (Arr.rep 96 0) encU32_len encU32_cell (jkO (qe (jx_then (jc_seq (jc_seq (jc_region (qh [0,0,0] (qe (jx_then (jc_meet (fun(a_3:(Arr 96 Int))=>FS.k_2 list2 a_3=some r) (fun a_3=> [(2,[],(.slice E_a list2.length E_c)),(6,[],(vP b_4)),(7,[],(vI 0)),(8,[],(vP b_0))]) (fun a_3=> [⟨some b_3,27,[(vH f0.fSteps),(.slice C_a f0.fHammers.length C_c)]⟩,⟨(some b_4),40,row encU32 ((Arr.rep 96 0).1) []⟩,⟨(some b_0),40,row encU32 a_3.1 []⟩]) ?_ ?_)))))))))))))))))))))))))))))
 ·refine jc_block ?_
  obtain⟨t_09,ht_0c,hr_0a⟩:=bd h
  refine jl (fun(s:(Arr 96 Int)×Int) (x:Unit)=>match s,x with | ⟨a_0,i_2⟩,_=>True) (fun⟨a_0,i_2⟩ _=> [(1,[],(.slice D_a t1.length D_c)),(2,[],(.slice E_a list2.length E_c)),(3,[],(vP b_3)),(6,[],(vP b_4)),(7,[],(vI 0)),(8,[],(vP b_0)),(12,[],(.slice E_a list2.length E_c)),(13,[],(vI (list2.length:Int))),(14,[],(vI i_2))]) (fun⟨a_0,i_2⟩ _=> [⟨some b_3,27,[(vH f0.fSteps),(.slice C_a f0.fHammers.length C_c)]⟩,⟨(some b_4),40,row encU32 ((Arr.rep 96 0).1) []⟩,⟨(some b_0),40,row encU32 a_0.1 []⟩]) ht_0c () trivial [0,1,2] ?_
  rintro⟨a_0,i_2⟩ _ y_0b _ h
  rw [FS.l_5] at h
  refine jc_seq (jc_region (qh [0] (qe (jx_then (jc_seq (qi h (fun h=> ?_) (fun h=> ?_)))))))
  ·refine jc_skip (jx_then (jc_seq (jc_block (jc_seq (jc_region (qh [0] ?_))))))
   obtain⟨x_1,hx_04,h⟩:=bd h
   refine tO (qx 0 E_a 4 hx_04 rfl (E_h.sp hx_04) (jkO (tO (ql 0 true (fun w hm=>((hm.xr E_h).at hx_04)) (jkO (tO (qa 0 (fun b_8=>jkO (qh [0] (tO (qs 0 [3] (jkO (qe (jx_then (jc_seq (jc_seq (jc_meet (fun(q_5:Bool)=>FS.k_9 t1 a_0 i_2 x_1 q_5=some y_0b) (fun q_5=> [(1,[],(.slice D_a t1.length D_c)),(2,[],(.slice E_a list2.length E_c)),(3,[],(vP b_3)),(6,[],(vP b_4)),(7,[],(vI 0)),(8,[],(vP b_0)),(9,[],(vI i_2)),(10,[],(vP b_8)),(12,[],(.slice E_a list2.length E_c)),(13,[],(vI (list2.length:Int))),(14,[],(vI i_2)),(37,[],(.bool q_5))]) (fun q_5=> [⟨some b_3,27,[(vH f0.fSteps),(.slice C_a f0.fHammers.length C_c)]⟩,⟨(some b_4),40,row encU32 ((Arr.rep 96 0).1) []⟩,⟨(some b_0),40,row encU32 a_0.1 []⟩,⟨some b_8,104,[(.bool x_1.fAway),(vB x_1.fLate),(vB x_1.fOctave),(vB x_1.fTrack)]⟩]) ?_ ?_)))))))))))))))))
   ·refine qg [⟨some b_3,27,[(vH f0.fSteps),(.slice C_a f0.fHammers.length C_c)]⟩,⟨(some b_4),40,row encU32 ((Arr.rep 96 0).1) []⟩,⟨(some b_0),40,row encU32 a_0.1 []⟩,⟨some b_8,104,[(.bool x_1.fAway),(vB x_1.fLate),(vB x_1.fOctave),(vB x_1.fTrack)]⟩] 19 (qd [⟨0,0,0⟩,⟨1,0,0⟩,⟨2,0,0⟩,⟨6,3,0⟩] 15 [0,1,2,3] ?_)
    obtain⟨x_00,hx_05,h⟩:=bd h
    refine qX 3 0 [0,1,2,3] D_a 2 hx_05 rfl (D_h.sp hx_05) (qL 4 0 [0,1,2,3] true (fun w hm=>(hm.xr D_h).at hx_05) ?_)
    obtain⟨t_7,ht_0d,h⟩:=bd h
    refine tD 5 (pc 0 (fun w hm=>Fj.calls f0 x_00 w _ C_c (hm.xr C_h) rfl ht_0d) ?_)
    rintro w v w' hm ⟨o_0e,cap_0f,sp_0g,_,rfl,hs_0n,ho_0h,rfl,hm'⟩
    refine aq hm hm' (kD [0,1,2,3] ?_)
    obtain⟨t_01,ht_0i,h⟩:=bd h
    refine tD 7 (pq 0 (fun w hm=>FaL.calls t_7 x_1 w _ cap_0f (hm.ow 4 o_0e 104 t_7 sp_0g (fun e=>(ho_0h e).1) encGChoice_len) rfl ht_0i) (kD [0,1,2,3] (qd [⟨8,0,0⟩,⟨9,0,0⟩,⟨10,0,1⟩,⟨11,0,1⟩,⟨12,0,1⟩,⟨15,3,1⟩] 5 [0,1,2,3] (js 28 (!t_01) (fun hc_06=> ?_) (fun hc_06=> ?_)))))
    ·replace h:=ifT hc_06 h
     exact qd [⟨13,0,3⟩,⟨14,0,3⟩,⟨16,0,3⟩,⟨17,0,3⟩,⟨18,0,4⟩] 0 [0,1,2,3] (qz (qm true h [0,1,2,3]))
    ·replace h:=ifF hc_06 h
     obtain⟨x_02,hx_07,h⟩:=bd h
     refine qX 13 2 [0,1,2,3] D_a 2 hx_07 rfl (D_h.sp hx_07) (qL 14 2 [0,1,2,3] true (fun w hm=>(hm.xr D_h).at hx_07) ?_)
     obtain⟨t_03,ht_0j,h⟩:=bd h
     exact tD 16 (pq 2 (fun w hm=>FaD.calls f0 a_0 x_02 x_1 w _ C_c (hm.xr C_h) rfl (hm.ow 2 (some b_0) 40 a_0.1 [] (fun e=>nomatch e) encU32_len) ht_0j) (kD [0,1,2,3] (qd [⟨17,0,2⟩,⟨18,0,5⟩] 0 [0,1,2,3] (qz (qm (!t_03) h [0,1,2,3])))))
   ·rintro q_5 h
    replace h:FS.k_9 t1 a_0 i_2 x_1 q_5=some y_0b:=h
    rw [FS.k_9] at h
    refine jx_then (qi h (fun h=> ?_) (fun h=> ?_))
    ·refine jc_seq (jc_region (qh [0,0] (tO (pS 0 1 b_4 96 1 40 encU32 (Arr.rep 96 0) (Arr.rep 96 0) encU32_len encU32_cell (jkO (qh [0] (qe (jx_then (jc_ret (jx_thenr (jx_inr (jx_thenr (jx_leaver (.inl ((Arr.rep 96 0),i_2)) (sj h) (fun e_0k=> ?_))))))))))))))
     subst e_0k
     refine jx_inr (jx_thenr (jx_thenr ?_))
     obtain rfl:=si hr_0a
     exact jx_retV rfl (ra (b:=b_4) (T':=40) (hh:=1) (mm:=1) encU32 (Arr.rep 96 0) encU32_len (rt rq_nil)) (fun w hm=>⟨rfl,hm.pk []⟩)
    ·refine jc_skip (jx_then (qg [⟨some b_3,27,[(vH f0.fSteps),(.slice C_a f0.fHammers.length C_c)]⟩,⟨(some b_4),40,row encU32 ((Arr.rep 96 0).1) []⟩,⟨some b_8,104,[(.bool x_1.fAway),(vB x_1.fLate),(vB x_1.fOctave),(vB x_1.fTrack)]⟩] 6 (qd [⟨0,0,0⟩,⟨1,0,0⟩,⟨4,2,0⟩] 3 [0,1,3] ?_)))
     obtain⟨x_9,hx_08,h⟩:=bd h
     refine qX 2 0 [0,1,3] D_a 2 hx_08 rfl (D_h.sp hx_08) (qL 3 0 [0,1,3] true (fun w hm=>(hm.xr D_h).at hx_08) ?_)
     obtain⟨t_6,ht_0l,h⟩:=bd h
     refine tD 5 (pc 0 (fun w hm=>FaP.calls a_0 x_9 x_1 w _ b_0 (hm.ps [2]) ht_0l) ?_)
     rintro w v w' hm ⟨rfl,hm'⟩
     refine⟨_,hm.appW (ps:= [(2,⟨(some b_0),40,row encU32 t_6.1 []⟩)]) (N:= []) hm' (by kernel_rfl) (by kernel_rfl),kD [0,1,3] ?_⟩
     clear hm hm'
     exact qz (jx_inn (jx_then (jc_region (qh [0,0] (qe (qb (t_6,(w64 (i_2+1))) () h trivial [0,1,2]))))))
  ·refine jc_exit (jx_thenx (jx_leave (.inr a_0) (sj h) (fun e_0m=> ?_)))
   subst e_0m
   exact jx_ine (qm a_0 hr_0a [0,1,2])
 ·rintro a_3 h
  replace h:FS.k_2 list2 a_3=some r:=h
  rw [FS.k_2] at h
  refine jx_then (jc_seq (jc_region (tO (pL 0 2 b_0 96 1 40 encU32 a_3 encU32_len (jkO (qh [0,0] (tO (pS 0 1 b_4 96 1 40 encU32 (Arr.rep 96 0) a_3 encU32_len encU32_cell (jkO (qh [0] (qe (jx_then (jc_ret ?_)))))))))))))
  obtain rfl:=si h
  exact jx_retV rfl (ra (b:=b_4) (T':=40) (hh:=1) (mm:=1) encU32 a_3 encU32_len (rt rq_nil)) (fun w hm=>⟨rfl,hm.pk []⟩)
def Fbr(f0:GFrame)(t1:List GNote)(list2:List GChoice):Option ((Arr 96 Int)×Int×Int):=(FaE f0 t1 list2).bind fun t_2=>(FQ ((list2.length:Int)==(t1.length:Int)) 2).bind fun t_1=>(Ff ([t_2,t_1]:List Int)).bind fun t_3=>(if(t_3 !=0)=true then some ((Arr.rep 96 0),0,t_3) else(FS f0 t1 list2).bind fun t_0=>(FQ (t_0.2==(t1.length:Int)) 4).bind fun t_5=>some (t_0.1,t_0.2,t_5))
theorem Fbr.calls(f0:GFrame)(t1:List GNote)(list2:List GChoice)(w:World)(r:(Arr 96 Int)×Int×Int){C_a:Option Addr}{C_an:Nat}(C_c:Nat)(C_h:Rw w C_a 2 encGHammer f0.fHammers)(C_hn:f0.fHammers.length=C_an){D_a:Option Addr}{D_an:Nat}(D_c:Nat)(D_h:Rw w D_a 2 encGNote t1)(D_hn:t1.length=D_an){E_a:Option Addr}{E_an:Nat}(E_c:Nat)(E_h:Rw w E_a 4 encGChoice list2)(E_hn:list2.length=E_an)(h:Fbr f0 t1 list2=some r):
   Calls Tryz.prog 73 #[(.agg #[(vH f0.fSteps),(.slice C_a C_an C_c)]),(.slice D_a D_an D_c),(.slice E_a E_an E_c)] w fun e w'=>∃v,e= .returned v∧(v= .tuple #[(.agg (row encU32 r.1.1 []).toArray),(vI r.2.1),(vI r.2.2)]∧Mem w [] [] w'):=by
 subst C_hn D_hn E_hn
 rw [Fbr] at h
 refine en Tryz.func73 rfl Tryz.ntmps73 (jc_seq (jc_region (tO (qa 0 (fun b_2=>jkO (tO (qa 0 (fun b_1=>jkO (qh [0,0] (qe (jx_then (jc_seq (jc_seq (jc_region (qh [0,0,0] ?_)))))))))))))))
 obtain⟨t_2,ht_7,h⟩:=bd h
 refine tO (pq 0 (fun w hm=>FaE.calls f0 t1 list2 w _ C_c (hm.xr C_h) rfl D_c (hm.xr D_h) rfl E_c (hm.xr E_h) rfl ht_7) (jkO (qh [0,0,0,0,0] ?_)))
 obtain⟨t_1,ht_8,h⟩:=bd h
 refine tO (pq 0 (fun w hm=>FQ.calls ((list2.length:Int)==(t1.length:Int)) 2 w _ ht_8) (jkO (tO (qa 0 (fun b_6=>jkO ?_)))))
 obtain⟨t_3,ht_9,h⟩:=bd h
 refine tO (pq 0 (fun w hm=>Ff.calls ([t_2,t_1]:List Int) w _ 2 (hm.ow 2 (some b_6) 2 ([t_2,t_1]:List Int) [] (fun e=>nomatch e) encI64_len) rfl ht_9) (jkO (qh [0] (qe (jx_then (jc_seq (jc_region (qh [0,0] (qe (jx_then (qi h (fun h=> ?_) (fun h=> ?_))))))))))))
 ·refine jc_seq (jc_region (qh [0,0] (tO (pS 0 1 b_1 96 1 40 encU32 (Arr.rep 96 0) (Arr.rep 96 0) encU32_len encU32_cell (jkO (qh [0,0] (qe (jx_then (jc_ret (jx_thenr ?_))))))))))
  obtain rfl:=si h
  exact jx_retV rfl (ra (b:=b_1) (T':=40) (hh:=1) (mm:=1) encU32 (Arr.rep 96 0) encU32_len (rt (rt rq_nil))) (fun w hm=>⟨rfl,hm.pk []⟩)
 ·refine jc_skip (jx_then (jc_seq (jc_region (qh [0,0,0] ?_))))
  obtain⟨t_0,ht_00,h⟩:=bd h
  refine tO (pq 0 (fun w hm=>FS.calls f0 t1 list2 w _ C_c (hm.xr C_h) rfl D_c (hm.xr D_h) rfl E_c (hm.xr E_h) rfl ht_00) (jkO (qh [0,0,0] (tO (qa 0 (fun b_4=>jkO (tO (pS 0 3 b_4 96 1 40 encU32 (Arr.rep 96 0) t_0.1 encU32_len encU32_cell (jkO (qh [0] (qe (jx_then (jc_seq (qg [⟨some b_2,27,[(vH f0.fSteps),(.slice C_a f0.fHammers.length C_c)]⟩,⟨(some b_6),2,row encI64 ([t_2,t_1]:List Int) []⟩,⟨(some b_4),40,row encU32 t_0.1.1 []⟩] 10 (qd [⟨1,0,0⟩,⟨2,0,0⟩,⟨3,0,0⟩,⟨4,0,0⟩,⟨5,0,0⟩] 5 [0,2,3] (qv 0 0 [0,2,3] (fun w hm=>ld_run (b:=b_4) (off:=0) (s:=96) (agg:=true) (vs:=row encU32 t_0.1.1 []) (by kernel_rfl) ((row_len encU32_len t_0.1).trans rfl) (.inl rfl) (hm.all (hh:=2) (T:=40) (by kernel_rfl))) ?_))))))))))))))))
  obtain⟨t_5,ht_01,h⟩:=bd h
  refine tD 6 (pq 0 (fun w hm=>FQ.calls (t_0.2==(t1.length:Int)) 4 w _ ht_01) (kD [0,2,3] (tD 7 (pS 0 1 b_1 96 1 40 encU32 (Arr.rep 96 0) t_0.1 encU32_len encU32_cell (kD [0,2,3] (qd [⟨8,0,0⟩,⟨9,0,0⟩] 0 [0,2,3] (qz (jx_then (jc_ret ?_)))))))))
  obtain rfl:=si h
  exact jx_retV rfl (ra (b:=b_1) (T':=40) (hh:=1) (mm:=1) encU32 t_0.1 encU32_len (rt (rt rq_nil))) (fun w hm=>⟨rfl,hm.pk []⟩)
def Fbh(f0:GFrame)(t1:List GNote)(list2:List GChoice):Option ((Arr 96 Int)×Int):=(Fbr f0 t1 list2).bind fun t_0=>(if(t_0.2.2 !=0)=true then some ((Arr.rep 96 0),t_0.2.2) else some (t_0.1,0))
theorem Fbh.calls(f0:GFrame)(t1:List GNote)(list2:List GChoice)(w:World)(r:(Arr 96 Int)×Int){C_a:Option Addr}{C_an:Nat}(C_c:Nat)(C_h:Rw w C_a 2 encGHammer f0.fHammers)(C_hn:f0.fHammers.length=C_an){D_a:Option Addr}{D_an:Nat}(D_c:Nat)(D_h:Rw w D_a 2 encGNote t1)(D_hn:t1.length=D_an){E_a:Option Addr}{E_an:Nat}(E_c:Nat)(E_h:Rw w E_a 4 encGChoice list2)(E_hn:list2.length=E_an)(h:Fbh f0 t1 list2=some r):
   Calls Tryz.prog 11 #[(.agg #[(vH f0.fSteps),(.slice C_a C_an C_c)]),(.slice D_a D_an D_c),(.slice E_a E_an E_c)] w fun e w'=>∃v,e= .returned v∧(v= .tuple #[(.agg (row encU32 r.1.1 []).toArray),(vI r.2)]∧Mem w [] [] w'):=by
 subst C_hn D_hn E_hn
 rw [Fbh] at h
 refine en Tryz.func11 rfl Tryz.ntmps11 (jc_seq (jc_region (tO (qa 0 (fun b_0=>jkO (tO (qa 0 (fun b_1=>jkO (qh [0] (qe (jx_then (jc_seq (jc_region (qh [0,0,0] ?_))))))))))))))
 obtain⟨t_0,ht_3,h⟩:=bd h
 refine tO (pq 0 (fun w hm=>Fbr.calls f0 t1 list2 w _ C_c (hm.xr C_h) rfl D_c (hm.xr D_h) rfl E_c (hm.xr E_h) rfl ht_3) (jkO (qh [0,0,0,0] (tO (qa 0 (fun b_2=>jkO (tO (pS 0 2 b_2 96 1 40 encU32 (Arr.rep 96 0) t_0.1 encU32_len encU32_cell (jkO (qh [0,0] (qe (jx_then (jc_seq (jc_seq (jc_region (qh [0,0] (qe (jx_then (qi h (fun h=> ?_) (fun h=> ?_))))))))))))))))))))
 ·refine jc_seq (jc_region (qh [0,0] (tO (pS 0 1 b_1 96 1 40 encU32 (Arr.rep 96 0) (Arr.rep 96 0) encU32_len encU32_cell (jkO (qh [0] (qe (jx_then (jc_ret (jx_thenr ?_))))))))))
  obtain rfl:=si h
  exact jx_retV rfl (ra (b:=b_1) (T':=40) (hh:=1) (mm:=1) encU32 (Arr.rep 96 0) encU32_len (rt rq_nil)) (fun w hm=>⟨rfl,hm.pk []⟩)
 ·refine jc_skip (jx_then (jc_seq (jc_region (tO (pL 0 2 b_2 96 1 40 encU32 t_0.1 encU32_len (jkO (tO (pS 0 1 b_1 96 1 40 encU32 (Arr.rep 96 0) t_0.1 encU32_len encU32_cell (jkO (qh [0] (qe (jx_then (jc_ret ?_)))))))))))))
  obtain rfl:=si h
  exact jx_retV rfl (ra (b:=b_1) (T':=40) (hh:=1) (mm:=1) encU32 t_0.1 encU32_len (rt rq_nil)) (fun w hm=>⟨rfl,hm.pk []⟩)
def Fbl(x0:GChoice):Option (Bool):=(if x0.fAway=true then some ((x0.fAway==true)&&((x0.fLate==0)&&((x0.fOctave==0)&&(x0.fTrack==0)))) else(FI (w64 x0.fLate) (-3) 3).bind fun t_0=>(if t_0=true then(FI (w64 x0.fOctave) (-1) 1).bind fun t_1=>(if t_1=true then(FI (w64 x0.fTrack) 0 23).bind fun t_2=>some t_2 else some false) else some false))
theorem Fbl.calls(x0:GChoice)(w:World)(r:Bool)(h:Fbl x0=some r):
   Calls Tryz.prog 223 #[(.agg #[(.bool x0.fAway),(vB x0.fLate),(vB x0.fOctave),(vB x0.fTrack)])] w fun e w'=>∃v,e= .returned v∧(v=(.bool r)∧Mem w [] [] w'):=by
 rw [Fbl] at h
 refine en Tryz.func223 rfl Tryz.ntmps223 (jc_seq (jc_region (tO (qa 0 (fun b_0=>jkO (qh [0] (qe (jx_then (jc_seq (jc_seq (jc_region (qh [0,0] (qe (jx_then (qi h (fun h=> ?_) (fun h=> ?_))))))))))))))))
 ·refine jc_seq (jc_region (qh [0,0,0,0] (qe (jx_then (jc_ret (jx_thenr ?_))))))
  obtain rfl:=si h
  exact qr [] (fun w hm=>⟨rfl,hm.pk []⟩)
 ·refine jc_skip (jx_then (jc_seq (jc_region (qh [0,0,0] ?_))))
  obtain⟨t_0,ht_3,h⟩:=bd h
  refine tO (pq 0 (fun w hm=>FI.calls (w64 x0.fLate) (-3) 3 w _ ht_3) (jkO (qf [(0,0),(0,1),(0,1),(0,1)] (qp 12 h (fun h=> ?_) (fun h=> ?_)))))
  ·obtain⟨t_1,ht_4,h⟩:=bd h
   refine tO (pq 2 (fun w hm=>FI.calls (w64 x0.fOctave) (-1) 1 w _ ht_4) (jkO (qf [(0,4),(0,0),(0,1),(0,1),(0,1)] (qp 18 h (fun h=> ?_) (fun h=> ?_)))))
   ·obtain⟨t_2,ht_5,h⟩:=bd h
    refine tO (pq 2 (fun w hm=>FI.calls (w64 x0.fTrack) 0 23 w _ ht_5) (jkO (qf [(0,4),(0,0)] (qe (jx_then (jc_ret ?_))))))
    obtain rfl:=si h
    exact qr [] (fun w hm=>⟨rfl,hm.pk []⟩)
   ·refine qf [(0,3),(0,5),(0,0)] (qe (jx_then (jc_ret ?_)))
    obtain rfl:=si h
    exact qr [] (fun w hm=>⟨rfl,hm.pk []⟩)
  ·refine qf [(0,3),(0,5),(0,0),(0,3),(0,3),(0,3),(0,3),(0,5),(0,0)] (qe (jx_then (jc_ret ?_)))
   obtain rfl:=si h
   exact qr [] (fun w hm=>⟨rfl,hm.pk []⟩)
def Fac.k_1:Option (Bool):=some true
def Fac.l_3(list0:List GChoice):Int→Option ((Int)⊕(Bool⊕Unit))
 | i_0=>(if(decide (i_0<(list0.length:Int)))=true then(ix list0 i_0).bind fun x_1=>(Fbl x_1).bind fun t_3=>(if(!t_3)=true then some (.inr (.inl false)) else some (.inl (w64 (i_0+1)))) else some (.inr (.inr ())))
def Fac(list0:List GChoice):Option (Bool):=(loop (Fac.l_3 list0) 0).bind fun t_4=>match t_4 with | .inl p=>some p | .inr p=>Fac.k_1
theorem Fac.calls(list0:List GChoice)(w:World)(r:Bool){A_a:Option Addr}{A_an:Nat}(A_c:Nat)(A_h:Rw w A_a 4 encGChoice list0)(A_hn:list0.length=A_an)(h:Fac list0=some r):
   Calls Tryz.prog 197 #[(.slice A_a A_an A_c)] w fun e w'=>∃v,e= .returned v∧(v=(.bool r)∧Mem w [] [] w'):=by
 subst A_hn
 rw [Fac] at h
 refine en Tryz.func197 rfl Tryz.ntmps197 (jc_seq (jc_region (qh [0] (qe (jx_then (jc_seq (jc_seq (jc_region (qh [0] (qe (jx_then (jc_meet (fun(_:Unit)=>Fac.k_1=some r) (fun(_:Unit)=> [(2,[],(.bool false))]) (fun(_:Unit)=> []) ?_ ?_))))))))))))
 ·refine jc_block ?_
  obtain⟨t_4,ht_6,hr_5⟩:=bd h
  refine jl (fun(i_0:Int) (_:Unit)=>True) (fun i_0 _=> [(0,[],(.slice A_a list0.length A_c)),(2,[],(.bool false)),(3,[],(vI i_0))]) (fun i_0 _=> []) ht_6 () trivial [] ?_
  rintro i_0 _ y_00 _ h
  rw [Fac.l_3] at h
  refine jc_seq (jc_seq (jc_region (qh [0,0,0,0] (qe (jx_then (qi h (fun h=> ?_) (fun h=> ?_)))))))
  ·refine jc_skip (jx_then (jc_seq (jc_block (jc_seq (jc_region (qh [0,0] ?_))))))
   obtain⟨x_1,hx_2,h⟩:=bd h
   refine tO (qx 0 A_a 4 hx_2 rfl (A_h.sp hx_2) (jkO (tO (ql 0 true (fun w hm=>((hm.xr A_h).at hx_2)) (jkO ?_)))))
   obtain⟨t_3,ht_7,h⟩:=bd h
   refine tO (pq 0 (fun w hm=>Fbl.calls x_1 w _ ht_7) (jkO (qh [0] (qe (jx_then (qi h (fun h=> ?_) (fun h=> ?_)))))))
   ·refine jc_seq (jc_region (qh [0] (qe (jx_then (jc_ret (jx_inr (jx_thenr (jx_leaver (.inl false) (sj h) (fun e_8=> ?_)))))))))
    subst e_8
    refine jx_inr (jx_thenr (jx_thenr ?_))
    obtain rfl:=si hr_5
    exact qr [] (fun w hm=>⟨rfl,hm.pk []⟩)
   ·exact jc_skip (jx_inn (jx_then (jc_region (qh [0,0,0] (qe (qb (w64 (i_0+1)) () h trivial []))))))
  ·refine jc_exit (jx_thenx (jx_leave (.inr ()) (sj h) (fun e_9=> ?_)))
   subst e_9
   exact jx_ine (qm () hr_5 [])
 ·rintro _ h
  replace h:Fac.k_1=some r:=h
  rw [Fac.k_1] at h
  refine jx_then (jc_seq (jc_region (qh [0] (qe (jx_then (jc_ret ?_))))))
  obtain rfl:=si h
  exact qr [] (fun w hm=>⟨rfl,hm.pk []⟩)
def FaA.k_2(t1:List GNote)(list2:List GChoice)(q_0:Bool):Option (Int):=(if q_0=true then some 1 else(if((list2.length:Int) !=(t1.length:Int))=true then some 2 else some 0))
def FaA(f0:GFrame)(t1:List GNote)(list2:List GChoice):Option (Int):=(Fy f0).bind fun t_2=>(if(!t_2)=true then FaA.k_2 t1 list2 true else(Fab t1).bind fun t_3=>(if(!t_3)=true then FaA.k_2 t1 list2 true else(Fac list2).bind fun t_1=>FaA.k_2 t1 list2 (!t_1)))
theorem FaA.calls(f0:GFrame)(t1:List GNote)(list2:List GChoice)(w:World)(r:Int){C_a:Option Addr}{C_an:Nat}(C_c:Nat)(C_h:Rw w C_a 2 encGHammer f0.fHammers)(C_hn:f0.fHammers.length=C_an){D_a:Option Addr}{D_an:Nat}(D_c:Nat)(D_h:Rw w D_a 2 encGNote t1)(D_hn:t1.length=D_an){E_a:Option Addr}{E_an:Nat}(E_c:Nat)(E_h:Rw w E_a 4 encGChoice list2)(E_hn:list2.length=E_an)(A_b:Nat)(hm0:Mem w (bs [some A_b]) [⟨some A_b,27,[(vH f0.fSteps),(.slice C_a C_an C_c)]⟩] w)(C_ha:f0.fHammers≠ []→aB C_a∉bs [some A_b])(D_ha:t1≠ []→aB D_a∉bs [some A_b])(E_ha:list2≠ []→aB E_a∉bs [some A_b])(h:FaA f0 t1 list2=some r):
   Calls Tryz.prog 142 #[(vP A_b),(.slice D_a D_an D_c),(.slice E_a E_an E_c)] w fun e w'=>∃v,e= .returned v∧(v=(vI r)∧Mem w (bs [some A_b]) [⟨some A_b,27,[(vH f0.fSteps),(.slice C_a C_an C_c)]⟩] w'):=by
 subst C_hn D_hn E_hn
 rw [FaA] at h
 refine enter (args:= [(vP A_b),(.slice D_a t1.length D_c),(.slice E_a list2.length E_c)]) Tryz.func142 rfl Tryz.ntmps142 (by kernel_rfl) (L:= [⟨some A_b,27,[(vH f0.fSteps),(.slice C_a f0.fHammers.length C_c)]⟩]) (W:=bs [some A_b]) hm0 (jc_seq (jc_region (qh [0] (qe (jx_then (jc_seq (jc_seq (jc_meet (fun(q_0:Bool)=>FaA.k_2 t1 list2 q_0=some r) (fun q_0=> [(1,[],(.slice D_a t1.length D_c)),(2,[],(.slice E_a list2.length E_c)),(6,[],(vI 0)),(19,[],(.bool q_0))]) (fun q_0=> [⟨some A_b,27,[(vH f0.fSteps),(.slice C_a f0.fHammers.length C_c)]⟩]) ?_ ?_))))))))
 ·refine jc_region (qh [0] ?_)
  obtain⟨t_2,ht_4,h⟩:=bd h
  refine tO (pc 0 (fun w hm=>Fy.calls f0 w _ C_c (hm.exRowW C_h C_ha) rfl A_b (hm.ps [0]) (hm.xp C_h C_ha [0]) ht_4) ?_)
  rintro w v w' hm ⟨rfl,hm'⟩
  refine⟨_,hm.appW (ps:= [(0,⟨some A_b,27,[(vH f0.fSteps),(.slice C_a f0.fHammers.length C_c)]⟩)]) (N:= []) hm' (by kernel_rfl) (by kernel_rfl),jkO ?_⟩
  clear hm hm'
  refine qf [(0,0),(0,0),(0,1)] (qp 10 h (fun h=> ?_) (fun h=> ?_))
  ·exact qf [(0,3),(0,3),(0,4),(0,0),(0,3),(0,3),(0,3),(0,4)] (qe (qm true h [0]))
  ·obtain⟨t_3,ht_5,h⟩:=bd h
   refine tO (pq 2 (fun w hm=>Fab.calls t1 w _ D_c (hm.exRowW D_h D_ha) rfl ht_5) (jkO (qf [(0,2),(0,5),(0,0),(0,1)] (qp 15 h (fun h=> ?_) (fun h=> ?_)))))
   ·exact qf [(0,3),(0,3),(0,4)] (qe (qm true h [0]))
   ·obtain⟨t_1,ht_6,h⟩:=bd h
    exact tO (pq 2 (fun w hm=>Fac.calls list2 w _ E_c (hm.exRowW E_h E_ha) rfl ht_6) (jkO (qf [(0,2),(0,5)] (qe (qm (!t_1) h [0])))))
 ·rintro q_0 h
  replace h:FaA.k_2 t1 list2 q_0=some r:=h
  rw [FaA.k_2] at h
  refine jx_then (qi h (fun h=> ?_) (fun h=> ?_))
  ·refine jc_seq (jc_region (qh [0] (qe (jx_then (jc_ret (jx_thenr ?_))))))
   obtain rfl:=si h
   exact qr [] (fun w hm=>⟨rfl,hm.pk [0]⟩)
  ·refine jc_skip (jx_then (jc_seq (jc_seq (jc_region (qh [0,0,0,0,0] (qe (jx_then (qi h (fun h=> ?_) (fun h=> ?_)))))))))
   ·refine jc_seq (jc_region (qh [0] (qe (jx_then (jc_ret (jx_thenr ?_))))))
    obtain rfl:=si h
    exact qr [] (fun w hm=>⟨rfl,hm.pk [0]⟩)
   ·refine jc_skip (jx_then (jc_seq (jc_region (qh [0] (qe (jx_then (jc_ret ?_)))))))
    obtain rfl:=si h
    exact qr [] (fun w hm=>⟨rfl,hm.pk [0]⟩)
def FE.k_2(a_0:Arr 96 Int):Option ((Arr 96 Int)×Int):=some (a_0,(-1))
def FE.k_13(i_1:Int)(a_7:Arr 96 Int)(q_02:Bool):Option (((Arr 96 Int)×Int)⊕(((Arr 96 Int)×Int)⊕(Arr 96 Int))):=(if q_02=true then some (.inr (.inl ((Arr.rep 96 0),i_1))) else some (.inl (a_7,(w64 (i_1+1)))))
def FE.k_10(f0:GFrame)(t1:List GNote)(list2:List GChoice)(a_2:Arr 96 Int)(i_1:Int)(q_8:Bool):Option (((Arr 96 Int)×Int)⊕(((Arr 96 Int)×Int)⊕(Arr 96 Int))):=(if(!q_8)=true then FE.k_13 i_1 a_2 true else(ix t1 i_1).bind fun x_06=>(ix list2 i_1).bind fun x_07=>(FaS f0 a_2 x_06 x_07).bind fun t_04=>FE.k_13 i_1 t_04.2 (!t_04.1))
def FE.l_19(list2:List GChoice)(i_1:Int)(t_4:(List GChoice)):(Bool×Int)→Option ((Bool×Int)⊕(Bool))
 | (q_6,i_5)=>(if(decide (i_5<(t_4.length:Int)))=true then(if q_6=true then some (.inl (true,(w64 (i_5+1)))) else(ix t_4 i_5).bind fun x_9=>(ix list2 i_1).bind fun x_00=>some (.inl (((x_9.fAway==x_00.fAway)&&((x_9.fLate==x_00.fLate)&&((x_9.fOctave==x_00.fOctave)&&(x_9.fTrack==x_00.fTrack)))),(w64 (i_5+1))))) else some (.inr q_6))
def FE.l_5(f0:GFrame)(t1:List GNote)(list2:List GChoice):((Arr 96 Int)×Int)→Option (((Arr 96 Int)×Int)⊕(((Arr 96 Int)×Int)⊕(Arr 96 Int)))
 | (a_2,i_1)=>(if(decide (i_1<(t1.length:Int)))=true then(ix t1 i_1).bind fun x_08=>(Fx f0 x_08).bind fun t_4=>(loop (FE.l_19 list2 i_1 t_4) (false,0)).bind fun t_0g=>FE.k_10 f0 t1 list2 a_2 i_1 t_0g else some (.inr (.inr a_2)))
def FE(f0:GFrame)(t1:List GNote)(list2:List GChoice):Option ((Arr 96 Int)×Int):=(loop (FE.l_5 f0 t1 list2) ((Arr.rep 96 0),0)).bind fun t_0h=>match t_0h with | .inl p=>some p | .inr p=>FE.k_2 p
theorem FE.calls(f0:GFrame)(t1:List GNote)(list2:List GChoice)(w:World)(r:(Arr 96 Int)×Int){C_a:Option Addr}{C_an:Nat}(C_c:Nat)(C_h:Rw w C_a 2 encGHammer f0.fHammers)(C_hn:f0.fHammers.length=C_an){D_a:Option Addr}{D_an:Nat}(D_c:Nat)(D_h:Rw w D_a 2 encGNote t1)(D_hn:t1.length=D_an){E_a:Option Addr}{E_an:Nat}(E_c:Nat)(E_h:Rw w E_a 4 encGChoice list2)(E_hn:list2.length=E_an)(A_b:Nat)(hm0:Mem w (bs [some A_b]) [⟨some A_b,27,[(vH f0.fSteps),(.slice C_a C_an C_c)]⟩] w)(C_ha:f0.fHammers≠ []→aB C_a∉bs [some A_b])(D_ha:t1≠ []→aB D_a∉bs [some A_b])(E_ha:list2≠ []→aB E_a∉bs [some A_b])(h:FE f0 t1 list2=some r):
   Calls Tryz.prog 143 #[(vP A_b),(.slice D_a D_an D_c),(.slice E_a E_an E_c)] w fun e w'=>∃v,e= .returned v∧(v= .tuple #[(.agg (row encU32 r.1.1 []).toArray),(vI r.2)]∧Mem w (bs [some A_b]) [⟨some A_b,27,[(vH f0.fSteps),(.slice C_a C_an C_c)]⟩] w'):=by
 subst C_hn D_hn E_hn
 rw [FE] at h
 refine enter (args:= [(vP A_b),(.slice D_a t1.length D_c),(.slice E_a list2.length E_c)]) Tryz.func143 rfl Tryz.ntmps143 (by kernel_rfl) (L:= [⟨some A_b,27,[(vH f0.fSteps),(.slice C_a f0.fHammers.length C_c)]⟩]) (W:=bs [some A_b]) hm0 (jc_seq (jc_region (tO (qa 0 (fun b_0=>jkO (qh [0] (qe (jx_then (jc_seq (jc_region (qh [0] (tO (qa 0 (fun b_3=>jkO (tO (pS 0 2 b_3 96 1 40 encU32 (Arr.rep 96 0) (Arr.rep 96 0) encU32_len encU32_cell (jkO (qe (jx_then (jc_seq (jc_seq (jc_region (qh [0] (qe (jx_then (jc_meet (fun(a_0:(Arr 96 Int))=>FE.k_2 a_0=some r) (fun a_0=> [(6,[],(vP b_0)),(7,[],(vI 0)),(8,[],(vP b_3))]) (fun a_0=> [⟨some A_b,27,[(vH f0.fSteps),(.slice C_a f0.fHammers.length C_c)]⟩,⟨(some b_0),40,row encU32 ((Arr.rep 96 0).1) []⟩,⟨(some b_3),40,row encU32 a_0.1 []⟩]) ?_ ?_))))))))))))))))))))))))))
 ·refine jc_block ?_
  obtain⟨t_0h,ht_0k,hr_0i⟩:=bd h
  refine jl (fun(s:(Arr 96 Int)×Int) (x:Unit)=>match s,x with | ⟨a_2,i_1⟩,_=>True) (fun⟨a_2,i_1⟩ _=> [(0,[],(vP A_b)),(1,[],(.slice D_a t1.length D_c)),(2,[],(.slice E_a list2.length E_c)),(6,[],(vP b_0)),(7,[],(vI 0)),(8,[],(vP b_3)),(9,[],(vI i_1))]) (fun⟨a_2,i_1⟩ _=> [⟨some A_b,27,[(vH f0.fSteps),(.slice C_a f0.fHammers.length C_c)]⟩,⟨(some b_0),40,row encU32 ((Arr.rep 96 0).1) []⟩,⟨(some b_3),40,row encU32 a_2.1 []⟩]) ht_0k () trivial [0,1,2] ?_
  rintro⟨a_2,i_1⟩ _ y_05 _ h
  rw [FE.l_5] at h
  refine jc_seq (jc_seq (jc_region (qh [0,0,0,0] (qe (jx_then (qi h (fun h=> ?_) (fun h=> ?_)))))))
  ·refine jc_skip (jx_then (jc_seq (jc_block (jc_seq (jc_region (qh [0,0,0] ?_))))))
   obtain⟨x_08,hx_09,h⟩:=bd h
   refine tO (qx 0 D_a 2 hx_09 rfl (D_h.sp hx_09) (jkO (tO (ql 0 true (fun w hm=>((hm.exRowW D_h D_ha).at hx_09)) (jkO ?_)))))
   obtain⟨t_4,ht_0l,h⟩:=bd h
   refine tO (pc 0 (fun w hm=>Fx.calls f0 x_08 w _ C_c (hm.exRowW C_h C_ha) rfl A_b (hm.ps [0]) (hm.xp C_h C_ha [0]) ht_0l) ?_)
   rintro w v w' hm ⟨o_01,cap_0m,sp_03,_,rfl,hs_0t,ho_0j,rfl,hm'⟩
   refine⟨_,hm.appW (ps:= [(0,⟨some A_b,27,[(vH f0.fSteps),(.slice C_a f0.fHammers.length C_c)]⟩)]) (N:= [⟨o_01,104,row encGChoice t_4 sp_03⟩]) hm' (by kernel_rfl) (by kernel_rfl),jkO ?_⟩
   clear hm hm'
   refine qh [0] (qe (jx_then (jc_seq (jc_region (qh [0] (qe (jx_then (jc_seq (jc_seq (jc_region (qh [0] (qe (jx_then (jc_meet (fun(q_8:Bool)=>FE.k_10 f0 t1 list2 a_2 i_1 q_8=some y_05) (fun q_8=> [(0,[],(vP A_b)),(1,[],(.slice D_a t1.length D_c)),(2,[],(.slice E_a list2.length E_c)),(6,[],(vP b_0)),(7,[],(vI 0)),(8,[],(vP b_3)),(9,[],(vI i_1)),(11,[],(.bool q_8))]) (fun q_8=> [⟨some A_b,27,[(vH f0.fSteps),(.slice C_a f0.fHammers.length C_c)]⟩,⟨(some b_0),40,row encU32 ((Arr.rep 96 0).1) []⟩,⟨(some b_3),40,row encU32 a_2.1 []⟩,⟨o_01,104,row encGChoice t_4 sp_03⟩]) ?_ ?_))))))))))))))
   ·refine jc_block ?_
    obtain⟨t_0g,ht_0n,hr_0o⟩:=bd h
    refine jl (fun(s:Bool×Int) (x:Unit)=>match s,x with | ⟨q_6,i_5⟩,_=>True) (fun⟨q_6,i_5⟩ _=> [(0,[],(vP A_b)),(1,[],(.slice D_a t1.length D_c)),(2,[],(.slice E_a list2.length E_c)),(6,[],(vP b_0)),(7,[],(vI 0)),(8,[],(vP b_3)),(9,[],(vI i_1)),(10,[],(.slice (mB o_01) t_4.length cap_0m)),(11,[],(.bool q_6)),(12,[],(vI i_5))]) (fun⟨q_6,i_5⟩ _=> [⟨some A_b,27,[(vH f0.fSteps),(.slice C_a f0.fHammers.length C_c)]⟩,⟨(some b_0),40,row encU32 ((Arr.rep 96 0).1) []⟩,⟨(some b_3),40,row encU32 a_2.1 []⟩,⟨o_01,104,row encGChoice t_4 sp_03⟩]) ht_0n () trivial [0,1,2,3] ?_
    rintro⟨q_6,i_5⟩ _ y_0u _ h
    rw [FE.l_19] at h
    refine jc_seq (jc_seq (jc_region (qh [0,0,0,0] (qe (jx_then (qi h (fun h=> ?_) (fun h=> ?_)))))))
    ·refine jc_skip (jx_then (jc_seq (jc_block (qg [⟨some A_b,27,[(vH f0.fSteps),(.slice C_a f0.fHammers.length C_c)]⟩,⟨(some b_0),40,row encU32 ((Arr.rep 96 0).1) []⟩,⟨(some b_3),40,row encU32 a_2.1 []⟩,⟨o_01,104,row encGChoice t_4 sp_03⟩] 13 (qd [⟨0,0,0⟩,⟨1,0,0⟩,⟨2,0,1⟩,⟨3,0,1⟩,⟨6,0,1⟩,⟨7,0,1⟩] 7 [0,1,2,3] (js 33 q_6 (fun hc_0a=> ?_) (fun hc_0a=> ?_)))))))
     ·replace h:=ifT hc_0a h
      exact qd [⟨4,0,3⟩,⟨5,0,3⟩,⟨8,0,3⟩,⟨9,0,3⟩,⟨10,0,3⟩,⟨11,0,4⟩,⟨12,0,0⟩] 0 [0,1,2,3] (qz (jx_inn (jx_then (jc_region (qh [0,0,0] (qe (qb (true,(w64 (i_5+1))) () h trivial [0,1,2,3])))))))
     ·replace h:=ifF hc_0a h
      obtain⟨x_9,hx_0b,h⟩:=bd h
      refine qX 4 2 [0,1,2,3] (mB o_01) 4 hx_0b rfl (spo ho_0j hx_0b) (qL 5 2 [0,1,2,3] true (fun w hm=>(hm.ow 3 o_01 104 t_4 sp_03 (fun e=>(ho_0j e).1) encGChoice_len).at hx_0b) ?_)
      obtain⟨x_00,hx_0c,h⟩:=bd h
      exact qX 8 2 [0,1,2,3] E_a 4 hx_0c rfl (E_h.sp hx_0c) (qL 9 2 [0,1,2,3] true (fun w hm=>(hm.exRowW E_h E_ha).at hx_0c) (qd [⟨10,0,2⟩,⟨11,0,5⟩,⟨12,0,0⟩] 0 [0,1,2,3] (qz (jx_inn (jx_then (jc_region (qh [0,0,0] (qe (qb (((x_9.fAway==x_00.fAway)&&((x_9.fLate==x_00.fLate)&&((x_9.fOctave==x_00.fOctave)&&(x_9.fTrack==x_00.fTrack)))),(w64 (i_5+1))) () h trivial [0,1,2,3])))))))))
    ·refine jc_exit (jx_thenx (jx_leave q_6 (sj h) (fun e_0p=> ?_)))
     subst e_0p
     exact jx_ine (qm q_6 hr_0o [0,1,2,3])
   ·rintro q_8 h
    replace h:FE.k_10 f0 t1 list2 a_2 i_1 q_8=some y_05:=h
    rw [FE.k_10] at h
    refine jx_then (jc_seq (jc_meet (fun(j:(Arr 96 Int)×Bool)=>match j with | ⟨a_7,q_02⟩=>FE.k_13 i_1 a_7 q_02=some y_05) (fun⟨a_7,q_02⟩=> [(0,[],(vP A_b)),(1,[],(.slice D_a t1.length D_c)),(2,[],(.slice E_a list2.length E_c)),(6,[],(vP b_0)),(7,[],(vI 0)),(8,[],(vP b_3)),(9,[],(vI i_1)),(58,[],(.bool q_02))]) (fun⟨a_7,q_02⟩=> [⟨some A_b,27,[(vH f0.fSteps),(.slice C_a f0.fHammers.length C_c)]⟩,⟨(some b_0),40,row encU32 ((Arr.rep 96 0).1) []⟩,⟨(some b_3),40,row encU32 a_7.1 []⟩,⟨o_01,104,row encGChoice t_4 sp_03⟩]) ?_ ?_))
    ·refine qg [⟨some A_b,27,[(vH f0.fSteps),(.slice C_a f0.fHammers.length C_c)]⟩,⟨(some b_0),40,row encU32 ((Arr.rep 96 0).1) []⟩,⟨o_01,104,row encGChoice t_4 sp_03⟩] 15 (qd [⟨0,0,0⟩,⟨1,0,0⟩,⟨2,0,0⟩,⟨3,0,1⟩,⟨4,0,1⟩,⟨5,0,1⟩,⟨8,0,1⟩,⟨9,0,1⟩] 7 [0,1,3] (js 46 (!q_8) (fun hc_0d=> ?_) (fun hc_0d=> ?_)))
     ·replace h:=ifT hc_0d h
      exact qd [⟨6,0,3⟩,⟨7,0,3⟩,⟨10,0,3⟩,⟨11,0,3⟩,⟨12,0,3⟩,⟨13,0,3⟩,⟨14,0,4⟩] 0 [0,1,3] (qz (qm ⟨a_2,true⟩ h [0,1,2,3]))
     ·replace h:=ifF hc_0d h
      obtain⟨x_06,hx_0e,h⟩:=bd h
      refine qX 6 2 [0,1,3] D_a 2 hx_0e rfl (D_h.sp hx_0e) (qL 7 2 [0,1,3] true (fun w hm=>(hm.exRowW D_h D_ha).at hx_0e) ?_)
      obtain⟨x_07,hx_0f,h⟩:=bd h
      refine qX 10 2 [0,1,3] E_a 4 hx_0f rfl (E_h.sp hx_0f) (qL 11 2 [0,1,3] true (fun w hm=>(hm.exRowW E_h E_ha).at hx_0f) ?_)
      obtain⟨t_04,ht_0q,h⟩:=bd h
      refine tD 12 (pc 2 (fun w hm=>FaS.calls f0 a_2 x_06 x_07 w _ C_c (hm.exRowW C_h C_ha) rfl A_b b_3 (hm.ps [0,2]) (hm.xp C_h C_ha [0,2]) ht_0q) ?_)
      rintro w v w' hm ⟨rfl,hm'⟩
      refine⟨_,hm.appW (ps:= [(0,⟨some A_b,27,[(vH f0.fSteps),(.slice C_a f0.fHammers.length C_c)]⟩),(2,⟨(some b_3),40,row encU32 t_04.2.1 []⟩)]) (N:= []) hm' (by kernel_rfl) (by kernel_rfl),kD [0,1,3] ?_⟩
      clear hm hm'
      exact qd [⟨13,0,2⟩,⟨14,0,5⟩] 0 [0,1,3] (qz (qm ⟨t_04.2,(!t_04.1)⟩ h [0,1,2,3]))
    ·rintro⟨a_7,q_02⟩ h
     replace h:FE.k_13 i_1 a_7 q_02=some y_05:=h
     rw [FE.k_13] at h
     refine jx_then (qi h (fun h=> ?_) (fun h=> ?_))
     ·refine jc_seq (jc_region (qh [0,0] (tO (pS 0 1 b_0 96 1 40 encU32 (Arr.rep 96 0) (Arr.rep 96 0) encU32_len encU32_cell (jkO (qh [0] (qe (jx_then (jc_ret (jx_inr (jx_thenr (jx_leaver (.inl ((Arr.rep 96 0),i_1)) (sj h) (fun e_0r=> ?_)))))))))))))
      subst e_0r
      refine jx_inr (jx_thenr (jx_thenr ?_))
      obtain rfl:=si hr_0i
      exact jx_retV rfl (ra (b:=b_0) (T':=40) (hh:=1) (mm:=1) encU32 (Arr.rep 96 0) encU32_len (rt rq_nil)) (fun w hm=>⟨rfl,hm.pk [0]⟩)
     ·exact jc_skip (jx_inn (jx_then (jc_region (qh [0,0,0] (qe (qb (a_7,(w64 (i_1+1))) () h trivial [0,1,2]))))))
  ·refine jc_exit (jx_thenx (jx_leave (.inr a_2) (sj h) (fun e_0s=> ?_)))
   subst e_0s
   exact jx_ine (qm a_2 hr_0i [0,1,2])
 ·rintro a_0 h
  replace h:FE.k_2 a_0=some r:=h
  rw [FE.k_2] at h
  refine jx_then (jc_seq (jc_region (tO (pL 0 2 b_3 96 1 40 encU32 a_0 encU32_len (jkO (tO (pS 0 1 b_0 96 1 40 encU32 (Arr.rep 96 0) a_0 encU32_len encU32_cell (jkO (qh [0] (qe (jx_then (jc_ret ?_))))))))))))
  obtain rfl:=si h
  exact jx_retV rfl (ra (b:=b_0) (T':=40) (hh:=1) (mm:=1) encU32 a_0 encU32_len (rt rq_nil)) (fun w hm=>⟨rfl,hm.pk [0]⟩)
def FbF(f0:GFrame)(t1:List GNote)(list2:List GChoice):Option ((Arr 96 Int)×Int):=(FaA f0 t1 list2).bind fun t_0=>(if(t_0 !=0)=true then some ((Arr.rep 96 0),t_0) else(FE f0 t1 list2).bind fun t_1=>(if(decide (t_1.2≥0))=true then some ((Arr.rep 96 0),4) else some (t_1.1,0)))
theorem FbF.calls(f0:GFrame)(t1:List GNote)(list2:List GChoice)(w:World)(r:(Arr 96 Int)×Int){C_a:Option Addr}{C_an:Nat}(C_c:Nat)(C_h:Rw w C_a 2 encGHammer f0.fHammers)(C_hn:f0.fHammers.length=C_an){D_a:Option Addr}{D_an:Nat}(D_c:Nat)(D_h:Rw w D_a 2 encGNote t1)(D_hn:t1.length=D_an){E_a:Option Addr}{E_an:Nat}(E_c:Nat)(E_h:Rw w E_a 4 encGChoice list2)(E_hn:list2.length=E_an)(A_b:Nat)(hm0:Mem w (bs [some A_b]) [⟨some A_b,27,[(vH f0.fSteps),(.slice C_a C_an C_c)]⟩] w)(C_ha:f0.fHammers≠ []→aB C_a∉bs [some A_b])(D_ha:t1≠ []→aB D_a∉bs [some A_b])(E_ha:list2≠ []→aB E_a∉bs [some A_b])(h:FbF f0 t1 list2=some r):
   Calls Tryz.prog 74 #[(vP A_b),(.slice D_a D_an D_c),(.slice E_a E_an E_c)] w fun e w'=>∃v,e= .returned v∧(v= .tuple #[(.agg (row encU32 r.1.1 []).toArray),(vI r.2)]∧Mem w (bs [some A_b]) [⟨some A_b,27,[(vH f0.fSteps),(.slice C_a C_an C_c)]⟩] w'):=by
 subst C_hn D_hn E_hn
 rw [FbF] at h
 refine enter (args:= [(vP A_b),(.slice D_a t1.length D_c),(.slice E_a list2.length E_c)]) Tryz.func74 rfl Tryz.ntmps74 (by kernel_rfl) (L:= [⟨some A_b,27,[(vH f0.fSteps),(.slice C_a f0.fHammers.length C_c)]⟩]) (W:=bs [some A_b]) hm0 (jc_seq (jc_region (tO (qa 0 (fun b_0=>jkO (qh [0] (qe (jx_then (jc_seq (jc_seq (jc_region (qh [0,0,0] ?_))))))))))))
 obtain⟨t_0,ht_3,h⟩:=bd h
 refine tO (pc 0 (fun w hm=>FaA.calls f0 t1 list2 w _ C_c (hm.exRowW C_h C_ha) rfl D_c (hm.exRowW D_h D_ha) rfl E_c (hm.exRowW E_h E_ha) rfl A_b (hm.ps [0]) (hm.xp C_h C_ha [0]) (hm.xp D_h D_ha [0]) (hm.xp E_h E_ha [0]) ht_3) ?_)
 rintro w v w' hm ⟨rfl,hm'⟩
 refine⟨_,hm.appW (ps:= [(0,⟨some A_b,27,[(vH f0.fSteps),(.slice C_a f0.fHammers.length C_c)]⟩)]) (N:= []) hm' (by kernel_rfl) (by kernel_rfl),jkO ?_⟩
 clear hm hm'
 refine qh [0] (qe (jx_then (jc_seq (jc_region (qh [0,0] (qe (jx_then (qi h (fun h=> ?_) (fun h=> ?_)))))))))
 ·refine jc_seq (jc_region (qh [0,0] (tO (pS 0 1 b_0 96 1 40 encU32 (Arr.rep 96 0) (Arr.rep 96 0) encU32_len encU32_cell (jkO (qh [0] (qe (jx_then (jc_ret (jx_thenr ?_))))))))))
  obtain rfl:=si h
  exact jx_retV rfl (ra (b:=b_0) (T':=40) (hh:=1) (mm:=1) encU32 (Arr.rep 96 0) encU32_len (rt rq_nil)) (fun w hm=>⟨rfl,hm.pk [0]⟩)
 ·refine jc_skip (jx_then (jc_seq (jc_region (qh [0,0,0] ?_))))
  obtain⟨t_1,ht_4,h⟩:=bd h
  refine tO (pc 0 (fun w hm=>FE.calls f0 t1 list2 w _ C_c (hm.exRowW C_h C_ha) rfl D_c (hm.exRowW D_h D_ha) rfl E_c (hm.exRowW E_h E_ha) rfl A_b (hm.ps [0]) (hm.xp C_h C_ha [0]) (hm.xp D_h D_ha [0]) (hm.xp E_h E_ha [0]) ht_4) ?_)
  rintro w v w' hm ⟨rfl,hm'⟩
  refine⟨_,hm.appW (ps:= [(0,⟨some A_b,27,[(vH f0.fSteps),(.slice C_a f0.fHammers.length C_c)]⟩)]) (N:= []) hm' (by kernel_rfl) (by kernel_rfl),jkO ?_⟩
  clear hm hm'
  refine qh [0,0,0] (tO (qa 0 (fun b_2=>jkO (tO (pS 0 2 b_2 96 1 40 encU32 (Arr.rep 96 0) t_1.1 encU32_len encU32_cell (jkO (qh [0] (qe (jx_then (jc_seq (jc_seq (jc_region (qh [0,0] (qe (jx_then (qi h (fun h=> ?_) (fun h=> ?_)))))))))))))))))
  ·refine jc_seq (jc_region (qh [0] (tO (pS 0 1 b_0 96 1 40 encU32 (Arr.rep 96 0) (Arr.rep 96 0) encU32_len encU32_cell (jkO (qh [0] (qe (jx_then (jc_ret (jx_thenr ?_))))))))))
   obtain rfl:=si h
   exact jx_retV rfl (ra (b:=b_0) (T':=40) (hh:=1) (mm:=1) encU32 (Arr.rep 96 0) encU32_len (rt rq_nil)) (fun w hm=>⟨rfl,hm.pk [0]⟩)
  ·refine jc_skip (jx_then (jc_seq (jc_region (tO (pL 0 2 b_2 96 1 40 encU32 t_1.1 encU32_len (jkO (tO (pS 0 1 b_0 96 1 40 encU32 (Arr.rep 96 0) t_1.1 encU32_len encU32_cell (jkO (qh [0] (qe (jx_then (jc_ret ?_)))))))))))))
   obtain rfl:=si h
   exact jx_retV rfl (ra (b:=b_0) (T':=40) (hh:=1) (mm:=1) encU32 t_1.1 encU32_len (rt rq_nil)) (fun w hm=>⟨rfl,hm.pk [0]⟩)
def FbG(f0:GFrame)(t1:List GNote)(list2:List GChoice):Option ((Arr 96 Int)×Int):=(FbF f0 t1 list2).bind fun t_0=>some (t_0.1,t_0.2)
theorem FbG.calls(f0:GFrame)(t1:List GNote)(list2:List GChoice)(w:World)(r:(Arr 96 Int)×Int){C_a:Option Addr}{C_an:Nat}(C_c:Nat)(C_h:Rw w C_a 2 encGHammer f0.fHammers)(C_hn:f0.fHammers.length=C_an){D_a:Option Addr}{D_an:Nat}(D_c:Nat)(D_h:Rw w D_a 2 encGNote t1)(D_hn:t1.length=D_an){E_a:Option Addr}{E_an:Nat}(E_c:Nat)(E_h:Rw w E_a 4 encGChoice list2)(E_hn:list2.length=E_an)(h:FbG f0 t1 list2=some r):
   Calls Tryz.prog 12 #[(.agg #[(vH f0.fSteps),(.slice C_a C_an C_c)]),(.slice D_a D_an D_c),(.slice E_a E_an E_c)] w fun e w'=>∃v,e= .returned v∧(v= .tuple #[(.agg (row encU32 r.1.1 []).toArray),(vI r.2)]∧Mem w [] [] w'):=by
 subst C_hn D_hn E_hn
 rw [FbG] at h
 refine en Tryz.func12 rfl Tryz.ntmps12 (jc_seq (jc_region (tO (qa 0 (fun b_0=>jkO (tO (qa 0 (fun b_1=>jkO (qh [0] (qe (jx_then (jc_seq (jc_region (qh [0,0] ?_))))))))))))))
 obtain⟨t_0,ht_2,h⟩:=bd h
 refine tO (pc 0 (fun w hm=>FbF.calls f0 t1 list2 w _ C_c (hm.xr C_h) rfl D_c (hm.xr D_h) rfl E_c (hm.xr E_h) rfl b_0 (hm.ps [0]) (hm.xp C_h (fun _=>List.not_mem_nil) [0]) (hm.xp D_h (fun _=>List.not_mem_nil) [0]) (hm.xp E_h (fun _=>List.not_mem_nil) [0]) ht_2) ?_)
 rintro w v w' hm ⟨rfl,hm'⟩
 refine⟨_,hm.appW (ps:= [(0,⟨some b_0,27,[(vH f0.fSteps),(.slice C_a f0.fHammers.length C_c)]⟩)]) (N:= []) hm' (by kernel_rfl) (by kernel_rfl),jkO ?_⟩
 clear hm hm'
 refine qh [0,0] (tO (pS 0 1 b_1 96 1 40 encU32 (Arr.rep 96 0) t_0.1 encU32_len encU32_cell (jkO (qh [0] (qe (jx_then (jc_ret ?_)))))))
 obtain rfl:=si h
 exact jx_retV rfl (ra (b:=b_1) (T':=40) (hh:=1) (mm:=1) encU32 t_0.1 encU32_len (rt rq_nil)) (fun w hm=>⟨rfl,hm.pk []⟩)
def Fa5(step0:Int)(track1:Int)(p2:Int)(p3:Int)(p4:List GNote)(p5:GFrame):Option ((List GNote)):=(FG step0 p2 (w64 ((w64 (p2+p3))-1))).bind fun t_1=>(if t_1=true then(ix p5.fHammers track1).bind fun x_0=>(if p4.length+([(⟨(w16 (w64 (step0-p2))),x_0.fPitch⟩:GNote)]:List GNote).length≤4294967296 then some (p4++([(⟨(w16 (w64 (step0-p2))),x_0.fPitch⟩:GNote)]:List GNote)) else none) else some p4)
theorem Fa5.calls(step0:Int)(track1:Int)(p2:Int)(p3:Int)(p4:List GNote)(p5:GFrame)(w:World)(r:(List GNote)){H_a:Option Addr}{H_an:Nat}(H_c:Nat)(H_h:Rw w H_a 2 encGHammer p5.fHammers)(H_hn:p5.fHammers.length=H_an)(C_b:Nat)(D_b:Nat)(E_b:Nat)(E_o:Option Nat){E_on:Nat}{E_c:Nat}{E_sp:List Value}(E_hn:p4.length=E_on)(E_hs:hS E_o E_on E_c E_sp 2)(E_ho:hO E_o p4 E_c)(F_b:Nat)(hm0:Mem w (bs [some C_b,some D_b,some E_b,E_o,some F_b]) [⟨some C_b,2,[(vI p2)]⟩,⟨some D_b,2,[(vI p3)]⟩,⟨some E_b,28,[(.slice (mB E_o) E_on E_c)]⟩,⟨E_o,101,row encGNote p4 E_sp⟩,⟨some F_b,27,[(vH p5.fSteps),(.slice H_a H_an H_c)]⟩] w)(H_ha:p5.fHammers≠ []→aB H_a∉bs [some C_b,some D_b,some E_b,E_o,some F_b])(h:Fa5 step0 track1 p2 p3 p4 p5=some r):
   Calls Tryz.prog 145 #[(vI step0),(vI track1),(vP C_b),(vP D_b),(vP E_b),(vP F_b)] w fun e w'=>∃v,e= .returned v∧(∃(mo0:Option Nat) (mc0:Nat) (ms0:List Value) (mn0:Nat),r.length=mn0∧(hS mo0 mn0 mc0 ms0 2)∧(hO mo0 r mc0)∧v= .tuple #[]∧Mem w (bs [some C_b,some D_b,some E_b,E_o,some F_b]) [⟨some C_b,2,[(vI p2)]⟩,⟨some D_b,2,[(vI p3)]⟩,⟨some E_b,28,[(.slice (mB mo0) mn0 mc0)]⟩,⟨some F_b,27,[(vH p5.fSteps),(.slice H_a H_an H_c)]⟩,⟨mo0,101,row encGNote r ms0⟩] w'):=by
 subst H_hn E_hn
 rw [Fa5] at h
 refine enter (args:= [(vI step0),(vI track1),(vP C_b),(vP D_b),(vP E_b),(vP F_b)]) Tryz.func145 rfl Tryz.ntmps145 (by kernel_rfl) (L:= [⟨some C_b,2,[(vI p2)]⟩,⟨some D_b,2,[(vI p3)]⟩,⟨some E_b,28,[(.slice (mB E_o) p4.length E_c)]⟩,⟨E_o,101,row encGNote p4 E_sp⟩,⟨some F_b,27,[(vH p5.fSteps),(.slice H_a p5.fHammers.length H_c)]⟩]) (W:=bs [some C_b,some D_b,some E_b,E_o,some F_b]) hm0 (jc_seq (jc_region (qh [0,0,0,1,0,0] ?_)))
 obtain⟨t_1,ht_1,h⟩:=bd h
 refine tO (pq 0 (fun w hm=>FG.calls step0 p2 (w64 ((w64 (p2+p3))-1)) w _ ht_1) (jkO (qe (jx_then (qi h (fun h=> ?_) (fun h=> ?_))))))
 ·refine qg [⟨some C_b,2,[(vI p2)]⟩,⟨some D_b,2,[(vI p3)]⟩,⟨some F_b,27,[(vH p5.fSteps),(.slice H_a p5.fHammers.length H_c)]⟩] 15 (qd [⟨1,0,0⟩,⟨2,0,0⟩,⟨3,0,0⟩,⟨4,0,0⟩,⟨5,0,0⟩,⟨6,2,0⟩,⟨7,0,0⟩] 8 [0,1,4] ?_)
  obtain⟨x_0,hx_2,h⟩:=bd h
  refine qX 8 0 [0,1,4] H_a 2 hx_2 rfl (H_h.sp hx_2) (qd [⟨9,0,0⟩] 6 [0,1,4] (qL 10 0 [0,1,4] false (fun w hm=>((hm.exRowW H_h H_ha).at hx_2).sub 0 1) (qd [⟨11,0,0⟩] 4 [0,1,4] (t2 0 12 ?_ ?_))))
  ·refine qs 0 [2] (kD [0,1,4] (tD 12 (qa 0 (fun b_3=>kD [0,1,4] ?_))))
   obtain⟨hg_5,h⟩:=gd h
   refine tD 13 (pA 0 3 E_o 101 p4.length 1 E_c 2 4 (sB b_3) encGNote p4 ([(⟨(w16 (w64 (step0-p2))),x_0.fPitch⟩:GNote)]:List GNote) E_sp (.agg #[(vH 0),(vB 0)]) rfl rfl encGNote_len encGNote_cell E_hs E_ho (fun w hm=>(hm.ow 5 (some b_3) 101 ([(⟨(w16 (w64 (step0-p2))),x_0.fPitch⟩:GNote)]:List GNote) [] (fun e=>nomatch e) encGNote_len)) hg_5 (fun o_6 cap_7 sp_8 hs_9 ho_00=>kD [0,1,4] (tD 14 (qs 0 [2] (kD [0,1,4] (qz (jx_fall ?_)))))))
   obtain rfl:=si h
   exact qr [] (fun w hm=>⟨o_6,cap_7,sp_8,((p4++([(⟨(w16 (w64 (step0-p2))),x_0.fPitch⟩:GNote)]:List GNote)).length),rfl,hs_9,ho_00,rfl,hm.pk [0,1,2,4,3]⟩)
  ·refine qa 0 (fun b_4=>kD [0,1,4] (tD 0 (qs 0 [2] (kD [0,1,4] ?_))))
   obtain⟨hg_01,h⟩:=gd h
   refine tD 13 (pA 0 3 E_o 101 p4.length 1 E_c 2 4 (sB b_4) encGNote p4 ([(⟨(w16 (w64 (step0-p2))),x_0.fPitch⟩:GNote)]:List GNote) E_sp (.agg #[(vH 0),(vB 0)]) rfl rfl encGNote_len encGNote_cell E_hs E_ho (fun w hm=>(hm.ow 5 (some b_4) 101 ([(⟨(w16 (w64 (step0-p2))),x_0.fPitch⟩:GNote)]:List GNote) [] (fun e=>nomatch e) encGNote_len)) hg_01 (fun o_02 cap_03 sp_04 hs_05 ho_06=>kD [0,1,4] (tD 14 (qs 0 [2] (kD [0,1,4] (qz (jx_fall ?_)))))))
   obtain rfl:=si h
   exact qr [] (fun w hm=>⟨o_02,cap_03,sp_04,((p4++([(⟨(w16 (w64 (step0-p2))),x_0.fPitch⟩:GNote)]:List GNote)).length),rfl,hs_05,ho_06,rfl,hm.pk [0,1,2,4,3]⟩)
 ·refine jc_skip (jx_fall ?_)
  obtain rfl:=si h
  exact qr [] (fun w hm=>⟨E_o,E_c,E_sp,p4.length,rfl,E_hs,E_ho,rfl,hm.pk [0,1,2,4,3]⟩)
def Fe.k_2(xs_1:List GNote):Option ((List GNote)):=some xs_1
def Fe.k_9(i_0:Int)(xs_5:List GNote):Option (((List GNote)×Int)⊕((List GNote))):=some (.inl (xs_5,(w64 (i_0+1))))
def Fe.l_12(d1:Arr 96 Int)(g2c0:Int)(g2c1:Int)(g2c3:GFrame)(i_0:Int)(t_0e:Int):((List GNote)×Int)→Option (((List GNote)×Int)⊕((List GNote)))
 | (xs_2,i_3)=>(if(decide (i_3<t_0e))=true then(FaI d1 i_0 i_3).bind fun t_0k=>(if t_0k=true then(Fa5 i_0 i_3 g2c0 g2c1 xs_2 g2c3).bind fun t_00=>some (.inl (t_00,(w64 (i_3+1)))) else some (.inl (xs_2,(w64 (i_3+1))))) else some (.inr xs_2))
def Fe.l_5(f0:GFrame)(d1:Arr 96 Int)(g2c0:Int)(g2c1:Int)(g2c3:GFrame):((List GNote)×Int)→Option (((List GNote)×Int)⊕((List GNote)))
 | (xs_4,i_0)=>(if(decide (i_0<(w64 f0.fSteps)))=true then(FaF f0.fHammers).bind fun t_0e=>(loop (Fe.l_12 d1 g2c0 g2c1 g2c3 i_0 t_0e) (xs_4,0)).bind fun t_0l=>Fe.k_9 i_0 t_0l else some (.inr xs_4))
def Fe(f0:GFrame)(d1:Arr 96 Int)(g2c0:Int)(g2c1:Int)(g2c2:List GNote)(g2c3:GFrame):Option ((List GNote)):=(loop (Fe.l_5 f0 d1 g2c0 g2c1 g2c3) (g2c2,0)).bind fun t_0m=>Fe.k_2 t_0m
theorem Fe.calls(f0:GFrame)(d1:Arr 96 Int)(g2c0:Int)(g2c1:Int)(g2c2:List GNote)(g2c3:GFrame)(w:World)(r:(List GNote)){C_a:Option Addr}{C_an:Nat}(C_c:Nat)(C_h:Rw w C_a 2 encGHammer f0.fHammers)(C_hn:f0.fHammers.length=C_an){J_a:Option Addr}{J_an:Nat}(J_c:Nat)(J_h:Rw w J_a 2 encGHammer g2c3.fHammers)(J_hn:g2c3.fHammers.length=J_an)(E_b:Nat)(F_b:Nat)(G_b:Nat)(G_o:Option Nat){G_on:Nat}{G_c:Nat}{G_sp:List Value}(G_hn:g2c2.length=G_on)(G_hs:hS G_o G_on G_c G_sp 2)(G_ho:hO G_o g2c2 G_c)(H_b:Nat)(hm0:Mem w (bs [some E_b,some F_b,some G_b,G_o,some H_b]) [⟨some E_b,2,[(vI g2c0)]⟩,⟨some F_b,2,[(vI g2c1)]⟩,⟨some G_b,28,[(.slice (mB G_o) G_on G_c)]⟩,⟨G_o,101,row encGNote g2c2 G_sp⟩,⟨some H_b,27,[(vH g2c3.fSteps),(.slice J_a J_an J_c)]⟩] w)(C_ha:f0.fHammers≠ []→aB C_a∉bs [some E_b,some F_b,some G_b,G_o,some H_b])(J_ha:g2c3.fHammers≠ []→aB J_a∉bs [some E_b,some F_b,some G_b,G_o,some H_b])(h:Fe f0 d1 g2c0 g2c1 g2c2 g2c3=some r):
   Calls Tryz.prog 144 #[(.agg #[(vH f0.fSteps),(.slice C_a C_an C_c)]),(.agg (row encU32 d1.1 []).toArray),(.func (.func 145) #[] #[(vP E_b),(vP F_b),(vP G_b),(vP H_b)])] w fun e w'=>∃v,e= .returned v∧(∃(mo0:Option Nat) (mc0:Nat) (ms0:List Value) (mn0:Nat),r.length=mn0∧(hS mo0 mn0 mc0 ms0 2)∧(hO mo0 r mc0)∧v= .tuple #[]∧Mem w (bs [some E_b,some F_b,some G_b,G_o,some H_b]) [⟨some E_b,2,[(vI g2c0)]⟩,⟨some F_b,2,[(vI g2c1)]⟩,⟨some G_b,28,[(.slice (mB mo0) mn0 mc0)]⟩,⟨some H_b,27,[(vH g2c3.fSteps),(.slice J_a J_an J_c)]⟩,⟨mo0,101,row encGNote r ms0⟩] w'):=by
 subst C_hn J_hn G_hn
 rw [Fe] at h
 refine enter (args:= [(.agg #[(vH f0.fSteps),(.slice C_a f0.fHammers.length C_c)]),(.agg (row encU32 d1.1 []).toArray),(.func (.func 145) #[] #[(vP E_b),(vP F_b),(vP G_b),(vP H_b)])]) Tryz.func144 rfl Tryz.ntmps144 (by kernel_rfl) (L:= [⟨some E_b,2,[(vI g2c0)]⟩,⟨some F_b,2,[(vI g2c1)]⟩,⟨some G_b,28,[(.slice (mB G_o) g2c2.length G_c)]⟩,⟨G_o,101,row encGNote g2c2 G_sp⟩,⟨some H_b,27,[(vH g2c3.fSteps),(.slice J_a g2c3.fHammers.length J_c)]⟩]) (W:=bs [some E_b,some F_b,some G_b,G_o,some H_b]) hm0 (jc_seq (jc_region (tO (qa 0 (fun b_1=>jkO (tO (qa 0 (fun b_7=>jkO (qe (jx_then (jc_seq (jc_region (qh [0,5,0,0] (qe (jx_then (jc_meet (fun(j:(List GNote)×(Option Nat)×Nat×(List Value)×Nat)=>match j with | ⟨xs_1,o_01,cap_05,sp_08,n_09⟩=>Fe.k_2 xs_1=some r∧(xs_1.length=n_09)∧(hS o_01 n_09 cap_05 sp_08 2)∧(hO o_01 xs_1 cap_05)) (fun⟨xs_1,o_01,cap_05,sp_08,n_09⟩=> []) (fun⟨xs_1,o_01,cap_05,sp_08,n_09⟩=> [⟨some E_b,2,[(vI g2c0)]⟩,⟨some F_b,2,[(vI g2c1)]⟩,⟨some G_b,28,[(.slice (mB o_01) n_09 cap_05)]⟩,⟨o_01,101,row encGNote xs_1 sp_08⟩,⟨some H_b,27,[(vH g2c3.fSteps),(.slice J_a g2c3.fHammers.length J_c)]⟩,⟨some b_1,27,[(vH f0.fSteps),(.slice C_a f0.fHammers.length C_c)]⟩,⟨(some b_7),40,row encU32 d1.1 []⟩]) ?_ ?_))))))))))))))))
 ·refine jc_block ?_
  obtain⟨t_0m,ht_0q,hr_0r⟩:=bd h
  refine jl (fun(s:(List GNote)×Int) (x:(Option Nat)×Nat×(List Value)×Nat)=>match s,x with | ⟨xs_4,i_0⟩,⟨o_8,cap_02,sp_06,n_0a⟩=>(xs_4.length=n_0a)∧(hS o_8 n_0a cap_02 sp_06 2)∧(hO o_8 xs_4 cap_02)) (fun⟨xs_4,i_0⟩ ⟨o_8,cap_02,sp_06,n_0a⟩=> [(2,[],(.func (.func 145) #[] #[(vP E_b),(vP F_b),(vP G_b),(vP H_b)])),(3,[],(vP b_1)),(4,[],(vP b_7)),(10,[],(vI (w64 f0.fSteps))),(11,[],(vI i_0))]) (fun⟨xs_4,i_0⟩ ⟨o_8,cap_02,sp_06,n_0a⟩=> [⟨some E_b,2,[(vI g2c0)]⟩,⟨some F_b,2,[(vI g2c1)]⟩,⟨some G_b,28,[(.slice (mB o_8) n_0a cap_02)]⟩,⟨o_8,101,row encGNote xs_4 sp_06⟩,⟨some H_b,27,[(vH g2c3.fSteps),(.slice J_a g2c3.fHammers.length J_c)]⟩,⟨some b_1,27,[(vH f0.fSteps),(.slice C_a f0.fHammers.length C_c)]⟩,⟨(some b_7),40,row encU32 d1.1 []⟩]) ht_0q ⟨G_o,G_c,G_sp,g2c2.length⟩ ⟨rfl,G_hs,G_ho⟩ [0,1,2,3,4,5,6] ?_
  rintro⟨xs_4,i_0⟩ ⟨o_8,cap_02,sp_06,n_0a⟩ y_0n ⟨rfl,hs_0o,ho_0p⟩ h
  rw [Fe.l_5] at h
  refine jc_seq (jc_region (qh [0] (qe (jx_then (jc_seq (qi h (fun h=> ?_) (fun h=> ?_)))))))
  ·refine jc_skip (jx_then (jc_seq (jc_block (jc_seq (jc_region (qh [0,0] (qe (jx_then (jc_seq (jc_region (qh [0,5] ?_)))))))))))
   obtain⟨t_0e,ht_0s,h⟩:=bd h
   refine tO (pq 0 (fun w hm=>FaF.calls f0.fHammers w _ C_c (hm.exRowW C_h C_ha) rfl ht_0s) (jkO (qh [0] (qe (jx_then (jc_meet (fun(j:(List GNote)×(Option Nat)×Nat×(List Value)×Nat)=>match j with | ⟨xs_5,o_03,cap_07,sp_0b,n_0c⟩=>Fe.k_9 i_0 xs_5=some y_0n∧(xs_5.length=n_0c)∧(hS o_03 n_0c cap_07 sp_0b 2)∧(hO o_03 xs_5 cap_07)) (fun⟨xs_5,o_03,cap_07,sp_0b,n_0c⟩=> [(2,[],(.func (.func 145) #[] #[(vP E_b),(vP F_b),(vP G_b),(vP H_b)])),(3,[],(vP b_1)),(4,[],(vP b_7)),(10,[],(vI (w64 f0.fSteps))),(11,[],(vI i_0))]) (fun⟨xs_5,o_03,cap_07,sp_0b,n_0c⟩=> [⟨some E_b,2,[(vI g2c0)]⟩,⟨some F_b,2,[(vI g2c1)]⟩,⟨some G_b,28,[(.slice (mB o_03) n_0c cap_07)]⟩,⟨o_03,101,row encGNote xs_5 sp_0b⟩,⟨some H_b,27,[(vH g2c3.fSteps),(.slice J_a g2c3.fHammers.length J_c)]⟩,⟨some b_1,27,[(vH f0.fSteps),(.slice C_a f0.fHammers.length C_c)]⟩,⟨(some b_7),40,row encU32 d1.1 []⟩]) ?_ ?_))))))
   ·refine jc_block ?_
    obtain⟨t_0l,ht_0t,hr_0u⟩:=bd h
    refine jl (fun(s:(List GNote)×Int) (x:(Option Nat)×Nat×(List Value)×Nat)=>match s,x with | ⟨xs_2,i_3⟩,⟨o_6,cap_9,sp_04,n_0d⟩=>(xs_2.length=n_0d)∧(hS o_6 n_0d cap_9 sp_04 2)∧(hO o_6 xs_2 cap_9)) (fun⟨xs_2,i_3⟩ ⟨o_6,cap_9,sp_04,n_0d⟩=> [(2,[],(.func (.func 145) #[] #[(vP E_b),(vP F_b),(vP G_b),(vP H_b)])),(3,[],(vP b_1)),(4,[],(vP b_7)),(6,[],(vI i_0)),(10,[],(vI (w64 f0.fSteps))),(11,[],(vI i_0)),(16,[],(vI t_0e)),(17,[],(vI i_3))]) (fun⟨xs_2,i_3⟩ ⟨o_6,cap_9,sp_04,n_0d⟩=> [⟨some E_b,2,[(vI g2c0)]⟩,⟨some F_b,2,[(vI g2c1)]⟩,⟨some G_b,28,[(.slice (mB o_6) n_0d cap_9)]⟩,⟨o_6,101,row encGNote xs_2 sp_04⟩,⟨some H_b,27,[(vH g2c3.fSteps),(.slice J_a g2c3.fHammers.length J_c)]⟩,⟨some b_1,27,[(vH f0.fSteps),(.slice C_a f0.fHammers.length C_c)]⟩,⟨(some b_7),40,row encU32 d1.1 []⟩]) ht_0t ⟨o_8,cap_02,sp_06,xs_4.length⟩ ⟨rfl,hs_0o,ho_0p⟩ [0,1,2,3,4,5,6] ?_
    rintro⟨xs_2,i_3⟩ ⟨o_6,cap_9,sp_04,n_0d⟩ y_15 ⟨rfl,hs_0g,ho_0h⟩ h
    rw [Fe.l_12] at h
    refine jc_seq (jc_region (qh [0] (qe (jx_then (jc_seq (qi h (fun h=> ?_) (fun h=> ?_)))))))
    ·refine jc_skip (jx_then (jc_seq (jc_block (jc_seq (jc_region (qh [0,0] (qe (jx_then (jc_seq (jc_region (qh [0,0] ?_)))))))))))
     obtain⟨t_0k,ht_0v,h⟩:=bd h
     refine tO (pq 0 (fun w hm=>FaI.calls d1 i_0 i_3 w _ (hm.ow 6 (some b_7) 40 d1.1 [] (fun e=>nomatch e) encU32_len) ht_0v) (jkO (qe (jx_then (qi h (fun h=> ?_) (fun h=> ?_))))))
     ·refine jc_region (qh [0,0,0] ?_)
      obtain⟨t_00,ht_0w,h⟩:=bd h
      refine tO (pc 0 (fun w hm=>Fa5.calls i_0 i_3 g2c0 g2c1 xs_2 g2c3 w _ J_c (hm.exRowW J_h J_ha) rfl E_b F_b G_b o_6 rfl hs_0g ho_0h H_b (hm.ps (N:= [⟨some E_b,2,[(vI g2c0)]⟩,⟨some F_b,2,[(vI g2c1)]⟩,⟨some G_b,28,[(.slice (mB o_6) xs_2.length cap_9)]⟩,⟨o_6,101,row encGNote xs_2 sp_04⟩,⟨some H_b,27,[(vH g2c3.fSteps),(.slice J_a g2c3.fHammers.length J_c)]⟩]) [0,1,2,3,4]) (hm.xp J_h J_ha [0,1,2,3,4]) ht_0w) ?_)
      rintro w v w' hm ⟨o_0f,cap_0i,sp_0j,_,rfl,hs_0x,ho_0y,rfl,hm'⟩
      refine⟨_,Mem.pick (hm.appP (ps:= [(0,⟨some E_b,2,[(vI g2c0)]⟩),(1,⟨some F_b,2,[(vI g2c1)]⟩),(2,⟨some G_b,28,[(.slice (mB o_0f) t_00.length cap_0i)]⟩),(4,⟨some H_b,27,[(vH g2c3.fSteps),(.slice J_a g2c3.fHammers.length J_c)]⟩)]) (ds:= [3]) (N:= [⟨o_0f,101,row encGNote t_00 sp_0j⟩]) hm' [0,1,2,4,3] (by kernel_rfl) (by kernel_rfl) (by kernel_rfl)) (N:= [⟨some E_b,2,[(vI g2c0)]⟩,⟨some F_b,2,[(vI g2c1)]⟩,⟨some G_b,28,[(.slice (mB o_0f) t_00.length cap_0i)]⟩,⟨o_0f,101,row encGNote t_00 sp_0j⟩,⟨some H_b,27,[(vH g2c3.fSteps),(.slice J_a g2c3.fHammers.length J_c)]⟩,⟨some b_1,27,[(vH f0.fSteps),(.slice C_a f0.fHammers.length C_c)]⟩,⟨(some b_7),40,row encU32 d1.1 []⟩]) [0,1,2,7,4,5,6] (by kernel_rfl) (by kernel_rfl),jkO ?_⟩
      clear hm hm'
      exact qe (jx_inn (jx_then (jc_region (qh [0,0] (qe (qb (t_00,(w64 (i_3+1))) ⟨o_0f,cap_0i,sp_0j,t_00.length⟩ h ⟨rfl,hs_0x,ho_0y⟩ [0,1,2,3,4,5,6]))))))
     ·exact jc_skip (jx_inn (jx_then (jc_region (qh [0,0] (qe (qb (xs_2,(w64 (i_3+1))) ⟨o_6,cap_9,sp_04,xs_2.length⟩ h ⟨rfl,hs_0g,ho_0h⟩ [0,1,2,3,4,5,6]))))))
    ·refine jc_exit (jx_thenx (jx_leave xs_2 (sj h) (fun e_0z=> ?_)))
     subst e_0z
     exact jx_ine (qm ⟨xs_2,o_6,cap_9,sp_04,xs_2.length⟩ ⟨hr_0u,rfl,hs_0g,ho_0h⟩ [0,1,2,3,4,5,6])
   ·rintro⟨xs_5,o_03,cap_07,sp_0b,n_0c⟩ ⟨h,rfl,hs_10,ho_11⟩
    replace h:Fe.k_9 i_0 xs_5=some y_0n:=h
    rw [Fe.k_9] at h
    exact jx_inn (jx_then (jc_region (qh [0,0] (qe (qb (xs_5,(w64 (i_0+1))) ⟨o_03,cap_07,sp_0b,xs_5.length⟩ h ⟨rfl,hs_10,ho_11⟩ [0,1,2,3,4,5,6])))))
  ·refine jc_exit (jx_thenx (jx_leave xs_4 (sj h) (fun e_12=> ?_)))
   subst e_12
   exact jx_ine (qm ⟨xs_4,o_8,cap_02,sp_06,xs_4.length⟩ ⟨hr_0r,rfl,hs_0o,ho_0p⟩ [0,1,2,3,4,5,6])
 ·rintro⟨xs_1,o_01,cap_05,sp_08,n_09⟩ ⟨h,rfl,hs_13,ho_14⟩
  replace h:Fe.k_2 xs_1=some r:=h
  rw [Fe.k_2] at h
  refine jx_fall ?_
  obtain rfl:=si h
  exact qr [] (fun w hm=>⟨o_01,cap_05,sp_08,xs_1.length,rfl,hs_13,ho_14,rfl,hm.pk [0,1,2,4,3]⟩)
def Fbj(s0:List GNote):Option ((List GNote)):=(if([]:List GNote).length+s0.length≤4294967296 then some (([]:List GNote)++s0) else none)
theorem Fbj.calls(s0:List GNote)(w:World)(r:(List GNote)){A_a:Option Addr}{A_an:Nat}(A_c:Nat)(A_h:Rw w A_a 2 encGNote s0)(A_hn:s0.length=A_an)(h:Fbj s0=some r):
   Calls Tryz.prog 198 #[(.slice A_a A_an A_c)] w fun e w'=>∃v,e= .returned v∧(∃(o0:Option Nat) (c0:Nat) (s0:List Value) (n0:Nat),r.length=n0∧(hS o0 n0 c0 s0 2)∧(hO o0 r c0)∧v= .slice (mB o0) n0 c0∧Mem w [] [⟨o0,101,row encGNote r s0⟩] w'):=by
 subst A_hn
 rw [Fbj] at h
 refine en Tryz.func198 rfl Tryz.ntmps198 (jc_seq (jc_region (qh [0] (qe (jx_then (jc_seq (jc_seq (jc_region (qh [0] ?_)))))))))
 by_cases hn_0:A_a=none
 ·have hx0:s0= []:=(nil_of A_h hn_0)
  replace h:some []=some r:=by simpa [hx0] using h
  refine tO (pN 0 A_a true true (by rw [hn_0];rfl) (jkO (qe (jx_then (jq true (fun hc_1=>(jc_seq (jc_region (qh [0] (qe (jx_then (jc_ret (jx_thenr ?_)))))))) (fun hc_1=>nomatch hc_1))))))
  obtain rfl:=si h
  exact jx_ghost 101 encGNote (qr [] (fun w hm=>⟨none,0,[],0,rfl,(fun e=>absurd rfl e),(fun _=>⟨rfl,rfl⟩),rfl,hm.pk [0]⟩))
 ·refine tO (pN 0 A_a true false (by rw [Option.isNone_eq_false_iff.2 (Option.ne_none_iff_isSome.1 hn_0)];rfl) (jkO (qe (jx_then (jq false (fun hc_2=>nomatch hc_2) (fun hc_2=>(jc_skip (jx_then (jc_seq (jc_region (tO (qa 0 (fun b_3=>jkO (qh [0] ?_))))))))))))))
  obtain⟨hg_4,h⟩:=gd h
  refine tO (pA 0 0 (some b_3) 101 0 s0.length 0 2 4 A_a encGNote ([]:List GNote) s0 [] (.agg #[(vH 0),(vB 0)]) rfl rfl encGNote_len encGNote_cell (fun _=>⟨Nat.le_refl _,by simp⟩) (fun e=>nomatch e) (fun w hm=>(hm.xr A_h)) hg_4 (fun o_5 cap_6 sp_7 hs_8 ho_9=>jkO (qh [0] (qe (jx_then (jc_ret ?_))))))
  obtain rfl:=si h
  exact qr [] (fun w hm=>⟨o_5,cap_6,sp_7,((([]:List GNote)++s0).length),rfl,hs_8,ho_9,rfl,hm.pk [0]⟩)
def lay_slices_SortFunc_Note_at_impl_compareNotes_ren:Go.Shelf.Ren:=⟨fun | 6=>199 | 15=>225 | 14=>224 | 28=>243 | 29=>244 | 20=>235 | 21=>236 | 22=>237 | 23=>238 | 24=>239 | 25=>240 | 26=>241 | 27=>242 | 46=>250 | 47=>251 | 48=>252 | 49=>253 | 50=>254 | 57=>255 | n=>n,fun | 22=>28 | 24=>101 | 25=>245 | 3=>3 | 39=>191 | 0=>0 | 53=>38 | 55=>48 | 4=>4 | 46=>269 | 45=>268 | 50=>273 | 5=>5 | 9=>9 | 66=>281 | 70=>284 | 76=>286 | 77=>287 | n=>n,fun | n=>n⟩
theorem lay_slices_SortFunc_Note_at_impl_compareNotes:Go.Proofs.SlLaysF0.n6 Tryz.prog lay_slices_SortFunc_Note_at_impl_compareNotes_ren where
 mixed:=by kernel_rfl
 f6:=⟨ "slices.SortFunc[[]loop.example/g01311/impl.Note,loop.example/g01311/impl.Note]",by decide,Tryz.func199.trans (congrArg some (by kernel_rfl))⟩
 f14:=⟨ "slices.pdqsortCmpFunc[loop.example/g01311/impl.Note]",by decide,Tryz.func224.trans (congrArg some (by kernel_rfl))⟩
 f15:=Tryz.func225.trans (congrArg some (by kernel_rfl))
 f20:=⟨ "slices.insertionSortCmpFunc[loop.example/g01311/impl.Note]",by decide,Tryz.func235.trans (congrArg some (by kernel_rfl))⟩
 f21:=⟨ "slices.heapSortCmpFunc[loop.example/g01311/impl.Note]",by decide,Tryz.func236.trans (congrArg some (by kernel_rfl))⟩
 f22:=⟨ "slices.breakPatternsCmpFunc[loop.example/g01311/impl.Note]",by decide,Tryz.func237.trans (congrArg some (by kernel_rfl))⟩
 f23:=⟨ "slices.choosePivotCmpFunc[loop.example/g01311/impl.Note]",by decide,Tryz.func238.trans (congrArg some (by kernel_rfl))⟩
 f24:=⟨ "slices.reverseRangeCmpFunc[loop.example/g01311/impl.Note]",by decide,Tryz.func239.trans (congrArg some (by kernel_rfl))⟩
 f25:=⟨ "slices.partialInsertionSortCmpFunc[loop.example/g01311/impl.Note]",by decide,Tryz.func240.trans (congrArg some (by kernel_rfl))⟩
 f26:=⟨ "slices.partitionEqualCmpFunc[loop.example/g01311/impl.Note]",by decide,Tryz.func241.trans (congrArg some (by kernel_rfl))⟩
 f27:=⟨ "slices.partitionCmpFunc[loop.example/g01311/impl.Note]",by decide,Tryz.func242.trans (congrArg some (by kernel_rfl))⟩
 f28:=Tryz.func243.trans (congrArg some (by kernel_rfl))
 f29:=Tryz.func244.trans (congrArg some (by kernel_rfl))
 f46:=⟨ "slices.siftDownCmpFunc[loop.example/g01311/impl.Note]",by decide,Tryz.func250.trans (congrArg some (by kernel_rfl))⟩
 f47:=Tryz.func251.trans (congrArg some (by kernel_rfl))
 f48:=Tryz.func252.trans (congrArg some (by kernel_rfl))
 f49:=⟨ "slices.medianAdjacentCmpFunc[loop.example/g01311/impl.Note]",by decide,Tryz.func253.trans (congrArg some (by kernel_rfl))⟩
 f50:=⟨ "slices.medianCmpFunc[loop.example/g01311/impl.Note]",by decide,Tryz.func254.trans (congrArg some (by kernel_rfl))⟩
 f57:=⟨ "slices.order2CmpFunc[loop.example/g01311/impl.Note]",by decide,Tryz.func255.trans (congrArg some (by kernel_rfl))⟩
 t0:=Tryz.underlying0
 a0:=Tryz.isAgg0
 z0:=Tryz.sizeOf0
 v0:=Tryz.zeroValue0
 t3:=Tryz.underlying3
 a3:=Tryz.isAgg3
 z3:=Tryz.sizeOf3
 v3:=Tryz.zeroValue3
 t4:=Tryz.underlying4
 a4:=Tryz.isAgg4
 z4:=Tryz.sizeOf4
 v4:=Tryz.zeroValue4
 t5:=Tryz.underlying5
 a5:=Tryz.isAgg5
 z5:=Tryz.sizeOf5
 v5:=Tryz.zeroValue5
 t9:=Tryz.underlying9
 a9:=Tryz.isAgg9
 z9:=Tryz.sizeOf9
 v9:=Tryz.zeroValue9
 t22:=Tryz.underlying28
 a22:=Tryz.isAgg28
 z22:=Tryz.sizeOf28
 v22:=Tryz.zeroValue28
 t25:=Tryz.underlying245
 a25:=Tryz.isAgg245
 z25:=Tryz.sizeOf245
 v25:=Tryz.zeroValue245
 t39:=Tryz.underlying191
 a39:=Tryz.isAgg191
 z39:=Tryz.sizeOf191
 v39:=Tryz.zeroValue191
 t45:=Tryz.underlying268
 a45:=Tryz.isAgg268
 z45:=Tryz.sizeOf268
 v45:=Tryz.zeroValue268
 t46:=Tryz.underlying269
 a46:=Tryz.isAgg269
 z46:=Tryz.sizeOf269
 v46:=Tryz.zeroValue269
 t50:=Tryz.underlying273
 a50:=Tryz.isAgg273
 z50:=Tryz.sizeOf273
 v50:=Tryz.zeroValue273
 t53:=Tryz.underlying38
 a53:=Tryz.isAgg38
 z53:=Tryz.sizeOf38
 v53:=Tryz.zeroValue38
 t55:=Tryz.underlying48
 a55:=Tryz.isAgg48
 z55:=Tryz.sizeOf48
 v55:=Tryz.zeroValue48
 t66:=Tryz.underlying281
 a66:=Tryz.isAgg281
 z66:=Tryz.sizeOf281
 v66:=Tryz.zeroValue281
 t70:=Tryz.underlying284
 a70:=Tryz.isAgg284
 z70:=Tryz.sizeOf284
 v70:=Tryz.zeroValue284
 t76:=Tryz.underlying286
 a76:=Tryz.isAgg286
 z76:=Tryz.sizeOf286
 v76:=Tryz.zeroValue286
 t77:=Tryz.underlying287
 a77:=Tryz.isAgg287
 z77:=Tryz.sizeOf287
 v77:=Tryz.zeroValue287
def Fag(x0:List GNote):Option ((List GNote)):=sortF (fun a b=>Fak a b) x0
theorem Fag.calls(x0:List GNote)(w:World)(r:(List GNote))(x0_o:Option Nat){x0_on:Nat}{x0_c:Nat}{x0_sp:List Value}(x0_hn:x0.length=x0_on)(x0_hs:hS x0_o x0_on x0_c x0_sp 2)(x0_ho:hO x0_o x0 x0_c)(hm0:Mem w (bs [x0_o]) [⟨x0_o,101,row encGNote x0 x0_sp⟩] w)(h:Fag x0=some r):
   Calls Tryz.prog 199 #[(.slice (mB x0_o) x0_on x0_c),(.func (.func 200) #[] #[])] w fun e w'=>∃v,e= .returned v∧(r.length=x0_on∧(hO x0_o r x0_c)∧v= .tuple #[]∧Mem w (bs [x0_o]) [⟨x0_o,101,row encGNote r x0_sp⟩] w'):=by
 exact sort_calls lay_slices_SortFunc_Note_at_impl_compareNotes 2 Tryz.isAgg101 Tryz.sizeOf101 encGNote encGNote_len (fun x v hv=>by simp [encGNote] at hv;rcases hv with rfl | rfl<;>rfl) (fun a b=>Fak a b) 200 (enters_of Tryz.func200 (by kernel_rfl) rfl) (fun x y r w hxy=>Fak.calls (dsW:=⟨True⟩) x y w r hxy) 101 x0 w r x0_o x0_on x0_c x0_sp x0_hn x0_hs x0_ho hm0 (by rw [Fag] at h;exact h)
def Fw.k_1(s0:List GNote):Option ((List GNote)):=some s0
def Fw.k_9(xs_3:List GNote)(i_1:Int):Option ((Int)⊕((List GNote)⊕Unit)):=(if 0≤i_1∧i_1≤(xs_3.length:Int) then some (.inr (.inl (xs_3.take i_1.toNat))) else none)
def Fw.l_13(s0:List GNote)(i_0:Int):((List GNote)×Int×Int)→Option (((List GNote)×Int×Int)⊕(((List GNote)×Int)))
 | (xs_2,i_4,i_6)=>(if(decide (i_6<(((s0.length-i_0.toNat):Nat):Int)))=true then(ix (xs_2.drop i_0.toNat) i_6).bind fun x_02=>(ix (xs_2.drop i_0.toNat) (w64 (i_6-1))).bind fun x_03=>(if(!((x_02.fAt==x_03.fAt)&&(x_02.fPitch==x_03.fPitch)))=true then(ix (xs_2.drop i_0.toNat) i_6).bind fun x_00=>(ix xs_2 i_4).bind fun x_0i=>some (.inl ((xs_2.set i_4.toNat x_00),(w64 (i_4+1)),(w64 (i_6+1)))) else some (.inl (xs_2,i_4,(w64 (i_6+1))))) else some (.inr (xs_2,i_4)))
def Fw.l_3(s0:List GNote):Int→Option ((Int)⊕((List GNote)⊕Unit))
 | i_0=>(if(decide (i_0<(s0.length:Int)))=true then(ix s0 i_0).bind fun x_04=>(ix s0 (w64 (i_0-1))).bind fun x_05=>(if((x_04.fAt==x_05.fAt)&&(x_04.fPitch==x_05.fPitch))=true then(if 0≤i_0∧i_0≤(s0.length:Int) then(loop (Fw.l_13 s0 i_0) (s0,i_0,1)).bind fun t_06=>Fw.k_9 t_06.1 t_06.2 else none) else some (.inl (w64 (i_0+1)))) else some (.inr (.inr ())))
def Fw(s0:List GNote):Option ((List GNote)):=(if(decide ((s0.length:Int)<2))=true then some s0 else(loop (Fw.l_3 s0) 1).bind fun t_0d=>match t_0d with | .inl p=>some p | .inr p=>Fw.k_1 s0)
theorem Fw.calls(s0:List GNote)(w:World)(r:(List GNote))(A_o:Option Nat){A_on:Nat}{A_c:Nat}{A_sp:List Value}(A_hn:s0.length=A_on)(A_hs:hS A_o A_on A_c A_sp 2)(A_ho:hO A_o s0 A_c)(hm0:Mem w (bs [A_o]) [⟨A_o,101,row encGNote s0 A_sp⟩] w)(h:Fw s0=some r):
   Calls Tryz.prog 201 #[(.slice (mB A_o) A_on A_c)] w fun e w'=>∃v,e= .returned v∧(∃(o0:Option Nat) (c0:Nat) (s0:List Value) (n0:Nat),r.length=n0∧(hS o0 n0 c0 s0 2)∧(hO o0 r c0)∧v= .slice (mB o0) n0 c0∧Mem w (bs [A_o]) [⟨o0,101,row encGNote r s0⟩] w'):=by
 subst A_hn
 rw [Fw] at h
 refine enter (args:= [(.slice (mB A_o) s0.length A_c)]) Tryz.func201 rfl Tryz.ntmps201 (by kernel_rfl) (L:= [⟨A_o,101,row encGNote s0 A_sp⟩]) (W:=bs [A_o]) hm0 (jc_seq (jc_region (qh [0] (qe (jx_then (jc_seq (jc_seq (jc_region (qh [0,0,0] (qe (jx_then (qi h (fun h=> ?_) (fun h=> ?_)))))))))))))
 ·refine jc_seq (jc_region (qh [0,0] (qe (jx_then (jc_ret (jx_thenr ?_))))))
  obtain rfl:=si h
  exact qr [] (fun w hm=>⟨A_o,A_c,A_sp,s0.length,rfl,A_hs,A_ho,rfl,hm.pk [0]⟩)
 ·refine jc_skip (jx_then (jc_seq (jc_seq (jc_region (qh [0] (qe (jx_then (jc_meet (fun(_:Unit)=>Fw.k_1 s0=some r) (fun(_:Unit)=> [(0,[],(.slice (mB A_o) s0.length A_c)),(2,[],(.slice none 0 0))]) (fun(_:Unit)=> [⟨A_o,101,row encGNote s0 A_sp⟩]) ?_ ?_))))))))
  ·refine jc_block ?_
   obtain⟨t_0d,ht_0j,hr_0e⟩:=bd h
   refine jl (fun(i_0:Int) (_:Unit)=>True) (fun i_0 _=> [(0,[],(.slice (mB A_o) s0.length A_c)),(2,[],(.slice none 0 0)),(3,[],(vI i_0))]) (fun i_0 _=> [⟨A_o,101,row encGNote s0 A_sp⟩]) ht_0j () trivial [0] ?_
   rintro i_0 _ y_0f _ h
   rw [Fw.l_3] at h
   refine jc_seq (jc_seq (jc_region (qh [0,0,0,0] (qe (jx_then (qi h (fun h=> ?_) (fun h=> ?_)))))))
   ·refine jc_skip (jx_then (jc_seq (jc_block (jc_seq (qg [⟨A_o,101,row encGNote s0 A_sp⟩] 10 (qd [⟨0,0,0⟩,⟨1,0,0⟩,⟨4,0,0⟩,⟨5,0,0⟩,⟨6,0,0⟩] 5 [0] ?_))))))
    obtain⟨x_04,hx_07,h⟩:=bd h
    refine qX 2 0 [0] (mB A_o) 2 hx_07 rfl (spo A_ho hx_07) (qL 3 0 [0] true (fun w hm=>(hm.ow 0 A_o 101 s0 A_sp (fun e=>(A_ho e).1) encGNote_len).at hx_07) ?_)
    obtain⟨x_05,hx_08,h⟩:=bd h
    refine qX 7 0 [0] (mB A_o) 2 hx_08 rfl (spo A_ho hx_08) (qL 8 0 [0] true (fun w hm=>(hm.ow 0 A_o 101 s0 A_sp (fun e=>(A_ho e).1) encGNote_len).at hx_08) (qd [⟨9,0,0⟩] 0 [0] (qz (jx_then (qi h (fun h=> ?_) (fun h=> ?_))))))
    ·refine jc_seq (jc_region (qh [0,0] ?_))
     obtain⟨hg_0g,h⟩:=gd h
     refine tO (pK 0 (mB A_o) s0.length A_c 2 i_0 hg_0g.1 (Int.le_trans hg_0g.2 (Int.ofNat_le.2 (Nat.le_of_eq rfl))) (jkO (qh [0] (qe (jx_then (jc_seq (jc_seq (jc_region (qh [0] (qe (jx_then (jc_meet (fun(j:(List GNote)×Int)=>match j with | ⟨xs_3,i_1⟩=>Fw.k_9 xs_3 i_1=some y_0f∧(xs_3.length=s0.length)∧(hO A_o xs_3 A_c)) (fun⟨xs_3,i_1⟩=> [(0,[],(.slice (mB A_o) s0.length A_c)),(2,[],(.slice none 0 0)),(3,[],(vI i_1))]) (fun⟨xs_3,i_1⟩=> [⟨A_o,101,row encGNote xs_3 A_sp⟩]) ?_ ?_))))))))))))
     ·refine jc_block ?_
      obtain⟨t_06,ht_0k,hr_0l⟩:=bd h
      refine jl (fun(s:(List GNote)×Int×Int) (x:Unit)=>match s,x with | ⟨xs_2,i_4,i_6⟩,_=>(xs_2.length=s0.length)∧(hO A_o xs_2 A_c)) (fun⟨xs_2,i_4,i_6⟩ _=> [(0,[],(.slice (mB A_o) s0.length A_c)),(2,[],(.slice none 0 0)),(3,[],(vI i_4)),(4,[],(.slice (pa (mB A_o) i_0.toNat A_c 2) (s0.length-i_0.toNat) (A_c-i_0.toNat))),(5,[],(vI i_6))]) (fun⟨xs_2,i_4,i_6⟩ _=> [⟨A_o,101,row encGNote xs_2 A_sp⟩]) ht_0k () ⟨rfl,A_ho⟩ [0] ?_
      rintro⟨xs_2,i_4,i_6⟩ _ y_0q ⟨hn_8,ho_5⟩ h
      rw [Fw.l_13] at h
      refine jc_seq (jc_seq (jc_region (qh [0,0,0,0] (qe (jx_then (qi h (fun h=> ?_) (fun h=> ?_)))))))
      ·refine jc_skip (jx_then (jc_seq (jc_block (jc_seq (qg [⟨A_o,101,row encGNote xs_2 A_sp⟩] 10 (qd [⟨0,0,0⟩,⟨1,0,0⟩,⟨4,0,0⟩,⟨5,0,0⟩,⟨6,0,0⟩] 5 [0] ?_))))))
       obtain⟨x_02,hx_09,h⟩:=bd h
       refine qX 2 0 [0] (pa (mB A_o) i_0.toNat A_c 2) 2 hx_09 (tl_len hn_8 (i_0)) (spo_tl (o:=A_o) (m:=2) ho_5 hx_09) (qL 3 0 [0] true (fun w hm=>((hm.ow 0 A_o 101 xs_2 A_sp (fun e=>(ho_5 e).1) encGNote_len).tl i_0.toNat A_c (cap_le hn_8 A_hs ho_5)).at hx_09) ?_)
       obtain⟨x_03,hx_0a,h⟩:=bd h
       refine qX 7 0 [0] (pa (mB A_o) i_0.toNat A_c 2) 2 hx_0a (tl_len hn_8 (i_0)) (spo_tl (o:=A_o) (m:=2) ho_5 hx_0a) (qL 8 0 [0] true (fun w hm=>((hm.ow 0 A_o 101 xs_2 A_sp (fun e=>(ho_5 e).1) encGNote_len).tl i_0.toNat A_c (cap_le hn_8 A_hs ho_5)).at hx_0a) (qd [⟨9,0,0⟩] 0 [0] (qz (jx_then (qi h (fun h=> ?_) (fun h=> ?_))))))
       ·refine jc_seq (jc_region (qh [0,0,0,0] ?_))
        obtain⟨x_00,hx_0b,h⟩:=bd h
        refine tO (qx 0 (pa (mB A_o) i_0.toNat A_c 2) 2 hx_0b (tl_len hn_8 (i_0)) (spo_tl (o:=A_o) (m:=2) ho_5 hx_0b) (jkO (tO (ql 0 true (fun w hm=>(((hm.ow 0 A_o 101 xs_2 A_sp (fun e=>(ho_5 e).1) encGNote_len).tl i_0.toNat A_c (cap_le hn_8 A_hs ho_5)).at hx_0b)) (jkO ?_)))))
        obtain⟨x_0i,hx_0c,h⟩:=bd h
        exact tO (qx 0 (mB A_o) 2 hx_0c hn_8 (spo ho_5 hx_0c) (jkO (tO (pO 0 0 A_o 101 encGNote xs_2 A_sp i_4 x_00 2 0 [(vH x_00.fAt),(vB x_00.fPitch)] (fun e=>(ho_5 e).1) encGNote_len hx_0c (jkO (qe (jx_then (jc_region (qh [0,0,0] (qe (jx_inn (jx_then (jc_region (qh [0,0,0] (qe (qb ((xs_2.set i_4.toNat x_00),(w64 (i_4+1)),(w64 (i_6+1))) () h ⟨(List.length_set.trans hn_8),(set_ho ho_5)⟩ [0]))))))))))))))))
       ·exact jc_skip (jx_inn (jx_then (jc_region (qh [0,0,0] (qe (qb (xs_2,i_4,(w64 (i_6+1))) () h ⟨hn_8,ho_5⟩ [0]))))))
      ·refine jc_exit (jx_thenx (jx_leave (xs_2,i_4) (sj h) (fun e_0m=> ?_)))
       subst e_0m
       exact jx_ine (qm ⟨xs_2,i_4⟩ ⟨hr_0l,hn_8,ho_5⟩ [0])
     ·rintro⟨xs_3,i_1⟩ ⟨h,hn_9,ho_01⟩
      replace h:Fw.k_9 xs_3 i_1=some y_0f:=h
      rw [Fw.k_9] at h
      refine jx_then (jc_seq (jc_region (qh [0,0] ?_)))
      obtain⟨hg_7,h⟩:=gd h
      refine tO (pK 0 (mB A_o) s0.length A_c 2 i_1 hg_7.1 (Int.le_trans hg_7.2 (Int.ofNat_le.2 (Nat.le_of_eq hn_9))) (jkO (tO (jp_cut (hh:=0) (o:=A_o) (T:=101) (enc:=encGNote) (xs:=xs_3) (sp:=A_sp) i_1.toNat (by kernel_rfl) (pC 0 0 A_o 101 i_1.toNat i_1.toNat (s0.length-i_1.toNat) A_c 2 [(vH 0),(vB 0)] encGNote (xs_3.take i_1.toNat) ((xs_3.drop i_1.toNat).flatMap encGNote++A_sp) (hd_len hg_7) rfl encGNote_len (cut_hs encGNote_len (show i_1.toNat≤xs_3.length by have:=hg_7;omega) hn_9 A_hs) (cut_ho i_1.toNat ho_01) (by have:=(cap_le hn_9 A_hs ho_01);have:xs_3.length=s0.length:=hn_9;omega) (fun sp_0n hl_0h=>jkO (qe (jx_then (jc_seq (jc_region (qh [0,0] (tO (p_slH 0 (mB A_o) s0.length A_c 2 i_1 (by kernel_rfl) (by kernel_rfl) hg_7.1 (by have h1:=(cap_le (hd_len hg_7) (fun e=>⟨((cut_hs encGNote_len (show i_1.toNat≤xs_3.length by have:=hg_7;omega) hn_9 A_hs) e).1,hl_0h.trans ((cut_hs encGNote_len (show i_1.toNat≤xs_3.length by have:=hg_7;omega) hn_9 A_hs) e).2⟩) (cut_ho i_1.toNat ho_01));have h2:=(hd_len hg_7);omega) (jkO (qh [0] (qe (jx_then (jc_ret (jx_inr (jx_thenr (jx_leaver (.inl (xs_3.take i_1.toNat)) (sj h) (fun e_0o=> ?_))))))))))))))))))))))
      subst e_0o
      refine jx_inr (jx_thenr (jx_thenr ?_))
      obtain rfl:=si hr_0e
      exact qr [] (fun w hm=>⟨A_o,A_c,sp_0n,i_1.toNat,(hd_len hg_7),(fun e=>⟨((cut_hs encGNote_len (show i_1.toNat≤xs_3.length by have:=hg_7;omega) hn_9 A_hs) e).1,hl_0h.trans ((cut_hs encGNote_len (show i_1.toNat≤xs_3.length by have:=hg_7;omega) hn_9 A_hs) e).2⟩),(cut_ho i_1.toNat ho_01),rfl,hm.pk [0]⟩)
    ·exact jc_skip (jx_inn (jx_then (jc_region (qh [0,0,0] (qe (qb (w64 (i_0+1)) () h trivial [0]))))))
   ·refine jc_exit (jx_thenx (jx_leave (.inr ()) (sj h) (fun e_0p=> ?_)))
    subst e_0p
    exact jx_ine (qm () hr_0e [0])
  ·rintro _ h
   replace h:Fw.k_1 s0=some r:=h
   rw [Fw.k_1] at h
   refine jx_then (jc_seq (jc_region (qh [0,0] (qe (jx_then (jc_ret ?_))))))
   obtain rfl:=si h
   exact qr [] (fun w hm=>⟨A_o,A_c,A_sp,s0.length,rfl,A_hs,A_ho,rfl,hm.pk [0]⟩)
def Fbt(list0:List GNote):Option ((List GNote)):=(Fbj list0).bind fun t_1=>(Fag t_1).bind fun t_0=>(Fw t_0).bind fun t_2=>some t_2
theorem Fbt.calls(list0:List GNote)(w:World)(r:(List GNote)){A_a:Option Addr}{A_an:Nat}(A_c:Nat)(A_h:Rw w A_a 2 encGNote list0)(A_hn:list0.length=A_an)(h:Fbt list0=some r):
   Calls Tryz.prog 146 #[(.slice A_a A_an A_c)] w fun e w'=>∃v,e= .returned v∧(∃(o0:Option Nat) (c0:Nat) (s0:List Value) (n0:Nat),r.length=n0∧(hS o0 n0 c0 s0 2)∧(hO o0 r c0)∧v= .slice (mB o0) n0 c0∧Mem w [] [⟨o0,101,row encGNote r s0⟩] w'):=by
 subst A_hn
 rw [Fbt] at h
 refine en Tryz.func146 rfl Tryz.ntmps146 (jc_seq (jc_region (qh [0] (qe (jx_then (jc_seq (jc_region (qh [0] ?_))))))))
 obtain⟨t_1,ht_1,h⟩:=bd h
 refine tO (pc 0 (fun w hm=>Fbj.calls list0 w _ A_c (hm.xr A_h) rfl ht_1) ?_)
 rintro w v w' hm ⟨o_0,cap_2,sp_3,_,rfl,hs_4,ho_7,rfl,hm'⟩
 refine aq hm hm' (jkO (qh [0] (qe (jx_then (jc_seq (jc_region (qh [0] ?_)))))))
 obtain⟨t_0,ht_8,h⟩:=bd h
 refine tO (pc 0 (fun w hm=>Fag.calls t_1 w _ o_0 rfl hs_4 ho_7 (hm.ps (N:= [⟨o_0,101,row encGNote t_1 sp_3⟩]) [0]) ht_8) ?_)
 rintro w v w' hm ⟨hn_9,ho_00,rfl,hm'⟩
 refine⟨_,hm.appW (ps:= [(0,⟨o_0,101,row encGNote t_0 sp_3⟩)]) (N:= []) hm' (by kernel_rfl) (by kernel_rfl),jkO ?_⟩
 clear hm hm'
 refine qe (jx_then (jc_seq (jc_region (qh [0] ?_))))
 obtain⟨t_2,ht_01,h⟩:=bd h
 refine tO (pc 0 (fun w hm=>Fw.calls t_0 w _ o_0 hn_9 hs_4 ho_00 (hm.ps (N:= [⟨o_0,101,row encGNote t_0 sp_3⟩]) [0]) ht_01) ?_)
 rintro w v w' hm ⟨o_5,cap_02,sp_6,_,rfl,hs_03,ho_04,rfl,hm'⟩
 refine⟨_,hm.appP (ps:= []) (ds:= [0]) (N:= [⟨o_5,101,row encGNote t_2 sp_6⟩]) hm' [0] (by kernel_rfl) (by kernel_rfl) (by kernel_rfl),jkO ?_⟩
 clear hm hm'
 refine qh [0] (qe (jx_then (jc_ret ?_)))
 obtain rfl:=si h
 exact qr [] (fun w hm=>⟨o_5,cap_02,sp_6,t_2.length,rfl,hs_03,ho_04,rfl,hm.pk [1]⟩)
def FaN(f0:GFrame)(d1:Arr 96 Int)(from2:Int)(steps3:Int):Option ((List GNote)):=(Fe f0 d1 from2 steps3 ([]:List GNote) f0).bind fun t_0=>(Fbt t_0).bind fun t_1=>some t_1
theorem FaN.calls(f0:GFrame)(d1:Arr 96 Int)(from2:Int)(steps3:Int)(w:World)(r:(List GNote)){C_a:Option Addr}{C_an:Nat}(C_c:Nat)(C_h:Rw w C_a 2 encGHammer f0.fHammers)(C_hn:f0.fHammers.length=C_an)(h:FaN f0 d1 from2 steps3=some r):
   Calls Tryz.prog 75 #[(.agg #[(vH f0.fSteps),(.slice C_a C_an C_c)]),(.agg (row encU32 d1.1 []).toArray),(vI from2),(vI steps3)] w fun e w'=>∃v,e= .returned v∧(∃(o0:Option Nat) (c0:Nat) (s0:List Value) (n0:Nat),r.length=n0∧(hS o0 n0 c0 s0 2)∧(hO o0 r c0)∧v= .slice (mB o0) n0 c0∧Mem w [] [⟨o0,101,row encGNote r s0⟩] w'):=by
 subst C_hn
 rw [FaN] at h
 refine en Tryz.func75 rfl Tryz.ntmps75 (jc_seq (jc_region (tO (qa 0 (fun b_0=>jkO (tO (qa 0 (fun b_1=>jkO (tO (qa 0 (fun b_3=>jkO (tO (qa 0 (fun b_4=>jkO (qh [0] (qe (jx_then (jc_seq (jc_region (tO (qa 0 (fun b_6=>jkO (tO (qa 0 (fun b_5=>jkO (tO (qs 0 [5] (jkO (qe (jx_then (jc_seq (jc_region (qh [0] (tO (pL 0 1 b_1 96 1 40 encU32 d1 encU32_len (jkO (qh [0] ?_)))))))))))))))))))))))))))))))))))))
 obtain⟨t_0,ht_9,h⟩:=bd h
 refine tO (pc 0 (fun w hm=>Fe.calls f0 d1 from2 steps3 ([]:List GNote) f0 w _ C_c (hm.xr C_h) rfl C_c (hm.xr C_h) rfl b_3 b_4 b_5 (some b_6) rfl (fun _=>⟨Nat.le_refl _,by simp⟩) (fun e=>nomatch e) b_0 (hm.ps (N:= [⟨some b_3,2,[(vI from2)]⟩,⟨some b_4,2,[(vI steps3)]⟩,⟨some b_5,28,[(.slice (sB b_6) 0 0)]⟩,⟨(some b_6),101,row encGNote ([]:List GNote) []⟩,⟨some b_0,27,[(vH f0.fSteps),(.slice C_a f0.fHammers.length C_c)]⟩]) [2,3,5,4,0]) (hm.xp C_h (fun _=>List.not_mem_nil) [2,3,5,4,0]) (hm.xp C_h (fun _=>List.not_mem_nil) [2,3,5,4,0]) ht_9) ?_)
 rintro w v w' hm ⟨o_2,cap_7,sp_8,_,rfl,hs_07,ho_00,rfl,hm'⟩
 refine⟨_,Mem.pick (hm.appP (ps:= [(2,⟨some b_3,2,[(vI from2)]⟩),(3,⟨some b_4,2,[(vI steps3)]⟩),(5,⟨some b_5,28,[(.slice (mB o_2) t_0.length cap_7)]⟩),(0,⟨some b_0,27,[(vH f0.fSteps),(.slice C_a f0.fHammers.length C_c)]⟩)]) (ds:= [4]) (N:= [⟨o_2,101,row encGNote t_0 sp_8⟩]) hm' [0,1,2,4,3] (by kernel_rfl) (by kernel_rfl) (by kernel_rfl)) (N:= [⟨some b_0,27,[(vH f0.fSteps),(.slice C_a f0.fHammers.length C_c)]⟩,⟨(some b_1),40,row encU32 d1.1 []⟩,⟨some b_3,2,[(vI from2)]⟩,⟨some b_4,2,[(vI steps3)]⟩,⟨o_2,101,row encGNote t_0 sp_8⟩,⟨some b_5,28,[(.slice (mB o_2) t_0.length cap_7)]⟩]) [0,1,2,3,6,5] (by kernel_rfl) (by kernel_rfl),jkO ?_⟩
 clear hm hm'
 refine qe (jx_then (jc_seq (jc_region (qh [5] ?_))))
 obtain⟨t_1,ht_01,h⟩:=bd h
 refine tO (pc 0 (fun w hm=>Fbt.calls t_0 w _ cap_7 (hm.ow 4 o_2 101 t_0 sp_8 (fun e=>(ho_00 e).1) encGNote_len) rfl ht_01) ?_)
 rintro w v w' hm ⟨o_02,cap_03,sp_04,_,rfl,hs_05,ho_06,rfl,hm'⟩
 refine aq hm hm' (jkO (qh [0] (qe (jx_then (jc_ret ?_)))))
 obtain rfl:=si h
 exact qr [] (fun w hm=>⟨o_02,cap_03,sp_04,t_1.length,rfl,hs_05,ho_06,rfl,hm.pk [6]⟩)
def Fbm(f0:GFrame)(t1:List GNote)(list2:List GChoice):Option ((List GNote)×Int):=(Fbh f0 t1 list2).bind fun t_0=>(if(t_0.2 !=0)=true then some ([],t_0.2) else(FaN f0 t_0.1 0 (w64 f0.fSteps)).bind fun t_1=>some (t_1,0))
theorem Fbm.calls(f0:GFrame)(t1:List GNote)(list2:List GChoice)(w:World)(r:(List GNote)×Int){C_a:Option Addr}{C_an:Nat}(C_c:Nat)(C_h:Rw w C_a 2 encGHammer f0.fHammers)(C_hn:f0.fHammers.length=C_an){D_a:Option Addr}{D_an:Nat}(D_c:Nat)(D_h:Rw w D_a 2 encGNote t1)(D_hn:t1.length=D_an){E_a:Option Addr}{E_an:Nat}(E_c:Nat)(E_h:Rw w E_a 4 encGChoice list2)(E_hn:list2.length=E_an)(h:Fbm f0 t1 list2=some r):
   Calls Tryz.prog 13 #[(.agg #[(vH f0.fSteps),(.slice C_a C_an C_c)]),(.slice D_a D_an D_c),(.slice E_a E_an E_c)] w fun e w'=>∃v,e= .returned v∧(∃(o0:Option Nat) (c0:Nat) (s0:List Value) (n0:Nat),r.1.length=n0∧(hS o0 n0 c0 s0 2)∧(hO o0 r.1 c0)∧v= .tuple #[.slice (mB o0) n0 c0,(vI r.2)]∧Mem w [] [⟨o0,101,row encGNote r.1 s0⟩] w'):=by
 subst C_hn D_hn E_hn
 rw [Fbm] at h
 refine en Tryz.func13 rfl Tryz.ntmps13 (jc_seq (jc_region (tO (qa 0 (fun b_0=>jkO (qh [0,0] (qe (jx_then (jc_seq (jc_region (qh [0,0,0] ?_)))))))))))
 obtain⟨t_0,ht_1,h⟩:=bd h
 refine tO (pq 0 (fun w hm=>Fbh.calls f0 t1 list2 w _ C_c (hm.xr C_h) rfl D_c (hm.xr D_h) rfl E_c (hm.xr E_h) rfl ht_1) (jkO (qh [0,0,0] (tO (qa 0 (fun b_2=>jkO (tO (pS 0 1 b_2 96 1 40 encU32 (Arr.rep 96 0) t_0.1 encU32_len encU32_cell (jkO (qh [0] (qe (jx_then (jc_seq (jc_seq (jc_region (qh [0,0] (qe (jx_then (qi h (fun h=> ?_) (fun h=> ?_))))))))))))))))))))
 ·refine jc_seq (jc_region (qh [0,0,0] (qe (jx_then (jc_ret (jx_thenr ?_))))))
  obtain rfl:=si h
  exact jx_ghost 101 encGNote (qr [] (fun w hm=>⟨none,0,[],0,rfl,(fun e=>absurd rfl e),(fun _=>⟨rfl,rfl⟩),rfl,hm.pk [2]⟩))
 ·refine jc_skip (jx_then (jc_seq (jc_region (qh [0] (tO (pL 0 1 b_2 96 1 40 encU32 t_0.1 encU32_len (jkO (qh [0,0,0] ?_))))))))
  obtain⟨t_1,ht_3,h⟩:=bd h
  refine tO (pc 0 (fun w hm=>FaN.calls f0 t_0.1 0 (w64 f0.fSteps) w _ C_c (hm.xr C_h) rfl ht_3) ?_)
  rintro w v w' hm ⟨o_4,cap_5,sp_6,_,rfl,hs_7,ho_8,rfl,hm'⟩
  refine aq hm hm' (jkO (qh [0,0] (qe (jx_then (jc_ret ?_)))))
  obtain rfl:=si h
  exact qr [] (fun w hm=>⟨o_4,cap_5,sp_6,t_1.length,rfl,hs_7,ho_8,rfl,hm.pk [2]⟩)
def FK.k_1:Option (Bool):=some true
def FK.k_7(i_0:Int)(q_1:Bool):Option ((Int)⊕(Bool⊕Unit)):=(if q_1=true then some (.inr (.inl false)) else some (.inl (w64 (i_0+1))))
def FK.l_3(f0:GFrame)(d1:Arr 96 Int):Int→Option ((Int)⊕(Bool⊕Unit))
 | i_0=>(if(decide (i_0<96))=true then(ix d1.1 i_0).bind fun x_2=>(if 0≤(f0.fHammers.length:Int) then(if((bShr .u32 x_2 (f0.fHammers.length:Int)) !=0)=true then FK.k_7 i_0 true else FK.k_7 i_0 ((decide (i_0≥(w64 f0.fSteps)))&&(x_2 !=0))) else none) else some (.inr (.inr ())))
def FK(f0:GFrame)(d1:Arr 96 Int):Option (Bool):=(loop (FK.l_3 f0 d1) 0).bind fun t_4=>match t_4 with | .inl p=>some p | .inr p=>FK.k_1
theorem FK.calls(f0:GFrame)(d1:Arr 96 Int)(w:World)(r:Bool){C_a:Option Addr}{C_an:Nat}(C_c:Nat)(C_h:Rw w C_a 2 encGHammer f0.fHammers)(C_hn:f0.fHammers.length=C_an)(h:FK f0 d1=some r):
   Calls Tryz.prog 149 #[(.agg #[(vH f0.fSteps),(.slice C_a C_an C_c)]),(.agg (row encU32 d1.1 []).toArray)] w fun e w'=>∃v,e= .returned v∧(v=(.bool r)∧Mem w [] [] w'):=by
 subst C_hn
 rw [FK] at h
 refine en Tryz.func149 rfl Tryz.ntmps149 (jc_seq (jc_region (tO (qa 0 (fun b_3=>jkO (tO (qa 0 (fun b_0=>jkO (qh [0] (qe (jx_then (jc_seq (jc_seq (jc_region (tO (pL 0 1 b_0 96 1 40 encU32 d1 encU32_len (jkO (qh [0] (qe (jx_then (jc_meet (fun(_:Unit)=>FK.k_1=some r) (fun(_:Unit)=> [(4,[],(.bool false))]) (fun(_:Unit)=> [⟨some b_3,27,[(vH f0.fSteps),(.slice C_a f0.fHammers.length C_c)]⟩,⟨(some b_0),40,row encU32 d1.1 []⟩]) ?_ ?_)))))))))))))))))))))
 ·refine jc_block ?_
  obtain⟨t_4,ht_7,hr_5⟩:=bd h
  refine jl (fun(i_0:Int) (_:Unit)=>True) (fun i_0 _=> [(2,[],(vP b_3)),(4,[],(.bool false)),(7,[],(.agg (row encU32 d1.1 []).toArray)),(8,[],(vI i_0))]) (fun i_0 _=> [⟨some b_3,27,[(vH f0.fSteps),(.slice C_a f0.fHammers.length C_c)]⟩,⟨(some b_0),40,row encU32 d1.1 []⟩]) ht_7 () trivial [0,1] ?_
  rintro i_0 _ y_6 _ h
  rw [FK.l_3] at h
  refine jc_seq (jc_region (qh [0] (qe (jx_then (jc_seq (qi h (fun h=> ?_) (fun h=> ?_)))))))
  ·refine jc_skip (jx_then (jc_seq (jc_block (jc_seq (jc_region (qh [0] ?_))))))
   obtain⟨x_2,hx_8,h⟩:=bd h
   refine tO (pX 0 encU32 (fun x=>(vU x)) d1 i_0 (fun _=>rfl) hx_8 (jkO (qh [0,0] (qe (jx_then (jc_seq (jc_meet (fun(q_1:Bool)=>FK.k_7 i_0 q_1=some y_6) (fun q_1=> [(2,[],(vP b_3)),(4,[],(.bool false)),(7,[],(.agg (row encU32 d1.1 []).toArray)),(8,[],(vI i_0)),(28,[],(.bool q_1))]) (fun q_1=> [⟨some b_3,27,[(vH f0.fSteps),(.slice C_a f0.fHammers.length C_c)]⟩,⟨(some b_0),40,row encU32 d1.1 []⟩]) ?_ ?_)))))))
   ·refine jc_region (qh [0,0,0,0] ?_)
    obtain⟨hg_9,h⟩:=gd h
    refine tO (pW 0 .u32 x_2 .i64 (f0.fHammers.length:Int) hg_9 (jkO (qf [(0,0),(0,0),(0,1),(0,1),(0,1),(0,1),(0,1)] (qp 18 h (fun h=> ?_) (fun h=> ?_)))))
    ·exact qf [(0,3),(0,3),(0,3),(0,3),(0,4)] (qe (qm true h [0,1]))
    ·exact qf [(0,2),(0,1),(0,1),(0,2),(0,5)] (qe (qm ((decide (i_0≥(w64 f0.fSteps)))&&(x_2 !=0)) h [0,1]))
   ·rintro q_1 h
    replace h:FK.k_7 i_0 q_1=some y_6:=h
    rw [FK.k_7] at h
    refine jx_then (qi h (fun h=> ?_) (fun h=> ?_))
    ·refine jc_seq (jc_region (qh [0] (qe (jx_then (jc_ret (jx_inr (jx_thenr (jx_leaver (.inl false) (sj h) (fun e_00=> ?_)))))))))
     subst e_00
     refine jx_inr (jx_thenr (jx_thenr ?_))
     obtain rfl:=si hr_5
     exact qr [] (fun w hm=>⟨rfl,hm.pk []⟩)
    ·exact jc_skip (jx_inn (jx_then (jc_region (qh [0,0] (qe (qb (w64 (i_0+1)) () h trivial [0,1]))))))
  ·refine jc_exit (jx_thenx (jx_leave (.inr ()) (sj h) (fun e_01=> ?_)))
   subst e_01
   exact jx_ine (qm () hr_5 [0,1])
 ·rintro _ h
  replace h:FK.k_1=some r:=h
  rw [FK.k_1] at h
  refine jx_then (jc_seq (jc_region (qh [0] (qe (jx_then (jc_ret ?_))))))
  obtain rfl:=si h
  exact qr [] (fun w hm=>⟨rfl,hm.pk []⟩)
def Fbv(d0:Arr 96 Int)(p1:GFrame):Option (Bool):=(FK p1 d0).bind fun t_0=>some (!t_0)
theorem Fbv.calls(d0:Arr 96 Int)(p1:GFrame)(w:World)(r:Bool){D_a:Option Addr}{D_an:Nat}(D_c:Nat)(D_h:Rw w D_a 2 encGHammer p1.fHammers)(D_hn:p1.fHammers.length=D_an)(B_b:Nat)(hm0:Mem w (bs [some B_b]) [⟨some B_b,27,[(vH p1.fSteps),(.slice D_a D_an D_c)]⟩] w)(D_ha:p1.fHammers≠ []→aB D_a∉bs [some B_b])(h:Fbv d0 p1=some r):
   Calls Tryz.prog 148 #[(.agg (row encU32 d0.1 []).toArray),(vP B_b)] w fun e w'=>∃v,e= .returned v∧(v=(.bool r)∧Mem w (bs [some B_b]) [⟨some B_b,27,[(vH p1.fSteps),(.slice D_a D_an D_c)]⟩] w'):=by
 subst D_hn
 rw [Fbv] at h
 refine enter (args:= [(.agg (row encU32 d0.1 []).toArray),(vP B_b)]) Tryz.func148 rfl Tryz.ntmps148 (by kernel_rfl) (L:= [⟨some B_b,27,[(vH p1.fSteps),(.slice D_a p1.fHammers.length D_c)]⟩]) (W:=bs [some B_b]) hm0 (jc_seq (jc_region (tO (qa 0 (fun b_0=>jkO (qh [0] (qe (jx_then (jc_seq (jc_region (qh [0] (tO (pL 0 1 b_0 96 1 40 encU32 d0 encU32_len (jkO ?_))))))))))))))
 obtain⟨t_0,ht_1,h⟩:=bd h
 refine tO (pq 0 (fun w hm=>FK.calls p1 d0 w _ D_c (hm.exRowW D_h D_ha) rfl ht_1) (jkO (qh [0,0] (qe (jx_then (jc_ret ?_))))))
 obtain rfl:=si h
 exact qr [] (fun w hm=>⟨rfl,hm.pk [0]⟩)
def Ft.k_1:Option (Int):=some (-1)
def Ft.l_3(s0:List (Arr 96 Int))(g1c0:GFrame):Int→Option ((Int)⊕(Int⊕Unit))
 | i_0=>(if(decide (i_0<(s0.length:Int)))=true then(ix s0 i_0).bind fun x_1=>(Fbv x_1 g1c0).bind fun t_3=>(if t_3=true then some (.inr (.inl i_0)) else some (.inl (w64 (i_0+1)))) else some (.inr (.inr ())))
def Ft(s0:List (Arr 96 Int))(g1c0:GFrame):Option (Int):=(loop (Ft.l_3 s0 g1c0) 0).bind fun t_4=>match t_4 with | .inl p=>some p | .inr p=>Ft.k_1
theorem Ft.calls(s0:List (Arr 96 Int))(g1c0:GFrame)(w:World)(r:Int){A_a:Option Addr}{A_an:Nat}(A_c:Nat)(A_h:Rw w A_a 96 encA96U32 s0)(A_hn:s0.length=A_an){D_a:Option Addr}{D_an:Nat}(D_c:Nat)(D_h:Rw w D_a 2 encGHammer g1c0.fHammers)(D_hn:g1c0.fHammers.length=D_an)(B_b:Nat)(hm0:Mem w (bs [some B_b]) [⟨some B_b,27,[(vH g1c0.fSteps),(.slice D_a D_an D_c)]⟩] w)(A_ha:s0≠ []→aB A_a∉bs [some B_b])(D_ha:g1c0.fHammers≠ []→aB D_a∉bs [some B_b])(h:Ft s0 g1c0=some r):
   Calls Tryz.prog 202 #[(.slice A_a A_an A_c),(.func (.func 148) #[] #[(vP B_b)])] w fun e w'=>∃v,e= .returned v∧(v=(vI r)∧Mem w (bs [some B_b]) [⟨some B_b,27,[(vH g1c0.fSteps),(.slice D_a D_an D_c)]⟩] w'):=by
 subst A_hn D_hn
 rw [Ft] at h
 refine enter (args:= [(.slice A_a s0.length A_c),(.func (.func 148) #[] #[(vP B_b)])]) Tryz.func202 rfl Tryz.ntmps202 (by kernel_rfl) (L:= [⟨some B_b,27,[(vH g1c0.fSteps),(.slice D_a g1c0.fHammers.length D_c)]⟩]) (W:=bs [some B_b]) hm0 (jc_seq (jc_region (qh [0] (qe (jx_then (jc_seq (jc_seq (jc_region (qh [0,0,0] (qe (jx_then (jc_meet (fun(_:Unit)=>Ft.k_1=some r) (fun(_:Unit)=> [(4,[],(vI 0))]) (fun(_:Unit)=> [⟨some B_b,27,[(vH g1c0.fSteps),(.slice D_a g1c0.fHammers.length D_c)]⟩]) ?_ ?_))))))))))))
 ·refine jc_block ?_
  obtain⟨t_4,ht_6,hr_5⟩:=bd h
  refine jl (fun(i_0:Int) (_:Unit)=>True) (fun i_0 _=> [(0,[],(.slice A_a s0.length A_c)),(1,[],(.func (.func 148) #[] #[(vP B_b)])),(4,[],(vI 0)),(7,[],(vI (s0.length:Int))),(8,[],(vI i_0))]) (fun i_0 _=> [⟨some B_b,27,[(vH g1c0.fSteps),(.slice D_a g1c0.fHammers.length D_c)]⟩]) ht_6 () trivial [0] ?_
  rintro i_0 _ y_00 _ h
  rw [Ft.l_3] at h
  refine jc_seq (jc_region (qh [0] (qe (jx_then (jc_seq (qi h (fun h=> ?_) (fun h=> ?_)))))))
  ·refine jc_skip (jx_then (jc_seq (jc_block (jc_seq (jc_region (qh [0,0] (qe (jx_then (jc_seq (jc_region (qh [0,0,0] ?_)))))))))))
   obtain⟨x_1,hx_2,h⟩:=bd h
   refine tO (qx 0 A_a 96 hx_2 rfl (A_h.sp hx_2) (jkO (tO (p_ldx 0 (aB A_a) (aO A_a+i_0.toNat*96) (encA96U32 x_1) 96 (by kernel_rfl) (by kernel_rfl) (encA96U32_len x_1) (fun w hm=>((hm.exRowW A_h A_ha).at hx_2)) (jkO ?_)))))
   obtain⟨t_3,ht_7,h⟩:=bd h
   refine tO (pc 0 (fun w hm=>Fbv.calls x_1 g1c0 w _ D_c (hm.exRowW D_h D_ha) rfl B_b (hm.ps [0]) (hm.xp D_h D_ha [0]) ht_7) ?_)
   rintro w v w' hm ⟨rfl,hm'⟩
   refine⟨_,hm.appW (ps:= [(0,⟨some B_b,27,[(vH g1c0.fSteps),(.slice D_a g1c0.fHammers.length D_c)]⟩)]) (N:= []) hm' (by kernel_rfl) (by kernel_rfl),jkO ?_⟩
   clear hm hm'
   refine qe (jx_then (qi h (fun h=> ?_) (fun h=> ?_)))
   ·refine jc_seq (jc_region (qh [0,0] (qe (jx_then (jc_ret (jx_inr (jx_thenr (jx_leaver (.inl i_0) (sj h) (fun e_8=> ?_)))))))))
    subst e_8
    refine jx_inr (jx_thenr (jx_thenr ?_))
    obtain rfl:=si hr_5
    exact qr [] (fun w hm=>⟨rfl,hm.pk [0]⟩)
   ·exact jc_skip (jx_inn (jx_then (jc_region (qh [0,0] (qe (qb (w64 (i_0+1)) () h trivial [0]))))))
  ·refine jc_exit (jx_thenx (jx_leave (.inr ()) (sj h) (fun e_9=> ?_)))
   subst e_9
   exact jx_ine (qm () hr_5 [0])
 ·rintro _ h
  replace h:Ft.k_1=some r:=h
  rw [Ft.k_1] at h
  refine jx_then (jc_seq (jc_region (qh [0] (qe (jx_then (jc_ret ?_))))))
  obtain rfl:=si h
  exact qr [] (fun w hm=>⟨rfl,hm.pk [0]⟩)
def F4(s0:List (Arr 96 Int))(g1c0:GFrame):Option (Bool):=(Ft s0 g1c0).bind fun t_0=>some (decide (t_0≥0))
theorem F4.calls(s0:List (Arr 96 Int))(g1c0:GFrame)(w:World)(r:Bool){A_a:Option Addr}{A_an:Nat}(A_c:Nat)(A_h:Rw w A_a 96 encA96U32 s0)(A_hn:s0.length=A_an){D_a:Option Addr}{D_an:Nat}(D_c:Nat)(D_h:Rw w D_a 2 encGHammer g1c0.fHammers)(D_hn:g1c0.fHammers.length=D_an)(B_b:Nat)(hm0:Mem w (bs [some B_b]) [⟨some B_b,27,[(vH g1c0.fSteps),(.slice D_a D_an D_c)]⟩] w)(A_ha:s0≠ []→aB A_a∉bs [some B_b])(D_ha:g1c0.fHammers≠ []→aB D_a∉bs [some B_b])(h:F4 s0 g1c0=some r):
   Calls Tryz.prog 147 #[(.slice A_a A_an A_c),(.func (.func 148) #[] #[(vP B_b)])] w fun e w'=>∃v,e= .returned v∧(v=(.bool r)∧Mem w (bs [some B_b]) [⟨some B_b,27,[(vH g1c0.fSteps),(.slice D_a D_an D_c)]⟩] w'):=by
 subst A_hn D_hn
 rw [F4] at h
 refine enter (args:= [(.slice A_a s0.length A_c),(.func (.func 148) #[] #[(vP B_b)])]) Tryz.func147 rfl Tryz.ntmps147 (by kernel_rfl) (L:= [⟨some B_b,27,[(vH g1c0.fSteps),(.slice D_a g1c0.fHammers.length D_c)]⟩]) (W:=bs [some B_b]) hm0 (jc_seq (jc_region (qh [0] (qe (jx_then (jc_seq (jc_region (qh [0,0] ?_))))))))
 obtain⟨t_0,ht_0,h⟩:=bd h
 refine tO (pc 0 (fun w hm=>Ft.calls s0 g1c0 w _ A_c (hm.exRowW A_h A_ha) rfl D_c (hm.exRowW D_h D_ha) rfl B_b (hm.ps [0]) (hm.xp A_h A_ha [0]) (hm.xp D_h D_ha [0]) ht_0) ?_)
 rintro w v w' hm ⟨rfl,hm'⟩
 refine⟨_,hm.appW (ps:= [(0,⟨some B_b,27,[(vH g1c0.fSteps),(.slice D_a g1c0.fHammers.length D_c)]⟩)]) (N:= []) hm' (by kernel_rfl) (by kernel_rfl),jkO ?_⟩
 clear hm hm'
 refine qh [0,0] (qe (jx_then (jc_ret ?_)))
 obtain rfl:=si h
 exact qr [] (fun w hm=>⟨rfl,hm.pk [0]⟩)
def FaO(f0:GFrame)(list1:List (Arr 96 Int)):Option (Int):=(FaK f0).bind fun t_0=>(if t_0=true then(F4 list1 f0).bind fun t_1=>(FQ (!t_1) 1).bind fun t_3=>some t_3 else(FQ false 1).bind fun t_2=>some t_2)
theorem FaO.calls(f0:GFrame)(list1:List (Arr 96 Int))(w:World)(r:Int){C_a:Option Addr}{C_an:Nat}(C_c:Nat)(C_h:Rw w C_a 2 encGHammer f0.fHammers)(C_hn:f0.fHammers.length=C_an){D_a:Option Addr}{D_an:Nat}(D_c:Nat)(D_h:Rw w D_a 96 encA96U32 list1)(D_hn:list1.length=D_an)(h:FaO f0 list1=some r):
   Calls Tryz.prog 76 #[(.agg #[(vH f0.fSteps),(.slice C_a C_an C_c)]),(.slice D_a D_an D_c)] w fun e w'=>∃v,e= .returned v∧(v=(vI r)∧Mem w [] [] w'):=by
 subst C_hn D_hn
 rw [FaO] at h
 refine en Tryz.func76 rfl Tryz.ntmps76 (jc_seq (jc_region (tO (qa 0 (fun b_0=>jkO (qh [0] (qe (jx_then (jc_seq (jc_region (qh [0] ?_)))))))))))
 obtain⟨t_0,ht_1,h⟩:=bd h
 refine tO (pq 0 (fun w hm=>FaK.calls f0 w _ C_c (hm.xr C_h) rfl ht_1) (jkO (qf [(0,0),(0,1),(0,1)] (qp 7 h (fun h=> ?_) (fun h=> ?_)))))
 ·obtain⟨t_1,ht_2,h⟩:=bd h
  refine tO (pc 2 (fun w hm=>F4.calls list1 f0 w _ D_c (hm.xr D_h) rfl C_c (hm.xr C_h) rfl b_0 (hm.ps [0]) (hm.xp D_h (fun _=>List.not_mem_nil) [0]) (hm.xp C_h (fun _=>List.not_mem_nil) [0]) ht_2) ?_)
  rintro w v w' hm ⟨rfl,hm'⟩
  refine⟨_,hm.appW (ps:= [(0,⟨some b_0,27,[(vH f0.fSteps),(.slice C_a f0.fHammers.length C_c)]⟩)]) (N:= []) hm' (by kernel_rfl) (by kernel_rfl),jkO ?_⟩
  clear hm hm'
  refine qf [(0,2),(0,4)] ?_
  obtain⟨t_3,ht_4,h⟩:=bd h
  refine tO (pq 0 (fun w hm=>FQ.calls (!t_1) 1 w _ ht_4) (jkO (qh [0] (qe (jx_then (jc_ret ?_))))))
  obtain rfl:=si h
  exact qr [] (fun w hm=>⟨rfl,hm.pk []⟩)
 ·refine qf [(0,3),(0,3),(0,5)] ?_
  obtain⟨t_2,ht_5,h⟩:=bd h
  refine tO (pq 0 (fun w hm=>FQ.calls false 1 w _ ht_5) (jkO (qh [0] (qe (jx_then (jc_ret ?_))))))
  obtain rfl:=si h
  exact qr [] (fun w hm=>⟨rfl,hm.pk []⟩)
def FbP(t0:List GNote)(code1:Int):Option ((List GNote)×Int):=(FL t0).bind fun t_0=>(if(!t_0)=true then some ([],code1) else some (t0,0))
theorem FbP.calls(t0:List GNote)(code1:Int)(w:World)(r:(List GNote)×Int)(A_o:Option Nat){A_on:Nat}{A_c:Nat}{A_sp:List Value}(A_hn:t0.length=A_on)(A_hs:hS A_o A_on A_c A_sp 2)(A_ho:hO A_o t0 A_c)(hm0:Mem w (bs [A_o]) [⟨A_o,101,row encGNote t0 A_sp⟩] w)(h:FbP t0 code1=some r):
   Calls Tryz.prog 77 #[(.slice (mB A_o) A_on A_c),(vI code1)] w fun e w'=>∃v,e= .returned v∧(∃(o0:Option Nat) (c0:Nat) (s0:List Value) (n0:Nat),r.1.length=n0∧(hS o0 n0 c0 s0 2)∧(hO o0 r.1 c0)∧v= .tuple #[.slice (mB o0) n0 c0,(vI r.2)]∧Mem w (bs [A_o]) [⟨o0,101,row encGNote r.1 s0⟩] w'):=by
 subst A_hn
 rw [FbP] at h
 refine enter (args:= [(.slice (mB A_o) t0.length A_c),(vI code1)]) Tryz.func77 rfl Tryz.ntmps77 (by kernel_rfl) (L:= [⟨A_o,101,row encGNote t0 A_sp⟩]) (W:=bs [A_o]) hm0 (jc_seq (jc_region (qh [0,0] (qe (jx_then (jc_seq (jc_seq (jc_region (qh [0] ?_)))))))))
 obtain⟨t_0,ht_1,h⟩:=bd h
 refine tO (pq 0 (fun w hm=>FL.calls t0 w _ A_c (hm.ow 0 A_o 101 t0 A_sp (fun e=>(A_ho e).1) encGNote_len) rfl ht_1) (jkO (qh [0] (qe (jx_then (qi h (fun h=> ?_) (fun h=> ?_)))))))
 ·refine jc_seq (jc_region (qh [0,0,0] (qe (jx_then (jc_ret (jx_thenr ?_))))))
  obtain rfl:=si h
  exact jx_ghost 101 encGNote (qr [] (fun w hm=>⟨none,0,[],0,rfl,(fun e=>absurd rfl e),(fun _=>⟨rfl,rfl⟩),rfl,hm.pk [1]⟩))
 ·refine jc_skip (jx_then (jc_seq (jc_region (qh [0,0,0] (qe (jx_then (jc_ret ?_)))))))
  obtain rfl:=si h
  exact qr [] (fun w hm=>⟨A_o,A_c,A_sp,t0.length,rfl,A_hs,A_ho,rfl,hm.pk [0]⟩)
def FbM(f0:GFrame)(d1:Arr 96 Int):Option ((List GNote)×Int):=(FaO f0 ([d1]:List (Arr 96 Int))).bind fun t_2=>(if(t_2 !=0)=true then some ([],t_2) else(FaN f0 d1 0 (w64 f0.fSteps)).bind fun t_0=>(FbP t_0 3).bind fun t_1=>some (t_1.1,t_1.2))
theorem FbM.calls(f0:GFrame)(d1:Arr 96 Int)(w:World)(r:(List GNote)×Int){C_a:Option Addr}{C_an:Nat}(C_c:Nat)(C_h:Rw w C_a 2 encGHammer f0.fHammers)(C_hn:f0.fHammers.length=C_an)(h:FbM f0 d1=some r):
   Calls Tryz.prog 14 #[(.agg #[(vH f0.fSteps),(.slice C_a C_an C_c)]),(.agg (row encU32 d1.1 []).toArray)] w fun e w'=>∃v,e= .returned v∧(∃(o0:Option Nat) (c0:Nat) (s0:List Value) (n0:Nat),r.1.length=n0∧(hS o0 n0 c0 s0 2)∧(hO o0 r.1 c0)∧v= .tuple #[.slice (mB o0) n0 c0,(vI r.2)]∧Mem w [] [⟨o0,101,row encGNote r.1 s0⟩] w'):=by
 subst C_hn
 rw [FbM] at h
 refine en Tryz.func14 rfl Tryz.ntmps14 (jc_seq (jc_region (tO (qa 0 (fun b_2=>jkO (tO (qa 0 (fun b_0=>jkO (qh [0,0] (qe (jx_then (jc_seq (jc_seq (jc_region (qh [0] (tO (pL 0 1 b_0 96 1 40 encU32 d1 encU32_len (jkO (tO (pB_ 0 40 96 1 encA96U32 [(.agg (row encU32 d1.1 []).toArray)] [d1] rfl encA96U32_len (fun b_6=>jkO ?_)))))))))))))))))))))
 obtain⟨t_2,ht_7,h⟩:=bd h
 refine tO (pq 0 (fun w hm=>FaO.calls f0 ([d1]:List (Arr 96 Int)) w _ C_c (hm.xr C_h) rfl 1 (hm.ow 2 (some b_6) 40 ([d1]:List (Arr 96 Int)) [] (fun e=>nomatch e) encA96U32_len) rfl ht_7) (jkO (qh [0] (qe (jx_then (jc_seq (jc_region (qh [0,0] (qe (jx_then (qi h (fun h=> ?_) (fun h=> ?_))))))))))))
 ·refine jc_seq (jc_region (qh [0,0,0] (qe (jx_then (jc_ret (jx_thenr ?_))))))
  obtain rfl:=si h
  exact jx_ghost 101 encGNote (qr [] (fun w hm=>⟨none,0,[],0,rfl,(fun e=>absurd rfl e),(fun _=>⟨rfl,rfl⟩),rfl,hm.pk [3]⟩))
 ·refine jc_skip (jx_then (jc_seq (jc_region (qh [0] (tO (pL 0 1 b_0 96 1 40 encU32 d1 encU32_len (jkO (qh [0,0,0] ?_))))))))
  obtain⟨t_0,ht_8,h⟩:=bd h
  refine tO (pc 0 (fun w hm=>FaN.calls f0 d1 0 (w64 f0.fSteps) w _ C_c (hm.xr C_h) rfl ht_8) ?_)
  rintro w v w' hm ⟨o_3,cap_06,sp_9,_,rfl,hs_00,ho_01,rfl,hm'⟩
  refine aq hm hm' (jkO ?_)
  obtain⟨t_1,ht_02,h⟩:=bd h
  refine tO (pc 0 (fun w hm=>FbP.calls t_0 3 w _ o_3 rfl hs_00 ho_01 (hm.ps (N:= [⟨o_3,101,row encGNote t_0 sp_9⟩]) [3]) ht_02) ?_)
  rintro w v w' hm ⟨o_4,cap_03,sp_5,_,rfl,hs_04,ho_05,rfl,hm'⟩
  refine⟨_,hm.appP (ps:= []) (ds:= [3]) (N:= [⟨o_4,101,row encGNote t_1.1 sp_5⟩]) hm' [0] (by kernel_rfl) (by kernel_rfl) (by kernel_rfl),jkO ?_⟩
  clear hm hm'
  refine qh [0,0,0,0] (qe (jx_then (jc_ret ?_)))
  obtain rfl:=si h
  exact qr [] (fun w hm=>⟨o_4,cap_03,sp_5,t_1.1.length,rfl,hs_04,ho_05,rfl,hm.pk [4]⟩)
def F8.k_1:Option (Bool):=some true
def F8.k_6(i_0:Int)(q_1:Bool):Option ((Int)⊕(Bool⊕Unit)):=(if q_1=true then some (.inr (.inl false)) else some (.inl (w64 (i_0+1))))
def F8.l_3(f0:GFrame)(d1:Arr 96 Int):Int→Option ((Int)⊕(Bool⊕Unit))
 | i_0=>(if(decide (i_0<96))=true then(ix d1.1 i_0).bind fun x_2=>(if 0≤(u64 (f0.fHammers.length:Int)) then(if((bShr .u32 x_2 (u64 (f0.fHammers.length:Int))) !=0)=true then F8.k_6 i_0 true else(if(decide (i_0≥(w64 f0.fSteps)))=true then(ix d1.1 i_0).bind fun x_3=>F8.k_6 i_0 (x_3 !=0) else F8.k_6 i_0 false)) else none) else some (.inr (.inr ())))
def F8(f0:GFrame)(d1:Arr 96 Int):Option (Bool):=(loop (F8.l_3 f0 d1) 0).bind fun t_8=>match t_8 with | .inl p=>some p | .inr p=>F8.k_1
theorem F8.calls(f0:GFrame)(d1:Arr 96 Int)(w:World)(r:Bool){C_a:Option Addr}{C_an:Nat}(C_c:Nat)(C_h:Rw w C_a 2 encGHammer f0.fHammers)(C_hn:f0.fHammers.length=C_an){D_b D_q:Nat}(D_h:Rw w (some ⟨D_b,D_q,none⟩) 1 encU32 d1.1)(A_b:Nat)(hm0:Mem w (bs [some A_b]) [⟨some A_b,27,[(vH f0.fSteps),(.slice C_a C_an C_c)]⟩] w)(C_ha:f0.fHammers≠ []→aB C_a∉bs [some A_b])(D_ha:d1.1≠ []→aB (some ⟨D_b,D_q,none⟩)∉bs [some A_b])(h:F8 f0 d1=some r):
   Calls Tryz.prog 151 #[(vP A_b),(.pointer (some ⟨D_b,D_q,none⟩))] w fun e w'=>∃v,e= .returned v∧(v=(.bool r)∧Mem w (bs [some A_b]) [⟨some A_b,27,[(vH f0.fSteps),(.slice C_a C_an C_c)]⟩] w'):=by
 subst C_hn
 rw [F8] at h
 refine enter (args:= [(vP A_b),(.pointer (some ⟨D_b,D_q,none⟩))]) Tryz.func151 rfl Tryz.ntmps151 (by kernel_rfl) (L:= [⟨some A_b,27,[(vH f0.fSteps),(.slice C_a f0.fHammers.length C_c)]⟩]) (W:=bs [some A_b]) hm0 (jc_seq (jc_region (qh [0] (qe (jx_then (jc_seq (jc_seq (jc_region (qh [0] (qe (jx_then (jc_meet (fun(_:Unit)=>F8.k_1=some r) (fun(_:Unit)=> [(4,[],(.bool false))]) (fun(_:Unit)=> [⟨some A_b,27,[(vH f0.fSteps),(.slice C_a f0.fHammers.length C_c)]⟩]) ?_ ?_))))))))))))
 ·refine jc_block ?_
  obtain⟨t_8,ht_01,hr_9⟩:=bd h
  refine jl (fun(i_0:Int) (_:Unit)=>True) (fun i_0 _=> [(0,[],(vP A_b)),(1,[],(.pointer (some ⟨D_b,D_q,none⟩))),(4,[],(.bool false)),(5,[],(vI i_0))]) (fun i_0 _=> [⟨some A_b,27,[(vH f0.fSteps),(.slice C_a f0.fHammers.length C_c)]⟩]) ht_01 () trivial [0] ?_
  rintro i_0 _ y_00 _ h
  rw [F8.l_3] at h
  refine jc_seq (jc_seq (jc_region (qh [0,0] (qe (jx_then (qi h (fun h=> ?_) (fun h=> ?_)))))))
  ·refine jc_skip (jx_then (jc_seq (jc_block (jc_seq (jc_meet (fun(q_1:Bool)=>F8.k_6 i_0 q_1=some y_00) (fun q_1=> [(0,[],(vP A_b)),(1,[],(.pointer (some ⟨D_b,D_q,none⟩))),(4,[],(.bool false)),(5,[],(vI i_0)),(39,[],(.bool q_1))]) (fun q_1=> [⟨some A_b,27,[(vH f0.fSteps),(.slice C_a f0.fHammers.length C_c)]⟩]) ?_ ?_)))))
   ·refine qg [⟨some A_b,27,[(vH f0.fSteps),(.slice C_a f0.fHammers.length C_c)]⟩] 30 (qd [⟨0,0,0⟩,⟨1,0,0⟩,⟨2,0,0⟩,⟨5,0,0⟩,⟨6,0,0⟩,⟨7,0,0⟩,⟨8,0,0⟩,⟨9,0,0⟩,⟨10,0,0⟩] 21 [0] ?_)
    obtain⟨x_2,hx_4,h⟩:=bd h
    refine qX 3 0 [0] (some ⟨D_b,D_q,none⟩) 1 hx_4 d1.2 (D_h.sp hx_4) (qL 4 0 [0] false (fun w hm=>(hm.exRowW D_h D_ha).at hx_4) ?_)
    obtain⟨hg_02,h⟩:=gd h
    refine tD 11 (pW 0 .u32 x_2 .u64 (u64 (f0.fHammers.length:Int)) hg_02 (kD [0] (qd [⟨12,0,0⟩,⟨13,0,0⟩,⟨14,0,1⟩,⟨15,0,1⟩,⟨16,0,1⟩,⟨17,0,1⟩,⟨18,0,1⟩,⟨19,0,1⟩,⟨20,0,1⟩] 9 [0] (js 23 ((bShr .u32 x_2 (u64 (f0.fHammers.length:Int))) !=0) (fun hc_5=> ?_) (fun hc_5=> ?_)))))
    ·replace h:=ifT hc_5 h
     exact qd [⟨21,0,3⟩,⟨22,0,3⟩,⟨23,0,3⟩,⟨24,0,3⟩,⟨25,0,3⟩,⟨26,0,3⟩,⟨27,0,3⟩,⟨28,0,3⟩,⟨29,0,4⟩] 0 [0] (qz (qm true h [0]))
    ·replace h:=ifF hc_5 h
     refine qd [⟨21,0,2⟩,⟨22,0,1⟩,⟨23,0,1⟩,⟨24,0,1⟩] 5 [0] (js 31 (decide (i_0≥(w64 f0.fSteps))) (fun hc_6=> ?_) (fun hc_6=> ?_))
     ·replace h:=ifT hc_6 h
      obtain⟨x_3,hx_7,h⟩:=bd h
      exact qX 25 2 [0] (some ⟨D_b,D_q,none⟩) 1 hx_7 d1.2 (D_h.sp hx_7) (qL 26 2 [0] false (fun w hm=>(hm.exRowW D_h D_ha).at hx_7) (qd [⟨27,0,2⟩,⟨28,0,4⟩,⟨29,0,5⟩] 0 [0] (qz (qm (x_3 !=0) h [0]))))
     ·replace h:=ifF hc_6 h
      exact qd [⟨25,0,3⟩,⟨26,0,3⟩,⟨27,0,3⟩,⟨28,0,5⟩,⟨29,0,5⟩] 0 [0] (qz (qm false h [0]))
   ·rintro q_1 h
    replace h:F8.k_6 i_0 q_1=some y_00:=h
    rw [F8.k_6] at h
    refine jx_then (qi h (fun h=> ?_) (fun h=> ?_))
    ·refine jc_seq (jc_region (qh [0] (qe (jx_then (jc_ret (jx_inr (jx_thenr (jx_leaver (.inl false) (sj h) (fun e_03=> ?_)))))))))
     subst e_03
     refine jx_inr (jx_thenr (jx_thenr ?_))
     obtain rfl:=si hr_9
     exact qr [] (fun w hm=>⟨rfl,hm.pk [0]⟩)
    ·exact jc_skip (jx_inn (jx_then (jc_region (qh [0,0,0] (qe (qb (w64 (i_0+1)) () h trivial [0]))))))
  ·refine jc_exit (jx_thenx (jx_leave (.inr ()) (sj h) (fun e_04=> ?_)))
   subst e_04
   exact jx_ine (qm () hr_9 [0])
 ·rintro _ h
  replace h:F8.k_1=some r:=h
  rw [F8.k_1] at h
  refine jx_then (jc_seq (jc_region (qh [0] (qe (jx_then (jc_ret ?_))))))
  obtain rfl:=si h
  exact qr [] (fun w hm=>⟨rfl,hm.pk [0]⟩)
def FaB.k_2(q_0:Bool):Option (Int):=(if q_0=true then some 1 else some 0)
def FaB(f0:GFrame)(d1:Arr 96 Int):Option (Int):=(Fy f0).bind fun t_2=>(if(!t_2)=true then FaB.k_2 true else(F8 f0 d1).bind fun t_1=>FaB.k_2 (!t_1))
theorem FaB.calls(f0:GFrame)(d1:Arr 96 Int)(w:World)(r:Int){C_a:Option Addr}{C_an:Nat}(C_c:Nat)(C_h:Rw w C_a 2 encGHammer f0.fHammers)(C_hn:f0.fHammers.length=C_an){D_b D_q:Nat}(D_h:Rw w (some ⟨D_b,D_q,none⟩) 1 encU32 d1.1)(A_b:Nat)(hm0:Mem w (bs [some A_b]) [⟨some A_b,27,[(vH f0.fSteps),(.slice C_a C_an C_c)]⟩] w)(C_ha:f0.fHammers≠ []→aB C_a∉bs [some A_b])(D_ha:d1.1≠ []→aB (some ⟨D_b,D_q,none⟩)∉bs [some A_b])(h:FaB f0 d1=some r):
   Calls Tryz.prog 78 #[(vP A_b),(.pointer (some ⟨D_b,D_q,none⟩))] w fun e w'=>∃v,e= .returned v∧(v=(vI r)∧Mem w (bs [some A_b]) [⟨some A_b,27,[(vH f0.fSteps),(.slice C_a C_an C_c)]⟩] w'):=by
 subst C_hn
 rw [FaB] at h
 refine enter (args:= [(vP A_b),(.pointer (some ⟨D_b,D_q,none⟩))]) Tryz.func78 rfl Tryz.ntmps78 (by kernel_rfl) (L:= [⟨some A_b,27,[(vH f0.fSteps),(.slice C_a f0.fHammers.length C_c)]⟩]) (W:=bs [some A_b]) hm0 (jc_seq (jc_region (qh [0] (qe (jx_then (jc_seq (jc_seq (jc_meet (fun(q_0:Bool)=>FaB.k_2 q_0=some r) (fun q_0=> [(4,[],(vI 0)),(13,[],(.bool q_0))]) (fun q_0=> [⟨some A_b,27,[(vH f0.fSteps),(.slice C_a f0.fHammers.length C_c)]⟩]) ?_ ?_))))))))
 ·refine jc_region (qh [0] ?_)
  obtain⟨t_2,ht_3,h⟩:=bd h
  refine tO (pc 0 (fun w hm=>Fy.calls f0 w _ C_c (hm.exRowW C_h C_ha) rfl A_b (hm.ps [0]) (hm.xp C_h C_ha [0]) ht_3) ?_)
  rintro w v w' hm ⟨rfl,hm'⟩
  refine⟨_,hm.appW (ps:= [(0,⟨some A_b,27,[(vH f0.fSteps),(.slice C_a f0.fHammers.length C_c)]⟩)]) (N:= []) hm' (by kernel_rfl) (by kernel_rfl),jkO ?_⟩
  clear hm hm'
  refine qf [(0,0),(0,0),(0,1),(0,1)] (qp 8 h (fun h=> ?_) (fun h=> ?_))
  ·exact qf [(0,3),(0,3),(0,4)] (qe (qm true h [0]))
  ·obtain⟨t_1,ht_4,h⟩:=bd h
   refine tO (pc 2 (fun w hm=>F8.calls f0 d1 w _ C_c (hm.exRowW C_h C_ha) rfl (hm.exRowW D_h D_ha) A_b (hm.ps [0]) (hm.xp C_h C_ha [0]) (hm.xp D_h D_ha [0]) ht_4) ?_)
   rintro w v w' hm ⟨rfl,hm'⟩
   refine⟨_,hm.appW (ps:= [(0,⟨some A_b,27,[(vH f0.fSteps),(.slice C_a f0.fHammers.length C_c)]⟩)]) (N:= []) hm' (by kernel_rfl) (by kernel_rfl),jkO ?_⟩
   clear hm hm'
   exact qf [(0,2),(0,5)] (qe (qm (!t_1) h [0]))
 ·rintro q_0 h
  replace h:FaB.k_2 q_0=some r:=h
  rw [FaB.k_2] at h
  refine jx_then (qi h (fun h=> ?_) (fun h=> ?_))
  ·refine jc_seq (jc_region (qh [0] (qe (jx_then (jc_ret (jx_thenr ?_))))))
   obtain rfl:=si h
   exact qr [] (fun w hm=>⟨rfl,hm.pk [0]⟩)
  ·refine jc_skip (jx_then (jc_seq (jc_region (qh [0] (qe (jx_then (jc_ret ?_)))))))
   obtain rfl:=si h
   exact qr [] (fun w hm=>⟨rfl,hm.pk [0]⟩)
def FU.k_2(xs_2:List GNote):Option ((List GNote)):=(Fu xs_2).bind fun t_0d=>some t_0d
def FU.k_9(i_0:Int)(xs_5:List GNote):Option (((List GNote)×Int)⊕((List GNote))):=some (.inl (xs_5,(w64 (i_0+1))))
def FU.l_12(f0:GFrame)(d1:Arr 96 Int)(i_0:Int):((List GNote)×Int)→Option (((List GNote)×Int)⊕((List GNote)))
 | (xs_1,i_3)=>(if(decide (i_3<(f0.fHammers.length:Int)))=true then(FaW d1 i_0 i_3).bind fun t_0h=>(if t_0h=true then(ix f0.fHammers i_3).bind fun x_03=>(if xs_1.length+([(⟨(w16 i_0),x_03.fPitch⟩:GNote)]:List GNote).length≤4294967296 then some (.inl ((xs_1++([(⟨(w16 i_0),x_03.fPitch⟩:GNote)]:List GNote)),(w64 (i_3+1)))) else none) else some (.inl (xs_1,(w64 (i_3+1))))) else some (.inr xs_1))
def FU.l_6(f0:GFrame)(d1:Arr 96 Int):((List GNote)×Int)→Option (((List GNote)×Int)⊕((List GNote)))
 | (xs_4,i_0)=>(if(decide (i_0<(w64 f0.fSteps)))=true then(loop (FU.l_12 f0 d1 i_0) (xs_4,0)).bind fun t_0i=>FU.k_9 i_0 t_0i else some (.inr xs_4))
def FU(f0:GFrame)(d1:Arr 96 Int):Option ((List GNote)):=(loop (FU.l_6 f0 d1) (([]:List GNote),0)).bind fun t_0j=>FU.k_2 t_0j
theorem FU.calls(f0:GFrame)(d1:Arr 96 Int)(w:World)(r:(List GNote)){C_a:Option Addr}{C_an:Nat}(C_c:Nat)(C_h:Rw w C_a 2 encGHammer f0.fHammers)(C_hn:f0.fHammers.length=C_an){D_b D_q:Nat}(D_h:Rw w (some ⟨D_b,D_q,none⟩) 1 encU32 d1.1)(A_b:Nat)(hm0:Mem w (bs [some A_b]) [⟨some A_b,27,[(vH f0.fSteps),(.slice C_a C_an C_c)]⟩] w)(C_ha:f0.fHammers≠ []→aB C_a∉bs [some A_b])(D_ha:d1.1≠ []→aB (some ⟨D_b,D_q,none⟩)∉bs [some A_b])(h:FU f0 d1=some r):
   Calls Tryz.prog 79 #[(vP A_b),(.pointer (some ⟨D_b,D_q,none⟩))] w fun e w'=>∃v,e= .returned v∧(∃(o0:Option Nat) (c0:Nat) (s0:List Value) (n0:Nat),r.length=n0∧(hS o0 n0 c0 s0 2)∧(hO o0 r c0)∧v= .slice (mB o0) n0 c0∧Mem w (bs [some A_b]) [⟨some A_b,27,[(vH f0.fSteps),(.slice C_a C_an C_c)]⟩,⟨o0,101,row encGNote r s0⟩] w'):=by
 subst C_hn
 rw [FU] at h
 refine enter (args:= [(vP A_b),(.pointer (some ⟨D_b,D_q,none⟩))]) Tryz.func79 rfl Tryz.ntmps79 (by kernel_rfl) (L:= [⟨some A_b,27,[(vH f0.fSteps),(.slice C_a f0.fHammers.length C_c)]⟩]) (W:=bs [some A_b]) hm0 (jc_seq (jc_region (qh [0] (qe (jx_then (jc_seq (jc_region (tO (qa 0 (fun b_2=>jkO (qh [0] (qe (jx_then (jc_seq (jc_seq (jc_region (qh [0] (qe (jx_then (jc_meet (fun(j:(List GNote)×(Option Nat)×Nat×(List Value)×Nat)=>match j with | ⟨xs_2,o_9,cap_04,sp_07,n_08⟩=>FU.k_2 xs_2=some r∧(xs_2.length=n_08)∧(hS o_9 n_08 cap_04 sp_07 2)∧(hO o_9 xs_2 cap_04)) (fun⟨xs_2,o_9,cap_04,sp_07,n_08⟩=> [(4,[],(.slice none 0 0)),(5,[],(.slice (mB o_9) n_08 cap_04))]) (fun⟨xs_2,o_9,cap_04,sp_07,n_08⟩=> [⟨some A_b,27,[(vH f0.fSteps),(.slice C_a f0.fHammers.length C_c)]⟩,⟨o_9,101,row encGNote xs_2 sp_07⟩]) ?_ ?_))))))))))))))))))))
 ·refine jc_block ?_
  obtain⟨t_0j,ht_0o,hr_0p⟩:=bd h
  refine jl (fun(s:(List GNote)×Int) (x:(Option Nat)×Nat×(List Value)×Nat)=>match s,x with | ⟨xs_4,i_0⟩,⟨o_7,cap_00,sp_05,n_09⟩=>(xs_4.length=n_09)∧(hS o_7 n_09 cap_00 sp_05 2)∧(hO o_7 xs_4 cap_00)) (fun⟨xs_4,i_0⟩ ⟨o_7,cap_00,sp_05,n_09⟩=> [(0,[],(vP A_b)),(1,[],(.pointer (some ⟨D_b,D_q,none⟩))),(4,[],(.slice none 0 0)),(5,[],(.slice (mB o_7) n_09 cap_00)),(6,[],(vI i_0))]) (fun⟨xs_4,i_0⟩ ⟨o_7,cap_00,sp_05,n_09⟩=> [⟨some A_b,27,[(vH f0.fSteps),(.slice C_a f0.fHammers.length C_c)]⟩,⟨o_7,101,row encGNote xs_4 sp_05⟩]) ht_0o ⟨(some b_2),0,[],0⟩ ⟨rfl,(fun _=>⟨Nat.le_refl _,by simp⟩),(fun e=>nomatch e)⟩ [0,1] ?_
  rintro⟨xs_4,i_0⟩ ⟨o_7,cap_00,sp_05,n_09⟩ y_0k ⟨rfl,hs_0l,ho_0m⟩ h
  rw [FU.l_6] at h
  refine jc_seq (jc_seq (jc_region (qh [0,0,0,0,0,0,0] (qe (jx_then (qi h (fun h=> ?_) (fun h=> ?_)))))))
  ·refine jc_skip (jx_then (jc_seq (jc_block (jc_seq (jc_region (qh [0] (qe (jx_then (jc_meet (fun(j:(List GNote)×(Option Nat)×Nat×(List Value)×Nat)=>match j with | ⟨xs_5,o_01,cap_06,sp_0a,n_0b⟩=>FU.k_9 i_0 xs_5=some y_0k∧(xs_5.length=n_0b)∧(hS o_01 n_0b cap_06 sp_0a 2)∧(hO o_01 xs_5 cap_06)) (fun⟨xs_5,o_01,cap_06,sp_0a,n_0b⟩=> [(0,[],(vP A_b)),(1,[],(.pointer (some ⟨D_b,D_q,none⟩))),(4,[],(.slice none 0 0)),(5,[],(.slice (mB o_01) n_0b cap_06)),(6,[],(vI i_0))]) (fun⟨xs_5,o_01,cap_06,sp_0a,n_0b⟩=> [⟨some A_b,27,[(vH f0.fSteps),(.slice C_a f0.fHammers.length C_c)]⟩,⟨o_01,101,row encGNote xs_5 sp_0a⟩]) ?_ ?_)))))))))
   ·refine jc_block ?_
    obtain⟨t_0i,ht_0q,hr_0r⟩:=bd h
    refine jl (fun(s:(List GNote)×Int) (x:(Option Nat)×Nat×(List Value)×Nat)=>match s,x with | ⟨xs_1,i_3⟩,⟨o_6,cap_8,sp_02,n_0c⟩=>(xs_1.length=n_0c)∧(hS o_6 n_0c cap_8 sp_02 2)∧(hO o_6 xs_1 cap_8)) (fun⟨xs_1,i_3⟩ ⟨o_6,cap_8,sp_02,n_0c⟩=> [(0,[],(vP A_b)),(1,[],(.pointer (some ⟨D_b,D_q,none⟩))),(4,[],(.slice none 0 0)),(5,[],(.slice (mB o_6) n_0c cap_8)),(6,[],(vI i_0)),(7,[],(vI i_3))]) (fun⟨xs_1,i_3⟩ ⟨o_6,cap_8,sp_02,n_0c⟩=> [⟨some A_b,27,[(vH f0.fSteps),(.slice C_a f0.fHammers.length C_c)]⟩,⟨o_6,101,row encGNote xs_1 sp_02⟩]) ht_0q ⟨o_7,cap_00,sp_05,xs_4.length⟩ ⟨rfl,hs_0l,ho_0m⟩ [0,1] ?_
    rintro⟨xs_1,i_3⟩ ⟨o_6,cap_8,sp_02,n_0c⟩ y_1a ⟨rfl,hs_0e,ho_0f⟩ h
    rw [FU.l_12] at h
    refine jc_seq (jc_seq (jc_region (qh [0,0,0,0,0,0,0] (qe (jx_then (qi h (fun h=> ?_) (fun h=> ?_)))))))
    ·refine jc_skip (jx_then (jc_seq (jc_block (jc_seq (jc_region (qh [0,0,0] ?_))))))
     obtain⟨t_0h,ht_0s,h⟩:=bd h
     refine tO (pq 0 (fun w hm=>FaW.calls d1 i_0 i_3 w _ (hm.exRowW D_h D_ha) ht_0s) (jkO (qe (jx_then (qi h (fun h=> ?_) (fun h=> ?_))))))
     ·refine jc_region (qh [0,0,0,0,0,0,0,0] ?_)
      obtain⟨x_03,hx_0g,h⟩:=bd h
      refine tO (qx 0 C_a 2 hx_0g rfl (C_h.sp hx_0g) (jkO (qh [0] (tO (ql 0 false (fun w hm=>(((hm.exRowW C_h C_ha).at hx_0g).sub 0 1)) (jkO (qh [0] (tO (qa 0 (fun b_0n=>jkO ?_))))))))))
      obtain⟨hg_0t,h⟩:=gd h
      exact tO (pA 0 1 o_6 101 xs_1.length 1 cap_8 2 4 (sB b_0n) encGNote xs_1 ([(⟨(w16 i_0),x_03.fPitch⟩:GNote)]:List GNote) sp_02 (.agg #[(vH 0),(vB 0)]) rfl rfl encGNote_len encGNote_cell hs_0e ho_0f (fun w hm=>(hm.ow 2 (some b_0n) 101 ([(⟨(w16 i_0),x_03.fPitch⟩:GNote)]:List GNote) [] (fun e=>nomatch e) encGNote_len)) hg_0t (fun o_0u cap_0v sp_0w hs_0x ho_0y=>jkO (qh [0] (qe (jx_inn (jx_then (jc_region (qh [0,0,0] (qe (qb ((xs_1++([(⟨(w16 i_0),x_03.fPitch⟩:GNote)]:List GNote)),(w64 (i_3+1))) ⟨o_0u,cap_0v,sp_0w,(xs_1++([(⟨(w16 i_0),x_03.fPitch⟩:GNote)]:List GNote)).length⟩ h ⟨rfl,hs_0x,ho_0y⟩ [0,1]))))))))))
     ·exact jc_skip (jx_inn (jx_then (jc_region (qh [0,0,0] (qe (qb (xs_1,(w64 (i_3+1))) ⟨o_6,cap_8,sp_02,xs_1.length⟩ h ⟨rfl,hs_0e,ho_0f⟩ [0,1]))))))
    ·refine jc_exit (jx_thenx (jx_leave xs_1 (sj h) (fun e_0z=> ?_)))
     subst e_0z
     exact jx_ine (qm ⟨xs_1,o_6,cap_8,sp_02,xs_1.length⟩ ⟨hr_0r,rfl,hs_0e,ho_0f⟩ [0,1])
   ·rintro⟨xs_5,o_01,cap_06,sp_0a,n_0b⟩ ⟨h,rfl,hs_10,ho_11⟩
    replace h:FU.k_9 i_0 xs_5=some y_0k:=h
    rw [FU.k_9] at h
    exact jx_inn (jx_then (jc_region (qh [0,0,0] (qe (qb (xs_5,(w64 (i_0+1))) ⟨o_01,cap_06,sp_0a,xs_5.length⟩ h ⟨rfl,hs_10,ho_11⟩ [0,1])))))
  ·refine jc_exit (jx_thenx (jx_leave xs_4 (sj h) (fun e_12=> ?_)))
   subst e_12
   exact jx_ine (qm ⟨xs_4,o_7,cap_00,sp_05,xs_4.length⟩ ⟨hr_0p,rfl,hs_0l,ho_0m⟩ [0,1])
 ·rintro⟨xs_2,o_9,cap_04,sp_07,n_08⟩ ⟨h,rfl,hs_1b,ho_13⟩
  replace h:FU.k_2 xs_2=some r:=h
  rw [FU.k_2] at h
  refine jx_then (jc_seq (jc_region (qh [0] ?_)))
  obtain⟨t_0d,ht_14,h⟩:=bd h
  refine tO (pc 0 (fun w hm=>Fu.calls xs_2 w _ cap_04 (hm.ow 1 o_9 101 xs_2 sp_07 (fun e=>(ho_13 e).1) encGNote_len) rfl ht_14) ?_)
  rintro w v w' hm ⟨o_15,cap_16,sp_17,_,rfl,hs_18,ho_19,rfl,hm'⟩
  refine aq hm hm' (jkO (qh [0] (qe (jx_then (jc_ret ?_)))))
  obtain rfl:=si h
  exact qr [] (fun w hm=>⟨o_15,cap_16,sp_17,t_0d.length,rfl,hs_18,ho_19,rfl,hm.pk [0,2]⟩)
def FbN(f0:GFrame)(d1:Arr 96 Int):Option ((List GNote)×Int):=(FaB f0 d1).bind fun t_1=>(if(t_1 !=0)=true then some (([]:List GNote),t_1) else(FU f0 d1).bind fun t_0=>(if(decide ((t_0.length:Int)>120))=true then some (([]:List GNote),3) else some (t_0,0)))
theorem FbN.calls(f0:GFrame)(d1:Arr 96 Int)(w:World)(r:(List GNote)×Int){C_a:Option Addr}{C_an:Nat}(C_c:Nat)(C_h:Rw w C_a 2 encGHammer f0.fHammers)(C_hn:f0.fHammers.length=C_an)(h:FbN f0 d1=some r):
   Calls Tryz.prog 15 #[(.agg #[(vH f0.fSteps),(.slice C_a C_an C_c)]),(.agg (row encU32 d1.1 []).toArray)] w fun e w'=>∃v,e= .returned v∧(∃(o0:Option Nat) (c0:Nat) (s0:List Value) (n0:Nat),r.1.length=n0∧(hS o0 n0 c0 s0 2)∧(hO o0 r.1 c0)∧v= .tuple #[.slice (mB o0) n0 c0,(vI r.2)]∧Mem w [] [⟨o0,101,row encGNote r.1 s0⟩] w'):=by
 subst C_hn
 rw [FbN] at h
 refine en Tryz.func15 rfl Tryz.ntmps15 (jc_seq (jc_region (tO (qa 0 (fun b_1=>jkO (tO (qa 0 (fun b_0=>jkO (qh [0,0] (qe (jx_then (jc_seq (jc_seq (jc_region ?_))))))))))))))
 obtain⟨t_1,ht_4,h⟩:=bd h
 refine tO (pc 0 (fun w hm=>FaB.calls f0 d1 w _ C_c (hm.xr C_h) rfl (hm.ow 1 (some b_0) 40 d1.1 [] (fun e=>nomatch e) encU32_len) b_1 (hm.ps [0]) (hm.xp C_h (fun _=>List.not_mem_nil) [0]) (hm.oa 1 (some b_0) (fun e=>nomatch e) [0]) ht_4) ?_)
 rintro w v w' hm ⟨rfl,hm'⟩
 refine⟨_,hm.appW (ps:= [(0,⟨some b_1,27,[(vH f0.fSteps),(.slice C_a f0.fHammers.length C_c)]⟩)]) (N:= []) hm' (by kernel_rfl) (by kernel_rfl),jkO ?_⟩
 clear hm hm'
 refine qh [0] (qe (jx_then (jc_seq (jc_region (qh [0,0] (qe (jx_then (qi h (fun h=> ?_) (fun h=> ?_)))))))))
 ·refine jc_seq (jc_region (tO (qa 0 (fun b_5=>jkO (qh [0,0,0] (qe (jx_then (jc_ret (jx_thenr ?_)))))))))
  obtain rfl:=si h
  exact qr [] (fun w hm=>⟨(some b_5),0,[],0,rfl,(fun _=>⟨Nat.le_refl _,by simp⟩),(fun e=>nomatch e),rfl,hm.pk [2]⟩)
 ·refine jc_skip (jx_then (jc_seq (jc_region ?_)))
  obtain⟨t_0,ht_6,h⟩:=bd h
  refine tO (pc 0 (fun w hm=>FU.calls f0 d1 w _ C_c (hm.xr C_h) rfl (hm.ow 1 (some b_0) 40 d1.1 [] (fun e=>nomatch e) encU32_len) b_1 (hm.ps [0]) (hm.xp C_h (fun _=>List.not_mem_nil) [0]) (hm.oa 1 (some b_0) (fun e=>nomatch e) [0]) ht_6) ?_)
  rintro w v w' hm ⟨o_2,cap_7,sp_3,_,rfl,hs_8,ho_9,rfl,hm'⟩
  refine⟨_,hm.appW (ps:= [(0,⟨some b_1,27,[(vH f0.fSteps),(.slice C_a f0.fHammers.length C_c)]⟩)]) (N:= [⟨o_2,101,row encGNote t_0 sp_3⟩]) hm' (by kernel_rfl) (by kernel_rfl),jkO ?_⟩
  clear hm hm'
  refine qh [0] (qe (jx_then (jc_seq (jc_seq (jc_region (qh [0,0,0] (qe (jx_then (qi h (fun h=> ?_) (fun h=> ?_))))))))))
  ·refine jc_seq (jc_region (tO (qa 0 (fun b_00=>jkO (qh [0,0] (qe (jx_then (jc_ret (jx_thenr ?_)))))))))
   obtain rfl:=si h
   exact qr [] (fun w hm=>⟨(some b_00),0,[],0,rfl,(fun _=>⟨Nat.le_refl _,by simp⟩),(fun e=>nomatch e),rfl,hm.pk [3]⟩)
  ·refine jc_skip (jx_then (jc_seq (jc_region (qh [0,0,0] (qe (jx_then (jc_ret ?_)))))))
   obtain rfl:=si h
   exact qr [] (fun w hm=>⟨o_2,cap_7,sp_3,t_0.length,rfl,hs_8,ho_9,rfl,hm.pk [2]⟩)
def FaY(f0:GFrame)(d1:Arr 96 Int)(step2:Int)(track3:Int):Option (Bool):=(ix f0.fHammers track3).bind fun x_1=>(FO f0 d1 step2 track3 1).bind fun t_0=>some (decide (t_0<(w64 x_1.fReady)))
theorem FaY.calls(f0:GFrame)(d1:Arr 96 Int)(step2:Int)(track3:Int)(w:World)(r:Bool){C_a:Option Addr}{C_an:Nat}(C_c:Nat)(C_h:Rw w C_a 2 encGHammer f0.fHammers)(C_hn:f0.fHammers.length=C_an){D_b D_q:Nat}(D_h:Rw w (some ⟨D_b,D_q,none⟩) 1 encU32 d1.1)(h:FaY f0 d1 step2 track3=some r):
   Calls Tryz.prog 205 #[(.agg #[(vH f0.fSteps),(.slice C_a C_an C_c)]),(.pointer (some ⟨D_b,D_q,none⟩)),(vI step2),(vI track3)] w fun e w'=>∃v,e= .returned v∧(v=(.bool r)∧Mem w [] [] w'):=by
 subst C_hn
 rw [FaY] at h
 refine en Tryz.func205 rfl Tryz.ntmps205 (jc_seq (jc_region (tO (qa 0 (fun b_1=>jkO (qh [0] (qe (jx_then (jc_seq (qg [⟨some b_1,27,[(vH f0.fSteps),(.slice C_a f0.fHammers.length C_c)]⟩] 14 (qd [⟨0,0,0⟩,⟨1,0,0⟩,⟨2,0,0⟩,⟨3,0,0⟩,⟨5,0,0⟩,⟨6,0,0⟩,⟨7,0,0⟩] 7 [0] ?_)))))))))))
 obtain⟨x_1,hx_0,h⟩:=bd h
 refine qX 8 0 [0] C_a 2 hx_0 rfl (C_h.sp hx_0) (qd [⟨9,0,0⟩] 5 [0] (qL 10 0 [0] false (fun w hm=>((hm.xr C_h).at hx_0).sub 1 1) (qd [⟨11,0,0⟩] 3 [0] ?_)))
 obtain⟨t_0,ht_2,h⟩:=bd h
 refine tD 4 (pq 0 (fun w hm=>FO.calls f0 d1 step2 track3 1 w _ C_c (hm.xr C_h) rfl (hm.xr D_h) ht_2) (kD [0] (qd [⟨12,0,0⟩,⟨13,0,0⟩] 0 [0] (qz (jx_then (jc_ret ?_))))))
 obtain rfl:=si h
 exact qr [] (fun w hm=>⟨rfl,hm.pk []⟩)
def FaU(step0:Int)(track1:Int)(p2:GFrame)(p3:Arr 96 Int)(p4:List (Arr 2 Int)):Option ((List (Arr 2 Int))):=(FaY p2 p3 step0 track1).bind fun t_0=>(if t_0=true then(if p4.length+([(Arr.set (Arr.set (Arr.rep 2 0) 0 step0) 1 track1)]:List (Arr 2 Int)).length≤4294967296 then some (p4++([(Arr.set (Arr.set (Arr.rep 2 0) 0 step0) 1 track1)]:List (Arr 2 Int))) else none) else some p4)
theorem FaU.calls(step0:Int)(track1:Int)(p2:GFrame)(p3:Arr 96 Int)(p4:List (Arr 2 Int))(w:World)(r:(List (Arr 2 Int))){E_a:Option Addr}{E_an:Nat}(E_c:Nat)(E_h:Rw w E_a 2 encGHammer p2.fHammers)(E_hn:p2.fHammers.length=E_an){F_b F_q:Nat}(F_h:Rw w (some ⟨F_b,F_q,none⟩) 1 encU32 p3.1)(C_b:Nat)(G_b:Nat)(G_o:Option Nat){G_on:Nat}{G_c:Nat}{G_sp:List Value}(G_hn:p4.length=G_on)(G_hs:hS G_o G_on G_c G_sp 2)(G_ho:hO G_o p4 G_c)(hm0:Mem w (bs [some C_b,some G_b,G_o]) [⟨some C_b,27,[(vH p2.fSteps),(.slice E_a E_an E_c)]⟩,⟨some G_b,127,[(.slice (mB G_o) G_on G_c)]⟩,⟨G_o,247,row encA2I64 p4 G_sp⟩] w)(E_ha:p2.fHammers≠ []→aB E_a∉bs [some C_b,some G_b,G_o])(F_ha:p3.1≠ []→aB (some ⟨F_b,F_q,none⟩)∉bs [some C_b,some G_b,G_o])(h:FaU step0 track1 p2 p3 p4=some r):
   Calls Tryz.prog 204 #[(vI step0),(vI track1),(vP C_b),(.pointer (some ⟨F_b,F_q,none⟩)),(vP G_b)] w fun e w'=>∃v,e= .returned v∧(∃(mo0:Option Nat) (mc0:Nat) (ms0:List Value) (mn0:Nat),r.length=mn0∧(hS mo0 mn0 mc0 ms0 2)∧(hO mo0 r mc0)∧v= .tuple #[]∧Mem w (bs [some C_b,some G_b,G_o]) [⟨some C_b,27,[(vH p2.fSteps),(.slice E_a E_an E_c)]⟩,⟨some G_b,127,[(.slice (mB mo0) mn0 mc0)]⟩,⟨mo0,247,row encA2I64 r ms0⟩] w'):=by
 subst E_hn G_hn
 rw [FaU] at h
 refine enter (args:= [(vI step0),(vI track1),(vP C_b),(.pointer (some ⟨F_b,F_q,none⟩)),(vP G_b)]) Tryz.func204 rfl Tryz.ntmps204 (by kernel_rfl) (L:= [⟨some C_b,27,[(vH p2.fSteps),(.slice E_a p2.fHammers.length E_c)]⟩,⟨some G_b,127,[(.slice (mB G_o) p4.length G_c)]⟩,⟨G_o,247,row encA2I64 p4 G_sp⟩]) (W:=bs [some C_b,some G_b,G_o]) hm0 (jc_seq (jc_region (qh [0,0,0] ?_)))
 obtain⟨t_0,ht_0,h⟩:=bd h
 refine tO (pq 0 (fun w hm=>FaY.calls p2 p3 step0 track1 w _ E_c (hm.exRowW E_h E_ha) rfl (hm.exRowW F_h F_ha) ht_0) (jkO (qe (jx_then (qi h (fun h=> ?_) (fun h=> ?_))))))
 ·refine jc_region (qh [1,0,0,0] (tO (pB_ 0 247 2 1 encA2I64 [(.agg (row encI64 (Arr.set (Arr.set (Arr.rep 2 0) 0 step0) 1 track1).1 []).toArray)] [(Arr.set (Arr.set (Arr.rep 2 0) 0 step0) 1 track1)] rfl encA2I64_len (fun b_1=>jkO ?_))))
  obtain⟨hg_2,h⟩:=gd h
  refine tO (pA 0 2 G_o 247 p4.length 1 G_c 2 16 (sB b_1) encA2I64 p4 ([(Arr.set (Arr.set (Arr.rep 2 0) 0 step0) 1 track1)]:List (Arr 2 Int)) G_sp (.agg (row encI64 (Arr.rep 2 0).1 []).toArray) rfl rfl encA2I64_len encA2I64_cell G_hs G_ho (fun w hm=>(hm.ow 3 (some b_1) 247 ([(Arr.set (Arr.set (Arr.rep 2 0) 0 step0) 1 track1)]:List (Arr 2 Int)) [] (fun e=>nomatch e) encA2I64_len)) hg_2 (fun o_3 cap_4 sp_5 hs_6 ho_7=>jkO (tO (qs 0 [1] (jkO (qe (jx_fall ?_)))))))
  obtain rfl:=si h
  exact qr [] (fun w hm=>⟨o_3,cap_4,sp_5,((p4++([(Arr.set (Arr.set (Arr.rep 2 0) 0 step0) 1 track1)]:List (Arr 2 Int))).length),rfl,hs_6,ho_7,rfl,hm.pk [0,1,2]⟩)
 ·refine jc_skip (jx_fall ?_)
  obtain rfl:=si h
  exact qr [] (fun w hm=>⟨G_o,G_c,G_sp,p4.length,rfl,G_hs,G_ho,rfl,hm.pk [0,1,2]⟩)
end
end Go.Proofs.YtolfkfjjifdmeaaGreat
