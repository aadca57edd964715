/- Functions of the program that the law reaches: a plain function each, and that the call comes to its answer if the plain function has one. Printed by a program. -/
import Derived.Test.YtolfkfjjifdmeaaGreatT
import Derived.Test.YtolfkfjjifdmeaaGreatTab
import Derived.Test.YtolfkfjjifdmeaaGreatRange
import Derived.Test.YtolfkfjjifdmeaaGreatM0
import Derived.Test.YtolfkfjjifdmeaaGreatM1
import Derived.RangeFuncBox
import Derived.Shelf.Abstract
import Derived.WalkKit
import Derived.OwnWalkIn
import Derived.TacticsInMore
import Derived.LoopNIn
import Derived.LoopIn
namespace Go.Proofs.YtolfkfjjifdmeaaGreat
open Eng
set_option linter.unusedVariables false
set_option linter.unusedSectionVars false
set_option maxRecDepth 100000
variable [dsW:DrwS]
noncomputable section
def Fc.k_2(xs_1:List (Arr 2 Int)):Option ((List (Arr 2 Int))):=some xs_1
def Fc.k_9(i_0:Int)(xs_5:List (Arr 2 Int)):Option (((List (Arr 2 Int))×Int)⊕((List (Arr 2 Int)))):=some (.inl (xs_5,(w64 (i_0+1))))
def Fc.l_12(d1:Arr 96 Int)(g2c0:GFrame)(g2c1:Arr 96 Int)(i_0:Int)(t_0e:Int):((List (Arr 2 Int))×Int)→Option (((List (Arr 2 Int))×Int)⊕((List (Arr 2 Int))))
 | (xs_2,i_3)=>(if(decide (i_3<t_0e))=true then(FaI d1 i_0 i_3).bind fun t_0k=>(if t_0k=true then(FaU i_0 i_3 g2c0 g2c1 xs_2).bind fun t_00=>some (.inl (t_00,(w64 (i_3+1)))) else some (.inl (xs_2,(w64 (i_3+1))))) else some (.inr xs_2))
def Fc.l_5(f0:GFrame)(d1:Arr 96 Int)(g2c0:GFrame)(g2c1:Arr 96 Int):((List (Arr 2 Int))×Int)→Option (((List (Arr 2 Int))×Int)⊕((List (Arr 2 Int))))
 | (xs_4,i_0)=>(if(decide (i_0<(w64 f0.fSteps)))=true then(FaF f0.fHammers).bind fun t_0e=>(loop (Fc.l_12 d1 g2c0 g2c1 i_0 t_0e) (xs_4,0)).bind fun t_0l=>Fc.k_9 i_0 t_0l else some (.inr xs_4))
def Fc(f0:GFrame)(d1:Arr 96 Int)(g2c0:GFrame)(g2c1:Arr 96 Int)(g2c2:List (Arr 2 Int)):Option ((List (Arr 2 Int))):=(loop (Fc.l_5 f0 d1 g2c0 g2c1) (g2c2,0)).bind fun t_0m=>Fc.k_2 t_0m
theorem Fc.calls(f0:GFrame)(d1:Arr 96 Int)(g2c0:GFrame)(g2c1:Arr 96 Int)(g2c2:List (Arr 2 Int))(w:World)(r:(List (Arr 2 Int))){C_a:Option Addr}{C_an:Nat}(C_c:Nat)(C_h:Rw w C_a 2 encGHammer f0.fHammers)(C_hn:f0.fHammers.length=C_an){G_a:Option Addr}{G_an:Nat}(G_c:Nat)(G_h:Rw w G_a 2 encGHammer g2c0.fHammers)(G_hn:g2c0.fHammers.length=G_an){H_b H_q:Nat}(H_h:Rw w (some ⟨H_b,H_q,none⟩) 1 encU32 g2c1.1)(E_b:Nat)(I_b:Nat)(I_o:Option Nat){I_on:Nat}{I_c:Nat}{I_sp:List Value}(I_hn:g2c2.length=I_on)(I_hs:hS I_o I_on I_c I_sp 2)(I_ho:hO I_o g2c2 I_c)(hm0:Mem w (bs [some E_b,some I_b,I_o]) [⟨some E_b,27,[(vH g2c0.fSteps),(.slice G_a G_an G_c)]⟩,⟨some I_b,127,[(.slice (mB I_o) I_on I_c)]⟩,⟨I_o,247,row encA2I64 g2c2 I_sp⟩] w)(C_ha:f0.fHammers≠ []→aB C_a∉bs [some E_b,some I_b,I_o])(G_ha:g2c0.fHammers≠ []→aB G_a∉bs [some E_b,some I_b,I_o])(H_ha:g2c1.1≠ []→aB (some ⟨H_b,H_q,none⟩)∉bs [some E_b,some I_b,I_o])(h:Fc f0 d1 g2c0 g2c1 g2c2=some r):
   Calls Tryz.prog 144 #[(.agg #[(vH f0.fSteps),(.slice C_a C_an C_c)]),(.agg (row encU32 d1.1 []).toArray),(.func (.func 204) #[] #[(vP E_b),(.pointer (some ⟨H_b,H_q,none⟩)),(vP I_b)])] w fun e w'=>∃v,e= .returned v∧(∃(mo0:Option Nat) (mc0:Nat) (ms0:List Value) (mn0:Nat),r.length=mn0∧(hS mo0 mn0 mc0 ms0 2)∧(hO mo0 r mc0)∧v= .tuple #[]∧Mem w (bs [some E_b,some I_b,I_o]) [⟨some E_b,27,[(vH g2c0.fSteps),(.slice G_a G_an G_c)]⟩,⟨some I_b,127,[(.slice (mB mo0) mn0 mc0)]⟩,⟨mo0,247,row encA2I64 r ms0⟩] w'):=by
 subst C_hn G_hn I_hn
 rw [Fc] at h
 refine enter (args:= [(.agg #[(vH f0.fSteps),(.slice C_a f0.fHammers.length C_c)]),(.agg (row encU32 d1.1 []).toArray),(.func (.func 204) #[] #[(vP E_b),(.pointer (some ⟨H_b,H_q,none⟩)),(vP I_b)])]) Tryz.func144 rfl Tryz.ntmps144 (by kernel_rfl) (L:= [⟨some E_b,27,[(vH g2c0.fSteps),(.slice G_a g2c0.fHammers.length G_c)]⟩,⟨some I_b,127,[(.slice (mB I_o) g2c2.length I_c)]⟩,⟨I_o,247,row encA2I64 g2c2 I_sp⟩]) (W:=bs [some E_b,some I_b,I_o]) hm0 (jc_seq (jc_region (tO (qa 0 (fun b_1=>jkO (tO (qa 0 (fun b_7=>jkO (qe (jx_then (jc_seq (jc_region (qh [0,3,0,0] (qe (jx_then (jc_meet (fun(j:(List (Arr 2 Int))×(Option Nat)×Nat×(List Value)×Nat)=>match j with | ⟨xs_1,o_01,cap_05,sp_08,n_09⟩=>Fc.k_2 xs_1=some r∧(xs_1.length=n_09)∧(hS o_01 n_09 cap_05 sp_08 2)∧(hO o_01 xs_1 cap_05)) (fun⟨xs_1,o_01,cap_05,sp_08,n_09⟩=> []) (fun⟨xs_1,o_01,cap_05,sp_08,n_09⟩=> [⟨some E_b,27,[(vH g2c0.fSteps),(.slice G_a g2c0.fHammers.length G_c)]⟩,⟨some I_b,127,[(.slice (mB o_01) n_09 cap_05)]⟩,⟨o_01,247,row encA2I64 xs_1 sp_08⟩,⟨some b_1,27,[(vH f0.fSteps),(.slice C_a f0.fHammers.length C_c)]⟩,⟨(some b_7),40,row encU32 d1.1 []⟩]) ?_ ?_))))))))))))))))
 ·refine jc_block ?_
  obtain⟨t_0m,ht_0q,hr_0r⟩:=bd h
  refine jl (fun(s:(List (Arr 2 Int))×Int) (x:(Option Nat)×Nat×(List Value)×Nat)=>match s,x with | ⟨xs_4,i_0⟩,⟨o_8,cap_02,sp_06,n_0a⟩=>(xs_4.length=n_0a)∧(hS o_8 n_0a cap_02 sp_06 2)∧(hO o_8 xs_4 cap_02)) (fun⟨xs_4,i_0⟩ ⟨o_8,cap_02,sp_06,n_0a⟩=> [(2,[],(.func (.func 204) #[] #[(vP E_b),(.pointer (some ⟨H_b,H_q,none⟩)),(vP I_b)])),(3,[],(vP b_1)),(4,[],(vP b_7)),(10,[],(vI (w64 f0.fSteps))),(11,[],(vI i_0))]) (fun⟨xs_4,i_0⟩ ⟨o_8,cap_02,sp_06,n_0a⟩=> [⟨some E_b,27,[(vH g2c0.fSteps),(.slice G_a g2c0.fHammers.length G_c)]⟩,⟨some I_b,127,[(.slice (mB o_8) n_0a cap_02)]⟩,⟨o_8,247,row encA2I64 xs_4 sp_06⟩,⟨some b_1,27,[(vH f0.fSteps),(.slice C_a f0.fHammers.length C_c)]⟩,⟨(some b_7),40,row encU32 d1.1 []⟩]) ht_0q ⟨I_o,I_c,I_sp,g2c2.length⟩ ⟨rfl,I_hs,I_ho⟩ [0,1,2,3,4] ?_
  rintro⟨xs_4,i_0⟩ ⟨o_8,cap_02,sp_06,n_0a⟩ y_0n ⟨rfl,hs_0o,ho_0p⟩ h
  rw [Fc.l_5] at h
  refine jc_seq (jc_region (qh [0] (qe (jx_then (jc_seq (qi h (fun h=> ?_) (fun h=> ?_)))))))
  ·refine jc_skip (jx_then (jc_seq (jc_block (jc_seq (jc_region (qh [0,0] (qe (jx_then (jc_seq (jc_region (qh [0,3] ?_)))))))))))
   obtain⟨t_0e,ht_0s,h⟩:=bd h
   refine tO (pq 0 (fun w hm=>FaF.calls f0.fHammers w _ C_c (hm.exRowW C_h C_ha) rfl ht_0s) (jkO (qh [0] (qe (jx_then (jc_meet (fun(j:(List (Arr 2 Int))×(Option Nat)×Nat×(List Value)×Nat)=>match j with | ⟨xs_5,o_03,cap_07,sp_0b,n_0c⟩=>Fc.k_9 i_0 xs_5=some y_0n∧(xs_5.length=n_0c)∧(hS o_03 n_0c cap_07 sp_0b 2)∧(hO o_03 xs_5 cap_07)) (fun⟨xs_5,o_03,cap_07,sp_0b,n_0c⟩=> [(2,[],(.func (.func 204) #[] #[(vP E_b),(.pointer (some ⟨H_b,H_q,none⟩)),(vP I_b)])),(3,[],(vP b_1)),(4,[],(vP b_7)),(10,[],(vI (w64 f0.fSteps))),(11,[],(vI i_0))]) (fun⟨xs_5,o_03,cap_07,sp_0b,n_0c⟩=> [⟨some E_b,27,[(vH g2c0.fSteps),(.slice G_a g2c0.fHammers.length G_c)]⟩,⟨some I_b,127,[(.slice (mB o_03) n_0c cap_07)]⟩,⟨o_03,247,row encA2I64 xs_5 sp_0b⟩,⟨some b_1,27,[(vH f0.fSteps),(.slice C_a f0.fHammers.length C_c)]⟩,⟨(some b_7),40,row encU32 d1.1 []⟩]) ?_ ?_))))))
   ·refine jc_block ?_
    obtain⟨t_0l,ht_0t,hr_0u⟩:=bd h
    refine jl (fun(s:(List (Arr 2 Int))×Int) (x:(Option Nat)×Nat×(List Value)×Nat)=>match s,x with | ⟨xs_2,i_3⟩,⟨o_6,cap_9,sp_04,n_0d⟩=>(xs_2.length=n_0d)∧(hS o_6 n_0d cap_9 sp_04 2)∧(hO o_6 xs_2 cap_9)) (fun⟨xs_2,i_3⟩ ⟨o_6,cap_9,sp_04,n_0d⟩=> [(2,[],(.func (.func 204) #[] #[(vP E_b),(.pointer (some ⟨H_b,H_q,none⟩)),(vP I_b)])),(3,[],(vP b_1)),(4,[],(vP b_7)),(6,[],(vI i_0)),(10,[],(vI (w64 f0.fSteps))),(11,[],(vI i_0)),(16,[],(vI t_0e)),(17,[],(vI i_3))]) (fun⟨xs_2,i_3⟩ ⟨o_6,cap_9,sp_04,n_0d⟩=> [⟨some E_b,27,[(vH g2c0.fSteps),(.slice G_a g2c0.fHammers.length G_c)]⟩,⟨some I_b,127,[(.slice (mB o_6) n_0d cap_9)]⟩,⟨o_6,247,row encA2I64 xs_2 sp_04⟩,⟨some b_1,27,[(vH f0.fSteps),(.slice C_a f0.fHammers.length C_c)]⟩,⟨(some b_7),40,row encU32 d1.1 []⟩]) ht_0t ⟨o_8,cap_02,sp_06,xs_4.length⟩ ⟨rfl,hs_0o,ho_0p⟩ [0,1,2,3,4] ?_
    rintro⟨xs_2,i_3⟩ ⟨o_6,cap_9,sp_04,n_0d⟩ y_15 ⟨rfl,hs_0g,ho_0h⟩ h
    rw [Fc.l_12] at h
    refine jc_seq (jc_region (qh [0] (qe (jx_then (jc_seq (qi h (fun h=> ?_) (fun h=> ?_)))))))
    ·refine jc_skip (jx_then (jc_seq (jc_block (jc_seq (jc_region (qh [0,0] (qe (jx_then (jc_seq (jc_region (qh [0,0] ?_)))))))))))
     obtain⟨t_0k,ht_0v,h⟩:=bd h
     refine tO (pq 0 (fun w hm=>FaI.calls d1 i_0 i_3 w _ (hm.ow 4 (some b_7) 40 d1.1 [] (fun e=>nomatch e) encU32_len) ht_0v) (jkO (qe (jx_then (qi h (fun h=> ?_) (fun h=> ?_))))))
     ·refine jc_region (qh [0,0,0] ?_)
      obtain⟨t_00,ht_0w,h⟩:=bd h
      refine tO (pc 0 (fun w hm=>FaU.calls i_0 i_3 g2c0 g2c1 xs_2 w _ G_c (hm.exRowW G_h G_ha) rfl (hm.exRowW H_h H_ha) E_b I_b o_6 rfl hs_0g ho_0h (hm.ps (N:= [⟨some E_b,27,[(vH g2c0.fSteps),(.slice G_a g2c0.fHammers.length G_c)]⟩,⟨some I_b,127,[(.slice (mB o_6) xs_2.length cap_9)]⟩,⟨o_6,247,row encA2I64 xs_2 sp_04⟩]) [0,1,2]) (hm.xp G_h G_ha [0,1,2]) (hm.xp H_h H_ha [0,1,2]) ht_0w) ?_)
      rintro w v w' hm ⟨o_0f,cap_0i,sp_0j,_,rfl,hs_0x,ho_0y,rfl,hm'⟩
      refine⟨_,Mem.pick (hm.appP (ps:= [(0,⟨some E_b,27,[(vH g2c0.fSteps),(.slice G_a g2c0.fHammers.length G_c)]⟩),(1,⟨some I_b,127,[(.slice (mB o_0f) t_00.length cap_0i)]⟩)]) (ds:= [2]) (N:= [⟨o_0f,247,row encA2I64 t_00 sp_0j⟩]) hm' [0,1,2] (by kernel_rfl) (by kernel_rfl) (by kernel_rfl)) (N:= [⟨some E_b,27,[(vH g2c0.fSteps),(.slice G_a g2c0.fHammers.length G_c)]⟩,⟨some I_b,127,[(.slice (mB o_0f) t_00.length cap_0i)]⟩,⟨o_0f,247,row encA2I64 t_00 sp_0j⟩,⟨some b_1,27,[(vH f0.fSteps),(.slice C_a f0.fHammers.length C_c)]⟩,⟨(some b_7),40,row encU32 d1.1 []⟩]) [0,1,5,3,4] (by kernel_rfl) (by kernel_rfl),jkO ?_⟩
      clear hm hm'
      exact qe (jx_inn (jx_then (jc_region (qh [0,0] (qe (qb (t_00,(w64 (i_3+1))) ⟨o_0f,cap_0i,sp_0j,t_00.length⟩ h ⟨rfl,hs_0x,ho_0y⟩ [0,1,2,3,4]))))))
     ·exact jc_skip (jx_inn (jx_then (jc_region (qh [0,0] (qe (qb (xs_2,(w64 (i_3+1))) ⟨o_6,cap_9,sp_04,xs_2.length⟩ h ⟨rfl,hs_0g,ho_0h⟩ [0,1,2,3,4]))))))
    ·refine jc_exit (jx_thenx (jx_leave xs_2 (sj h) (fun e_0z=> ?_)))
     subst e_0z
     exact jx_ine (qm ⟨xs_2,o_6,cap_9,sp_04,xs_2.length⟩ ⟨hr_0u,rfl,hs_0g,ho_0h⟩ [0,1,2,3,4])
   ·rintro⟨xs_5,o_03,cap_07,sp_0b,n_0c⟩ ⟨h,rfl,hs_10,ho_11⟩
    replace h:Fc.k_9 i_0 xs_5=some y_0n:=h
    rw [Fc.k_9] at h
    exact jx_inn (jx_then (jc_region (qh [0,0] (qe (qb (xs_5,(w64 (i_0+1))) ⟨o_03,cap_07,sp_0b,xs_5.length⟩ h ⟨rfl,hs_10,ho_11⟩ [0,1,2,3,4])))))
  ·refine jc_exit (jx_thenx (jx_leave xs_4 (sj h) (fun e_12=> ?_)))
   subst e_12
   exact jx_ine (qm ⟨xs_4,o_8,cap_02,sp_06,xs_4.length⟩ ⟨hr_0r,rfl,hs_0o,ho_0p⟩ [0,1,2,3,4])
 ·rintro⟨xs_1,o_01,cap_05,sp_08,n_09⟩ ⟨h,rfl,hs_13,ho_14⟩
  replace h:Fc.k_2 xs_1=some r:=h
  rw [Fc.k_2] at h
  refine jx_fall ?_
  obtain rfl:=si h
  exact qr [] (fun w hm=>⟨o_01,cap_05,sp_08,xs_1.length,rfl,hs_13,ho_14,rfl,hm.pk [0,1,2]⟩)
def FaQ(f0:GFrame)(d1:Arr 96 Int):Option ((List (Arr 2 Int))):=(Fc f0 d1 f0 d1 ([]:List (Arr 2 Int))).bind fun t_0=>some t_0
theorem FaQ.calls(f0:GFrame)(d1:Arr 96 Int)(w:World)(r:(List (Arr 2 Int))){C_a:Option Addr}{C_an:Nat}(C_c:Nat)(C_h:Rw w C_a 2 encGHammer f0.fHammers)(C_hn:f0.fHammers.length=C_an)(h:FaQ f0 d1=some r):
   Calls Tryz.prog 153 #[(.agg #[(vH f0.fSteps),(.slice C_a C_an C_c)]),(.agg (row encU32 d1.1 []).toArray)] w fun e w'=>∃v,e= .returned v∧(∃(o0:Option Nat) (c0:Nat) (s0:List Value) (n0:Nat),r.length=n0∧(hS o0 n0 c0 s0 2)∧(hO o0 r c0)∧v= .slice (mB o0) n0 c0∧Mem w [] [⟨o0,247,row encA2I64 r s0⟩] w'):=by
 subst C_hn
 rw [FaQ] at h
 refine en Tryz.func153 rfl Tryz.ntmps153 (jc_seq (jc_region (tO (qa 0 (fun b_0=>jkO (tO (qa 0 (fun b_2=>jkO (qh [0] (qe (jx_then (jc_seq (jc_region (tO (qa 0 (fun b_4=>jkO (tO (qa 0 (fun b_3=>jkO (tO (qs 0 [3] (jkO (qe (jx_then (jc_seq (jc_region (qh [0] (tO (pL 0 1 b_2 96 1 40 encU32 d1 encU32_len (jkO (qh [0] ?_)))))))))))))))))))))))))))))))
 obtain⟨t_0,ht_7,h⟩:=bd h
 refine tO (pc 0 (fun w hm=>Fc.calls f0 d1 f0 d1 ([]:List (Arr 2 Int)) w _ C_c (hm.xr C_h) rfl C_c (hm.xr C_h) rfl (hm.ow 1 (some b_2) 40 d1.1 [] (fun e=>nomatch e) encU32_len) b_0 b_3 (some b_4) rfl (fun _=>⟨Nat.le_refl _,by simp⟩) (fun e=>nomatch e) (hm.ps (N:= [⟨some b_0,27,[(vH f0.fSteps),(.slice C_a f0.fHammers.length C_c)]⟩,⟨some b_3,127,[(.slice (sB b_4) 0 0)]⟩,⟨(some b_4),247,row encA2I64 ([]:List (Arr 2 Int)) []⟩]) [0,3,2]) (hm.xp C_h (fun _=>List.not_mem_nil) [0,3,2]) (hm.xp C_h (fun _=>List.not_mem_nil) [0,3,2]) (hm.oa 1 (some b_2) (fun e=>nomatch e) [0,3,2]) ht_7) ?_)
 rintro w v w' hm ⟨o_1,cap_5,sp_6,_,rfl,hs_8,ho_9,rfl,hm'⟩
 refine⟨_,Mem.pick (hm.appP (ps:= [(0,⟨some b_0,27,[(vH f0.fSteps),(.slice C_a f0.fHammers.length C_c)]⟩),(3,⟨some b_3,127,[(.slice (mB o_1) t_0.length cap_5)]⟩)]) (ds:= [2]) (N:= [⟨o_1,247,row encA2I64 t_0 sp_6⟩]) hm' [0,1,2] (by kernel_rfl) (by kernel_rfl) (by kernel_rfl)) (N:= [⟨some b_0,27,[(vH f0.fSteps),(.slice C_a f0.fHammers.length C_c)]⟩,⟨(some b_2),40,row encU32 d1.1 []⟩,⟨o_1,247,row encA2I64 t_0 sp_6⟩,⟨some b_3,127,[(.slice (mB o_1) t_0.length cap_5)]⟩]) [0,1,4,3] (by kernel_rfl) (by kernel_rfl),jkO ?_⟩
 clear hm hm'
 refine qe (jx_then (jc_seq (jc_region (qh [3,0] (qe (jx_then (jc_ret ?_)))))))
 obtain rfl:=si h
 exact qr [] (fun w hm=>⟨o_1,cap_5,sp_6,t_0.length,rfl,hs_8,ho_9,rfl,hm.pk [2]⟩)
def FbA(f0:GFrame)(d1:Arr 96 Int):Option ((List (Arr 2 Int))×Int):=(FaO f0 ([d1]:List (Arr 96 Int))).bind fun t_1=>(if(t_1 !=0)=true then some ([],t_1) else(FaQ f0 d1).bind fun t_0=>some (t_0,0))
theorem FbA.calls(f0:GFrame)(d1:Arr 96 Int)(w:World)(r:(List (Arr 2 Int))×Int){C_a:Option Addr}{C_an:Nat}(C_c:Nat)(C_h:Rw w C_a 2 encGHammer f0.fHammers)(C_hn:f0.fHammers.length=C_an)(h:FbA f0 d1=some r):
   Calls Tryz.prog 80 #[(.agg #[(vH f0.fSteps),(.slice C_a C_an C_c)]),(.agg (row encU32 d1.1 []).toArray)] w fun e w'=>∃v,e= .returned v∧(∃(o0:Option Nat) (c0:Nat) (s0:List Value) (n0:Nat),r.1.length=n0∧(hS o0 n0 c0 s0 2)∧(hO o0 r.1 c0)∧v= .tuple #[.slice (mB o0) n0 c0,(vI r.2)]∧Mem w [] [⟨o0,247,row encA2I64 r.1 s0⟩] w'):=by
 subst C_hn
 rw [FbA] at h
 refine en Tryz.func80 rfl Tryz.ntmps80 (jc_seq (jc_region (tO (qa 0 (fun b_1=>jkO (tO (qa 0 (fun b_0=>jkO (qh [0,0] (qe (jx_then (jc_seq (jc_seq (jc_region (qh [0] (tO (pL 0 1 b_0 96 1 40 encU32 d1 encU32_len (jkO (tO (pB_ 0 40 96 1 encA96U32 [(.agg (row encU32 d1.1 []).toArray)] [d1] rfl encA96U32_len (fun b_2=>jkO ?_)))))))))))))))))))))
 obtain⟨t_1,ht_3,h⟩:=bd h
 refine tO (pq 0 (fun w hm=>FaO.calls f0 ([d1]:List (Arr 96 Int)) w _ C_c (hm.xr C_h) rfl 1 (hm.ow 2 (some b_2) 40 ([d1]:List (Arr 96 Int)) [] (fun e=>nomatch e) encA96U32_len) rfl ht_3) (jkO (qh [0] (qe (jx_then (jc_seq (jc_region (qh [0,0] (qe (jx_then (qi h (fun h=> ?_) (fun h=> ?_))))))))))))
 ·refine jc_seq (jc_region (qh [0,0,0] (qe (jx_then (jc_ret (jx_thenr ?_))))))
  obtain rfl:=si h
  exact jx_ghost 247 encA2I64 (qr [] (fun w hm=>⟨none,0,[],0,rfl,(fun e=>absurd rfl e),(fun _=>⟨rfl,rfl⟩),rfl,hm.pk [3]⟩))
 ·refine jc_skip (jx_then (jc_seq (jc_region (qh [0] (tO (pL 0 1 b_0 96 1 40 encU32 d1 encU32_len (jkO ?_)))))))
  obtain⟨t_0,ht_4,h⟩:=bd h
  refine tO (pc 0 (fun w hm=>FaQ.calls f0 d1 w _ C_c (hm.xr C_h) rfl ht_4) ?_)
  rintro w v w' hm ⟨o_5,cap_6,sp_7,_,rfl,hs_8,ho_9,rfl,hm'⟩
  refine aq hm hm' (jkO (qh [0,0] (qe (jx_then (jc_ret ?_)))))
  obtain rfl:=si h
  exact qr [] (fun w hm=>⟨o_5,cap_6,sp_7,t_0.length,rfl,hs_8,ho_9,rfl,hm.pk [3]⟩)
def Fbi(f0:GFrame)(d1:Arr 96 Int):Option (Bool×Int):=(FbA f0 d1).bind fun t_0=>some (((t_0.2==0)&&((t_0.1.length:Int)==0)),t_0.2)
theorem Fbi.calls(f0:GFrame)(d1:Arr 96 Int)(w:World)(r:Bool×Int){C_a:Option Addr}{C_an:Nat}(C_c:Nat)(C_h:Rw w C_a 2 encGHammer f0.fHammers)(C_hn:f0.fHammers.length=C_an)(h:Fbi f0 d1=some r):
   Calls Tryz.prog 16 #[(.agg #[(vH f0.fSteps),(.slice C_a C_an C_c)]),(.agg (row encU32 d1.1 []).toArray)] w fun e w'=>∃v,e= .returned v∧(v= .tuple #[(.bool r.1),(vI r.2)]∧Mem w [] [] w'):=by
 subst C_hn
 rw [Fbi] at h
 refine en Tryz.func16 rfl Tryz.ntmps16 (jc_seq (jc_region (tO (qa 0 (fun b_0=>jkO (tO (qa 0 (fun b_1=>jkO (qh [0,0] (qe (jx_then (jc_seq (jc_region (qh [0] (tO (pL 0 1 b_1 96 1 40 encU32 d1 encU32_len (jkO ?_)))))))))))))))))
 obtain⟨t_0,ht_2,h⟩:=bd h
 refine tO (pc 0 (fun w hm=>FbA.calls f0 d1 w _ C_c (hm.xr C_h) rfl ht_2) ?_)
 rintro w v w' hm ⟨o_3,cap_4,sp_5,_,rfl,hs_6,ho_7,rfl,hm'⟩
 refine aq hm hm' (jkO (qh [0,0,0,0,0] (qe (jx_then (jc_seq (jc_region (qf [(0,0),(0,0),(0,0),(0,1),(0,1),(0,1),(0,0),(0,0),(0,0),(0,0)] (qe (jx_then (jc_ret ?_))))))))))
 obtain rfl:=si h
 exact qr [] (fun w hm=>⟨rfl,hm.pk []⟩)
def Fam.k_3(i_2:Int):Option (Int×Int):=some (i_2,0)
def Fam.l_6(f0:GFrame):(Int×Int)→Option ((Int×Int)⊕(Int))
 | (i_0,i_1)=>(if(decide (i_1<(f0.fHammers.length:Int)))=true then(ix f0.fHammers i_1).bind fun x_3=>(if 0≤x_3.fPitch then some (.inl ((bOr .u64 i_0 (bShl .u64 1 x_3.fPitch)),(w64 (i_1+1)))) else none) else some (.inr i_0))
def Fam(f0:GFrame):Option (Int×Int):=(FaK f0).bind fun t_4=>(if(!t_4)=true then some (0,1) else(loop (Fam.l_6 f0) (0,0)).bind fun t_6=>Fam.k_3 t_6)
theorem Fam.calls(f0:GFrame)(w:World)(r:Int×Int){C_a:Option Addr}{C_an:Nat}(C_c:Nat)(C_h:Rw w C_a 2 encGHammer f0.fHammers)(C_hn:f0.fHammers.length=C_an)(h:Fam f0=some r):
   Calls Tryz.prog 17 #[(.agg #[(vH f0.fSteps),(.slice C_a C_an C_c)])] w fun e w'=>∃v,e= .returned v∧(v= .tuple #[(.int .u64 r.1),(vI r.2)]∧Mem w [] [] w'):=by
 subst C_hn
 rw [Fam] at h
 refine en Tryz.func17 rfl Tryz.ntmps17 (jc_seq (jc_region (tO (qa 0 (fun b_4=>jkO (qh [0,0] (qe (jx_then (jc_seq (jc_seq (jc_region (qh [0] ?_))))))))))))
 obtain⟨t_4,ht_0,h⟩:=bd h
 refine tO (pq 0 (fun w hm=>FaK.calls f0 w _ C_c (hm.xr C_h) rfl ht_0) (jkO (qh [0] (qe (jx_then (qi h (fun h=> ?_) (fun h=> ?_)))))))
 ·refine jc_seq (jc_region (qh [0,0] (qe (jx_then (jc_ret (jx_thenr ?_))))))
  obtain rfl:=si h
  exact qr [] (fun w hm=>⟨rfl,hm.pk []⟩)
 ·refine jc_skip (jx_then (jc_seq (jc_region (qh [0] (qe (jx_then (jc_seq (jc_seq (jc_region (qh [0,0,0,0] (qe (jx_then (jc_meet (fun(i_2:Int)=>Fam.k_3 i_2=some r) (fun i_2=> [(2,[],(.int .u64 0)),(3,[],(vI 0)),(4,[],(.int .u64 i_2))]) (fun i_2=> [⟨some b_4,27,[(vH f0.fSteps),(.slice C_a f0.fHammers.length C_c)]⟩]) ?_ ?_)))))))))))))
  ·refine jc_block ?_
   obtain⟨t_6,ht_7,hr_8⟩:=bd h
   refine jl (fun(s:Int×Int) (x:Unit)=>match s,x with | ⟨i_0,i_1⟩,_=>True) (fun⟨i_0,i_1⟩ _=> [(2,[],(.int .u64 0)),(3,[],(vI 0)),(4,[],(.int .u64 i_0)),(11,[],(.slice C_a f0.fHammers.length C_c)),(12,[],(vI (f0.fHammers.length:Int))),(13,[],(vI i_1))]) (fun⟨i_0,i_1⟩ _=> [⟨some b_4,27,[(vH f0.fSteps),(.slice C_a f0.fHammers.length C_c)]⟩]) ht_7 () trivial [0] ?_
   rintro⟨i_0,i_1⟩ _ y_01 _ h
   rw [Fam.l_6] at h
   refine jc_seq (jc_region (qh [0] (qe (jx_then (jc_seq (qi h (fun h=> ?_) (fun h=> ?_)))))))
   ·refine jc_skip (jx_then (jc_seq (jc_block (jc_seq (jc_region ?_)))))
    obtain⟨x_3,hx_5,h⟩:=bd h
    refine tO (qx 0 C_a 2 hx_5 rfl (C_h.sp hx_5) (jkO (tO (ql 0 true (fun w hm=>((hm.xr C_h).at hx_5)) (jkO (tO (qa 0 (fun b_02=>jkO (tO (qs 0 [1] (jkO (qe (jx_then (jc_region (qh [0,0,1] ?_)))))))))))))))
    obtain⟨hg_9,h⟩:=gd h
    exact tO (pV 0 .u64 1 .i8 x_3.fPitch hg_9 (jkO (qh [0,0] (qe (jx_inn (jx_then (jc_region (qh [0,0] (qe (qb ((bOr .u64 i_0 (bShl .u64 1 x_3.fPitch)),(w64 (i_1+1))) () h trivial [0]))))))))))
   ·refine jc_exit (jx_thenx (jx_leave i_0 (sj h) (fun e_00=> ?_)))
    subst e_00
    exact jx_ine (qm i_0 hr_8 [0])
  ·rintro i_2 h
   replace h:Fam.k_3 i_2=some r:=h
   rw [Fam.k_3] at h
   refine jx_then (jc_seq (jc_region (qh [0,0,0] (qe (jx_then (jc_ret ?_))))))
   obtain rfl:=si h
   exact qr [] (fun w hm=>⟨rfl,hm.pk []⟩)
def F6.k_2(i_2:Int):Option (Int):=some i_2
def F6.l_5(t0:List GNote):(Int×Int)→Option ((Int×Int)⊕(Int))
 | (i_0,i_1)=>(if(decide (i_1<(t0.length:Int)))=true then(ix t0 i_1).bind fun x_3=>(if 0≤x_3.fPitch then some (.inl ((bOr .u64 i_0 (bShl .u64 1 x_3.fPitch)),(w64 (i_1+1)))) else none) else some (.inr i_0))
def F6(t0:List GNote):Option (Int):=(loop (F6.l_5 t0) (0,0)).bind fun t_5=>F6.k_2 t_5
theorem F6.calls(t0:List GNote)(w:World)(r:Int){A_a:Option Addr}{A_an:Nat}(A_c:Nat)(A_h:Rw w A_a 2 encGNote t0)(A_hn:t0.length=A_an)(h:F6 t0=some r):
   Calls Tryz.prog 159 #[(.slice A_a A_an A_c)] w fun e w'=>∃v,e= .returned v∧(v=(.int .u64 r)∧Mem w [] [] w'):=by
 subst A_hn
 rw [F6] at h
 refine en Tryz.func159 rfl Tryz.ntmps159 (jc_seq (jc_region (qh [0] (qe (jx_then (jc_seq (jc_region (qh [0] (qe (jx_then (jc_seq (jc_seq (jc_region (qh [0,0,0] (qe (jx_then (jc_meet (fun(i_2:Int)=>F6.k_2 i_2=some r) (fun i_2=> [(2,[],(.int .u64 0)),(3,[],(.int .u64 i_2))]) (fun i_2=> []) ?_ ?_)))))))))))))))))
 ·refine jc_block ?_
  obtain⟨t_5,ht_6,hr_7⟩:=bd h
  refine jl (fun(s:Int×Int) (x:Unit)=>match s,x with | ⟨i_0,i_1⟩,_=>True) (fun⟨i_0,i_1⟩ _=> [(2,[],(.int .u64 0)),(3,[],(.int .u64 i_0)),(6,[],(.slice A_a t0.length A_c)),(7,[],(vI (t0.length:Int))),(8,[],(vI i_1))]) (fun⟨i_0,i_1⟩ _=> []) ht_6 () trivial [] ?_
  rintro⟨i_0,i_1⟩ _ y_00 _ h
  rw [F6.l_5] at h
  refine jc_seq (jc_region (qh [0] (qe (jx_then (jc_seq (qi h (fun h=> ?_) (fun h=> ?_)))))))
  ·refine jc_skip (jx_then (jc_seq (jc_block (jc_seq (jc_region ?_)))))
   obtain⟨x_3,hx_4,h⟩:=bd h
   refine tO (qx 0 A_a 2 hx_4 rfl (A_h.sp hx_4) (jkO (tO (ql 0 true (fun w hm=>((hm.xr A_h).at hx_4)) (jkO (tO (qa 0 (fun b_01=>jkO (tO (qs 0 [0] (jkO (qe (jx_then (jc_region (qh [0,0,0] ?_)))))))))))))))
   obtain⟨hg_8,h⟩:=gd h
   exact tO (pV 0 .u64 1 .i8 x_3.fPitch hg_8 (jkO (qh [0,0] (qe (jx_inn (jx_then (jc_region (qh [0,0] (qe (qb ((bOr .u64 i_0 (bShl .u64 1 x_3.fPitch)),(w64 (i_1+1))) () h trivial []))))))))))
  ·refine jc_exit (jx_thenx (jx_leave i_0 (sj h) (fun e_9=> ?_)))
   subst e_9
   exact jx_ine (qm i_0 hr_7 [])
 ·rintro i_2 h
  replace h:F6.k_2 i_2=some r:=h
  rw [F6.k_2] at h
  refine jx_then (jc_seq (jc_region (qh [0,0] (qe (jx_then (jc_ret ?_))))))
  obtain rfl:=si h
  exact qr [] (fun w hm=>⟨rfl,hm.pk []⟩)
def Fbw(bells0:Int)(t1:List GNote):Option (Int×Int):=(Fa6 [t1]).bind fun t_0=>(if(t_0 !=0)=true then some (0,t_0) else(F6 t1).bind fun t_1=>some ((bClr .u64 t_1 bells0),0))
theorem Fbw.calls(bells0:Int)(t1:List GNote)(w:World)(r:Int×Int){B_a:Option Addr}{B_an:Nat}(B_c:Nat)(B_h:Rw w B_a 2 encGNote t1)(B_hn:t1.length=B_an)(h:Fbw bells0 t1=some r):
   Calls Tryz.prog 82 #[(.int .u64 bells0),(.slice B_a B_an B_c)] w fun e w'=>∃v,e= .returned v∧(v= .tuple #[(.int .u64 r.1),(vI r.2)]∧Mem w [] [] w'):=by
 subst B_hn
 rw [Fbw] at h
 refine en Tryz.func82 rfl Tryz.ntmps82 (jc_seq (jc_region (qh [0,0] (qe (jx_then (jc_seq (jc_seq (jc_region (qh [0] (tO (qa 0 (fun b_2=>jkO ?_))))))))))))
 obtain⟨t_0,ht_3,h⟩:=bd h
 refine tO (pq 0 (fun w hm=>Fa6.calls [t1] w _ 1 (hm.ow 0 (some b_2) 29 ([(Hd.mk B_a t1.length B_c)]) [] (fun e=>nomatch e) encHd_len) rfl (Inn.cons (hm.xr B_h) rfl (fun _=>List.not_mem_nil) Inn.nil) ht_3) (jkO (qh [0] (qe (jx_then (jc_seq (jc_region (qh [0,0] (qe (jx_then (qi h (fun h=> ?_) (fun h=> ?_))))))))))))
 ·refine jc_seq (jc_region (qh [0,0,0] (qe (jx_then (jc_ret (jx_thenr ?_))))))
  obtain rfl:=si h
  exact qr [] (fun w hm=>⟨rfl,hm.pk []⟩)
 ·refine jc_skip (jx_then (jc_seq (jc_region (qh [0] ?_))))
  obtain⟨t_1,ht_4,h⟩:=bd h
  refine tO (pq 0 (fun w hm=>F6.calls t1 w _ B_c (hm.xr B_h) rfl ht_4) (jkO (qh [0,0,0,0] (qe (jx_then (jc_ret ?_))))))
  obtain rfl:=si h
  exact qr [] (fun w hm=>⟨rfl,hm.pk []⟩)
def FbH(bells0:Int)(t1:List GNote):Option (Bool×Int):=(Fbw bells0 t1).bind fun t_0=>some (((t_0.2==0)&&(t_0.1==0)),t_0.2)
theorem FbH.calls(bells0:Int)(t1:List GNote)(w:World)(r:Bool×Int){B_a:Option Addr}{B_an:Nat}(B_c:Nat)(B_h:Rw w B_a 2 encGNote t1)(B_hn:t1.length=B_an)(h:FbH bells0 t1=some r):
   Calls Tryz.prog 18 #[(.int .u64 bells0),(.slice B_a B_an B_c)] w fun e w'=>∃v,e= .returned v∧(v= .tuple #[(.bool r.1),(vI r.2)]∧Mem w [] [] w'):=by
 subst B_hn
 rw [FbH] at h
 refine en Tryz.func18 rfl Tryz.ntmps18 (jc_seq (jc_region (qh [0,0] (qe (jx_then (jc_seq (jc_region (qh [0,0] ?_))))))))
 obtain⟨t_0,ht_0,h⟩:=bd h
 refine tO (pq 0 (fun w hm=>Fbw.calls bells0 t1 w _ B_c (hm.xr B_h) rfl ht_0) (jkO (qh [0,0,0,0,0] (qe (jx_then (jc_seq (jc_region (qf [(0,0),(0,0),(0,0),(0,1),(0,1),(0,0),(0,0),(0,0),(0,0)] (qe (jx_then (jc_ret ?_)))))))))))
 obtain rfl:=si h
 exact qr [] (fun w hm=>⟨rfl,hm.pk []⟩)
def FN.k_1:Option (Bool):=some true
def FN.l_3(a0:List GChoice)(b1:List GChoice):Int→Option ((Int)⊕(Bool⊕Unit))
 | i_0=>(if(decide (i_0<(a0.length:Int)))=true then(ix a0 i_0).bind fun x_1=>(ix b1 i_0).bind fun x_2=>(if(!((x_1.fAway==x_2.fAway)&&((x_1.fLate==x_2.fLate)&&((x_1.fOctave==x_2.fOctave)&&(x_1.fTrack==x_2.fTrack)))))=true then some (.inr (.inl false)) else some (.inl (w64 (i_0+1)))) else some (.inr (.inr ())))
def FN(a0:List GChoice)(b1:List GChoice):Option (Bool):=(if((a0.length:Int) !=(b1.length:Int))=true then some false else(loop (FN.l_3 a0 b1) 0).bind fun t_5=>match t_5 with | .inl p=>some p | .inr p=>FN.k_1)
theorem FN.calls(a0:List GChoice)(b1:List GChoice)(w:World)(r:Bool){A_a:Option Addr}{A_an:Nat}(A_c:Nat)(A_h:Rw w A_a 4 encGChoice a0)(A_hn:a0.length=A_an){B_a:Option Addr}{B_an:Nat}(B_c:Nat)(B_h:Rw w B_a 4 encGChoice b1)(B_hn:b1.length=B_an)(h:FN a0 b1=some r):
   Calls Tryz.prog 19 #[(.slice A_a A_an A_c),(.slice B_a B_an B_c)] w fun e w'=>∃v,e= .returned v∧(v=(.bool r)∧Mem w [] [] w'):=by
 subst A_hn B_hn
 rw [FN] at h
 refine en Tryz.func19 rfl Tryz.ntmps19 (jc_seq (jc_region (qh [0] (qe (jx_then (jc_seq (jc_seq (jc_region (qh [0,0,0,0,0] (qe (jx_then (qi h (fun h=> ?_) (fun h=> ?_)))))))))))))
 ·refine jc_seq (jc_region (qh [0] (qe (jx_then (jc_ret (jx_thenr ?_))))))
  obtain rfl:=si h
  exact qr [] (fun w hm=>⟨rfl,hm.pk []⟩)
 ·refine jc_skip (jx_then (jc_seq (jc_seq (jc_region (qh [0] (qe (jx_then (jc_meet (fun(_:Unit)=>FN.k_1=some r) (fun(_:Unit)=> [(4,[],(.bool false))]) (fun(_:Unit)=> []) ?_ ?_))))))))
  ·refine jc_block ?_
   obtain⟨t_5,ht_7,hr_6⟩:=bd h
   refine jl (fun(i_0:Int) (_:Unit)=>True) (fun i_0 _=> [(0,[],(.slice A_a a0.length A_c)),(1,[],(.slice B_a b1.length B_c)),(4,[],(.bool false)),(5,[],(vI i_0))]) (fun i_0 _=> []) ht_7 () trivial [] ?_
   rintro i_0 _ y_00 _ h
   rw [FN.l_3] at h
   refine jc_seq (jc_seq (jc_region (qh [0,0,0,0] (qe (jx_then (qi h (fun h=> ?_) (fun h=> ?_)))))))
   ·refine jc_skip (jx_then (jc_seq (jc_block (jc_seq (qg [] 9 (qd [⟨0,0,0⟩,⟨1,0,0⟩,⟨4,0,0⟩,⟨5,0,0⟩] 5 [] ?_))))))
    obtain⟨x_1,hx_3,h⟩:=bd h
    refine qX 2 0 [] A_a 4 hx_3 rfl (A_h.sp hx_3) (qL 3 0 [] true (fun w hm=>(hm.xr A_h).at hx_3) ?_)
    obtain⟨x_2,hx_4,h⟩:=bd h
    refine qX 6 0 [] B_a 4 hx_4 rfl (B_h.sp hx_4) (qL 7 0 [] true (fun w hm=>(hm.xr B_h).at hx_4) (qd [⟨8,0,0⟩] 0 [] (qz (jx_then (qi h (fun h=> ?_) (fun h=> ?_))))))
    ·refine jc_seq (jc_region (qh [0] (qe (jx_then (jc_ret (jx_inr (jx_thenr (jx_leaver (.inl false) (sj h) (fun e_8=> ?_)))))))))
     subst e_8
     refine jx_inr (jx_thenr (jx_thenr ?_))
     obtain rfl:=si hr_6
     exact qr [] (fun w hm=>⟨rfl,hm.pk []⟩)
    ·exact jc_skip (jx_inn (jx_then (jc_region (qh [0,0,0] (qe (qb (w64 (i_0+1)) () h trivial []))))))
   ·refine jc_exit (jx_thenx (jx_leave (.inr ()) (sj h) (fun e_9=> ?_)))
    subst e_9
    exact jx_ine (qm () hr_6 [])
  ·rintro _ h
   replace h:FN.k_1=some r:=h
   rw [FN.k_1] at h
   refine jx_then (jc_seq (jc_region (qh [0] (qe (jx_then (jc_ret ?_))))))
   obtain rfl:=si h
   exact qr [] (fun w hm=>⟨rfl,hm.pk []⟩)
def Far.k_1:Option (Bool):=some true
def Far.l_3(a0:List GNote)(b1:List GNote):Int→Option ((Int)⊕(Bool⊕Unit))
 | i_0=>(if(decide (i_0<(a0.length:Int)))=true then(ix a0 i_0).bind fun x_1=>(ix b1 i_0).bind fun x_2=>(if(!((x_1.fAt==x_2.fAt)&&(x_1.fPitch==x_2.fPitch)))=true then some (.inr (.inl false)) else some (.inl (w64 (i_0+1)))) else some (.inr (.inr ())))
def Far(a0:List GNote)(b1:List GNote):Option (Bool):=(if((a0.length:Int) !=(b1.length:Int))=true then some false else(loop (Far.l_3 a0 b1) 0).bind fun t_5=>match t_5 with | .inl p=>some p | .inr p=>Far.k_1)
theorem Far.calls(a0:List GNote)(b1:List GNote)(w:World)(r:Bool){A_a:Option Addr}{A_an:Nat}(A_c:Nat)(A_h:Rw w A_a 2 encGNote a0)(A_hn:a0.length=A_an){B_a:Option Addr}{B_an:Nat}(B_c:Nat)(B_h:Rw w B_a 2 encGNote b1)(B_hn:b1.length=B_an)(h:Far a0 b1=some r):
   Calls Tryz.prog 83 #[(.slice A_a A_an A_c),(.slice B_a B_an B_c)] w fun e w'=>∃v,e= .returned v∧(v=(.bool r)∧Mem w [] [] w'):=by
 subst A_hn B_hn
 rw [Far] at h
 refine en Tryz.func83 rfl Tryz.ntmps83 (jc_seq (jc_region (qh [0] (qe (jx_then (jc_seq (jc_seq (jc_region (qh [0,0,0,0,0] (qe (jx_then (qi h (fun h=> ?_) (fun h=> ?_)))))))))))))
 ·refine jc_seq (jc_region (qh [0] (qe (jx_then (jc_ret (jx_thenr ?_))))))
  obtain rfl:=si h
  exact qr [] (fun w hm=>⟨rfl,hm.pk []⟩)
 ·refine jc_skip (jx_then (jc_seq (jc_seq (jc_region (qh [0] (qe (jx_then (jc_meet (fun(_:Unit)=>Far.k_1=some r) (fun(_:Unit)=> [(4,[],(.bool false))]) (fun(_:Unit)=> []) ?_ ?_))))))))
  ·refine jc_block ?_
   obtain⟨t_5,ht_7,hr_6⟩:=bd h
   refine jl (fun(i_0:Int) (_:Unit)=>True) (fun i_0 _=> [(0,[],(.slice A_a a0.length A_c)),(1,[],(.slice B_a b1.length B_c)),(4,[],(.bool false)),(5,[],(vI i_0))]) (fun i_0 _=> []) ht_7 () trivial [] ?_
   rintro i_0 _ y_00 _ h
   rw [Far.l_3] at h
   refine jc_seq (jc_seq (jc_region (qh [0,0,0,0] (qe (jx_then (qi h (fun h=> ?_) (fun h=> ?_)))))))
   ·refine jc_skip (jx_then (jc_seq (jc_block (jc_seq (qg [] 9 (qd [⟨0,0,0⟩,⟨1,0,0⟩,⟨4,0,0⟩,⟨5,0,0⟩] 5 [] ?_))))))
    obtain⟨x_1,hx_3,h⟩:=bd h
    refine qX 2 0 [] A_a 2 hx_3 rfl (A_h.sp hx_3) (qL 3 0 [] true (fun w hm=>(hm.xr A_h).at hx_3) ?_)
    obtain⟨x_2,hx_4,h⟩:=bd h
    refine qX 6 0 [] B_a 2 hx_4 rfl (B_h.sp hx_4) (qL 7 0 [] true (fun w hm=>(hm.xr B_h).at hx_4) (qd [⟨8,0,0⟩] 0 [] (qz (jx_then (qi h (fun h=> ?_) (fun h=> ?_))))))
    ·refine jc_seq (jc_region (qh [0] (qe (jx_then (jc_ret (jx_inr (jx_thenr (jx_leaver (.inl false) (sj h) (fun e_8=> ?_)))))))))
     subst e_8
     refine jx_inr (jx_thenr (jx_thenr ?_))
     obtain rfl:=si hr_6
     exact qr [] (fun w hm=>⟨rfl,hm.pk []⟩)
    ·exact jc_skip (jx_inn (jx_then (jc_region (qh [0,0,0] (qe (qb (w64 (i_0+1)) () h trivial []))))))
   ·refine jc_exit (jx_thenx (jx_leave (.inr ()) (sj h) (fun e_9=> ?_)))
    subst e_9
    exact jx_ine (qm () hr_6 [])
  ·rintro _ h
   replace h:Far.k_1=some r:=h
   rw [Far.k_1] at h
   refine jx_then (jc_seq (jc_region (qh [0] (qe (jx_then (jc_ret ?_))))))
   obtain rfl:=si h
   exact qr [] (fun w hm=>⟨rfl,hm.pk []⟩)
def Fa8(a0:List GNote)(b1:List GNote):Option (Bool):=(Far a0 b1).bind fun t_0=>some t_0
theorem Fa8.calls(a0:List GNote)(b1:List GNote)(w:World)(r:Bool){A_a:Option Addr}{A_an:Nat}(A_c:Nat)(A_h:Rw w A_a 2 encGNote a0)(A_hn:a0.length=A_an){B_a:Option Addr}{B_an:Nat}(B_c:Nat)(B_h:Rw w B_a 2 encGNote b1)(B_hn:b1.length=B_an)(h:Fa8 a0 b1=some r):
   Calls Tryz.prog 20 #[(.slice A_a A_an A_c),(.slice B_a B_an B_c)] w fun e w'=>∃v,e= .returned v∧(v=(.bool r)∧Mem w [] [] w'):=by
 subst A_hn B_hn
 rw [Fa8] at h
 refine en Tryz.func20 rfl Tryz.ntmps20 (jc_seq (jc_region (qh [0] (qe (jx_then (jc_seq (jc_region (qh [0,0] ?_))))))))
 obtain⟨t_0,ht_0,h⟩:=bd h
 refine tO (pq 0 (fun w hm=>Far.calls a0 b1 w _ A_c (hm.xr A_h) rfl B_c (hm.xr B_h) rfl ht_0) (jkO (qh [0] (qe (jx_then (jc_ret ?_))))))
 obtain rfl:=si h
 exact qr [] (fun w hm=>⟨rfl,hm.pk []⟩)
def FJ.k_2(xs_1:List Int):Option ((List Int)):=some xs_1
def FJ.k_10(xs_0:List Int)(i_2:Int)(i_3:Int):Option (((List Int)×Int)⊕((List Int))):=(if xs_0.length+([i_3]:List Int).length≤4294967296 then some (.inl ((xs_0++([i_3]:List Int)),(w64 (i_2+1)))) else none)
def FJ.l_13(c2:GCosts)(t_6:(List GChoice)):(Int×Int)→Option ((Int×Int)⊕(Int))
 | (i_5,i_8)=>(if(decide (i_8<(t_6.length:Int)))=true then(ix t_6 i_8).bind fun x_09=>(Fau c2 x_09).bind fun t_07=>some (.inl ((if t_07<i_5 then t_07 else i_5),(w64 (i_8+1)))) else some (.inr i_5))
def FJ.l_5(f0:GFrame)(t1:List GNote)(c2:GCosts):((List Int)×Int)→Option (((List Int)×Int)⊕((List Int)))
 | (xs_0,i_2)=>(if(decide (i_2<(t1.length:Int)))=true then(ix t1 i_2).bind fun x_01=>(Fj f0 x_01).bind fun t_6=>(loop (FJ.l_13 c2 t_6) ((w64 c2.fAway),0)).bind fun t_0d=>FJ.k_10 xs_0 i_2 t_0d else some (.inr xs_0))
def FJ(f0:GFrame)(t1:List GNote)(c2:GCosts):Option ((List Int)):=(loop (FJ.l_5 f0 t1 c2) (([]:List Int),0)).bind fun t_0e=>FJ.k_2 t_0e
theorem FJ.calls(f0:GFrame)(t1:List GNote)(c2:GCosts)(w:World)(r:(List Int)){C_a:Option Addr}{C_an:Nat}(C_c:Nat)(C_h:Rw w C_a 2 encGHammer f0.fHammers)(C_hn:f0.fHammers.length=C_an){D_a:Option Addr}{D_an:Nat}(D_c:Nat)(D_h:Rw w D_a 2 encGNote t1)(D_hn:t1.length=D_an)(h:FJ f0 t1 c2=some r):
   Calls Tryz.prog 107 #[(.agg #[(vH f0.fSteps),(.slice C_a C_an C_c)]),(.slice D_a D_an D_c),(.agg #[(vH c2.fAway),(vH c2.fOctave),(vH c2.fStep)])] w fun e w'=>∃v,e= .returned v∧(∃(o0:Option Nat) (c0:Nat) (s0:List Value) (n0:Nat),r.length=n0∧(hS o0 n0 c0 s0 1)∧(hO o0 r c0)∧v= .slice (mB o0) n0 c0∧Mem w [] [⟨o0,2,row encI64 r s0⟩] w'):=by
 subst C_hn D_hn
 rw [FJ] at h
 refine en Tryz.func107 rfl Tryz.ntmps107 (jc_seq (jc_region (tO (qa 0 (fun b_1=>jkO (tO (qa 0 (fun b_02=>jkO (qh [0] (qe (jx_then (jc_seq (jc_region (tO (qa 0 (fun b_0=>jkO (qh [0] (qe (jx_then (jc_seq (jc_seq (jc_region (qh [0,0,0] (qe (jx_then (jc_meet (fun(j:(List Int)×(Option Nat)×Nat×(List Value)×Nat)=>match j with | ⟨xs_1,o_00,cap_03,sp_04,n_05⟩=>FJ.k_2 xs_1=some r∧(xs_1.length=n_05)∧(hS o_00 n_05 cap_03 sp_04 1)∧(hO o_00 xs_1 cap_03)) (fun⟨xs_1,o_00,cap_03,sp_04,n_05⟩=> [(6,[],(.slice none 0 0)),(7,[],(.slice (mB o_00) n_05 cap_03))]) (fun⟨xs_1,o_00,cap_03,sp_04,n_05⟩=> [⟨some b_1,27,[(vH f0.fSteps),(.slice C_a f0.fHammers.length C_c)]⟩,⟨some b_02,33,[(vH c2.fAway),(vH c2.fOctave),(vH c2.fStep)]⟩,⟨o_00,2,row encI64 xs_1 sp_04⟩]) ?_ ?_))))))))))))))))))))))))))
 ·refine jc_block ?_
  obtain⟨t_0e,ht_0l,hr_0m⟩:=bd h
  refine jl (fun(s:(List Int)×Int) (x:(Option Nat)×Nat×(List Value)×Nat)=>match s,x with | ⟨xs_0,i_2⟩,⟨o_4,cap_7,sp_9,n_06⟩=>(xs_0.length=n_06)∧(hS o_4 n_06 cap_7 sp_9 1)∧(hO o_4 xs_0 cap_7)) (fun⟨xs_0,i_2⟩ ⟨o_4,cap_7,sp_9,n_06⟩=> [(3,[],(vP b_1)),(5,[],(vP b_02)),(6,[],(.slice none 0 0)),(7,[],(.slice (mB o_4) n_06 cap_7)),(14,[],(.slice D_a t1.length D_c)),(15,[],(vI (t1.length:Int))),(16,[],(vI i_2))]) (fun⟨xs_0,i_2⟩ ⟨o_4,cap_7,sp_9,n_06⟩=> [⟨some b_1,27,[(vH f0.fSteps),(.slice C_a f0.fHammers.length C_c)]⟩,⟨some b_02,33,[(vH c2.fAway),(vH c2.fOctave),(vH c2.fStep)]⟩,⟨o_4,2,row encI64 xs_0 sp_9⟩]) ht_0l ⟨(some b_0),0,[],0⟩ ⟨rfl,(fun _=>⟨Nat.le_refl _,by simp⟩),(fun e=>nomatch e)⟩ [0,1,2] ?_
  rintro⟨xs_0,i_2⟩ ⟨o_4,cap_7,sp_9,n_06⟩ y_0f ⟨rfl,hs_0g,ho_0h⟩ h
  rw [FJ.l_5] at h
  refine jc_seq (jc_region (qh [0] (qe (jx_then (jc_seq (qi h (fun h=> ?_) (fun h=> ?_)))))))
  ·refine jc_skip (jx_then (jc_seq (jc_block (jc_seq (jc_region ?_)))))
   obtain⟨x_01,hx_0a,h⟩:=bd h
   refine tO (qx 0 D_a 2 hx_0a rfl (D_h.sp hx_0a) (jkO (tO (ql 0 true (fun w hm=>((hm.xr D_h).at hx_0a)) (jkO (tO (qa 0 (fun b_0i=>jkO (tO (qs 0 [3] (jkO (qe (jx_then (jc_seq (jc_region (qh [0,1,0,0] (qe (jx_then (jc_seq (jc_seq (jc_region (qh [0,3] ?_))))))))))))))))))))))
   obtain⟨t_6,ht_0n,h⟩:=bd h
   refine tO (pc 0 (fun w hm=>Fj.calls f0 x_01 w _ C_c (hm.xr C_h) rfl ht_0n) ?_)
   rintro w v w' hm ⟨o_08,cap_0o,sp_0b,_,rfl,hs_12,ho_0j,rfl,hm'⟩
   refine aq hm hm' (jkO (qh [0,0] (qe (jx_then (jc_meet (fun(i_3:Int)=>FJ.k_10 xs_0 i_2 i_3=some y_0f) (fun i_3=> [(3,[],(vP b_1)),(5,[],(vP b_02)),(6,[],(.slice none 0 0)),(7,[],(.slice (mB o_4) xs_0.length cap_7)),(10,[],(vI i_3)),(14,[],(.slice D_a t1.length D_c)),(15,[],(vI (t1.length:Int))),(16,[],(vI i_2))]) (fun i_3=> [⟨some b_1,27,[(vH f0.fSteps),(.slice C_a f0.fHammers.length C_c)]⟩,⟨some b_02,33,[(vH c2.fAway),(vH c2.fOctave),(vH c2.fStep)]⟩,⟨o_4,2,row encI64 xs_0 sp_9⟩,⟨some b_0i,101,[(vH x_01.fAt),(vB x_01.fPitch)]⟩,⟨o_08,104,row encGChoice t_6 sp_0b⟩]) ?_ ?_)))))
   ·refine jc_block ?_
    obtain⟨t_0d,ht_0p,hr_0q⟩:=bd h
    refine jl (fun(s:Int×Int) (x:Unit)=>match s,x with | ⟨i_5,i_8⟩,_=>True) (fun⟨i_5,i_8⟩ _=> [(3,[],(vP b_1)),(5,[],(vP b_02)),(6,[],(.slice none 0 0)),(7,[],(.slice (mB o_4) xs_0.length cap_7)),(10,[],(vI i_5)),(14,[],(.slice D_a t1.length D_c)),(15,[],(vI (t1.length:Int))),(16,[],(vI i_2)),(25,[],(.slice (mB o_08) t_6.length cap_0o)),(26,[],(vI (t_6.length:Int))),(27,[],(vI i_8))]) (fun⟨i_5,i_8⟩ _=> [⟨some b_1,27,[(vH f0.fSteps),(.slice C_a f0.fHammers.length C_c)]⟩,⟨some b_02,33,[(vH c2.fAway),(vH c2.fOctave),(vH c2.fStep)]⟩,⟨o_4,2,row encI64 xs_0 sp_9⟩,⟨some b_0i,101,[(vH x_01.fAt),(vB x_01.fPitch)]⟩,⟨o_08,104,row encGChoice t_6 sp_0b⟩]) ht_0p () trivial [0,1,2,3,4] ?_
    rintro⟨i_5,i_8⟩ _ y_13 _ h
    rw [FJ.l_13] at h
    refine jc_seq (jc_region (qh [0] (qe (jx_then (jc_seq (qi h (fun h=> ?_) (fun h=> ?_)))))))
    ·refine jc_skip (jx_then (jc_seq (jc_block (jc_seq (jc_region ?_)))))
     obtain⟨x_09,hx_0c,h⟩:=bd h
     refine tO (qx 0 (mB o_08) 4 hx_0c rfl (spo ho_0j hx_0c) (jkO (tO (ql 0 true (fun w hm=>((hm.ow 4 o_08 104 t_6 sp_0b (fun e=>(ho_0j e).1) encGChoice_len).at hx_0c)) (jkO (tO (qa 0 (fun b_14=>jkO (tO (qs 0 [5] (jkO (qe (jx_then (jc_region (qh [0,1,5] ?_)))))))))))))))
     obtain⟨t_07,ht_0r,h⟩:=bd h
     exact tO (pq 0 (fun w hm=>Fau.calls c2 x_09 w _ ht_0r) (jkO (qh [0,0] (qe (jx_inn (jx_then (jc_region (qh [0,0] (qe (qb ((if t_07<i_5 then t_07 else i_5),(w64 (i_8+1))) () h trivial [0,1,2,3,4]))))))))))
    ·refine jc_exit (jx_thenx (jx_leave i_5 (sj h) (fun e_0s=> ?_)))
     subst e_0s
     exact jx_ine (qm i_5 hr_0q [0,1,2,3,4])
   ·rintro i_3 h
    replace h:FJ.k_10 xs_0 i_2 i_3=some y_0f:=h
    rw [FJ.k_10] at h
    refine jx_then (jc_region (qh [0,0] (tO (qa 0 (fun b_0k=>jkO ?_)))))
    obtain⟨hg_0t,h⟩:=gd h
    exact tO (pA 0 2 o_4 2 xs_0.length 1 cap_7 1 8 (sB b_0k) encI64 xs_0 ([i_3]:List Int) sp_9 (vI 0) rfl rfl encI64_len encI64_cell hs_0g ho_0h (fun w hm=>(hm.ow 5 (some b_0k) 2 ([i_3]:List Int) [] (fun e=>nomatch e) encI64_len)) hg_0t (fun o_0u cap_0v sp_0w hs_0x ho_0y=>jkO (qh [0] (qe (jx_inn (jx_then (jc_region (qh [0,0] (qe (qb ((xs_0++([i_3]:List Int)),(w64 (i_2+1))) ⟨o_0u,cap_0v,sp_0w,(xs_0++([i_3]:List Int)).length⟩ h ⟨rfl,hs_0x,ho_0y⟩ [0,1,2]))))))))))
  ·refine jc_exit (jx_thenx (jx_leave xs_0 (sj h) (fun e_0z=> ?_)))
   subst e_0z
   exact jx_ine (qm ⟨xs_0,o_4,cap_7,sp_9,xs_0.length⟩ ⟨hr_0m,rfl,hs_0g,ho_0h⟩ [0,1,2])
 ·rintro⟨xs_1,o_00,cap_03,sp_04,n_05⟩ ⟨h,rfl,hs_10,ho_11⟩
  replace h:FJ.k_2 xs_1=some r:=h
  rw [FJ.k_2] at h
  refine jx_then (jc_seq (jc_region (qh [0,0] (qe (jx_then (jc_ret ?_))))))
  obtain rfl:=si h
  exact qr [] (fun w hm=>⟨o_00,cap_03,sp_04,xs_1.length,rfl,hs_10,ho_11,rfl,hm.pk [2]⟩)
section
open Go.RowKit Go.Shelf
attribute [local go_sem] Oper.semAt_some
set_option maxHeartbeats 2000000 in
theorem back209.full(n:Nat)(l Bs b len cap:Nat)(zs:List Int)(hlen:zs.length=len)(hreach:len*8≤140737488351232)(J:Nat→World→Prop)(Jx:World→Prop)
   (hJ:∀k W,J k W→W.cell? ⟨Bs,0,none⟩=some (.slice (some ⟨b,0,none⟩) len cap)∧∀j:Nat,j<len→W.cell? ⟨b,j,none⟩=some (.int .i64 (zs[j]?.getD 0)))
   (hY:∀k W,J k W→k<len→YieldAt Fence.wide (n-1) Tryz.prog l #[.int .i64 ((len-1-k:Nat):Int), .int .i64 (zs[len-1-k]?.getD 0)] W fun e W'=>
     (e= .returned (.bool true)∧J (k+1) W')∨(e= .returned (.bool false)∧Jx W'))
   (W:World) (h0:J 0 W):
   CallsIn Fence.wide n Tryz.prog 209 #[.func (.yield l) #[] #[], .pointer (some ⟨Bs,0,none⟩)] W fun e W'=>(∃v,e= .returned v)∧(J len W'∨Jx W'):=by
 obtain⟨hBs,_⟩:=hJ 0 W h0
 refine callsIn_of_wp Tryz.func209 rfl trivial ?_ rfl
 simp only [Tryz.ntmps209,List.size_toArray,List.length_cons,List.length_nil,Nat.reduceAdd,Nat.reduceSub,Array.replicate_succ,Array.replicate_zero,List.push_toArray,List.append_toArray,List.nil_append,List.cons_append]
 gi_wp2
 gi_loopw [3] (fun i wr=>∃k:Nat,k≤len∧i= .int .i64 ((len:Int)-1-k)∧J k wr)
   (fun i _=>(intOf i+1).toNat)
 case atStart=>exact⟨0,Nat.zero_le _,by simp,h0⟩
 case round=>
   obtain⟨k,hk,rfl,hJs⟩:=hrel
   obtain⟨hB,hc⟩:=hJ k wr hJs
   by_cases hlt:k<len
   · obtain⟨fn,tmps,assign,body,hy,hR⟩:=hY k wr hJs hlt
     have hcx:wr.cell? ⟨b,len-1-k,none⟩=some (.int .i64 (zs[len-1-k]?.getD 0)):=hc (len-1-k) (by omega)
     have e1:((len:Int)-1-k)=((len-1-k:Nat):Int):=by omega
     clear hc
     rw [e1]
     gi_wp2
     refine⟨fun h=>(by cases h),hR.mono ?_⟩
     rintro e W3 (⟨rfl,hJ3⟩ | ⟨rfl,hJx3⟩)
     · gi_wp2
       go_roundw
       case rel=>exact⟨k+1,by omega,by simp;omega,hJ3⟩
       case measure=>simp [intOf]
     · gi_wp2
       refine bodyPost_ret (results_none rfl _ _ _) rfl ?_
       exact⟨⟨_,rfl⟩, .inr hJx3⟩
   · obtain rfl:k=len:=by omega
     gi_wp2
     go_end0
     exact⟨⟨_,rfl⟩, .inl hJs⟩
set_option maxHeartbeats 2000000 in
theorem back209.bare(n:Nat)(l Bs cap:Nat)(J:Nat→World→Prop)(Jx:World→Prop)(W:World)
   (hJ:W.cell? ⟨Bs,0,none⟩=some (.slice none 0 cap)) (h0:J 0 W):
   CallsIn Fence.wide n Tryz.prog 209 #[.func (.yield l) #[] #[], .pointer (some ⟨Bs,0,none⟩)] W fun e W'=>(∃v,e= .returned v)∧(J 0 W'∨Jx W'):=by
 refine callsIn_of_wp Tryz.func209 rfl trivial ?_ rfl
 simp only [Tryz.ntmps209,List.size_toArray,List.length_cons,List.length_nil,Nat.reduceAdd,Nat.reduceSub,Array.replicate_succ,Array.replicate_zero,List.push_toArray,List.append_toArray,List.nil_append,List.cons_append]
 gi_wp2
 gi_loopw [3] (fun i wr=>i= .int .i64 (-1)∧J 0 wr) (fun _ _=>0)
 case atStart=>exact⟨rfl,h0⟩
 case round=>
   obtain⟨rfl,hJs⟩:=hrel
   gi_wp2
   go_end0
   exact⟨⟨_,rfl⟩, .inl hJs⟩
theorem back209.iter(b0:Nat)(o:Option Nat)(xs:List Int)(cap:Nat)(hl:xs.length≤4294967296)(ho:o=none→xs= []):IterC Tryz.prog 209 #[.pointer (some ⟨b0,0,none⟩)] ((backL xs).map encIV) (fun _=>backH b0 o xs cap) (fun _ W W'=>W'=W):=by
 intro n l J J' Jx W hH hSt hY h0
 have hlen:((backL xs).map encIV).length=xs.length:=by simp [backL]
 rw [hlen]
 cases o with
 | none=>
   have hx:=ho rfl
   subst hx
   exact back209.bare n l b0 cap J Jx W (hH 0 W h0).1 h0
 | some b=>
   refine back209.full n l b0 b xs.length cap xs rfl (by omega) J Jx (fun k W hj=>⟨(hH k W hj).1,fun j hj2=> ?_⟩) (fun k W hj hk=> ?_) W h0
   · obtain⟨c,hc,h2⟩:=(hH k W hj).2 j xs[j] (List.getElem?_eq_getElem hj2)
     cases hc
     rw [h2,List.getElem?_eq_getElem hj2];rfl
   · have:=hY k W (by rw [hlen];exact hk) (hSt k W W (by rw [hlen];exact hk) hj rfl)
     simpa [backL,encIV] using this
set_option maxHeartbeats 2000000 in
theorem back209.calls(o:Option Nat)(n c:Nat)(w:World):
   Calls Tryz.prog 160 #[.slice (o.map fun b=>⟨b,0,none⟩) n c] w fun e w'=>∃v,e= .returned v∧(∃b:Nat,v= .func (.func 209) #[] #[.pointer (some ⟨b,0,none⟩)]∧Mem w [] [⟨some b,60,[.slice (o.map fun b=>⟨b,0,none⟩) n c]⟩] w'):=by
 generalize (o.map fun b=>(⟨b,0,none⟩:Addr))=a
 refine(callsIn_wide (n:=0)).1 (callsIn_of_wp Tryz.func160 rfl trivial ?_ rfl)
 simp only [Tryz.ntmps160,List.size_toArray,List.length_cons,List.length_nil,Nat.reduceAdd,Nat.reduceSub,Array.replicate_succ,Array.replicate_zero,List.push_toArray,List.append_toArray,List.nil_append,List.cons_append]
 gi_wp2
 go_ret
 exact⟨_,rfl,_,rfl,mem_one w 60 [.slice a n c]⟩
end
def Fay.l_3(y_0:Int×Int):(List Int)→Option (((List Int))⊕(Unit))
 | xs_1=>(ix xs_1 (w64 (y_0.1+1))).bind fun x_7=>(ix xs_1 y_0.1).bind fun x_3=>some (.inl (xs_1.set y_0.1.toNat (w64 (x_7+y_0.2))))
def Fay.k_7(xs_1:List Int):Option ((List Int)):=some xs_1
def Fay(f0:GFrame)(t1:List GNote)(c2:GCosts):Option ((List Int)):=(if 0≤(w64 ((t1.length:Int)+1))∧(w64 ((t1.length:Int)+1))≤17592186044416 then(FJ f0 t1 c2).bind fun t_2=>(if t_2.length≤4294967296 then(seqO Fay.l_3 (backL t_2) (List.replicate (w64 ((t1.length:Int)+1)).toNat 0)).bind fun t_5=>match t_5 with | .inl p=>Fay.k_7 p | .inr _=>none else none) else none)
theorem Fay.calls(f0:GFrame)(t1:List GNote)(c2:GCosts)(w:World)(r:(List Int)){C_a:Option Addr}{C_an:Nat}(C_c:Nat)(C_h:Rw w C_a 2 encGHammer f0.fHammers)(C_hn:f0.fHammers.length=C_an){D_a:Option Addr}{D_an:Nat}(D_c:Nat)(D_h:Rw w D_a 2 encGNote t1)(D_hn:t1.length=D_an)(h:Fay f0 t1 c2=some r):
   Calls Tryz.prog 87 #[(.agg #[(vH f0.fSteps),(.slice C_a C_an C_c)]),(.slice D_a D_an D_c),(.agg #[(vH c2.fAway),(vH c2.fOctave),(vH c2.fStep)])] w fun e w'=>∃v,e= .returned v∧(∃(o0:Option Nat) (c0:Nat) (s0:List Value) (n0:Nat),r.length=n0∧(hS o0 n0 c0 s0 1)∧(hO o0 r c0)∧v= .slice (mB o0) n0 c0∧Mem w [] [⟨o0,2,row encI64 r s0⟩] w'):=by
 subst C_hn D_hn
 rw [Fay] at h
 refine enterM (args:= [(.agg #[(vH f0.fSteps),(.slice C_a f0.fHammers.length C_c)]),(.slice D_a t1.length D_c),(.agg #[(vH c2.fAway),(vH c2.fOctave),(vH c2.fStep)])]) Tryz.func87 rfl Tryz.ntmps87 (by kernel_rfl) (L:= []) (W:= []) (Mem.start w) (jc_seq (jc_region (tO (qa 0 (fun b_2=>jkO (tO (qa 0 (fun b_1=>jkO (qh [0] (qe (jx_then (jc_seq (jc_region (qh [0,0,0] ?_))))))))))))))
 obtain⟨hg_04,h⟩:=gd h
 refine tO (pQ 0 2 (w64 ((t1.length:Int)+1)) 1 8 encI64 0 hg_04.1 (by omega) (fun b_4=>jkO (tO (qa 0 (fun b_5=>jkO (tO (qs 0 [3] (jkO (qe (jx_then (jc_seq (jc_seq (jc_region (qh [0,0,1] ?_))))))))))))))
 obtain⟨t_2,ht_7,h⟩:=bd h
 refine tO (pc 0 (fun w hm=>FJ.calls f0 t1 c2 w _ C_c (hm.xr C_h) rfl D_c (hm.xr D_h) rfl ht_7) ?_)
 rintro w v w' hm ⟨o_3,cap_8,sp_00,_,rfl,hs_09,ho_01,rfl,hm'⟩
 refine aq hm hm' (jkO (tO (pc 0 (fun w hm=>back209.calls o_3 t_2.length cap_8 w) ?_)))
 rintro w v w' hm ⟨b_6,rfl,hm'⟩
 refine⟨_,hm.app (N:= [⟨some b_6,60,[(.slice (mB o_3) t_2.length cap_8)]⟩]) hm',jkO ?_⟩
 clear hm hm'
 refine qe (jx_then (jc_block ?_))
 obtain⟨hl_05,h⟩:=ifS h
 obtain⟨t_5,ht_06,hr_07⟩:=bd h
 refine jc_env [(6,[],(.slice none 0 0)),(7,[],(vP b_5)),(18,[],(.func (.func 209) #[] #[(vP b_6)]))] (by kernel_rfl) (jc_range encIV (fun(s:(List Int)) (x:Unit)=>match s,x with | xs_1,_=>(xs_1.length=(w64 ((t1.length:Int)+1)).toNat)) (fun(_:Nat) (s:(List Int)) (x:Unit)=>match s,x with | xs_1,_=> [⟨some b_2,27,[(vH f0.fSteps),(.slice C_a f0.fHammers.length C_c)]⟩,⟨some b_1,33,[(vH c2.fAway),(vH c2.fOctave),(vH c2.fStep)]⟩,⟨(some b_4),2,row encI64 xs_1 []⟩,⟨some b_5,60,[(.slice (sB b_4) ((w64 ((t1.length:Int)+1)).toNat) ((w64 ((t1.length:Int)+1)).toNat))]⟩,⟨o_3,2,row encI64 t_2 sp_00⟩,⟨some b_6,60,[(.slice (mB o_3) t_2.length cap_8)]⟩]) (fun(y_0:Int×Int)=> [(6,[],(.slice none 0 0)),(7,[],(vP b_5)),(8,[],(vI y_0.1)),(9,[],(vI y_0.2)),(18,[],(.func (.func 209) #[] #[(vP b_6)])),(19,[],(vI y_0.1)),(20,[],(vI y_0.2))]) (fun _=>backH b_6 o_3 t_2 cap_8) (fun _ W W'=>W'=W) ht_06 () List.length_replicate (by kernel_rfl) (enters_of Tryz.func209 (by kernel_rfl) rfl) (back209.iter b_6 o_3 t_2 cap_8 hl_05 (fun e=>(ho_01 e).1)) (fun _=>rfl) (fun _=>by kernel_rfl) [0,1,2,3,4,5] (by kernel_rfl) (by kernel_rfl) ?_ ?_ ?_ ?_ ?_)
 ·rintro _ xs_1 _ _ _ w b o _ hm hne
  exact back_H hm hne 5 4 rfl rfl rfl (fun _=>rfl) (fun e=>(ho_01 e).1)
 ·intro _ _ _ _ _ _ _ _ _ _ _ _ hm ho _ _ hst
  exact back_St hm ho hst
 ·rintro w1_ W1_ y_0 _ xs_1 _ Q_ hno_ hq_
  exact jr_seq (jr_region (by kernel_rfl) (qh [0] (qe (jr_then (jr_region (by kernel_rfl) (qh [0] (qe (jx_to [(6,[],(.slice none 0 0)),(7,[],(vP b_5)),(8,[],(vI y_0.1)),(9,[],(vI y_0.2)),(18,[],(.func (.func 209) #[] #[(vP b_6)])),(19,[],(vI y_0.1)),(20,[],(vI y_0.2))] [0,1,2,3,4,5] (by kernel_rfl) (by kernel_rfl) (by kernel_rfl) hq_))))))))
 ·rintro w1_ W1_ k_ xs_1 _ y_0 o_0a hK_ hn_9 _ h
  rw [Fay.l_3] at h
  refine jr_block (jr_draw (by kernel_rfl) [⟨some b_2,27,[(vH f0.fSteps),(.slice C_a f0.fHammers.length C_c)]⟩,⟨some b_1,33,[(vH c2.fAway),(vH c2.fOctave),(vH c2.fStep)]⟩,⟨some b_5,60,[(.slice (sB b_4) ((w64 ((t1.length:Int)+1)).toNat) ((w64 ((t1.length:Int)+1)).toNat))]⟩,⟨o_3,2,row encI64 t_2 sp_00⟩,⟨some b_6,60,[(.slice (mB o_3) t_2.length cap_8)]⟩] 11 (by kernel_rfl) (by kernel_rfl) (qd [⟨0,2,0⟩,⟨1,0,0⟩,⟨2,2,0⟩,⟨3,0,0⟩,⟨4,0,0⟩,⟨7,0,0⟩] 5 [0,1,3,4,5] ?_))
  obtain⟨x_7,hx_02,h⟩:=bd h
  refine qX 5 0 [0,1,3,4,5] (sB b_4) 1 hx_02 hn_9 rfl (tD 6 (ql 0 false (fun w hm=>((hm.ow 2 (some b_4) 2 xs_1 [] (fun e=>nomatch e) encI64_len).at hx_02)) (kD [0,1,3,4,5] (qd [⟨8,0,0⟩] 2 [0,1,3,4,5] ?_))))
  obtain⟨x_3,hx_03,h⟩:=bd h
  exact qX 9 0 [0,1,3,4,5] (sB b_4) 1 hx_03 hn_9 rfl (tD 10 (pT 0 2 b_4 2 encI64 xs_1 [] y_0.1 (w64 (x_7+y_0.2)) 1 0 [(vI (w64 (x_7+y_0.2)))] encI64_len hx_03 (kD [0,1,3,4,5] (qz (jx_inn (jr_back (xs_1.set y_0.1.toNat (w64 (x_7+y_0.2))) () (sj h) (List.length_set.trans hn_9) [0,1,2,3,4,5] (by kernel_rfl) (by kernel_rfl)))))))
 ·rintro df_ w2_ W2_ htl_08 xs_1 _ hrs_ hn_9
  subst hrs_
  have h:Fay.k_7 xs_1=some r:=hr_07
  rw [Fay.k_7] at h
  refine jx_inn (jx_then (jc_seq (jc_region (qh [3,0] (qe (jx_then (jc_ret ?_)))))))
  obtain rfl:=si h
  exact jx_retM htl_08 [] (.slice (sB b_4) ((w64 ((t1.length:Int)+1)).toNat) ((w64 ((t1.length:Int)+1)).toNat)) [] rfl (by kernel_rfl) (by kernel_rfl) (fun w hm=>⟨(some b_4),((w64 ((t1.length:Int)+1)).toNat),[],((w64 ((t1.length:Int)+1)).toNat),hn_9,(fun _=>⟨Nat.le_refl _,by simp⟩),(fun e=>nomatch e),rfl,hm.pk [2]⟩)
def F9(x0:GChoice)(y1:GChoice)(p2:GCosts):Option (Int):=(Fau p2 x0).bind fun t_0=>(Fau p2 y1).bind fun t_1=>(FaH t_0 t_1).bind fun t_2=>some t_2
theorem F9.calls(x0:GChoice)(y1:GChoice)(p2:GCosts)(w:World)(r:Int)(K_b:Nat)(hm0:Mem w (bs [some K_b]) [⟨some K_b,33,[(vH p2.fAway),(vH p2.fOctave),(vH p2.fStep)]⟩] w)(h:F9 x0 y1 p2=some r):
   Calls Tryz.prog 89 #[(.agg #[(.bool x0.fAway),(vB x0.fLate),(vB x0.fOctave),(vB x0.fTrack)]),(.agg #[(.bool y1.fAway),(vB y1.fLate),(vB y1.fOctave),(vB y1.fTrack)]),(vP K_b)] w fun e w'=>∃v,e= .returned v∧(v=(vI r)∧Mem w (bs [some K_b]) [⟨some K_b,33,[(vH p2.fAway),(vH p2.fOctave),(vH p2.fStep)]⟩] w'):=by
 rw [F9] at h
 refine enter (args:= [(.agg #[(.bool x0.fAway),(vB x0.fLate),(vB x0.fOctave),(vB x0.fTrack)]),(.agg #[(.bool y1.fAway),(vB y1.fLate),(vB y1.fOctave),(vB y1.fTrack)]),(vP K_b)]) Tryz.func89 rfl Tryz.ntmps89 (by kernel_rfl) (L:= [⟨some K_b,33,[(vH p2.fAway),(vH p2.fOctave),(vH p2.fStep)]⟩]) (W:=bs [some K_b]) hm0 (jc_seq (jc_region (tO (qa 0 (fun b_0=>jkO (tO (qa 0 (fun b_1=>jkO (qh [0] (qe (jx_then (jc_seq (qg [⟨some K_b,33,[(vH p2.fAway),(vH p2.fOctave),(vH p2.fStep)]⟩,⟨some b_0,104,[(.bool x0.fAway),(vB x0.fLate),(vB x0.fOctave),(vB x0.fTrack)]⟩,⟨some b_1,104,[(.bool y1.fAway),(vB y1.fLate),(vB y1.fOctave),(vB y1.fTrack)]⟩] 8 (qd [⟨0,0,0⟩,⟨1,1,0⟩,⟨3,0,0⟩,⟨4,2,0⟩] 4 [0,1,2] ?_))))))))))))))
 obtain⟨t_0,ht_2,h⟩:=bd h
 refine tD 2 (pq 0 (fun w hm=>Fau.calls p2 x0 w _ ht_2) (kD [0,1,2] ?_))
 obtain⟨t_1,ht_3,h⟩:=bd h
 refine tD 5 (pq 0 (fun w hm=>Fau.calls p2 y1 w _ ht_3) (kD [0,1,2] ?_))
 obtain⟨t_2,ht_4,h⟩:=bd h
 refine tD 6 (pq 0 (fun w hm=>FaH.calls t_0 t_1 w _ ht_4) (kD [0,1,2] (qd [⟨7,0,0⟩] 0 [0,1,2] (qz (jx_then (jc_ret ?_))))))
 obtain rfl:=si h
 exact qr [] (fun w hm=>⟨rfl,hm.pk [0]⟩)
def Fd.k_2(xs_9:List GChoice):Option ((List GChoice)):=some xs_9
def Fd.k_8(i_4:Int)(xs_7:List GChoice):Option (((List GChoice)×Int)⊕((List GChoice))):=some (.inl (xs_7,(w64 (i_4+1))))
def Fd.l_11(a1:Int)(g3c0:GCosts):((List GChoice)×Int)→Option (((List GChoice)×Int)⊕((List GChoice)))
 | (xs_0,i_1)=>(if(decide (i_1>a1))=true then(ix xs_0 i_1).bind fun x_02=>(ix xs_0 (w64 (i_1-1))).bind fun x_03=>(F9 x_02 x_03 g3c0).bind fun t_0b=>(if(decide (t_0b<0))=true then(ix xs_0 (w64 (i_1-1))).bind fun x_3=>(ix xs_0 i_1).bind fun x_5=>(ix xs_0 i_1).bind fun x_0c=>(ix (xs_0.set i_1.toNat x_3) (w64 (i_1-1))).bind fun x_0d=>some (.inl (((xs_0.set i_1.toNat x_3).set (w64 (i_1-1)).toNat x_5),(w64 (i_1-1)))) else some (.inr xs_0)) else some (.inr xs_0))
def Fd.l_5(a1:Int)(b2:Int)(g3c0:GCosts):((List GChoice)×Int)→Option (((List GChoice)×Int)⊕((List GChoice)))
 | (xs_8,i_4)=>(if(decide (i_4<b2))=true then(loop (Fd.l_11 a1 g3c0) (xs_8,i_4)).bind fun t_0e=>Fd.k_8 i_4 t_0e else some (.inr xs_8))
def Fd(data0:List GChoice)(a1:Int)(b2:Int)(g3c0:GCosts):Option ((List GChoice)):=(loop (Fd.l_5 a1 b2 g3c0) (data0,(w64 (a1+1)))).bind fun t_0f=>Fd.k_2 t_0f
theorem Fd.calls(data0:List GChoice)(a1:Int)(b2:Int)(g3c0:GCosts)(w:World)(r:(List GChoice))(A_o:Option Nat){A_on:Nat}{A_c:Nat}{A_sp:List Value}(A_hn:data0.length=A_on)(A_hs:hS A_o A_on A_c A_sp 4)(A_ho:hO A_o data0 A_c)(D_b:Nat)(hm0:Mem w (bs [A_o,some D_b]) [⟨A_o,104,row encGChoice data0 A_sp⟩,⟨some D_b,33,[(vH g3c0.fAway),(vH g3c0.fOctave),(vH g3c0.fStep)]⟩] w)(h:Fd data0 a1 b2 g3c0=some r):
   Calls Tryz.prog 210 #[(.slice (mB A_o) A_on A_c),(vI a1),(vI b2),(.func (.func 89) #[] #[(vP D_b)])] w fun e w'=>∃v,e= .returned v∧(r.length=A_on∧(hO A_o r A_c)∧v= .tuple #[]∧Mem w (bs [A_o,some D_b]) [⟨A_o,104,row encGChoice r A_sp⟩,⟨some D_b,33,[(vH g3c0.fAway),(vH g3c0.fOctave),(vH g3c0.fStep)]⟩] w'):=by
 subst A_hn
 rw [Fd] at h
 refine enter (args:= [(.slice (mB A_o) data0.length A_c),(vI a1),(vI b2),(.func (.func 89) #[] #[(vP D_b)])]) Tryz.func210 rfl Tryz.ntmps210 (by kernel_rfl) (L:= [⟨A_o,104,row encGChoice data0 A_sp⟩,⟨some D_b,33,[(vH g3c0.fAway),(vH g3c0.fOctave),(vH g3c0.fStep)]⟩]) (W:=bs [A_o,some D_b]) hm0 (jc_seq (jc_region (qh [0,0,0] (qe (jx_then (jc_meet (fun(xs_9:(List GChoice))=>Fd.k_2 xs_9=some r∧(xs_9.length=data0.length)∧(hO A_o xs_9 A_c)) (fun xs_9=> []) (fun xs_9=> [⟨A_o,104,row encGChoice xs_9 A_sp⟩,⟨some D_b,33,[(vH g3c0.fAway),(vH g3c0.fOctave),(vH g3c0.fStep)]⟩]) ?_ ?_))))))
 ·refine jc_block ?_
  obtain⟨t_0f,ht_0l,hr_0m⟩:=bd h
  refine jl (fun(s:(List GChoice)×Int) (x:Unit)=>match s,x with | ⟨xs_8,i_4⟩,_=>(xs_8.length=data0.length)∧(hO A_o xs_8 A_c)) (fun⟨xs_8,i_4⟩ _=> [(0,[],(.slice (mB A_o) data0.length A_c)),(1,[],(vI a1)),(2,[],(vI b2)),(3,[],(.func (.func 89) #[] #[(vP D_b)])),(8,[],(vI i_4))]) (fun⟨xs_8,i_4⟩ _=> [⟨A_o,104,row encGChoice xs_8 A_sp⟩,⟨some D_b,33,[(vH g3c0.fAway),(vH g3c0.fOctave),(vH g3c0.fStep)]⟩]) ht_0l () ⟨rfl,A_ho⟩ [0,1] ?_
  rintro⟨xs_8,i_4⟩ _ y_0g ⟨hn_0h,ho_0i⟩ h
  rw [Fd.l_5] at h
  refine jc_seq (jc_seq (jc_region (qh [0,0,0] (qe (jx_then (qi h (fun h=> ?_) (fun h=> ?_)))))))
  ·refine jc_skip (jx_then (jc_seq (jc_block (jc_seq (jc_region (qh [0,0] (qe (jx_then (jc_meet (fun(xs_7:(List GChoice))=>Fd.k_8 i_4 xs_7=some y_0g∧(xs_7.length=data0.length)∧(hO A_o xs_7 A_c)) (fun xs_7=> [(0,[],(.slice (mB A_o) data0.length A_c)),(1,[],(vI a1)),(2,[],(vI b2)),(3,[],(.func (.func 89) #[] #[(vP D_b)])),(8,[],(vI i_4))]) (fun xs_7=> [⟨A_o,104,row encGChoice xs_7 A_sp⟩,⟨some D_b,33,[(vH g3c0.fAway),(vH g3c0.fOctave),(vH g3c0.fStep)]⟩]) ?_ ?_)))))))))
   ·refine jc_block ?_
    obtain⟨t_0e,ht_0n,hr_0j⟩:=bd h
    refine jl (fun(s:(List GChoice)×Int) (x:Unit)=>match s,x with | ⟨xs_0,i_1⟩,_=>(xs_0.length=data0.length)∧(hO A_o xs_0 A_c)) (fun⟨xs_0,i_1⟩ _=> [(0,[],(.slice (mB A_o) data0.length A_c)),(1,[],(vI a1)),(2,[],(vI b2)),(3,[],(.func (.func 89) #[] #[(vP D_b)])),(8,[],(vI i_4)),(9,[],(vI i_1))]) (fun⟨xs_0,i_1⟩ _=> [⟨A_o,104,row encGChoice xs_0 A_sp⟩,⟨some D_b,33,[(vH g3c0.fAway),(vH g3c0.fOctave),(vH g3c0.fStep)]⟩]) ht_0n () ⟨hn_0h,ho_0i⟩ [0,1] ?_
    rintro⟨xs_0,i_1⟩ _ y_0w ⟨hn_6,ho_2⟩ h
    rw [Fd.l_11] at h
    refine jc_seq (jc_seq (qg [⟨A_o,104,row encGChoice xs_0 A_sp⟩,⟨some D_b,33,[(vH g3c0.fAway),(vH g3c0.fOctave),(vH g3c0.fStep)]⟩] 17 (qd [⟨0,0,0⟩,⟨1,0,0⟩,⟨2,0,0⟩,⟨3,0,0⟩,⟨4,0,1⟩,⟨5,0,1⟩,⟨6,0,1⟩,⟨9,0,1⟩,⟨10,0,1⟩,⟨11,0,1⟩] 7 [0,1] (js 21 (decide (i_1>a1)) (fun hc_04=> ?_) (fun hc_04=> ?_)))))
    ·replace h:=ifT hc_04 h
     obtain⟨x_02,hx_05,h⟩:=bd h
     refine qX 7 2 [0,1] (mB A_o) 4 hx_05 hn_6 (spo ho_2 hx_05) (qL 8 2 [0,1] true (fun w hm=>(hm.ow 0 A_o 104 xs_0 A_sp (fun e=>(ho_2 e).1) encGChoice_len).at hx_05) ?_)
     obtain⟨x_03,hx_06,h⟩:=bd h
     refine qX 12 2 [0,1] (mB A_o) 4 hx_06 hn_6 (spo ho_2 hx_06) (qL 13 2 [0,1] true (fun w hm=>(hm.ow 0 A_o 104 xs_0 A_sp (fun e=>(ho_2 e).1) encGChoice_len).at hx_06) ?_)
     obtain⟨t_0b,ht_0o,h⟩:=bd h
     refine tD 14 (pc 2 (fun w hm=>F9.calls x_02 x_03 g3c0 w _ D_b (hm.ps [1]) ht_0o) ?_)
     rintro w v w' hm ⟨rfl,hm'⟩
     refine⟨_,hm.appW (ps:= [(1,⟨some D_b,33,[(vH g3c0.fAway),(vH g3c0.fOctave),(vH g3c0.fStep)]⟩)]) (N:= []) hm' (by kernel_rfl) (by kernel_rfl),kD [0,1] ?_⟩
     clear hm hm'
     refine qd [⟨15,0,2⟩,⟨16,0,4⟩] 0 [0,1] (qz (jx_then (qi h (fun h=> ?_) (fun h=> ?_))))
     ·refine jc_skip (jx_then (jc_seq (jc_block (qg [⟨some D_b,33,[(vH g3c0.fAway),(vH g3c0.fOctave),(vH g3c0.fStep)]⟩] 18 (qd [⟨0,0,0⟩,⟨1,0,0⟩,⟨2,0,0⟩,⟨3,0,0⟩,⟨4,0,0⟩,⟨5,0,0⟩,⟨6,0,0⟩,⟨7,0,0⟩,⟨10,0,0⟩,⟨11,0,0⟩] 8 [1] ?_)))))
      obtain⟨x_3,hx_00,h⟩:=bd h
      refine qX 8 0 [1] (mB A_o) 4 hx_00 hn_6 (spo ho_2 hx_00) ?_
      obtain⟨x_5,hx_01,h⟩:=bd h
      refine qX 12 0 [1] (mB A_o) 4 hx_01 hn_6 (spo ho_2 hx_01) (t2 9 13 ?_ ?_)
      ·refine ql 0 true (fun w hm=>((hm.ow 0 A_o 104 xs_0 A_sp (fun e=>(ho_2 e).1) encGChoice_len).at hx_00)) (kD [1] (tD 13 (ql 0 true (fun w hm=>((hm.ow 0 A_o 104 xs_0 A_sp (fun e=>(ho_2 e).1) encGChoice_len).at hx_01)) (kD [1] ?_))))
       obtain⟨x_0c,hx_07,h⟩:=bd h
       refine qX 14 0 [1] (mB A_o) 4 hx_07 hn_6 (spo ho_2 hx_07) (tD 15 (pO 0 0 A_o 104 encGChoice xs_0 A_sp i_1 x_3 4 0 [(.bool x_3.fAway),(vB x_3.fLate),(vB x_3.fOctave),(vB x_3.fTrack)] (fun e=>(ho_2 e).1) encGChoice_len hx_07 (kD [1] ?_)))
       obtain⟨x_0d,hx_08,h⟩:=bd h
       exact qX 16 0 [1] (mB A_o) 4 hx_08 (List.length_set.trans hn_6) (spo (set_ho ho_2) hx_08) (tD 17 (pO 0 0 A_o 104 encGChoice (xs_0.set i_1.toNat x_3) A_sp (w64 (i_1-1)) x_5 4 0 [(.bool x_5.fAway),(vB x_5.fLate),(vB x_5.fOctave),(vB x_5.fTrack)] (fun e=>((set_ho ho_2) e).1) encGChoice_len hx_08 (kD [1] (qz (jx_inn (jx_then (jc_region (qh [0,0,0] (qe (qb (((xs_0.set i_1.toNat x_3).set (w64 (i_1-1)).toNat x_5),(w64 (i_1-1))) () h ⟨(List.length_set.trans (List.length_set.trans hn_6)),(set_ho (set_ho ho_2))⟩ [0,1]))))))))))
      ·refine ql 0 true (fun w hm=>((hm.ow 0 A_o 104 xs_0 A_sp (fun e=>(ho_2 e).1) encGChoice_len).at hx_01)) (kD [1] (tD 9 (ql 0 true (fun w hm=>((hm.ow 0 A_o 104 xs_0 A_sp (fun e=>(ho_2 e).1) encGChoice_len).at hx_00)) (kD [1] ?_))))
       obtain⟨x_0c,hx_09,h⟩:=bd h
       refine qX 14 0 [1] (mB A_o) 4 hx_09 hn_6 (spo ho_2 hx_09) (tD 15 (pO 0 0 A_o 104 encGChoice xs_0 A_sp i_1 x_3 4 0 [(.bool x_3.fAway),(vB x_3.fLate),(vB x_3.fOctave),(vB x_3.fTrack)] (fun e=>(ho_2 e).1) encGChoice_len hx_09 (kD [1] ?_)))
       obtain⟨x_0d,hx_0a,h⟩:=bd h
       exact qX 16 0 [1] (mB A_o) 4 hx_0a (List.length_set.trans hn_6) (spo (set_ho ho_2) hx_0a) (tD 17 (pO 0 0 A_o 104 encGChoice (xs_0.set i_1.toNat x_3) A_sp (w64 (i_1-1)) x_5 4 0 [(.bool x_5.fAway),(vB x_5.fLate),(vB x_5.fOctave),(vB x_5.fTrack)] (fun e=>((set_ho ho_2) e).1) encGChoice_len hx_0a (kD [1] (qz (jx_inn (jx_then (jc_region (qh [0,0,0] (qe (qb (((xs_0.set i_1.toNat x_3).set (w64 (i_1-1)).toNat x_5),(w64 (i_1-1))) () h ⟨(List.length_set.trans (List.length_set.trans hn_6)),(set_ho (set_ho ho_2))⟩ [0,1]))))))))))
     ·refine jc_exit (jx_thenx (jx_leave xs_0 (sj h) (fun e_0p=> ?_)))
      subst e_0p
      exact jx_ine (qm xs_0 ⟨hr_0j,hn_6,ho_2⟩ [0,1])
    ·replace h:=ifF hc_04 h
     refine qd [⟨7,0,3⟩,⟨8,0,3⟩,⟨12,0,3⟩,⟨13,0,3⟩,⟨14,0,3⟩,⟨15,0,3⟩,⟨16,0,5⟩] 0 [0,1] (qz (jx_then (jq false (fun hc_0k=>nomatch hc_0k) (fun hc_0k=>(jc_exit (jx_thenx (jx_leave xs_0 (sj h) (fun e_0q=> ?_))))))))
     subst e_0q
     exact jx_ine (qm xs_0 ⟨hr_0j,hn_6,ho_2⟩ [0,1])
   ·rintro xs_7 ⟨h,hn_0r,ho_0s⟩
    replace h:Fd.k_8 i_4 xs_7=some y_0g:=h
    rw [Fd.k_8] at h
    exact jx_inn (jx_then (jc_region (qh [0,0,0] (qe (qb (xs_7,(w64 (i_4+1))) () h ⟨hn_0r,ho_0s⟩ [0,1])))))
  ·refine jc_exit (jx_thenx (jx_leave xs_8 (sj h) (fun e_0t=> ?_)))
   subst e_0t
   exact jx_ine (qm xs_8 ⟨hr_0m,hn_0h,ho_0i⟩ [0,1])
 ·rintro xs_9 ⟨h,hn_0u,ho_0v⟩
  replace h:Fd.k_2 xs_9=some r:=h
  rw [Fd.k_2] at h
  refine jx_fall ?_
  obtain rfl:=si h
  exact qr [] (fun w hm=>⟨hn_0u,ho_0v,rfl,hm.pk [0,1]⟩)
def Fl.k_2(xs_5:List GChoice):Option ((List GChoice)):=some xs_5
def Fl.l_5(a1:Int)(b2:Int)(n3:Int):((List GChoice)×Int)→Option (((List GChoice)×Int)⊕((List GChoice)))
 | (xs_1,i_0)=>(if(decide (i_0<n3))=true then(ix xs_1 (w64 (b2+i_0))).bind fun x_2=>(ix xs_1 (w64 (a1+i_0))).bind fun x_4=>(ix xs_1 (w64 (a1+i_0))).bind fun x_03=>(ix (xs_1.set (w64 (a1+i_0)).toNat x_2) (w64 (b2+i_0))).bind fun x_04=>some (.inl (((xs_1.set (w64 (a1+i_0)).toNat x_2).set (w64 (b2+i_0)).toNat x_4),(w64 (i_0+1)))) else some (.inr xs_1))
def Fl(data0:List GChoice)(a1:Int)(b2:Int)(n3:Int)(g4c0:GCosts):Option ((List GChoice)):=(loop (Fl.l_5 a1 b2 n3) (data0,0)).bind fun t_05=>Fl.k_2 t_05
theorem Fl.calls(data0:List GChoice)(a1:Int)(b2:Int)(n3:Int)(g4c0:GCosts)(w:World)(r:(List GChoice))(A_o:Option Nat){A_on:Nat}{A_c:Nat}{A_sp:List Value}(A_hn:data0.length=A_on)(A_hs:hS A_o A_on A_c A_sp 4)(A_ho:hO A_o data0 A_c)(E_b:Nat)(hm0:Mem w (bs [A_o,some E_b]) [⟨A_o,104,row encGChoice data0 A_sp⟩,⟨some E_b,33,[(vH g4c0.fAway),(vH g4c0.fOctave),(vH g4c0.fStep)]⟩] w)(h:Fl data0 a1 b2 n3 g4c0=some r):
   Calls Tryz.prog 247 #[(.slice (mB A_o) A_on A_c),(vI a1),(vI b2),(vI n3),(.func (.func 89) #[] #[(vP E_b)])] w fun e w'=>∃v,e= .returned v∧(r.length=A_on∧(hO A_o r A_c)∧v= .tuple #[]∧Mem w (bs [A_o,some E_b]) [⟨A_o,104,row encGChoice r A_sp⟩,⟨some E_b,33,[(vH g4c0.fAway),(vH g4c0.fOctave),(vH g4c0.fStep)]⟩] w'):=by
 subst A_hn
 rw [Fl] at h
 refine enter (args:= [(.slice (mB A_o) data0.length A_c),(vI a1),(vI b2),(vI n3),(.func (.func 89) #[] #[(vP E_b)])]) Tryz.func247 rfl Tryz.ntmps247 (by kernel_rfl) (L:= [⟨A_o,104,row encGChoice data0 A_sp⟩,⟨some E_b,33,[(vH g4c0.fAway),(vH g4c0.fOctave),(vH g4c0.fStep)]⟩]) (W:=bs [A_o,some E_b]) hm0 (jc_seq (jc_region (qh [0] (qe (jx_then (jc_meet (fun(xs_5:(List GChoice))=>Fl.k_2 xs_5=some r∧(xs_5.length=data0.length)∧(hO A_o xs_5 A_c)) (fun xs_5=> []) (fun xs_5=> [⟨A_o,104,row encGChoice xs_5 A_sp⟩,⟨some E_b,33,[(vH g4c0.fAway),(vH g4c0.fOctave),(vH g4c0.fStep)]⟩]) ?_ ?_))))))
 ·refine jc_block ?_
  obtain⟨t_05,ht_06,hr_07⟩:=bd h
  refine jl (fun(s:(List GChoice)×Int) (x:Unit)=>match s,x with | ⟨xs_1,i_0⟩,_=>(xs_1.length=data0.length)∧(hO A_o xs_1 A_c)) (fun⟨xs_1,i_0⟩ _=> [(0,[],(.slice (mB A_o) data0.length A_c)),(1,[],(vI a1)),(2,[],(vI b2)),(3,[],(vI n3)),(10,[],(vI i_0))]) (fun⟨xs_1,i_0⟩ _=> [⟨A_o,104,row encGChoice xs_1 A_sp⟩,⟨some E_b,33,[(vH g4c0.fAway),(vH g4c0.fOctave),(vH g4c0.fStep)]⟩]) ht_06 () ⟨rfl,A_ho⟩ [0,1] ?_
  rintro⟨xs_1,i_0⟩ _ y_0b ⟨hn_6,ho_3⟩ h
  rw [Fl.l_5] at h
  refine jc_seq (jc_seq (jc_region (qh [0,0,0] (qe (jx_then (qi h (fun h=> ?_) (fun h=> ?_)))))))
  ·refine jc_skip (jx_then (jc_seq (jc_block (qg [⟨some E_b,33,[(vH g4c0.fAway),(vH g4c0.fOctave),(vH g4c0.fStep)]⟩] 24 (qd [⟨0,0,0⟩,⟨1,0,0⟩,⟨2,0,0⟩,⟨3,0,0⟩,⟨4,0,0⟩,⟨5,0,0⟩,⟨6,0,0⟩,⟨7,0,0⟩,⟨8,0,0⟩,⟨9,0,0⟩,⟨10,0,0⟩,⟨11,0,0⟩,⟨14,0,0⟩,⟨15,0,0⟩,⟨16,0,0⟩,⟨17,0,0⟩] 8 [1] ?_)))))
   obtain⟨x_2,hx_7,h⟩:=bd h
   refine qX 12 0 [1] (mB A_o) 4 hx_7 hn_6 (spo ho_3 hx_7) ?_
   obtain⟨x_4,hx_8,h⟩:=bd h
   refine qX 18 0 [1] (mB A_o) 4 hx_8 hn_6 (spo ho_3 hx_8) (t2 13 19 ?_ ?_)
   ·refine ql 0 true (fun w hm=>((hm.ow 0 A_o 104 xs_1 A_sp (fun e=>(ho_3 e).1) encGChoice_len).at hx_7)) (kD [1] (tD 19 (ql 0 true (fun w hm=>((hm.ow 0 A_o 104 xs_1 A_sp (fun e=>(ho_3 e).1) encGChoice_len).at hx_8)) (kD [1] ?_))))
    obtain⟨x_03,hx_9,h⟩:=bd h
    refine qX 20 0 [1] (mB A_o) 4 hx_9 hn_6 (spo ho_3 hx_9) (tD 21 (pO 0 0 A_o 104 encGChoice xs_1 A_sp (w64 (a1+i_0)) x_2 4 0 [(.bool x_2.fAway),(vB x_2.fLate),(vB x_2.fOctave),(vB x_2.fTrack)] (fun e=>(ho_3 e).1) encGChoice_len hx_9 (kD [1] ?_)))
    obtain⟨x_04,hx_00,h⟩:=bd h
    exact qX 22 0 [1] (mB A_o) 4 hx_00 (List.length_set.trans hn_6) (spo (set_ho ho_3) hx_00) (tD 23 (pO 0 0 A_o 104 encGChoice (xs_1.set (w64 (a1+i_0)).toNat x_2) A_sp (w64 (b2+i_0)) x_4 4 0 [(.bool x_4.fAway),(vB x_4.fLate),(vB x_4.fOctave),(vB x_4.fTrack)] (fun e=>((set_ho ho_3) e).1) encGChoice_len hx_00 (kD [1] (qz (jx_inn (jx_then (jc_region (qh [0,0,0] (qe (qb (((xs_1.set (w64 (a1+i_0)).toNat x_2).set (w64 (b2+i_0)).toNat x_4),(w64 (i_0+1))) () h ⟨(List.length_set.trans (List.length_set.trans hn_6)),(set_ho (set_ho ho_3))⟩ [0,1]))))))))))
   ·refine ql 0 true (fun w hm=>((hm.ow 0 A_o 104 xs_1 A_sp (fun e=>(ho_3 e).1) encGChoice_len).at hx_8)) (kD [1] (tD 13 (ql 0 true (fun w hm=>((hm.ow 0 A_o 104 xs_1 A_sp (fun e=>(ho_3 e).1) encGChoice_len).at hx_7)) (kD [1] ?_))))
    obtain⟨x_03,hx_01,h⟩:=bd h
    refine qX 20 0 [1] (mB A_o) 4 hx_01 hn_6 (spo ho_3 hx_01) (tD 21 (pO 0 0 A_o 104 encGChoice xs_1 A_sp (w64 (a1+i_0)) x_2 4 0 [(.bool x_2.fAway),(vB x_2.fLate),(vB x_2.fOctave),(vB x_2.fTrack)] (fun e=>(ho_3 e).1) encGChoice_len hx_01 (kD [1] ?_)))
    obtain⟨x_04,hx_02,h⟩:=bd h
    exact qX 22 0 [1] (mB A_o) 4 hx_02 (List.length_set.trans hn_6) (spo (set_ho ho_3) hx_02) (tD 23 (pO 0 0 A_o 104 encGChoice (xs_1.set (w64 (a1+i_0)).toNat x_2) A_sp (w64 (b2+i_0)) x_4 4 0 [(.bool x_4.fAway),(vB x_4.fLate),(vB x_4.fOctave),(vB x_4.fTrack)] (fun e=>((set_ho ho_3) e).1) encGChoice_len hx_02 (kD [1] (qz (jx_inn (jx_then (jc_region (qh [0,0,0] (qe (qb (((xs_1.set (w64 (a1+i_0)).toNat x_2).set (w64 (b2+i_0)).toNat x_4),(w64 (i_0+1))) () h ⟨(List.length_set.trans (List.length_set.trans hn_6)),(set_ho (set_ho ho_3))⟩ [0,1]))))))))))
  ·refine jc_exit (jx_thenx (jx_leave xs_1 (sj h) (fun e_08=> ?_)))
   subst e_08
   exact jx_ine (qm xs_1 ⟨hr_07,hn_6,ho_3⟩ [0,1])
 ·rintro xs_5 ⟨h,hn_09,ho_0a⟩
  replace h:Fl.k_2 xs_5=some r:=h
  rw [Fl.k_2] at h
  refine jx_fall ?_
  obtain rfl:=si h
  exact qr [] (fun w hm=>⟨hn_09,ho_0a,rfl,hm.pk [0,1]⟩)
def Fk.k_3(m2:Int)(g4c0:GCosts)(xs_3:List GChoice)(i_4:Int):Option ((List GChoice)):=(Fl xs_3 (w64 (m2-i_4)) m2 i_4 g4c0).bind fun t_00=>some t_00
def Fk.k_13(xs_5:List GChoice)(i_6:Int)(i_7:Int):Option (((List GChoice)×Int×Int)⊕(((List GChoice)×Int))):=some (.inl (xs_5,i_6,i_7))
def Fk.l_8(m2:Int)(g4c0:GCosts):((List GChoice)×Int×Int)→Option (((List GChoice)×Int×Int)⊕(((List GChoice)×Int)))
 | (xs_2,i_0,i_1)=>(if(i_0 !=i_1)=true then(if(decide (i_0>i_1))=true then(Fl xs_2 (w64 (m2-i_0)) m2 i_1 g4c0).bind fun t_8=>Fk.k_13 t_8 (w64 (i_0-i_1)) i_1 else(Fl xs_2 (w64 (m2-i_0)) (w64 ((w64 (m2+i_1))-i_0)) i_0 g4c0).bind fun t_9=>Fk.k_13 t_9 i_0 (w64 (i_1-i_0))) else some (.inr (xs_2,i_0)))
def Fk(data0:List GChoice)(a1:Int)(m2:Int)(b3:Int)(g4c0:GCosts):Option ((List GChoice)):=(loop (Fk.l_8 m2 g4c0) (data0,(w64 (m2-a1)),(w64 (b3-m2)))).bind fun t_01=>Fk.k_3 m2 g4c0 t_01.1 t_01.2
theorem Fk.calls(data0:List GChoice)(a1:Int)(m2:Int)(b3:Int)(g4c0:GCosts)(w:World)(r:(List GChoice))(A_o:Option Nat){A_on:Nat}{A_c:Nat}{A_sp:List Value}(A_hn:data0.length=A_on)(A_hs:hS A_o A_on A_c A_sp 4)(A_ho:hO A_o data0 A_c)(E_b:Nat)(hm0:Mem w (bs [A_o,some E_b]) [⟨A_o,104,row encGChoice data0 A_sp⟩,⟨some E_b,33,[(vH g4c0.fAway),(vH g4c0.fOctave),(vH g4c0.fStep)]⟩] w)(h:Fk data0 a1 m2 b3 g4c0=some r):
   Calls Tryz.prog 230 #[(.slice (mB A_o) A_on A_c),(vI a1),(vI m2),(vI b3),(.func (.func 89) #[] #[(vP E_b)])] w fun e w'=>∃v,e= .returned v∧(r.length=A_on∧(hO A_o r A_c)∧v= .tuple #[]∧Mem w (bs [A_o,some E_b]) [⟨A_o,104,row encGChoice r A_sp⟩,⟨some E_b,33,[(vH g4c0.fAway),(vH g4c0.fOctave),(vH g4c0.fStep)]⟩] w'):=by
 subst A_hn
 rw [Fk] at h
 refine enter (args:= [(.slice (mB A_o) data0.length A_c),(vI a1),(vI m2),(vI b3),(.func (.func 89) #[] #[(vP E_b)])]) Tryz.func230 rfl Tryz.ntmps230 (by kernel_rfl) (L:= [⟨A_o,104,row encGChoice data0 A_sp⟩,⟨some E_b,33,[(vH g4c0.fAway),(vH g4c0.fOctave),(vH g4c0.fStep)]⟩]) (W:=bs [A_o,some E_b]) hm0 (jc_seq (jc_region (qh [0,0,0,0] (qe (jx_then (jc_seq (jc_region (qh [0,0,0,0] (qe (jx_then (jc_seq (jc_meet (fun(j:(List GChoice)×Int)=>match j with | ⟨xs_3,i_4⟩=>Fk.k_3 m2 g4c0 xs_3 i_4=some r∧(xs_3.length=data0.length)∧(hO A_o xs_3 A_c)) (fun⟨xs_3,i_4⟩=> [(0,[],(.slice (mB A_o) data0.length A_c)),(2,[],(vI m2)),(4,[],(.func (.func 89) #[] #[(vP E_b)])),(10,[],(vI i_4))]) (fun⟨xs_3,i_4⟩=> [⟨A_o,104,row encGChoice xs_3 A_sp⟩,⟨some E_b,33,[(vH g4c0.fAway),(vH g4c0.fOctave),(vH g4c0.fStep)]⟩]) ?_ ?_))))))))))))
 ·refine jc_block ?_
  obtain⟨t_01,ht_05,hr_06⟩:=bd h
  refine jl (fun(s:(List GChoice)×Int×Int) (x:Unit)=>match s,x with | ⟨xs_2,i_0,i_1⟩,_=>(xs_2.length=data0.length)∧(hO A_o xs_2 A_c)) (fun⟨xs_2,i_0,i_1⟩ _=> [(0,[],(.slice (mB A_o) data0.length A_c)),(2,[],(vI m2)),(4,[],(.func (.func 89) #[] #[(vP E_b)])),(10,[],(vI i_0)),(11,[],(vI i_1))]) (fun⟨xs_2,i_0,i_1⟩ _=> [⟨A_o,104,row encGChoice xs_2 A_sp⟩,⟨some E_b,33,[(vH g4c0.fAway),(vH g4c0.fOctave),(vH g4c0.fStep)]⟩]) ht_05 () ⟨rfl,A_ho⟩ [0,1] ?_
  rintro⟨xs_2,i_0,i_1⟩ _ y_04 ⟨hn_02,ho_03⟩ h
  rw [Fk.l_8] at h
  refine jc_seq (jc_seq (jc_region (qh [0,0,0] (qe (jx_then (qi h (fun h=> ?_) (fun h=> ?_)))))))
  ·refine jc_skip (jx_then (jc_meet (fun(j:(List GChoice)×Int×Int)=>match j with | ⟨xs_5,i_6,i_7⟩=>Fk.k_13 xs_5 i_6 i_7=some y_04∧(xs_5.length=data0.length)∧(hO A_o xs_5 A_c)) (fun⟨xs_5,i_6,i_7⟩=> [(0,[],(.slice (mB A_o) data0.length A_c)),(2,[],(vI m2)),(4,[],(.func (.func 89) #[] #[(vP E_b)])),(10,[],(vI i_6)),(11,[],(vI i_7))]) (fun⟨xs_5,i_6,i_7⟩=> [⟨A_o,104,row encGChoice xs_5 A_sp⟩,⟨some E_b,33,[(vH g4c0.fAway),(vH g4c0.fOctave),(vH g4c0.fStep)]⟩]) ?_ ?_))
   ·refine jc_block (jc_seq (jc_region (qh [0,0,0] (qe (jx_then (qi h (fun h=> ?_) (fun h=> ?_)))))))
    ·refine jc_seq (jc_region (qh [0,0,0,0,0,0,0] ?_))
     obtain⟨t_8,ht_07,h⟩:=bd h
     refine tO (pc 0 (fun w hm=>Fl.calls xs_2 (w64 (m2-i_0)) m2 i_1 g4c0 w _ A_o hn_02 A_hs ho_03 E_b (hm.ps (N:= [⟨A_o,104,row encGChoice xs_2 A_sp⟩,⟨some E_b,33,[(vH g4c0.fAway),(vH g4c0.fOctave),(vH g4c0.fStep)]⟩]) [0,1]) ht_07) ?_)
     rintro w v w' hm ⟨hn_08,ho_09,rfl,hm'⟩
     refine⟨_,hm.appW (ps:= [(0,⟨A_o,104,row encGChoice t_8 A_sp⟩),(1,⟨some E_b,33,[(vH g4c0.fAway),(vH g4c0.fOctave),(vH g4c0.fStep)]⟩)]) (N:= []) hm' (by kernel_rfl) (by kernel_rfl),jkO ?_⟩
     clear hm hm'
     exact qe (jx_then (jc_region (qh [0,0,0,0] (qe (jx_inn (qm ⟨t_8,(w64 (i_0-i_1)),i_1⟩ ⟨h,hn_08,ho_09⟩ [0,1]))))))
    ·refine jc_seq (jc_region (qh [0,0,0,0,0,0,0,0,0,0,0] ?_))
     obtain⟨t_9,ht_0a,h⟩:=bd h
     refine tO (pc 0 (fun w hm=>Fl.calls xs_2 (w64 (m2-i_0)) (w64 ((w64 (m2+i_1))-i_0)) i_0 g4c0 w _ A_o hn_02 A_hs ho_03 E_b (hm.ps (N:= [⟨A_o,104,row encGChoice xs_2 A_sp⟩,⟨some E_b,33,[(vH g4c0.fAway),(vH g4c0.fOctave),(vH g4c0.fStep)]⟩]) [0,1]) ht_0a) ?_)
     rintro w v w' hm ⟨hn_0b,ho_0c,rfl,hm'⟩
     refine⟨_,hm.appW (ps:= [(0,⟨A_o,104,row encGChoice t_9 A_sp⟩),(1,⟨some E_b,33,[(vH g4c0.fAway),(vH g4c0.fOctave),(vH g4c0.fStep)]⟩)]) (N:= []) hm' (by kernel_rfl) (by kernel_rfl),jkO ?_⟩
     clear hm hm'
     exact qe (jx_then (jc_region (qh [0,0,0,0] (qe (jx_inn (qm ⟨t_9,i_0,(w64 (i_1-i_0))⟩ ⟨h,hn_0b,ho_0c⟩ [0,1]))))))
   ·rintro⟨xs_5,i_6,i_7⟩ ⟨h,hn_0d,ho_0e⟩
    replace h:Fk.k_13 xs_5 i_6 i_7=some y_04:=h
    rw [Fk.k_13] at h
    exact qb (xs_5,i_6,i_7) () h ⟨hn_0d,ho_0e⟩ [0,1]
  ·refine jc_exit (jx_thenx (jx_leave (xs_2,i_0) (sj h) (fun e_0f=> ?_)))
   subst e_0f
   exact jx_ine (qm ⟨xs_2,i_0⟩ ⟨hr_06,hn_02,ho_03⟩ [0,1])
 ·rintro⟨xs_3,i_4⟩ ⟨h,hn_0g,ho_0h⟩
  replace h:Fk.k_3 m2 g4c0 xs_3 i_4=some r:=h
  rw [Fk.k_3] at h
  refine jx_then (jc_region (qh [0,0,0,0,0,0,0] ?_))
  obtain⟨t_00,ht_0i,h⟩:=bd h
  refine tO (pc 0 (fun w hm=>Fl.calls xs_3 (w64 (m2-i_4)) m2 i_4 g4c0 w _ A_o hn_0g A_hs ho_0h E_b (hm.ps (N:= [⟨A_o,104,row encGChoice xs_3 A_sp⟩,⟨some E_b,33,[(vH g4c0.fAway),(vH g4c0.fOctave),(vH g4c0.fStep)]⟩]) [0,1]) ht_0i) ?_)
  rintro w v w' hm ⟨hn_0j,ho_0k,rfl,hm'⟩
  refine⟨_,hm.appW (ps:= [(0,⟨A_o,104,row encGChoice t_00 A_sp⟩),(1,⟨some E_b,33,[(vH g4c0.fAway),(vH g4c0.fOctave),(vH g4c0.fStep)]⟩)]) (N:= []) hm' (by kernel_rfl) (by kernel_rfl),jkO ?_⟩
  clear hm hm'
  refine qe (jx_fall ?_)
  obtain rfl:=si h
  exact qr [] (fun w hm=>⟨hn_0j,ho_0k,rfl,hm.pk [0,1]⟩)
def Fa.k_4(xs_0b:List GChoice):Option ((List GChoice)):=some xs_0b
def Fa.l_7(i_09:Int):((List GChoice)×Int)→Option (((List GChoice)×Int)⊕((List GChoice)))
 | (xs_3,i_1)=>(if(decide (i_1<(w64 (i_09-1))))=true then(ix xs_3 (w64 (i_1+1))).bind fun x_5=>(ix xs_3 i_1).bind fun x_02=>(ix xs_3 i_1).bind fun x_1e=>(ix (xs_3.set i_1.toNat x_5) (w64 (i_1+1))).bind fun x_1f=>some (.inl (((xs_3.set i_1.toNat x_5).set (w64 (i_1+1)).toNat x_02),(w64 (i_1+1)))) else some (.inr xs_3))
def Fa.k_2(data0:List GChoice)(a1:Int)(i_09:Int):Option ((List GChoice)):=(loop (Fa.l_7 i_09) (data0,a1)).bind fun t_1g=>Fa.k_4 t_1g
def Fa.k_19(i_0d:Int)(i_0e:Int):Option ((Int×Int)⊕(Int)):=some (.inl (i_0d,i_0e))
def Fa.l_15(data0:List GChoice)(a1:Int)(g4c0:GCosts):(Int×Int)→Option ((Int×Int)⊕(Int))
 | (i_00,i_06)=>(if(decide (i_00<i_06))=true then(ix data0 (w64 (bShr .u64 (u64 (w64 (i_00+i_06))) 1))).bind fun x_0t=>(ix data0 a1).bind fun x_0u=>(F9 x_0t x_0u g4c0).bind fun t_1h=>(if(decide (t_1h<0))=true then Fa.k_19 (w64 ((w64 (bShr .u64 (u64 (w64 (i_00+i_06))) 1))+1)) i_06 else Fa.k_19 i_00 (w64 (bShr .u64 (u64 (w64 (i_00+i_06))) 1))) else some (.inr i_00))
def Fa.k_26(xs_0c:List GChoice):Option ((List GChoice)):=some xs_0c
def Fa.l_29(i_0a:Int):((List GChoice)×Int)→Option (((List GChoice)×Int)⊕((List GChoice)))
 | (xs_4,i_2)=>(if(decide (i_2>i_0a))=true then(ix xs_4 (w64 (i_2-1))).bind fun x_6=>(ix xs_4 i_2).bind fun x_03=>(ix xs_4 i_2).bind fun x_1i=>(ix (xs_4.set i_2.toNat x_6) (w64 (i_2-1))).bind fun x_1j=>some (.inl (((xs_4.set i_2.toNat x_6).set (w64 (i_2-1)).toNat x_03),(w64 (i_2-1)))) else some (.inr xs_4))
def Fa.k_24(data0:List GChoice)(m2:Int)(i_0a:Int):Option ((List GChoice)):=(loop (Fa.l_29 i_0a) (data0,m2)).bind fun t_1k=>Fa.k_26 t_1k
def Fa.k_41(i_0f:Int)(i_0g:Int):Option ((Int×Int)⊕(Int)):=some (.inl (i_0f,i_0g))
def Fa.l_37(data0:List GChoice)(m2:Int)(g4c0:GCosts):(Int×Int)→Option ((Int×Int)⊕(Int))
 | (i_01,i_07)=>(if(decide (i_01<i_07))=true then(ix data0 m2).bind fun x_0v=>(ix data0 (w64 (bShr .u64 (u64 (w64 (i_01+i_07))) 1))).bind fun x_0w=>(F9 x_0v x_0w g4c0).bind fun t_1l=>(if(!(decide (t_1l<0)))=true then Fa.k_41 (w64 ((w64 (bShr .u64 (u64 (w64 (i_01+i_07))) 1))+1)) i_07 else Fa.k_41 i_01 (w64 (bShr .u64 (u64 (w64 (i_01+i_07))) 1))) else some (.inr i_01))
def Fa.k_53(self_:(List GChoice)→Int→Int→Int→GCosts→Option ((List GChoice)))(a1:Int)(m2:Int)(b3:Int)(g4c0:GCosts)(i_0:Int)(xs_08:List GChoice):Option ((List GChoice)):=(if((decide ((w64 (bShr .u64 (u64 (w64 (a1+b3))) 1))<(w64 ((w64 ((w64 (bShr .u64 (u64 (w64 (a1+b3))) 1))+m2))-i_0))))&&(decide ((w64 ((w64 ((w64 (bShr .u64 (u64 (w64 (a1+b3))) 1))+m2))-i_0))<b3)))=true then(self_ xs_08 (w64 (bShr .u64 (u64 (w64 (a1+b3))) 1)) (w64 ((w64 ((w64 (bShr .u64 (u64 (w64 (a1+b3))) 1))+m2))-i_0)) b3 g4c0).bind fun t_0x=>some t_0x else some xs_08)
def Fa.k_51(self_:(List GChoice)→Int→Int→Int→GCosts→Option ((List GChoice)))(a1:Int)(m2:Int)(b3:Int)(g4c0:GCosts)(i_0:Int)(xs_04:List GChoice):Option ((List GChoice)):=(if((decide (a1<i_0))&&(decide (i_0<(w64 (bShr .u64 (u64 (w64 (a1+b3))) 1)))))=true then(self_ xs_04 a1 i_0 (w64 (bShr .u64 (u64 (w64 (a1+b3))) 1)) g4c0).bind fun t_0n=>Fa.k_53 self_ a1 m2 b3 g4c0 i_0 t_0n else Fa.k_53 self_ a1 m2 b3 g4c0 i_0 xs_04)
def Fa.k_49(self_:(List GChoice)→Int→Int→Int→GCosts→Option ((List GChoice)))(data0:List GChoice)(a1:Int)(m2:Int)(b3:Int)(g4c0:GCosts)(i_0:Int):Option ((List GChoice)):=(if((decide (i_0<m2))&&(decide (m2<(w64 ((w64 ((w64 (bShr .u64 (u64 (w64 (a1+b3))) 1))+m2))-i_0)))))=true then(Fk data0 i_0 m2 (w64 ((w64 ((w64 (bShr .u64 (u64 (w64 (a1+b3))) 1))+m2))-i_0)) g4c0).bind fun t_0o=>Fa.k_51 self_ a1 m2 b3 g4c0 i_0 t_0o else Fa.k_51 self_ a1 m2 b3 g4c0 i_0 data0)
def Fa.k_63(i_0h:Int)(i_0i:Int):Option ((Int×Int)⊕(Int)):=some (.inl (i_0h,i_0i))
def Fa.l_59(data0:List GChoice)(a1:Int)(m2:Int)(b3:Int)(g4c0:GCosts):(Int×Int)→Option ((Int×Int)⊕(Int))
 | (i_7,i_05)=>(if(decide (i_7<i_05))=true then(ix data0 (w64 ((w64 ((w64 ((w64 (bShr .u64 (u64 (w64 (a1+b3))) 1))+m2))-1))-(w64 (bShr .u64 (u64 (w64 (i_7+i_05))) 1))))).bind fun x_0y=>(ix data0 (w64 (bShr .u64 (u64 (w64 (i_7+i_05))) 1))).bind fun x_0z=>(F9 x_0y x_0z g4c0).bind fun t_1m=>(if(!(decide (t_1m<0)))=true then Fa.k_63 (w64 ((w64 (bShr .u64 (u64 (w64 (i_7+i_05))) 1))+1)) i_05 else Fa.k_63 i_7 (w64 (bShr .u64 (u64 (w64 (i_7+i_05))) 1))) else some (.inr i_7))
def Fa.k_47(self_:(List GChoice)→Int→Int→Int→GCosts→Option ((List GChoice)))(data0:List GChoice)(a1:Int)(m2:Int)(b3:Int)(g4c0:GCosts)(i_0l:Int)(i_0m:Int):Option ((List GChoice)):=(loop (Fa.l_59 data0 a1 m2 b3 g4c0) (i_0l,i_0m)).bind fun t_1n=>Fa.k_49 self_ data0 a1 m2 b3 g4c0 t_1n
def Fa.step(self_:(List GChoice)→Int→Int→Int→GCosts→Option ((List GChoice)))(data0:List GChoice)(a1:Int)(m2:Int)(b3:Int)(g4c0:GCosts):Option ((List GChoice)):=(if((w64 (m2-a1))==1)=true then(loop (Fa.l_15 data0 a1 g4c0) (m2,b3)).bind fun t_1o=>Fa.k_2 data0 a1 t_1o else(if((w64 (b3-m2))==1)=true then(loop (Fa.l_37 data0 m2 g4c0) (a1,m2)).bind fun t_1p=>Fa.k_24 data0 m2 t_1p else(if(decide (m2>(w64 (bShr .u64 (u64 (w64 (a1+b3))) 1))))=true then Fa.k_47 self_ data0 a1 m2 b3 g4c0 (w64 ((w64 ((w64 (bShr .u64 (u64 (w64 (a1+b3))) 1))+m2))-b3)) (w64 (bShr .u64 (u64 (w64 (a1+b3))) 1)) else Fa.k_47 self_ data0 a1 m2 b3 g4c0 a1 m2)))
def Fa.rec_:Nat→(List GChoice)→Int→Int→Int→GCosts→Option ((List GChoice))
 | 0=>fun data0 a1 m2 b3 g4c0=>none
 | fu+1=>Fa.step (Fa.rec_ fu)
def Fa(data0:List GChoice)(a1:Int)(m2:Int)(b3:Int)(g4c0:GCosts):Option ((List GChoice)):=Fa.rec_ 200 data0 a1 m2 b3 g4c0
set_option maxHeartbeats 8000000 in
theorem Fa.step_calls(self_:(List GChoice)→Int→Int→Int→GCosts→Option ((List GChoice)))(hself:∀(data0:List GChoice) (a1:Int) (m2:Int) (b3:Int) (g4c0:GCosts) (w:World) (r:(List GChoice)) (A_o:Option Nat) {A_on:Nat} {A_c:Nat} {A_sp:List Value} (A_hn:data0.length=A_on) (A_hs:hS A_o A_on A_c A_sp 4) (A_ho:hO A_o data0 A_c) (E_b:Nat) (hm0:Mem w (bs [A_o,some E_b]) [⟨A_o,104,row encGChoice data0 A_sp⟩,⟨some E_b,33,[(vH g4c0.fAway),(vH g4c0.fOctave),(vH g4c0.fStep)]⟩] w) (h:self_ data0 a1 m2 b3 g4c0=some r),
   Calls Tryz.prog 211 #[(.slice (mB A_o) A_on A_c),(vI a1),(vI m2),(vI b3),(.func (.func 89) #[] #[(vP E_b)])] w fun e w'=>∃v,e= .returned v∧(r.length=A_on∧(hO A_o r A_c)∧v= .tuple #[]∧Mem w (bs [A_o,some E_b]) [⟨A_o,104,row encGChoice r A_sp⟩,⟨some E_b,33,[(vH g4c0.fAway),(vH g4c0.fOctave),(vH g4c0.fStep)]⟩] w')) (data0:List GChoice) (a1:Int) (m2:Int) (b3:Int) (g4c0:GCosts) (w:World) (r:(List GChoice)) (A_o:Option Nat) {A_on:Nat} {A_c:Nat} {A_sp:List Value} (A_hn:data0.length=A_on) (A_hs:hS A_o A_on A_c A_sp 4) (A_ho:hO A_o data0 A_c) (E_b:Nat) (hm0:Mem w (bs [A_o,some E_b]) [⟨A_o,104,row encGChoice data0 A_sp⟩,⟨some E_b,33,[(vH g4c0.fAway),(vH g4c0.fOctave),(vH g4c0.fStep)]⟩] w) (h:Fa.step self_ data0 a1 m2 b3 g4c0=some r):
   Calls Tryz.prog 211 #[(.slice (mB A_o) A_on A_c),(vI a1),(vI m2),(vI b3),(.func (.func 89) #[] #[(vP E_b)])] w fun e w'=>∃v,e= .returned v∧(r.length=A_on∧(hO A_o r A_c)∧v= .tuple #[]∧Mem w (bs [A_o,some E_b]) [⟨A_o,104,row encGChoice r A_sp⟩,⟨some E_b,33,[(vH g4c0.fAway),(vH g4c0.fOctave),(vH g4c0.fStep)]⟩] w'):=by
 subst A_hn
 rw [Fa.step] at h
 refine enter (args:= [(.slice (mB A_o) data0.length A_c),(vI a1),(vI m2),(vI b3),(.func (.func 89) #[] #[(vP E_b)])]) Tryz.func211 rfl Tryz.ntmps211 (by kernel_rfl) (L:= [⟨A_o,104,row encGChoice data0 A_sp⟩,⟨some E_b,33,[(vH g4c0.fAway),(vH g4c0.fOctave),(vH g4c0.fStep)]⟩]) (W:=bs [A_o,some E_b]) hm0 (jc_seq (jc_seq (jc_region (qh [0,0,0,0] (qe (jx_then (qi h (fun h=> ?_) (fun h=> ?_))))))))
 ·refine jc_seq (jc_region (qh [0,0] (qe (jx_then (jc_seq (jc_region (qh [0,0] (qe (jx_then (jc_seq (jc_meet (fun(i_09:Int)=>Fa.k_2 data0 a1 i_09=some r) (fun i_09=> [(0,[],(.slice (mB A_o) data0.length A_c)),(1,[],(vI a1)),(2,[],(vI m2)),(3,[],(vI b3)),(4,[],(.func (.func 89) #[] #[(vP E_b)])),(10,[],(vI i_09))]) (fun i_09=> [⟨A_o,104,row encGChoice data0 A_sp⟩,⟨some E_b,33,[(vH g4c0.fAway),(vH g4c0.fOctave),(vH g4c0.fStep)]⟩]) ?_ ?_)))))))))))
  ·refine jc_block ?_
   obtain⟨t_1o,ht_1x,hr_1y⟩:=bd h
   refine jl (fun(s:Int×Int) (x:Unit)=>match s,x with | ⟨i_00,i_06⟩,_=>True) (fun⟨i_00,i_06⟩ _=> [(0,[],(.slice (mB A_o) data0.length A_c)),(1,[],(vI a1)),(2,[],(vI m2)),(3,[],(vI b3)),(4,[],(.func (.func 89) #[] #[(vP E_b)])),(10,[],(vI i_00)),(11,[],(vI i_06))]) (fun⟨i_00,i_06⟩ _=> [⟨A_o,104,row encGChoice data0 A_sp⟩,⟨some E_b,33,[(vH g4c0.fAway),(vH g4c0.fOctave),(vH g4c0.fStep)]⟩]) ht_1x () trivial [0,1] ?_
   rintro⟨i_00,i_06⟩ _ y_1q _ h
   rw [Fa.l_15] at h
   refine jc_seq (jc_seq (jc_region (qh [0,0,0] (qe (jx_then (qi h (fun h=> ?_) (fun h=> ?_)))))))
   ·refine jc_skip (jx_then (jc_meet (fun(j:Int×Int)=>match j with | ⟨i_0d,i_0e⟩=>Fa.k_19 i_0d i_0e=some y_1q) (fun⟨i_0d,i_0e⟩=> [(0,[],(.slice (mB A_o) data0.length A_c)),(1,[],(vI a1)),(2,[],(vI m2)),(3,[],(vI b3)),(4,[],(.func (.func 89) #[] #[(vP E_b)])),(10,[],(vI i_0d)),(11,[],(vI i_0e))]) (fun⟨i_0d,i_0e⟩=> [⟨A_o,104,row encGChoice data0 A_sp⟩,⟨some E_b,33,[(vH g4c0.fAway),(vH g4c0.fOctave),(vH g4c0.fStep)]⟩]) ?_ ?_))
    ·refine jc_block (jc_seq (jc_region (qh [0,0,0,0,0,0,0] (qe (jx_then (jc_seq (qg [⟨A_o,104,row encGChoice data0 A_sp⟩,⟨some E_b,33,[(vH g4c0.fAway),(vH g4c0.fOctave),(vH g4c0.fStep)]⟩] 11 (qd [⟨0,0,0⟩,⟨1,0,0⟩,⟨2,0,0⟩,⟨5,0,0⟩,⟨6,0,0⟩] 6 [0,1] ?_))))))))
     obtain⟨x_0t,hx_10,h⟩:=bd h
     refine qX 3 0 [0,1] (mB A_o) 4 hx_10 rfl (spo A_ho hx_10) (qL 4 0 [0,1] true (fun w hm=>(hm.ow 0 A_o 104 data0 A_sp (fun e=>(A_ho e).1) encGChoice_len).at hx_10) ?_)
     obtain⟨x_0u,hx_11,h⟩:=bd h
     refine qX 7 0 [0,1] (mB A_o) 4 hx_11 rfl (spo A_ho hx_11) (qL 8 0 [0,1] true (fun w hm=>(hm.ow 0 A_o 104 data0 A_sp (fun e=>(A_ho e).1) encGChoice_len).at hx_11) ?_)
     obtain⟨t_1h,ht_1z,h⟩:=bd h
     refine tD 9 (pc 0 (fun w hm=>F9.calls x_0t x_0u g4c0 w _ E_b (hm.ps [1]) ht_1z) ?_)
     rintro w v w' hm ⟨rfl,hm'⟩
     refine⟨_,hm.appW (ps:= [(1,⟨some E_b,33,[(vH g4c0.fAway),(vH g4c0.fOctave),(vH g4c0.fStep)]⟩)]) (N:= []) hm' (by kernel_rfl) (by kernel_rfl),kD [0,1] ?_⟩
     clear hm hm'
     refine qd [⟨10,0,0⟩] 0 [0,1] (qz (jx_then (qi h (fun h=> ?_) (fun h=> ?_))))
     ·exact jc_region (qh [0,0,0] (qe (jx_inn (qm ⟨(w64 ((w64 (bShr .u64 (u64 (w64 (i_00+i_06))) 1))+1)),i_06⟩ h [0,1]))))
     ·exact jc_region (qh [0,0] (qe (jx_inn (qm ⟨i_00,(w64 (bShr .u64 (u64 (w64 (i_00+i_06))) 1))⟩ h [0,1]))))
    ·rintro⟨i_0d,i_0e⟩ h
     replace h:Fa.k_19 i_0d i_0e=some y_1q:=h
     rw [Fa.k_19] at h
     exact qb (i_0d,i_0e) () h trivial [0,1]
   ·refine jc_exit (jx_thenx (jx_leave i_00 (sj h) (fun e_20=> ?_)))
    subst e_20
    exact jx_ine (qm i_00 hr_1y [0,1])
  ·rintro i_09 h
   replace h:Fa.k_2 data0 a1 i_09=some r:=h
   rw [Fa.k_2] at h
   refine jx_then (jc_seq (jc_seq (jc_region (qh [0,0] (qe (jx_then (jc_meet (fun(xs_0b:(List GChoice))=>Fa.k_4 xs_0b=some r∧(xs_0b.length=data0.length)∧(hO A_o xs_0b A_c)) (fun xs_0b=> [(0,[],(.slice (mB A_o) data0.length A_c)),(1,[],(vI a1)),(2,[],(vI m2)),(3,[],(vI b3)),(4,[],(.func (.func 89) #[] #[(vP E_b)]))]) (fun xs_0b=> [⟨A_o,104,row encGChoice xs_0b A_sp⟩,⟨some E_b,33,[(vH g4c0.fAway),(vH g4c0.fOctave),(vH g4c0.fStep)]⟩]) ?_ ?_)))))))
   ·refine jc_block ?_
    obtain⟨t_1g,ht_21,hr_22⟩:=bd h
    refine jl (fun(s:(List GChoice)×Int) (x:Unit)=>match s,x with | ⟨xs_3,i_1⟩,_=>(xs_3.length=data0.length)∧(hO A_o xs_3 A_c)) (fun⟨xs_3,i_1⟩ _=> [(0,[],(.slice (mB A_o) data0.length A_c)),(1,[],(vI a1)),(2,[],(vI m2)),(3,[],(vI b3)),(4,[],(.func (.func 89) #[] #[(vP E_b)])),(10,[],(vI i_09)),(13,[],(vI i_1))]) (fun⟨xs_3,i_1⟩ _=> [⟨A_o,104,row encGChoice xs_3 A_sp⟩,⟨some E_b,33,[(vH g4c0.fAway),(vH g4c0.fOctave),(vH g4c0.fStep)]⟩]) ht_21 () ⟨rfl,A_ho⟩ [0,1] ?_
    rintro⟨xs_3,i_1⟩ _ y_2s ⟨hn_0j,ho_8⟩ h
    rw [Fa.l_7] at h
    refine jc_seq (jc_seq (jc_region (qh [0,0,0,0] (qe (jx_then (qi h (fun h=> ?_) (fun h=> ?_)))))))
    ·refine jc_skip (jx_then (jc_seq (jc_block (qg [⟨some E_b,33,[(vH g4c0.fAway),(vH g4c0.fOctave),(vH g4c0.fStep)]⟩] 18 (qd [⟨0,0,0⟩,⟨1,0,0⟩,⟨2,0,0⟩,⟨3,0,0⟩,⟨4,0,0⟩,⟨5,0,0⟩,⟨6,0,0⟩,⟨7,0,0⟩,⟨10,0,0⟩,⟨11,0,0⟩] 8 [1] ?_)))))
     obtain⟨x_5,hx_0p,h⟩:=bd h
     refine qX 8 0 [1] (mB A_o) 4 hx_0p hn_0j (spo ho_8 hx_0p) ?_
     obtain⟨x_02,hx_0q,h⟩:=bd h
     refine qX 12 0 [1] (mB A_o) 4 hx_0q hn_0j (spo ho_8 hx_0q) (t2 9 13 ?_ ?_)
     ·refine ql 0 true (fun w hm=>((hm.ow 0 A_o 104 xs_3 A_sp (fun e=>(ho_8 e).1) encGChoice_len).at hx_0p)) (kD [1] (tD 13 (ql 0 true (fun w hm=>((hm.ow 0 A_o 104 xs_3 A_sp (fun e=>(ho_8 e).1) encGChoice_len).at hx_0q)) (kD [1] ?_))))
      obtain⟨x_1e,hx_12,h⟩:=bd h
      refine qX 14 0 [1] (mB A_o) 4 hx_12 hn_0j (spo ho_8 hx_12) (tD 15 (pO 0 0 A_o 104 encGChoice xs_3 A_sp i_1 x_5 4 0 [(.bool x_5.fAway),(vB x_5.fLate),(vB x_5.fOctave),(vB x_5.fTrack)] (fun e=>(ho_8 e).1) encGChoice_len hx_12 (kD [1] ?_)))
      obtain⟨x_1f,hx_13,h⟩:=bd h
      exact qX 16 0 [1] (mB A_o) 4 hx_13 (List.length_set.trans hn_0j) (spo (set_ho ho_8) hx_13) (tD 17 (pO 0 0 A_o 104 encGChoice (xs_3.set i_1.toNat x_5) A_sp (w64 (i_1+1)) x_02 4 0 [(.bool x_02.fAway),(vB x_02.fLate),(vB x_02.fOctave),(vB x_02.fTrack)] (fun e=>((set_ho ho_8) e).1) encGChoice_len hx_13 (kD [1] (qz (jx_inn (jx_then (jc_region (qh [0,0,0] (qe (qb (((xs_3.set i_1.toNat x_5).set (w64 (i_1+1)).toNat x_02),(w64 (i_1+1))) () h ⟨(List.length_set.trans (List.length_set.trans hn_0j)),(set_ho (set_ho ho_8))⟩ [0,1]))))))))))
     ·refine ql 0 true (fun w hm=>((hm.ow 0 A_o 104 xs_3 A_sp (fun e=>(ho_8 e).1) encGChoice_len).at hx_0q)) (kD [1] (tD 9 (ql 0 true (fun w hm=>((hm.ow 0 A_o 104 xs_3 A_sp (fun e=>(ho_8 e).1) encGChoice_len).at hx_0p)) (kD [1] ?_))))
      obtain⟨x_1e,hx_14,h⟩:=bd h
      refine qX 14 0 [1] (mB A_o) 4 hx_14 hn_0j (spo ho_8 hx_14) (tD 15 (pO 0 0 A_o 104 encGChoice xs_3 A_sp i_1 x_5 4 0 [(.bool x_5.fAway),(vB x_5.fLate),(vB x_5.fOctave),(vB x_5.fTrack)] (fun e=>(ho_8 e).1) encGChoice_len hx_14 (kD [1] ?_)))
      obtain⟨x_1f,hx_15,h⟩:=bd h
      exact qX 16 0 [1] (mB A_o) 4 hx_15 (List.length_set.trans hn_0j) (spo (set_ho ho_8) hx_15) (tD 17 (pO 0 0 A_o 104 encGChoice (xs_3.set i_1.toNat x_5) A_sp (w64 (i_1+1)) x_02 4 0 [(.bool x_02.fAway),(vB x_02.fLate),(vB x_02.fOctave),(vB x_02.fTrack)] (fun e=>((set_ho ho_8) e).1) encGChoice_len hx_15 (kD [1] (qz (jx_inn (jx_then (jc_region (qh [0,0,0] (qe (qb (((xs_3.set i_1.toNat x_5).set (w64 (i_1+1)).toNat x_02),(w64 (i_1+1))) () h ⟨(List.length_set.trans (List.length_set.trans hn_0j)),(set_ho (set_ho ho_8))⟩ [0,1]))))))))))
    ·refine jc_exit (jx_thenx (jx_leave xs_3 (sj h) (fun e_23=> ?_)))
     subst e_23
     exact jx_ine (qm xs_3 ⟨hr_22,hn_0j,ho_8⟩ [0,1])
   ·rintro xs_0b ⟨h,hn_24,ho_25⟩
    replace h:Fa.k_4 xs_0b=some r:=h
    rw [Fa.k_4] at h
    refine jx_then (jc_ret (jx_thenr ?_))
    obtain rfl:=si h
    exact qr [] (fun w hm=>⟨hn_24,ho_25,rfl,hm.pk [0,1]⟩)
 ·refine jc_skip (jx_then (jc_seq (jc_seq (jc_region (qh [0,0,0,0] (qe (jx_then (qi h (fun h=> ?_) (fun h=> ?_)))))))))
  ·refine jc_seq (jc_region (qh [0,0] (qe (jx_then (jc_seq (jc_region (qh [0,0] (qe (jx_then (jc_seq (jc_meet (fun(i_0a:Int)=>Fa.k_24 data0 m2 i_0a=some r) (fun i_0a=> [(0,[],(.slice (mB A_o) data0.length A_c)),(1,[],(vI a1)),(2,[],(vI m2)),(3,[],(vI b3)),(4,[],(.func (.func 89) #[] #[(vP E_b)])),(14,[],(vI i_0a))]) (fun i_0a=> [⟨A_o,104,row encGChoice data0 A_sp⟩,⟨some E_b,33,[(vH g4c0.fAway),(vH g4c0.fOctave),(vH g4c0.fStep)]⟩]) ?_ ?_)))))))))))
   ·refine jc_block ?_
    obtain⟨t_1p,ht_26,hr_27⟩:=bd h
    refine jl (fun(s:Int×Int) (x:Unit)=>match s,x with | ⟨i_01,i_07⟩,_=>True) (fun⟨i_01,i_07⟩ _=> [(0,[],(.slice (mB A_o) data0.length A_c)),(1,[],(vI a1)),(2,[],(vI m2)),(3,[],(vI b3)),(4,[],(.func (.func 89) #[] #[(vP E_b)])),(14,[],(vI i_01)),(15,[],(vI i_07))]) (fun⟨i_01,i_07⟩ _=> [⟨A_o,104,row encGChoice data0 A_sp⟩,⟨some E_b,33,[(vH g4c0.fAway),(vH g4c0.fOctave),(vH g4c0.fStep)]⟩]) ht_26 () trivial [0,1] ?_
    rintro⟨i_01,i_07⟩ _ y_1r _ h
    rw [Fa.l_37] at h
    refine jc_seq (jc_seq (jc_region (qh [0,0,0] (qe (jx_then (qi h (fun h=> ?_) (fun h=> ?_)))))))
    ·refine jc_skip (jx_then (jc_meet (fun(j:Int×Int)=>match j with | ⟨i_0f,i_0g⟩=>Fa.k_41 i_0f i_0g=some y_1r) (fun⟨i_0f,i_0g⟩=> [(0,[],(.slice (mB A_o) data0.length A_c)),(1,[],(vI a1)),(2,[],(vI m2)),(3,[],(vI b3)),(4,[],(.func (.func 89) #[] #[(vP E_b)])),(14,[],(vI i_0f)),(15,[],(vI i_0g))]) (fun⟨i_0f,i_0g⟩=> [⟨A_o,104,row encGChoice data0 A_sp⟩,⟨some E_b,33,[(vH g4c0.fAway),(vH g4c0.fOctave),(vH g4c0.fStep)]⟩]) ?_ ?_))
     ·refine jc_block (jc_seq (jc_region (qh [0,0,0,0,0,0,0] (qe (jx_then (jc_seq (qg [⟨A_o,104,row encGChoice data0 A_sp⟩,⟨some E_b,33,[(vH g4c0.fAway),(vH g4c0.fOctave),(vH g4c0.fStep)]⟩] 12 (qd [⟨0,0,0⟩,⟨1,0,0⟩,⟨2,0,0⟩,⟨5,0,0⟩,⟨6,0,0⟩] 7 [0,1] ?_))))))))
      obtain⟨x_0v,hx_16,h⟩:=bd h
      refine qX 3 0 [0,1] (mB A_o) 4 hx_16 rfl (spo A_ho hx_16) (qL 4 0 [0,1] true (fun w hm=>(hm.ow 0 A_o 104 data0 A_sp (fun e=>(A_ho e).1) encGChoice_len).at hx_16) ?_)
      obtain⟨x_0w,hx_17,h⟩:=bd h
      refine qX 7 0 [0,1] (mB A_o) 4 hx_17 rfl (spo A_ho hx_17) (qL 8 0 [0,1] true (fun w hm=>(hm.ow 0 A_o 104 data0 A_sp (fun e=>(A_ho e).1) encGChoice_len).at hx_17) ?_)
      obtain⟨t_1l,ht_28,h⟩:=bd h
      refine tD 9 (pc 0 (fun w hm=>F9.calls x_0v x_0w g4c0 w _ E_b (hm.ps [1]) ht_28) ?_)
      rintro w v w' hm ⟨rfl,hm'⟩
      refine⟨_,hm.appW (ps:= [(1,⟨some E_b,33,[(vH g4c0.fAway),(vH g4c0.fOctave),(vH g4c0.fStep)]⟩)]) (N:= []) hm' (by kernel_rfl) (by kernel_rfl),kD [0,1] ?_⟩
      clear hm hm'
      refine qd [⟨10,0,0⟩,⟨11,0,0⟩] 0 [0,1] (qz (jx_then (qi h (fun h=> ?_) (fun h=> ?_))))
      ·exact jc_region (qh [0,0,0] (qe (jx_inn (qm ⟨(w64 ((w64 (bShr .u64 (u64 (w64 (i_01+i_07))) 1))+1)),i_07⟩ h [0,1]))))
      ·exact jc_region (qh [0,0] (qe (jx_inn (qm ⟨i_01,(w64 (bShr .u64 (u64 (w64 (i_01+i_07))) 1))⟩ h [0,1]))))
     ·rintro⟨i_0f,i_0g⟩ h
      replace h:Fa.k_41 i_0f i_0g=some y_1r:=h
      rw [Fa.k_41] at h
      exact qb (i_0f,i_0g) () h trivial [0,1]
    ·refine jc_exit (jx_thenx (jx_leave i_01 (sj h) (fun e_29=> ?_)))
     subst e_29
     exact jx_ine (qm i_01 hr_27 [0,1])
   ·rintro i_0a h
    replace h:Fa.k_24 data0 m2 i_0a=some r:=h
    rw [Fa.k_24] at h
    refine jx_then (jc_seq (jc_seq (jc_region (qh [0,0] (qe (jx_then (jc_meet (fun(xs_0c:(List GChoice))=>Fa.k_26 xs_0c=some r∧(xs_0c.length=data0.length)∧(hO A_o xs_0c A_c)) (fun xs_0c=> [(0,[],(.slice (mB A_o) data0.length A_c)),(1,[],(vI a1)),(2,[],(vI m2)),(3,[],(vI b3)),(4,[],(.func (.func 89) #[] #[(vP E_b)]))]) (fun xs_0c=> [⟨A_o,104,row encGChoice xs_0c A_sp⟩,⟨some E_b,33,[(vH g4c0.fAway),(vH g4c0.fOctave),(vH g4c0.fStep)]⟩]) ?_ ?_)))))))
    ·refine jc_block ?_
     obtain⟨t_1k,ht_2a,hr_2b⟩:=bd h
     refine jl (fun(s:(List GChoice)×Int) (x:Unit)=>match s,x with | ⟨xs_4,i_2⟩,_=>(xs_4.length=data0.length)∧(hO A_o xs_4 A_c)) (fun⟨xs_4,i_2⟩ _=> [(0,[],(.slice (mB A_o) data0.length A_c)),(1,[],(vI a1)),(2,[],(vI m2)),(3,[],(vI b3)),(4,[],(.func (.func 89) #[] #[(vP E_b)])),(14,[],(vI i_0a)),(17,[],(vI i_2))]) (fun⟨xs_4,i_2⟩ _=> [⟨A_o,104,row encGChoice xs_4 A_sp⟩,⟨some E_b,33,[(vH g4c0.fAway),(vH g4c0.fOctave),(vH g4c0.fStep)]⟩]) ht_2a () ⟨rfl,A_ho⟩ [0,1] ?_
     rintro⟨xs_4,i_2⟩ _ y_2t ⟨hn_0k,ho_9⟩ h
     rw [Fa.l_29] at h
     refine jc_seq (jc_seq (jc_region (qh [0,0,0] (qe (jx_then (qi h (fun h=> ?_) (fun h=> ?_)))))))
     ·refine jc_skip (jx_then (jc_seq (jc_block (qg [⟨some E_b,33,[(vH g4c0.fAway),(vH g4c0.fOctave),(vH g4c0.fStep)]⟩] 18 (qd [⟨0,0,0⟩,⟨1,0,0⟩,⟨2,0,0⟩,⟨3,0,0⟩,⟨4,0,0⟩,⟨5,0,0⟩,⟨6,0,0⟩,⟨7,0,0⟩,⟨10,0,0⟩,⟨11,0,0⟩] 8 [1] ?_)))))
      obtain⟨x_6,hx_0r,h⟩:=bd h
      refine qX 8 0 [1] (mB A_o) 4 hx_0r hn_0k (spo ho_9 hx_0r) ?_
      obtain⟨x_03,hx_0s,h⟩:=bd h
      refine qX 12 0 [1] (mB A_o) 4 hx_0s hn_0k (spo ho_9 hx_0s) (t2 9 13 ?_ ?_)
      ·refine ql 0 true (fun w hm=>((hm.ow 0 A_o 104 xs_4 A_sp (fun e=>(ho_9 e).1) encGChoice_len).at hx_0r)) (kD [1] (tD 13 (ql 0 true (fun w hm=>((hm.ow 0 A_o 104 xs_4 A_sp (fun e=>(ho_9 e).1) encGChoice_len).at hx_0s)) (kD [1] ?_))))
       obtain⟨x_1i,hx_18,h⟩:=bd h
       refine qX 14 0 [1] (mB A_o) 4 hx_18 hn_0k (spo ho_9 hx_18) (tD 15 (pO 0 0 A_o 104 encGChoice xs_4 A_sp i_2 x_6 4 0 [(.bool x_6.fAway),(vB x_6.fLate),(vB x_6.fOctave),(vB x_6.fTrack)] (fun e=>(ho_9 e).1) encGChoice_len hx_18 (kD [1] ?_)))
       obtain⟨x_1j,hx_19,h⟩:=bd h
       exact qX 16 0 [1] (mB A_o) 4 hx_19 (List.length_set.trans hn_0k) (spo (set_ho ho_9) hx_19) (tD 17 (pO 0 0 A_o 104 encGChoice (xs_4.set i_2.toNat x_6) A_sp (w64 (i_2-1)) x_03 4 0 [(.bool x_03.fAway),(vB x_03.fLate),(vB x_03.fOctave),(vB x_03.fTrack)] (fun e=>((set_ho ho_9) e).1) encGChoice_len hx_19 (kD [1] (qz (jx_inn (jx_then (jc_region (qh [0,0,0] (qe (qb (((xs_4.set i_2.toNat x_6).set (w64 (i_2-1)).toNat x_03),(w64 (i_2-1))) () h ⟨(List.length_set.trans (List.length_set.trans hn_0k)),(set_ho (set_ho ho_9))⟩ [0,1]))))))))))
      ·refine ql 0 true (fun w hm=>((hm.ow 0 A_o 104 xs_4 A_sp (fun e=>(ho_9 e).1) encGChoice_len).at hx_0s)) (kD [1] (tD 9 (ql 0 true (fun w hm=>((hm.ow 0 A_o 104 xs_4 A_sp (fun e=>(ho_9 e).1) encGChoice_len).at hx_0r)) (kD [1] ?_))))
       obtain⟨x_1i,hx_1a,h⟩:=bd h
       refine qX 14 0 [1] (mB A_o) 4 hx_1a hn_0k (spo ho_9 hx_1a) (tD 15 (pO 0 0 A_o 104 encGChoice xs_4 A_sp i_2 x_6 4 0 [(.bool x_6.fAway),(vB x_6.fLate),(vB x_6.fOctave),(vB x_6.fTrack)] (fun e=>(ho_9 e).1) encGChoice_len hx_1a (kD [1] ?_)))
       obtain⟨x_1j,hx_1b,h⟩:=bd h
       exact qX 16 0 [1] (mB A_o) 4 hx_1b (List.length_set.trans hn_0k) (spo (set_ho ho_9) hx_1b) (tD 17 (pO 0 0 A_o 104 encGChoice (xs_4.set i_2.toNat x_6) A_sp (w64 (i_2-1)) x_03 4 0 [(.bool x_03.fAway),(vB x_03.fLate),(vB x_03.fOctave),(vB x_03.fTrack)] (fun e=>((set_ho ho_9) e).1) encGChoice_len hx_1b (kD [1] (qz (jx_inn (jx_then (jc_region (qh [0,0,0] (qe (qb (((xs_4.set i_2.toNat x_6).set (w64 (i_2-1)).toNat x_03),(w64 (i_2-1))) () h ⟨(List.length_set.trans (List.length_set.trans hn_0k)),(set_ho (set_ho ho_9))⟩ [0,1]))))))))))
     ·refine jc_exit (jx_thenx (jx_leave xs_4 (sj h) (fun e_2c=> ?_)))
      subst e_2c
      exact jx_ine (qm xs_4 ⟨hr_2b,hn_0k,ho_9⟩ [0,1])
    ·rintro xs_0c ⟨h,hn_2d,ho_2e⟩
     replace h:Fa.k_26 xs_0c=some r:=h
     rw [Fa.k_26] at h
     refine jx_then (jc_ret (jx_thenr ?_))
     obtain rfl:=si h
     exact qr [] (fun w hm=>⟨hn_2d,ho_2e,rfl,hm.pk [0,1]⟩)
  ·refine jc_skip (jx_then (jc_seq (jc_region (qh [0,0,0,0,0,0,0] (qe (jx_then (jc_seq (jc_region (qh [0,0,0,0] (qe (jx_then (jc_seq (jc_region (qh [0,0] (qe (jx_then (jc_seq (jc_meet (fun(j:Int×Int)=>match j with | ⟨i_0l,i_0m⟩=>Fa.k_47 self_ data0 a1 m2 b3 g4c0 i_0l i_0m=some r) (fun⟨i_0l,i_0m⟩=> [(0,[],(.slice (mB A_o) data0.length A_c)),(1,[],(vI a1)),(2,[],(vI m2)),(3,[],(vI b3)),(4,[],(.func (.func 89) #[] #[(vP E_b)])),(18,[],(vI (w64 (bShr .u64 (u64 (w64 (a1+b3))) 1)))),(19,[],(vI (w64 ((w64 (bShr .u64 (u64 (w64 (a1+b3))) 1))+m2)))),(20,[],(vI i_0l)),(21,[],(vI i_0m))]) (fun⟨i_0l,i_0m⟩=> [⟨A_o,104,row encGChoice data0 A_sp⟩,⟨some E_b,33,[(vH g4c0.fAway),(vH g4c0.fOctave),(vH g4c0.fStep)]⟩]) ?_ ?_))))))))))))))))))
   ·refine jc_seq (jc_region (qh [0,0,0] (qe (jx_then (qi h (fun h=> ?_) (fun h=> ?_))))))
    ·exact jc_seq (jc_region (qh [0,0,0,0] (qe (jx_then (jc_region (qh [0,0] (qe (qm ⟨(w64 ((w64 ((w64 (bShr .u64 (u64 (w64 (a1+b3))) 1))+m2))-b3)),(w64 (bShr .u64 (u64 (w64 (a1+b3))) 1))⟩ h [0,1]))))))))
    ·exact jc_seq (jc_region (qh [0,0] (qe (jx_then (jc_region (qh [0,0] (qe (qm ⟨a1,m2⟩ h [0,1]))))))))
   ·rintro⟨i_0l,i_0m⟩ h
    replace h:Fa.k_47 self_ data0 a1 m2 b3 g4c0 i_0l i_0m=some r:=h
    rw [Fa.k_47] at h
    refine jx_then (jc_seq (jc_region (qh [0,0,0] (qe (jx_then (jc_seq (jc_meet (fun(i_0:Int)=>Fa.k_49 self_ data0 a1 m2 b3 g4c0 i_0=some r) (fun i_0=> [(0,[],(.slice (mB A_o) data0.length A_c)),(1,[],(vI a1)),(2,[],(vI m2)),(3,[],(vI b3)),(4,[],(.func (.func 89) #[] #[(vP E_b)])),(18,[],(vI (w64 (bShr .u64 (u64 (w64 (a1+b3))) 1)))),(19,[],(vI (w64 ((w64 (bShr .u64 (u64 (w64 (a1+b3))) 1))+m2)))),(20,[],(vI i_0))]) (fun i_0=> [⟨A_o,104,row encGChoice data0 A_sp⟩,⟨some E_b,33,[(vH g4c0.fAway),(vH g4c0.fOctave),(vH g4c0.fStep)]⟩]) ?_ ?_)))))))
    ·refine jc_block ?_
     obtain⟨t_1n,ht_2f,hr_2g⟩:=bd h
     refine jl (fun(s:Int×Int) (x:Unit)=>match s,x with | ⟨i_7,i_05⟩,_=>True) (fun⟨i_7,i_05⟩ _=> [(0,[],(.slice (mB A_o) data0.length A_c)),(1,[],(vI a1)),(2,[],(vI m2)),(3,[],(vI b3)),(4,[],(.func (.func 89) #[] #[(vP E_b)])),(18,[],(vI (w64 (bShr .u64 (u64 (w64 (a1+b3))) 1)))),(19,[],(vI (w64 ((w64 (bShr .u64 (u64 (w64 (a1+b3))) 1))+m2)))),(20,[],(vI i_7)),(21,[],(vI i_05)),(22,[],(vI (w64 ((w64 ((w64 (bShr .u64 (u64 (w64 (a1+b3))) 1))+m2))-1))))]) (fun⟨i_7,i_05⟩ _=> [⟨A_o,104,row encGChoice data0 A_sp⟩,⟨some E_b,33,[(vH g4c0.fAway),(vH g4c0.fOctave),(vH g4c0.fStep)]⟩]) ht_2f () trivial [0,1] ?_
     rintro⟨i_7,i_05⟩ _ y_1s _ h
     rw [Fa.l_59] at h
     refine jc_seq (jc_seq (jc_region (qh [0,0,0] (qe (jx_then (qi h (fun h=> ?_) (fun h=> ?_)))))))
     ·refine jc_skip (jx_then (jc_meet (fun(j:Int×Int)=>match j with | ⟨i_0h,i_0i⟩=>Fa.k_63 i_0h i_0i=some y_1s) (fun⟨i_0h,i_0i⟩=> [(0,[],(.slice (mB A_o) data0.length A_c)),(1,[],(vI a1)),(2,[],(vI m2)),(3,[],(vI b3)),(4,[],(.func (.func 89) #[] #[(vP E_b)])),(18,[],(vI (w64 (bShr .u64 (u64 (w64 (a1+b3))) 1)))),(19,[],(vI (w64 ((w64 (bShr .u64 (u64 (w64 (a1+b3))) 1))+m2)))),(20,[],(vI i_0h)),(21,[],(vI i_0i)),(22,[],(vI (w64 ((w64 ((w64 (bShr .u64 (u64 (w64 (a1+b3))) 1))+m2))-1))))]) (fun⟨i_0h,i_0i⟩=> [⟨A_o,104,row encGChoice data0 A_sp⟩,⟨some E_b,33,[(vH g4c0.fAway),(vH g4c0.fOctave),(vH g4c0.fStep)]⟩]) ?_ ?_))
      ·refine jc_block (jc_seq (jc_region (qh [0,0,0,0,0,0,0] (qe (jx_then (jc_seq (qg [⟨A_o,104,row encGChoice data0 A_sp⟩,⟨some E_b,33,[(vH g4c0.fAway),(vH g4c0.fOctave),(vH g4c0.fStep)]⟩] 14 (qd [⟨0,0,0⟩,⟨1,0,0⟩,⟨2,0,0⟩,⟨3,0,0⟩,⟨4,0,0⟩,⟨7,0,0⟩,⟨8,0,0⟩] 7 [0,1] ?_))))))))
       obtain⟨x_0y,hx_1c,h⟩:=bd h
       refine qX 5 0 [0,1] (mB A_o) 4 hx_1c rfl (spo A_ho hx_1c) (qL 6 0 [0,1] true (fun w hm=>(hm.ow 0 A_o 104 data0 A_sp (fun e=>(A_ho e).1) encGChoice_len).at hx_1c) ?_)
       obtain⟨x_0z,hx_1d,h⟩:=bd h
       refine qX 9 0 [0,1] (mB A_o) 4 hx_1d rfl (spo A_ho hx_1d) (qL 10 0 [0,1] true (fun w hm=>(hm.ow 0 A_o 104 data0 A_sp (fun e=>(A_ho e).1) encGChoice_len).at hx_1d) ?_)
       obtain⟨t_1m,ht_2h,h⟩:=bd h
       refine tD 11 (pc 0 (fun w hm=>F9.calls x_0y x_0z g4c0 w _ E_b (hm.ps [1]) ht_2h) ?_)
       rintro w v w' hm ⟨rfl,hm'⟩
       refine⟨_,hm.appW (ps:= [(1,⟨some E_b,33,[(vH g4c0.fAway),(vH g4c0.fOctave),(vH g4c0.fStep)]⟩)]) (N:= []) hm' (by kernel_rfl) (by kernel_rfl),kD [0,1] ?_⟩
       clear hm hm'
       refine qd [⟨12,0,0⟩,⟨13,0,0⟩] 0 [0,1] (qz (jx_then (qi h (fun h=> ?_) (fun h=> ?_))))
       ·exact jc_region (qh [0,0,0] (qe (jx_inn (qm ⟨(w64 ((w64 (bShr .u64 (u64 (w64 (i_7+i_05))) 1))+1)),i_05⟩ h [0,1]))))
       ·exact jc_region (qh [0,0] (qe (jx_inn (qm ⟨i_7,(w64 (bShr .u64 (u64 (w64 (i_7+i_05))) 1))⟩ h [0,1]))))
      ·rintro⟨i_0h,i_0i⟩ h
       replace h:Fa.k_63 i_0h i_0i=some y_1s:=h
       rw [Fa.k_63] at h
       exact qb (i_0h,i_0i) () h trivial [0,1]
     ·refine jc_exit (jx_thenx (jx_leave i_7 (sj h) (fun e_2i=> ?_)))
      subst e_2i
      exact jx_ine (qm i_7 hr_2g [0,1])
    ·rintro i_0 h
     replace h:Fa.k_49 self_ data0 a1 m2 b3 g4c0 i_0=some r:=h
     rw [Fa.k_49] at h
     refine jx_then (jc_seq (jc_region (qh [0,0,0,0] (qe (jx_then (jc_seq (jc_meet (fun(xs_04:(List GChoice))=>Fa.k_51 self_ a1 m2 b3 g4c0 i_0 xs_04=some r∧(xs_04.length=data0.length)∧(hO A_o xs_04 A_c)) (fun xs_04=> [(0,[],(.slice (mB A_o) data0.length A_c)),(1,[],(vI a1)),(3,[],(vI b3)),(4,[],(.func (.func 89) #[] #[(vP E_b)])),(18,[],(vI (w64 (bShr .u64 (u64 (w64 (a1+b3))) 1)))),(20,[],(vI i_0)),(24,[],(vI (w64 ((w64 ((w64 (bShr .u64 (u64 (w64 (a1+b3))) 1))+m2))-i_0))))]) (fun xs_04=> [⟨A_o,104,row encGChoice xs_04 A_sp⟩,⟨some E_b,33,[(vH g4c0.fAway),(vH g4c0.fOctave),(vH g4c0.fStep)]⟩]) ?_ ?_)))))))
     ·refine jc_seq (jc_region (qf [(0,0),(0,0),(0,0),(0,0),(0,1),(0,1),(0,1),(0,0)] (qe (jx_then (qi h (fun h=> ?_) (fun h=> ?_))))))
      ·refine jc_region (qh [0,0,0,0,0] ?_)
       obtain⟨t_0o,ht_2j,h⟩:=bd h
       refine tO (pc 0 (fun w hm=>Fk.calls data0 i_0 m2 (w64 ((w64 ((w64 (bShr .u64 (u64 (w64 (a1+b3))) 1))+m2))-i_0)) g4c0 w _ A_o rfl A_hs A_ho E_b (hm.ps (N:= [⟨A_o,104,row encGChoice data0 A_sp⟩,⟨some E_b,33,[(vH g4c0.fAway),(vH g4c0.fOctave),(vH g4c0.fStep)]⟩]) [0,1]) ht_2j) ?_)
       rintro w v w' hm ⟨hn_2k,ho_2l,rfl,hm'⟩
       refine⟨_,hm.appW (ps:= [(0,⟨A_o,104,row encGChoice t_0o A_sp⟩),(1,⟨some E_b,33,[(vH g4c0.fAway),(vH g4c0.fOctave),(vH g4c0.fStep)]⟩)]) (N:= []) hm' (by kernel_rfl) (by kernel_rfl),jkO ?_⟩
       clear hm hm'
       exact qe (qm t_0o ⟨h,hn_2k,ho_2l⟩ [0,1])
      ·exact jc_skip (qm data0 ⟨h,rfl,A_ho⟩ [0,1])
     ·rintro xs_04 ⟨h,hn_1t,ho_1u⟩
      replace h:Fa.k_51 self_ a1 m2 b3 g4c0 i_0 xs_04=some r:=h
      rw [Fa.k_51] at h
      refine jx_then (jc_seq (jc_meet (fun(xs_08:(List GChoice))=>Fa.k_53 self_ a1 m2 b3 g4c0 i_0 xs_08=some r∧(xs_08.length=data0.length)∧(hO A_o xs_08 A_c)) (fun xs_08=> [(0,[],(.slice (mB A_o) data0.length A_c)),(3,[],(vI b3)),(4,[],(.func (.func 89) #[] #[(vP E_b)])),(18,[],(vI (w64 (bShr .u64 (u64 (w64 (a1+b3))) 1)))),(24,[],(vI (w64 ((w64 ((w64 (bShr .u64 (u64 (w64 (a1+b3))) 1))+m2))-i_0))))]) (fun xs_08=> [⟨A_o,104,row encGChoice xs_08 A_sp⟩,⟨some E_b,33,[(vH g4c0.fAway),(vH g4c0.fOctave),(vH g4c0.fStep)]⟩]) ?_ ?_))
      ·refine jc_seq (jc_region (qf [(0,0),(0,0),(0,0),(0,0),(0,1),(0,1),(0,1),(0,0)] (qe (jx_then (qi h (fun h=> ?_) (fun h=> ?_))))))
       ·refine jc_region (qh [0,0,0,0,0] ?_)
        obtain⟨t_0n,ht_2m,h⟩:=bd h
        refine tO (pc 0 (fun w hm=>hself xs_04 a1 i_0 (w64 (bShr .u64 (u64 (w64 (a1+b3))) 1)) g4c0 w _ A_o hn_1t A_hs ho_1u E_b (hm.ps (N:= [⟨A_o,104,row encGChoice xs_04 A_sp⟩,⟨some E_b,33,[(vH g4c0.fAway),(vH g4c0.fOctave),(vH g4c0.fStep)]⟩]) [0,1]) ht_2m) ?_)
        rintro w v w' hm ⟨hn_2n,ho_2o,rfl,hm'⟩
        refine⟨_,hm.appW (ps:= [(0,⟨A_o,104,row encGChoice t_0n A_sp⟩),(1,⟨some E_b,33,[(vH g4c0.fAway),(vH g4c0.fOctave),(vH g4c0.fStep)]⟩)]) (N:= []) hm' (by kernel_rfl) (by kernel_rfl),jkO ?_⟩
        clear hm hm'
        exact qe (qm t_0n ⟨h,hn_2n,ho_2o⟩ [0,1])
       ·exact jc_skip (qm xs_04 ⟨h,hn_1t,ho_1u⟩ [0,1])
      ·rintro xs_08 ⟨h,hn_1v,ho_1w⟩
       replace h:Fa.k_53 self_ a1 m2 b3 g4c0 i_0 xs_08=some r:=h
       rw [Fa.k_53] at h
       refine jx_then (jc_seq (jc_region (qf [(0,0),(0,0),(0,0),(0,0),(0,1),(0,1),(0,1),(0,0)] (qe (jx_then (qi h (fun h=> ?_) (fun h=> ?_)))))))
       ·refine jc_region (qh [0,0,0,0,0] ?_)
        obtain⟨t_0x,ht_2p,h⟩:=bd h
        refine tO (pc 0 (fun w hm=>hself xs_08 (w64 (bShr .u64 (u64 (w64 (a1+b3))) 1)) (w64 ((w64 ((w64 (bShr .u64 (u64 (w64 (a1+b3))) 1))+m2))-i_0)) b3 g4c0 w _ A_o hn_1v A_hs ho_1w E_b (hm.ps (N:= [⟨A_o,104,row encGChoice xs_08 A_sp⟩,⟨some E_b,33,[(vH g4c0.fAway),(vH g4c0.fOctave),(vH g4c0.fStep)]⟩]) [0,1]) ht_2p) ?_)
        rintro w v w' hm ⟨hn_2q,ho_2r,rfl,hm'⟩
        refine⟨_,hm.appW (ps:= [(0,⟨A_o,104,row encGChoice t_0x A_sp⟩),(1,⟨some E_b,33,[(vH g4c0.fAway),(vH g4c0.fOctave),(vH g4c0.fStep)]⟩)]) (N:= []) hm' (by kernel_rfl) (by kernel_rfl),jkO ?_⟩
        clear hm hm'
        refine qe (jx_fall ?_)
        obtain rfl:=si h
        exact qr [] (fun w hm=>⟨hn_2q,ho_2r,rfl,hm.pk [0,1]⟩)
       ·refine jc_skip (jx_fall ?_)
        obtain rfl:=si h
        exact qr [] (fun w hm=>⟨hn_1v,ho_1w,rfl,hm.pk [0,1]⟩)
theorem Fa.rec_calls(fu:Nat):∀(data0:List GChoice) (a1:Int) (m2:Int) (b3:Int) (g4c0:GCosts) (w:World) (r:(List GChoice)) (A_o:Option Nat) {A_on:Nat} {A_c:Nat} {A_sp:List Value} (A_hn:data0.length=A_on) (A_hs:hS A_o A_on A_c A_sp 4) (A_ho:hO A_o data0 A_c) (E_b:Nat) (hm0:Mem w (bs [A_o,some E_b]) [⟨A_o,104,row encGChoice data0 A_sp⟩,⟨some E_b,33,[(vH g4c0.fAway),(vH g4c0.fOctave),(vH g4c0.fStep)]⟩] w) (h:Fa.rec_ fu data0 a1 m2 b3 g4c0=some r),
   Calls Tryz.prog 211 #[(.slice (mB A_o) A_on A_c),(vI a1),(vI m2),(vI b3),(.func (.func 89) #[] #[(vP E_b)])] w fun e w'=>∃v,e= .returned v∧(r.length=A_on∧(hO A_o r A_c)∧v= .tuple #[]∧Mem w (bs [A_o,some E_b]) [⟨A_o,104,row encGChoice r A_sp⟩,⟨some E_b,33,[(vH g4c0.fAway),(vH g4c0.fOctave),(vH g4c0.fStep)]⟩] w'):=by
 induction fu with
 | zero=>intros;rename_i h;cases h
 | succ fu ih=>exact @Fa.step_calls _ (Fa.rec_ fu) @ih
theorem Fa.calls(data0:List GChoice)(a1:Int)(m2:Int)(b3:Int)(g4c0:GCosts)(w:World)(r:(List GChoice))(A_o:Option Nat){A_on:Nat}{A_c:Nat}{A_sp:List Value}(A_hn:data0.length=A_on)(A_hs:hS A_o A_on A_c A_sp 4)(A_ho:hO A_o data0 A_c)(E_b:Nat)(hm0:Mem w (bs [A_o,some E_b]) [⟨A_o,104,row encGChoice data0 A_sp⟩,⟨some E_b,33,[(vH g4c0.fAway),(vH g4c0.fOctave),(vH g4c0.fStep)]⟩] w)(h:Fa data0 a1 m2 b3 g4c0=some r):
   Calls Tryz.prog 211 #[(.slice (mB A_o) A_on A_c),(vI a1),(vI m2),(vI b3),(.func (.func 89) #[] #[(vP E_b)])] w fun e w'=>∃v,e= .returned v∧(r.length=A_on∧(hO A_o r A_c)∧v= .tuple #[]∧Mem w (bs [A_o,some E_b]) [⟨A_o,104,row encGChoice r A_sp⟩,⟨some E_b,33,[(vH g4c0.fAway),(vH g4c0.fOctave),(vH g4c0.fStep)]⟩] w'):=
 Fa.rec_calls 200 data0 a1 m2 b3 g4c0 w r A_o A_hn A_hs A_ho E_b hm0 h
def Fb.k_7(xs_02:List GChoice):Option ((List GChoice)):=some xs_02
def Fb.k_13(i_0:Int)(xs_00:List GChoice):Option (((List GChoice)×Int)⊕((List GChoice))):=some (.inl (xs_00,(w64 (i_0*2))))
def Fb.k_16(n1:Int)(g2c0:GCosts)(i_0:Int)(xs_3:List GChoice)(i_5:Int):Option (((List GChoice)×Int)⊕((List GChoice))):=(if(decide ((w64 (i_5+i_0))<n1))=true then(Fa xs_3 i_5 (w64 (i_5+i_0)) n1 g2c0).bind fun t_06=>Fb.k_13 i_0 t_06 else Fb.k_13 i_0 xs_3)
def Fb.l_21(n1:Int)(g2c0:GCosts)(i_0:Int):((List GChoice)×Int×Int)→Option (((List GChoice)×Int×Int)⊕(((List GChoice)×Int)))
 | (xs_4,i_6,i_7)=>(if(decide (i_7≤n1))=true then(Fa xs_4 i_6 (w64 (i_6+i_0)) i_7 g2c0).bind fun t_07=>some (.inl (t_07,i_7,(w64 (i_7+(w64 (2*i_0)))))) else some (.inr (xs_4,i_6)))
def Fb.l_10(n1:Int)(g2c0:GCosts):((List GChoice)×Int)→Option (((List GChoice)×Int)⊕((List GChoice)))
 | (xs_01,i_0)=>(if(decide (i_0<n1))=true then(loop (Fb.l_21 n1 g2c0 i_0) (xs_01,0,(w64 (2*i_0)))).bind fun t_0a=>Fb.k_16 n1 g2c0 i_0 t_0a.1 t_0a.2 else some (.inr xs_01))
def Fb.k_4(n1:Int)(g2c0:GCosts)(xs_8:List GChoice)(i_03:Int)(i_04:Int):Option ((List GChoice)):=(Fd xs_8 i_03 n1 g2c0).bind fun t_0b=>(loop (Fb.l_10 n1 g2c0) (t_0b,20)).bind fun t_0c=>Fb.k_7 t_0c
def Fb.l_27(n1:Int)(g2c0:GCosts):((List GChoice)×Int×Int)→Option (((List GChoice)×Int×Int)⊕(((List GChoice)×Int×Int)))
 | (xs_2,i_9,i_1)=>(if(decide (i_1≤n1))=true then(Fd xs_2 i_9 i_1 g2c0).bind fun t_08=>some (.inl (t_08,i_1,(w64 (i_1+20)))) else some (.inr (xs_2,i_9,i_1)))
def Fb(data0:List GChoice)(n1:Int)(g2c0:GCosts):Option ((List GChoice)):=(loop (Fb.l_27 n1 g2c0) (data0,0,20)).bind fun t_05=>Fb.k_4 n1 g2c0 t_05.1 t_05.2.1 t_05.2.2
theorem Fb.calls(data0:List GChoice)(n1:Int)(g2c0:GCosts)(w:World)(r:(List GChoice))(A_o:Option Nat){A_on:Nat}{A_c:Nat}{A_sp:List Value}(A_hn:data0.length=A_on)(A_hs:hS A_o A_on A_c A_sp 4)(A_ho:hO A_o data0 A_c)(C_b:Nat)(hm0:Mem w (bs [A_o,some C_b]) [⟨A_o,104,row encGChoice data0 A_sp⟩,⟨some C_b,33,[(vH g2c0.fAway),(vH g2c0.fOctave),(vH g2c0.fStep)]⟩] w)(h:Fb data0 n1 g2c0=some r):
   Calls Tryz.prog 161 #[(.slice (mB A_o) A_on A_c),(vI n1),(.func (.func 89) #[] #[(vP C_b)])] w fun e w'=>∃v,e= .returned v∧(r.length=A_on∧(hO A_o r A_c)∧v= .tuple #[]∧Mem w (bs [A_o,some C_b]) [⟨A_o,104,row encGChoice r A_sp⟩,⟨some C_b,33,[(vH g2c0.fAway),(vH g2c0.fOctave),(vH g2c0.fStep)]⟩] w'):=by
 subst A_hn
 rw [Fb] at h
 refine enter (args:= [(.slice (mB A_o) data0.length A_c),(vI n1),(.func (.func 89) #[] #[(vP C_b)])]) Tryz.func161 rfl Tryz.ntmps161 (by kernel_rfl) (L:= [⟨A_o,104,row encGChoice data0 A_sp⟩,⟨some C_b,33,[(vH g2c0.fAway),(vH g2c0.fOctave),(vH g2c0.fStep)]⟩]) (W:=bs [A_o,some C_b]) hm0 (jc_seq (jc_region (qh [0] (qe (jx_then (jc_seq (jc_region (qh [0,0,0] (qe (jx_then (jc_seq (jc_meet (fun(j:(List GChoice)×Int×Int)=>match j with | ⟨xs_8,i_03,i_04⟩=>Fb.k_4 n1 g2c0 xs_8 i_03 i_04=some r∧(xs_8.length=data0.length)∧(hO A_o xs_8 A_c)) (fun⟨xs_8,i_03,i_04⟩=> [(0,[],(.slice (mB A_o) data0.length A_c)),(1,[],(vI n1)),(2,[],(.func (.func 89) #[] #[(vP C_b)])),(6,[],(vI 20)),(7,[],(vI i_03)),(8,[],(vI i_04))]) (fun⟨xs_8,i_03,i_04⟩=> [⟨A_o,104,row encGChoice xs_8 A_sp⟩,⟨some C_b,33,[(vH g2c0.fAway),(vH g2c0.fOctave),(vH g2c0.fStep)]⟩]) ?_ ?_))))))))))))
 ·refine jc_block ?_
  obtain⟨t_05,ht_0l,hr_0m⟩:=bd h
  refine jl (fun(s:(List GChoice)×Int×Int) (x:Unit)=>match s,x with | ⟨xs_2,i_9,i_1⟩,_=>(xs_2.length=data0.length)∧(hO A_o xs_2 A_c)) (fun⟨xs_2,i_9,i_1⟩ _=> [(0,[],(.slice (mB A_o) data0.length A_c)),(1,[],(vI n1)),(2,[],(.func (.func 89) #[] #[(vP C_b)])),(6,[],(vI 20)),(7,[],(vI i_9)),(8,[],(vI i_1))]) (fun⟨xs_2,i_9,i_1⟩ _=> [⟨A_o,104,row encGChoice xs_2 A_sp⟩,⟨some C_b,33,[(vH g2c0.fAway),(vH g2c0.fOctave),(vH g2c0.fStep)]⟩]) ht_0l () ⟨rfl,A_ho⟩ [0,1] ?_
  rintro⟨xs_2,i_9,i_1⟩ _ y_18 ⟨hn_0d,ho_0e⟩ h
  rw [Fb.l_27] at h
  refine jc_seq (jc_seq (jc_region (qh [0,0,0] (qe (jx_then (qi h (fun h=> ?_) (fun h=> ?_)))))))
  ·refine jc_skip (jx_then (jc_block (jc_seq (jc_region (qh [0,0,0,0] ?_)))))
   obtain⟨t_08,ht_0n,h⟩:=bd h
   refine tO (pc 0 (fun w hm=>Fd.calls xs_2 i_9 i_1 g2c0 w _ A_o hn_0d A_hs ho_0e C_b (hm.ps (N:= [⟨A_o,104,row encGChoice xs_2 A_sp⟩,⟨some C_b,33,[(vH g2c0.fAway),(vH g2c0.fOctave),(vH g2c0.fStep)]⟩]) [0,1]) ht_0n) ?_)
   rintro w v w' hm ⟨hn_0o,ho_0p,rfl,hm'⟩
   refine⟨_,hm.appW (ps:= [(0,⟨A_o,104,row encGChoice t_08 A_sp⟩),(1,⟨some C_b,33,[(vH g2c0.fAway),(vH g2c0.fOctave),(vH g2c0.fStep)]⟩)]) (N:= []) hm' (by kernel_rfl) (by kernel_rfl),jkO ?_⟩
   clear hm hm'
   exact qe (jx_then (jc_seq (jc_region (qh [0,0] (qe (jx_then (jc_region (qh [0,0,0,0] (qe (jx_inn (qb (t_08,i_1,(w64 (i_1+20))) () h ⟨hn_0o,ho_0p⟩ [0,1])))))))))))
  ·refine jc_exit (jx_thenx (jx_leave (xs_2,i_9,i_1) (sj h) (fun e_0q=> ?_)))
   subst e_0q
   exact jx_ine (qm ⟨xs_2,i_9,i_1⟩ ⟨hr_0m,hn_0d,ho_0e⟩ [0,1])
 ·rintro⟨xs_8,i_03,i_04⟩ ⟨h,hn_9,ho_2⟩
  replace h:Fb.k_4 n1 g2c0 xs_8 i_03 i_04=some r:=h
  rw [Fb.k_4] at h
  refine jx_then (jc_seq (jc_region (qh [0,0,0,0] ?_)))
  obtain⟨t_0b,ht_1,h⟩:=bd h
  refine tO (pc 0 (fun w hm=>Fd.calls xs_8 i_03 n1 g2c0 w _ A_o hn_9 A_hs ho_2 C_b (hm.ps (N:= [⟨A_o,104,row encGChoice xs_8 A_sp⟩,⟨some C_b,33,[(vH g2c0.fAway),(vH g2c0.fOctave),(vH g2c0.fStep)]⟩]) [0,1]) ht_1) ?_)
  rintro w v w' hm ⟨hn_0r,ho_05,rfl,hm'⟩
  refine⟨_,hm.appW (ps:= [(0,⟨A_o,104,row encGChoice t_0b A_sp⟩),(1,⟨some C_b,33,[(vH g2c0.fAway),(vH g2c0.fOctave),(vH g2c0.fStep)]⟩)]) (N:= []) hm' (by kernel_rfl) (by kernel_rfl),jkO ?_⟩
  clear hm hm'
  refine qe (jx_then (jc_meet (fun(xs_02:(List GChoice))=>Fb.k_7 xs_02=some r∧(xs_02.length=data0.length)∧(hO A_o xs_02 A_c)) (fun xs_02=> []) (fun xs_02=> [⟨A_o,104,row encGChoice xs_02 A_sp⟩,⟨some C_b,33,[(vH g2c0.fAway),(vH g2c0.fOctave),(vH g2c0.fStep)]⟩]) ?_ ?_))
  ·refine jc_block ?_
   obtain⟨t_0c,ht_0s,hr_0t⟩:=bd h
   refine jl (fun(s:(List GChoice)×Int) (x:Unit)=>match s,x with | ⟨xs_01,i_0⟩,_=>(xs_01.length=data0.length)∧(hO A_o xs_01 A_c)) (fun⟨xs_01,i_0⟩ _=> [(0,[],(.slice (mB A_o) data0.length A_c)),(1,[],(vI n1)),(2,[],(.func (.func 89) #[] #[(vP C_b)])),(6,[],(vI i_0))]) (fun⟨xs_01,i_0⟩ _=> [⟨A_o,104,row encGChoice xs_01 A_sp⟩,⟨some C_b,33,[(vH g2c0.fAway),(vH g2c0.fOctave),(vH g2c0.fStep)]⟩]) ht_0s () ⟨hn_0r,ho_05⟩ [0,1] ?_
   rintro⟨xs_01,i_0⟩ _ y_09 ⟨hn_0f,ho_0g⟩ h
   rw [Fb.l_10] at h
   refine jc_seq (jc_seq (jc_region (qh [0,0,0] (qe (jx_then (qi h (fun h=> ?_) (fun h=> ?_)))))))
   ·refine jc_skip (jx_then (jc_meet (fun(xs_00:(List GChoice))=>Fb.k_13 i_0 xs_00=some y_09∧(xs_00.length=data0.length)∧(hO A_o xs_00 A_c)) (fun xs_00=> [(0,[],(.slice (mB A_o) data0.length A_c)),(1,[],(vI n1)),(2,[],(.func (.func 89) #[] #[(vP C_b)])),(6,[],(vI (w64 (i_0*2))))]) (fun xs_00=> [⟨A_o,104,row encGChoice xs_00 A_sp⟩,⟨some C_b,33,[(vH g2c0.fAway),(vH g2c0.fOctave),(vH g2c0.fStep)]⟩]) ?_ ?_))
    ·refine jc_block (jc_seq (jc_region (qh [0,0,0,0] (qe (jx_then (jc_seq (jc_meet (fun(j:(List GChoice)×Int)=>match j with | ⟨xs_3,i_5⟩=>Fb.k_16 n1 g2c0 i_0 xs_3 i_5=some y_09∧(xs_3.length=data0.length)∧(hO A_o xs_3 A_c)) (fun⟨xs_3,i_5⟩=> [(0,[],(.slice (mB A_o) data0.length A_c)),(1,[],(vI n1)),(2,[],(.func (.func 89) #[] #[(vP C_b)])),(6,[],(vI i_0)),(7,[],(vI i_5))]) (fun⟨xs_3,i_5⟩=> [⟨A_o,104,row encGChoice xs_3 A_sp⟩,⟨some C_b,33,[(vH g2c0.fAway),(vH g2c0.fOctave),(vH g2c0.fStep)]⟩]) ?_ ?_)))))))
     ·refine jc_block ?_
      obtain⟨t_0a,ht_0u,hr_0v⟩:=bd h
      refine jl (fun(s:(List GChoice)×Int×Int) (x:Unit)=>match s,x with | ⟨xs_4,i_6,i_7⟩,_=>(xs_4.length=data0.length)∧(hO A_o xs_4 A_c)) (fun⟨xs_4,i_6,i_7⟩ _=> [(0,[],(.slice (mB A_o) data0.length A_c)),(1,[],(vI n1)),(2,[],(.func (.func 89) #[] #[(vP C_b)])),(6,[],(vI i_0)),(7,[],(vI i_6)),(8,[],(vI i_7))]) (fun⟨xs_4,i_6,i_7⟩ _=> [⟨A_o,104,row encGChoice xs_4 A_sp⟩,⟨some C_b,33,[(vH g2c0.fAway),(vH g2c0.fOctave),(vH g2c0.fStep)]⟩]) ht_0u () ⟨hn_0f,ho_0g⟩ [0,1] ?_
      rintro⟨xs_4,i_6,i_7⟩ _ y_19 ⟨hn_0h,ho_0i⟩ h
      rw [Fb.l_21] at h
      refine jc_seq (jc_seq (jc_region (qh [0,0,0] (qe (jx_then (qi h (fun h=> ?_) (fun h=> ?_)))))))
      ·refine jc_skip (jx_then (jc_block (jc_seq (jc_region (qh [0,0,0,0,0,0,0] ?_)))))
       obtain⟨t_07,ht_0w,h⟩:=bd h
       refine tO (pc 0 (fun w hm=>Fa.calls xs_4 i_6 (w64 (i_6+i_0)) i_7 g2c0 w _ A_o hn_0h A_hs ho_0i C_b (hm.ps (N:= [⟨A_o,104,row encGChoice xs_4 A_sp⟩,⟨some C_b,33,[(vH g2c0.fAway),(vH g2c0.fOctave),(vH g2c0.fStep)]⟩]) [0,1]) ht_0w) ?_)
       rintro w v w' hm ⟨hn_0x,ho_0y,rfl,hm'⟩
       refine⟨_,hm.appW (ps:= [(0,⟨A_o,104,row encGChoice t_07 A_sp⟩),(1,⟨some C_b,33,[(vH g2c0.fAway),(vH g2c0.fOctave),(vH g2c0.fStep)]⟩)]) (N:= []) hm' (by kernel_rfl) (by kernel_rfl),jkO ?_⟩
       clear hm hm'
       exact qe (jx_then (jc_seq (jc_region (qh [0,0] (qe (jx_then (jc_region (qh [0,0,0,0,0] (qe (jx_inn (qb (t_07,i_7,(w64 (i_7+(w64 (2*i_0))))) () h ⟨hn_0x,ho_0y⟩ [0,1])))))))))))
      ·refine jc_exit (jx_thenx (jx_leave (xs_4,i_6) (sj h) (fun e_0z=> ?_)))
       subst e_0z
       exact jx_ine (qm ⟨xs_4,i_6⟩ ⟨hr_0v,hn_0h,ho_0i⟩ [0,1])
     ·rintro⟨xs_3,i_5⟩ ⟨h,hn_0j,ho_0k⟩
      replace h:Fb.k_16 n1 g2c0 i_0 xs_3 i_5=some y_09:=h
      rw [Fb.k_16] at h
      refine jx_then (jc_seq (jc_seq (jc_region (qh [0,0,0,0] (qe (jx_then (jc_seq (jc_region (qh [0,0,0] (qe (jx_then (qi h (fun h=> ?_) (fun h=> ?_)))))))))))))
      ·refine jc_region (qh [0,0,0,0,0] ?_)
       obtain⟨t_06,ht_10,h⟩:=bd h
       refine tO (pc 0 (fun w hm=>Fa.calls xs_3 i_5 (w64 (i_5+i_0)) n1 g2c0 w _ A_o hn_0j A_hs ho_0k C_b (hm.ps (N:= [⟨A_o,104,row encGChoice xs_3 A_sp⟩,⟨some C_b,33,[(vH g2c0.fAway),(vH g2c0.fOctave),(vH g2c0.fStep)]⟩]) [0,1]) ht_10) ?_)
       rintro w v w' hm ⟨hn_11,ho_12,rfl,hm'⟩
       refine⟨_,hm.appW (ps:= [(0,⟨A_o,104,row encGChoice t_06 A_sp⟩),(1,⟨some C_b,33,[(vH g2c0.fAway),(vH g2c0.fOctave),(vH g2c0.fStep)]⟩)]) (N:= []) hm' (by kernel_rfl) (by kernel_rfl),jkO ?_⟩
       clear hm hm'
       exact qe (jx_then (jc_region (qh [0,0,0] (qe (jx_inn (qm t_06 ⟨h,hn_11,ho_12⟩ [0,1]))))))
      ·exact jc_skip (jx_then (jc_region (qh [0,0,0] (qe (jx_inn (qm xs_3 ⟨h,hn_0j,ho_0k⟩ [0,1]))))))
    ·rintro xs_00 ⟨h,hn_13,ho_14⟩
     replace h:Fb.k_13 i_0 xs_00=some y_09:=h
     rw [Fb.k_13] at h
     exact qb (xs_00,(w64 (i_0*2))) () h ⟨hn_13,ho_14⟩ [0,1]
   ·refine jc_exit (jx_thenx (jx_leave xs_01 (sj h) (fun e_15=> ?_)))
    subst e_15
    exact jx_ine (qm xs_01 ⟨hr_0t,hn_0f,ho_0g⟩ [0,1])
  ·rintro xs_02 ⟨h,hn_16,ho_17⟩
   replace h:Fb.k_7 xs_02=some r:=h
   rw [Fb.k_7] at h
   refine jx_fall ?_
   obtain rfl:=si h
   exact qr [] (fun w hm=>⟨hn_16,ho_17,rfl,hm.pk [0,1]⟩)
def FA(x0:List GChoice)(g1c0:GCosts):Option ((List GChoice)):=(Fb x0 (x0.length:Int) g1c0).bind fun t_0=>some t_0
theorem FA.calls(x0:List GChoice)(g1c0:GCosts)(w:World)(r:(List GChoice))(A_o:Option Nat){A_on:Nat}{A_c:Nat}{A_sp:List Value}(A_hn:x0.length=A_on)(A_hs:hS A_o A_on A_c A_sp 4)(A_ho:hO A_o x0 A_c)(B_b:Nat)(hm0:Mem w (bs [A_o,some B_b]) [⟨A_o,104,row encGChoice x0 A_sp⟩,⟨some B_b,33,[(vH g1c0.fAway),(vH g1c0.fOctave),(vH g1c0.fStep)]⟩] w)(h:FA x0 g1c0=some r):
   Calls Tryz.prog 88 #[(.slice (mB A_o) A_on A_c),(.func (.func 89) #[] #[(vP B_b)])] w fun e w'=>∃v,e= .returned v∧(r.length=A_on∧(hO A_o r A_c)∧v= .tuple #[]∧Mem w (bs [A_o,some B_b]) [⟨A_o,104,row encGChoice r A_sp⟩,⟨some B_b,33,[(vH g1c0.fAway),(vH g1c0.fOctave),(vH g1c0.fStep)]⟩] w'):=by
 subst A_hn
 rw [FA] at h
 refine enter (args:= [(.slice (mB A_o) x0.length A_c),(.func (.func 89) #[] #[(vP B_b)])]) Tryz.func88 rfl Tryz.ntmps88 (by kernel_rfl) (L:= [⟨A_o,104,row encGChoice x0 A_sp⟩,⟨some B_b,33,[(vH g1c0.fAway),(vH g1c0.fOctave),(vH g1c0.fStep)]⟩]) (W:=bs [A_o,some B_b]) hm0 (jc_region (qh [0,0,0,0] ?_))
 obtain⟨t_0,ht_0,h⟩:=bd h
 refine tO (pc 0 (fun w hm=>Fb.calls x0 (x0.length:Int) g1c0 w _ A_o rfl A_hs A_ho B_b (hm.ps (N:= [⟨A_o,104,row encGChoice x0 A_sp⟩,⟨some B_b,33,[(vH g1c0.fAway),(vH g1c0.fOctave),(vH g1c0.fStep)]⟩]) [0,1]) ht_0) ?_)
 rintro w v w' hm ⟨hn_1,ho_2,rfl,hm'⟩
 refine⟨_,hm.appW (ps:= [(0,⟨A_o,104,row encGChoice t_0 A_sp⟩),(1,⟨some B_b,33,[(vH g1c0.fAway),(vH g1c0.fOctave),(vH g1c0.fStep)]⟩)]) (N:= []) hm' (by kernel_rfl) (by kernel_rfl),jkO ?_⟩
 clear hm hm'
 refine qe (jx_fall ?_)
 obtain rfl:=si h
 exact qr [] (fun w hm=>⟨hn_1,ho_2,rfl,hm.pk [0,1]⟩)
def Faz(s0:List GChoice):Option ((List GChoice)):=(if([]:List GChoice).length+s0.length≤4294967296 then some (([]:List GChoice)++s0) else none)
theorem Faz.calls(s0:List GChoice)(w:World)(r:(List GChoice)){A_a:Option Addr}{A_an:Nat}(A_c:Nat)(A_h:Rw w A_a 4 encGChoice s0)(A_hn:s0.length=A_an)(h:Faz s0=some r):
   Calls Tryz.prog 162 #[(.slice A_a A_an A_c)] w fun e w'=>∃v,e= .returned v∧(∃(o0:Option Nat) (c0:Nat) (s0:List Value) (n0:Nat),r.length=n0∧(hS o0 n0 c0 s0 4)∧(hO o0 r c0)∧v= .slice (mB o0) n0 c0∧Mem w [] [⟨o0,104,row encGChoice r s0⟩] w'):=by
 subst A_hn
 rw [Faz] at h
 refine en Tryz.func162 rfl Tryz.ntmps162 (jc_seq (jc_region (qh [0] (qe (jx_then (jc_seq (jc_seq (jc_region (qh [0] ?_)))))))))
 by_cases hn_0:A_a=none
 ·have hx0:s0= []:=(nil_of A_h hn_0)
  replace h:some []=some r:=by simpa [hx0] using h
  refine tO (pN 0 A_a true true (by rw [hn_0];rfl) (jkO (qe (jx_then (jq true (fun hc_1=>(jc_seq (jc_region (qh [0] (qe (jx_then (jc_ret (jx_thenr ?_)))))))) (fun hc_1=>nomatch hc_1))))))
  obtain rfl:=si h
  exact jx_ghost 104 encGChoice (qr [] (fun w hm=>⟨none,0,[],0,rfl,(fun e=>absurd rfl e),(fun _=>⟨rfl,rfl⟩),rfl,hm.pk [0]⟩))
 ·refine tO (pN 0 A_a true false (by rw [Option.isNone_eq_false_iff.2 (Option.ne_none_iff_isSome.1 hn_0)];rfl) (jkO (qe (jx_then (jq false (fun hc_2=>nomatch hc_2) (fun hc_2=>(jc_skip (jx_then (jc_seq (jc_region (tO (qa 0 (fun b_3=>jkO (qh [0] ?_))))))))))))))
  obtain⟨hg_4,h⟩:=gd h
  refine tO (pA 0 0 (some b_3) 104 0 s0.length 0 4 4 A_a encGChoice ([]:List GChoice) s0 [] (.agg #[(.bool false),(vB 0),(vB 0),(vB 0)]) rfl rfl encGChoice_len encGChoice_cell (fun _=>⟨Nat.le_refl _,by simp⟩) (fun e=>nomatch e) (fun w hm=>(hm.xr A_h)) hg_4 (fun o_5 cap_6 sp_7 hs_8 ho_9=>jkO (qh [0] (qe (jx_then (jc_ret ?_))))))
  obtain rfl:=si h
  exact qr [] (fun w hm=>⟨o_5,cap_6,sp_7,((([]:List GChoice)++s0).length),rfl,hs_8,ho_9,rfl,hm.pk [0]⟩)
def Fg.k_12(a0:Garranger)(xs_0b:List GChoice)(i_04:Int)(i_0m:Int)(i_0n:Int)(i_0o:Int)(i_0p:Int)(i_0q:Int)(q_0r:Bool)(i_0s:Int):Option (Garranger):=some (⟨(⟨i_04,a0.ff.fHammers⟩:GFrame),a0.ft,(⟨i_0m,i_0n,i_0o⟩:GCosts),a0.fchoices,a0.fbounds,i_0p,i_0q,q_0r,xs_0b,i_0s⟩:Garranger)
def Fg.k_41(a0:Garranger)(i_02:Int)(xs_08:List GChoice)(i_0c:Int)(i_0d:Int)(i_0e:Int)(i_0f:Int)(i_0g:Int)(i_0h:Int)(q_0a:Bool)(i_0i:Int):Option (((List GChoice)×Int×Int×Int×Int×Int×Int×Bool×Int×Int)⊕(Garranger⊕((List GChoice)×Int×Int×Int×Int×Int×Int×Bool×Int))):=(if q_0a=true then some (.inr (.inl (⟨(⟨i_0c,a0.ff.fHammers⟩:GFrame),a0.ft,(⟨i_0d,i_0e,i_0f⟩:GCosts),a0.fchoices,a0.fbounds,i_0g,i_0h,q_0a,xs_08,i_0i⟩:Garranger))) else some (.inl (xs_08,i_0c,i_0d,i_0e,i_0f,i_0g,i_0h,q_0a,i_0i,(w64 (i_02+1)))))
def Fg.k_28(self_:Garranger→(Arr 96 Int)→(List GChoice)→Int→Option (Garranger))(a0:Garranger)(d1:Arr 96 Int)(list2:List GChoice)(cost3:Int)(xs_2:List GChoice)(i_4:Int)(i_5:Int)(i_6:Int)(i_7:Int)(i_8:Int)(i_9:Int)(q_00:Bool)(i_3:Int)(i_02:Int)(x_0:GChoice)(t_0j:Int):Option (((List GChoice)×Int×Int×Int×Int×Int×Int×Bool×Int×Int)⊕(Garranger⊕((List GChoice)×Int×Int×Int×Int×Int×Int×Bool×Int))):=(if(i_9==i_8)=true then some (.inr (.inl (⟨(⟨i_4,a0.ff.fHammers⟩:GFrame),a0.ft,(⟨i_5,i_6,i_7⟩:GCosts),a0.fchoices,a0.fbounds,i_8,i_9,true,xs_2,i_3⟩:Garranger))) else(ix a0.ft (list2.length:Int)).bind fun x_18=>(FaP d1 x_18 x_0).bind fun t_0k=>(Faz list2).bind fun t_09=>(if t_09.length+([x_0]:List GChoice).length≤4294967296 then(self_ (⟨(⟨i_4,a0.ff.fHammers⟩:GFrame),a0.ft,(⟨i_5,i_6,i_7⟩:GCosts),a0.fchoices,a0.fbounds,i_8,(w64 (i_9+1)),q_00,xs_2,i_3⟩:Garranger) t_0k (t_09++([x_0]:List GChoice)) (w64 (cost3+t_0j))).bind fun t_1=>Fg.k_41 a0 i_02 t_1.fbest t_1.ff.fSteps t_1.fc.fAway t_1.fc.fOctave t_1.fc.fStep t_1.fbudget t_1.flooks t_1.fover t_1.fleast else none))
def Fg.l_24(self_:Garranger→(Arr 96 Int)→(List GChoice)→Int→Option (Garranger))(a0:Garranger)(d1:Arr 96 Int)(list2:List GChoice)(cost3:Int)(x_01:List GChoice):((List GChoice)×Int×Int×Int×Int×Int×Int×Bool×Int×Int)→Option (((List GChoice)×Int×Int×Int×Int×Int×Int×Bool×Int×Int)⊕(Garranger⊕((List GChoice)×Int×Int×Int×Int×Int×Int×Bool×Int)))
 | (xs_2,i_4,i_5,i_6,i_7,i_8,i_9,q_00,i_3,i_02)=>(if(decide (i_02<(x_01.length:Int)))=true then(ix x_01 i_02).bind fun x_0=>(Fau (⟨i_5,i_6,i_7⟩:GCosts) x_0).bind fun t_0j=>(ix a0.ft (list2.length:Int)).bind fun x_19=>(FaD (⟨i_4,a0.ff.fHammers⟩:GFrame) d1 x_19 x_0).bind fun t_1a=>(if(!t_1a)=true then some (.inl (xs_2,i_4,i_5,i_6,i_7,i_8,i_9,q_00,i_3,(w64 (i_02+1)))) else(if(decide (i_3≥0))=true then(ix a0.fbounds (w64 ((list2.length:Int)+1))).bind fun x_1o=>(if(decide ((w64 ((w64 (cost3+t_0j))+x_1o))≥i_3))=true then some (.inl (xs_2,i_4,i_5,i_6,i_7,i_8,i_9,q_00,i_3,(w64 (i_02+1)))) else Fg.k_28 self_ a0 d1 list2 cost3 xs_2 i_4 i_5 i_6 i_7 i_8 i_9 q_00 i_3 i_02 x_0 t_0j) else Fg.k_28 self_ a0 d1 list2 cost3 xs_2 i_4 i_5 i_6 i_7 i_8 i_9 q_00 i_3 i_02 x_0 t_0j)) else some (.inr (.inr (xs_2,i_4,i_5,i_6,i_7,i_8,i_9,q_00,i_3))))
def Fg.step(self_:Garranger→(Arr 96 Int)→(List GChoice)→Int→Option (Garranger))(a0:Garranger)(d1:Arr 96 Int)(list2:List GChoice)(cost3:Int):Option (Garranger):=(if((list2.length:Int)==(a0.ft.length:Int))=true then some (⟨(⟨a0.ff.fSteps,a0.ff.fHammers⟩:GFrame),a0.ft,(⟨a0.fc.fAway,a0.fc.fOctave,a0.fc.fStep⟩:GCosts),a0.fchoices,a0.fbounds,a0.fbudget,a0.flooks,a0.fover,list2,cost3⟩:Garranger) else(ix a0.fchoices (list2.length:Int)).bind fun x_01=>(loop (Fg.l_24 self_ a0 d1 list2 cost3 x_01) (a0.fbest,a0.ff.fSteps,a0.fc.fAway,a0.fc.fOctave,a0.fc.fStep,a0.fbudget,a0.flooks,a0.fover,a0.fleast,0)).bind fun t_1p=>match t_1p with | .inl p=>some p | .inr p=>Fg.k_12 a0 p.1 p.2.1 p.2.2.1 p.2.2.2.1 p.2.2.2.2.1 p.2.2.2.2.2.1 p.2.2.2.2.2.2.1 p.2.2.2.2.2.2.2.1 p.2.2.2.2.2.2.2.2)
def Fg.rec_:Nat→Garranger→(Arr 96 Int)→(List GChoice)→Int→Option (Garranger)
 | 0=>fun a0 d1 list2 cost3=>none
 | fu+1=>Fg.step (Fg.rec_ fu)
def Fg(a0:Garranger)(d1:Arr 96 Int)(list2:List GChoice)(cost3:Int):Option (Garranger):=Fg.rec_ 200 a0 d1 list2 cost3
set_option maxHeartbeats 8000000 in
theorem Fg.step_calls(self_:Garranger→(Arr 96 Int)→(List GChoice)→Int→Option (Garranger))(hself:∀(a0:Garranger) (d1:Arr 96 Int) (list2:List GChoice) (cost3:Int) (w:World) (r:Garranger) {D_a:Option Addr} {D_an:Nat} (D_c:Nat) (D_h:Rw w D_a 2 encGHammer a0.ff.fHammers) (D_hn:a0.ff.fHammers.length=D_an) {E_a:Option Addr} {E_an:Nat} (E_c:Nat) (E_h:Rw w E_a 2 encGNote a0.ft) (E_hn:a0.ft.length=E_an) {J_a:Option Addr} {J_an:Nat} (J_c:Nat) {J_hs:List Hd} (J_h:Rw w J_a 1 encHd J_hs) (J_hn:a0.fchoices.length=J_an) {K_a:Option Addr} {K_an:Nat} (K_c:Nat) (K_h:Rw w K_a 1 encI64 a0.fbounds) (K_hn:a0.fbounds.length=K_an) {O_a:Option Addr} {O_an:Nat} (O_c:Nat) (O_hn:a0.fbest.length=O_an) {R_a:Option Addr} {R_an:Nat} (R_c:Nat) (R_h:Rw w R_a 4 encGChoice list2) (R_hn:list2.length=R_an) (A_b:Nat) (hm0:Mem w (bs [some A_b]) [⟨some A_b,141,[(vH a0.ff.fSteps),(.slice D_a D_an D_c),(.slice E_a E_an E_c),(vH a0.fc.fAway),(vH a0.fc.fOctave),(vH a0.fc.fStep),(.slice J_a J_an J_c),(.slice K_a K_an K_c),(vI a0.fbudget),(vI a0.flooks),(.bool a0.fover),(.slice O_a O_an O_c),(vI a0.fleast)]⟩] w) (D_ha:a0.ff.fHammers≠ []→aB D_a∉bs [some A_b]) (E_ha:a0.ft≠ []→aB E_a∉bs [some A_b]) (J_ha:J_hs≠ []→aB J_a∉bs [some A_b]) (J_i:Inn w (bs [some A_b]) 4 encGChoice J_hs a0.fchoices) (K_ha:a0.fbounds≠ []→aB K_a∉bs [some A_b]) (R_ha:list2≠ []→aB R_a∉bs [some A_b]) (h:self_ a0 d1 list2 cost3=some r),
   Calls Tryz.prog 90 #[(vP A_b),(.agg (row encU32 d1.1 []).toArray),(.slice R_a R_an R_c),(vI cost3)] w fun e w'=>∃v,e= .returned v∧(∃(lo:Option Nat) (la:Option Addr) (lc:Nat) (lsp:List Value) (ln:Nat),r.fbest.length=ln∧LsB lo la lc lsp ln r.fbest 4 [(O_a,O_c,a0.fbest),(R_a,R_c,list2)]∧v= .tuple #[]∧Mem w (bs [some A_b]) [⟨some A_b,141,[(vH r.ff.fSteps),(.slice D_a D_an D_c),(.slice E_a E_an E_c),(vH r.fc.fAway),(vH r.fc.fOctave),(vH r.fc.fStep),(.slice J_a J_an J_c),(.slice K_a K_an K_c),(vI r.fbudget),(vI r.flooks),(.bool r.fover),(.slice la ln lc),(vI r.fleast)]⟩,⟨lo,104,row encGChoice r.fbest lsp⟩] w')) (a0:Garranger) (d1:Arr 96 Int) (list2:List GChoice) (cost3:Int) (w:World) (r:Garranger) {D_a:Option Addr} {D_an:Nat} (D_c:Nat) (D_h:Rw w D_a 2 encGHammer a0.ff.fHammers) (D_hn:a0.ff.fHammers.length=D_an) {E_a:Option Addr} {E_an:Nat} (E_c:Nat) (E_h:Rw w E_a 2 encGNote a0.ft) (E_hn:a0.ft.length=E_an) {J_a:Option Addr} {J_an:Nat} (J_c:Nat) {J_hs:List Hd} (J_h:Rw w J_a 1 encHd J_hs) (J_hn:a0.fchoices.length=J_an) {K_a:Option Addr} {K_an:Nat} (K_c:Nat) (K_h:Rw w K_a 1 encI64 a0.fbounds) (K_hn:a0.fbounds.length=K_an) {O_a:Option Addr} {O_an:Nat} (O_c:Nat) (O_hn:a0.fbest.length=O_an) {R_a:Option Addr} {R_an:Nat} (R_c:Nat) (R_h:Rw w R_a 4 encGChoice list2) (R_hn:list2.length=R_an) (A_b:Nat) (hm0:Mem w (bs [some A_b]) [⟨some A_b,141,[(vH a0.ff.fSteps),(.slice D_a D_an D_c),(.slice E_a E_an E_c),(vH a0.fc.fAway),(vH a0.fc.fOctave),(vH a0.fc.fStep),(.slice J_a J_an J_c),(.slice K_a K_an K_c),(vI a0.fbudget),(vI a0.flooks),(.bool a0.fover),(.slice O_a O_an O_c),(vI a0.fleast)]⟩] w) (D_ha:a0.ff.fHammers≠ []→aB D_a∉bs [some A_b]) (E_ha:a0.ft≠ []→aB E_a∉bs [some A_b]) (J_ha:J_hs≠ []→aB J_a∉bs [some A_b]) (J_i:Inn w (bs [some A_b]) 4 encGChoice J_hs a0.fchoices) (K_ha:a0.fbounds≠ []→aB K_a∉bs [some A_b]) (R_ha:list2≠ []→aB R_a∉bs [some A_b]) (h:Fg.step self_ a0 d1 list2 cost3=some r):
   Calls Tryz.prog 90 #[(vP A_b),(.agg (row encU32 d1.1 []).toArray),(.slice R_a R_an R_c),(vI cost3)] w fun e w'=>∃v,e= .returned v∧(∃(lo:Option Nat) (la:Option Addr) (lc:Nat) (lsp:List Value) (ln:Nat),r.fbest.length=ln∧LsB lo la lc lsp ln r.fbest 4 [(O_a,O_c,a0.fbest),(R_a,R_c,list2)]∧v= .tuple #[]∧Mem w (bs [some A_b]) [⟨some A_b,141,[(vH r.ff.fSteps),(.slice D_a D_an D_c),(.slice E_a E_an E_c),(vH r.fc.fAway),(vH r.fc.fOctave),(vH r.fc.fStep),(.slice J_a J_an J_c),(.slice K_a K_an K_c),(vI r.fbudget),(vI r.flooks),(.bool r.fover),(.slice la ln lc),(vI r.fleast)]⟩,⟨lo,104,row encGChoice r.fbest lsp⟩] w'):=by
 subst D_hn E_hn J_hn K_hn O_hn R_hn
 rw [Fg.step] at h
 refine enter (args:= [(vP A_b),(.agg (row encU32 d1.1 []).toArray),(.slice R_a list2.length R_c),(vI cost3)]) Tryz.func90 rfl Tryz.ntmps90 (by kernel_rfl) (L:= [⟨some A_b,141,[(vH a0.ff.fSteps),(.slice D_a a0.ff.fHammers.length D_c),(.slice E_a a0.ft.length E_c),(vH a0.fc.fAway),(vH a0.fc.fOctave),(vH a0.fc.fStep),(.slice J_a a0.fchoices.length J_c),(.slice K_a a0.fbounds.length K_c),(vI a0.fbudget),(vI a0.flooks),(.bool a0.fover),(.slice O_a a0.fbest.length O_c),(vI a0.fleast)]⟩]) (W:=bs [some A_b]) hm0 (jc_ghostX 104 encGChoice a0.fbest (jc_seq (jc_region (tO (qa 0 (fun b_01=>jkO (qe (jx_then (jc_seq (jc_region (qh [0,0,0] (qe (jx_then (jc_seq (jc_seq (jc_region (qh [0,0,0,0,0,0,0] (qe (jx_then (qi h (fun h=> ?_) (fun h=> ?_)))))))))))))))))))))
 ·refine jc_seq (jc_region (qh [0,0,0,0,0,0] (tO (qs 0 [0] (jk_lsN 1 104 encGChoice list2 (jkO (qh [0,0] (tO (qs 0 [0] (jkO (qe (jx_then (jc_ret (jx_thenr ?_))))))))))))))
  obtain rfl:=si h
  exact qr [] (fun w hm=>⟨(none:Option Nat),R_a,R_c,[],list2.length,rfl,ls1,rfl,hm.pk [0,1]⟩)
 ·refine jc_skip (jx_then (jc_seq (jc_region (qh [0,0,0,0,0] ?_))))
  obtain⟨x_01,hx_04,h⟩:=bd h
  refine tO (qx 0 J_a 1 hx_04 rfl (J_h.sp (J_i.ixh hx_04)) (jkO (tO (ql 0 false (fun w hm=>((hm.exRowW J_h J_ha).at (J_i.ixh hx_04))) (jkO (tO (p_val 0 (vI (((hd J_hs (list2.length:Int)).n:Nat):Int)) (vI (x_01.length:Int)) (by kernel_rfl) (by kernel_rfl) (congrArg (fun z:Nat=>Value.int .i64 (z:Int)) (Eq.symm (J_i.get hx_04).2.1)) (jkO (qh [0] (qe (jx_then (jc_meet (fun(j:(List GChoice)×Int×Int×Int×Int×Int×Int×Bool×Int×(Option Nat)×(Option Addr)×Nat×(List Value)×Nat)=>match j with | ⟨xs_0b,i_04,i_0m,i_0n,i_0o,i_0p,i_0q,q_0r,i_0s,o_0y,a_0z,cap_10,sp_11,n_12⟩=>Fg.k_12 a0 xs_0b i_04 i_0m i_0n i_0o i_0p i_0q q_0r i_0s=some r∧(xs_0b.length=n_12)∧(LsB o_0y a_0z cap_10 sp_11 n_12 xs_0b 4 [(O_a,O_c,a0.fbest),(R_a,R_c,list2)])) (fun⟨xs_0b,i_04,i_0m,i_0n,i_0o,i_0p,i_0q,q_0r,i_0s,o_0y,a_0z,cap_10,sp_11,n_12⟩=> []) (fun⟨xs_0b,i_04,i_0m,i_0n,i_0o,i_0p,i_0q,q_0r,i_0s,o_0y,a_0z,cap_10,sp_11,n_12⟩=> [⟨some A_b,141,[(vH i_04),(.slice D_a a0.ff.fHammers.length D_c),(.slice E_a a0.ft.length E_c),(vH i_0m),(vH i_0n),(vH i_0o),(.slice J_a a0.fchoices.length J_c),(.slice K_a a0.fbounds.length K_c),(vI i_0p),(vI i_0q),(.bool q_0r),(.slice a_0z n_12 cap_10),(vI i_0s)]⟩,⟨o_0y,104,row encGChoice xs_0b sp_11⟩,⟨(some b_01),40,row encU32 d1.1 []⟩]) ?_ ?_))))))))))))
  ·refine jc_block ?_
   obtain⟨t_1p,ht_21,hr_1b⟩:=bd h
   refine jl (fun(s:(List GChoice)×Int×Int×Int×Int×Int×Int×Bool×Int×Int) (x:(Option Nat)×(Option Addr)×Nat×(List Value)×Nat)=>match s,x with | ⟨xs_2,i_4,i_5,i_6,i_7,i_8,i_9,q_00,i_3,i_02⟩,⟨o_05,a_06,cap_03,sp_07,n_13⟩=>(xs_2.length=n_13)∧(LsB o_05 a_06 cap_03 sp_07 n_13 xs_2 4 [(O_a,O_c,a0.fbest),(R_a,R_c,list2)])) (fun⟨xs_2,i_4,i_5,i_6,i_7,i_8,i_9,q_00,i_3,i_02⟩ ⟨o_05,a_06,cap_03,sp_07,n_13⟩=> [(0,[],(vP A_b)),(2,[],(.slice R_a list2.length R_c)),(3,[],(vI cost3)),(5,[],(vP b_01)),(8,[],(vI (list2.length:Int))),(36,[],(.slice (hd J_hs (list2.length:Int)).a ((hd J_hs (list2.length:Int)).n) ((hd J_hs (list2.length:Int)).c))),(37,[],(vI (x_01.length:Int))),(38,[],(vI i_02))]) (fun⟨xs_2,i_4,i_5,i_6,i_7,i_8,i_9,q_00,i_3,i_02⟩ ⟨o_05,a_06,cap_03,sp_07,n_13⟩=> [⟨some A_b,141,[(vH i_4),(.slice D_a a0.ff.fHammers.length D_c),(.slice E_a a0.ft.length E_c),(vH i_5),(vH i_6),(vH i_7),(.slice J_a a0.fchoices.length J_c),(.slice K_a a0.fbounds.length K_c),(vI i_8),(vI i_9),(.bool q_00),(.slice a_06 n_13 cap_03),(vI i_3)]⟩,⟨o_05,104,row encGChoice xs_2 sp_07⟩,⟨(some b_01),40,row encU32 d1.1 []⟩]) ht_21 ⟨(none:Option Nat),O_a,O_c,[],a0.fbest.length⟩ ⟨rfl,ls0⟩ [0,1,2] ?_
   rintro⟨xs_2,i_4,i_5,i_6,i_7,i_8,i_9,q_00,i_3,i_02⟩ ⟨o_05,a_06,cap_03,sp_07,n_13⟩ y_17 ⟨rfl,hl_14⟩ h
   rw [Fg.l_24] at h
   refine jc_seq (jc_region (qh [0] (qe (jx_then (jc_seq (qi h (fun h=> ?_) (fun h=> ?_)))))))
   ·refine jc_skip (jx_then (jc_seq (jc_block (jc_seq (jc_region ?_)))))
    obtain⟨x_0,hx_1c,h⟩:=bd h
    refine tO (qx 0 (hd J_hs (list2.length:Int)).a 4 hx_1c (J_i.get hx_04).2.1 ((J_i.get hx_04).1.sp hx_1c) (jkO (tO (ql 0 true (fun w hm=>((hm.exRowW (J_i.get hx_04).1 (J_i.get hx_04).2.2).at hx_1c)) (jkO (tO (qa 0 (fun b_0l=>jkO (tO (qs 0 [3] (jkO (qe (jx_then (jc_seq (qg [⟨some A_b,141,[(vH i_4),(.slice D_a a0.ff.fHammers.length D_c),(.slice E_a a0.ft.length E_c),(vH i_5),(vH i_6),(vH i_7),(.slice J_a a0.fchoices.length J_c),(.slice K_a a0.fbounds.length K_c),(vI i_8),(vI i_9),(.bool q_00),(.slice a_06 xs_2.length cap_03),(vI i_3)]⟩,⟨o_05,104,row encGChoice xs_2 sp_07⟩,⟨(some b_01),40,row encU32 d1.1 []⟩,⟨some b_0l,104,[(.bool x_0.fAway),(vB x_0.fLate),(vB x_0.fOctave),(vB x_0.fTrack)]⟩] 9 (qd [⟨0,0,0⟩,⟨1,0,0⟩,⟨2,0,0⟩,⟨3,0,0⟩,⟨4,0,0⟩,⟨5,3,0⟩] 3 [0,1,2,3] ?_))))))))))))))))
    obtain⟨t_0j,ht_22,h⟩:=bd h
    refine tD 6 (pq 0 (fun w hm=>Fau.calls (⟨i_5,i_6,i_7⟩:GCosts) x_0 w _ ht_22) (kD [0,1,2,3] (qd [⟨7,0,0⟩,⟨8,0,0⟩] 0 [0,1,2,3] (qz (jx_then (jc_seq (jc_meet (fun(_:Unit)=>Fg.k_28 self_ a0 d1 list2 cost3 xs_2 i_4 i_5 i_6 i_7 i_8 i_9 q_00 i_3 i_02 x_0 t_0j=some y_17) (fun(_:Unit)=> [(0,[],(vP A_b)),(2,[],(.slice R_a list2.length R_c)),(3,[],(vI cost3)),(5,[],(vP b_01)),(8,[],(vI (list2.length:Int))),(10,[],(vP b_0l)),(11,[],(vI (w64 (cost3+t_0j)))),(36,[],(.slice (hd J_hs (list2.length:Int)).a ((hd J_hs (list2.length:Int)).n) ((hd J_hs (list2.length:Int)).c))),(37,[],(vI (x_01.length:Int))),(38,[],(vI i_02))]) (fun(_:Unit)=> [⟨some A_b,141,[(vH i_4),(.slice D_a a0.ff.fHammers.length D_c),(.slice E_a a0.ft.length E_c),(vH i_5),(vH i_6),(vH i_7),(.slice J_a a0.fchoices.length J_c),(.slice K_a a0.fbounds.length K_c),(vI i_8),(vI i_9),(.bool q_00),(.slice a_06 xs_2.length cap_03),(vI i_3)]⟩,⟨o_05,104,row encGChoice xs_2 sp_07⟩,⟨(some b_01),40,row encU32 d1.1 []⟩,⟨some b_0l,104,[(.bool x_0.fAway),(vB x_0.fLate),(vB x_0.fOctave),(vB x_0.fTrack)]⟩]) ?_ ?_)))))))
    ·refine jc_seq (qg [⟨some A_b,141,[(vH i_4),(.slice D_a a0.ff.fHammers.length D_c),(.slice E_a a0.ft.length E_c),(vH i_5),(vH i_6),(vH i_7),(.slice J_a a0.fchoices.length J_c),(.slice K_a a0.fbounds.length K_c),(vI i_8),(vI i_9),(.bool q_00),(.slice a_06 xs_2.length cap_03),(vI i_3)]⟩,⟨o_05,104,row encGChoice xs_2 sp_07⟩,⟨(some b_01),40,row encU32 d1.1 []⟩,⟨some b_0l,104,[(.bool x_0.fAway),(vB x_0.fLate),(vB x_0.fOctave),(vB x_0.fTrack)]⟩] 38 (qd [⟨0,0,0⟩,⟨1,0,0⟩,⟨2,0,0⟩,⟨3,0,0⟩,⟨4,0,0⟩,⟨5,0,0⟩,⟨6,0,0⟩,⟨7,0,0⟩,⟨8,0,0⟩,⟨11,3,0⟩] 28 [0,1,2,3] ?_))
     obtain⟨x_19,hx_1d,h⟩:=bd h
     refine qX 9 0 [0,1,2,3] E_a 2 hx_1d rfl (E_h.sp hx_1d) (qL 10 0 [0,1,2,3] true (fun w hm=>(hm.exRowW E_h E_ha).at hx_1d) ?_)
     obtain⟨t_1a,ht_23,h⟩:=bd h
     refine tD 12 (pq 0 (fun w hm=>FaD.calls (⟨i_4,a0.ff.fHammers⟩:GFrame) d1 x_19 x_0 w _ D_c (hm.exRowW D_h D_ha) rfl (hm.ow 2 (some b_01) 40 d1.1 [] (fun e=>nomatch e) encU32_len) ht_23) (kD [0,1,2,3] (qd [⟨13,0,0⟩,⟨14,0,0⟩,⟨15,0,1⟩,⟨16,0,1⟩,⟨17,0,1⟩,⟨18,0,1⟩,⟨19,0,1⟩] 18 [0,1,2,3] (js 64 (!t_1a) (fun hc_1e=> ?_) (fun hc_1e=> ?_)))))
     ·replace h:=ifT hc_1e h
      exact qd [⟨20,0,3⟩,⟨21,0,3⟩,⟨22,0,3⟩,⟨23,0,3⟩,⟨24,0,3⟩,⟨25,0,3⟩,⟨26,0,3⟩,⟨27,0,3⟩,⟨28,0,3⟩,⟨29,0,3⟩,⟨30,0,3⟩,⟨31,0,3⟩,⟨32,0,3⟩,⟨33,0,3⟩,⟨34,0,3⟩,⟨35,0,3⟩,⟨36,0,3⟩,⟨37,0,4⟩] 0 [0,1,2,3] (qz (jx_then (jq true (fun hc_1q=>(jc_exit (jx_thenx (jx_thenx (jx_ine (jx_then (jc_region (qh [0,0] (qe (qb (xs_2,i_4,i_5,i_6,i_7,i_8,i_9,q_00,i_3,(w64 (i_02+1))) ⟨o_05,a_06,cap_03,sp_07,xs_2.length⟩ h ⟨rfl,hl_14⟩ [0,1,2])))))))))) (fun hc_1q=>nomatch hc_1q))))
     ·replace h:=ifF hc_1e h
      refine qd [⟨20,0,2⟩,⟨21,0,1⟩,⟨22,0,1⟩,⟨23,0,1⟩,⟨24,0,1⟩,⟨25,0,1⟩,⟨26,0,1⟩,⟨27,0,1⟩,⟨31,0,1⟩,⟨32,0,1⟩,⟨33,0,1⟩,⟨34,0,1⟩] 6 [0,1,2,3] (js 70 (decide (i_3≥0)) (fun hc_1f=> ?_) (fun hc_1f=> ?_))
      ·replace h:=ifT hc_1f h
       obtain⟨x_1o,hx_1g,h⟩:=bd h
       refine qX 28 2 [0,1,2,3] K_a 1 hx_1g rfl (K_h.sp hx_1g) (qL 29 2 [0,1,2,3] false (fun w hm=>(hm.exRowW K_h K_ha).at hx_1g) (qd [⟨30,0,2⟩,⟨35,0,2⟩,⟨36,0,4⟩,⟨37,0,5⟩] 0 [0,1,2,3] (qz (jx_then (qi h (fun h=> ?_) (fun h=> ?_))))))
       ·exact jc_exit (jx_thenx (jx_thenx (jx_ine (jx_then (jc_region (qh [0,0] (qe (qb (xs_2,i_4,i_5,i_6,i_7,i_8,i_9,q_00,i_3,(w64 (i_02+1))) ⟨o_05,a_06,cap_03,sp_07,xs_2.length⟩ h ⟨rfl,hl_14⟩ [0,1,2]))))))))
       ·exact jc_skip (qm () h [0,1,2,3])
      ·replace h:=ifF hc_1f h
       exact qd [⟨28,0,3⟩,⟨29,0,3⟩,⟨30,0,3⟩,⟨35,0,3⟩,⟨36,0,5⟩,⟨37,0,5⟩] 0 [0,1,2,3] (qz (jx_then (jq false (fun hc_1r=>nomatch hc_1r) (fun hc_1r=>(jc_skip (qm () h [0,1,2,3]))))))
    ·rintro _ h
     replace h:Fg.k_28 self_ a0 d1 list2 cost3 xs_2 i_4 i_5 i_6 i_7 i_8 i_9 q_00 i_3 i_02 x_0 t_0j=some y_17:=h
     rw [Fg.k_28] at h
     refine jx_then (jc_seq (jc_seq (qg [⟨some A_b,141,[(vH i_4),(.slice D_a a0.ff.fHammers.length D_c),(.slice E_a a0.ft.length E_c),(vH i_5),(vH i_6),(vH i_7),(.slice J_a a0.fchoices.length J_c),(.slice K_a a0.fbounds.length K_c),(vI i_8),(vI i_9),(.bool q_00),(.slice a_06 xs_2.length cap_03),(vI i_3)]⟩,⟨o_05,104,row encGChoice xs_2 sp_07⟩,⟨(some b_01),40,row encU32 d1.1 []⟩,⟨some b_0l,104,[(.bool x_0.fAway),(vB x_0.fLate),(vB x_0.fOctave),(vB x_0.fTrack)]⟩] 9 (qd [⟨0,0,0⟩,⟨1,0,0⟩,⟨2,0,0⟩,⟨3,0,0⟩,⟨4,0,0⟩,⟨5,0,0⟩,⟨6,0,0⟩,⟨7,0,0⟩,⟨8,0,0⟩] 0 [0,1,2,3] (qz (jx_then (qi h (fun h=> ?_) (fun h=> ?_))))))))
     ·refine jc_seq (jc_region (qh [0,0,0] (tO (qs 0 [0] (jkO (qe (jx_then (jc_ret (jx_thenr (jx_inr (jx_thenr (jx_leaver (.inl (⟨(⟨i_4,a0.ff.fHammers⟩:GFrame),a0.ft,(⟨i_5,i_6,i_7⟩:GCosts),a0.fchoices,a0.fbounds,i_8,i_9,true,xs_2,i_3⟩:Garranger)) (sj h) (fun e_24=> ?_)))))))))))))
      subst e_24
      refine jx_inr (jx_thenr ?_)
      obtain rfl:=si hr_1b
      exact qr [] (fun w hm=>⟨o_05,a_06,cap_03,sp_07,xs_2.length,rfl,hl_14,rfl,hm.pk [0,1]⟩)
     ·refine jc_skip (jx_then (jc_seq (jc_region (qh [0,0,0,0,0,0,0] (tO (qs 0 [0] (jkO (qe (jx_then (jc_seq (jc_region (tO (pL 0 2 b_01 96 1 40 encU32 d1 encU32_len (jkO (tO (qa 0 (fun b_0t=>jkO (tO (pS 0 4 b_0t 96 1 40 encU32 (Arr.rep 96 0) d1 encU32_len encU32_cell (jkO (qe (jx_then (jc_seq (qg [⟨some A_b,141,[(vH i_4),(.slice D_a a0.ff.fHammers.length D_c),(.slice E_a a0.ft.length E_c),(vH i_5),(vH i_6),(vH i_7),(.slice J_a a0.fchoices.length J_c),(.slice K_a a0.fbounds.length K_c),(vI i_8),(vI (w64 (i_9+1))),(.bool q_00),(.slice a_06 xs_2.length cap_03),(vI i_3)]⟩,⟨o_05,104,row encGChoice xs_2 sp_07⟩,⟨(some b_01),40,row encU32 d1.1 []⟩,⟨some b_0l,104,[(.bool x_0.fAway),(vB x_0.fLate),(vB x_0.fOctave),(vB x_0.fTrack)]⟩] 9 (qd [⟨0,0,0⟩,⟨1,0,0⟩,⟨2,0,0⟩,⟨3,0,0⟩,⟨4,0,0⟩,⟨7,3,0⟩] 3 [0,1,2,3] ?_)))))))))))))))))))))))))
      obtain⟨x_18,hx_1h,h⟩:=bd h
      refine qX 5 0 [0,1,2,3] E_a 2 hx_1h rfl (E_h.sp hx_1h) (qL 6 0 [0,1,2,3] true (fun w hm=>(hm.exRowW E_h E_ha).at hx_1h) ?_)
      obtain⟨t_0k,ht_25,h⟩:=bd h
      refine tD 8 (pc 0 (fun w hm=>FaP.calls d1 x_18 x_0 w _ b_0t (hm.ps [4]) ht_25) ?_)
      rintro w v w' hm ⟨rfl,hm'⟩
      refine⟨_,hm.appW (ps:= [(4,⟨(some b_0t),40,row encU32 t_0k.1 []⟩)]) (N:= []) hm' (by kernel_rfl) (by kernel_rfl),kD [0,1,2,3] ?_⟩
      clear hm hm'
      refine qz (jx_then (jc_seq (jc_meet (fun(j:(List GChoice)×Int×Int×Int×Int×Int×Int×Bool×Int×(Option Nat)×(Option Addr)×Nat×(List Value)×Nat)=>match j with | ⟨xs_08,i_0c,i_0d,i_0e,i_0f,i_0g,i_0h,q_0a,i_0i,o_0u,a_0v,cap_0w,sp_0x,n_15⟩=>Fg.k_41 a0 i_02 xs_08 i_0c i_0d i_0e i_0f i_0g i_0h q_0a i_0i=some y_17∧(xs_08.length=n_15)∧(LsB o_0u a_0v cap_0w sp_0x n_15 xs_08 4 [(O_a,O_c,a0.fbest),(R_a,R_c,list2)])) (fun⟨xs_08,i_0c,i_0d,i_0e,i_0f,i_0g,i_0h,q_0a,i_0i,o_0u,a_0v,cap_0w,sp_0x,n_15⟩=> [(0,[],(vP A_b)),(2,[],(.slice R_a list2.length R_c)),(3,[],(vI cost3)),(5,[],(vP b_01)),(8,[],(vI (list2.length:Int))),(36,[],(.slice (hd J_hs (list2.length:Int)).a ((hd J_hs (list2.length:Int)).n) ((hd J_hs (list2.length:Int)).c))),(37,[],(vI (x_01.length:Int))),(38,[],(vI i_02))]) (fun⟨xs_08,i_0c,i_0d,i_0e,i_0f,i_0g,i_0h,q_0a,i_0i,o_0u,a_0v,cap_0w,sp_0x,n_15⟩=> [⟨some A_b,141,[(vH i_0c),(.slice D_a a0.ff.fHammers.length D_c),(.slice E_a a0.ft.length E_c),(vH i_0d),(vH i_0e),(vH i_0f),(.slice J_a a0.fchoices.length J_c),(.slice K_a a0.fbounds.length K_c),(vI i_0g),(vI i_0h),(.bool q_0a),(.slice a_0v n_15 cap_0w),(vI i_0i)]⟩,⟨o_0u,104,row encGChoice xs_08 sp_0x⟩,⟨(some b_01),40,row encU32 d1.1 []⟩,⟨some b_0l,104,[(.bool x_0.fAway),(vB x_0.fLate),(vB x_0.fOctave),(vB x_0.fTrack)]⟩,⟨(some b_0t),40,row encU32 t_0k.1 []⟩]) ?_ ?_)))
      ·refine qg [⟨(some b_01),40,row encU32 d1.1 []⟩,⟨some b_0l,104,[(.bool x_0.fAway),(vB x_0.fLate),(vB x_0.fOctave),(vB x_0.fTrack)]⟩,⟨(some b_0t),40,row encU32 t_0k.1 []⟩] 9 (qd [⟨0,0,0⟩,⟨2,0,0⟩,⟨4,1,0⟩,⟨7,0,0⟩] 5 [2,3,4] (qv 1 0 [2,3,4] (fun w hm=>ld_run (b:=b_0t) (off:=0) (s:=96) (agg:=true) (vs:=row encU32 t_0k.1 []) (by kernel_rfl) ((row_len encU32_len t_0k).trans rfl) (.inl rfl) (hm.all (hh:=2) (T:=40) (by kernel_rfl))) (t2 3 5 ?_ ?_)))
       ·obtain⟨t_09,ht_26,h⟩:=bd h
        refine pc 0 (fun w hm=>Faz.calls list2 w _ R_c (hm.exRowW R_h R_ha) rfl ht_26) ?_
        rintro w v w' hm ⟨o_27,cap_28,sp_29,_,rfl,hs_2a,ho_2b,rfl,hm'⟩
        refine aq hm hm' (kD [2,3,4] (tD 5 (qa 0 (fun b_1i=>kD [2,3,4] ?_))))
        obtain⟨hg_2c,h⟩:=gd h
        refine tD 6 (pA 0 5 o_27 104 t_09.length 1 cap_28 4 4 (sB b_1i) encGChoice t_09 ([x_0]:List GChoice) sp_29 (.agg #[(.bool false),(vB 0),(vB 0),(vB 0)]) rfl rfl encGChoice_len encGChoice_cell hs_2a ho_2b (fun w hm=>(hm.ow 6 (some b_1i) 104 ([x_0]:List GChoice) [] (fun e=>nomatch e) encGChoice_len)) hg_2c (fun o_1j cap_2d sp_1s hs_2e ho_1k=>kD [2,3,4] ?_))
        obtain⟨t_1,ht_2f,h⟩:=bd h
        refine tD 8 (pc 0 (fun w hm=>hself (⟨(⟨i_4,a0.ff.fHammers⟩:GFrame),a0.ft,(⟨i_5,i_6,i_7⟩:GCosts),a0.fchoices,a0.fbounds,i_8,(w64 (i_9+1)),q_00,xs_2,i_3⟩:Garranger) t_0k (t_09++([x_0]:List GChoice)) (w64 (cost3+t_0j)) w _ D_c (hm.exRowW D_h D_ha) rfl E_c (hm.exRowW E_h E_ha) rfl J_c (hm.exRowW J_h J_ha) rfl K_c (hm.exRowW K_h K_ha) rfl cap_03 rfl cap_2d (hm.ow 5 o_1j 104 (t_09++([x_0]:List GChoice)) sp_1s (fun e=>(ho_1k e).1) encGChoice_len) rfl A_b (hm.ps (N:= [⟨some A_b,141,[(vH i_4),(.slice D_a a0.ff.fHammers.length D_c),(.slice E_a a0.ft.length E_c),(vH i_5),(vH i_6),(vH i_7),(.slice J_a a0.fchoices.length J_c),(.slice K_a a0.fbounds.length K_c),(vI i_8),(vI (w64 (i_9+1))),(.bool q_00),(.slice a_06 xs_2.length cap_03),(vI i_3)]⟩]) [0]) (hm.xp D_h D_ha [0]) (hm.xp E_h E_ha [0]) (hm.xp J_h J_ha [0]) (hm.ip J_i [0]) (hm.xp K_h K_ha [0]) (hm.oa 5 o_1j (fun e=>(ho_1k e).1) [0]) ht_2f) ?_)
        rintro w v w' hm ⟨o_2g,a_16,cap_1t,sp_2h,_,rfl,hl_2i,rfl,hm'⟩
        obtain⟨o_1u,sp_1v,hl_2j,hM_1155⟩:=Mem.ls3 (T:=104) (enc:=encGChoice) (o1:=o_05) (sp1:=sp_07) (xs1:=xs_2) (o:=o_2g) (sp:=sp_2h) (xs:=t_1.fbest) (F:= [(O_a,O_c,a0.fbest),(R_a,R_c,list2)]) (o2:=o_1j) (sp2:=sp_1s) (xs2:=(t_09++([x_0]:List GChoice))) (hm.aw [0] hm') 1 5 7 (by kernel_rfl) (by kernel_rfl) (by kernel_rfl) (by kernel_rfl) hl_14 rfl hs_2e ho_1k rfl rfl hl_2i
        refine⟨_,Mem.pick hM_1155 (N:= [⟨some A_b,141,[(vH t_1.ff.fSteps),(.slice D_a a0.ff.fHammers.length D_c),(.slice E_a a0.ft.length E_c),(vH t_1.fc.fAway),(vH t_1.fc.fOctave),(vH t_1.fc.fStep),(.slice J_a a0.fchoices.length J_c),(.slice K_a a0.fbounds.length K_c),(vI t_1.fbudget),(vI t_1.flooks),(.bool t_1.fover),(.slice a_16 t_1.fbest.length cap_1t),(vI t_1.fleast)]⟩,⟨o_1u,104,row encGChoice t_1.fbest sp_1v⟩,⟨(some b_01),40,row encU32 d1.1 []⟩,⟨some b_0l,104,[(.bool x_0.fAway),(vB x_0.fLate),(vB x_0.fOctave),(vB x_0.fTrack)]⟩,⟨(some b_0t),40,row encU32 t_0k.1 []⟩,⟨none,0,[]⟩,⟨(some b_1i),104,row encGChoice ([x_0]:List GChoice) []⟩]) [0,1,2,3,4,5,6] (by kernel_rfl) (by kernel_rfl),kD [2,3,4] ?_⟩
        clear hm hm' hM_1155
        exact qz (qm ⟨t_1.fbest,t_1.ff.fSteps,t_1.fc.fAway,t_1.fc.fOctave,t_1.fc.fStep,t_1.fbudget,t_1.flooks,t_1.fover,t_1.fleast,o_1u,a_16,cap_1t,sp_1v,t_1.fbest.length⟩ ⟨h,rfl,hl_2j⟩ [0,1,2,3,4])
       ·refine qa 0 (fun b_1l=>kD [2,3,4] ?_)
        obtain⟨t_09,ht_2k,h⟩:=bd h
        refine tD 3 (pc 0 (fun w hm=>Faz.calls list2 w _ R_c (hm.exRowW R_h R_ha) rfl ht_2k) ?_)
        rintro w v w' hm ⟨o_2l,cap_2m,sp_2n,_,rfl,hs_2o,ho_2p,rfl,hm'⟩
        refine aq hm hm' (kD [2,3,4] ?_)
        obtain⟨hg_2q,h⟩:=gd h
        refine tD 6 (pA 0 6 o_2l 104 t_09.length 1 cap_2m 4 4 (sB b_1l) encGChoice t_09 ([x_0]:List GChoice) sp_2n (.agg #[(.bool false),(vB 0),(vB 0),(vB 0)]) rfl rfl encGChoice_len encGChoice_cell hs_2o ho_2p (fun w hm=>(hm.ow 5 (some b_1l) 104 ([x_0]:List GChoice) [] (fun e=>nomatch e) encGChoice_len)) hg_2q (fun o_1m cap_2r sp_1w hs_2s ho_1n=>kD [2,3,4] ?_))
        obtain⟨t_1,ht_2t,h⟩:=bd h
        refine tD 8 (pc 0 (fun w hm=>hself (⟨(⟨i_4,a0.ff.fHammers⟩:GFrame),a0.ft,(⟨i_5,i_6,i_7⟩:GCosts),a0.fchoices,a0.fbounds,i_8,(w64 (i_9+1)),q_00,xs_2,i_3⟩:Garranger) t_0k (t_09++([x_0]:List GChoice)) (w64 (cost3+t_0j)) w _ D_c (hm.exRowW D_h D_ha) rfl E_c (hm.exRowW E_h E_ha) rfl J_c (hm.exRowW J_h J_ha) rfl K_c (hm.exRowW K_h K_ha) rfl cap_03 rfl cap_2r (hm.ow 6 o_1m 104 (t_09++([x_0]:List GChoice)) sp_1w (fun e=>(ho_1n e).1) encGChoice_len) rfl A_b (hm.ps (N:= [⟨some A_b,141,[(vH i_4),(.slice D_a a0.ff.fHammers.length D_c),(.slice E_a a0.ft.length E_c),(vH i_5),(vH i_6),(vH i_7),(.slice J_a a0.fchoices.length J_c),(.slice K_a a0.fbounds.length K_c),(vI i_8),(vI (w64 (i_9+1))),(.bool q_00),(.slice a_06 xs_2.length cap_03),(vI i_3)]⟩]) [0]) (hm.xp D_h D_ha [0]) (hm.xp E_h E_ha [0]) (hm.xp J_h J_ha [0]) (hm.ip J_i [0]) (hm.xp K_h K_ha [0]) (hm.oa 6 o_1m (fun e=>(ho_1n e).1) [0]) ht_2t) ?_)
        rintro w v w' hm ⟨o_2u,a_16,cap_1x,sp_2v,_,rfl,hl_2w,rfl,hm'⟩
        obtain⟨o_1y,sp_1z,hl_2x,hM_1177⟩:=Mem.ls3 (T:=104) (enc:=encGChoice) (o1:=o_05) (sp1:=sp_07) (xs1:=xs_2) (o:=o_2u) (sp:=sp_2v) (xs:=t_1.fbest) (F:= [(O_a,O_c,a0.fbest),(R_a,R_c,list2)]) (o2:=o_1m) (sp2:=sp_1w) (xs2:=(t_09++([x_0]:List GChoice))) (hm.aw [0] hm') 1 6 7 (by kernel_rfl) (by kernel_rfl) (by kernel_rfl) (by kernel_rfl) hl_14 rfl hs_2s ho_1n rfl rfl hl_2w
        refine⟨_,Mem.pick hM_1177 (N:= [⟨some A_b,141,[(vH t_1.ff.fSteps),(.slice D_a a0.ff.fHammers.length D_c),(.slice E_a a0.ft.length E_c),(vH t_1.fc.fAway),(vH t_1.fc.fOctave),(vH t_1.fc.fStep),(.slice J_a a0.fchoices.length J_c),(.slice K_a a0.fbounds.length K_c),(vI t_1.fbudget),(vI t_1.flooks),(.bool t_1.fover),(.slice a_16 t_1.fbest.length cap_1x),(vI t_1.fleast)]⟩,⟨o_1y,104,row encGChoice t_1.fbest sp_1z⟩,⟨(some b_01),40,row encU32 d1.1 []⟩,⟨some b_0l,104,[(.bool x_0.fAway),(vB x_0.fLate),(vB x_0.fOctave),(vB x_0.fTrack)]⟩,⟨(some b_0t),40,row encU32 t_0k.1 []⟩,⟨(some b_1l),104,row encGChoice ([x_0]:List GChoice) []⟩,⟨none,0,[]⟩]) [0,1,2,3,4,5,6] (by kernel_rfl) (by kernel_rfl),kD [2,3,4] ?_⟩
        clear hm hm' hM_1177
        exact qz (qm ⟨t_1.fbest,t_1.ff.fSteps,t_1.fc.fAway,t_1.fc.fOctave,t_1.fc.fStep,t_1.fbudget,t_1.flooks,t_1.fover,t_1.fleast,o_1y,a_16,cap_1x,sp_1z,t_1.fbest.length⟩ ⟨h,rfl,hl_2x⟩ [0,1,2,3,4])
      ·rintro⟨xs_08,i_0c,i_0d,i_0e,i_0f,i_0g,i_0h,q_0a,i_0i,o_0u,a_0v,cap_0w,sp_0x,n_15⟩ ⟨h,rfl,hl_20⟩
       replace h:Fg.k_41 a0 i_02 xs_08 i_0c i_0d i_0e i_0f i_0g i_0h q_0a i_0i=some y_17:=h
       rw [Fg.k_41] at h
       refine jx_then (jc_seq (jc_region (qh [0,0,0,0] (qe (jx_then (qi h (fun h=> ?_) (fun h=> ?_)))))))
       ·refine jc_ret (jx_inr (jx_thenr (jx_leaver (.inl (⟨(⟨i_0c,a0.ff.fHammers⟩:GFrame),a0.ft,(⟨i_0d,i_0e,i_0f⟩:GCosts),a0.fchoices,a0.fbounds,i_0g,i_0h,q_0a,xs_08,i_0i⟩:Garranger)) (sj h) (fun e_2y=> ?_))))
        subst e_2y
        refine jx_inr (jx_thenr ?_)
        obtain rfl:=si hr_1b
        exact qr [] (fun w hm=>⟨o_0u,a_0v,cap_0w,sp_0x,xs_08.length,rfl,hl_20,rfl,hm.pk [0,1]⟩)
       ·exact jc_skip (jx_inn (jx_then (jc_region (qh [0,0] (qe (qb (xs_08,i_0c,i_0d,i_0e,i_0f,i_0g,i_0h,q_0a,i_0i,(w64 (i_02+1))) ⟨o_0u,a_0v,cap_0w,sp_0x,xs_08.length⟩ h ⟨rfl,hl_20⟩ [0,1,2]))))))
   ·refine jc_exit (jx_thenx (jx_leave (.inr (xs_2,i_4,i_5,i_6,i_7,i_8,i_9,q_00,i_3)) (sj h) (fun e_2z=> ?_)))
    subst e_2z
    exact jx_ine (qm ⟨xs_2,i_4,i_5,i_6,i_7,i_8,i_9,q_00,i_3,o_05,a_06,cap_03,sp_07,xs_2.length⟩ ⟨hr_1b,rfl,hl_14⟩ [0,1,2])
  ·rintro⟨xs_0b,i_04,i_0m,i_0n,i_0o,i_0p,i_0q,q_0r,i_0s,o_0y,a_0z,cap_10,sp_11,n_12⟩ ⟨h,rfl,hl_30⟩
   replace h:Fg.k_12 a0 xs_0b i_04 i_0m i_0n i_0o i_0p i_0q q_0r i_0s=some r:=h
   rw [Fg.k_12] at h
   refine jx_fall ?_
   obtain rfl:=si h
   exact qr [] (fun w hm=>⟨o_0y,a_0z,cap_10,sp_11,xs_0b.length,rfl,hl_30,rfl,hm.pk [0,1]⟩)
theorem Fg.rec_calls(fu:Nat):∀(a0:Garranger) (d1:Arr 96 Int) (list2:List GChoice) (cost3:Int) (w:World) (r:Garranger) {D_a:Option Addr} {D_an:Nat} (D_c:Nat) (D_h:Rw w D_a 2 encGHammer a0.ff.fHammers) (D_hn:a0.ff.fHammers.length=D_an) {E_a:Option Addr} {E_an:Nat} (E_c:Nat) (E_h:Rw w E_a 2 encGNote a0.ft) (E_hn:a0.ft.length=E_an) {J_a:Option Addr} {J_an:Nat} (J_c:Nat) {J_hs:List Hd} (J_h:Rw w J_a 1 encHd J_hs) (J_hn:a0.fchoices.length=J_an) {K_a:Option Addr} {K_an:Nat} (K_c:Nat) (K_h:Rw w K_a 1 encI64 a0.fbounds) (K_hn:a0.fbounds.length=K_an) {O_a:Option Addr} {O_an:Nat} (O_c:Nat) (O_hn:a0.fbest.length=O_an) {R_a:Option Addr} {R_an:Nat} (R_c:Nat) (R_h:Rw w R_a 4 encGChoice list2) (R_hn:list2.length=R_an) (A_b:Nat) (hm0:Mem w (bs [some A_b]) [⟨some A_b,141,[(vH a0.ff.fSteps),(.slice D_a D_an D_c),(.slice E_a E_an E_c),(vH a0.fc.fAway),(vH a0.fc.fOctave),(vH a0.fc.fStep),(.slice J_a J_an J_c),(.slice K_a K_an K_c),(vI a0.fbudget),(vI a0.flooks),(.bool a0.fover),(.slice O_a O_an O_c),(vI a0.fleast)]⟩] w) (D_ha:a0.ff.fHammers≠ []→aB D_a∉bs [some A_b]) (E_ha:a0.ft≠ []→aB E_a∉bs [some A_b]) (J_ha:J_hs≠ []→aB J_a∉bs [some A_b]) (J_i:Inn w (bs [some A_b]) 4 encGChoice J_hs a0.fchoices) (K_ha:a0.fbounds≠ []→aB K_a∉bs [some A_b]) (R_ha:list2≠ []→aB R_a∉bs [some A_b]) (h:Fg.rec_ fu a0 d1 list2 cost3=some r),
   Calls Tryz.prog 90 #[(vP A_b),(.agg (row encU32 d1.1 []).toArray),(.slice R_a R_an R_c),(vI cost3)] w fun e w'=>∃v,e= .returned v∧(∃(lo:Option Nat) (la:Option Addr) (lc:Nat) (lsp:List Value) (ln:Nat),r.fbest.length=ln∧LsB lo la lc lsp ln r.fbest 4 [(O_a,O_c,a0.fbest),(R_a,R_c,list2)]∧v= .tuple #[]∧Mem w (bs [some A_b]) [⟨some A_b,141,[(vH r.ff.fSteps),(.slice D_a D_an D_c),(.slice E_a E_an E_c),(vH r.fc.fAway),(vH r.fc.fOctave),(vH r.fc.fStep),(.slice J_a J_an J_c),(.slice K_a K_an K_c),(vI r.fbudget),(vI r.flooks),(.bool r.fover),(.slice la ln lc),(vI r.fleast)]⟩,⟨lo,104,row encGChoice r.fbest lsp⟩] w'):=by
 induction fu with
 | zero=>intros;rename_i h;cases h
 | succ fu ih=>exact @Fg.step_calls _ (Fg.rec_ fu) @ih
theorem Fg.calls(a0:Garranger)(d1:Arr 96 Int)(list2:List GChoice)(cost3:Int)(w:World)(r:Garranger){D_a:Option Addr}{D_an:Nat}(D_c:Nat)(D_h:Rw w D_a 2 encGHammer a0.ff.fHammers)(D_hn:a0.ff.fHammers.length=D_an){E_a:Option Addr}{E_an:Nat}(E_c:Nat)(E_h:Rw w E_a 2 encGNote a0.ft)(E_hn:a0.ft.length=E_an){J_a:Option Addr}{J_an:Nat}(J_c:Nat){J_hs:List Hd}(J_h:Rw w J_a 1 encHd J_hs)(J_hn:a0.fchoices.length=J_an){K_a:Option Addr}{K_an:Nat}(K_c:Nat)(K_h:Rw w K_a 1 encI64 a0.fbounds)(K_hn:a0.fbounds.length=K_an){O_a:Option Addr}{O_an:Nat}(O_c:Nat)(O_hn:a0.fbest.length=O_an){R_a:Option Addr}{R_an:Nat}(R_c:Nat)(R_h:Rw w R_a 4 encGChoice list2)(R_hn:list2.length=R_an)(A_b:Nat)(hm0:Mem w (bs [some A_b]) [⟨some A_b,141,[(vH a0.ff.fSteps),(.slice D_a D_an D_c),(.slice E_a E_an E_c),(vH a0.fc.fAway),(vH a0.fc.fOctave),(vH a0.fc.fStep),(.slice J_a J_an J_c),(.slice K_a K_an K_c),(vI a0.fbudget),(vI a0.flooks),(.bool a0.fover),(.slice O_a O_an O_c),(vI a0.fleast)]⟩] w)(D_ha:a0.ff.fHammers≠ []→aB D_a∉bs [some A_b])(E_ha:a0.ft≠ []→aB E_a∉bs [some A_b])(J_ha:J_hs≠ []→aB J_a∉bs [some A_b])(J_i:Inn w (bs [some A_b]) 4 encGChoice J_hs a0.fchoices)(K_ha:a0.fbounds≠ []→aB K_a∉bs [some A_b])(R_ha:list2≠ []→aB R_a∉bs [some A_b])(h:Fg a0 d1 list2 cost3=some r):
   Calls Tryz.prog 90 #[(vP A_b),(.agg (row encU32 d1.1 []).toArray),(.slice R_a R_an R_c),(vI cost3)] w fun e w'=>∃v,e= .returned v∧(∃(lo:Option Nat) (la:Option Addr) (lc:Nat) (lsp:List Value) (ln:Nat),r.fbest.length=ln∧LsB lo la lc lsp ln r.fbest 4 [(O_a,O_c,a0.fbest),(R_a,R_c,list2)]∧v= .tuple #[]∧Mem w (bs [some A_b]) [⟨some A_b,141,[(vH r.ff.fSteps),(.slice D_a D_an D_c),(.slice E_a E_an E_c),(vH r.fc.fAway),(vH r.fc.fOctave),(vH r.fc.fStep),(.slice J_a J_an J_c),(.slice K_a K_an K_c),(vI r.fbudget),(vI r.flooks),(.bool r.fover),(.slice la ln lc),(vI r.fleast)]⟩,⟨lo,104,row encGChoice r.fbest lsp⟩] w'):=
 Fg.rec_calls 200 a0 d1 list2 cost3 w r D_c D_h D_hn E_c E_h E_hn J_c J_h J_hn K_c K_h K_hn O_c O_hn R_c R_h R_hn A_b hm0 D_ha E_ha J_ha J_i K_ha R_ha h
def Fan.k_6(f0:GFrame)(t1:List GNote)(c2:GCosts)(budget3:Int)(t_1:(List Int))(xt_8:List (List GChoice)):Option ((List GChoice)×Int×Int):=(Fg (⟨f0,t1,c2,xt_8,t_1,budget3,0,false,([]:List GChoice),(-1)⟩:Garranger) (Arr.rep 96 0) [] 0).bind fun t_0=>(if t_0.fover=true then some ([],0,7) else some (t_0.fbest,t_0.fleast,0))
def Fan.l_10(f0:GFrame)(t1:List GNote)(c2:GCosts):((List (List GChoice))×Int)→Option (((List (List GChoice))×Int)⊕((List (List GChoice))))
 | (xt_6,i_00)=>(if(decide (i_00<(t1.length:Int)))=true then(ix t1 i_00).bind fun x_03=>(Fj f0 x_03).bind fun t_01=>(FA t_01 c2).bind fun t_0e=>(if xt_6.length+1≤4294967296 then some (.inl ((xt_6++ [t_0e]),(w64 (i_00+1)))) else none) else some (.inr xt_6))
def Fan(f0:GFrame)(t1:List GNote)(c2:GCosts)(budget3:Int):Option ((List GChoice)×Int×Int):=(FaG f0 t1 c2).bind fun t_3=>(FG budget3 0 20000).bind fun t_7=>(FQ t_7 2).bind fun t_04=>(Ff ([t_3,t_04]:List Int)).bind fun t_0j=>(if(t_0j !=0)=true then some ([],0,t_0j) else(Fay f0 t1 c2).bind fun t_1=>(loop (Fan.l_10 f0 t1 c2) (([]:List (List GChoice)),0)).bind fun t_0i=>Fan.k_6 f0 t1 c2 budget3 t_1 t_0i)
theorem Fan.calls(f0:GFrame)(t1:List GNote)(c2:GCosts)(budget3:Int)(w:World)(r:(List GChoice)×Int×Int){C_a:Option Addr}{C_an:Nat}(C_c:Nat)(C_h:Rw w C_a 2 encGHammer f0.fHammers)(C_hn:f0.fHammers.length=C_an){D_a:Option Addr}{D_an:Nat}(D_c:Nat)(D_h:Rw w D_a 2 encGNote t1)(D_hn:t1.length=D_an)(h:Fan f0 t1 c2 budget3=some r):
   Calls Tryz.prog 21 #[(.agg #[(vH f0.fSteps),(.slice C_a C_an C_c)]),(.slice D_a D_an D_c),(.agg #[(vH c2.fAway),(vH c2.fOctave),(vH c2.fStep)]),(vI budget3)] w fun e w'=>∃v,e= .returned v∧(∃(o0:Option Nat) (c0:Nat) (s0:List Value) (n0:Nat),r.1.length=n0∧(hS o0 n0 c0 s0 4)∧(hO o0 r.1 c0)∧v= .tuple #[.slice (mB o0) n0 c0,(vI r.2.1),(vI r.2.2)]∧Mem w [] [⟨o0,104,row encGChoice r.1 s0⟩] w'):=by
 subst C_hn D_hn
 rw [Fan] at h
 refine en Tryz.func21 rfl Tryz.ntmps21 (jc_seq (jc_region (tO (qa 0 (fun b_3=>jkO (tO (qa 0 (fun b_7=>jkO (qh [0,0,0] (qe (jx_then (jc_seq (jc_seq (jc_region (qh [0,0,1] ?_)))))))))))))))
 obtain⟨t_3,ht_00,h⟩:=bd h
 refine tO (pq 0 (fun w hm=>FaG.calls f0 t1 c2 w _ C_c (hm.xr C_h) rfl D_c (hm.xr D_h) rfl ht_00) (jkO (qh [0] ?_)))
 obtain⟨t_7,ht_0t,h⟩:=bd h
 refine tO (pq 0 (fun w hm=>FG.calls budget3 0 20000 w _ ht_0t) (jkO ?_))
 obtain⟨t_04,ht_0i,h⟩:=bd h
 refine tO (pq 0 (fun w hm=>FQ.calls t_7 2 w _ ht_0i) (jkO (tO (qa 0 (fun b_03=>jkO ?_)))))
 obtain⟨t_0j,ht_01,h⟩:=bd h
 refine tO (pq 0 (fun w hm=>Ff.calls ([t_3,t_04]:List Int) w _ 2 (hm.ow 2 (some b_03) 2 ([t_3,t_04]:List Int) [] (fun e=>nomatch e) encI64_len) rfl ht_01) (jkO (qh [0] (qe (jx_then (jc_seq (jc_region (qh [0,0] (qe (jx_then (qi h (fun h=> ?_) (fun h=> ?_))))))))))))
 ·refine jc_seq (jc_region (qh [0,0,0,0] (qe (jx_then (jc_ret (jx_thenr ?_))))))
  obtain rfl:=si h
  exact jx_ghost 104 encGChoice (qr [] (fun w hm=>⟨none,0,[],0,rfl,(fun e=>absurd rfl e),(fun _=>⟨rfl,rfl⟩),rfl,hm.pk [3]⟩))
 ·refine jc_skip (jx_then (jc_seq (qg [⟨some b_3,27,[(vH f0.fSteps),(.slice C_a f0.fHammers.length C_c)]⟩,⟨some b_7,33,[(vH c2.fAway),(vH c2.fOctave),(vH c2.fStep)]⟩,⟨(some b_03),2,row encI64 ([t_3,t_04]:List Int) []⟩] 11 (qd [⟨0,0,0⟩,⟨1,0,0⟩,⟨2,1,0⟩,⟨3,0,0⟩,⟨4,0,0⟩,⟨5,1,0⟩,⟨7,0,0⟩] 4 [0,1,2] ?_))))
  obtain⟨t_1,ht_0u,h⟩:=bd h
  refine tD 6 (pc 0 (fun w hm=>Fay.calls f0 t1 c2 w _ C_c (hm.xr C_h) rfl D_c (hm.xr D_h) rfl ht_0u) ?_)
  rintro w v w' hm ⟨o_9,cap_0a,sp_0f,_,rfl,hs_1h,ho_0o,rfl,hm'⟩
  refine aq hm hm' (kD [0,1,2] (qd [⟨8,0,0⟩] 2 [0,1,2] (tD 9 (qa 0 (fun b_05=>jk_ghost 35 encHd (jk_clu encGChoice (kD [0,1,2] (qd [⟨10,0,0⟩] 0 [0,1,2] (qz (jx_then (jc_seq (jc_seq (jc_region (qh [0,0,0] (qe (jx_then (jc_meet (fun(j:(List (List GChoice))×(List Hd)×(Option Nat)×Nat×(List Value)×Nat)=>match j with | ⟨xt_8,hh_2,o_4,cap_02,sp_08,n_0c⟩=>Fan.k_6 f0 t1 c2 budget3 t_1 xt_8=some r∧(hh_2.length=n_0c)∧(hS o_4 n_0c cap_02 sp_08 1)∧(hO o_4 hh_2 cap_02)∧(InP hh_2 xt_8)) (fun⟨xt_8,hh_2,o_4,cap_02,sp_08,n_0c⟩=> [(8,[],(.slice none 0 0)),(9,[],(vI 0)),(10,[],(vI 0)),(12,[],(vP b_05))]) (fun⟨xt_8,hh_2,o_4,cap_02,sp_08,n_0c⟩=> [⟨some b_3,27,[(vH f0.fSteps),(.slice C_a f0.fHammers.length C_c)]⟩,⟨some b_7,33,[(vH c2.fAway),(vH c2.fOctave),(vH c2.fStep)]⟩,⟨(some b_03),2,row encI64 ([t_3,t_04]:List Int) []⟩,⟨o_9,2,row encI64 t_1 sp_0f⟩,⟨some b_05,141,[(vH f0.fSteps),(.slice C_a f0.fHammers.length C_c),(.slice D_a t1.length D_c),(vH c2.fAway),(vH c2.fOctave),(vH c2.fStep),(.slice (mB o_4) n_0c cap_02),(.slice (mB o_9) t_1.length cap_0a),(vI budget3),(vI 0),(.bool false),(.slice none 0 0),(vI (-1))]⟩,⟨o_4,35,row encHd hh_2 sp_08⟩,⟨none,CLU,cluC encGChoice hh_2 xt_8⟩]) ?_ ?_)))))))))))))))))
  ·refine jc_block ?_
   obtain⟨t_0i,ht_0v,hr_0w⟩:=bd h
   refine jl (fun(s:(List (List GChoice))×Int) (x:(List Hd)×(Option Nat)×Nat×(List Value)×Nat)=>match s,x with | ⟨xt_6,i_00⟩,⟨hh_5,o_06,cap_09,sp_0b,n_0d⟩=>(hh_5.length=n_0d)∧(hS o_06 n_0d cap_09 sp_0b 1)∧(hO o_06 hh_5 cap_09)∧(InP hh_5 xt_6)) (fun⟨xt_6,i_00⟩ ⟨hh_5,o_06,cap_09,sp_0b,n_0d⟩=> [(4,[],(vP b_3)),(6,[],(vP b_7)),(8,[],(.slice none 0 0)),(9,[],(vI 0)),(10,[],(vI 0)),(12,[],(vP b_05)),(38,[],(.slice D_a t1.length D_c)),(39,[],(vI (t1.length:Int))),(40,[],(vI i_00))]) (fun⟨xt_6,i_00⟩ ⟨hh_5,o_06,cap_09,sp_0b,n_0d⟩=> [⟨some b_3,27,[(vH f0.fSteps),(.slice C_a f0.fHammers.length C_c)]⟩,⟨some b_7,33,[(vH c2.fAway),(vH c2.fOctave),(vH c2.fStep)]⟩,⟨(some b_03),2,row encI64 ([t_3,t_04]:List Int) []⟩,⟨o_9,2,row encI64 t_1 sp_0f⟩,⟨some b_05,141,[(vH f0.fSteps),(.slice C_a f0.fHammers.length C_c),(.slice D_a t1.length D_c),(vH c2.fAway),(vH c2.fOctave),(vH c2.fStep),(.slice (mB o_06) n_0d cap_09),(.slice (mB o_9) t_1.length cap_0a),(vI budget3),(vI 0),(.bool false),(.slice none 0 0),(vI (-1))]⟩,⟨o_06,35,row encHd hh_5 sp_0b⟩,⟨none,CLU,cluC encGChoice hh_5 xt_6⟩]) ht_0v ⟨([]:List Hd),(none:Option Nat),0,[],0⟩ ⟨rfl,(fun e=>absurd rfl e),(fun _=>⟨rfl,rfl⟩),InP.nil⟩ [0,1,2,3,4,5,6] ?_
   rintro⟨xt_6,i_00⟩ ⟨hh_5,o_06,cap_09,sp_0b,n_0d⟩ y_1i ⟨rfl,hs_0p,ho_0q,hI_363⟩ h
   rw [Fan.l_10] at h
   refine jc_seq (jc_region (qh [0] (qe (jx_then (jc_seq (qi h (fun h=> ?_) (fun h=> ?_)))))))
   ·refine jc_skip (jx_then (jc_seq (jc_block (jc_seq (jc_region ?_)))))
    obtain⟨x_03,hx_0k,h⟩:=bd h
    refine tO (qx 0 D_a 2 hx_0k rfl (D_h.sp hx_0k) (jkO (tO (ql 0 true (fun w hm=>((hm.xr D_h).at hx_0k)) (jkO (tO (qa 0 (fun b_1j=>jkO (tO (qs 0 [7] (jkO (qe (jx_then (jc_seq (jc_region (qh [0,7] ?_))))))))))))))))
    obtain⟨t_01,ht_0x,h⟩:=bd h
    refine tO (pc 0 (fun w hm=>Fj.calls f0 x_03 w _ C_c (hm.xr C_h) rfl ht_0x) ?_)
    rintro w v w' hm ⟨o_07,cap_0g,sp_0l,_,rfl,hs_0y,ho_0z,rfl,hm'⟩
    refine aq hm hm' (jkO (qh [0] (qe (jx_then (jc_seq (jc_region (qh [0,0] ?_)))))))
    obtain⟨t_0e,ht_10,h⟩:=bd h
    refine tO (pc 0 (fun w hm=>FA.calls t_01 c2 w _ o_07 rfl hs_0y ho_0z b_7 (hm.ps (N:= [⟨o_07,104,row encGChoice t_01 sp_0l⟩,⟨some b_7,33,[(vH c2.fAway),(vH c2.fOctave),(vH c2.fStep)]⟩]) [8,1]) ht_10) ?_)
    rintro w v w' hm ⟨hn_11,ho_12,rfl,hm'⟩
    refine⟨_,hm.appW (ps:= [(8,⟨o_07,104,row encGChoice t_0e sp_0l⟩),(1,⟨some b_7,33,[(vH c2.fAway),(vH c2.fOctave),(vH c2.fStep)]⟩)]) (N:= []) hm' (by kernel_rfl) (by kernel_rfl),jkO ?_⟩
    clear hm hm'
    refine qe (jx_then (jc_region (qh [0,0,0,0,4,0] (tO (qa 0 (fun b_0r=>jkO ?_))))))
    obtain⟨hg_13,h⟩:=gd h
    exact tO (pA 0 5 o_06 35 hh_5.length 1 cap_09 1 24 (sB b_0r) encHd hh_5 [(Hd.mk (mB o_07) t_01.length cap_0g)] sp_0b (.slice none 0 0) rfl rfl encHd_len encHd_cell hs_0p ho_0q (fun w hm=>(hm.ow 9 (some b_0r) 35 ([(Hd.mk (mB o_07) t_01.length cap_0g)]) [] (fun e=>nomatch e) encHd_len)) (tabbig hI_363 hg_13) (fun o_14 cap_15 sp_16 hs_17 ho_18=>jk_frz (enc:=encGChoice) (hs:=hh_5) (xss:=xt_6) (o:=o_07) (T:=104) (xs:=t_0e) (sp:=sp_0l) 6 8 t_01.length cap_0g hI_363 (jkO (qh [0,0] (tO (qs 0 [4] (jkO (qe (jx_inn (jx_then (jc_region (qh [0,0] (qe (qb ((xt_6++ [t_0e]),(w64 (i_00+1))) ⟨(hh_5++ [(Hd.mk (mB o_07) t_01.length cap_0g)]),o_14,cap_15,sp_16,(hh_5++ [(Hd.mk (mB o_07) t_01.length cap_0g)]).length⟩ h ⟨rfl,hs_17,ho_18,(hI_363.snoc (o:=o_07) hn_11 (fun e=>(ho_12 e).1))⟩ [0,1,2,3,4,5,6]))))))))))))))
   ·refine jc_exit (jx_thenx (jx_leave xt_6 (sj h) (fun e_19=> ?_)))
    subst e_19
    exact jx_ine (qm ⟨xt_6,hh_5,o_06,cap_09,sp_0b,hh_5.length⟩ ⟨hr_0w,rfl,hs_0p,ho_0q,hI_363⟩ [0,1,2,3,4,5,6])
  ·rintro⟨xt_8,hh_2,o_4,cap_02,sp_08,n_0c⟩ ⟨h,rfl,hs_1k,ho_0s,hI_292⟩
   replace h:Fan.k_6 f0 t1 c2 budget3 t_1 xt_8=some r:=h
   rw [Fan.k_6] at h
   refine jx_then (jc_seq (jc_region (qh [0,0] ?_)))
   obtain⟨t_0,ht_1a,h⟩:=bd h
   refine tO (jp_ghost 104 encGChoice (pc 0 (fun w hm=>Fg.calls (⟨f0,t1,c2,xt_8,t_1,budget3,0,false,([]:List GChoice),(-1)⟩:Garranger) (Arr.rep 96 0) [] 0 w _ C_c (hm.xr C_h) rfl D_c (hm.xr D_h) rfl cap_02 (hm.ow 5 o_4 35 hh_2 sp_08 (fun e=>(ho_0s e).1) encHd_len) (hI_292.1.symm.trans rfl) cap_0a (hm.ow 3 o_9 2 t_1 sp_0f (fun e=>(ho_0o e).1) encI64_len) rfl 0 rfl 0 Rw.nil rfl b_05 (hm.ps (N:= [⟨some b_05,141,[(vH f0.fSteps),(.slice C_a f0.fHammers.length C_c),(.slice D_a t1.length D_c),(vH c2.fAway),(vH c2.fOctave),(vH c2.fStep),(.slice (mB o_4) hh_2.length cap_02),(.slice (mB o_9) t_1.length cap_0a),(vI budget3),(vI 0),(.bool false),(.slice ((none:Option Nat).map fun b=>⟨b,0,none⟩) 0 0),(vI (-1))]⟩]) [4]) (hm.xp C_h (fun _=>List.not_mem_nil) [4]) (hm.xp D_h (fun _=>List.not_mem_nil) [4]) (hm.oa 5 o_4 (fun e=>(ho_0s e).1) [4]) (hm.cluPass (N:= [⟨some b_05,141,[(vH f0.fSteps),(.slice C_a f0.fHammers.length C_c),(.slice D_a t1.length D_c),(vH c2.fAway),(vH c2.fOctave),(vH c2.fStep),(.slice (mB o_4) hh_2.length cap_02),(.slice (mB o_9) t_1.length cap_0a),(vI budget3),(vI 0),(.bool false),(.slice ((none:Option Nat).map fun b=>⟨b,0,none⟩) 0 0),(vI (-1))]⟩]) 6 hI_292 encGChoice_len [4]) (hm.oa 3 o_9 (fun e=>(ho_0o e).1) [4]) (fun e=>absurd rfl e) ht_1a) ?_))
   rintro w v w' hm ⟨o_1b,a_1l,cap_0m,sp_1c,_,rfl,hl_1d,rfl,hm'⟩
   obtain⟨o_0h,sp_0n,hl_1e,hM_301⟩:=Mem.ls2 (T:=104) (enc:=encGChoice) (o1:=(none:Option Nat)) (sp1:= []) (xs1:=([]:List GChoice)) (o:=o_1b) (sp:=sp_1c) (xs:=t_0.fbest) (F:= []) (hm.aw [4] hm') 7 8 (by kernel_rfl) (by kernel_rfl) (by kernel_rfl) (lsO (fun e=>absurd rfl e) (fun _=>⟨rfl,rfl⟩)) rfl (.inr ⟨rfl,rfl,rfl⟩) rfl hl_1d
   obtain⟨rfl,hs_1f,ho_1g⟩:=hl_1e.own
   refine⟨_,Mem.pick hM_301 (N:= [⟨some b_3,27,[(vH f0.fSteps),(.slice C_a f0.fHammers.length C_c)]⟩,⟨some b_7,33,[(vH c2.fAway),(vH c2.fOctave),(vH c2.fStep)]⟩,⟨(some b_03),2,row encI64 ([t_3,t_04]:List Int) []⟩,⟨o_9,2,row encI64 t_1 sp_0f⟩,⟨some b_05,141,[(vH t_0.ff.fSteps),(.slice C_a f0.fHammers.length C_c),(.slice D_a t1.length D_c),(vH t_0.fc.fAway),(vH t_0.fc.fOctave),(vH t_0.fc.fStep),(.slice (mB o_4) hh_2.length cap_02),(.slice (mB o_9) t_1.length cap_0a),(vI t_0.fbudget),(vI t_0.flooks),(.bool t_0.fover),(.slice (mB o_0h) t_0.fbest.length cap_0m),(vI t_0.fleast)]⟩,⟨o_4,35,row encHd hh_2 sp_08⟩,⟨none,CLU,cluC encGChoice hh_2 xt_8⟩,⟨o_0h,104,row encGChoice t_0.fbest sp_0n⟩]) [0,1,2,3,4,5,6,7] (by kernel_rfl) (by kernel_rfl),jkO ?_⟩
   clear hm hm' hM_301
   refine qe (jx_then (jc_seq (jc_seq (jc_region (qh [0,0,0,4] (qe (jx_then (qi h (fun h=> ?_) (fun h=> ?_)))))))))
   ·refine jc_seq (jc_region (qh [0,0,0] (qe (jx_then (jc_ret (jx_thenr ?_))))))
    obtain rfl:=si h
    exact jx_ghost 104 encGChoice (qr [] (fun w hm=>⟨none,0,[],0,rfl,(fun e=>absurd rfl e),(fun _=>⟨rfl,rfl⟩),rfl,hm.pk [8]⟩))
   ·refine jc_skip (jx_then (jc_seq (qg [⟨some b_3,27,[(vH f0.fSteps),(.slice C_a f0.fHammers.length C_c)]⟩,⟨some b_7,33,[(vH c2.fAway),(vH c2.fOctave),(vH c2.fStep)]⟩,⟨(some b_03),2,row encI64 ([t_3,t_04]:List Int) []⟩,⟨o_9,2,row encI64 t_1 sp_0f⟩,⟨some b_05,141,[(vH t_0.ff.fSteps),(.slice C_a f0.fHammers.length C_c),(.slice D_a t1.length D_c),(vH t_0.fc.fAway),(vH t_0.fc.fOctave),(vH t_0.fc.fStep),(.slice (mB o_4) hh_2.length cap_02),(.slice (mB o_9) t_1.length cap_0a),(vI t_0.fbudget),(vI t_0.flooks),(.bool t_0.fover),(.slice (mB o_0h) t_0.fbest.length cap_0m),(vI t_0.fleast)]⟩,⟨o_4,35,row encHd hh_2 sp_08⟩,⟨none,CLU,cluC encGChoice hh_2 xt_8⟩,⟨o_0h,104,row encGChoice t_0.fbest sp_0n⟩] 11 (qd [⟨0,0,0⟩,⟨1,0,0⟩,⟨2,0,0⟩,⟨3,4,0⟩,⟨4,0,0⟩,⟨5,0,0⟩,⟨6,0,0⟩,⟨7,4,0⟩,⟨8,0,0⟩,⟨9,0,0⟩,⟨10,0,0⟩] 0 [0,1,2,3,4,5,6,7] (qz (jx_then (jc_ret ?_)))))))
    obtain rfl:=si h
    exact qr [] (fun w hm=>⟨o_0h,cap_0m,sp_0n,t_0.fbest.length,rfl,hs_1f,ho_1g,rfl,hm.pk [7]⟩)
end
end Go.Proofs.YtolfkfjjifdmeaaGreat
