/- Functions of the program that the law reaches: a plain function each, and that the call comes to its answer if the plain function has one. Printed by a program. -/
import Derived.Test.YtolfkfjjifdmeaaGreatT
import Derived.Test.YtolfkfjjifdmeaaGreatTab
import Derived.Test.YtolfkfjjifdmeaaGreatM0
import Derived.Test.YtolfkfjjifdmeaaGreatM1
namespace Go.Proofs.YtolfkfjjifdmeaaGreat
open Eng
set_option linter.unusedVariables false
set_option linter.unusedSectionVars false
set_option maxRecDepth 100000
variable [dsW:DrwS]
noncomputable section
def FF.k_3(xs_5:List GChoice):Option ((List GChoice)):=some xs_5
def FF.k_9(i_2:Int)(xs_7:List GChoice):Option (((List GChoice)×Int)⊕((List GChoice))):=some (.inl (xs_7,(w64 (i_2+1))))
def FF.l_12(c2:GCosts):((List GChoice)×Int)→Option (((List GChoice)×Int)⊕((List GChoice)))
 | (xs_1,i_3)=>(if(decide (i_3>0))=true then(ix xs_1 i_3).bind fun x_03=>(ix xs_1 (w64 (i_3-1))).bind fun x_04=>(FC c2 x_03).bind fun t_0c=>(FC c2 x_04).bind fun t_0d=>(if(decide (t_0c<t_0d))=true then(ix xs_1 i_3).bind fun x_01=>(ix xs_1 (w64 (i_3-1))).bind fun x_9=>(ix xs_1 i_3).bind fun x_0k=>(ix (xs_1.set i_3.toNat x_9) (w64 (i_3-1))).bind fun x_0l=>some (.inl (((xs_1.set i_3.toNat x_9).set (w64 (i_3-1)).toNat x_01),(w64 (i_3-1)))) else some (.inr xs_1)) else some (.inr xs_1))
def FF.l_6(c2:GCosts)(t_4:(List GChoice)):((List GChoice)×Int)→Option (((List GChoice)×Int)⊕((List GChoice)))
 | (xs_0,i_2)=>(if(decide (i_2<(t_4.length:Int)))=true then(loop (FF.l_12 c2) (xs_0,i_2)).bind fun t_0e=>FF.k_9 i_2 t_0e else some (.inr xs_0))
def FF(f0:GFrame)(n1:GNote)(c2:GCosts):Option ((List GChoice)):=(Fx f0 n1).bind fun t_4=>(loop (FF.l_6 c2 t_4) (t_4,1)).bind fun t_02=>FF.k_3 t_02
theorem FF.calls(f0:GFrame)(n1:GNote)(c2:GCosts)(w:World)(r:(List GChoice)){C_a:Option Addr}{C_an:Nat}(C_c:Nat)(C_h:Rw w C_a 2 encGHammer f0.fHammers)(C_hn:f0.fHammers.length=C_an)(A_b:Nat)(hm0:Mem w (bs [some A_b]) [⟨some A_b,27,[(vH f0.fSteps),(.slice C_a C_an C_c)]⟩] w)(C_ha:f0.fHammers≠ []→aB C_a∉bs [some A_b])(h:FF f0 n1 c2=some r):
   Calls Tryz.prog 163 #[(vP A_b),(.agg #[(vH n1.fAt),(vB n1.fPitch)]),(.agg #[(vH c2.fAway),(vH c2.fOctave),(vH c2.fStep)])] w fun e w'=>∃v,e= .returned v∧(∃(o0:Option Nat) (c0:Nat) (s0:List Value) (n0:Nat),r.length=n0∧(hS o0 n0 c0 s0 4)∧(hO o0 r c0)∧v= .slice (mB o0) n0 c0∧Mem w (bs [some A_b]) [⟨some A_b,27,[(vH f0.fSteps),(.slice C_a C_an C_c)]⟩,⟨o0,104,row encGChoice r s0⟩] w'):=by
 subst C_hn
 rw [FF] at h
 refine enter (args:= [(vP A_b),(.agg #[(vH n1.fAt),(vB n1.fPitch)]),(.agg #[(vH c2.fAway),(vH c2.fOctave),(vH c2.fStep)])]) Tryz.func163 rfl Tryz.ntmps163 (by kernel_rfl) (L:= [⟨some A_b,27,[(vH f0.fSteps),(.slice C_a f0.fHammers.length C_c)]⟩]) (W:=bs [some A_b]) hm0 (jc_seq (jc_region (tO (qa 0 (fun b_4=>jkO (tO (qa 0 (fun b_5=>jkO (qh [0] (qe (jx_then (jc_seq (jc_region (qh [0,1] ?_))))))))))))))
 obtain⟨t_4,ht_0m,h⟩:=bd h
 refine tO (pc 0 (fun w hm=>Fx.calls f0 n1 w _ C_c (hm.exRowW C_h C_ha) rfl A_b (hm.ps [0]) (hm.xp C_h C_ha [0]) ht_0m) ?_)
 rintro w v w' hm ⟨o_0,cap_2,sp_8,_,rfl,hs_02,ho_7,rfl,hm'⟩
 refine⟨_,hm.appW (ps:= [(0,⟨some A_b,27,[(vH f0.fSteps),(.slice C_a f0.fHammers.length C_c)]⟩)]) (N:= [⟨o_0,104,row encGChoice t_4 sp_8⟩]) hm' (by kernel_rfl) (by kernel_rfl),jkO ?_⟩
 clear hm hm'
 refine qh [0] (qe (jx_then (jc_seq (jc_seq (jc_region (qh [0] (qe (jx_then (jc_meet (fun(xs_5:(List GChoice))=>FF.k_3 xs_5=some r∧(xs_5.length=t_4.length)∧(hO o_0 xs_5 cap_2)) (fun xs_5=> [(6,[],(.slice none 0 0)),(7,[],(.slice (mB o_0) t_4.length cap_2))]) (fun xs_5=> [⟨some A_b,27,[(vH f0.fSteps),(.slice C_a f0.fHammers.length C_c)]⟩,⟨some b_4,101,[(vH n1.fAt),(vB n1.fPitch)]⟩,⟨some b_5,33,[(vH c2.fAway),(vH c2.fOctave),(vH c2.fStep)]⟩,⟨o_0,104,row encGChoice xs_5 sp_8⟩]) ?_ ?_)))))))))
 ·refine jc_block ?_
  obtain⟨t_02,ht_0n,hr_0o⟩:=bd h
  refine jl (fun(s:(List GChoice)×Int) (x:Unit)=>match s,x with | ⟨xs_0,i_2⟩,_=>(xs_0.length=t_4.length)∧(hO o_0 xs_0 cap_2)) (fun⟨xs_0,i_2⟩ _=> [(5,[],(vP b_5)),(6,[],(.slice none 0 0)),(7,[],(.slice (mB o_0) t_4.length cap_2)),(8,[],(vI i_2))]) (fun⟨xs_0,i_2⟩ _=> [⟨some A_b,27,[(vH f0.fSteps),(.slice C_a f0.fHammers.length C_c)]⟩,⟨some b_4,101,[(vH n1.fAt),(vB n1.fPitch)]⟩,⟨some b_5,33,[(vH c2.fAway),(vH c2.fOctave),(vH c2.fStep)]⟩,⟨o_0,104,row encGChoice xs_0 sp_8⟩]) ht_0n () ⟨rfl,ho_7⟩ [0,1,2,3] ?_
  rintro⟨xs_0,i_2⟩ _ y_0f ⟨hn_0g,ho_0h⟩ h
  rw [FF.l_6] at h
  refine jc_seq (jc_seq (jc_region (qh [0,0,0,0] (qe (jx_then (qi h (fun h=> ?_) (fun h=> ?_)))))))
  ·refine jc_skip (jx_then (jc_seq (jc_block (jc_seq (jc_region (qh [0,0] (qe (jx_then (jc_meet (fun(xs_7:(List GChoice))=>FF.k_9 i_2 xs_7=some y_0f∧(xs_7.length=t_4.length)∧(hO o_0 xs_7 cap_2)) (fun xs_7=> [(5,[],(vP b_5)),(6,[],(.slice none 0 0)),(7,[],(.slice (mB o_0) t_4.length cap_2)),(8,[],(vI i_2))]) (fun xs_7=> [⟨some A_b,27,[(vH f0.fSteps),(.slice C_a f0.fHammers.length C_c)]⟩,⟨some b_4,101,[(vH n1.fAt),(vB n1.fPitch)]⟩,⟨some b_5,33,[(vH c2.fAway),(vH c2.fOctave),(vH c2.fStep)]⟩,⟨o_0,104,row encGChoice xs_7 sp_8⟩]) ?_ ?_)))))))))
   ·refine jc_block ?_
    obtain⟨t_0e,ht_0p,hr_0i⟩:=bd h
    refine jl (fun(s:(List GChoice)×Int) (x:Unit)=>match s,x with | ⟨xs_1,i_3⟩,_=>(xs_1.length=t_4.length)∧(hO o_0 xs_1 cap_2)) (fun⟨xs_1,i_3⟩ _=> [(5,[],(vP b_5)),(6,[],(.slice none 0 0)),(7,[],(.slice (mB o_0) t_4.length cap_2)),(8,[],(vI i_2)),(9,[],(vI i_3))]) (fun⟨xs_1,i_3⟩ _=> [⟨some A_b,27,[(vH f0.fSteps),(.slice C_a f0.fHammers.length C_c)]⟩,⟨some b_4,101,[(vH n1.fAt),(vB n1.fPitch)]⟩,⟨some b_5,33,[(vH c2.fAway),(vH c2.fOctave),(vH c2.fStep)]⟩,⟨o_0,104,row encGChoice xs_1 sp_8⟩]) ht_0p () ⟨hn_0g,ho_0h⟩ [0,1,2,3] ?_
    rintro⟨xs_1,i_3⟩ _ y_0z ⟨hn_00,ho_6⟩ h
    rw [FF.l_12] at h
    refine jc_seq (jc_seq (qg [⟨some A_b,27,[(vH f0.fSteps),(.slice C_a f0.fHammers.length C_c)]⟩,⟨some b_4,101,[(vH n1.fAt),(vB n1.fPitch)]⟩,⟨some b_5,33,[(vH c2.fAway),(vH c2.fOctave),(vH c2.fStep)]⟩,⟨o_0,104,row encGChoice xs_1 sp_8⟩] 18 (qd [⟨0,0,0⟩,⟨1,0,0⟩,⟨2,0,0⟩,⟨3,2,1⟩,⟨4,0,1⟩,⟨5,0,1⟩,⟨9,2,1⟩,⟨10,0,1⟩,⟨11,0,1⟩,⟨12,0,1⟩] 8 [0,1,2,3] (js 23 (decide (i_3>0)) (fun hc_05=> ?_) (fun hc_05=> ?_)))))
    ·replace h:=ifT hc_05 h
     obtain⟨x_03,hx_06,h⟩:=bd h
     refine qX 6 2 [0,1,2,3] (mB o_0) 4 hx_06 hn_00 (spo ho_6 hx_06) (qL 7 2 [0,1,2,3] true (fun w hm=>(hm.ow 3 o_0 104 xs_1 sp_8 (fun e=>(ho_6 e).1) encGChoice_len).at hx_06) ?_)
     obtain⟨x_04,hx_07,h⟩:=bd h
     refine qX 13 2 [0,1,2,3] (mB o_0) 4 hx_07 hn_00 (spo ho_6 hx_07) (qL 14 2 [0,1,2,3] true (fun w hm=>(hm.ow 3 o_0 104 xs_1 sp_8 (fun e=>(ho_6 e).1) encGChoice_len).at hx_07) ?_)
     obtain⟨t_0c,ht_0q,h⟩:=bd h
     refine tD 8 (pq 2 (fun w hm=>FC.calls c2 x_03 w _ ht_0q) (kD [0,1,2,3] ?_))
     obtain⟨t_0d,ht_0r,h⟩:=bd h
     refine tD 15 (pq 2 (fun w hm=>FC.calls c2 x_04 w _ ht_0r) (kD [0,1,2,3] (qd [⟨16,0,2⟩,⟨17,0,4⟩] 0 [0,1,2,3] (qz (jx_then (qi h (fun h=> ?_) (fun h=> ?_)))))))
     ·refine jc_skip (jx_then (jc_seq (jc_block (jc_seq (jc_region (qh [0,0] ?_))))))
      obtain⟨x_01,hx_08,h⟩:=bd h
      refine tO (qx 0 (mB o_0) 4 hx_08 hn_00 (spo ho_6 hx_08) (jkO (tO (ql 0 true (fun w hm=>((hm.ow 3 o_0 104 xs_1 sp_8 (fun e=>(ho_6 e).1) encGChoice_len).at hx_08)) (jkO (tO (qa 0 (fun b_10=>jkO (tO (qs 0 [4] (jkO (qe (jx_then (jc_seq (jc_region (qh [0,0,0,0,0] ?_))))))))))))))))
      obtain⟨x_9,hx_09,h⟩:=bd h
      refine tO (qx 0 (mB o_0) 4 hx_09 hn_00 (spo ho_6 hx_09) (jkO (tO (ql 0 true (fun w hm=>((hm.ow 3 o_0 104 xs_1 sp_8 (fun e=>(ho_6 e).1) encGChoice_len).at hx_09)) (jkO ?_)))))
      obtain⟨x_0k,hx_0a,h⟩:=bd h
      refine tO (qx 0 (mB o_0) 4 hx_0a hn_00 (spo ho_6 hx_0a) (jkO (tO (pO 0 3 o_0 104 encGChoice xs_1 sp_8 i_3 x_9 4 0 [(.bool x_9.fAway),(vB x_9.fLate),(vB x_9.fOctave),(vB x_9.fTrack)] (fun e=>(ho_6 e).1) encGChoice_len hx_0a (jkO (qe (jx_then (jc_region (qh [0,0,0,4] ?_)))))))))
      obtain⟨x_0l,hx_0b,h⟩:=bd h
      exact tO (qx 0 (mB o_0) 4 hx_0b (List.length_set.trans hn_00) (spo (set_ho ho_6) hx_0b) (jkO (tO (pO 0 3 o_0 104 encGChoice (xs_1.set i_3.toNat x_9) sp_8 (w64 (i_3-1)) x_01 4 0 [(.bool x_01.fAway),(vB x_01.fLate),(vB x_01.fOctave),(vB x_01.fTrack)] (fun e=>((set_ho ho_6) e).1) encGChoice_len hx_0b (jkO (qe (jx_inn (jx_then (jc_region (qh [0,0,0] (qe (qb (((xs_1.set i_3.toNat x_9).set (w64 (i_3-1)).toNat x_01),(w64 (i_3-1))) () h ⟨(List.length_set.trans (List.length_set.trans hn_00)),(set_ho (set_ho ho_6))⟩ [0,1,2,3]))))))))))))
     ·refine jc_exit (jx_thenx (jx_leave xs_1 (sj h) (fun e_0s=> ?_)))
      subst e_0s
      exact jx_ine (qm xs_1 ⟨hr_0i,hn_00,ho_6⟩ [0,1,2,3])
    ·replace h:=ifF hc_05 h
     refine qd [⟨6,0,3⟩,⟨7,0,3⟩,⟨8,0,3⟩,⟨13,0,3⟩,⟨14,0,3⟩,⟨15,0,3⟩,⟨16,0,3⟩,⟨17,0,5⟩] 0 [0,1,2,3] (qz (jx_then (jq false (fun hc_0j=>nomatch hc_0j) (fun hc_0j=>(jc_exit (jx_thenx (jx_leave xs_1 (sj h) (fun e_0t=> ?_))))))))
     subst e_0t
     exact jx_ine (qm xs_1 ⟨hr_0i,hn_00,ho_6⟩ [0,1,2,3])
   ·rintro xs_7 ⟨h,hn_0u,ho_0v⟩
    replace h:FF.k_9 i_2 xs_7=some y_0f:=h
    rw [FF.k_9] at h
    exact jx_inn (jx_then (jc_region (qh [0,0,0] (qe (qb (xs_7,(w64 (i_2+1))) () h ⟨hn_0u,ho_0v⟩ [0,1,2,3])))))
  ·refine jc_exit (jx_thenx (jx_leave xs_0 (sj h) (fun e_0w=> ?_)))
   subst e_0w
   exact jx_ine (qm xs_0 ⟨hr_0o,hn_0g,ho_0h⟩ [0,1,2,3])
 ·rintro xs_5 ⟨h,hn_0x,ho_0y⟩
  replace h:FF.k_3 xs_5=some r:=h
  rw [FF.k_3] at h
  refine jx_then (jc_seq (jc_region (qh [0,0] (qe (jx_then (jc_ret ?_))))))
  obtain rfl:=si h
  exact qr [] (fun w hm=>⟨o_0,cap_2,sp_8,t_4.length,hn_0x,hs_02,ho_0y,rfl,hm.pk [0,3]⟩)
def Fap.k_5(i_0:Int):Option (Int):=some i_0
def Fap.l_8(c2:GCosts)(t_1:(List GChoice)):(Int×Int)→Option ((Int×Int)⊕(Int))
 | (i_2,i_3)=>(if(decide (i_3<(t_1.length:Int)))=true then(ix t_1 i_3).bind fun x_6=>(FC c2 x_6).bind fun t_9=>(Fbq i_2 t_9).bind fun t_00=>some (.inl (t_00,(w64 (i_3+1)))) else some (.inr i_2))
def Fap(f0:GFrame)(n1:GNote)(c2:GCosts):Option (Int):=(Fx f0 n1).bind fun t_1=>(ix t_1 0).bind fun x_4=>(FC c2 x_4).bind fun t_7=>(loop (Fap.l_8 c2 t_1) (t_7,1)).bind fun t_5=>Fap.k_5 t_5
theorem Fap.calls(f0:GFrame)(n1:GNote)(c2:GCosts)(w:World)(r:Int){C_a:Option Addr}{C_an:Nat}(C_c:Nat)(C_h:Rw w C_a 2 encGHammer f0.fHammers)(C_hn:f0.fHammers.length=C_an)(A_b:Nat)(hm0:Mem w (bs [some A_b]) [⟨some A_b,27,[(vH f0.fSteps),(.slice C_a C_an C_c)]⟩] w)(C_ha:f0.fHammers≠ []→aB C_a∉bs [some A_b])(h:Fap f0 n1 c2=some r):
   Calls Tryz.prog 108 #[(vP A_b),(.agg #[(vH n1.fAt),(vB n1.fPitch)]),(.agg #[(vH c2.fAway),(vH c2.fOctave),(vH c2.fStep)])] w fun e w'=>∃v,e= .returned v∧(v=(vI r)∧Mem w (bs [some A_b]) [⟨some A_b,27,[(vH f0.fSteps),(.slice C_a C_an C_c)]⟩] w'):=by
 subst C_hn
 rw [Fap] at h
 refine enter (args:= [(vP A_b),(.agg #[(vH n1.fAt),(vB n1.fPitch)]),(.agg #[(vH c2.fAway),(vH c2.fOctave),(vH c2.fStep)])]) Tryz.func108 rfl Tryz.ntmps108 (by kernel_rfl) (L:= [⟨some A_b,27,[(vH f0.fSteps),(.slice C_a f0.fHammers.length C_c)]⟩]) (W:=bs [some A_b]) hm0 (jc_seq (jc_region (tO (qa 0 (fun b_1=>jkO (tO (qa 0 (fun b_4=>jkO (qh [0] (qe (jx_then (jc_seq (jc_region (qh [0,1] ?_))))))))))))))
 obtain⟨t_1,ht_7,h⟩:=bd h
 refine tO (pc 0 (fun w hm=>Fx.calls f0 n1 w _ C_c (hm.exRowW C_h C_ha) rfl A_b (hm.ps [0]) (hm.xp C_h C_ha [0]) ht_7) ?_)
 rintro w v w' hm ⟨o_0,cap_02,sp_2,_,rfl,hs_3,ho_8,rfl,hm'⟩
 refine⟨_,hm.appW (ps:= [(0,⟨some A_b,27,[(vH f0.fSteps),(.slice C_a f0.fHammers.length C_c)]⟩)]) (N:= [⟨o_0,104,row encGChoice t_1 sp_2⟩]) hm' (by kernel_rfl) (by kernel_rfl),jkO ?_⟩
 clear hm hm'
 refine qh [0] (qe (jx_then (jc_seq (qg [⟨some A_b,27,[(vH f0.fSteps),(.slice C_a f0.fHammers.length C_c)]⟩,⟨some b_1,101,[(vH n1.fAt),(vB n1.fPitch)]⟩,⟨some b_4,33,[(vH c2.fAway),(vH c2.fOctave),(vH c2.fStep)]⟩,⟨o_0,104,row encGChoice t_1 sp_2⟩] 6 (qd [⟨0,2,0⟩,⟨1,0,0⟩] 4 [0,1,2,3] ?_)))))
 obtain⟨x_4,hx_5,h⟩:=bd h
 refine qX 2 0 [0,1,2,3] (mB o_0) 4 hx_5 rfl (spo ho_8 hx_5) (qL 3 0 [0,1,2,3] true (fun w hm=>(hm.ow 3 o_0 104 t_1 sp_2 (fun e=>(ho_8 e).1) encGChoice_len).at hx_5) ?_)
 obtain⟨t_7,ht_6,h⟩:=bd h
 refine tD 4 (pq 0 (fun w hm=>FC.calls c2 x_4 w _ ht_6) (kD [0,1,2,3] (qd [⟨5,0,0⟩] 0 [0,1,2,3] (qz (jx_then (jc_seq (jc_seq (jc_region (qh [0] (qe (jx_then (jc_meet (fun(i_0:Int)=>Fap.k_5 i_0=some r) (fun i_0=> [(6,[],(vI 0)),(8,[],(vI i_0))]) (fun i_0=> [⟨some A_b,27,[(vH f0.fSteps),(.slice C_a f0.fHammers.length C_c)]⟩,⟨some b_1,101,[(vH n1.fAt),(vB n1.fPitch)]⟩,⟨some b_4,33,[(vH c2.fAway),(vH c2.fOctave),(vH c2.fStep)]⟩,⟨o_0,104,row encGChoice t_1 sp_2⟩]) ?_ ?_))))))))))))
 ·refine jc_block ?_
  obtain⟨t_5,ht_03,hr_04⟩:=bd h
  refine jl (fun(s:Int×Int) (x:Unit)=>match s,x with | ⟨i_2,i_3⟩,_=>True) (fun⟨i_2,i_3⟩ _=> [(5,[],(vP b_4)),(6,[],(vI 0)),(7,[],(.slice (mB o_0) t_1.length cap_02)),(8,[],(vI i_2)),(9,[],(vI i_3))]) (fun⟨i_2,i_3⟩ _=> [⟨some A_b,27,[(vH f0.fSteps),(.slice C_a f0.fHammers.length C_c)]⟩,⟨some b_1,101,[(vH n1.fAt),(vB n1.fPitch)]⟩,⟨some b_4,33,[(vH c2.fAway),(vH c2.fOctave),(vH c2.fStep)]⟩,⟨o_0,104,row encGChoice t_1 sp_2⟩]) ht_03 () trivial [0,1,2,3] ?_
  rintro⟨i_2,i_3⟩ _ y_08 _ h
  rw [Fap.l_8] at h
  refine jc_seq (jc_seq (jc_region (qh [0,0,0,0] (qe (jx_then (qi h (fun h=> ?_) (fun h=> ?_)))))))
  ·refine jc_skip (jx_then (jc_seq (jc_block (qg [⟨some A_b,27,[(vH f0.fSteps),(.slice C_a f0.fHammers.length C_c)]⟩,⟨some b_1,101,[(vH n1.fAt),(vB n1.fPitch)]⟩,⟨some b_4,33,[(vH c2.fAway),(vH c2.fOctave),(vH c2.fStep)]⟩,⟨o_0,104,row encGChoice t_1 sp_2⟩] 9 (qd [⟨0,0,0⟩,⟨1,2,0⟩,⟨2,0,0⟩,⟨3,0,0⟩] 5 [0,1,2,3] ?_)))))
   obtain⟨x_6,hx_01,h⟩:=bd h
   refine qX 4 0 [0,1,2,3] (mB o_0) 4 hx_01 rfl (spo ho_8 hx_01) (qL 5 0 [0,1,2,3] true (fun w hm=>(hm.ow 3 o_0 104 t_1 sp_2 (fun e=>(ho_8 e).1) encGChoice_len).at hx_01) ?_)
   obtain⟨t_9,ht_05,h⟩:=bd h
   refine tD 6 (pq 0 (fun w hm=>FC.calls c2 x_6 w _ ht_05) (kD [0,1,2,3] ?_))
   obtain⟨t_00,ht_06,h⟩:=bd h
   exact tD 7 (pq 0 (fun w hm=>Fbq.calls i_2 t_9 w _ ht_06) (kD [0,1,2,3] (qd [⟨8,0,0⟩] 0 [0,1,2,3] (qz (jx_inn (jx_then (jc_region (qh [0,0,0] (qe (qb (t_00,(w64 (i_3+1))) () h trivial [0,1,2,3]))))))))))
  ·refine jc_exit (jx_thenx (jx_leave i_2 (sj h) (fun e_07=> ?_)))
   subst e_07
   exact jx_ine (qm i_2 hr_04 [0,1,2,3])
 ·rintro i_0 h
  replace h:Fap.k_5 i_0=some r:=h
  rw [Fap.k_5] at h
  refine jx_then (jc_seq (jc_region (qh [0,0] (qe (jx_then (jc_ret ?_))))))
  obtain rfl:=si h
  exact qr [] (fun w hm=>⟨rfl,hm.pk [0]⟩)
def Fah.k_2(i_0:Int):Option (Int):=some i_0
def Fah.l_5(f0:GFrame)(t1:List GNote)(c2:GCosts):(Int×Int)→Option ((Int×Int)⊕(Int))
 | (i_1,i_2)=>(if(decide (i_2<(t1.length:Int)))=true then(ix t1 i_2).bind fun x_3=>(Fap f0 x_3 c2).bind fun t_4=>some (.inl ((w64 (i_1+t_4)),(w64 (i_2+1)))) else some (.inr i_1))
def Fah(f0:GFrame)(t1:List GNote)(c2:GCosts)(from3:Int):Option (Int):=(loop (Fah.l_5 f0 t1 c2) (0,from3)).bind fun t_6=>Fah.k_2 t_6
theorem Fah.calls(f0:GFrame)(t1:List GNote)(c2:GCosts)(from3:Int)(w:World)(r:Int){C_a:Option Addr}{C_an:Nat}(C_c:Nat)(C_h:Rw w C_a 2 encGHammer f0.fHammers)(C_hn:f0.fHammers.length=C_an){D_a:Option Addr}{D_an:Nat}(D_c:Nat)(D_h:Rw w D_a 2 encGNote t1)(D_hn:t1.length=D_an)(A_b:Nat)(hm0:Mem w (bs [some A_b]) [⟨some A_b,27,[(vH f0.fSteps),(.slice C_a C_an C_c)]⟩] w)(C_ha:f0.fHammers≠ []→aB C_a∉bs [some A_b])(D_ha:t1≠ []→aB D_a∉bs [some A_b])(h:Fah f0 t1 c2 from3=some r):
   Calls Tryz.prog 164 #[(vP A_b),(.slice D_a D_an D_c),(.agg #[(vH c2.fAway),(vH c2.fOctave),(vH c2.fStep)]),(vI from3)] w fun e w'=>∃v,e= .returned v∧(v=(vI r)∧Mem w (bs [some A_b]) [⟨some A_b,27,[(vH f0.fSteps),(.slice C_a C_an C_c)]⟩] w'):=by
 subst C_hn D_hn
 rw [Fah] at h
 refine enter (args:= [(vP A_b),(.slice D_a t1.length D_c),(.agg #[(vH c2.fAway),(vH c2.fOctave),(vH c2.fStep)]),(vI from3)]) Tryz.func164 rfl Tryz.ntmps164 (by kernel_rfl) (L:= [⟨some A_b,27,[(vH f0.fSteps),(.slice C_a f0.fHammers.length C_c)]⟩]) (W:=bs [some A_b]) hm0 (jc_seq (jc_region (tO (qa 0 (fun b_0=>jkO (qh [0] (qe (jx_then (jc_seq (jc_region (qh [0] (qe (jx_then (jc_seq (jc_seq (jc_region (qh [0,0] (qe (jx_then (jc_meet (fun(i_0:Int)=>Fah.k_2 i_0=some r) (fun i_0=> [(8,[],(vI 0)),(9,[],(vI i_0))]) (fun i_0=> [⟨some A_b,27,[(vH f0.fSteps),(.slice C_a f0.fHammers.length C_c)]⟩,⟨some b_0,33,[(vH c2.fAway),(vH c2.fOctave),(vH c2.fStep)]⟩]) ?_ ?_))))))))))))))))))))
 ·refine jc_block ?_
  obtain⟨t_6,ht_7,hr_8⟩:=bd h
  refine jl (fun(s:Int×Int) (x:Unit)=>match s,x with | ⟨i_1,i_2⟩,_=>True) (fun⟨i_1,i_2⟩ _=> [(0,[],(vP A_b)),(1,[],(.slice D_a t1.length D_c)),(6,[],(vP b_0)),(8,[],(vI 0)),(9,[],(vI i_1)),(10,[],(vI i_2))]) (fun⟨i_1,i_2⟩ _=> [⟨some A_b,27,[(vH f0.fSteps),(.slice C_a f0.fHammers.length C_c)]⟩,⟨some b_0,33,[(vH c2.fAway),(vH c2.fOctave),(vH c2.fStep)]⟩]) ht_7 () trivial [0,1] ?_
  rintro⟨i_1,i_2⟩ _ y_01 _ h
  rw [Fah.l_5] at h
  refine jc_seq (jc_seq (jc_region (qh [0,0,0,0] (qe (jx_then (qi h (fun h=> ?_) (fun h=> ?_)))))))
  ·refine jc_skip (jx_then (jc_seq (jc_block (qg [⟨some A_b,27,[(vH f0.fSteps),(.slice C_a f0.fHammers.length C_c)]⟩,⟨some b_0,33,[(vH c2.fAway),(vH c2.fOctave),(vH c2.fStep)]⟩] 10 (qd [⟨0,0,0⟩,⟨1,0,0⟩,⟨2,0,0⟩,⟨3,0,0⟩,⟨6,1,0⟩] 5 [0,1] ?_)))))
   obtain⟨x_3,hx_5,h⟩:=bd h
   refine qX 4 0 [0,1] D_a 2 hx_5 rfl (D_h.sp hx_5) (qL 5 0 [0,1] true (fun w hm=>(hm.exRowW D_h D_ha).at hx_5) ?_)
   obtain⟨t_4,ht_9,h⟩:=bd h
   refine tD 7 (pc 0 (fun w hm=>Fap.calls f0 x_3 c2 w _ C_c (hm.exRowW C_h C_ha) rfl A_b (hm.ps [0]) (hm.xp C_h C_ha [0]) ht_9) ?_)
   rintro w v w' hm ⟨rfl,hm'⟩
   refine⟨_,hm.appW (ps:= [(0,⟨some A_b,27,[(vH f0.fSteps),(.slice C_a f0.fHammers.length C_c)]⟩)]) (N:= []) hm' (by kernel_rfl) (by kernel_rfl),kD [0,1] ?_⟩
   clear hm hm'
   exact qd [⟨8,0,0⟩,⟨9,0,0⟩] 0 [0,1] (qz (jx_inn (jx_then (jc_region (qh [0,0,0] (qe (qb ((w64 (i_1+t_4)),(w64 (i_2+1))) () h trivial [0,1])))))))
  ·refine jc_exit (jx_thenx (jx_leave i_1 (sj h) (fun e_00=> ?_)))
   subst e_00
   exact jx_ine (qm i_1 hr_8 [0,1])
 ·rintro i_0 h
  replace h:Fah.k_2 i_0=some r:=h
  rw [Fah.k_2] at h
  refine jx_then (jc_seq (jc_region (qh [0,0] (qe (jx_then (jc_ret ?_))))))
  obtain rfl:=si h
  exact qr [] (fun w hm=>⟨rfl,hm.pk [0]⟩)
def Fv.k_10(s0:Gl07Search)(xs_00:List GChoice)(i_0i:Int)(i_0j:Int)(i_0k:Int)(i_0l:Int)(i_0m:Int)(q_0n:Bool)(i_0o:Int):Option (Bool×Gl07Search):=some (true,(⟨(⟨s0.ff.fSteps,s0.ff.fHammers⟩:GFrame),s0.ft,(⟨i_0i,i_0j,i_0k⟩:GCosts),s0.fall,s0.fbounds,i_0l,i_0m,q_0n,xs_00,i_0o⟩:Gl07Search))
def Fv.k_39(s0:Gl07Search)(i_01:Int)(xs_07:List GChoice)(i_0a:Int)(i_0b:Int)(i_0c:Int)(i_0d:Int)(i_0e:Int)(q_0f:Bool)(i_0g:Int)(q_0p:Bool):Option (((List GChoice)×Int×Int×Int×Int×Int×Bool×Int×Int)⊕((Bool×Gl07Search)⊕((List GChoice)×Int×Int×Int×Int×Int×Bool×Int))):=(if q_0p=true then some (.inr (.inl (false,(⟨(⟨s0.ff.fSteps,s0.ff.fHammers⟩:GFrame),s0.ft,(⟨i_0a,i_0b,i_0c⟩:GCosts),s0.fall,s0.fbounds,i_0d,i_0e,q_0f,xs_07,i_0g⟩:Gl07Search)))) else some (.inl (xs_07,i_0a,i_0b,i_0c,i_0d,i_0e,q_0f,i_0g,(w64 (i_01+1)))))
def Fv.k_28(self_:Gl07Search→(Arr 96 Int)→(List GChoice)→Int→Option (Bool×Gl07Search))(s0:Gl07Search)(list2:List GChoice)(cost3:Int)(xs_2:List GChoice)(i_3:Int)(i_5:Int)(i_4:Int)(i_6:Int)(i_7:Int)(q_8:Bool)(i_9:Int)(i_01:Int)(x_1:GChoice)(t_08:Int)(a_02:Arr 96 Int):Option (((List GChoice)×Int×Int×Int×Int×Int×Bool×Int×Int)⊕((Bool×Gl07Search)⊕((List GChoice)×Int×Int×Int×Int×Int×Bool×Int))):=(if(i_7==i_6)=true then some (.inr (.inl (false,(⟨(⟨s0.ff.fSteps,s0.ff.fHammers⟩:GFrame),s0.ft,(⟨i_3,i_5,i_4⟩:GCosts),s0.fall,s0.fbounds,i_6,i_7,q_8,xs_2,i_9⟩:Gl07Search)))) else(if([]:List GChoice).length+list2.length≤4294967296 then(if(([]:List GChoice)++list2).length+([x_1]:List GChoice).length≤4294967296 then(self_ (⟨(⟨s0.ff.fSteps,s0.ff.fHammers⟩:GFrame),s0.ft,(⟨i_3,i_5,i_4⟩:GCosts),s0.fall,s0.fbounds,i_6,(w64 (i_7+1)),q_8,xs_2,i_9⟩:Gl07Search) a_02 ((([]:List GChoice)++list2)++([x_1]:List GChoice)) (w64 (cost3+t_08))).bind fun t_0=>Fv.k_39 s0 i_01 t_0.2.fbest t_0.2.fc.fAway t_0.2.fc.fOctave t_0.2.fc.fStep t_0.2.fbudget t_0.2.flooks t_0.2.ffound t_0.2.fleast (!t_0.1) else none) else none))
def Fv.l_21(self_:Gl07Search→(Arr 96 Int)→(List GChoice)→Int→Option (Bool×Gl07Search))(s0:Gl07Search)(d1:Arr 96 Int)(list2:List GChoice)(cost3:Int):((List GChoice)×Int×Int×Int×Int×Int×Bool×Int×Int)→Option (((List GChoice)×Int×Int×Int×Int×Int×Bool×Int×Int)⊕((Bool×Gl07Search)⊕((List GChoice)×Int×Int×Int×Int×Int×Bool×Int)))
 | (xs_2,i_3,i_5,i_4,i_6,i_7,q_8,i_9,i_01)=>(ix s0.fall (list2.length:Int)).bind fun x_17=>(if(decide (i_01<(x_17.length:Int)))=true then(ix s0.fall (list2.length:Int)).bind fun x_1o=>(ix x_1o i_01).bind fun x_1=>(FC (⟨i_3,i_5,i_4⟩:GCosts) x_1).bind fun t_08=>(ix s0.ft (list2.length:Int)).bind fun x_18=>(FaS (⟨s0.ff.fSteps,s0.ff.fHammers⟩:GFrame) d1 x_18 x_1).bind fun t_0q=>(if(!t_0q.1)=true then some (.inl (xs_2,i_3,i_5,i_4,i_6,i_7,q_8,i_9,(w64 (i_01+1)))) else(if q_8=true then(ix s0.fbounds (w64 ((list2.length:Int)+1))).bind fun x_1p=>(if(decide ((w64 ((w64 (cost3+t_08))+x_1p))≥i_9))=true then some (.inl (xs_2,i_3,i_5,i_4,i_6,i_7,q_8,i_9,(w64 (i_01+1)))) else Fv.k_28 self_ s0 list2 cost3 xs_2 i_3 i_5 i_4 i_6 i_7 q_8 i_9 i_01 x_1 t_08 t_0q.2) else Fv.k_28 self_ s0 list2 cost3 xs_2 i_3 i_5 i_4 i_6 i_7 q_8 i_9 i_01 x_1 t_08 t_0q.2)) else some (.inr (.inr (xs_2,i_3,i_5,i_4,i_6,i_7,q_8,i_9))))
def Fv.step(self_:Gl07Search→(Arr 96 Int)→(List GChoice)→Int→Option (Bool×Gl07Search))(s0:Gl07Search)(d1:Arr 96 Int)(list2:List GChoice)(cost3:Int):Option (Bool×Gl07Search):=(if((list2.length:Int)==(s0.ft.length:Int))=true then(if([]:List GChoice).length+list2.length≤4294967296 then some (true,(⟨(⟨s0.ff.fSteps,s0.ff.fHammers⟩:GFrame),s0.ft,(⟨s0.fc.fAway,s0.fc.fOctave,s0.fc.fStep⟩:GCosts),s0.fall,s0.fbounds,s0.fbudget,s0.flooks,true,(([]:List GChoice)++list2),cost3⟩:Gl07Search)) else none) else(loop (Fv.l_21 self_ s0 d1 list2 cost3) (s0.fbest,s0.fc.fAway,s0.fc.fOctave,s0.fc.fStep,s0.fbudget,s0.flooks,s0.ffound,s0.fleast,0)).bind fun t_1q=>match t_1q with | .inl p=>some p | .inr p=>Fv.k_10 s0 p.1 p.2.1 p.2.2.1 p.2.2.2.1 p.2.2.2.2.1 p.2.2.2.2.2.1 p.2.2.2.2.2.2.1 p.2.2.2.2.2.2.2)
def Fv.rec_:Nat→Gl07Search→(Arr 96 Int)→(List GChoice)→Int→Option (Bool×Gl07Search)
 | 0=>fun s0 d1 list2 cost3=>none
 | fu+1=>Fv.step (Fv.rec_ fu)
def Fv(s0:Gl07Search)(d1:Arr 96 Int)(list2:List GChoice)(cost3:Int):Option (Bool×Gl07Search):=Fv.rec_ 130 s0 d1 list2 cost3
set_option maxHeartbeats 8000000 in
theorem Fv.step_calls(self_:Gl07Search→(Arr 96 Int)→(List GChoice)→Int→Option (Bool×Gl07Search))(hself:∀(s0:Gl07Search) (d1:Arr 96 Int) (list2:List GChoice) (cost3:Int) (w:World) (r:Bool×Gl07Search) {D_a:Option Addr} {D_an:Nat} (D_c:Nat) (D_h:Rw w D_a 2 encGHammer s0.ff.fHammers) (D_hn:s0.ff.fHammers.length=D_an) {E_a:Option Addr} {E_an:Nat} (E_c:Nat) (E_h:Rw w E_a 2 encGNote s0.ft) (E_hn:s0.ft.length=E_an) {J_a:Option Addr} {J_an:Nat} (J_c:Nat) {J_hs:List Hd} (J_h:Rw w J_a 1 encHd J_hs) (J_hn:s0.fall.length=J_an) {K_a:Option Addr} {K_an:Nat} (K_c:Nat) (K_h:Rw w K_a 1 encI64 s0.fbounds) (K_hn:s0.fbounds.length=K_an) {O_a:Option Addr} {O_an:Nat} (O_c:Nat) (O_hn:s0.fbest.length=O_an) {R_a:Option Addr} {R_an:Nat} (R_c:Nat) (R_h:Rw w R_a 4 encGChoice list2) (R_hn:list2.length=R_an) (A_b:Nat) (B_b:Nat) (hm0:Mem w (bs [some A_b,some B_b]) [⟨some A_b,213,[(vP B_b),(.slice E_a E_an E_c),(vH s0.fc.fAway),(vH s0.fc.fOctave),(vH s0.fc.fStep),(.slice J_a J_an J_c),(.slice K_a K_an K_c),(vI s0.fbudget),(vI s0.flooks),(.bool s0.ffound),(.slice O_a O_an O_c),(vI s0.fleast)]⟩,⟨some B_b,27,[(vH s0.ff.fSteps),(.slice D_a D_an D_c)]⟩] w) (D_ha:s0.ff.fHammers≠ []→aB D_a∉bs [some A_b,some B_b]) (E_ha:s0.ft≠ []→aB E_a∉bs [some A_b,some B_b]) (J_ha:J_hs≠ []→aB J_a∉bs [some A_b,some B_b]) (J_i:Inn w (bs [some A_b,some B_b]) 4 encGChoice J_hs s0.fall) (K_ha:s0.fbounds≠ []→aB K_a∉bs [some A_b,some B_b]) (R_ha:list2≠ []→aB R_a∉bs [some A_b,some B_b]) (h:self_ s0 d1 list2 cost3=some r),
   Calls Tryz.prog 165 #[(vP A_b),(.agg (row encU32 d1.1 []).toArray),(.slice R_a R_an R_c),(vI cost3)] w fun e w'=>∃v,e= .returned v∧(∃(lo:Option Nat) (la:Option Addr) (lc:Nat) (lsp:List Value) (ln:Nat),r.2.fbest.length=ln∧LsB lo la lc lsp ln r.2.fbest 4 [(O_a,O_c,s0.fbest),(R_a,R_c,list2)]∧v=(.bool r.1)∧Mem w (bs [some A_b,some B_b]) [⟨some A_b,213,[(vP B_b),(.slice E_a E_an E_c),(vH r.2.fc.fAway),(vH r.2.fc.fOctave),(vH r.2.fc.fStep),(.slice J_a J_an J_c),(.slice K_a K_an K_c),(vI r.2.fbudget),(vI r.2.flooks),(.bool r.2.ffound),(.slice la ln lc),(vI r.2.fleast)]⟩,⟨some B_b,27,[(vH s0.ff.fSteps),(.slice D_a D_an D_c)]⟩,⟨lo,104,row encGChoice r.2.fbest lsp⟩] w')) (s0:Gl07Search) (d1:Arr 96 Int) (list2:List GChoice) (cost3:Int) (w:World) (r:Bool×Gl07Search) {D_a:Option Addr} {D_an:Nat} (D_c:Nat) (D_h:Rw w D_a 2 encGHammer s0.ff.fHammers) (D_hn:s0.ff.fHammers.length=D_an) {E_a:Option Addr} {E_an:Nat} (E_c:Nat) (E_h:Rw w E_a 2 encGNote s0.ft) (E_hn:s0.ft.length=E_an) {J_a:Option Addr} {J_an:Nat} (J_c:Nat) {J_hs:List Hd} (J_h:Rw w J_a 1 encHd J_hs) (J_hn:s0.fall.length=J_an) {K_a:Option Addr} {K_an:Nat} (K_c:Nat) (K_h:Rw w K_a 1 encI64 s0.fbounds) (K_hn:s0.fbounds.length=K_an) {O_a:Option Addr} {O_an:Nat} (O_c:Nat) (O_hn:s0.fbest.length=O_an) {R_a:Option Addr} {R_an:Nat} (R_c:Nat) (R_h:Rw w R_a 4 encGChoice list2) (R_hn:list2.length=R_an) (A_b:Nat) (B_b:Nat) (hm0:Mem w (bs [some A_b,some B_b]) [⟨some A_b,213,[(vP B_b),(.slice E_a E_an E_c),(vH s0.fc.fAway),(vH s0.fc.fOctave),(vH s0.fc.fStep),(.slice J_a J_an J_c),(.slice K_a K_an K_c),(vI s0.fbudget),(vI s0.flooks),(.bool s0.ffound),(.slice O_a O_an O_c),(vI s0.fleast)]⟩,⟨some B_b,27,[(vH s0.ff.fSteps),(.slice D_a D_an D_c)]⟩] w) (D_ha:s0.ff.fHammers≠ []→aB D_a∉bs [some A_b,some B_b]) (E_ha:s0.ft≠ []→aB E_a∉bs [some A_b,some B_b]) (J_ha:J_hs≠ []→aB J_a∉bs [some A_b,some B_b]) (J_i:Inn w (bs [some A_b,some B_b]) 4 encGChoice J_hs s0.fall) (K_ha:s0.fbounds≠ []→aB K_a∉bs [some A_b,some B_b]) (R_ha:list2≠ []→aB R_a∉bs [some A_b,some B_b]) (h:Fv.step self_ s0 d1 list2 cost3=some r):
   Calls Tryz.prog 165 #[(vP A_b),(.agg (row encU32 d1.1 []).toArray),(.slice R_a R_an R_c),(vI cost3)] w fun e w'=>∃v,e= .returned v∧(∃(lo:Option Nat) (la:Option Addr) (lc:Nat) (lsp:List Value) (ln:Nat),r.2.fbest.length=ln∧LsB lo la lc lsp ln r.2.fbest 4 [(O_a,O_c,s0.fbest),(R_a,R_c,list2)]∧v=(.bool r.1)∧Mem w (bs [some A_b,some B_b]) [⟨some A_b,213,[(vP B_b),(.slice E_a E_an E_c),(vH r.2.fc.fAway),(vH r.2.fc.fOctave),(vH r.2.fc.fStep),(.slice J_a J_an J_c),(.slice K_a K_an K_c),(vI r.2.fbudget),(vI r.2.flooks),(.bool r.2.ffound),(.slice la ln lc),(vI r.2.fleast)]⟩,⟨some B_b,27,[(vH s0.ff.fSteps),(.slice D_a D_an D_c)]⟩,⟨lo,104,row encGChoice r.2.fbest lsp⟩] w'):=by
 subst D_hn E_hn J_hn K_hn O_hn R_hn
 rw [Fv.step] at h
 refine enter (args:= [(vP A_b),(.agg (row encU32 d1.1 []).toArray),(.slice R_a list2.length R_c),(vI cost3)]) Tryz.func165 rfl Tryz.ntmps165 (by kernel_rfl) (L:= [⟨some A_b,213,[(vP B_b),(.slice E_a s0.ft.length E_c),(vH s0.fc.fAway),(vH s0.fc.fOctave),(vH s0.fc.fStep),(.slice J_a s0.fall.length J_c),(.slice K_a s0.fbounds.length K_c),(vI s0.fbudget),(vI s0.flooks),(.bool s0.ffound),(.slice O_a s0.fbest.length O_c),(vI s0.fleast)]⟩,⟨some B_b,27,[(vH s0.ff.fSteps),(.slice D_a s0.ff.fHammers.length D_c)]⟩]) (W:=bs [some A_b,some B_b]) hm0 (jc_ghostX 104 encGChoice s0.fbest (jc_seq (jc_region (tO (qa 0 (fun b_00=>jkO (qh [0] (qe (jx_then (jc_seq (jc_region (qh [0,0,0] (qe (jx_then (jc_seq (jc_seq (jc_region (qh [0,0,0,0,0,0,0] (qe (jx_then (qi h (fun h=> ?_) (fun h=> ?_))))))))))))))))))))))
 ·refine jc_seq (jc_region (qh [0,0,0] (tO (qs 0 [0] (jkO (qe (jx_then (jc_seq (jc_region (qh [0] (tO (qa 0 (fun b_2=>jkO (qh [0] ?_))))))))))))))
  obtain⟨hg_04,h⟩:=gd h
  refine tO (pA 0 4 (some b_2) 104 0 list2.length 0 4 4 R_a encGChoice ([]:List GChoice) list2 [] (.agg #[(.bool false),(vB 0),(vB 0),(vB 0)]) rfl rfl encGChoice_len encGChoice_cell (fun _=>⟨Nat.le_refl _,by simp⟩) (fun e=>nomatch e) (fun w hm=>(hm.exRowW R_h R_ha)) hg_04 (fun o_3 cap_5 sp_4 hs_6 ho_7=>jkO (qh [0,0] (tO (qs 0 [0] (jk_lsM 2 4 ⟨o_3,104,row encGChoice (([]:List GChoice)++list2) sp_4⟩ (jkO (qe (jx_then (jc_seq (jc_region (qh [0,0,0,0] (tO (qs 0 [0] (jkO (qe (jx_then (jc_seq (jc_region (qh [0] (qe (jx_then (jc_ret (jx_thenr ?_))))))))))))))))))))))))
  obtain rfl:=si h
  exact qr [] (fun w hm=>⟨o_3,(mB o_3),cap_5,sp_4,((([]:List GChoice)++list2).length),rfl,(lsO hs_6 ho_7),rfl,hm.pk [0,1,2]⟩)
 ·refine jc_skip (jx_then (jc_seq (jc_seq (jc_region (qh [0] (qe (jx_then (jc_meet (fun(j:(List GChoice)×Int×Int×Int×Int×Int×Bool×Int×(Option Nat)×(Option Addr)×Nat×(List Value)×Nat)=>match j with | ⟨xs_00,i_0i,i_0j,i_0k,i_0l,i_0m,q_0n,i_0o,o_0y,a_0z,cap_10,sp_11,n_12⟩=>Fv.k_10 s0 xs_00 i_0i i_0j i_0k i_0l i_0m q_0n i_0o=some r∧(xs_00.length=n_12)∧(LsB o_0y a_0z cap_10 sp_11 n_12 xs_00 4 [(O_a,O_c,s0.fbest),(R_a,R_c,list2)])) (fun⟨xs_00,i_0i,i_0j,i_0k,i_0l,i_0m,q_0n,i_0o,o_0y,a_0z,cap_10,sp_11,n_12⟩=> [(8,[],(.bool false))]) (fun⟨xs_00,i_0i,i_0j,i_0k,i_0l,i_0m,q_0n,i_0o,o_0y,a_0z,cap_10,sp_11,n_12⟩=> [⟨some A_b,213,[(vP B_b),(.slice E_a s0.ft.length E_c),(vH i_0i),(vH i_0j),(vH i_0k),(.slice J_a s0.fall.length J_c),(.slice K_a s0.fbounds.length K_c),(vI i_0l),(vI i_0m),(.bool q_0n),(.slice a_0z n_12 cap_10),(vI i_0o)]⟩,⟨some B_b,27,[(vH s0.ff.fSteps),(.slice D_a s0.ff.fHammers.length D_c)]⟩,⟨o_0y,104,row encGChoice xs_00 sp_11⟩,⟨(some b_00),40,row encU32 d1.1 []⟩]) ?_ ?_))))))))
  ·refine jc_block ?_
   obtain⟨t_1q,ht_27,hr_19⟩:=bd h
   refine jl (fun(s:(List GChoice)×Int×Int×Int×Int×Int×Bool×Int×Int) (x:(Option Nat)×(Option Addr)×Nat×(List Value)×Nat)=>match s,x with | ⟨xs_2,i_3,i_5,i_4,i_6,i_7,q_8,i_9,i_01⟩,⟨o_05,a_04,cap_03,sp_06,n_13⟩=>(xs_2.length=n_13)∧(LsB o_05 a_04 cap_03 sp_06 n_13 xs_2 4 [(O_a,O_c,s0.fbest),(R_a,R_c,list2)])) (fun⟨xs_2,i_3,i_5,i_4,i_6,i_7,q_8,i_9,i_01⟩ ⟨o_05,a_04,cap_03,sp_06,n_13⟩=> [(0,[],(vP A_b)),(2,[],(.slice R_a list2.length R_c)),(3,[],(vI cost3)),(5,[],(vP b_00)),(8,[],(.bool false)),(9,[],(vI (list2.length:Int))),(10,[],(vI i_01))]) (fun⟨xs_2,i_3,i_5,i_4,i_6,i_7,q_8,i_9,i_01⟩ ⟨o_05,a_04,cap_03,sp_06,n_13⟩=> [⟨some A_b,213,[(vP B_b),(.slice E_a s0.ft.length E_c),(vH i_3),(vH i_5),(vH i_4),(.slice J_a s0.fall.length J_c),(.slice K_a s0.fbounds.length K_c),(vI i_6),(vI i_7),(.bool q_8),(.slice a_04 n_13 cap_03),(vI i_9)]⟩,⟨some B_b,27,[(vH s0.ff.fSteps),(.slice D_a s0.ff.fHammers.length D_c)]⟩,⟨o_05,104,row encGChoice xs_2 sp_06⟩,⟨(some b_00),40,row encU32 d1.1 []⟩]) ht_27 ⟨(none:Option Nat),O_a,O_c,[],s0.fbest.length⟩ ⟨rfl,ls0⟩ [0,1,2,3] ?_
   rintro⟨xs_2,i_3,i_5,i_4,i_6,i_7,q_8,i_9,i_01⟩ ⟨o_05,a_04,cap_03,sp_06,n_13⟩ y_15 ⟨rfl,hl_0s⟩ h
   rw [Fv.l_21] at h
   refine jc_seq (jc_seq (jc_region (qh [0,0,0,0,0,0] ?_)))
   obtain⟨x_17,hx_16,h⟩:=bd h
   refine tO (qx 0 J_a 1 hx_16 rfl (J_h.sp (J_i.ixh hx_16)) (jkO (tO (ql 0 false (fun w hm=>((hm.exRowW J_h J_ha).at (J_i.ixh hx_16))) (jkO (tO (p_val 0 (vI (((hd J_hs (list2.length:Int)).n:Nat):Int)) (vI (x_17.length:Int)) (by kernel_rfl) (by kernel_rfl) (congrArg (fun z:Nat=>Value.int .i64 (z:Int)) (Eq.symm (J_i.get hx_16).2.1)) (jkO (qh [0] (qe (jx_then (qi h (fun h=> ?_) (fun h=> ?_)))))))))))))
   ·refine jc_skip (jx_then (jc_seq (jc_block (jc_seq (jc_region (qh [0,0,0,0,0] ?_))))))
    obtain⟨x_1o,hx_0t,h⟩:=bd h
    refine tO (qx 0 J_a 1 hx_0t rfl (J_h.sp (J_i.ixh hx_0t)) (jkO (tO (ql 0 false (fun w hm=>((hm.exRowW J_h J_ha).at (J_i.ixh hx_0t))) (jkO (qh [0] ?_))))))
    obtain⟨x_1,hx_1a,h⟩:=bd h
    refine tO (qx 0 (hd J_hs (list2.length:Int)).a 4 hx_1a (J_i.get hx_0t).2.1 ((J_i.get hx_0t).1.sp hx_1a) (jkO (tO (ql 0 true (fun w hm=>((hm.exRowW (J_i.get hx_0t).1 (J_i.get hx_0t).2.2).at hx_1a)) (jkO (tO (qa 0 (fun b_0h=>jkO (tO (qs 0 [4] (jkO (qe (jx_then (jc_seq (qg [⟨some A_b,213,[(vP B_b),(.slice E_a s0.ft.length E_c),(vH i_3),(vH i_5),(vH i_4),(.slice J_a s0.fall.length J_c),(.slice K_a s0.fbounds.length K_c),(vI i_6),(vI i_7),(.bool q_8),(.slice a_04 xs_2.length cap_03),(vI i_9)]⟩,⟨some B_b,27,[(vH s0.ff.fSteps),(.slice D_a s0.ff.fHammers.length D_c)]⟩,⟨o_05,104,row encGChoice xs_2 sp_06⟩,⟨(some b_00),40,row encU32 d1.1 []⟩,⟨some b_0h,104,[(.bool x_1.fAway),(vB x_1.fLate),(vB x_1.fOctave),(vB x_1.fTrack)]⟩] 9 (qd [⟨0,0,0⟩,⟨1,0,0⟩,⟨2,0,0⟩,⟨3,0,0⟩,⟨4,0,0⟩,⟨5,4,0⟩] 3 [0,1,2,3,4] ?_))))))))))))))))
    obtain⟨t_08,ht_28,h⟩:=bd h
    refine tD 6 (pq 0 (fun w hm=>FC.calls (⟨i_3,i_5,i_4⟩:GCosts) x_1 w _ ht_28) (kD [0,1,2,3,4] (qd [⟨7,0,0⟩,⟨8,0,0⟩] 0 [0,1,2,3,4] (qz (jx_then (jc_seq (jc_region (tO (pL 0 3 b_00 96 1 40 encU32 d1 encU32_len (jkO (tO (qa 0 (fun b_09=>jkO (tO (pS 0 5 b_09 96 1 40 encU32 (Arr.rep 96 0) d1 encU32_len encU32_cell (jkO (qe (jx_then (jc_seq (jc_meet (fun(a_02:(Arr 96 Int))=>Fv.k_28 self_ s0 list2 cost3 xs_2 i_3 i_5 i_4 i_6 i_7 q_8 i_9 i_01 x_1 t_08 a_02=some y_15) (fun a_02=> [(0,[],(vP A_b)),(2,[],(.slice R_a list2.length R_c)),(3,[],(vI cost3)),(5,[],(vP b_00)),(8,[],(.bool false)),(9,[],(vI (list2.length:Int))),(10,[],(vI i_01)),(11,[],(vP b_0h)),(12,[],(vI (w64 (cost3+t_08)))),(13,[],(vP b_09))]) (fun a_02=> [⟨some A_b,213,[(vP B_b),(.slice E_a s0.ft.length E_c),(vH i_3),(vH i_5),(vH i_4),(.slice J_a s0.fall.length J_c),(.slice K_a s0.fbounds.length K_c),(vI i_6),(vI i_7),(.bool q_8),(.slice a_04 xs_2.length cap_03),(vI i_9)]⟩,⟨some B_b,27,[(vH s0.ff.fSteps),(.slice D_a s0.ff.fHammers.length D_c)]⟩,⟨o_05,104,row encGChoice xs_2 sp_06⟩,⟨(some b_00),40,row encU32 d1.1 []⟩,⟨some b_0h,104,[(.bool x_1.fAway),(vB x_1.fLate),(vB x_1.fOctave),(vB x_1.fTrack)]⟩,⟨(some b_09),40,row encU32 a_02.1 []⟩]) ?_ ?_))))))))))))))))))))
    ·refine jc_seq (qg [⟨some A_b,213,[(vP B_b),(.slice E_a s0.ft.length E_c),(vH i_3),(vH i_5),(vH i_4),(.slice J_a s0.fall.length J_c),(.slice K_a s0.fbounds.length K_c),(vI i_6),(vI i_7),(.bool q_8),(.slice a_04 xs_2.length cap_03),(vI i_9)]⟩,⟨some B_b,27,[(vH s0.ff.fSteps),(.slice D_a s0.ff.fHammers.length D_c)]⟩,⟨o_05,104,row encGChoice xs_2 sp_06⟩,⟨(some b_00),40,row encU32 d1.1 []⟩,⟨some b_0h,104,[(.bool x_1.fAway),(vB x_1.fLate),(vB x_1.fOctave),(vB x_1.fTrack)]⟩] 37 (qd [⟨0,0,0⟩,⟨1,0,0⟩,⟨2,0,0⟩,⟨3,0,0⟩,⟨4,0,0⟩,⟨5,0,0⟩,⟨6,0,0⟩,⟨7,0,0⟩,⟨8,0,0⟩,⟨11,4,0⟩] 27 [0,1,2,3,4] ?_))
     obtain⟨x_18,hx_1b,h⟩:=bd h
     refine qX 9 0 [0,1,2,3,4] E_a 2 hx_1b rfl (E_h.sp hx_1b) (qL 10 0 [0,1,2,3,4] true (fun w hm=>(hm.exRowW E_h E_ha).at hx_1b) ?_)
     obtain⟨t_0q,ht_29,h⟩:=bd h
     refine tD 12 (pc 0 (fun w hm=>FaS.calls (⟨s0.ff.fSteps,s0.ff.fHammers⟩:GFrame) d1 x_18 x_1 w _ D_c (hm.exRowW D_h D_ha) rfl B_b b_09 (hm.ps [1,5]) (hm.xp D_h D_ha [1,5]) ht_29) ?_)
     rintro w v w' hm ⟨rfl,hm'⟩
     refine⟨_,hm.appW (ps:= [(1,⟨some B_b,27,[(vH s0.ff.fSteps),(.slice D_a s0.ff.fHammers.length D_c)]⟩),(5,⟨(some b_09),40,row encU32 t_0q.2.1 []⟩)]) (N:= []) hm' (by kernel_rfl) (by kernel_rfl),kD [0,1,2,3,4] ?_⟩
     clear hm hm'
     refine qd [⟨13,0,0⟩,⟨14,0,0⟩,⟨15,0,1⟩,⟨16,0,1⟩,⟨17,0,1⟩,⟨18,0,1⟩] 18 [0,1,2,3,4] (js 81 (!t_0q.1) (fun hc_1c=> ?_) (fun hc_1c=> ?_))
     ·replace h:=ifT hc_1c h
      exact qd [⟨19,0,3⟩,⟨20,0,3⟩,⟨21,0,3⟩,⟨22,0,3⟩,⟨23,0,3⟩,⟨24,0,3⟩,⟨25,0,3⟩,⟨26,0,3⟩,⟨27,0,3⟩,⟨28,0,3⟩,⟨29,0,3⟩,⟨30,0,3⟩,⟨31,0,3⟩,⟨32,0,3⟩,⟨33,0,3⟩,⟨34,0,3⟩,⟨35,0,3⟩,⟨36,0,4⟩] 0 [0,1,2,3,4] (qz (jx_then (jq true (fun hc_1r=>(jc_exit (jx_thenx (jx_thenx (jx_ine (jx_then (jc_region (qh [0,0,0] (qe (qb (xs_2,i_3,i_5,i_4,i_6,i_7,q_8,i_9,(w64 (i_01+1))) ⟨o_05,a_04,cap_03,sp_06,xs_2.length⟩ h ⟨rfl,hl_0s⟩ [0,1,2,3])))))))))) (fun hc_1r=>nomatch hc_1r))))
     ·replace h:=ifF hc_1c h
      refine qd [⟨19,0,2⟩,⟨20,0,1⟩,⟨21,0,1⟩,⟨22,0,1⟩,⟨23,0,1⟩,⟨24,0,1⟩,⟨25,0,1⟩,⟨26,0,1⟩,⟨30,0,1⟩,⟨31,0,1⟩,⟨32,0,1⟩,⟨33,0,1⟩] 6 [0,1,2,3,4] (js 86 q_8 (fun hc_1d=> ?_) (fun hc_1d=> ?_))
      ·replace h:=ifT hc_1d h
       obtain⟨x_1p,hx_1e,h⟩:=bd h
       refine qX 27 2 [0,1,2,3,4] K_a 1 hx_1e rfl (K_h.sp hx_1e) (qL 28 2 [0,1,2,3,4] false (fun w hm=>(hm.exRowW K_h K_ha).at hx_1e) (qd [⟨29,0,2⟩,⟨34,0,2⟩,⟨35,0,4⟩,⟨36,0,5⟩] 0 [0,1,2,3,4] (qz (jx_then (qi h (fun h=> ?_) (fun h=> ?_))))))
       ·exact jc_exit (jx_thenx (jx_thenx (jx_ine (jx_then (jc_region (qh [0,0,0] (qe (qb (xs_2,i_3,i_5,i_4,i_6,i_7,q_8,i_9,(w64 (i_01+1))) ⟨o_05,a_04,cap_03,sp_06,xs_2.length⟩ h ⟨rfl,hl_0s⟩ [0,1,2,3]))))))))
       ·exact jc_skip (qm t_0q.2 h [0,1,2,3,4,5])
      ·replace h:=ifF hc_1d h
       exact qd [⟨27,0,3⟩,⟨28,0,3⟩,⟨29,0,3⟩,⟨34,0,3⟩,⟨35,0,5⟩,⟨36,0,5⟩] 0 [0,1,2,3,4] (qz (jx_then (jq false (fun hc_1s=>nomatch hc_1s) (fun hc_1s=>(jc_skip (qm t_0q.2 h [0,1,2,3,4,5]))))))
    ·rintro a_02 h
     replace h:Fv.k_28 self_ s0 list2 cost3 xs_2 i_3 i_5 i_4 i_6 i_7 q_8 i_9 i_01 x_1 t_08 a_02=some y_15:=h
     rw [Fv.k_28] at h
     refine jx_then (jc_seq (jc_seq (qg [⟨some A_b,213,[(vP B_b),(.slice E_a s0.ft.length E_c),(vH i_3),(vH i_5),(vH i_4),(.slice J_a s0.fall.length J_c),(.slice K_a s0.fbounds.length K_c),(vI i_6),(vI i_7),(.bool q_8),(.slice a_04 xs_2.length cap_03),(vI i_9)]⟩,⟨some B_b,27,[(vH s0.ff.fSteps),(.slice D_a s0.ff.fHammers.length D_c)]⟩,⟨o_05,104,row encGChoice xs_2 sp_06⟩,⟨(some b_00),40,row encU32 d1.1 []⟩,⟨some b_0h,104,[(.bool x_1.fAway),(vB x_1.fLate),(vB x_1.fOctave),(vB x_1.fTrack)]⟩,⟨(some b_09),40,row encU32 a_02.1 []⟩] 9 (qd [⟨0,0,0⟩,⟨1,0,0⟩,⟨2,0,0⟩,⟨3,0,0⟩,⟨4,0,0⟩,⟨5,0,0⟩,⟨6,0,0⟩,⟨7,0,0⟩,⟨8,0,0⟩] 0 [0,1,2,3,4,5] (qz (jx_then (qi h (fun h=> ?_) (fun h=> ?_))))))))
     ·refine jc_seq (jc_region (qh [0] (qe (jx_then (jc_ret (jx_thenr (jx_inr (jx_thenr (jx_leaver (.inl (false,(⟨(⟨s0.ff.fSteps,s0.ff.fHammers⟩:GFrame),s0.ft,(⟨i_3,i_5,i_4⟩:GCosts),s0.fall,s0.fbounds,i_6,i_7,q_8,xs_2,i_9⟩:Gl07Search))) (sj h) (fun e_2a=> ?_))))))))))
      subst e_2a
      refine jx_inr (jx_thenr (jx_thenr ?_))
      obtain rfl:=si hr_19
      exact qr [] (fun w hm=>⟨o_05,a_04,cap_03,sp_06,xs_2.length,rfl,hl_0s,rfl,hm.pk [0,1,2]⟩)
     ·refine jc_skip (jx_then (jc_seq (jc_region (qh [0,0,0,0,0,0,0] (tO (qs 0 [0] (jkO (qe (jx_then (jc_seq (jc_meet (fun(j:(List GChoice)×Int×Int×Int×Int×Int×Bool×Int×Bool×(Option Nat)×(Option Addr)×Nat×(List Value)×Nat)=>match j with | ⟨xs_07,i_0a,i_0b,i_0c,i_0d,i_0e,q_0f,i_0g,q_0p,o_0u,a_0v,cap_0w,sp_0x,n_14⟩=>Fv.k_39 s0 i_01 xs_07 i_0a i_0b i_0c i_0d i_0e q_0f i_0g q_0p=some y_15∧(xs_07.length=n_14)∧(LsB o_0u a_0v cap_0w sp_0x n_14 xs_07 4 [(O_a,O_c,s0.fbest),(R_a,R_c,list2)])) (fun⟨xs_07,i_0a,i_0b,i_0c,i_0d,i_0e,q_0f,i_0g,q_0p,o_0u,a_0v,cap_0w,sp_0x,n_14⟩=> [(0,[],(vP A_b)),(2,[],(.slice R_a list2.length R_c)),(3,[],(vI cost3)),(5,[],(vP b_00)),(8,[],(.bool false)),(9,[],(vI (list2.length:Int))),(10,[],(vI i_01)),(130,[],(.bool q_0p))]) (fun⟨xs_07,i_0a,i_0b,i_0c,i_0d,i_0e,q_0f,i_0g,q_0p,o_0u,a_0v,cap_0w,sp_0x,n_14⟩=> [⟨some A_b,213,[(vP B_b),(.slice E_a s0.ft.length E_c),(vH i_0a),(vH i_0b),(vH i_0c),(.slice J_a s0.fall.length J_c),(.slice K_a s0.fbounds.length K_c),(vI i_0d),(vI i_0e),(.bool q_0f),(.slice a_0v n_14 cap_0w),(vI i_0g)]⟩,⟨some B_b,27,[(vH s0.ff.fSteps),(.slice D_a s0.ff.fHammers.length D_c)]⟩,⟨o_0u,104,row encGChoice xs_07 sp_0x⟩,⟨(some b_00),40,row encU32 d1.1 []⟩,⟨some b_0h,104,[(.bool x_1.fAway),(vB x_1.fLate),(vB x_1.fOctave),(vB x_1.fTrack)]⟩,⟨(some b_09),40,row encU32 a_02.1 []⟩]) ?_ ?_)))))))))))
      ·refine qg [⟨some B_b,27,[(vH s0.ff.fSteps),(.slice D_a s0.ff.fHammers.length D_c)]⟩,⟨(some b_00),40,row encU32 d1.1 []⟩,⟨some b_0h,104,[(.bool x_1.fAway),(vB x_1.fLate),(vB x_1.fOctave),(vB x_1.fTrack)]⟩,⟨(some b_09),40,row encU32 a_02.1 []⟩] 11 (qd [⟨0,0,0⟩,⟨3,0,0⟩,⟨5,2,0⟩,⟨8,0,0⟩] 7 [1,3,4,5] (qv 1 0 [1,3,4,5] (fun w hm=>ld_run (b:=b_09) (off:=0) (s:=96) (agg:=true) (vs:=row encU32 a_02.1 []) (by kernel_rfl) ((row_len encU32_len a_02).trans rfl) (.inl rfl) (hm.all (hh:=3) (T:=40) (by kernel_rfl))) (t2 2 6 ?_ ?_)))
       ·refine qa 0 (fun b_1t=>kD [1,3,4,5] (t2 4 6 ?_ ?_))
        ·obtain⟨hg_2b,h⟩:=gd h
         refine pA 0 6 (some b_1t) 104 0 list2.length 0 4 4 R_a encGChoice ([]:List GChoice) list2 [] (.agg #[(.bool false),(vB 0),(vB 0),(vB 0)]) rfl rfl encGChoice_len encGChoice_cell (fun _=>⟨Nat.le_refl _,by simp⟩) (fun e=>nomatch e) (fun w hm=>(hm.exRowW R_h R_ha)) hg_2b (fun o_2c cap_2d sp_2e hs_2f ho_2g=>kD [1,3,4,5] (tD 6 (qa 0 (fun b_1f=>kD [1,3,4,5] ?_))))
         obtain⟨hg_2h,h⟩:=gd h
         refine tD 7 (pA 0 6 o_2c 104 ((([]:List GChoice)++list2).length) 1 cap_2d 4 4 (sB b_1f) encGChoice (([]:List GChoice)++list2) ([x_1]:List GChoice) sp_2e (.agg #[(.bool false),(vB 0),(vB 0),(vB 0)]) rfl rfl encGChoice_len encGChoice_cell hs_2f ho_2g (fun w hm=>(hm.ow 7 (some b_1f) 104 ([x_1]:List GChoice) [] (fun e=>nomatch e) encGChoice_len)) hg_2h (fun o_1g cap_2i sp_1u hs_2j ho_1h=>kD [1,3,4,5] ?_))
         obtain⟨t_0,ht_2k,h⟩:=bd h
         refine tD 9 (pc 0 (fun w hm=>hself (⟨(⟨s0.ff.fSteps,s0.ff.fHammers⟩:GFrame),s0.ft,(⟨i_3,i_5,i_4⟩:GCosts),s0.fall,s0.fbounds,i_6,(w64 (i_7+1)),q_8,xs_2,i_9⟩:Gl07Search) a_02 ((([]:List GChoice)++list2)++([x_1]:List GChoice)) (w64 (cost3+t_08)) w _ D_c (hm.exRowW D_h D_ha) rfl E_c (hm.exRowW E_h E_ha) rfl J_c (hm.exRowW J_h J_ha) rfl K_c (hm.exRowW K_h K_ha) rfl cap_03 rfl cap_2i (hm.ow 6 o_1g 104 ((([]:List GChoice)++list2)++([x_1]:List GChoice)) sp_1u (fun e=>(ho_1h e).1) encGChoice_len) rfl A_b B_b (hm.ps (N:= [⟨some A_b,213,[(vP B_b),(.slice E_a s0.ft.length E_c),(vH i_3),(vH i_5),(vH i_4),(.slice J_a s0.fall.length J_c),(.slice K_a s0.fbounds.length K_c),(vI i_6),(vI (w64 (i_7+1))),(.bool q_8),(.slice a_04 xs_2.length cap_03),(vI i_9)]⟩,⟨some B_b,27,[(vH s0.ff.fSteps),(.slice D_a s0.ff.fHammers.length D_c)]⟩]) [0,1]) (hm.xp D_h D_ha [0,1]) (hm.xp E_h E_ha [0,1]) (hm.xp J_h J_ha [0,1]) (hm.ip J_i [0,1]) (hm.xp K_h K_ha [0,1]) (hm.oa 6 o_1g (fun e=>(ho_1h e).1) [0,1]) ht_2k) ?_)
         rintro w v w' hm ⟨o_2l,a_0r,cap_1v,sp_2m,_,rfl,hl_2n,rfl,hm'⟩
         obtain⟨o_1w,sp_1x,hl_2o,hM_1468⟩:=Mem.ls3 (T:=104) (enc:=encGChoice) (o1:=o_05) (sp1:=sp_06) (xs1:=xs_2) (o:=o_2l) (sp:=sp_2m) (xs:=t_0.2.fbest) (F:= [(O_a,O_c,s0.fbest),(R_a,R_c,list2)]) (o2:=o_1g) (sp2:=sp_1u) (xs2:=((([]:List GChoice)++list2)++([x_1]:List GChoice))) (hm.aw [0,1] hm') 2 6 8 (by kernel_rfl) (by kernel_rfl) (by kernel_rfl) (by kernel_rfl) hl_0s rfl hs_2j ho_1h rfl rfl hl_2n
         refine⟨_,Mem.pick hM_1468 (N:= [⟨some A_b,213,[(vP B_b),(.slice E_a s0.ft.length E_c),(vH t_0.2.fc.fAway),(vH t_0.2.fc.fOctave),(vH t_0.2.fc.fStep),(.slice J_a s0.fall.length J_c),(.slice K_a s0.fbounds.length K_c),(vI t_0.2.fbudget),(vI t_0.2.flooks),(.bool t_0.2.ffound),(.slice a_0r t_0.2.fbest.length cap_1v),(vI t_0.2.fleast)]⟩,⟨some B_b,27,[(vH s0.ff.fSteps),(.slice D_a s0.ff.fHammers.length D_c)]⟩,⟨o_1w,104,row encGChoice t_0.2.fbest sp_1x⟩,⟨(some b_00),40,row encU32 d1.1 []⟩,⟨some b_0h,104,[(.bool x_1.fAway),(vB x_1.fLate),(vB x_1.fOctave),(vB x_1.fTrack)]⟩,⟨(some b_09),40,row encU32 a_02.1 []⟩,⟨none,0,[]⟩,⟨(some b_1f),104,row encGChoice ([x_1]:List GChoice) []⟩]) [0,1,2,3,4,5,6,7] (by kernel_rfl) (by kernel_rfl),kD [1,3,4,5] ?_⟩
         clear hm hm' hM_1468
         exact qd [⟨10,0,0⟩] 0 [1,3,4,5] (qz (qm ⟨t_0.2.fbest,t_0.2.fc.fAway,t_0.2.fc.fOctave,t_0.2.fc.fStep,t_0.2.fbudget,t_0.2.flooks,t_0.2.ffound,t_0.2.fleast,(!t_0.1),o_1w,a_0r,cap_1v,sp_1x,t_0.2.fbest.length⟩ ⟨h,rfl,hl_2o⟩ [0,1,2,3,4,5]))
        ·refine qa 0 (fun b_1i=>kD [1,3,4,5] ?_)
         obtain⟨hg_2p,h⟩:=gd h
         refine tD 4 (pA 0 6 (some b_1t) 104 0 list2.length 0 4 4 R_a encGChoice ([]:List GChoice) list2 [] (.agg #[(.bool false),(vB 0),(vB 0),(vB 0)]) rfl rfl encGChoice_len encGChoice_cell (fun _=>⟨Nat.le_refl _,by simp⟩) (fun e=>nomatch e) (fun w hm=>(hm.exRowW R_h R_ha)) hg_2p (fun o_2q cap_2r sp_2s hs_2t ho_2u=>kD [1,3,4,5] ?_))
         obtain⟨hg_2v,h⟩:=gd h
         refine tD 7 (pA 0 6 o_2q 104 ((([]:List GChoice)++list2).length) 1 cap_2r 4 4 (sB b_1i) encGChoice (([]:List GChoice)++list2) ([x_1]:List GChoice) sp_2s (.agg #[(.bool false),(vB 0),(vB 0),(vB 0)]) rfl rfl encGChoice_len encGChoice_cell hs_2t ho_2u (fun w hm=>(hm.ow 7 (some b_1i) 104 ([x_1]:List GChoice) [] (fun e=>nomatch e) encGChoice_len)) hg_2v (fun o_1j cap_2w sp_1y hs_2x ho_1k=>kD [1,3,4,5] ?_))
         obtain⟨t_0,ht_2y,h⟩:=bd h
         refine tD 9 (pc 0 (fun w hm=>hself (⟨(⟨s0.ff.fSteps,s0.ff.fHammers⟩:GFrame),s0.ft,(⟨i_3,i_5,i_4⟩:GCosts),s0.fall,s0.fbounds,i_6,(w64 (i_7+1)),q_8,xs_2,i_9⟩:Gl07Search) a_02 ((([]:List GChoice)++list2)++([x_1]:List GChoice)) (w64 (cost3+t_08)) w _ D_c (hm.exRowW D_h D_ha) rfl E_c (hm.exRowW E_h E_ha) rfl J_c (hm.exRowW J_h J_ha) rfl K_c (hm.exRowW K_h K_ha) rfl cap_03 rfl cap_2w (hm.ow 6 o_1j 104 ((([]:List GChoice)++list2)++([x_1]:List GChoice)) sp_1y (fun e=>(ho_1k e).1) encGChoice_len) rfl A_b B_b (hm.ps (N:= [⟨some A_b,213,[(vP B_b),(.slice E_a s0.ft.length E_c),(vH i_3),(vH i_5),(vH i_4),(.slice J_a s0.fall.length J_c),(.slice K_a s0.fbounds.length K_c),(vI i_6),(vI (w64 (i_7+1))),(.bool q_8),(.slice a_04 xs_2.length cap_03),(vI i_9)]⟩,⟨some B_b,27,[(vH s0.ff.fSteps),(.slice D_a s0.ff.fHammers.length D_c)]⟩]) [0,1]) (hm.xp D_h D_ha [0,1]) (hm.xp E_h E_ha [0,1]) (hm.xp J_h J_ha [0,1]) (hm.ip J_i [0,1]) (hm.xp K_h K_ha [0,1]) (hm.oa 6 o_1j (fun e=>(ho_1k e).1) [0,1]) ht_2y) ?_)
         rintro w v w' hm ⟨o_2z,a_0r,cap_1z,sp_30,_,rfl,hl_31,rfl,hm'⟩
         obtain⟨o_20,sp_21,hl_32,hM_1490⟩:=Mem.ls3 (T:=104) (enc:=encGChoice) (o1:=o_05) (sp1:=sp_06) (xs1:=xs_2) (o:=o_2z) (sp:=sp_30) (xs:=t_0.2.fbest) (F:= [(O_a,O_c,s0.fbest),(R_a,R_c,list2)]) (o2:=o_1j) (sp2:=sp_1y) (xs2:=((([]:List GChoice)++list2)++([x_1]:List GChoice))) (hm.aw [0,1] hm') 2 6 8 (by kernel_rfl) (by kernel_rfl) (by kernel_rfl) (by kernel_rfl) hl_0s rfl hs_2x ho_1k rfl rfl hl_31
         refine⟨_,Mem.pick hM_1490 (N:= [⟨some A_b,213,[(vP B_b),(.slice E_a s0.ft.length E_c),(vH t_0.2.fc.fAway),(vH t_0.2.fc.fOctave),(vH t_0.2.fc.fStep),(.slice J_a s0.fall.length J_c),(.slice K_a s0.fbounds.length K_c),(vI t_0.2.fbudget),(vI t_0.2.flooks),(.bool t_0.2.ffound),(.slice a_0r t_0.2.fbest.length cap_1z),(vI t_0.2.fleast)]⟩,⟨some B_b,27,[(vH s0.ff.fSteps),(.slice D_a s0.ff.fHammers.length D_c)]⟩,⟨o_20,104,row encGChoice t_0.2.fbest sp_21⟩,⟨(some b_00),40,row encU32 d1.1 []⟩,⟨some b_0h,104,[(.bool x_1.fAway),(vB x_1.fLate),(vB x_1.fOctave),(vB x_1.fTrack)]⟩,⟨(some b_09),40,row encU32 a_02.1 []⟩,⟨none,0,[]⟩,⟨(some b_1i),104,row encGChoice ([x_1]:List GChoice) []⟩]) [0,1,2,3,4,5,6,7] (by kernel_rfl) (by kernel_rfl),kD [1,3,4,5] ?_⟩
         clear hm hm' hM_1490
         exact qd [⟨10,0,0⟩] 0 [1,3,4,5] (qz (qm ⟨t_0.2.fbest,t_0.2.fc.fAway,t_0.2.fc.fOctave,t_0.2.fc.fStep,t_0.2.fbudget,t_0.2.flooks,t_0.2.ffound,t_0.2.fleast,(!t_0.1),o_20,a_0r,cap_1z,sp_21,t_0.2.fbest.length⟩ ⟨h,rfl,hl_32⟩ [0,1,2,3,4,5]))
       ·refine qa 0 (fun b_1l=>kD [1,3,4,5] (tD 2 (qa 0 (fun b_33=>kD [1,3,4,5] ?_))))
        obtain⟨hg_34,h⟩:=gd h
        refine tD 4 (pA 0 7 (some b_33) 104 0 list2.length 0 4 4 R_a encGChoice ([]:List GChoice) list2 [] (.agg #[(.bool false),(vB 0),(vB 0),(vB 0)]) rfl rfl encGChoice_len encGChoice_cell (fun _=>⟨Nat.le_refl _,by simp⟩) (fun e=>nomatch e) (fun w hm=>(hm.exRowW R_h R_ha)) hg_34 (fun o_35 cap_36 sp_37 hs_38 ho_39=>kD [1,3,4,5] ?_))
        obtain⟨hg_3a,h⟩:=gd h
        refine tD 7 (pA 0 7 o_35 104 ((([]:List GChoice)++list2).length) 1 cap_36 4 4 (sB b_1l) encGChoice (([]:List GChoice)++list2) ([x_1]:List GChoice) sp_37 (.agg #[(.bool false),(vB 0),(vB 0),(vB 0)]) rfl rfl encGChoice_len encGChoice_cell hs_38 ho_39 (fun w hm=>(hm.ow 6 (some b_1l) 104 ([x_1]:List GChoice) [] (fun e=>nomatch e) encGChoice_len)) hg_3a (fun o_1m cap_3b sp_22 hs_3c ho_1n=>kD [1,3,4,5] ?_))
        obtain⟨t_0,ht_3d,h⟩:=bd h
        refine tD 9 (pc 0 (fun w hm=>hself (⟨(⟨s0.ff.fSteps,s0.ff.fHammers⟩:GFrame),s0.ft,(⟨i_3,i_5,i_4⟩:GCosts),s0.fall,s0.fbounds,i_6,(w64 (i_7+1)),q_8,xs_2,i_9⟩:Gl07Search) a_02 ((([]:List GChoice)++list2)++([x_1]:List GChoice)) (w64 (cost3+t_08)) w _ D_c (hm.exRowW D_h D_ha) rfl E_c (hm.exRowW E_h E_ha) rfl J_c (hm.exRowW J_h J_ha) rfl K_c (hm.exRowW K_h K_ha) rfl cap_03 rfl cap_3b (hm.ow 7 o_1m 104 ((([]:List GChoice)++list2)++([x_1]:List GChoice)) sp_22 (fun e=>(ho_1n e).1) encGChoice_len) rfl A_b B_b (hm.ps (N:= [⟨some A_b,213,[(vP B_b),(.slice E_a s0.ft.length E_c),(vH i_3),(vH i_5),(vH i_4),(.slice J_a s0.fall.length J_c),(.slice K_a s0.fbounds.length K_c),(vI i_6),(vI (w64 (i_7+1))),(.bool q_8),(.slice a_04 xs_2.length cap_03),(vI i_9)]⟩,⟨some B_b,27,[(vH s0.ff.fSteps),(.slice D_a s0.ff.fHammers.length D_c)]⟩]) [0,1]) (hm.xp D_h D_ha [0,1]) (hm.xp E_h E_ha [0,1]) (hm.xp J_h J_ha [0,1]) (hm.ip J_i [0,1]) (hm.xp K_h K_ha [0,1]) (hm.oa 7 o_1m (fun e=>(ho_1n e).1) [0,1]) ht_3d) ?_)
        rintro w v w' hm ⟨o_3e,a_0r,cap_23,sp_3f,_,rfl,hl_3g,rfl,hm'⟩
        obtain⟨o_24,sp_25,hl_3h,hM_1513⟩:=Mem.ls3 (T:=104) (enc:=encGChoice) (o1:=o_05) (sp1:=sp_06) (xs1:=xs_2) (o:=o_3e) (sp:=sp_3f) (xs:=t_0.2.fbest) (F:= [(O_a,O_c,s0.fbest),(R_a,R_c,list2)]) (o2:=o_1m) (sp2:=sp_22) (xs2:=((([]:List GChoice)++list2)++([x_1]:List GChoice))) (hm.aw [0,1] hm') 2 7 8 (by kernel_rfl) (by kernel_rfl) (by kernel_rfl) (by kernel_rfl) hl_0s rfl hs_3c ho_1n rfl rfl hl_3g
        refine⟨_,Mem.pick hM_1513 (N:= [⟨some A_b,213,[(vP B_b),(.slice E_a s0.ft.length E_c),(vH t_0.2.fc.fAway),(vH t_0.2.fc.fOctave),(vH t_0.2.fc.fStep),(.slice J_a s0.fall.length J_c),(.slice K_a s0.fbounds.length K_c),(vI t_0.2.fbudget),(vI t_0.2.flooks),(.bool t_0.2.ffound),(.slice a_0r t_0.2.fbest.length cap_23),(vI t_0.2.fleast)]⟩,⟨some B_b,27,[(vH s0.ff.fSteps),(.slice D_a s0.ff.fHammers.length D_c)]⟩,⟨o_24,104,row encGChoice t_0.2.fbest sp_25⟩,⟨(some b_00),40,row encU32 d1.1 []⟩,⟨some b_0h,104,[(.bool x_1.fAway),(vB x_1.fLate),(vB x_1.fOctave),(vB x_1.fTrack)]⟩,⟨(some b_09),40,row encU32 a_02.1 []⟩,⟨(some b_1l),104,row encGChoice ([x_1]:List GChoice) []⟩,⟨none,0,[]⟩]) [0,1,2,3,4,5,6,7] (by kernel_rfl) (by kernel_rfl),kD [1,3,4,5] ?_⟩
        clear hm hm' hM_1513
        exact qd [⟨10,0,0⟩] 0 [1,3,4,5] (qz (qm ⟨t_0.2.fbest,t_0.2.fc.fAway,t_0.2.fc.fOctave,t_0.2.fc.fStep,t_0.2.fbudget,t_0.2.flooks,t_0.2.ffound,t_0.2.fleast,(!t_0.1),o_24,a_0r,cap_23,sp_25,t_0.2.fbest.length⟩ ⟨h,rfl,hl_3h⟩ [0,1,2,3,4,5]))
      ·rintro⟨xs_07,i_0a,i_0b,i_0c,i_0d,i_0e,q_0f,i_0g,q_0p,o_0u,a_0v,cap_0w,sp_0x,n_14⟩ ⟨h,rfl,hl_26⟩
       replace h:Fv.k_39 s0 i_01 xs_07 i_0a i_0b i_0c i_0d i_0e q_0f i_0g q_0p=some y_15:=h
       rw [Fv.k_39] at h
       refine jx_then (qi h (fun h=> ?_) (fun h=> ?_))
       ·refine jc_seq (jc_region (qh [0] (qe (jx_then (jc_ret (jx_inr (jx_thenr (jx_leaver (.inl (false,(⟨(⟨s0.ff.fSteps,s0.ff.fHammers⟩:GFrame),s0.ft,(⟨i_0a,i_0b,i_0c⟩:GCosts),s0.fall,s0.fbounds,i_0d,i_0e,q_0f,xs_07,i_0g⟩:Gl07Search))) (sj h) (fun e_3i=> ?_)))))))))
        subst e_3i
        refine jx_inr (jx_thenr (jx_thenr ?_))
        obtain rfl:=si hr_19
        exact qr [] (fun w hm=>⟨o_0u,a_0v,cap_0w,sp_0x,xs_07.length,rfl,hl_26,rfl,hm.pk [0,1,2]⟩)
       ·exact jc_skip (jx_inn (jx_then (jc_region (qh [0,0,0] (qe (qb (xs_07,i_0a,i_0b,i_0c,i_0d,i_0e,q_0f,i_0g,(w64 (i_01+1))) ⟨o_0u,a_0v,cap_0w,sp_0x,xs_07.length⟩ h ⟨rfl,hl_26⟩ [0,1,2,3]))))))
   ·refine jc_exit (jx_thenx (jx_leave (.inr (xs_2,i_3,i_5,i_4,i_6,i_7,q_8,i_9)) (sj h) (fun e_3j=> ?_)))
    subst e_3j
    exact jx_ine (qm ⟨xs_2,i_3,i_5,i_4,i_6,i_7,q_8,i_9,o_05,a_04,cap_03,sp_06,xs_2.length⟩ ⟨hr_19,rfl,hl_0s⟩ [0,1,2,3])
  ·rintro⟨xs_00,i_0i,i_0j,i_0k,i_0l,i_0m,q_0n,i_0o,o_0y,a_0z,cap_10,sp_11,n_12⟩ ⟨h,rfl,hl_3k⟩
   replace h:Fv.k_10 s0 xs_00 i_0i i_0j i_0k i_0l i_0m q_0n i_0o=some r:=h
   rw [Fv.k_10] at h
   refine jx_then (jc_seq (jc_region (qh [0] (qe (jx_then (jc_ret ?_))))))
   obtain rfl:=si h
   exact qr [] (fun w hm=>⟨o_0y,a_0z,cap_10,sp_11,xs_00.length,rfl,hl_3k,rfl,hm.pk [0,1,2]⟩)
theorem Fv.rec_calls(fu:Nat):∀(s0:Gl07Search) (d1:Arr 96 Int) (list2:List GChoice) (cost3:Int) (w:World) (r:Bool×Gl07Search) {D_a:Option Addr} {D_an:Nat} (D_c:Nat) (D_h:Rw w D_a 2 encGHammer s0.ff.fHammers) (D_hn:s0.ff.fHammers.length=D_an) {E_a:Option Addr} {E_an:Nat} (E_c:Nat) (E_h:Rw w E_a 2 encGNote s0.ft) (E_hn:s0.ft.length=E_an) {J_a:Option Addr} {J_an:Nat} (J_c:Nat) {J_hs:List Hd} (J_h:Rw w J_a 1 encHd J_hs) (J_hn:s0.fall.length=J_an) {K_a:Option Addr} {K_an:Nat} (K_c:Nat) (K_h:Rw w K_a 1 encI64 s0.fbounds) (K_hn:s0.fbounds.length=K_an) {O_a:Option Addr} {O_an:Nat} (O_c:Nat) (O_hn:s0.fbest.length=O_an) {R_a:Option Addr} {R_an:Nat} (R_c:Nat) (R_h:Rw w R_a 4 encGChoice list2) (R_hn:list2.length=R_an) (A_b:Nat) (B_b:Nat) (hm0:Mem w (bs [some A_b,some B_b]) [⟨some A_b,213,[(vP B_b),(.slice E_a E_an E_c),(vH s0.fc.fAway),(vH s0.fc.fOctave),(vH s0.fc.fStep),(.slice J_a J_an J_c),(.slice K_a K_an K_c),(vI s0.fbudget),(vI s0.flooks),(.bool s0.ffound),(.slice O_a O_an O_c),(vI s0.fleast)]⟩,⟨some B_b,27,[(vH s0.ff.fSteps),(.slice D_a D_an D_c)]⟩] w) (D_ha:s0.ff.fHammers≠ []→aB D_a∉bs [some A_b,some B_b]) (E_ha:s0.ft≠ []→aB E_a∉bs [some A_b,some B_b]) (J_ha:J_hs≠ []→aB J_a∉bs [some A_b,some B_b]) (J_i:Inn w (bs [some A_b,some B_b]) 4 encGChoice J_hs s0.fall) (K_ha:s0.fbounds≠ []→aB K_a∉bs [some A_b,some B_b]) (R_ha:list2≠ []→aB R_a∉bs [some A_b,some B_b]) (h:Fv.rec_ fu s0 d1 list2 cost3=some r),
   Calls Tryz.prog 165 #[(vP A_b),(.agg (row encU32 d1.1 []).toArray),(.slice R_a R_an R_c),(vI cost3)] w fun e w'=>∃v,e= .returned v∧(∃(lo:Option Nat) (la:Option Addr) (lc:Nat) (lsp:List Value) (ln:Nat),r.2.fbest.length=ln∧LsB lo la lc lsp ln r.2.fbest 4 [(O_a,O_c,s0.fbest),(R_a,R_c,list2)]∧v=(.bool r.1)∧Mem w (bs [some A_b,some B_b]) [⟨some A_b,213,[(vP B_b),(.slice E_a E_an E_c),(vH r.2.fc.fAway),(vH r.2.fc.fOctave),(vH r.2.fc.fStep),(.slice J_a J_an J_c),(.slice K_a K_an K_c),(vI r.2.fbudget),(vI r.2.flooks),(.bool r.2.ffound),(.slice la ln lc),(vI r.2.fleast)]⟩,⟨some B_b,27,[(vH s0.ff.fSteps),(.slice D_a D_an D_c)]⟩,⟨lo,104,row encGChoice r.2.fbest lsp⟩] w'):=by
 induction fu with
 | zero=>intros;rename_i h;cases h
 | succ fu ih=>exact @Fv.step_calls _ (Fv.rec_ fu) @ih
theorem Fv.calls(s0:Gl07Search)(d1:Arr 96 Int)(list2:List GChoice)(cost3:Int)(w:World)(r:Bool×Gl07Search){D_a:Option Addr}{D_an:Nat}(D_c:Nat)(D_h:Rw w D_a 2 encGHammer s0.ff.fHammers)(D_hn:s0.ff.fHammers.length=D_an){E_a:Option Addr}{E_an:Nat}(E_c:Nat)(E_h:Rw w E_a 2 encGNote s0.ft)(E_hn:s0.ft.length=E_an){J_a:Option Addr}{J_an:Nat}(J_c:Nat){J_hs:List Hd}(J_h:Rw w J_a 1 encHd J_hs)(J_hn:s0.fall.length=J_an){K_a:Option Addr}{K_an:Nat}(K_c:Nat)(K_h:Rw w K_a 1 encI64 s0.fbounds)(K_hn:s0.fbounds.length=K_an){O_a:Option Addr}{O_an:Nat}(O_c:Nat)(O_hn:s0.fbest.length=O_an){R_a:Option Addr}{R_an:Nat}(R_c:Nat)(R_h:Rw w R_a 4 encGChoice list2)(R_hn:list2.length=R_an)(A_b:Nat)(B_b:Nat)(hm0:Mem w (bs [some A_b,some B_b]) [⟨some A_b,213,[(vP B_b),(.slice E_a E_an E_c),(vH s0.fc.fAway),(vH s0.fc.fOctave),(vH s0.fc.fStep),(.slice J_a J_an J_c),(.slice K_a K_an K_c),(vI s0.fbudget),(vI s0.flooks),(.bool s0.ffound),(.slice O_a O_an O_c),(vI s0.fleast)]⟩,⟨some B_b,27,[(vH s0.ff.fSteps),(.slice D_a D_an D_c)]⟩] w)(D_ha:s0.ff.fHammers≠ []→aB D_a∉bs [some A_b,some B_b])(E_ha:s0.ft≠ []→aB E_a∉bs [some A_b,some B_b])(J_ha:J_hs≠ []→aB J_a∉bs [some A_b,some B_b])(J_i:Inn w (bs [some A_b,some B_b]) 4 encGChoice J_hs s0.fall)(K_ha:s0.fbounds≠ []→aB K_a∉bs [some A_b,some B_b])(R_ha:list2≠ []→aB R_a∉bs [some A_b,some B_b])(h:Fv s0 d1 list2 cost3=some r):
   Calls Tryz.prog 165 #[(vP A_b),(.agg (row encU32 d1.1 []).toArray),(.slice R_a R_an R_c),(vI cost3)] w fun e w'=>∃v,e= .returned v∧(∃(lo:Option Nat) (la:Option Addr) (lc:Nat) (lsp:List Value) (ln:Nat),r.2.fbest.length=ln∧LsB lo la lc lsp ln r.2.fbest 4 [(O_a,O_c,s0.fbest),(R_a,R_c,list2)]∧v=(.bool r.1)∧Mem w (bs [some A_b,some B_b]) [⟨some A_b,213,[(vP B_b),(.slice E_a E_an E_c),(vH r.2.fc.fAway),(vH r.2.fc.fOctave),(vH r.2.fc.fStep),(.slice J_a J_an J_c),(.slice K_a K_an K_c),(vI r.2.fbudget),(vI r.2.flooks),(.bool r.2.ffound),(.slice la ln lc),(vI r.2.fleast)]⟩,⟨some B_b,27,[(vH s0.ff.fSteps),(.slice D_a D_an D_c)]⟩,⟨lo,104,row encGChoice r.2.fbest lsp⟩] w'):=
 Fv.rec_calls 130 s0 d1 list2 cost3 w r D_c D_h D_hn E_c E_h E_hn J_c J_h J_hn K_c K_h K_hn O_c O_hn R_c R_h R_hn A_b B_b hm0 D_ha E_ha J_ha J_i K_ha R_ha h
def Fz.k_5(f0:GFrame)(t1:List GNote)(c2:GCosts)(budget3:Int)(xt_6:List (List GChoice))(xs_7:List Int):Option ((List GChoice)×Int×Int):=(Fv (⟨f0,t1,c2,xt_6,xs_7,budget3,0,false,([]:List GChoice),0⟩:Gl07Search) (Arr.rep 96 0) ([]:List GChoice) 0).bind fun t_4=>(if(!t_4.1)=true then some (([]:List GChoice),0,7) else some (t_4.2.fbest,t_4.2.fleast,0))
def Fz.l_10(f0:GFrame)(t1:List GNote)(c2:GCosts):((List Int)×Int)→Option (((List Int)×Int)⊕((List Int)))
 | (xs_1,i_02)=>(if(decide (i_02≤(t1.length:Int)))=true then(Fah f0 t1 c2 i_02).bind fun t_9=>(if xs_1.length+([t_9]:List Int).length≤4294967296 then some (.inl ((xs_1++([t_9]:List Int)),(w64 (i_02+1)))) else none) else some (.inr xs_1))
def Fz.k_3(f0:GFrame)(t1:List GNote)(c2:GCosts)(budget3:Int)(xt_6:List (List GChoice)):Option ((List GChoice)×Int×Int):=(loop (Fz.l_10 f0 t1 c2) ([],0)).bind fun t_0o=>Fz.k_5 f0 t1 c2 budget3 xt_6 t_0o
def Fz.l_14(f0:GFrame)(t1:List GNote)(c2:GCosts):((List (List GChoice))×Int)→Option (((List (List GChoice))×Int)⊕((List (List GChoice))))
 | (xt_8,i_03)=>(if(decide (i_03<(t1.length:Int)))=true then(ix t1 i_03).bind fun x_0p=>(FF f0 x_0p c2).bind fun t_0=>(if xt_8.length+1≤4294967296 then some (.inl ((xt_8++ [t_0]),(w64 (i_03+1)))) else none) else some (.inr xt_8))
def Fz(f0:GFrame)(t1:List GNote)(c2:GCosts)(budget3:Int):Option ((List GChoice)×Int×Int):=(Faj f0 t1 c2).bind fun t_00=>(if(t_00 !=0)=true then some (([]:List GChoice),0,t_00) else(FI budget3 0 20000).bind fun t_0z=>(if(!t_0z)=true then some (([]:List GChoice),0,2) else(loop (Fz.l_14 f0 t1 c2) (([]:List (List GChoice)),0)).bind fun t_10=>Fz.k_3 f0 t1 c2 budget3 t_10))
set_option maxHeartbeats 8000000 in
theorem Fz.calls(f0:GFrame)(t1:List GNote)(c2:GCosts)(budget3:Int)(w:World)(r:(List GChoice)×Int×Int){C_a:Option Addr}{C_an:Nat}(C_c:Nat)(C_h:Rw w C_a 2 encGHammer f0.fHammers)(C_hn:f0.fHammers.length=C_an){D_a:Option Addr}{D_an:Nat}(D_c:Nat)(D_h:Rw w D_a 2 encGNote t1)(D_hn:t1.length=D_an)(A_b:Nat)(hm0:Mem w (bs [some A_b]) [⟨some A_b,27,[(vH f0.fSteps),(.slice C_a C_an C_c)]⟩] w)(C_ha:f0.fHammers≠ []→aB C_a∉bs [some A_b])(D_ha:t1≠ []→aB D_a∉bs [some A_b])(h:Fz f0 t1 c2 budget3=some r):
   Calls Tryz.prog 91 #[(vP A_b),(.slice D_a D_an D_c),(.agg #[(vH c2.fAway),(vH c2.fOctave),(vH c2.fStep)]),(vI budget3)] w fun e w'=>∃v,e= .returned v∧(∃(o0:Option Nat) (c0:Nat) (s0:List Value) (n0:Nat),r.1.length=n0∧(hS o0 n0 c0 s0 4)∧(hO o0 r.1 c0)∧v= .tuple #[.slice (mB o0) n0 c0,(vI r.2.1),(vI r.2.2)]∧Mem w (bs [some A_b]) [⟨some A_b,27,[(vH f0.fSteps),(.slice C_a C_an C_c)]⟩,⟨o0,104,row encGChoice r.1 s0⟩] w'):=by
 subst C_hn D_hn
 rw [Fz] at h
 refine enter (args:= [(vP A_b),(.slice D_a t1.length D_c),(.agg #[(vH c2.fAway),(vH c2.fOctave),(vH c2.fStep)]),(vI budget3)]) Tryz.func91 rfl Tryz.ntmps91 (by kernel_rfl) (L:= [⟨some A_b,27,[(vH f0.fSteps),(.slice C_a f0.fHammers.length C_c)]⟩]) (W:=bs [some A_b]) hm0 (jc_seq (jc_region (tO (qa 0 (fun b_00=>jkO (qh [0,0,0] (qe (jx_then (jc_seq (jc_seq (jc_region (qh [0,0,1] ?_))))))))))))
 obtain⟨t_00,ht_1c,h⟩:=bd h
 refine tO (pc 0 (fun w hm=>Faj.calls f0 t1 c2 w _ C_c (hm.exRowW C_h C_ha) rfl D_c (hm.exRowW D_h D_ha) rfl A_b (hm.ps [0]) (hm.xp C_h C_ha [0]) (hm.xp D_h D_ha [0]) ht_1c) ?_)
 rintro w v w' hm ⟨rfl,hm'⟩
 refine⟨_,hm.appW (ps:= [(0,⟨some A_b,27,[(vH f0.fSteps),(.slice C_a f0.fHammers.length C_c)]⟩)]) (N:= []) hm' (by kernel_rfl) (by kernel_rfl),jkO ?_⟩
 clear hm hm'
 refine qh [0] (qe (jx_then (jc_seq (jc_region (qh [0,0] (qe (jx_then (qi h (fun h=> ?_) (fun h=> ?_)))))))))
 ·refine jc_seq (jc_region (tO (qa 0 (fun b_11=>jkO (qh [0,0,0,0] (qe (jx_then (jc_ret (jx_thenr ?_)))))))))
  obtain rfl:=si h
  exact qr [] (fun w hm=>⟨(some b_11),0,[],0,rfl,(fun _=>⟨Nat.le_refl _,by simp⟩),(fun e=>nomatch e),rfl,hm.pk [0,2]⟩)
 ·refine jc_skip (jx_then (jc_seq (jc_seq (jc_region (qh [0] ?_)))))
  obtain⟨t_0z,ht_0o,h⟩:=bd h
  refine tO (pq 0 (fun w hm=>FI.calls budget3 0 20000 w _ ht_0o) (jkO (qh [0] (qe (jx_then (qi h (fun h=> ?_) (fun h=> ?_)))))))
  ·refine jc_seq (jc_region (tO (qa 0 (fun b_03=>jkO (qh [0,0,0] (qe (jx_then (jc_ret (jx_thenr ?_)))))))))
   obtain rfl:=si h
   exact qr [] (fun w hm=>⟨(some b_03),0,[],0,rfl,(fun _=>⟨Nat.le_refl _,by simp⟩),(fun e=>nomatch e),rfl,hm.pk [0,2]⟩)
  ·refine jc_skip (jx_then (jc_seq (jc_region (qh [0,0,1,0,0] (tO (qa 0 (fun b_04=>jk_ghost 35 encHd (jk_clu encGChoice (jkO (qh [0] (qe (jx_then (jc_seq (jc_seq (jc_region (qh [0] (qe (jx_then (jc_meet (fun(j:(List (List GChoice))×(List Hd)×(Option Nat)×Nat×(List Value)×Nat)=>match j with | ⟨xt_6,hh_2,o_5,cap_05,sp_07,n_0i⟩=>Fz.k_3 f0 t1 c2 budget3 xt_6=some r∧(hh_2.length=n_0i)∧(hS o_5 n_0i cap_05 sp_07 1)∧(hO o_5 hh_2 cap_05)∧(InP hh_2 xt_6)) (fun⟨xt_6,hh_2,o_5,cap_05,sp_07,n_0i⟩=> [(0,[],(vP A_b)),(1,[],(.slice D_a t1.length D_c)),(6,[],(vP b_00)),(8,[],(.slice none 0 0)),(9,[],(vI 0)),(10,[],(vI 0)),(12,[],(vP b_04))]) (fun⟨xt_6,hh_2,o_5,cap_05,sp_07,n_0i⟩=> [⟨some A_b,27,[(vH f0.fSteps),(.slice C_a f0.fHammers.length C_c)]⟩,⟨some b_00,33,[(vH c2.fAway),(vH c2.fOctave),(vH c2.fStep)]⟩,⟨some b_04,213,[(vP A_b),(.slice D_a t1.length D_c),(vH c2.fAway),(vH c2.fOctave),(vH c2.fStep),(.slice (mB o_5) n_0i cap_05),(.slice none 0 0),(vI budget3),(vI 0),(.bool false),(.slice none 0 0),(vI 0)]⟩,⟨o_5,35,row encHd hh_2 sp_07⟩,⟨none,CLU,cluC encGChoice hh_2 xt_6⟩]) ?_ ?_)))))))))))))))))))
   ·refine jc_block ?_
    obtain⟨t_10,ht_1d,hr_1e⟩:=bd h
    refine jl (fun(s:(List (List GChoice))×Int) (x:(List Hd)×(Option Nat)×Nat×(List Value)×Nat)=>match s,x with | ⟨xt_8,i_03⟩,⟨hh_3,o_08,cap_0b,sp_0e,n_0j⟩=>(hh_3.length=n_0j)∧(hS o_08 n_0j cap_0b sp_0e 1)∧(hO o_08 hh_3 cap_0b)∧(InP hh_3 xt_8)) (fun⟨xt_8,i_03⟩ ⟨hh_3,o_08,cap_0b,sp_0e,n_0j⟩=> [(0,[],(vP A_b)),(1,[],(.slice D_a t1.length D_c)),(6,[],(vP b_00)),(8,[],(.slice none 0 0)),(9,[],(vI 0)),(10,[],(vI 0)),(12,[],(vP b_04)),(13,[],(vI i_03))]) (fun⟨xt_8,i_03⟩ ⟨hh_3,o_08,cap_0b,sp_0e,n_0j⟩=> [⟨some A_b,27,[(vH f0.fSteps),(.slice C_a f0.fHammers.length C_c)]⟩,⟨some b_00,33,[(vH c2.fAway),(vH c2.fOctave),(vH c2.fStep)]⟩,⟨some b_04,213,[(vP A_b),(.slice D_a t1.length D_c),(vH c2.fAway),(vH c2.fOctave),(vH c2.fStep),(.slice (mB o_08) n_0j cap_0b),(.slice none 0 0),(vI budget3),(vI 0),(.bool false),(.slice none 0 0),(vI 0)]⟩,⟨o_08,35,row encHd hh_3 sp_0e⟩,⟨none,CLU,cluC encGChoice hh_3 xt_8⟩]) ht_1d ⟨([]:List Hd),(none:Option Nat),0,[],0⟩ ⟨rfl,(fun e=>absurd rfl e),(fun _=>⟨rfl,rfl⟩),InP.nil⟩ [0,1,2,3,4] ?_
    rintro⟨xt_8,i_03⟩ ⟨hh_3,o_08,cap_0b,sp_0e,n_0j⟩ y_2w ⟨rfl,hs_0q,ho_0r,hI_1358⟩ h
    rw [Fz.l_14] at h
    refine jc_seq (jc_seq (jc_region (qh [0,0,0,0] (qe (jx_then (qi h (fun h=> ?_) (fun h=> ?_)))))))
    ·refine jc_skip (jx_then (jc_seq (jc_block (qg [⟨some A_b,27,[(vH f0.fSteps),(.slice C_a f0.fHammers.length C_c)]⟩,⟨some b_00,33,[(vH c2.fAway),(vH c2.fOctave),(vH c2.fStep)]⟩] 17 (qd [⟨0,0,0⟩,⟨1,0,0⟩,⟨2,0,0⟩,⟨3,0,0⟩,⟨5,0,0⟩,⟨6,0,0⟩,⟨7,0,0⟩,⟨10,1,0⟩] 9 [0,1] ?_)))))
     obtain⟨x_0p,hx_0u,h⟩:=bd h
     refine qX 8 0 [0,1] D_a 2 hx_0u rfl (D_h.sp hx_0u) (qL 9 0 [0,1] true (fun w hm=>(hm.exRowW D_h D_ha).at hx_0u) (t2 4 11 ?_ ?_))
     ·refine qs 0 [2] (kD [0,1] ?_)
      obtain⟨t_0,ht_1f,h⟩:=bd h
      refine tD 11 (pc 0 (fun w hm=>FF.calls f0 x_0p c2 w _ C_c (hm.exRowW C_h C_ha) rfl A_b (hm.ps [0]) (hm.xp C_h C_ha [0]) ht_1f) ?_)
      rintro w v w' hm ⟨o_0h,cap_0m,sp_12,_,rfl,hs_2x,ho_1g,rfl,hm'⟩
      refine⟨_,hm.appW (ps:= [(0,⟨some A_b,27,[(vH f0.fSteps),(.slice C_a f0.fHammers.length C_c)]⟩)]) (N:= [⟨o_0h,104,row encGChoice t_0 sp_12⟩]) hm' (by kernel_rfl) (by kernel_rfl),kD [0,1] ?_⟩
      clear hm hm'
      refine tD 12 (qa 0 (fun b_13=>kD [0,1] ?_))
      obtain⟨hg_1h,h⟩:=gd h
      exact tD 13 (pA 0 3 o_08 35 hh_3.length 1 cap_0b 1 24 (sB b_13) encHd hh_3 [(Hd.mk (mB o_0h) t_0.length cap_0m)] sp_0e (.slice none 0 0) rfl rfl encHd_len encHd_cell hs_0q ho_0r (fun w hm=>(hm.ow 6 (some b_13) 35 ([(Hd.mk (mB o_0h) t_0.length cap_0m)]) [] (fun e=>nomatch e) encHd_len)) (tabbig hI_1358 hg_1h) (fun o_1i cap_1j sp_1k hs_1l ho_1m=>jk_frz (enc:=encGChoice) (hs:=hh_3) (xss:=xt_8) (o:=o_0h) (T:=104) (xs:=t_0) (sp:=sp_12) 4 5 t_0.length cap_0m hI_1358 (kD [0,1] (qd [⟨14,0,0⟩,⟨15,0,0⟩] 1 [0,1] (tD 16 (qs 0 [2] (kD [0,1] (qz (jx_inn (jx_then (jc_region (qh [0,0,0] (qe (qb ((xt_8++ [t_0]),(w64 (i_03+1))) ⟨(hh_3++ [(Hd.mk (mB o_0h) t_0.length cap_0m)]),o_1i,cap_1j,sp_1k,(hh_3++ [(Hd.mk (mB o_0h) t_0.length cap_0m)]).length⟩ h ⟨rfl,hs_1l,ho_1m,(hI_1358.snoc (o:=o_0h) rfl (fun e=>(ho_1g e).1))⟩ [0,1,2,3,4]))))))))))))))
     ·obtain⟨t_0,ht_1n,h⟩:=bd h
      refine pc 0 (fun w hm=>FF.calls f0 x_0p c2 w _ C_c (hm.exRowW C_h C_ha) rfl A_b (hm.ps [0]) (hm.xp C_h C_ha [0]) ht_1n) ?_
      rintro w v w' hm ⟨o_06,cap_0c,sp_0v,_,rfl,hs_2y,ho_14,rfl,hm'⟩
      refine⟨_,hm.appW (ps:= [(0,⟨some A_b,27,[(vH f0.fSteps),(.slice C_a f0.fHammers.length C_c)]⟩)]) (N:= [⟨o_06,104,row encGChoice t_0 sp_0v⟩]) hm' (by kernel_rfl) (by kernel_rfl),kD [0,1] ?_⟩
      clear hm hm'
      refine t2 4 12 ?_ ?_
      ·refine qs 0 [2] (kD [0,1] (tD 12 (qa 0 (fun b_15=>kD [0,1] ?_))))
       obtain⟨hg_1o,h⟩:=gd h
       exact tD 13 (pA 0 3 o_08 35 hh_3.length 1 cap_0b 1 24 (sB b_15) encHd hh_3 [(Hd.mk (mB o_06) t_0.length cap_0c)] sp_0e (.slice none 0 0) rfl rfl encHd_len encHd_cell hs_0q ho_0r (fun w hm=>(hm.ow 6 (some b_15) 35 ([(Hd.mk (mB o_06) t_0.length cap_0c)]) [] (fun e=>nomatch e) encHd_len)) (tabbig hI_1358 hg_1o) (fun o_1p cap_1q sp_1r hs_1s ho_1t=>jk_frz (enc:=encGChoice) (hs:=hh_3) (xss:=xt_8) (o:=o_06) (T:=104) (xs:=t_0) (sp:=sp_0v) 4 5 t_0.length cap_0c hI_1358 (kD [0,1] (qd [⟨14,0,0⟩,⟨15,0,0⟩] 1 [0,1] (tD 16 (qs 0 [2] (kD [0,1] (qz (jx_inn (jx_then (jc_region (qh [0,0,0] (qe (qb ((xt_8++ [t_0]),(w64 (i_03+1))) ⟨(hh_3++ [(Hd.mk (mB o_06) t_0.length cap_0c)]),o_1p,cap_1q,sp_1r,(hh_3++ [(Hd.mk (mB o_06) t_0.length cap_0c)]).length⟩ h ⟨rfl,hs_1s,ho_1t,(hI_1358.snoc (o:=o_06) rfl (fun e=>(ho_14 e).1))⟩ [0,1,2,3,4]))))))))))))))
      ·refine qa 0 (fun b_16=>kD [0,1] (tD 4 (qs 0 [2] (kD [0,1] ?_))))
       obtain⟨hg_1u,h⟩:=gd h
       exact tD 13 (pA 0 3 o_08 35 hh_3.length 1 cap_0b 1 24 (sB b_16) encHd hh_3 [(Hd.mk (mB o_06) t_0.length cap_0c)] sp_0e (.slice none 0 0) rfl rfl encHd_len encHd_cell hs_0q ho_0r (fun w hm=>(hm.ow 6 (some b_16) 35 ([(Hd.mk (mB o_06) t_0.length cap_0c)]) [] (fun e=>nomatch e) encHd_len)) (tabbig hI_1358 hg_1u) (fun o_1v cap_1w sp_1x hs_1y ho_1z=>jk_frz (enc:=encGChoice) (hs:=hh_3) (xss:=xt_8) (o:=o_06) (T:=104) (xs:=t_0) (sp:=sp_0v) 4 5 t_0.length cap_0c hI_1358 (kD [0,1] (qd [⟨14,0,0⟩,⟨15,0,0⟩] 1 [0,1] (tD 16 (qs 0 [2] (kD [0,1] (qz (jx_inn (jx_then (jc_region (qh [0,0,0] (qe (qb ((xt_8++ [t_0]),(w64 (i_03+1))) ⟨(hh_3++ [(Hd.mk (mB o_06) t_0.length cap_0c)]),o_1v,cap_1w,sp_1x,(hh_3++ [(Hd.mk (mB o_06) t_0.length cap_0c)]).length⟩ h ⟨rfl,hs_1y,ho_1z,(hI_1358.snoc (o:=o_06) rfl (fun e=>(ho_14 e).1))⟩ [0,1,2,3,4]))))))))))))))
    ·refine jc_exit (jx_thenx (jx_leave xt_8 (sj h) (fun e_20=> ?_)))
     subst e_20
     exact jx_ine (qm ⟨xt_8,hh_3,o_08,cap_0b,sp_0e,hh_3.length⟩ ⟨hr_1e,rfl,hs_0q,ho_0r,hI_1358⟩ [0,1,2,3,4])
   ·rintro⟨xt_6,hh_2,o_5,cap_05,sp_07,n_0i⟩ ⟨h,rfl,hs_2z,ho_17,hI_692⟩
    replace h:Fz.k_3 f0 t1 c2 budget3 xt_6=some r:=h
    rw [Fz.k_3] at h
    refine jx_then (jc_seq (jc_seq (jc_region (qh [0] (qe (jx_then (jc_meet (fun(j:(List Int)×(Option Nat)×Nat×(List Value)×Nat)=>match j with | ⟨xs_7,o_01,cap_09,sp_0g,n_0k⟩=>Fz.k_5 f0 t1 c2 budget3 xt_6 xs_7=some r∧(xs_7.length=n_0k)∧(hS o_01 n_0k cap_09 sp_0g 1)∧(hO o_01 xs_7 cap_09)) (fun⟨xs_7,o_01,cap_09,sp_0g,n_0k⟩=> [(8,[],(.slice none 0 0)),(9,[],(vI 0)),(10,[],(vI 0)),(12,[],(vP b_04))]) (fun⟨xs_7,o_01,cap_09,sp_0g,n_0k⟩=> [⟨some A_b,27,[(vH f0.fSteps),(.slice C_a f0.fHammers.length C_c)]⟩,⟨some b_00,33,[(vH c2.fAway),(vH c2.fOctave),(vH c2.fStep)]⟩,⟨some b_04,213,[(vP A_b),(.slice D_a t1.length D_c),(vH c2.fAway),(vH c2.fOctave),(vH c2.fStep),(.slice (mB o_5) hh_2.length cap_05),(.slice (mB o_01) n_0k cap_09),(vI budget3),(vI 0),(.bool false),(.slice none 0 0),(vI 0)]⟩,⟨o_5,35,row encHd hh_2 sp_07⟩,⟨none,CLU,cluC encGChoice hh_2 xt_6⟩,⟨o_01,2,row encI64 xs_7 sp_0g⟩]) ?_ ?_)))))))
    ·refine jc_block ?_
     obtain⟨t_0o,ht_21,hr_22⟩:=bd h
     refine jc_ghost 2 encI64 (jl (fun(s:(List Int)×Int) (x:(Option Nat)×Nat×(List Value)×Nat)=>match s,x with | ⟨xs_1,i_02⟩,⟨o_0a,cap_0d,sp_0f,n_0l⟩=>(xs_1.length=n_0l)∧(hS o_0a n_0l cap_0d sp_0f 1)∧(hO o_0a xs_1 cap_0d)) (fun⟨xs_1,i_02⟩ ⟨o_0a,cap_0d,sp_0f,n_0l⟩=> [(0,[],(vP A_b)),(1,[],(.slice D_a t1.length D_c)),(6,[],(vP b_00)),(8,[],(.slice none 0 0)),(9,[],(vI 0)),(10,[],(vI 0)),(12,[],(vP b_04)),(14,[],(vI i_02))]) (fun⟨xs_1,i_02⟩ ⟨o_0a,cap_0d,sp_0f,n_0l⟩=> [⟨some A_b,27,[(vH f0.fSteps),(.slice C_a f0.fHammers.length C_c)]⟩,⟨some b_00,33,[(vH c2.fAway),(vH c2.fOctave),(vH c2.fStep)]⟩,⟨some b_04,213,[(vP A_b),(.slice D_a t1.length D_c),(vH c2.fAway),(vH c2.fOctave),(vH c2.fStep),(.slice (mB o_5) hh_2.length cap_05),(.slice (mB o_0a) n_0l cap_0d),(vI budget3),(vI 0),(.bool false),(.slice none 0 0),(vI 0)]⟩,⟨o_5,35,row encHd hh_2 sp_07⟩,⟨none,CLU,cluC encGChoice hh_2 xt_6⟩,⟨o_0a,2,row encI64 xs_1 sp_0f⟩]) ht_21 ⟨none,0,[],0⟩ ⟨rfl,(fun e=>absurd rfl e),(fun _=>⟨rfl,rfl⟩)⟩ [0,1,2,3,4,5] ?_)
     rintro⟨xs_1,i_02⟩ ⟨o_0a,cap_0d,sp_0f,n_0l⟩ y_30 ⟨rfl,hs_0s,ho_0t⟩ h
     rw [Fz.l_10] at h
     refine jc_seq (jc_seq (jc_region (qh [0,0,0,0] (qe (jx_then (qi h (fun h=> ?_) (fun h=> ?_)))))))
     ·refine jc_skip (jx_then (jc_seq (jc_block (qg [⟨some A_b,27,[(vH f0.fSteps),(.slice C_a f0.fHammers.length C_c)]⟩,⟨some b_00,33,[(vH c2.fAway),(vH c2.fOctave),(vH c2.fStep)]⟩,⟨o_5,35,row encHd hh_2 sp_07⟩,⟨none,CLU,cluC encGChoice hh_2 xt_6⟩] 15 (qd [⟨0,0,0⟩,⟨1,0,0⟩,⟨2,0,0⟩,⟨3,0,0⟩,⟨5,0,0⟩,⟨6,0,0⟩,⟨7,1,0⟩,⟨8,0,0⟩] 7 [0,1,3,4] (t2 4 9 ?_ ?_))))))
      ·refine qs 0 [2] (kD [0,1,3,4] ?_)
       obtain⟨t_9,ht_23,h⟩:=bd h
       refine tD 9 (pc 0 (fun w hm=>Fah.calls f0 t1 c2 i_02 w _ C_c (hm.exRowW C_h C_ha) rfl D_c (hm.exRowW D_h D_ha) rfl A_b (hm.ps [0]) (hm.xp C_h C_ha [0]) (hm.xp D_h D_ha [0]) ht_23) ?_)
       rintro w v w' hm ⟨rfl,hm'⟩
       refine⟨_,hm.appW (ps:= [(0,⟨some A_b,27,[(vH f0.fSteps),(.slice C_a f0.fHammers.length C_c)]⟩)]) (N:= []) hm' (by kernel_rfl) (by kernel_rfl),kD [0,1,3,4] ?_⟩
       clear hm hm'
       refine tD 10 (qa 0 (fun b_18=>kD [0,1,3,4] ?_))
       obtain⟨hg_24,h⟩:=gd h
       exact tD 11 (pA 0 5 o_0a 2 xs_1.length 1 cap_0d 1 8 (sB b_18) encI64 xs_1 ([t_9]:List Int) sp_0f (vI 0) rfl rfl encI64_len encI64_cell hs_0s ho_0t (fun w hm=>(hm.ow 6 (some b_18) 2 ([t_9]:List Int) [] (fun e=>nomatch e) encI64_len)) hg_24 (fun o_25 cap_26 sp_27 hs_28 ho_29=>kD [0,1,3,4] (qd [⟨12,0,0⟩,⟨13,0,0⟩] 1 [0,1,3,4] (tD 14 (qs 0 [2] (kD [0,1,3,4] (qz (jx_inn (jx_then (jc_region (qh [0,0,0] (qe (qb ((xs_1++([t_9]:List Int)),(w64 (i_02+1))) ⟨o_25,cap_26,sp_27,(xs_1++([t_9]:List Int)).length⟩ h ⟨rfl,hs_28,ho_29⟩ [0,1,2,3,4,5])))))))))))))
      ·obtain⟨t_9,ht_2a,h⟩:=bd h
       refine pc 0 (fun w hm=>Fah.calls f0 t1 c2 i_02 w _ C_c (hm.exRowW C_h C_ha) rfl D_c (hm.exRowW D_h D_ha) rfl A_b (hm.ps [0]) (hm.xp C_h C_ha [0]) (hm.xp D_h D_ha [0]) ht_2a) ?_
       rintro w v w' hm ⟨rfl,hm'⟩
       refine⟨_,hm.appW (ps:= [(0,⟨some A_b,27,[(vH f0.fSteps),(.slice C_a f0.fHammers.length C_c)]⟩)]) (N:= []) hm' (by kernel_rfl) (by kernel_rfl),kD [0,1,3,4] ?_⟩
       clear hm hm'
       refine t2 4 10 ?_ ?_
       ·refine qs 0 [2] (kD [0,1,3,4] (tD 10 (qa 0 (fun b_19=>kD [0,1,3,4] ?_))))
        obtain⟨hg_2b,h⟩:=gd h
        exact tD 11 (pA 0 5 o_0a 2 xs_1.length 1 cap_0d 1 8 (sB b_19) encI64 xs_1 ([t_9]:List Int) sp_0f (vI 0) rfl rfl encI64_len encI64_cell hs_0s ho_0t (fun w hm=>(hm.ow 6 (some b_19) 2 ([t_9]:List Int) [] (fun e=>nomatch e) encI64_len)) hg_2b (fun o_2c cap_2d sp_2e hs_2f ho_2g=>kD [0,1,3,4] (qd [⟨12,0,0⟩,⟨13,0,0⟩] 1 [0,1,3,4] (tD 14 (qs 0 [2] (kD [0,1,3,4] (qz (jx_inn (jx_then (jc_region (qh [0,0,0] (qe (qb ((xs_1++([t_9]:List Int)),(w64 (i_02+1))) ⟨o_2c,cap_2d,sp_2e,(xs_1++([t_9]:List Int)).length⟩ h ⟨rfl,hs_2f,ho_2g⟩ [0,1,2,3,4,5])))))))))))))
       ·refine qa 0 (fun b_1a=>kD [0,1,3,4] (tD 4 (qs 0 [2] (kD [0,1,3,4] ?_))))
        obtain⟨hg_2h,h⟩:=gd h
        exact tD 11 (pA 0 5 o_0a 2 xs_1.length 1 cap_0d 1 8 (sB b_1a) encI64 xs_1 ([t_9]:List Int) sp_0f (vI 0) rfl rfl encI64_len encI64_cell hs_0s ho_0t (fun w hm=>(hm.ow 6 (some b_1a) 2 ([t_9]:List Int) [] (fun e=>nomatch e) encI64_len)) hg_2h (fun o_2i cap_2j sp_2k hs_2l ho_2m=>kD [0,1,3,4] (qd [⟨12,0,0⟩,⟨13,0,0⟩] 1 [0,1,3,4] (tD 14 (qs 0 [2] (kD [0,1,3,4] (qz (jx_inn (jx_then (jc_region (qh [0,0,0] (qe (qb ((xs_1++([t_9]:List Int)),(w64 (i_02+1))) ⟨o_2i,cap_2j,sp_2k,(xs_1++([t_9]:List Int)).length⟩ h ⟨rfl,hs_2l,ho_2m⟩ [0,1,2,3,4,5])))))))))))))
     ·refine jc_exit (jx_thenx (jx_leave xs_1 (sj h) (fun e_2n=> ?_)))
      subst e_2n
      exact jx_ine (qm ⟨xs_1,o_0a,cap_0d,sp_0f,xs_1.length⟩ ⟨hr_22,rfl,hs_0s,ho_0t⟩ [0,1,2,3,4,5])
    ·rintro⟨xs_7,o_01,cap_09,sp_0g,n_0k⟩ ⟨h,rfl,hs_31,ho_1b⟩
     replace h:Fz.k_5 f0 t1 c2 budget3 xt_6 xs_7=some r:=h
     rw [Fz.k_5] at h
     refine jx_then (jc_seq (jc_seq (jc_region (qh [0,0] (tO (qa 0 (fun b_0w=>jkO ?_)))))))
     obtain⟨t_4,ht_2o,h⟩:=bd h
     refine tO (jp_ghost 104 encGChoice (pc 0 (fun w hm=>Fv.calls (⟨f0,t1,c2,xt_6,xs_7,budget3,0,false,([]:List GChoice),0⟩:Gl07Search) (Arr.rep 96 0) ([]:List GChoice) 0 w _ C_c (hm.exRowW C_h C_ha) rfl D_c (hm.exRowW D_h D_ha) rfl cap_05 (hm.ow 3 o_5 35 hh_2 sp_07 (fun e=>(ho_17 e).1) encHd_len) (hI_692.1.symm.trans rfl) cap_09 (hm.ow 5 o_01 2 xs_7 sp_0g (fun e=>(ho_1b e).1) encI64_len) rfl 0 rfl 0 (hm.ow 6 (some b_0w) 104 ([]:List GChoice) [] (fun e=>nomatch e) encGChoice_len) rfl b_04 A_b (hm.ps (N:= [⟨some b_04,213,[(vP A_b),(.slice D_a t1.length D_c),(vH c2.fAway),(vH c2.fOctave),(vH c2.fStep),(.slice (mB o_5) hh_2.length cap_05),(.slice (mB o_01) xs_7.length cap_09),(vI budget3),(vI 0),(.bool false),(.slice ((none:Option Nat).map fun b=>⟨b,0,none⟩) 0 0),(vI 0)]⟩,⟨some A_b,27,[(vH f0.fSteps),(.slice C_a f0.fHammers.length C_c)]⟩]) [2,0]) (hm.xp C_h C_ha [2,0]) (hm.xp D_h D_ha [2,0]) (hm.oa 3 o_5 (fun e=>(ho_17 e).1) [2,0]) (hm.cluPass (N:= [⟨some b_04,213,[(vP A_b),(.slice D_a t1.length D_c),(vH c2.fAway),(vH c2.fOctave),(vH c2.fStep),(.slice (mB o_5) hh_2.length cap_05),(.slice (mB o_01) xs_7.length cap_09),(vI budget3),(vI 0),(.bool false),(.slice ((none:Option Nat).map fun b=>⟨b,0,none⟩) 0 0),(vI 0)]⟩,⟨some A_b,27,[(vH f0.fSteps),(.slice C_a f0.fHammers.length C_c)]⟩]) 4 hI_692 encGChoice_len [2,0]) (hm.oa 5 o_01 (fun e=>(ho_1b e).1) [2,0]) (hm.oa 6 (some b_0w) (fun e=>nomatch e) [2,0]) ht_2o) ?_))
     rintro w v w' hm ⟨o_2p,a_11,cap_0x,sp_2q,_,rfl,hl_2r,rfl,hm'⟩
     obtain⟨o_0n,sp_0y,hl_2s,hM_1085⟩:=Mem.ls3 (T:=104) (enc:=encGChoice) (o1:=(none:Option Nat)) (sp1:= []) (xs1:=([]:List GChoice)) (o:=o_2p) (sp:=sp_2q) (xs:=t_4.2.fbest) (F:= []) (o2:=(some b_0w)) (sp2:= []) (xs2:=([]:List GChoice)) (hm.aw [2,0] hm') 7 6 8 (by kernel_rfl) (by kernel_rfl) (by kernel_rfl) (by kernel_rfl) (lsO (fun e=>absurd rfl e) (fun _=>⟨rfl,rfl⟩)) rfl (fun _=>⟨Nat.le_refl _,by simp⟩) (fun e=>nomatch e) rfl rfl hl_2r
     obtain⟨rfl,hs_2t,ho_2u⟩:=hl_2s.own
     refine⟨_,Mem.pick hM_1085 (N:= [⟨some A_b,27,[(vH f0.fSteps),(.slice C_a f0.fHammers.length C_c)]⟩,⟨some b_00,33,[(vH c2.fAway),(vH c2.fOctave),(vH c2.fStep)]⟩,⟨some b_04,213,[(vP A_b),(.slice D_a t1.length D_c),(vH t_4.2.fc.fAway),(vH t_4.2.fc.fOctave),(vH t_4.2.fc.fStep),(.slice (mB o_5) hh_2.length cap_05),(.slice (mB o_01) xs_7.length cap_09),(vI t_4.2.fbudget),(vI t_4.2.flooks),(.bool t_4.2.ffound),(.slice (mB o_0n) t_4.2.fbest.length cap_0x),(vI t_4.2.fleast)]⟩,⟨o_5,35,row encHd hh_2 sp_07⟩,⟨none,CLU,cluC encGChoice hh_2 xt_6⟩,⟨o_01,2,row encI64 xs_7 sp_0g⟩,⟨none,0,[]⟩,⟨o_0n,104,row encGChoice t_4.2.fbest sp_0y⟩]) [0,1,2,3,4,5,6,7] (by kernel_rfl) (by kernel_rfl),jkO ?_⟩
     clear hm hm' hM_1085
     refine qh [0] (qe (jx_then (qi h (fun h=> ?_) (fun h=> ?_))))
     ·refine jc_seq (jc_region (tO (qa 0 (fun b_2v=>jkO (qh [0,0,0] (qe (jx_then (jc_ret (jx_thenr ?_)))))))))
      obtain rfl:=si h
      exact qr [] (fun w hm=>⟨(some b_2v),0,[],0,rfl,(fun _=>⟨Nat.le_refl _,by simp⟩),(fun e=>nomatch e),rfl,hm.pk [0,8]⟩)
     ·refine jc_skip (jx_then (jc_seq (qg [⟨some A_b,27,[(vH f0.fSteps),(.slice C_a f0.fHammers.length C_c)]⟩,⟨some b_00,33,[(vH c2.fAway),(vH c2.fOctave),(vH c2.fStep)]⟩,⟨some b_04,213,[(vP A_b),(.slice D_a t1.length D_c),(vH t_4.2.fc.fAway),(vH t_4.2.fc.fOctave),(vH t_4.2.fc.fStep),(.slice (mB o_5) hh_2.length cap_05),(.slice (mB o_01) xs_7.length cap_09),(vI t_4.2.fbudget),(vI t_4.2.flooks),(.bool t_4.2.ffound),(.slice (mB o_0n) t_4.2.fbest.length cap_0x),(vI t_4.2.fleast)]⟩,⟨o_5,35,row encHd hh_2 sp_07⟩,⟨none,CLU,cluC encGChoice hh_2 xt_6⟩,⟨o_01,2,row encI64 xs_7 sp_0g⟩,⟨none,0,[]⟩,⟨o_0n,104,row encGChoice t_4.2.fbest sp_0y⟩] 11 (qd [⟨0,0,0⟩,⟨1,0,0⟩,⟨2,0,0⟩,⟨3,2,0⟩,⟨4,0,0⟩,⟨5,0,0⟩,⟨6,0,0⟩,⟨7,2,0⟩,⟨8,0,0⟩,⟨9,0,0⟩,⟨10,0,0⟩] 0 [0,1,2,3,4,5,6,7] (qz (jx_then (jc_ret ?_)))))))
      obtain rfl:=si h
      exact qr [] (fun w hm=>⟨o_0n,cap_0x,sp_0y,t_4.2.fbest.length,rfl,hs_2t,ho_2u,rfl,hm.pk [0,7]⟩)
def FbI(f0:GFrame)(t1:List GNote)(c2:GCosts)(budget3:Int):Option ((List GChoice)×Int×Int):=(Fz f0 t1 c2 budget3).bind fun t_0=>some (t_0.1,t_0.2.1,t_0.2.2)
theorem FbI.calls(f0:GFrame)(t1:List GNote)(c2:GCosts)(budget3:Int)(w:World)(r:(List GChoice)×Int×Int){C_a:Option Addr}{C_an:Nat}(C_c:Nat)(C_h:Rw w C_a 2 encGHammer f0.fHammers)(C_hn:f0.fHammers.length=C_an){D_a:Option Addr}{D_an:Nat}(D_c:Nat)(D_h:Rw w D_a 2 encGNote t1)(D_hn:t1.length=D_an)(h:FbI f0 t1 c2 budget3=some r):
   Calls Tryz.prog 22 #[(.agg #[(vH f0.fSteps),(.slice C_a C_an C_c)]),(.slice D_a D_an D_c),(.agg #[(vH c2.fAway),(vH c2.fOctave),(vH c2.fStep)]),(vI budget3)] w fun e w'=>∃v,e= .returned v∧(∃(o0:Option Nat) (c0:Nat) (s0:List Value) (n0:Nat),r.1.length=n0∧(hS o0 n0 c0 s0 4)∧(hO o0 r.1 c0)∧v= .tuple #[.slice (mB o0) n0 c0,(vI r.2.1),(vI r.2.2)]∧Mem w [] [⟨o0,104,row encGChoice r.1 s0⟩] w'):=by
 subst C_hn D_hn
 rw [FbI] at h
 refine en Tryz.func22 rfl Tryz.ntmps22 (jc_seq (jc_region (tO (qa 0 (fun b_0=>jkO (tO (qa 0 (fun b_7=>jkO (qh [0,0,0] (qe (jx_then (jc_seq (jc_region (qh [0,1,0] ?_))))))))))))))
 obtain⟨t_0,ht_3,h⟩:=bd h
 refine tO (pc 0 (fun w hm=>Fz.calls f0 t1 c2 budget3 w _ C_c (hm.xr C_h) rfl D_c (hm.xr D_h) rfl b_0 (hm.ps [0]) (hm.xp C_h (fun _=>List.not_mem_nil) [0]) (hm.xp D_h (fun _=>List.not_mem_nil) [0]) ht_3) ?_)
 rintro w v w' hm ⟨o_1,cap_4,sp_2,_,rfl,hs_5,ho_6,rfl,hm'⟩
 refine⟨_,hm.appW (ps:= [(0,⟨some b_0,27,[(vH f0.fSteps),(.slice C_a f0.fHammers.length C_c)]⟩)]) (N:= [⟨o_1,104,row encGChoice t_0.1 sp_2⟩]) hm' (by kernel_rfl) (by kernel_rfl),jkO ?_⟩
 clear hm hm'
 refine qh [0,0,0,0,0,0] (qe (jx_then (jc_ret ?_)))
 obtain rfl:=si h
 exact qr [] (fun w hm=>⟨o_1,cap_4,sp_2,t_0.1.length,rfl,hs_5,ho_6,rfl,hm.pk [2]⟩)
def Fa3(f0:GFrame)(t1:List GNote)(list2:List GChoice):Option (Bool×Int):=(Fbr f0 t1 list2).bind fun t_0=>(if(t_0.2.2==1)=true then some (false,t_0.2.2) else some ((t_0.2.2==0),0))
theorem Fa3.calls(f0:GFrame)(t1:List GNote)(list2:List GChoice)(w:World)(r:Bool×Int){C_a:Option Addr}{C_an:Nat}(C_c:Nat)(C_h:Rw w C_a 2 encGHammer f0.fHammers)(C_hn:f0.fHammers.length=C_an){D_a:Option Addr}{D_an:Nat}(D_c:Nat)(D_h:Rw w D_a 2 encGNote t1)(D_hn:t1.length=D_an){E_a:Option Addr}{E_an:Nat}(E_c:Nat)(E_h:Rw w E_a 4 encGChoice list2)(E_hn:list2.length=E_an)(h:Fa3 f0 t1 list2=some r):
   Calls Tryz.prog 23 #[(.agg #[(vH f0.fSteps),(.slice C_a C_an C_c)]),(.slice D_a D_an D_c),(.slice E_a E_an E_c)] w fun e w'=>∃v,e= .returned v∧(v= .tuple #[(.bool r.1),(vI r.2)]∧Mem w [] [] w'):=by
 subst C_hn D_hn E_hn
 rw [Fa3] at h
 refine en Tryz.func23 rfl Tryz.ntmps23 (jc_seq (jc_region (tO (qa 0 (fun b_0=>jkO (qh [0,0] (qe (jx_then (jc_seq (jc_region (qh [0,0,0] ?_)))))))))))
 obtain⟨t_0,ht_1,h⟩:=bd h
 refine tO (pq 0 (fun w hm=>Fbr.calls f0 t1 list2 w _ C_c (hm.xr C_h) rfl D_c (hm.xr D_h) rfl E_c (hm.xr E_h) rfl ht_1) (jkO (qh [0,0,0,0] (tO (qa 0 (fun b_2=>jkO (tO (pS 0 1 b_2 96 1 40 encU32 (Arr.rep 96 0) t_0.1 encU32_len encU32_cell (jkO (qh [0,0] (qe (jx_then (jc_seq (jc_seq (jc_region (qh [0,0] (qe (jx_then (qi h (fun h=> ?_) (fun h=> ?_))))))))))))))))))))
 ·refine jc_seq (jc_region (qh [0,0,0] (qe (jx_then (jc_ret (jx_thenr ?_))))))
  obtain rfl:=si h
  exact qr [] (fun w hm=>⟨rfl,hm.pk []⟩)
 ·refine jc_skip (jx_then (jc_seq (jc_region (qh [0,0,0,0] (qe (jx_then (jc_ret ?_)))))))
  obtain rfl:=si h
  exact qr [] (fun w hm=>⟨rfl,hm.pk []⟩)
def F0.k_6(s0:Gl00Src)(t_0:Int×Gl00Src)(i_2:Int)(i_9:Int)(xs_5:List GHammer):Option (GFrame×Gl00Src):=some ((⟨(w16 (w64 (4+t_0.1))),xs_5⟩:GFrame),(⟨s0.fcode,i_2,i_9⟩:Gl00Src))
def F0.l_11(s0:Gl00Src):(Int×Int×(List GHammer)×Int)→Option ((Int×Int×(List GHammer)×Int)⊕((Int×Int×(List GHammer))))
 | (i_6,i_7,xs_1,i_00)=>(if(decide (i_00>0))=true then(Fo (⟨s0.fcode,i_6,i_7⟩:Gl00Src) 4).bind fun t_3=>(Fo (⟨s0.fcode,t_3.2.fat,t_3.2.fseed⟩:Gl00Src) 4).bind fun t_4=>(if xs_1.length+([(⟨(w8 (w64 (22+t_3.1))),(w8 (w64 (1+t_4.1)))⟩:GHammer)]:List GHammer).length≤4294967296 then some (.inl (t_4.2.fat,t_4.2.fseed,(xs_1++([(⟨(w8 (w64 (22+t_3.1))),(w8 (w64 (1+t_4.1)))⟩:GHammer)]:List GHammer)),(w64 (i_00-1)))) else none) else some (.inr (i_6,i_7,xs_1)))
def F0(s0:Gl00Src):Option (GFrame×Gl00Src):=(Fo s0 14).bind fun t_0=>(Fo (⟨s0.fcode,t_0.2.fat,t_0.2.fseed⟩:Gl00Src) 5).bind fun t_01=>(loop (F0.l_11 s0) (t_01.2.fat,t_01.2.fseed,[],(w64 (1+t_01.1)))).bind fun t_09=>F0.k_6 s0 t_0 t_09.1 t_09.2.1 t_09.2.2
theorem F0.calls(s0:Gl00Src)(w:World)(r:GFrame×Gl00Src){B_a:Option Addr}{B_an:Nat}(B_c:Nat)(B_h:Rw w B_a 1 encU8 s0.fcode)(B_hn:s0.fcode.length=B_an)(A_b:Nat)(hm0:Mem w (bs [some A_b]) [⟨some A_b,179,[(.slice B_a B_an B_c),(vI s0.fat),(.int .u64 s0.fseed)]⟩] w)(B_ha:s0.fcode≠ []→aB B_a∉bs [some A_b])(h:F0 s0=some r):
   Calls Tryz.prog 92 #[(vP A_b)] w fun e w'=>∃v,e= .returned v∧(∃(o0:Option Nat) (c0:Nat) (s0:List Value) (n0:Nat),r.1.fHammers.length=n0∧(hS o0 n0 c0 s0 2)∧(hO o0 r.1.fHammers c0)∧v= .agg #[(vH r.1.fSteps), .slice (mB o0) n0 c0]∧Mem w (bs [some A_b]) [⟨some A_b,179,[(.slice B_a B_an B_c),(vI r.2.fat),(.int .u64 r.2.fseed)]⟩,⟨o0,132,row encGHammer r.1.fHammers s0⟩] w'):=by
 subst B_hn
 rw [F0] at h
 refine enter (args:= [(vP A_b)]) Tryz.func92 rfl Tryz.ntmps92 (by kernel_rfl) (L:= [⟨some A_b,179,[(.slice B_a s0.fcode.length B_c),(vI s0.fat),(.int .u64 s0.fseed)]⟩]) (W:=bs [some A_b]) hm0 (jc_seq (jc_region (tO (qa 0 (fun b_0=>jkO (qe (jx_then (jc_seq (jc_region (qh [0] ?_))))))))))
 obtain⟨t_0,ht_01,h⟩:=bd h
 refine tO (pc 0 (fun w hm=>Fo.calls s0 14 w _ B_c (hm.exRowW B_h B_ha) rfl A_b (hm.ps [0]) (hm.xp B_h B_ha [0]) ht_01) ?_)
 rintro w v w' hm ⟨rfl,hm'⟩
 refine⟨_,hm.appW (ps:= [(0,⟨some A_b,179,[(.slice B_a s0.fcode.length B_c),(vI t_0.2.fat),(.int .u64 t_0.2.fseed)]⟩)]) (N:= []) hm' (by kernel_rfl) (by kernel_rfl),jkO ?_⟩
 clear hm hm'
 refine qh [0,0,0] (tO (qa 0 (fun b_2=>jkO (tO (qs 0 [2] (jkO (qe (jx_then (jc_seq (jc_seq (jc_region (qh [0] ?_))))))))))))
 obtain⟨t_01,ht_0d,h⟩:=bd h
 refine tO (pc 0 (fun w hm=>Fo.calls (⟨s0.fcode,t_0.2.fat,t_0.2.fseed⟩:Gl00Src) 5 w _ B_c (hm.exRowW B_h B_ha) rfl A_b (hm.ps [0]) (hm.xp B_h B_ha [0]) ht_0d) ?_)
 rintro w v w' hm ⟨rfl,hm'⟩
 refine⟨_,hm.appW (ps:= [(0,⟨some A_b,179,[(.slice B_a s0.fcode.length B_c),(vI t_01.2.fat),(.int .u64 t_01.2.fseed)]⟩)]) (N:= []) hm' (by kernel_rfl) (by kernel_rfl),jkO ?_⟩
 clear hm hm'
 refine qh [0,0] (qe (jx_then (jc_meet (fun(j:Int×Int×(List GHammer)×(Option Nat)×Nat×(List Value)×Nat)=>match j with | ⟨i_2,i_9,xs_5,o_02,cap_04,sp_06,n_07⟩=>F0.k_6 s0 t_0 i_2 i_9 xs_5=some r∧(xs_5.length=n_07)∧(hS o_02 n_07 cap_04 sp_06 2)∧(hO o_02 xs_5 cap_04)) (fun⟨i_2,i_9,xs_5,o_02,cap_04,sp_06,n_07⟩=> [(2,[],(vP b_0)),(3,[],(vP b_2))]) (fun⟨i_2,i_9,xs_5,o_02,cap_04,sp_06,n_07⟩=> [⟨some A_b,179,[(.slice B_a s0.fcode.length B_c),(vI i_2),(.int .u64 i_9)]⟩,⟨some b_0,27,[(vH 0),(.slice none 0 0)]⟩,⟨some b_2,27,[(vH (w16 (w64 (4+t_0.1)))),(.slice (mB o_02) n_07 cap_04)]⟩,⟨o_02,132,row encGHammer xs_5 sp_06⟩]) ?_ ?_)))
 ·refine jc_block ?_
  obtain⟨t_09,ht_0e,hr_0f⟩:=bd h
  refine jc_ghost 132 encGHammer (jl (fun(s:Int×Int×(List GHammer)×Int) (x:(Option Nat)×Nat×(List Value)×Nat)=>match s,x with | ⟨i_6,i_7,xs_1,i_00⟩,⟨o_8,cap_03,sp_05,n_08⟩=>(xs_1.length=n_08)∧(hS o_8 n_08 cap_03 sp_05 2)∧(hO o_8 xs_1 cap_03)) (fun⟨i_6,i_7,xs_1,i_00⟩ ⟨o_8,cap_03,sp_05,n_08⟩=> [(0,[],(vP A_b)),(2,[],(vP b_0)),(3,[],(vP b_2)),(4,[],(vI i_00))]) (fun⟨i_6,i_7,xs_1,i_00⟩ ⟨o_8,cap_03,sp_05,n_08⟩=> [⟨some A_b,179,[(.slice B_a s0.fcode.length B_c),(vI i_6),(.int .u64 i_7)]⟩,⟨some b_0,27,[(vH 0),(.slice none 0 0)]⟩,⟨some b_2,27,[(vH (w16 (w64 (4+t_0.1)))),(.slice (mB o_8) n_08 cap_03)]⟩,⟨o_8,132,row encGHammer xs_1 sp_05⟩]) ht_0e ⟨none,0,[],0⟩ ⟨rfl,(fun e=>absurd rfl e),(fun _=>⟨rfl,rfl⟩)⟩ [0,1,2,3] ?_)
  rintro⟨i_6,i_7,xs_1,i_00⟩ ⟨o_8,cap_03,sp_05,n_08⟩ y_0r ⟨rfl,hs_0a,ho_0b⟩ h
  rw [F0.l_11] at h
  refine jc_seq (jc_seq (jc_region (qh [0,0] (qe (jx_then (qi h (fun h=> ?_) (fun h=> ?_)))))))
  ·refine jc_skip (jx_then (jc_seq (jc_block (jc_seq (jc_region (qh [0] ?_))))))
   obtain⟨t_3,ht_0g,h⟩:=bd h
   refine tO (pc 0 (fun w hm=>Fo.calls (⟨s0.fcode,i_6,i_7⟩:Gl00Src) 4 w _ B_c (hm.exRowW B_h B_ha) rfl A_b (hm.ps [0]) (hm.xp B_h B_ha [0]) ht_0g) ?_)
   rintro w v w' hm ⟨rfl,hm'⟩
   refine⟨_,hm.appW (ps:= [(0,⟨some A_b,179,[(.slice B_a s0.fcode.length B_c),(vI t_3.2.fat),(.int .u64 t_3.2.fseed)]⟩)]) (N:= []) hm' (by kernel_rfl) (by kernel_rfl),jkO ?_⟩
   clear hm hm'
   refine qh [0,0,0] (tO (qa 0 (fun b_0s=>jkO (tO (qs 0 [4] (jkO (qe (jx_then (jc_seq (jc_region (qh [0] ?_)))))))))))
   obtain⟨t_4,ht_0h,h⟩:=bd h
   refine tO (pc 0 (fun w hm=>Fo.calls (⟨s0.fcode,t_3.2.fat,t_3.2.fseed⟩:Gl00Src) 4 w _ B_c (hm.exRowW B_h B_ha) rfl A_b (hm.ps [0]) (hm.xp B_h B_ha [0]) ht_0h) ?_)
   rintro w v w' hm ⟨rfl,hm'⟩
   refine⟨_,hm.appW (ps:= [(0,⟨some A_b,179,[(.slice B_a s0.fcode.length B_c),(vI t_4.2.fat),(.int .u64 t_4.2.fseed)]⟩)]) (N:= []) hm' (by kernel_rfl) (by kernel_rfl),jkO ?_⟩
   clear hm hm'
   refine qh [0,0,0] (tO (qs 0 [4] (jkO (qe (jx_then (jc_region (qh [0,2,4] (tO (qa 0 (fun b_0c=>jkO ?_))))))))))
   obtain⟨hg_0i,h⟩:=gd h
   exact tO (pA 0 3 o_8 132 xs_1.length 1 cap_03 2 2 (sB b_0c) encGHammer xs_1 ([(⟨(w8 (w64 (22+t_3.1))),(w8 (w64 (1+t_4.1)))⟩:GHammer)]:List GHammer) sp_05 (.agg #[(vB 0),(vB 0)]) rfl rfl encGHammer_len encGHammer_cell hs_0a ho_0b (fun w hm=>(hm.ow 5 (some b_0c) 132 ([(⟨(w8 (w64 (22+t_3.1))),(w8 (w64 (1+t_4.1)))⟩:GHammer)]:List GHammer) [] (fun e=>nomatch e) encGHammer_len)) hg_0i (fun o_0j cap_0k sp_0l hs_0m ho_0n=>jkO (qh [0] (tO (qs 0 [2] (jkO (qe (jx_inn (jx_then (jc_region (qh [0,0,0] (qe (qb (t_4.2.fat,t_4.2.fseed,(xs_1++([(⟨(w8 (w64 (22+t_3.1))),(w8 (w64 (1+t_4.1)))⟩:GHammer)]:List GHammer)),(w64 (i_00-1))) ⟨o_0j,cap_0k,sp_0l,(xs_1++([(⟨(w8 (w64 (22+t_3.1))),(w8 (w64 (1+t_4.1)))⟩:GHammer)]:List GHammer)).length⟩ h ⟨rfl,hs_0m,ho_0n⟩ [0,1,2,3])))))))))))))
  ·refine jc_exit (jx_thenx (jx_leave (i_6,i_7,xs_1) (sj h) (fun e_0o=> ?_)))
   subst e_0o
   exact jx_ine (qm ⟨i_6,i_7,xs_1,o_8,cap_03,sp_05,xs_1.length⟩ ⟨hr_0f,rfl,hs_0a,ho_0b⟩ [0,1,2,3])
 ·rintro⟨i_2,i_9,xs_5,o_02,cap_04,sp_06,n_07⟩ ⟨h,rfl,hs_0p,ho_0q⟩
  replace h:F0.k_6 s0 t_0 i_2 i_9 xs_5=some r:=h
  rw [F0.k_6] at h
  refine jx_then (jc_seq (jc_region (qh [2] (tO (qs 0 [1] (jkO (qe (jx_then (jc_ret ?_)))))))))
  obtain rfl:=si h
  exact qr [1] (fun w hm=>⟨o_02,cap_04,sp_06,xs_5.length,rfl,hs_0p,ho_0q,rfl,hm.pk [0,3]⟩)
def FbJ(code0:List Int):Option (GFrame):=(FaJ code0).bind fun t_1=>(F0 (⟨code0,t_1.fat,t_1.fseed⟩:Gl00Src)).bind fun t_0=>some t_0.1
theorem FbJ.calls(code0:List Int)(w:World)(r:GFrame){A_a:Option Addr}{A_an:Nat}(A_c:Nat)(A_h:Rw w A_a 1 encU8 code0)(A_hn:code0.length=A_an)(h:FbJ code0=some r):
   Calls Tryz.prog 24 #[(.slice A_a A_an A_c)] w fun e w'=>∃v,e= .returned v∧(∃(o0:Option Nat) (c0:Nat) (s0:List Value) (n0:Nat),r.fHammers.length=n0∧(hS o0 n0 c0 s0 2)∧(hO o0 r.fHammers c0)∧v= .agg #[(vH r.fSteps), .slice (mB o0) n0 c0]∧Mem w [] [⟨o0,132,row encGHammer r.fHammers s0⟩] w'):=by
 subst A_hn
 rw [FbJ] at h
 refine en Tryz.func24 rfl Tryz.ntmps24 (jc_seq (jc_region (tO (qa 0 (fun b_1=>jkO (qe (jx_then (jc_seq (jc_region (qh [0] ?_))))))))))
 obtain⟨t_1,ht_0,h⟩:=bd h
 refine tO (pc 0 (fun w hm=>FaJ.calls code0 w _ A_c (hm.xr A_h) rfl ht_0) ?_)
 rintro w v w' hm ⟨b_2,rfl,hm'⟩
 refine aq hm hm' (jkO ?_)
 obtain⟨t_0,ht_5,h⟩:=bd h
 refine tO (pc 0 (fun w hm=>F0.calls (⟨code0,t_1.fat,t_1.fseed⟩:Gl00Src) w _ A_c (hm.xr A_h) rfl b_2 (hm.ps [1]) (hm.xp A_h (fun _=>List.not_mem_nil) [1]) ht_5) ?_)
 rintro w v w' hm ⟨o_3,cap_6,sp_4,_,rfl,hs_7,ho_8,rfl,hm'⟩
 refine⟨_,hm.appW (ps:= [(1,⟨some b_2,179,[(.slice A_a code0.length A_c),(vI t_0.2.fat),(.int .u64 t_0.2.fseed)]⟩)]) (N:= [⟨o_3,132,row encGHammer t_0.1.fHammers sp_4⟩]) hm' (by kernel_rfl) (by kernel_rfl),jkO ?_⟩
 clear hm hm'
 refine tO (qs 0 [0] (jkO (qe (jx_then (jc_ret ?_)))))
 obtain rfl:=si h
 exact qr [0] (fun w hm=>⟨o_3,cap_6,sp_4,t_0.1.fHammers.length,rfl,hs_7,ho_8,rfl,hm.pk [2]⟩)
def Fbx(s0:Gl00Src)(n1:Int):Option (Bool×Gl00Src):=(Fo s0 n1).bind fun t_0=>some ((t_0.1==0),(⟨s0.fcode,t_0.2.fat,t_0.2.fseed⟩:Gl00Src))
theorem Fbx.calls(s0:Gl00Src)(n1:Int)(w:World)(r:Bool×Gl00Src){B_a:Option Addr}{B_an:Nat}(B_c:Nat)(B_h:Rw w B_a 1 encU8 s0.fcode)(B_hn:s0.fcode.length=B_an)(A_b:Nat)(hm0:Mem w (bs [some A_b]) [⟨some A_b,179,[(.slice B_a B_an B_c),(vI s0.fat),(.int .u64 s0.fseed)]⟩] w)(B_ha:s0.fcode≠ []→aB B_a∉bs [some A_b])(h:Fbx s0 n1=some r):
   Calls Tryz.prog 167 #[(vP A_b),(vI n1)] w fun e w'=>∃v,e= .returned v∧(v=(.bool r.1)∧Mem w (bs [some A_b]) [⟨some A_b,179,[(.slice B_a B_an B_c),(vI r.2.fat),(.int .u64 r.2.fseed)]⟩] w'):=by
 subst B_hn
 rw [Fbx] at h
 refine enter (args:= [(vP A_b),(vI n1)]) Tryz.func167 rfl Tryz.ntmps167 (by kernel_rfl) (L:= [⟨some A_b,179,[(.slice B_a s0.fcode.length B_c),(vI s0.fat),(.int .u64 s0.fseed)]⟩]) (W:=bs [some A_b]) hm0 (jc_seq (jc_region (qh [0] (qe (jx_then (jc_seq (jc_region (qh [0,0] ?_))))))))
 obtain⟨t_0,ht_0,h⟩:=bd h
 refine tO (pc 0 (fun w hm=>Fo.calls s0 n1 w _ B_c (hm.exRowW B_h B_ha) rfl A_b (hm.ps [0]) (hm.xp B_h B_ha [0]) ht_0) ?_)
 rintro w v w' hm ⟨rfl,hm'⟩
 refine⟨_,hm.appW (ps:= [(0,⟨some A_b,179,[(.slice B_a s0.fcode.length B_c),(vI t_0.2.fat),(.int .u64 t_0.2.fseed)]⟩)]) (N:= []) hm' (by kernel_rfl) (by kernel_rfl),jkO ?_⟩
 clear hm hm'
 refine qh [0,0] (qe (jx_then (jc_ret ?_)))
 obtain rfl:=si h
 exact qr [] (fun w hm=>⟨rfl,hm.pk [0]⟩)
def FW.k_6(s0:Gl00Src)(a_6:Arr 96 Int)(i_9:Int)(i_00:Int):Option ((Arr 96 Int)×Gl00Src):=some (a_6,(⟨s0.fcode,i_9,i_00⟩:Gl00Src))
def FW.k_16(a_0:Arr 96 Int)(i_5:Int)(t_4:Int×Gl00Src)(t_1:Int×Gl00Src)(q_01:Bool):Option (((Arr 96 Int)×Int×Int×Int)⊕(((Arr 96 Int)×Int×Int))):=(if q_01=true then(ix a_0.1 t_4.1).bind fun x_02=>(if 0≤(u64 t_1.1) then(ix a_0.1 t_4.1).bind fun x_08=>some (.inl ((Arr.set a_0 t_4.1 (bOr .u32 x_02 (bShl .u32 1 (u64 t_1.1)))),t_1.2.fat,t_1.2.fseed,(w64 (i_5-1)))) else none) else some (.inl (a_0,t_1.2.fat,t_1.2.fseed,(w64 (i_5-1)))))
def FW.l_11(s0:Gl00Src)(f1:GFrame)(t_2:Bool×Gl00Src):((Arr 96 Int)×Int×Int×Int)→Option (((Arr 96 Int)×Int×Int×Int)⊕(((Arr 96 Int)×Int×Int)))
 | (a_0,i_7,i_8,i_5)=>(if(decide (i_5>0))=true then(Fo (⟨s0.fcode,i_7,i_8⟩:Gl00Src) (w64 f1.fSteps)).bind fun t_4=>(Fo (⟨s0.fcode,t_4.2.fat,t_4.2.fseed⟩:Gl00Src) (f1.fHammers.length:Int)).bind fun t_1=>(if t_2.1=true then FW.k_16 a_0 i_5 t_4 t_1 true else(FZ f1 a_0 t_4.1 t_1.1).bind fun t_04=>FW.k_16 a_0 i_5 t_4 t_1 t_04) else some (.inr (a_0,i_7,i_8)))
def FW(s0:Gl00Src)(f1:GFrame):Option ((Arr 96 Int)×Gl00Src):=(Fbx s0 4).bind fun t_2=>(Fo (⟨s0.fcode,t_2.2.fat,t_2.2.fseed⟩:Gl00Src) 12).bind fun t_3=>(loop (FW.l_11 s0 f1 t_2) ((Arr.rep 96 0),t_3.2.fat,t_3.2.fseed,t_3.1)).bind fun t_03=>FW.k_6 s0 t_03.1 t_03.2.1 t_03.2.2
theorem FW.calls(s0:Gl00Src)(f1:GFrame)(w:World)(r:(Arr 96 Int)×Gl00Src){B_a:Option Addr}{B_an:Nat}(B_c:Nat)(B_h:Rw w B_a 1 encU8 s0.fcode)(B_hn:s0.fcode.length=B_an){G_a:Option Addr}{G_an:Nat}(G_c:Nat)(G_h:Rw w G_a 2 encGHammer f1.fHammers)(G_hn:f1.fHammers.length=G_an)(A_b:Nat)(E_b:Nat)(hm0:Mem w (bs [some A_b,some E_b]) [⟨some A_b,179,[(.slice B_a B_an B_c),(vI s0.fat),(.int .u64 s0.fseed)]⟩,⟨some E_b,27,[(vH f1.fSteps),(.slice G_a G_an G_c)]⟩] w)(B_ha:s0.fcode≠ []→aB B_a∉bs [some A_b,some E_b])(G_ha:f1.fHammers≠ []→aB G_a∉bs [some A_b,some E_b])(h:FW s0 f1=some r):
   Calls Tryz.prog 94 #[(vP A_b),(vP E_b)] w fun e w'=>∃v,e= .returned v∧(v=(.agg (row encU32 r.1.1 []).toArray)∧Mem w (bs [some A_b,some E_b]) [⟨some A_b,179,[(.slice B_a B_an B_c),(vI r.2.fat),(.int .u64 r.2.fseed)]⟩,⟨some E_b,27,[(vH f1.fSteps),(.slice G_a G_an G_c)]⟩] w'):=by
 subst B_hn G_hn
 rw [FW] at h
 refine enter (args:= [(vP A_b),(vP E_b)]) Tryz.func94 rfl Tryz.ntmps94 (by kernel_rfl) (L:= [⟨some A_b,179,[(.slice B_a s0.fcode.length B_c),(vI s0.fat),(.int .u64 s0.fseed)]⟩,⟨some E_b,27,[(vH f1.fSteps),(.slice G_a f1.fHammers.length G_c)]⟩]) (W:=bs [some A_b,some E_b]) hm0 (jc_seq (jc_region (tO (qa 0 (fun b_2=>jkO (qe (jx_then (jc_seq (jc_region (qh [0] (tO (qa 0 (fun b_3=>jkO (tO (pS 0 3 b_3 96 1 40 encU32 (Arr.rep 96 0) (Arr.rep 96 0) encU32_len encU32_cell (jkO (qe (jx_then (jc_seq (jc_region (qh [0] ?_)))))))))))))))))))))
 obtain⟨t_2,ht_6,h⟩:=bd h
 refine tO (pc 0 (fun w hm=>Fbx.calls s0 4 w _ B_c (hm.exRowW B_h B_ha) rfl A_b (hm.ps [0]) (hm.xp B_h B_ha [0]) ht_6) ?_)
 rintro w v w' hm ⟨rfl,hm'⟩
 refine⟨_,hm.appW (ps:= [(0,⟨some A_b,179,[(.slice B_a s0.fcode.length B_c),(vI t_2.2.fat),(.int .u64 t_2.2.fseed)]⟩)]) (N:= []) hm' (by kernel_rfl) (by kernel_rfl),jkO ?_⟩
 clear hm hm'
 refine qh [0] (qe (jx_then (jc_seq (jc_seq (jc_region (qh [0] ?_))))))
 obtain⟨t_3,ht_09,h⟩:=bd h
 refine tO (pc 0 (fun w hm=>Fo.calls (⟨s0.fcode,t_2.2.fat,t_2.2.fseed⟩:Gl00Src) 12 w _ B_c (hm.exRowW B_h B_ha) rfl A_b (hm.ps [0]) (hm.xp B_h B_ha [0]) ht_09) ?_)
 rintro w v w' hm ⟨rfl,hm'⟩
 refine⟨_,hm.appW (ps:= [(0,⟨some A_b,179,[(.slice B_a s0.fcode.length B_c),(vI t_3.2.fat),(.int .u64 t_3.2.fseed)]⟩)]) (N:= []) hm' (by kernel_rfl) (by kernel_rfl),jkO ?_⟩
 clear hm hm'
 refine qh [0] (qe (jx_then (jc_meet (fun(j:(Arr 96 Int)×Int×Int)=>match j with | ⟨a_6,i_9,i_00⟩=>FW.k_6 s0 a_6 i_9 i_00=some r) (fun⟨a_6,i_9,i_00⟩=> [(4,[],(vP b_2)),(5,[],(vP b_3))]) (fun⟨a_6,i_9,i_00⟩=> [⟨some A_b,179,[(.slice B_a s0.fcode.length B_c),(vI i_9),(.int .u64 i_00)]⟩,⟨some E_b,27,[(vH f1.fSteps),(.slice G_a f1.fHammers.length G_c)]⟩,⟨(some b_2),40,row encU32 ((Arr.rep 96 0).1) []⟩,⟨(some b_3),40,row encU32 a_6.1 []⟩]) ?_ ?_)))
 ·refine jc_block ?_
  obtain⟨t_03,ht_0a,hr_0b⟩:=bd h
  refine jl (fun(s:(Arr 96 Int)×Int×Int×Int) (x:Unit)=>match s,x with | ⟨a_0,i_7,i_8,i_5⟩,_=>True) (fun⟨a_0,i_7,i_8,i_5⟩ _=> [(0,[],(vP A_b)),(1,[],(vP E_b)),(4,[],(vP b_2)),(5,[],(vP b_3)),(6,[],(.bool t_2.1)),(7,[],(vI i_5))]) (fun⟨a_0,i_7,i_8,i_5⟩ _=> [⟨some A_b,179,[(.slice B_a s0.fcode.length B_c),(vI i_7),(.int .u64 i_8)]⟩,⟨some E_b,27,[(vH f1.fSteps),(.slice G_a f1.fHammers.length G_c)]⟩,⟨(some b_2),40,row encU32 ((Arr.rep 96 0).1) []⟩,⟨(some b_3),40,row encU32 a_0.1 []⟩]) ht_0a () trivial [0,1,2,3] ?_
  rintro⟨a_0,i_7,i_8,i_5⟩ _ y_05 _ h
  rw [FW.l_11] at h
  refine jc_seq (jc_seq (jc_region (qh [0,0] (qe (jx_then (qi h (fun h=> ?_) (fun h=> ?_)))))))
  ·refine jc_skip (jx_then (jc_seq (jc_block (jc_seq (jc_region (qh [0,0,0,0,1,0] ?_))))))
   obtain⟨t_4,ht_0c,h⟩:=bd h
   refine tO (pc 0 (fun w hm=>Fo.calls (⟨s0.fcode,i_7,i_8⟩:Gl00Src) (w64 f1.fSteps) w _ B_c (hm.exRowW B_h B_ha) rfl A_b (hm.ps [0]) (hm.xp B_h B_ha [0]) ht_0c) ?_)
   rintro w v w' hm ⟨rfl,hm'⟩
   refine⟨_,hm.appW (ps:= [(0,⟨some A_b,179,[(.slice B_a s0.fcode.length B_c),(vI t_4.2.fat),(.int .u64 t_4.2.fseed)]⟩)]) (N:= []) hm' (by kernel_rfl) (by kernel_rfl),jkO ?_⟩
   clear hm hm'
   refine qh [0] (qe (jx_then (jc_seq (jc_region (qh [0,0,0,0,1,0] ?_)))))
   obtain⟨t_1,ht_0d,h⟩:=bd h
   refine tO (pc 0 (fun w hm=>Fo.calls (⟨s0.fcode,t_4.2.fat,t_4.2.fseed⟩:Gl00Src) (f1.fHammers.length:Int) w _ B_c (hm.exRowW B_h B_ha) rfl A_b (hm.ps [0]) (hm.xp B_h B_ha [0]) ht_0d) ?_)
   rintro w v w' hm ⟨rfl,hm'⟩
   refine⟨_,hm.appW (ps:= [(0,⟨some A_b,179,[(.slice B_a s0.fcode.length B_c),(vI t_1.2.fat),(.int .u64 t_1.2.fseed)]⟩)]) (N:= []) hm' (by kernel_rfl) (by kernel_rfl),jkO ?_⟩
   clear hm hm'
   refine qh [0] (qe (jx_then (jc_seq (jc_meet (fun(q_01:Bool)=>FW.k_16 a_0 i_5 t_4 t_1 q_01=some y_05) (fun q_01=> [(0,[],(vP A_b)),(1,[],(vP E_b)),(4,[],(vP b_2)),(5,[],(vP b_3)),(6,[],(.bool t_2.1)),(7,[],(vI i_5)),(8,[],(vI t_4.1)),(9,[],(vI t_1.1)),(39,[],(.bool q_01))]) (fun q_01=> [⟨some A_b,179,[(.slice B_a s0.fcode.length B_c),(vI t_1.2.fat),(.int .u64 t_1.2.fseed)]⟩,⟨some E_b,27,[(vH f1.fSteps),(.slice G_a f1.fHammers.length G_c)]⟩,⟨(some b_2),40,row encU32 ((Arr.rep 96 0).1) []⟩,⟨(some b_3),40,row encU32 a_0.1 []⟩]) ?_ ?_))))
   ·refine jc_region (qf [(0,0),(0,0),(0,1),(0,1),(0,1)] (qp 34 h (fun h=> ?_) (fun h=> ?_)))
    ·exact qf [(0,3),(0,4)] (qe (qm true h [0,1,2,3]))
    ·obtain⟨t_04,ht_0e,h⟩:=bd h
     refine tO (pc 2 (fun w hm=>FZ.calls f1 a_0 t_4.1 t_1.1 w _ G_c (hm.exRowW G_h G_ha) rfl (hm.ow 3 (some b_3) 40 a_0.1 [] (fun e=>nomatch e) encU32_len) E_b (hm.ps [1]) (hm.xp G_h G_ha [1]) (hm.oa 3 (some b_3) (fun e=>nomatch e) [1]) ht_0e) ?_)
     rintro w v w' hm ⟨rfl,hm'⟩
     refine⟨_,hm.appW (ps:= [(1,⟨some E_b,27,[(vH f1.fSteps),(.slice G_a f1.fHammers.length G_c)]⟩)]) (N:= []) hm' (by kernel_rfl) (by kernel_rfl),jkO ?_⟩
     clear hm hm'
     exact qf [(0,5)] (qe (qm t_04 h [0,1,2,3]))
   ·rintro q_01 h
    replace h:FW.k_16 a_0 i_5 t_4 t_1 q_01=some y_05:=h
    rw [FW.k_16] at h
    refine jx_then (qi h (fun h=> ?_) (fun h=> ?_))
    ·refine jc_region (qh [0,0] ?_)
     obtain⟨x_02,hx_06,h⟩:=bd h
     refine tO (qx 0 (sB b_3) 1 hx_06 a_0.2 rfl (jkO (tO (ql 0 false (fun w hm=>((hm.ow 3 (some b_3) 40 a_0.1 [] (fun e=>nomatch e) encU32_len).at hx_06)) (jkO (qh [0,0] ?_))))))
     obtain⟨hg_0f,h⟩:=gd h
     refine tO (pV 0 .u32 1 .u64 (u64 t_1.1) hg_0f (jkO (qh [0] ?_)))
     obtain⟨x_08,hx_07,h⟩:=bd h
     exact tO (qx 0 (sB b_3) 1 hx_07 a_0.2 rfl (jkO (tO (pT 0 3 b_3 40 encU32 a_0.1 [] t_4.1 (bOr .u32 x_02 (bShl .u32 1 (u64 t_1.1))) 1 0 [(vU (bOr .u32 x_02 (bShl .u32 1 (u64 t_1.1))))] encU32_len hx_07 (jkO (qe (jx_inn (jx_then (jc_region (qh [0,0,0] (qe (qb ((Arr.set a_0 t_4.1 (bOr .u32 x_02 (bShl .u32 1 (u64 t_1.1)))),t_1.2.fat,t_1.2.fseed,(w64 (i_5-1))) () h trivial [0,1,2,3]))))))))))))
    ·exact jc_skip (jx_inn (jx_then (jc_region (qh [0,0,0] (qe (qb (a_0,t_1.2.fat,t_1.2.fseed,(w64 (i_5-1))) () h trivial [0,1,2,3]))))))
  ·refine jc_exit (jx_thenx (jx_leave (a_0,i_7,i_8) (sj h) (fun e_0g=> ?_)))
   subst e_0g
   exact jx_ine (qm ⟨a_0,i_7,i_8⟩ hr_0b [0,1,2,3])
 ·rintro⟨a_6,i_9,i_00⟩ h
  replace h:FW.k_6 s0 a_6 i_9 i_00=some r:=h
  rw [FW.k_6] at h
  refine jx_then (jc_seq (jc_region (tO (pL 0 3 b_3 96 1 40 encU32 a_6 encU32_len (jkO (tO (pS 0 2 b_2 96 1 40 encU32 (Arr.rep 96 0) a_6 encU32_len encU32_cell (jkO (qe (jx_then (jc_ret ?_)))))))))))
  obtain rfl:=si h
  exact jx_retV rfl (ra (b:=b_2) (T':=40) (hh:=2) (mm:=1) encU32 a_6 encU32_len rq_nil) (fun w hm=>⟨rfl,hm.pk [0,1]⟩)
def Fao.k_6(xs_0:List (Arr 96 Int))(i_6:Int)(i_02:Int):Option ((List (Arr 96 Int))):=some xs_0
def Fao.l_11(code0:List Int)(f1:GFrame):((List (Arr 96 Int))×Int×Int×Int)→Option (((List (Arr 96 Int))×Int×Int×Int)⊕(((List (Arr 96 Int))×Int×Int)))
 | (xs_1,i_4,i_5,i_8)=>(if(decide (i_8>0))=true then(FW (⟨code0,i_4,i_5⟩:Gl00Src) f1).bind fun t_2=>(if xs_1.length+([t_2.1]:List (Arr 96 Int)).length≤4294967296 then some (.inl ((xs_1++([t_2.1]:List (Arr 96 Int))),t_2.2.fat,t_2.2.fseed,(w64 (i_8-1)))) else none) else some (.inr (xs_1,i_4,i_5)))
def Fao(code0:List Int)(f1:GFrame):Option ((List (Arr 96 Int))):=(FaJ code0).bind fun t_3=>(Fo (⟨code0,t_3.fat,t_3.fseed⟩:Gl00Src) 6).bind fun t_9=>(loop (Fao.l_11 code0 f1) (([]:List (Arr 96 Int)),t_9.2.fat,t_9.2.fseed,t_9.1)).bind fun t_08=>Fao.k_6 t_08.1 t_08.2.1 t_08.2.2
theorem Fao.calls(code0:List Int)(f1:GFrame)(w:World)(r:(List (Arr 96 Int))){A_a:Option Addr}{A_an:Nat}(A_c:Nat)(A_h:Rw w A_a 1 encU8 code0)(A_hn:code0.length=A_an){D_a:Option Addr}{D_an:Nat}(D_c:Nat)(D_h:Rw w D_a 2 encGHammer f1.fHammers)(D_hn:f1.fHammers.length=D_an)(h:Fao code0 f1=some r):
   Calls Tryz.prog 25 #[(.slice A_a A_an A_c),(.agg #[(vH f1.fSteps),(.slice D_a D_an D_c)])] w fun e w'=>∃v,e= .returned v∧(∃(o0:Option Nat) (c0:Nat) (s0:List Value) (n0:Nat),r.length=n0∧(hS o0 n0 c0 s0 96)∧(hO o0 r c0)∧v= .slice (mB o0) n0 c0∧Mem w [] [⟨o0,40,row encA96U32 r s0⟩] w'):=by
 subst A_hn D_hn
 rw [Fao] at h
 refine en Tryz.func25 rfl Tryz.ntmps25 (jc_seq (jc_region (tO (qa 0 (fun b_3=>jkO (qh [0] (qe (jx_then (jc_seq (jc_region (qh [0] ?_)))))))))))
 obtain⟨t_3,ht_9,h⟩:=bd h
 refine tO (pc 0 (fun w hm=>FaJ.calls code0 w _ A_c (hm.xr A_h) rfl ht_9) ?_)
 rintro w v w' hm ⟨b_0,rfl,hm'⟩
 refine aq hm hm' (jkO (qh [0] (qe (jx_then (jc_seq (jc_region (tO (qa 0 (fun b_6=>jkO (qh [0] (qe (jx_then (jc_seq (jc_seq (jc_region (qh [0] ?_))))))))))))))))
 obtain⟨t_9,ht_0c,h⟩:=bd h
 refine tO (pc 0 (fun w hm=>Fo.calls (⟨code0,t_3.fat,t_3.fseed⟩:Gl00Src) 6 w _ A_c (hm.xr A_h) rfl b_0 (hm.ps [1]) (hm.xp A_h (fun _=>List.not_mem_nil) [1]) ht_0c) ?_)
 rintro w v w' hm ⟨rfl,hm'⟩
 refine⟨_,hm.appW (ps:= [(1,⟨some b_0,179,[(.slice A_a code0.length A_c),(vI t_9.2.fat),(.int .u64 t_9.2.fseed)]⟩)]) (N:= []) hm' (by kernel_rfl) (by kernel_rfl),jkO ?_⟩
 clear hm hm'
 refine qh [0] (qe (jx_then (jc_meet (fun(j:(List (Arr 96 Int))×Int×Int×(Option Nat)×Nat×(List Value)×Nat)=>match j with | ⟨xs_0,i_6,i_02,o_00,cap_03,sp_05,n_06⟩=>Fao.k_6 xs_0 i_6 i_02=some r∧(xs_0.length=n_06)∧(hS o_00 n_06 cap_03 sp_05 96)∧(hO o_00 xs_0 cap_03)) (fun⟨xs_0,i_6,i_02,o_00,cap_03,sp_05,n_06⟩=> [(4,[],(.slice none 0 0)),(6,[],(.slice (mB o_00) n_06 cap_03))]) (fun⟨xs_0,i_6,i_02,o_00,cap_03,sp_05,n_06⟩=> [⟨some b_3,27,[(vH f1.fSteps),(.slice D_a f1.fHammers.length D_c)]⟩,⟨some b_0,179,[(.slice A_a code0.length A_c),(vI i_6),(.int .u64 i_02)]⟩,⟨o_00,40,row encA96U32 xs_0 sp_05⟩]) ?_ ?_)))
 ·refine jc_block ?_
  obtain⟨t_08,ht_0d,hr_0e⟩:=bd h
  refine jl (fun(s:(List (Arr 96 Int))×Int×Int×Int) (x:(Option Nat)×Nat×(List Value)×Nat)=>match s,x with | ⟨xs_1,i_4,i_5,i_8⟩,⟨o_7,cap_01,sp_04,n_07⟩=>(xs_1.length=n_07)∧(hS o_7 n_07 cap_01 sp_04 96)∧(hO o_7 xs_1 cap_01)) (fun⟨xs_1,i_4,i_5,i_8⟩ ⟨o_7,cap_01,sp_04,n_07⟩=> [(3,[],(vP b_3)),(4,[],(.slice none 0 0)),(5,[],(vP b_0)),(6,[],(.slice (mB o_7) n_07 cap_01)),(7,[],(vI i_8))]) (fun⟨xs_1,i_4,i_5,i_8⟩ ⟨o_7,cap_01,sp_04,n_07⟩=> [⟨some b_3,27,[(vH f1.fSteps),(.slice D_a f1.fHammers.length D_c)]⟩,⟨some b_0,179,[(.slice A_a code0.length A_c),(vI i_4),(.int .u64 i_5)]⟩,⟨o_7,40,row encA96U32 xs_1 sp_04⟩]) ht_0d ⟨(some b_6),0,[],0⟩ ⟨rfl,(fun _=>⟨Nat.le_refl _,by simp⟩),(fun e=>nomatch e)⟩ [0,1,2] ?_
  rintro⟨xs_1,i_4,i_5,i_8⟩ ⟨o_7,cap_01,sp_04,n_07⟩ y_0p ⟨rfl,hs_09,ho_0a⟩ h
  rw [Fao.l_11] at h
  refine jc_seq (jc_seq (jc_region (qh [0,0] (qe (jx_then (qi h (fun h=> ?_) (fun h=> ?_)))))))
  ·refine jc_skip (jx_then (jc_seq (jc_block (jc_region (qh [0,0] ?_)))))
   obtain⟨t_2,ht_0f,h⟩:=bd h
   refine tO (pc 0 (fun w hm=>FW.calls (⟨code0,i_4,i_5⟩:Gl00Src) f1 w _ A_c (hm.xr A_h) rfl D_c (hm.xr D_h) rfl b_0 b_3 (hm.ps [1,0]) (hm.xp A_h (fun _=>List.not_mem_nil) [1,0]) (hm.xp D_h (fun _=>List.not_mem_nil) [1,0]) ht_0f) ?_)
   rintro w v w' hm ⟨rfl,hm'⟩
   refine⟨_,hm.appW (ps:= [(1,⟨some b_0,179,[(.slice A_a code0.length A_c),(vI t_2.2.fat),(.int .u64 t_2.2.fseed)]⟩),(0,⟨some b_3,27,[(vH f1.fSteps),(.slice D_a f1.fHammers.length D_c)]⟩)]) (N:= []) hm' (by kernel_rfl) (by kernel_rfl),jkO ?_⟩
   clear hm hm'
   refine tO (pB_ 0 40 96 1 encA96U32 [(.agg (row encU32 t_2.1.1 []).toArray)] [t_2.1] rfl encA96U32_len (fun b_0b=>jkO ?_))
   obtain⟨hg_0g,h⟩:=gd h
   exact tO (pA 0 2 o_7 40 xs_1.length 1 cap_01 96 384 (sB b_0b) encA96U32 xs_1 ([t_2.1]:List (Arr 96 Int)) sp_04 (.agg (row encU32 (Arr.rep 96 0).1 []).toArray) rfl rfl encA96U32_len encA96U32_cell hs_09 ho_0a (fun w hm=>(hm.ow 3 (some b_0b) 40 ([t_2.1]:List (Arr 96 Int)) [] (fun e=>nomatch e) encA96U32_len)) hg_0g (fun o_0h cap_0i sp_0j hs_0k ho_0l=>jkO (qh [0] (qe (jx_inn (jx_then (jc_region (qh [0,0,0] (qe (qb ((xs_1++([t_2.1]:List (Arr 96 Int))),t_2.2.fat,t_2.2.fseed,(w64 (i_8-1))) ⟨o_0h,cap_0i,sp_0j,(xs_1++([t_2.1]:List (Arr 96 Int))).length⟩ h ⟨rfl,hs_0k,ho_0l⟩ [0,1,2]))))))))))
  ·refine jc_exit (jx_thenx (jx_leave (xs_1,i_4,i_5) (sj h) (fun e_0m=> ?_)))
   subst e_0m
   exact jx_ine (qm ⟨xs_1,i_4,i_5,o_7,cap_01,sp_04,xs_1.length⟩ ⟨hr_0e,rfl,hs_09,ho_0a⟩ [0,1,2])
 ·rintro⟨xs_0,i_6,i_02,o_00,cap_03,sp_05,n_06⟩ ⟨h,rfl,hs_0n,ho_0o⟩
  replace h:Fao.k_6 xs_0 i_6 i_02=some r:=h
  rw [Fao.k_6] at h
  refine jx_then (jc_seq (jc_region (qh [0,0] (qe (jx_then (jc_ret ?_))))))
  obtain rfl:=si h
  exact qr [] (fun w hm=>⟨o_00,cap_03,sp_05,xs_0.length,rfl,hs_0n,ho_0o,rfl,hm.pk [2]⟩)
def Fa9(f0:GFrame)(list1:List (Arr 96 Int)):Option (Int):=(FaO f0 list1).bind fun t_1=>(FQ (decide ((list1.length:Int)≤8)) 3).bind fun t_0=>(Ff ([t_1,t_0]:List Int)).bind fun t_2=>some t_2
theorem Fa9.calls(f0:GFrame)(list1:List (Arr 96 Int))(w:World)(r:Int){C_a:Option Addr}{C_an:Nat}(C_c:Nat)(C_h:Rw w C_a 2 encGHammer f0.fHammers)(C_hn:f0.fHammers.length=C_an){D_a:Option Addr}{D_an:Nat}(D_c:Nat)(D_h:Rw w D_a 96 encA96U32 list1)(D_hn:list1.length=D_an)(h:Fa9 f0 list1=some r):
   Calls Tryz.prog 105 #[(.agg #[(vH f0.fSteps),(.slice C_a C_an C_c)]),(.slice D_a D_an D_c)] w fun e w'=>∃v,e= .returned v∧(v=(vI r)∧Mem w [] [] w'):=by
 subst C_hn D_hn
 rw [Fa9] at h
 refine en Tryz.func105 rfl Tryz.ntmps105 (jc_seq (jc_region (tO (qa 0 (fun b_1=>jkO (qh [0] (qe (jx_then (jc_seq (jc_region (qh [0,0] ?_)))))))))))
 obtain⟨t_1,ht_0,h⟩:=bd h
 refine tO (pq 0 (fun w hm=>FaO.calls f0 list1 w _ C_c (hm.xr C_h) rfl D_c (hm.xr D_h) rfl ht_0) (jkO (qh [0,0,0] ?_)))
 obtain⟨t_0,ht_2,h⟩:=bd h
 refine tO (pq 0 (fun w hm=>FQ.calls (decide ((list1.length:Int)≤8)) 3 w _ ht_2) (jkO (tO (qa 0 (fun b_3=>jkO ?_)))))
 obtain⟨t_2,ht_4,h⟩:=bd h
 refine tO (pq 0 (fun w hm=>Ff.calls ([t_1,t_0]:List Int) w _ 2 (hm.ow 1 (some b_3) 2 ([t_1,t_0]:List Int) [] (fun e=>nomatch e) encI64_len) rfl ht_4) (jkO (qh [0] (qe (jx_then (jc_ret ?_))))))
 obtain rfl:=si h
 exact qr [] (fun w hm=>⟨rfl,hm.pk []⟩)
def FbB(list0:List (Arr 96 Int)):Option (Int):=some (list0.length:Int)
theorem FbB.calls(list0:List (Arr 96 Int))(w:World)(r:Int){A_a:Option Addr}{A_an:Nat}(A_c:Nat)(A_h:Rw w A_a 96 encA96U32 list0)(A_hn:list0.length=A_an)(h:FbB list0=some r):
   Calls Tryz.prog 168 #[(.slice A_a A_an A_c)] w fun e w'=>∃v,e= .returned v∧(v=(vI r)∧Mem w [] [] w'):=by
 subst A_hn
 rw [FbB] at h
 refine en Tryz.func168 rfl Tryz.ntmps168 (jc_seq (jc_region (qh [0] (qe (jx_then (jc_seq (jc_region (qh [0,0,0] (qe (jx_then (jc_ret ?_)))))))))))
 obtain rfl:=si h
 exact qr [] (fun w hm=>⟨rfl,hm.pk []⟩)
def Fbn(f0:GFrame)(list1:List (Arr 96 Int))(first2:Int):Option (Int):=(Fa9 f0 list1).bind fun t_2=>(FbB list1).bind fun t_3=>(FG first2 (-1) (w64 (t_3-1))).bind fun t_4=>(FQ t_4 2).bind fun t_0=>(FQ (decide ((list1.length:Int)>0)) 6).bind fun t_1=>(Ff ([t_2,t_0,t_1]:List Int)).bind fun t_5=>some t_5
theorem Fbn.calls(f0:GFrame)(list1:List (Arr 96 Int))(first2:Int)(w:World)(r:Int){C_a:Option Addr}{C_an:Nat}(C_c:Nat)(C_h:Rw w C_a 2 encGHammer f0.fHammers)(C_hn:f0.fHammers.length=C_an){D_a:Option Addr}{D_an:Nat}(D_c:Nat)(D_h:Rw w D_a 96 encA96U32 list1)(D_hn:list1.length=D_an)(h:Fbn f0 list1 first2=some r):
   Calls Tryz.prog 95 #[(.agg #[(vH f0.fSteps),(.slice C_a C_an C_c)]),(.slice D_a D_an D_c),(vI first2)] w fun e w'=>∃v,e= .returned v∧(v=(vI r)∧Mem w [] [] w'):=by
 subst C_hn D_hn
 rw [Fbn] at h
 refine en Tryz.func95 rfl Tryz.ntmps95 (jc_seq (jc_region (tO (qa 0 (fun b_2=>jkO (qh [0] (qe (jx_then (jc_seq (jc_region (qh [0,0] ?_)))))))))))
 obtain⟨t_2,ht_3,h⟩:=bd h
 refine tO (pq 0 (fun w hm=>Fa9.calls f0 list1 w _ C_c (hm.xr C_h) rfl D_c (hm.xr D_h) rfl ht_3) (jkO (qh [0,0] ?_)))
 obtain⟨t_3,ht_4,h⟩:=bd h
 refine tO (pq 0 (fun w hm=>FbB.calls list1 w _ D_c (hm.xr D_h) rfl ht_4) (jkO (qh [0] ?_)))
 obtain⟨t_4,ht_0,h⟩:=bd h
 refine tO (pq 0 (fun w hm=>FG.calls first2 (-1) (w64 (t_3-1)) w _ ht_0) (jkO ?_))
 obtain⟨t_0,ht_1,h⟩:=bd h
 refine tO (pq 0 (fun w hm=>FQ.calls t_4 2 w _ ht_1) (jkO (qh [0,0,0] ?_)))
 obtain⟨t_1,ht_5,h⟩:=bd h
 refine tO (pq 0 (fun w hm=>FQ.calls (decide ((list1.length:Int)>0)) 6 w _ ht_5) (jkO (tO (qa 0 (fun b_6=>jkO ?_)))))
 obtain⟨t_5,ht_7,h⟩:=bd h
 refine tO (pq 0 (fun w hm=>Ff.calls ([t_2,t_0,t_1]:List Int) w _ 3 (hm.ow 1 (some b_6) 2 ([t_2,t_0,t_1]:List Int) [] (fun e=>nomatch e) encI64_len) rfl ht_7) (jkO (qh [0] (qe (jx_then (jc_ret ?_))))))
 obtain rfl:=si h
 exact qr [] (fun w hm=>⟨rfl,hm.pk []⟩)
def Faa.k_2(a_1:Arr 96 Int):Option ((Arr 96 Int)):=some a_1
def Faa.l_5(e1:Arr 96 Int):((Arr 96 Int)×Int)→Option (((Arr 96 Int)×Int)⊕((Arr 96 Int)))
 | (a_0,i_2)=>(if(decide (i_2<96))=true then(ix e1.1 i_2).bind fun x_3=>(ix a_0.1 i_2).bind fun x_4=>(ix a_0.1 i_2).bind fun x_9=>some (.inl ((Arr.set a_0 i_2 (bClr .u32 x_4 x_3)),(w64 (i_2+1)))) else some (.inr a_0))
def Faa(d0:Arr 96 Int)(e1:Arr 96 Int):Option ((Arr 96 Int)):=(loop (Faa.l_5 e1) (d0,0)).bind fun t_6=>Faa.k_2 t_6
theorem Faa.calls(d0:Arr 96 Int)(e1:Arr 96 Int)(w:World)(r:(Arr 96 Int))(h:Faa d0 e1=some r):
   Calls Tryz.prog 184 #[(.agg (row encU32 d0.1 []).toArray),(.agg (row encU32 e1.1 []).toArray)] w fun e w'=>∃v,e= .returned v∧(v=(.agg (row encU32 r.1 []).toArray)∧Mem w [] [] w'):=by
 rw [Faa] at h
 refine en Tryz.func184 rfl Tryz.ntmps184 (jc_seq (jc_region (tO (qa 0 (fun b_1=>jkO (tO (qa 0 (fun b_5=>jkO (tO (qa 0 (fun b_0=>jkO (qe (jx_then (jc_seq (jc_seq (jc_region (tO (pL 0 1 b_5 96 1 40 encU32 e1 encU32_len (jkO (qh [0] (qe (jx_then (jc_meet (fun(a_1:(Arr 96 Int))=>Faa.k_2 a_1=some r) (fun a_1=> [(2,[],(vP b_1)),(4,[],(vP b_0))]) (fun a_1=> [⟨(some b_1),40,row encU32 a_1.1 []⟩,⟨(some b_5),40,row encU32 e1.1 []⟩,⟨(some b_0),40,row encU32 ((Arr.rep 96 0).1) []⟩]) ?_ ?_)))))))))))))))))))))))
 ·refine jc_block ?_
  obtain⟨t_6,ht_00,hr_01⟩:=bd h
  refine jl (fun(s:(Arr 96 Int)×Int) (x:Unit)=>match s,x with | ⟨a_0,i_2⟩,_=>True) (fun⟨a_0,i_2⟩ _=> [(2,[],(vP b_1)),(4,[],(vP b_0)),(7,[],(.agg (row encU32 e1.1 []).toArray)),(8,[],(vI i_2))]) (fun⟨a_0,i_2⟩ _=> [⟨(some b_1),40,row encU32 a_0.1 []⟩,⟨(some b_5),40,row encU32 e1.1 []⟩,⟨(some b_0),40,row encU32 ((Arr.rep 96 0).1) []⟩]) ht_00 () trivial [0,1,2] ?_
  rintro⟨a_0,i_2⟩ _ y_04 _ h
  rw [Faa.l_5] at h
  refine jc_seq (jc_region (qh [0] (qe (jx_then (jc_seq (qi h (fun h=> ?_) (fun h=> ?_)))))))
  ·refine jc_skip (jx_then (jc_seq (jc_block (jc_seq (jc_region (qh [0] ?_))))))
   obtain⟨x_3,hx_02,h⟩:=bd h
   refine tO (pX 0 encU32 (fun x=>(vU x)) e1 i_2 (fun _=>rfl) hx_02 (jkO (qh [0,0] (qe (jx_then (jc_region (qh [0] ?_)))))))
   obtain⟨x_4,hx_7,h⟩:=bd h
   refine tO (qx 0 (sB b_1) 1 hx_7 a_0.2 rfl (jkO (tO (ql 0 false (fun w hm=>((hm.ow 0 (some b_1) 40 a_0.1 [] (fun e=>nomatch e) encU32_len).at hx_7)) (jkO (qh [0,0] ?_))))))
   obtain⟨x_9,hx_8,h⟩:=bd h
   exact tO (qx 0 (sB b_1) 1 hx_8 a_0.2 rfl (jkO (tO (pT 0 0 b_1 40 encU32 a_0.1 [] i_2 (bClr .u32 x_4 x_3) 1 0 [(vU (bClr .u32 x_4 x_3))] encU32_len hx_8 (jkO (qe (jx_inn (jx_then (jc_region (qh [0,0] (qe (qb ((Arr.set a_0 i_2 (bClr .u32 x_4 x_3)),(w64 (i_2+1))) () h trivial [0,1,2]))))))))))))
  ·refine jc_exit (jx_thenx (jx_leave a_0 (sj h) (fun e_03=> ?_)))
   subst e_03
   exact jx_ine (qm a_0 hr_01 [0,1,2])
 ·rintro a_1 h
  replace h:Faa.k_2 a_1=some r:=h
  rw [Faa.k_2] at h
  refine jx_then (jc_seq (jc_region (tO (pL 0 0 b_1 96 1 40 encU32 a_1 encU32_len (jkO (tO (pS 0 2 b_0 96 1 40 encU32 (Arr.rep 96 0) a_1 encU32_len encU32_cell (jkO (qe (jx_then (jc_ret ?_)))))))))))
  obtain rfl:=si h
  exact jx_retV rfl (ra (b:=b_0) (T':=40) (hh:=2) (mm:=1) encU32 a_1 encU32_len rq_nil) (fun w hm=>⟨rfl,hm.pk []⟩)
def FaR(x0:Int):Option (Int):=(sIx (ByteArray.mk #[0,1,1,2,1,2,2,3,1,2,2,3,2,3,3,4,1,2,2,3,2,3,3,4,2,3,3,4,3,4,4,5,1,2,2,3,2,3,3,4,2,3,3,4,3,4,4,5,2,3,3,4,3,4,4,5,3,4,4,5,4,5,5,6,1,2,2,3,2,3,3,4,2,3,3,4,3,4,4,5,2,3,3,4,3,4,4,5,3,4,4,5,4,5,5,6,2,3,3,4,3,4,4,5,3,4,4,5,4,5,5,6,3,4,4,5,4,5,5,6,4,5,5,6,5,6,6,7,1,2,2,3,2,3,3,4,2,3,3,4,3,4,4,5,2,3,3,4,3,4,4,5,3,4,4,5,4,5,5,6,2,3,3,4,3,4,4,5,3,4,4,5,4,5,5,6,3,4,4,5,4,5,5,6,4,5,5,6,5,6,6,7,2,3,3,4,3,4,4,5,3,4,4,5,4,5,5,6,3,4,4,5,4,5,5,6,4,5,5,6,5,6,6,7,3,4,4,5,4,5,5,6,4,5,5,6,5,6,6,7,4,5,5,6,5,6,6,7,5,6,6,7,6,7,7,8]) (bShr .u32 x0 24)).bind fun x_0=>(sIx (ByteArray.mk #[0,1,1,2,1,2,2,3,1,2,2,3,2,3,3,4,1,2,2,3,2,3,3,4,2,3,3,4,3,4,4,5,1,2,2,3,2,3,3,4,2,3,3,4,3,4,4,5,2,3,3,4,3,4,4,5,3,4,4,5,4,5,5,6,1,2,2,3,2,3,3,4,2,3,3,4,3,4,4,5,2,3,3,4,3,4,4,5,3,4,4,5,4,5,5,6,2,3,3,4,3,4,4,5,3,4,4,5,4,5,5,6,3,4,4,5,4,5,5,6,4,5,5,6,5,6,6,7,1,2,2,3,2,3,3,4,2,3,3,4,3,4,4,5,2,3,3,4,3,4,4,5,3,4,4,5,4,5,5,6,2,3,3,4,3,4,4,5,3,4,4,5,4,5,5,6,3,4,4,5,4,5,5,6,4,5,5,6,5,6,6,7,2,3,3,4,3,4,4,5,3,4,4,5,4,5,5,6,3,4,4,5,4,5,5,6,4,5,5,6,5,6,6,7,3,4,4,5,4,5,5,6,4,5,5,6,5,6,6,7,4,5,5,6,5,6,6,7,5,6,6,7,6,7,7,8]) (bAnd .u32 (bShr .u32 x0 16) 255)).bind fun x_1=>(sIx (ByteArray.mk #[0,1,1,2,1,2,2,3,1,2,2,3,2,3,3,4,1,2,2,3,2,3,3,4,2,3,3,4,3,4,4,5,1,2,2,3,2,3,3,4,2,3,3,4,3,4,4,5,2,3,3,4,3,4,4,5,3,4,4,5,4,5,5,6,1,2,2,3,2,3,3,4,2,3,3,4,3,4,4,5,2,3,3,4,3,4,4,5,3,4,4,5,4,5,5,6,2,3,3,4,3,4,4,5,3,4,4,5,4,5,5,6,3,4,4,5,4,5,5,6,4,5,5,6,5,6,6,7,1,2,2,3,2,3,3,4,2,3,3,4,3,4,4,5,2,3,3,4,3,4,4,5,3,4,4,5,4,5,5,6,2,3,3,4,3,4,4,5,3,4,4,5,4,5,5,6,3,4,4,5,4,5,5,6,4,5,5,6,5,6,6,7,2,3,3,4,3,4,4,5,3,4,4,5,4,5,5,6,3,4,4,5,4,5,5,6,4,5,5,6,5,6,6,7,3,4,4,5,4,5,5,6,4,5,5,6,5,6,6,7,4,5,5,6,5,6,6,7,5,6,6,7,6,7,7,8]) (bAnd .u32 (bShr .u32 x0 8) 255)).bind fun x_2=>(sIx (ByteArray.mk #[0,1,1,2,1,2,2,3,1,2,2,3,2,3,3,4,1,2,2,3,2,3,3,4,2,3,3,4,3,4,4,5,1,2,2,3,2,3,3,4,2,3,3,4,3,4,4,5,2,3,3,4,3,4,4,5,3,4,4,5,4,5,5,6,1,2,2,3,2,3,3,4,2,3,3,4,3,4,4,5,2,3,3,4,3,4,4,5,3,4,4,5,4,5,5,6,2,3,3,4,3,4,4,5,3,4,4,5,4,5,5,6,3,4,4,5,4,5,5,6,4,5,5,6,5,6,6,7,1,2,2,3,2,3,3,4,2,3,3,4,3,4,4,5,2,3,3,4,3,4,4,5,3,4,4,5,4,5,5,6,2,3,3,4,3,4,4,5,3,4,4,5,4,5,5,6,3,4,4,5,4,5,5,6,4,5,5,6,5,6,6,7,2,3,3,4,3,4,4,5,3,4,4,5,4,5,5,6,3,4,4,5,4,5,5,6,4,5,5,6,5,6,6,7,3,4,4,5,4,5,5,6,4,5,5,6,5,6,6,7,4,5,5,6,5,6,6,7,5,6,6,7,6,7,7,8]) (bAnd .u32 x0 255)).bind fun x_3=>some (w64 (u8 ((u8 ((u8 (x_0+x_1))+x_2))+x_3)))
theorem FaR.calls(x0:Int)(w:World)(r:Int)(h:FaR x0=some r):
   Calls Tryz.prog 248 #[(vU x0)] w fun e w'=>∃v,e= .returned v∧(v=(vI r)∧Mem w [] [] w'):=by
 rw [FaR] at h
 refine en Tryz.func248 rfl Tryz.ntmps248 (jc_seq (jc_region (qh [0] (qe (jx_then (jc_seq (qg [] 19 (qd [⟨0,0,0⟩,⟨1,0,0⟩,⟨3,0,0⟩,⟨4,0,0⟩,⟨5,0,0⟩,⟨8,0,0⟩,⟨9,0,0⟩,⟨10,0,0⟩,⟨13,0,0⟩,⟨14,0,0⟩] 9 [] ?_))))))))
 obtain⟨x_0,hx_0,h⟩:=bd h
 refine qv 2 0 [] (fun w hm=>six_run (s:=(ByteArray.mk #[0,1,1,2,1,2,2,3,1,2,2,3,2,3,3,4,1,2,2,3,2,3,3,4,2,3,3,4,3,4,4,5,1,2,2,3,2,3,3,4,2,3,3,4,3,4,4,5,2,3,3,4,3,4,4,5,3,4,4,5,4,5,5,6,1,2,2,3,2,3,3,4,2,3,3,4,3,4,4,5,2,3,3,4,3,4,4,5,3,4,4,5,4,5,5,6,2,3,3,4,3,4,4,5,3,4,4,5,4,5,5,6,3,4,4,5,4,5,5,6,4,5,5,6,5,6,6,7,1,2,2,3,2,3,3,4,2,3,3,4,3,4,4,5,2,3,3,4,3,4,4,5,3,4,4,5,4,5,5,6,2,3,3,4,3,4,4,5,3,4,4,5,4,5,5,6,3,4,4,5,4,5,5,6,4,5,5,6,5,6,6,7,2,3,3,4,3,4,4,5,3,4,4,5,4,5,5,6,3,4,4,5,4,5,5,6,4,5,5,6,5,6,6,7,3,4,4,5,4,5,5,6,4,5,5,6,5,6,6,7,4,5,5,6,5,6,6,7,5,6,6,7,6,7,7,8])) (j:=(bShr .u32 x0 24)) (by kernel_rfl) hx_0) ?_
 obtain⟨x_1,hx_1,h⟩:=bd h
 refine qv 6 0 [] (fun w hm=>six_run (s:=(ByteArray.mk #[0,1,1,2,1,2,2,3,1,2,2,3,2,3,3,4,1,2,2,3,2,3,3,4,2,3,3,4,3,4,4,5,1,2,2,3,2,3,3,4,2,3,3,4,3,4,4,5,2,3,3,4,3,4,4,5,3,4,4,5,4,5,5,6,1,2,2,3,2,3,3,4,2,3,3,4,3,4,4,5,2,3,3,4,3,4,4,5,3,4,4,5,4,5,5,6,2,3,3,4,3,4,4,5,3,4,4,5,4,5,5,6,3,4,4,5,4,5,5,6,4,5,5,6,5,6,6,7,1,2,2,3,2,3,3,4,2,3,3,4,3,4,4,5,2,3,3,4,3,4,4,5,3,4,4,5,4,5,5,6,2,3,3,4,3,4,4,5,3,4,4,5,4,5,5,6,3,4,4,5,4,5,5,6,4,5,5,6,5,6,6,7,2,3,3,4,3,4,4,5,3,4,4,5,4,5,5,6,3,4,4,5,4,5,5,6,4,5,5,6,5,6,6,7,3,4,4,5,4,5,5,6,4,5,5,6,5,6,6,7,4,5,5,6,5,6,6,7,5,6,6,7,6,7,7,8])) (j:=(bAnd .u32 (bShr .u32 x0 16) 255)) (by kernel_rfl) hx_1) (qd [⟨7,0,0⟩] 6 [] ?_)
 obtain⟨x_2,hx_2,h⟩:=bd h
 refine qv 11 0 [] (fun w hm=>six_run (s:=(ByteArray.mk #[0,1,1,2,1,2,2,3,1,2,2,3,2,3,3,4,1,2,2,3,2,3,3,4,2,3,3,4,3,4,4,5,1,2,2,3,2,3,3,4,2,3,3,4,3,4,4,5,2,3,3,4,3,4,4,5,3,4,4,5,4,5,5,6,1,2,2,3,2,3,3,4,2,3,3,4,3,4,4,5,2,3,3,4,3,4,4,5,3,4,4,5,4,5,5,6,2,3,3,4,3,4,4,5,3,4,4,5,4,5,5,6,3,4,4,5,4,5,5,6,4,5,5,6,5,6,6,7,1,2,2,3,2,3,3,4,2,3,3,4,3,4,4,5,2,3,3,4,3,4,4,5,3,4,4,5,4,5,5,6,2,3,3,4,3,4,4,5,3,4,4,5,4,5,5,6,3,4,4,5,4,5,5,6,4,5,5,6,5,6,6,7,2,3,3,4,3,4,4,5,3,4,4,5,4,5,5,6,3,4,4,5,4,5,5,6,4,5,5,6,5,6,6,7,3,4,4,5,4,5,5,6,4,5,5,6,5,6,6,7,4,5,5,6,5,6,6,7,5,6,6,7,6,7,7,8])) (j:=(bAnd .u32 (bShr .u32 x0 8) 255)) (by kernel_rfl) hx_2) (qd [⟨12,0,0⟩] 4 [] ?_)
 obtain⟨x_3,hx_3,h⟩:=bd h
 refine qv 15 0 [] (fun w hm=>six_run (s:=(ByteArray.mk #[0,1,1,2,1,2,2,3,1,2,2,3,2,3,3,4,1,2,2,3,2,3,3,4,2,3,3,4,3,4,4,5,1,2,2,3,2,3,3,4,2,3,3,4,3,4,4,5,2,3,3,4,3,4,4,5,3,4,4,5,4,5,5,6,1,2,2,3,2,3,3,4,2,3,3,4,3,4,4,5,2,3,3,4,3,4,4,5,3,4,4,5,4,5,5,6,2,3,3,4,3,4,4,5,3,4,4,5,4,5,5,6,3,4,4,5,4,5,5,6,4,5,5,6,5,6,6,7,1,2,2,3,2,3,3,4,2,3,3,4,3,4,4,5,2,3,3,4,3,4,4,5,3,4,4,5,4,5,5,6,2,3,3,4,3,4,4,5,3,4,4,5,4,5,5,6,3,4,4,5,4,5,5,6,4,5,5,6,5,6,6,7,2,3,3,4,3,4,4,5,3,4,4,5,4,5,5,6,3,4,4,5,4,5,5,6,4,5,5,6,5,6,6,7,3,4,4,5,4,5,5,6,4,5,5,6,5,6,6,7,4,5,5,6,5,6,6,7,5,6,6,7,6,7,7,8])) (j:=(bAnd .u32 x0 255)) (by kernel_rfl) hx_3) (qd [⟨16,0,0⟩,⟨17,0,0⟩,⟨18,0,0⟩] 0 [] (qz (jx_then (jc_ret ?_))))
 obtain rfl:=si h
 exact qr [] (fun w hm=>⟨rfl,hm.pk []⟩)
def FbC(n0:Int):Option (Int):=(FaR n0).bind fun t_0=>some t_0
theorem FbC.calls(n0:Int)(w:World)(r:Int)(h:FbC n0=some r):
   Calls Tryz.prog 231 #[(vU n0)] w fun e w'=>∃v,e= .returned v∧(v=(vI r)∧Mem w [] [] w'):=by
 rw [FbC] at h
 refine en Tryz.func231 rfl Tryz.ntmps231 (jc_seq (jc_region (qh [0] (qe (jx_then (jc_seq (jc_region (qh [0] ?_))))))))
 obtain⟨t_0,ht_0,h⟩:=bd h
 refine tO (pq 0 (fun w hm=>FaR.calls n0 w _ ht_0) (jkO (qh [0] (qe (jx_then (jc_ret ?_))))))
 obtain rfl:=si h
 exact qr [] (fun w hm=>⟨rfl,hm.pk []⟩)
def F2.k_2(i_0:Int):Option (Int):=some i_0
def F2.l_5(d0:Arr 96 Int):(Int×Int)→Option ((Int×Int)⊕(Int))
 | (i_1,i_2)=>(if(decide (i_2<96))=true then(ix d0.1 i_2).bind fun x_3=>(FbC x_3).bind fun t_4=>some (.inl ((w64 (i_1+t_4)),(w64 (i_2+1)))) else some (.inr i_1))
def F2(d0:Arr 96 Int):Option (Int):=(loop (F2.l_5 d0) (0,0)).bind fun t_5=>F2.k_2 t_5
theorem F2.calls(d0:Arr 96 Int)(w:World)(r:Int)(h:F2 d0=some r):
   Calls Tryz.prog 212 #[(.agg (row encU32 d0.1 []).toArray)] w fun e w'=>∃v,e= .returned v∧(v=(vI r)∧Mem w [] [] w'):=by
 rw [F2] at h
 refine en Tryz.func212 rfl Tryz.ntmps212 (jc_seq (jc_region (tO (qa 0 (fun b_0=>jkO (qh [0] (qe (jx_then (jc_seq (jc_region (qh [0] (qe (jx_then (jc_seq (jc_seq (jc_region (tO (pL 0 0 b_0 96 1 40 encU32 d0 encU32_len (jkO (qh [0] (qe (jx_then (jc_meet (fun(i_0:Int)=>F2.k_2 i_0=some r) (fun i_0=> [(2,[],(vI 0)),(3,[],(vI i_0))]) (fun i_0=> [⟨(some b_0),40,row encU32 d0.1 []⟩]) ?_ ?_)))))))))))))))))))))))
 ·refine jc_block ?_
  obtain⟨t_5,ht_6,hr_7⟩:=bd h
  refine jl (fun(s:Int×Int) (x:Unit)=>match s,x with | ⟨i_1,i_2⟩,_=>True) (fun⟨i_1,i_2⟩ _=> [(2,[],(vI 0)),(3,[],(vI i_1)),(6,[],(.agg (row encU32 d0.1 []).toArray)),(7,[],(vI i_2))]) (fun⟨i_1,i_2⟩ _=> [⟨(some b_0),40,row encU32 d0.1 []⟩]) ht_6 () trivial [0] ?_
  rintro⟨i_1,i_2⟩ _ y_01 _ h
  rw [F2.l_5] at h
  refine jc_seq (jc_region (qh [0] (qe (jx_then (jc_seq (qi h (fun h=> ?_) (fun h=> ?_)))))))
  ·refine jc_skip (jx_then (jc_seq (jc_block (jc_seq (jc_region ?_)))))
   obtain⟨x_3,hx_8,h⟩:=bd h
   refine tO (pX 0 encU32 (fun x=>(vU x)) d0 i_2 (fun _=>rfl) hx_8 (jkO (qh [0] (qe (jx_then (jc_region (qh [0,0] ?_)))))))
   obtain⟨t_4,ht_9,h⟩:=bd h
   exact tO (pq 0 (fun w hm=>FbC.calls x_3 w _ ht_9) (jkO (qh [0,0] (qe (jx_inn (jx_then (jc_region (qh [0,0] (qe (qb ((w64 (i_1+t_4)),(w64 (i_2+1))) () h trivial [0]))))))))))
  ·refine jc_exit (jx_thenx (jx_leave i_1 (sj h) (fun e_00=> ?_)))
   subst e_00
   exact jx_ine (qm i_1 hr_7 [0])
 ·rintro i_0 h
  replace h:F2.k_2 i_0=some r:=h
  rw [F2.k_2] at h
  refine jx_then (jc_seq (jc_region (qh [0,0] (qe (jx_then (jc_ret ?_))))))
  obtain rfl:=si h
  exact qr [] (fun w hm=>⟨rfl,hm.pk []⟩)
def FbR(a0:Arr 96 Int)(b1:Arr 96 Int):Option (Int):=(Faa a0 b1).bind fun t_0=>(F2 t_0).bind fun t_1=>(Faa b1 a0).bind fun t_2=>(F2 t_2).bind fun t_3=>some (w64 (t_1+t_3))
theorem FbR.calls(a0:Arr 96 Int)(b1:Arr 96 Int)(w:World)(r:Int)(h:FbR a0 b1=some r):
   Calls Tryz.prog 169 #[(.agg (row encU32 a0.1 []).toArray),(.agg (row encU32 b1.1 []).toArray)] w fun e w'=>∃v,e= .returned v∧(v=(vI r)∧Mem w [] [] w'):=by
 rw [FbR] at h
 refine en Tryz.func169 rfl Tryz.ntmps169 (jc_seq (jc_region (tO (qa 0 (fun b_0=>jkO (tO (qa 0 (fun b_1=>jkO (qh [0] (qe (jx_then (jc_seq (qg [⟨(some b_0),40,row encU32 a0.1 []⟩,⟨(some b_1),40,row encU32 b1.1 []⟩] 10 (qv 0 0 [0,1] (fun w hm=>ld_run (b:=b_0) (off:=0) (s:=96) (agg:=true) (vs:=row encU32 a0.1 []) (by kernel_rfl) ((row_len encU32_len a0).trans rfl) (.inl rfl) (hm.all (hh:=0) (T:=40) (by kernel_rfl))) (qv 1 0 [0,1] (fun w hm=>ld_run (b:=b_1) (off:=0) (s:=96) (agg:=true) (vs:=row encU32 b1.1 []) (by kernel_rfl) ((row_len encU32_len b1).trans rfl) (.inl rfl) (hm.all (hh:=1) (T:=40) (by kernel_rfl))) (qv 4 0 [0,1] (fun w hm=>ld_run (b:=b_1) (off:=0) (s:=96) (agg:=true) (vs:=row encU32 b1.1 []) (by kernel_rfl) ((row_len encU32_len b1).trans rfl) (.inl rfl) (hm.all (hh:=1) (T:=40) (by kernel_rfl))) (qv 5 0 [0,1] (fun w hm=>ld_run (b:=b_0) (off:=0) (s:=96) (agg:=true) (vs:=row encU32 a0.1 []) (by kernel_rfl) ((row_len encU32_len a0).trans rfl) (.inl rfl) (hm.all (hh:=0) (T:=40) (by kernel_rfl))) ?_)))))))))))))))))
 obtain⟨t_0,ht_2,h⟩:=bd h
 refine tD 2 (pq 0 (fun w hm=>Faa.calls a0 b1 w _ ht_2) (kD [0,1] ?_))
 obtain⟨t_1,ht_3,h⟩:=bd h
 refine tD 3 (pq 0 (fun w hm=>F2.calls t_0 w _ ht_3) (kD [0,1] ?_))
 obtain⟨t_2,ht_4,h⟩:=bd h
 refine tD 6 (pq 0 (fun w hm=>Faa.calls b1 a0 w _ ht_4) (kD [0,1] ?_))
 obtain⟨t_3,ht_5,h⟩:=bd h
 refine tD 7 (pq 0 (fun w hm=>F2.calls t_2 w _ ht_5) (kD [0,1] (qd [⟨8,0,0⟩,⟨9,0,0⟩] 0 [0,1] (qz (jx_then (jc_ret ?_))))))
 obtain rfl:=si h
 exact qr [] (fun w hm=>⟨rfl,hm.pk []⟩)
def F7.k_1(xt_02:List (List Int)):Option ((List (List Int))):=some xt_02
def F7.k_7(xt_1:List (List Int))(i_4:Int)(xs_2:List Int):Option (((List (List Int))×Int)⊕((List (List Int)))):=(if xt_1.length+1≤4294967296 then some (.inl ((xt_1++ [xs_2]),(w64 (i_4+1)))) else none)
def F7.l_10(list0:List (Arr 96 Int))(x_7:Arr 96 Int):((List Int)×Int)→Option (((List Int)×Int)⊕((List Int)))
 | (xs_3,i_9)=>(if(decide (i_9<(list0.length:Int)))=true then(ix list0 i_9).bind fun x_07=>(FbR x_7 x_07).bind fun t_08=>(if xs_3.length+([t_08]:List Int).length≤4294967296 then some (.inl ((xs_3++([t_08]:List Int)),(w64 (i_9+1)))) else none) else some (.inr xs_3))
def F7.l_3(list0:List (Arr 96 Int)):((List (List Int))×Int)→Option (((List (List Int))×Int)⊕((List (List Int))))
 | (xt_1,i_4)=>(if(decide (i_4<(list0.length:Int)))=true then(ix list0 i_4).bind fun x_7=>(loop (F7.l_10 list0 x_7) (([]:List Int),0)).bind fun t_0k=>F7.k_7 xt_1 i_4 t_0k else some (.inr xt_1))
def F7(list0:List (Arr 96 Int)):Option ((List (List Int))):=(loop (F7.l_3 list0) (([]:List (List Int)),0)).bind fun t_0l=>F7.k_1 t_0l
theorem F7.calls(list0:List (Arr 96 Int))(w:World)(r:(List (List Int))){A_a:Option Addr}{A_an:Nat}(A_c:Nat)(A_h:Rw w A_a 96 encA96U32 list0)(A_hn:list0.length=A_an)(h:F7 list0=some r):
   Calls Tryz.prog 96 #[(.slice A_a A_an A_c)] w fun e w'=>∃v,e= .returned v∧(∃(o0:Option Nat) (c0:Nat) (s0:List Value) (n0:Nat) (h0:List Hd),InP h0 r∧h0.length=n0∧(hS o0 n0 c0 s0 1)∧(hO o0 h0 c0)∧v= .slice (mB o0) n0 c0∧Mem w [] [⟨o0,60,row encHd h0 s0⟩,⟨none,CLU,cluC encI64 h0 r⟩] w'):=by
 subst A_hn
 rw [F7] at h
 refine en Tryz.func96 rfl Tryz.ntmps96 (jc_seq (jc_region (qh [0] (qe (jx_then (jc_seq (jc_region (tO (qa 0 (fun b_0u=>jk_clu encI64 (jkO (qh [0] (qe (jx_then (jc_seq (jc_seq (jc_region (qh [0,0,0] (qe (jx_then (jc_meet (fun(j:(List (List Int))×(List Hd)×(Option Nat)×Nat×(List Value)×Nat)=>match j with | ⟨xt_02,hh_00,o_05,cap_09,sp_0b,n_0c⟩=>F7.k_1 xt_02=some r∧(hh_00.length=n_0c)∧(hS o_05 n_0c cap_09 sp_0b 1)∧(hO o_05 hh_00 cap_09)∧(InP hh_00 xt_02)) (fun⟨xt_02,hh_00,o_05,cap_09,sp_0b,n_0c⟩=> [(2,[],(.slice none 0 0)),(3,[],(.slice (mB o_05) n_0c cap_09))]) (fun⟨xt_02,hh_00,o_05,cap_09,sp_0b,n_0c⟩=> [⟨o_05,60,row encHd hh_00 sp_0b⟩,⟨none,CLU,cluC encI64 hh_00 xt_02⟩]) ?_ ?_)))))))))))))))))))))
 ·refine jc_block ?_
  obtain⟨t_0l,ht_0v,hr_0w⟩:=bd h
  refine jl (fun(s:(List (List Int))×Int) (x:(List Hd)×(Option Nat)×Nat×(List Value)×Nat)=>match s,x with | ⟨xt_1,i_4⟩,⟨hh_0,o_5,cap_01,sp_03,n_0d⟩=>(hh_0.length=n_0d)∧(hS o_5 n_0d cap_01 sp_03 1)∧(hO o_5 hh_0 cap_01)∧(InP hh_0 xt_1)) (fun⟨xt_1,i_4⟩ ⟨hh_0,o_5,cap_01,sp_03,n_0d⟩=> [(0,[],(.slice A_a list0.length A_c)),(2,[],(.slice none 0 0)),(3,[],(.slice (mB o_5) n_0d cap_01)),(10,[],(.slice A_a list0.length A_c)),(11,[],(vI (list0.length:Int))),(12,[],(vI i_4))]) (fun⟨xt_1,i_4⟩ ⟨hh_0,o_5,cap_01,sp_03,n_0d⟩=> [⟨o_5,60,row encHd hh_0 sp_03⟩,⟨none,CLU,cluC encI64 hh_0 xt_1⟩]) ht_0v ⟨([]:List Hd),(some b_0u),0,[],0⟩ ⟨rfl,(fun _=>⟨Nat.le_refl _,by simp⟩),(fun e=>nomatch e),InP.nil⟩ [0,1] ?_
  rintro⟨xt_1,i_4⟩ ⟨hh_0,o_5,cap_01,sp_03,n_0d⟩ y_0m ⟨rfl,hs_0n,ho_0o,hI_2655⟩ h
  rw [F7.l_3] at h
  refine jc_seq (jc_region (qh [0] (qe (jx_then (jc_seq (qi h (fun h=> ?_) (fun h=> ?_)))))))
  ·refine jc_skip (jx_then (jc_seq (jc_block (jc_seq (jc_region ?_)))))
   obtain⟨x_7,hx_0i,h⟩:=bd h
   refine tO (qx 0 A_a 96 hx_0i rfl (A_h.sp hx_0i) (jkO (tO (p_ldx 0 (aB A_a) (aO A_a+i_4.toNat*96) (encA96U32 x_7) 96 (by kernel_rfl) (by kernel_rfl) (encA96U32_len x_7) (fun w hm=>((hm.xr A_h).at hx_0i)) (jkO (tO (qa 0 (fun b_0h=>jkO (tO (pS 0 2 b_0h 96 1 40 encU32 (Arr.rep 96 0) x_7 encU32_len encU32_cell (jkO (qe (jx_then (jc_seq (jc_region (tO (qa 0 (fun b_0x=>jkO (qh [0] (qe (jx_then (jc_seq (jc_seq (jc_region (qh [0,0,0] (qe (jx_then (jc_meet (fun(j:(List Int)×(Option Nat)×Nat×(List Value)×Nat)=>match j with | ⟨xs_2,o_6,cap_8,sp_0e,n_0f⟩=>F7.k_7 xt_1 i_4 xs_2=some y_0m∧(xs_2.length=n_0f)∧(hS o_6 n_0f cap_8 sp_0e 1)∧(hO o_6 xs_2 cap_8)) (fun⟨xs_2,o_6,cap_8,sp_0e,n_0f⟩=> [(0,[],(.slice A_a list0.length A_c)),(2,[],(.slice none 0 0)),(3,[],(.slice (mB o_5) hh_0.length cap_01)),(6,[],(.slice (mB o_6) n_0f cap_8)),(10,[],(.slice A_a list0.length A_c)),(11,[],(vI (list0.length:Int))),(12,[],(vI i_4))]) (fun⟨xs_2,o_6,cap_8,sp_0e,n_0f⟩=> [⟨o_5,60,row encHd hh_0 sp_03⟩,⟨none,CLU,cluC encI64 hh_0 xt_1⟩,⟨(some b_0h),40,row encU32 x_7.1 []⟩,⟨o_6,2,row encI64 xs_2 sp_0e⟩]) ?_ ?_))))))))))))))))))))))))))))
   ·refine jc_block ?_
    obtain⟨t_0k,ht_0y,hr_0z⟩:=bd h
    refine jl (fun(s:(List Int)×Int) (x:(Option Nat)×Nat×(List Value)×Nat)=>match s,x with | ⟨xs_3,i_9⟩,⟨o_04,cap_06,sp_0a,n_0g⟩=>(xs_3.length=n_0g)∧(hS o_04 n_0g cap_06 sp_0a 1)∧(hO o_04 xs_3 cap_06)) (fun⟨xs_3,i_9⟩ ⟨o_04,cap_06,sp_0a,n_0g⟩=> [(0,[],(.slice A_a list0.length A_c)),(2,[],(.slice none 0 0)),(3,[],(.slice (mB o_5) hh_0.length cap_01)),(5,[],(vP b_0h)),(6,[],(.slice (mB o_04) n_0g cap_06)),(10,[],(.slice A_a list0.length A_c)),(11,[],(vI (list0.length:Int))),(12,[],(vI i_4)),(17,[],(.slice A_a list0.length A_c)),(18,[],(vI (list0.length:Int))),(19,[],(vI i_9))]) (fun⟨xs_3,i_9⟩ ⟨o_04,cap_06,sp_0a,n_0g⟩=> [⟨o_5,60,row encHd hh_0 sp_03⟩,⟨none,CLU,cluC encI64 hh_0 xt_1⟩,⟨(some b_0h),40,row encU32 x_7.1 []⟩,⟨o_04,2,row encI64 xs_3 sp_0a⟩]) ht_0y ⟨(some b_0x),0,[],0⟩ ⟨rfl,(fun _=>⟨Nat.le_refl _,by simp⟩),(fun e=>nomatch e)⟩ [0,1,2,3] ?_
    rintro⟨xs_3,i_9⟩ ⟨o_04,cap_06,sp_0a,n_0g⟩ y_1i ⟨rfl,hs_0p,ho_0q⟩ h
    rw [F7.l_10] at h
    refine jc_seq (jc_region (qh [0] (qe (jx_then (jc_seq (qi h (fun h=> ?_) (fun h=> ?_)))))))
    ·refine jc_skip (jx_then (jc_seq (jc_block (jc_seq (jc_region ?_)))))
     obtain⟨x_07,hx_0j,h⟩:=bd h
     refine tO (qx 0 A_a 96 hx_0j rfl (A_h.sp hx_0j) (jkO (tO (p_ldx 0 (aB A_a) (aO A_a+i_9.toNat*96) (encA96U32 x_07) 96 (by kernel_rfl) (by kernel_rfl) (encA96U32_len x_07) (fun w hm=>((hm.xr A_h).at hx_0j)) (jkO (tO (qa 0 (fun b_0r=>jkO (tO (pS 0 4 b_0r 96 1 40 encU32 (Arr.rep 96 0) x_07 encU32_len encU32_cell (jkO (qe (jx_then (jc_region (qh [0] (tO (pL 0 2 b_0h 96 1 40 encU32 x_7 encU32_len (jkO (tO (pL 0 4 b_0r 96 1 40 encU32 x_07 encU32_len (jkO ?_)))))))))))))))))))))
     obtain⟨t_08,ht_10,h⟩:=bd h
     refine tO (pq 0 (fun w hm=>FbR.calls x_7 x_07 w _ ht_10) (jkO (tO (qa 0 (fun b_0s=>jkO ?_)))))
     obtain⟨hg_11,h⟩:=gd h
     exact tO (pA 0 3 o_04 2 xs_3.length 1 cap_06 1 8 (sB b_0s) encI64 xs_3 ([t_08]:List Int) sp_0a (vI 0) rfl rfl encI64_len encI64_cell hs_0p ho_0q (fun w hm=>(hm.ow 5 (some b_0s) 2 ([t_08]:List Int) [] (fun e=>nomatch e) encI64_len)) hg_11 (fun o_12 cap_13 sp_14 hs_15 ho_16=>jkO (qh [0] (qe (jx_inn (jx_then (jc_region (qh [0,0] (qe (qb ((xs_3++([t_08]:List Int)),(w64 (i_9+1))) ⟨o_12,cap_13,sp_14,(xs_3++([t_08]:List Int)).length⟩ h ⟨rfl,hs_15,ho_16⟩ [0,1,2,3]))))))))))
    ·refine jc_exit (jx_thenx (jx_leave xs_3 (sj h) (fun e_17=> ?_)))
     subst e_17
     exact jx_ine (qm ⟨xs_3,o_04,cap_06,sp_0a,xs_3.length⟩ ⟨hr_0z,rfl,hs_0p,ho_0q⟩ [0,1,2,3])
   ·rintro⟨xs_2,o_6,cap_8,sp_0e,n_0f⟩ ⟨h,rfl,hs_1j,ho_18⟩
    replace h:F7.k_7 xt_1 i_4 xs_2=some y_0m:=h
    rw [F7.k_7] at h
    refine jx_then (jc_region (qh [0,0] (tO (qa 0 (fun b_0t=>jkO ?_)))))
    obtain⟨hg_19,h⟩:=gd h
    exact tO (pA 0 0 o_5 60 hh_0.length 1 cap_01 1 24 (sB b_0t) encHd hh_0 [(Hd.mk (mB o_6) xs_2.length cap_8)] sp_03 (.slice none 0 0) rfl rfl encHd_len encHd_cell hs_0n ho_0o (fun w hm=>(hm.ow 4 (some b_0t) 60 ([(Hd.mk (mB o_6) xs_2.length cap_8)]) [] (fun e=>nomatch e) encHd_len)) (tabbig hI_2655 hg_19) (fun o_1a cap_1b sp_1c hs_1d ho_1e=>jk_frz (enc:=encI64) (hs:=hh_0) (xss:=xt_1) (o:=o_6) (T:=2) (xs:=xs_2) (sp:=sp_0e) 1 3 xs_2.length cap_8 hI_2655 (jkO (qh [0] (qe (jx_inn (jx_then (jc_region (qh [0,0] (qe (qb ((xt_1++ [xs_2]),(w64 (i_4+1))) ⟨(hh_0++ [(Hd.mk (mB o_6) xs_2.length cap_8)]),o_1a,cap_1b,sp_1c,(hh_0++ [(Hd.mk (mB o_6) xs_2.length cap_8)]).length⟩ h ⟨rfl,hs_1d,ho_1e,(hI_2655.snoc (o:=o_6) rfl (fun e=>(ho_18 e).1))⟩ [0,1])))))))))))
  ·refine jc_exit (jx_thenx (jx_leave xt_1 (sj h) (fun e_1f=> ?_)))
   subst e_1f
   exact jx_ine (qm ⟨xt_1,hh_0,o_5,cap_01,sp_03,hh_0.length⟩ ⟨hr_0w,rfl,hs_0n,ho_0o,hI_2655⟩ [0,1])
 ·rintro⟨xt_02,hh_00,o_05,cap_09,sp_0b,n_0c⟩ ⟨h,rfl,hs_1g,ho_1h,hI_2173⟩
  replace h:F7.k_1 xt_02=some r:=h
  rw [F7.k_1] at h
  refine jx_then (jc_seq (jc_region (qh [0,0] (qe (jx_then (jc_ret ?_))))))
  obtain rfl:=si h
  exact qr [] (fun w hm=>⟨o_05,cap_09,sp_0b,hh_00.length,hh_00,hI_2173,rfl,hs_1g,ho_1h,rfl,hm.pk [0,1]⟩)
def FbQ(first0:Int):Option ((List Int)):=(if(decide (first0<0))=true then some [] else some ([first0]:List Int))
theorem FbQ.calls(first0:Int)(w:World)(r:(List Int))(h:FbQ first0=some r):
   Calls Tryz.prog 98 #[(vI first0)] w fun e w'=>∃v,e= .returned v∧(∃(o0:Option Nat) (c0:Nat) (s0:List Value) (n0:Nat),r.length=n0∧(hS o0 n0 c0 s0 1)∧(hO o0 r c0)∧v= .slice (mB o0) n0 c0∧Mem w [] [⟨o0,2,row encI64 r s0⟩] w'):=by
 rw [FbQ] at h
 refine en Tryz.func98 rfl Tryz.ntmps98 (jc_seq (jc_region (qh [0] (qe (jx_then (jc_seq (jc_seq (jc_region (qh [0,0] (qe (jx_then (qi h (fun h=> ?_) (fun h=> ?_)))))))))))))
 ·refine jc_seq (jc_region (qh [0] (qe (jx_then (jc_ret (jx_thenr ?_))))))
  obtain rfl:=si h
  exact jx_ghost 2 encI64 (qr [] (fun w hm=>⟨none,0,[],0,rfl,(fun e=>absurd rfl e),(fun _=>⟨rfl,rfl⟩),rfl,hm.pk [0]⟩))
 ·refine jc_skip (jx_then (jc_seq (jc_region (qh [0] (tO (qa 0 (fun b_0=>jkO (qh [0] (qe (jx_then (jc_ret ?_)))))))))))
  obtain rfl:=si h
  exact qr [] (fun w hm=>⟨(some b_0),1,[],1,rfl,(fun _=>⟨Nat.le_refl _,by simp⟩),(fun e=>nomatch e),rfl,hm.pk [0]⟩)
def FX.k_2(i_2:Int):Option (Int):=some i_2
def FX.l_5(table0:List (List Int))(order1:List Int):(Int×Int)→Option ((Int×Int)⊕(Int))
 | (i_0,i_1)=>(if(decide (i_1<(order1.length:Int)))=true then(ix order1 (w64 (i_1-1))).bind fun x_4=>(ix table0 x_4).bind fun x_9=>(ix order1 i_1).bind fun x_00=>(ix x_9 x_00).bind fun x_5=>some (.inl ((w64 (i_0+x_5)),(w64 (i_1+1)))) else some (.inr i_0))
def FX(table0:List (List Int))(order1:List Int):Option (Int):=(loop (FX.l_5 table0 order1) (0,1)).bind fun t_01=>FX.k_2 t_01
theorem FX.calls(table0:List (List Int))(order1:List Int)(w:World)(r:Int){A_a:Option Addr}{A_an:Nat}(A_c:Nat){A_hs:List Hd}(A_h:Rw w A_a 1 encHd A_hs)(A_hn:table0.length=A_an)(A_i:Inn w [] 1 encI64 A_hs table0){B_a:Option Addr}{B_an:Nat}(B_c:Nat)(B_h:Rw w B_a 1 encI64 order1)(B_hn:order1.length=B_an)(h:FX table0 order1=some r):
   Calls Tryz.prog 100 #[(.slice A_a A_an A_c),(.slice B_a B_an B_c)] w fun e w'=>∃v,e= .returned v∧(v=(vI r)∧Mem w [] [] w'):=by
 subst A_hn B_hn
 rw [FX] at h
 refine en Tryz.func100 rfl Tryz.ntmps100 (jc_seq (jc_region (qh [0] (qe (jx_then (jc_seq (jc_region (qh [0] (qe (jx_then (jc_seq (jc_seq (jc_region (qh [0] (qe (jx_then (jc_meet (fun(i_2:Int)=>FX.k_2 i_2=some r) (fun i_2=> [(4,[],(vI 0)),(5,[],(vI i_2))]) (fun i_2=> []) ?_ ?_)))))))))))))))))
 ·refine jc_block ?_
  obtain⟨t_01,ht_02,hr_03⟩:=bd h
  refine jl (fun(s:Int×Int) (x:Unit)=>match s,x with | ⟨i_0,i_1⟩,_=>True) (fun⟨i_0,i_1⟩ _=> [(0,[],(.slice A_a table0.length A_c)),(1,[],(.slice B_a order1.length B_c)),(4,[],(vI 0)),(5,[],(vI i_0)),(6,[],(vI i_1))]) (fun⟨i_0,i_1⟩ _=> []) ht_02 () trivial [] ?_
  rintro⟨i_0,i_1⟩ _ y_05 _ h
  rw [FX.l_5] at h
  refine jc_seq (jc_seq (jc_region (qh [0,0,0,0] (qe (jx_then (qi h (fun h=> ?_) (fun h=> ?_)))))))
  ·refine jc_skip (jx_then (jc_seq (jc_block (qg [] 17 (qd [⟨0,0,0⟩,⟨1,0,0⟩,⟨2,0,0⟩,⟨3,0,0⟩,⟨4,0,0⟩,⟨9,0,0⟩,⟨10,0,0⟩] 10 [] ?_)))))
   obtain⟨x_4,hx_6,h⟩:=bd h
   refine qX 5 0 [] B_a 1 hx_6 rfl (B_h.sp hx_6) (qL 6 0 [] false (fun w hm=>(hm.xr B_h).at hx_6) ?_)
   obtain⟨x_9,hx_3,h⟩:=bd h
   refine qX 7 0 [] A_a 1 hx_3 rfl (A_h.sp (A_i.ixh hx_3)) (qL 8 0 [] false (fun w hm=>(hm.xr A_h).at (A_i.ixh hx_3)) ?_)
   obtain⟨x_00,hx_7,h⟩:=bd h
   refine qX 11 0 [] B_a 1 hx_7 rfl (B_h.sp hx_7) (qL 12 0 [] false (fun w hm=>(hm.xr B_h).at hx_7) ?_)
   obtain⟨x_5,hx_8,h⟩:=bd h
   exact qX 13 0 [] ((hd A_hs x_4).a) 1 hx_8 (A_i.get hx_3).2.1 ((A_i.get hx_3).1.sp hx_8) (qL 14 0 [] false (fun w hm=>(hm.exRow (A_i.get hx_3).1 List.not_mem_nil).at hx_8) (qd [⟨15,0,0⟩,⟨16,0,0⟩] 0 [] (qz (jx_inn (jx_then (jc_region (qh [0,0,0] (qe (qb ((w64 (i_0+x_5)),(w64 (i_1+1))) () h trivial [])))))))))
  ·refine jc_exit (jx_thenx (jx_leave i_0 (sj h) (fun e_04=> ?_)))
   subst e_04
   exact jx_ine (qm i_0 hr_03 [])
 ·rintro i_2 h
  replace h:FX.k_2 i_2=some r:=h
  rw [FX.k_2] at h
  refine jx_then (jc_seq (jc_region (qh [0,0] (qe (jx_then (jc_ret ?_))))))
  obtain rfl:=si h
  exact qr [] (fun w hm=>⟨rfl,hm.pk []⟩)
def FaC(order0:List Int)(p1:List (List Int))(p2:Int)(p3:List Int):Option (Int×(List Int)):=(FX p1 order0).bind fun t_0=>(if((decide (p2<0)) || (decide (t_0<p2)))=true then some (t_0,order0) else some (p2,p3))
theorem FaC.calls(order0:List Int)(p1:List (List Int))(p2:Int)(p3:List Int)(w:World)(r:Int×(List Int)){A_a:Option Addr}{A_an:Nat}(A_c:Nat)(A_h:Rw w A_a 1 encI64 order0)(A_hn:order0.length=A_an){B_a:Option Addr}{B_an:Nat}(B_c:Nat){B_hs:List Hd}(B_h:Rw w B_a 1 encHd B_hs)(B_hn:p1.length=B_an){D_a:Option Addr}{D_an:Nat}(D_c:Nat)(D_hn:p3.length=D_an)(B_b:Nat)(C_b:Nat)(D_b:Nat)(hm0:Mem w (bs [some B_b,some C_b,some D_b]) [⟨some B_b,149,[(.slice B_a B_an B_c)]⟩,⟨some C_b,2,[(vI p2)]⟩,⟨some D_b,60,[(.slice D_a D_an D_c)]⟩] w)(A_ha:order0≠ []→aB A_a∉bs [some B_b,some C_b,some D_b])(B_ha:B_hs≠ []→aB B_a∉bs [some B_b,some C_b,some D_b])(B_i:Inn w (bs [some B_b,some C_b,some D_b]) 1 encI64 B_hs p1)(h:FaC order0 p1 p2 p3=some r):
   Calls Tryz.prog 99 #[(.slice A_a A_an A_c),(vP B_b),(vP C_b),(vP D_b)] w fun e w'=>∃v,e= .returned v∧(∃(lo:Option Nat) (la:Option Addr) (lc:Nat) (lsp:List Value) (ln:Nat),r.2.length=ln∧LsB lo la lc lsp ln r.2 1 [(D_a,D_c,p3),(A_a,A_c,order0)]∧v= .tuple #[]∧Mem w (bs [some B_b,some C_b,some D_b]) [⟨some B_b,149,[(.slice B_a B_an B_c)]⟩,⟨some C_b,2,[(vI r.1)]⟩,⟨some D_b,60,[(.slice la ln lc)]⟩,⟨lo,2,row encI64 r.2 lsp⟩] w'):=by
 subst A_hn B_hn D_hn
 rw [FaC] at h
 refine enter (args:= [(.slice A_a order0.length A_c),(vP B_b),(vP C_b),(vP D_b)]) Tryz.func99 rfl Tryz.ntmps99 (by kernel_rfl) (L:= [⟨some B_b,149,[(.slice B_a p1.length B_c)]⟩,⟨some C_b,2,[(vI p2)]⟩,⟨some D_b,60,[(.slice D_a p3.length D_c)]⟩]) (W:=bs [some B_b,some C_b,some D_b]) hm0 (jc_ghostX 2 encI64 p3 (jc_seq (jc_region (qh [0,0] ?_))))
 obtain⟨t_0,ht_0,h⟩:=bd h
 refine tO (pq 0 (fun w hm=>FX.calls p1 order0 w _ B_c (hm.exRowW B_h B_ha) rfl (hm.ip B_i []) A_c (hm.exRowW A_h A_ha) rfl ht_0) (jkO (qh [0] (qe (jx_then (jc_seq (jc_region (qf [(1,0),(0,0),(0,0),(0,1),(1,1),(0,1),(0,0)] (qe (jx_then (qi h (fun h=> ?_) (fun h=> ?_))))))))))))
 ·refine jc_region (qh [0,0] (tO (qs 0 [2] (jk_lsN 3 2 encI64 order0 (jkO (tO (qs 0 [1] (jkO (qe (jx_fall ?_))))))))))
  obtain rfl:=si h
  exact qr [] (fun w hm=>⟨(none:Option Nat),A_a,A_c,[],order0.length,rfl,ls1,rfl,hm.pk [0,1,2,3]⟩)
 ·refine jc_skip (jx_fall ?_)
  obtain rfl:=si h
  exact qr [] (fun w hm=>⟨(none:Option Nat),D_a,D_c,[],p3.length,rfl,ls0,rfl,hm.pk [0,1,2,3]⟩)
def F5.k_1:Option (Int):=some (-1)
def F5.l_3(s0:List Int)(v1:Int):Int→Option ((Int)⊕(Int⊕Unit))
 | i_0=>(if(decide (i_0<(s0.length:Int)))=true then(ix s0 i_0).bind fun x_2=>(if(v1==x_2)=true then some (.inr (.inl i_0)) else some (.inl (w64 (i_0+1)))) else some (.inr (.inr ())))
def F5(s0:List Int)(v1:Int):Option (Int):=(loop (F5.l_3 s0 v1) 0).bind fun t_3=>match t_3 with | .inl p=>some p | .inr p=>F5.k_1
theorem F5.calls(s0:List Int)(v1:Int)(w:World)(r:Int){A_a:Option Addr}{A_an:Nat}(A_c:Nat)(A_h:Rw w A_a 1 encI64 s0)(A_hn:s0.length=A_an)(h:F5 s0 v1=some r):
   Calls Tryz.prog 213 #[(.slice A_a A_an A_c),(vI v1)] w fun e w'=>∃v,e= .returned v∧(v=(vI r)∧Mem w [] [] w'):=by
 subst A_hn
 rw [F5] at h
 refine en Tryz.func213 rfl Tryz.ntmps213 (jc_seq (jc_region (qh [0] (qe (jx_then (jc_seq (jc_seq (jc_region (qh [0,0,0] (qe (jx_then (jc_meet (fun(_:Unit)=>F5.k_1=some r) (fun(_:Unit)=> [(4,[],(vI 0))]) (fun(_:Unit)=> []) ?_ ?_))))))))))))
 ·refine jc_block ?_
  obtain⟨t_3,ht_5,hr_4⟩:=bd h
  refine jl (fun(i_0:Int) (_:Unit)=>True) (fun i_0 _=> [(0,[],(.slice A_a s0.length A_c)),(1,[],(vI v1)),(4,[],(vI 0)),(7,[],(vI (s0.length:Int))),(8,[],(vI i_0))]) (fun i_0 _=> []) ht_5 () trivial [] ?_
  rintro i_0 _ y_8 _ h
  rw [F5.l_3] at h
  refine jc_seq (jc_region (qh [0] (qe (jx_then (jc_seq (qi h (fun h=> ?_) (fun h=> ?_)))))))
  ·refine jc_skip (jx_then (jc_seq (jc_block (jc_seq (jc_region (qh [0,0] (qe (jx_then (jc_seq (jc_region (qh [0,0,0] ?_)))))))))))
   obtain⟨x_2,hx_1,h⟩:=bd h
   refine tO (qx 0 A_a 1 hx_1 rfl (A_h.sp hx_1) (jkO (tO (ql 0 false (fun w hm=>((hm.xr A_h).at hx_1)) (jkO (qh [0] (qe (jx_then (qi h (fun h=> ?_) (fun h=> ?_))))))))))
   ·refine jc_seq (jc_region (qh [0,0] (qe (jx_then (jc_ret (jx_inr (jx_thenr (jx_leaver (.inl i_0) (sj h) (fun e_6=> ?_)))))))))
    subst e_6
    refine jx_inr (jx_thenr (jx_thenr ?_))
    obtain rfl:=si hr_4
    exact qr [] (fun w hm=>⟨rfl,hm.pk []⟩)
   ·exact jc_skip (jx_inn (jx_then (jc_region (qh [0,0] (qe (qb (w64 (i_0+1)) () h trivial []))))))
  ·refine jc_exit (jx_thenx (jx_leave (.inr ()) (sj h) (fun e_7=> ?_)))
   subst e_7
   exact jx_ine (qm () hr_4 [])
 ·rintro _ h
  replace h:F5.k_1=some r:=h
  rw [F5.k_1] at h
  refine jx_then (jc_seq (jc_region (qh [0] (qe (jx_then (jc_ret ?_))))))
  obtain rfl:=si h
  exact qr [] (fun w hm=>⟨rfl,hm.pk []⟩)
def Faw(s0:List Int)(v1:Int):Option (Bool):=(F5 s0 v1).bind fun t_0=>some (decide (t_0≥0))
theorem Faw.calls(s0:List Int)(v1:Int)(w:World)(r:Bool){A_a:Option Addr}{A_an:Nat}(A_c:Nat)(A_h:Rw w A_a 1 encI64 s0)(A_hn:s0.length=A_an)(h:Faw s0 v1=some r):
   Calls Tryz.prog 170 #[(.slice A_a A_an A_c),(vI v1)] w fun e w'=>∃v,e= .returned v∧(v=(.bool r)∧Mem w [] [] w'):=by
 subst A_hn
 rw [Faw] at h
 refine en Tryz.func170 rfl Tryz.ntmps170 (jc_seq (jc_region (qh [0] (qe (jx_then (jc_seq (jc_region (qh [0,0] ?_))))))))
 obtain⟨t_0,ht_0,h⟩:=bd h
 refine tO (pq 0 (fun w hm=>F5.calls s0 v1 w _ A_c (hm.xr A_h) rfl ht_0) (jkO (qh [0,0] (qe (jx_then (jc_ret ?_))))))
 obtain rfl:=si h
 exact qr [] (fun w hm=>⟨rfl,hm.pk []⟩)
def FaT(s0:List Int):Option ((List Int)):=(if([]:List Int).length+s0.length≤4294967296 then some (([]:List Int)++s0) else none)
theorem FaT.calls(s0:List Int)(w:World)(r:(List Int)){A_a:Option Addr}{A_an:Nat}(A_c:Nat)(A_h:Rw w A_a 1 encI64 s0)(A_hn:s0.length=A_an)(h:FaT s0=some r):
   Calls Tryz.prog 171 #[(.slice A_a A_an A_c)] w fun e w'=>∃v,e= .returned v∧(∃(o0:Option Nat) (c0:Nat) (s0:List Value) (n0:Nat),r.length=n0∧(hS o0 n0 c0 s0 1)∧(hO o0 r c0)∧v= .slice (mB o0) n0 c0∧Mem w [] [⟨o0,2,row encI64 r s0⟩] w'):=by
 subst A_hn
 rw [FaT] at h
 refine en Tryz.func171 rfl Tryz.ntmps171 (jc_seq (jc_region (qh [0] (qe (jx_then (jc_seq (jc_seq (jc_region (qh [0] ?_)))))))))
 by_cases hn_0:A_a=none
 ·have hx0:s0= []:=(nil_of A_h hn_0)
  replace h:some []=some r:=by simpa [hx0] using h
  refine tO (pN 0 A_a true true (by rw [hn_0];rfl) (jkO (qe (jx_then (jq true (fun hc_1=>(jc_seq (jc_region (qh [0] (qe (jx_then (jc_ret (jx_thenr ?_)))))))) (fun hc_1=>nomatch hc_1))))))
  obtain rfl:=si h
  exact jx_ghost 2 encI64 (qr [] (fun w hm=>⟨none,0,[],0,rfl,(fun e=>absurd rfl e),(fun _=>⟨rfl,rfl⟩),rfl,hm.pk [0]⟩))
 ·refine tO (pN 0 A_a true false (by rw [Option.isNone_eq_false_iff.2 (Option.ne_none_iff_isSome.1 hn_0)];rfl) (jkO (qe (jx_then (jq false (fun hc_2=>nomatch hc_2) (fun hc_2=>(jc_skip (jx_then (jc_seq (jc_region (tO (qa 0 (fun b_3=>jkO (qh [0] ?_))))))))))))))
  obtain⟨hg_4,h⟩:=gd h
  refine tO (pA 0 0 (some b_3) 2 0 s0.length 0 1 8 A_a encI64 ([]:List Int) s0 [] (vI 0) rfl rfl encI64_len encI64_cell (fun _=>⟨Nat.le_refl _,by simp⟩) (fun e=>nomatch e) (fun w hm=>(hm.xr A_h)) hg_4 (fun o_5 cap_6 sp_7 hs_8 ho_9=>jkO (qh [0] (qe (jx_then (jc_ret ?_))))))
  obtain rfl:=si h
  exact qr [] (fun w hm=>⟨o_5,cap_6,sp_7,((([]:List Int)++s0).length),rfl,hs_8,ho_9,rfl,hm.pk [0]⟩)
def Fi.k_6(xs_4:List Int)(i_7:Int):Option (Int×(List Int)):=some (i_7,xs_4)
def Fi.l_11(self_:Int→(List Int)→(List (List Int))→Int→(List Int)→Option (Int×(List Int)))(n0:Int)(order1:List Int)(g2c0:List (List Int)):((List Int)×Int×Int)→Option (((List Int)×Int×Int)⊕(((List Int)×Int)))
 | (xs_1,i_2,i_0)=>(if(decide (i_0<n0))=true then(Faw order1 i_0).bind fun t_09=>(if(!t_09)=true then(FaT order1).bind fun t_5=>(if t_5.length+([i_0]:List Int).length≤4294967296 then(self_ n0 (t_5++([i_0]:List Int)) g2c0 i_2 xs_1).bind fun t_3=>some (.inl (t_3.2,t_3.1,(w64 (i_0+1)))) else none) else some (.inl (xs_1,i_2,(w64 (i_0+1))))) else some (.inr (xs_1,i_2)))
def Fi.step(self_:Int→(List Int)→(List (List Int))→Int→(List Int)→Option (Int×(List Int)))(n0:Int)(order1:List Int)(g2c0:List (List Int))(g2c1:Int)(g2c2:List Int):Option (Int×(List Int)):=(if((order1.length:Int)==n0)=true then(FaC order1 g2c0 g2c1 g2c2).bind fun t_8=>some (t_8.1,t_8.2) else(loop (Fi.l_11 self_ n0 order1 g2c0) (g2c2,g2c1,0)).bind fun t_08=>Fi.k_6 t_08.1 t_08.2)
def Fi.rec_:Nat→Int→(List Int)→(List (List Int))→Int→(List Int)→Option (Int×(List Int))
 | 0=>fun n0 order1 g2c0 g2c1 g2c2=>none
 | fu+1=>Fi.step (Fi.rec_ fu)
def Fi(n0:Int)(order1:List Int)(g2c0:List (List Int))(g2c1:Int)(g2c2:List Int):Option (Int×(List Int)):=Fi.rec_ 16 n0 order1 g2c0 g2c1 g2c2
theorem Fi.step_calls(self_:Int→(List Int)→(List (List Int))→Int→(List Int)→Option (Int×(List Int)))(hself:∀(n0:Int) (order1:List Int) (g2c0:List (List Int)) (g2c1:Int) (g2c2:List Int) (w:World) (r:Int×(List Int)) {B_a:Option Addr} {B_an:Nat} (B_c:Nat) (B_h:Rw w B_a 1 encI64 order1) (B_hn:order1.length=B_an) {C_a:Option Addr} {C_an:Nat} (C_c:Nat) {C_hs:List Hd} (C_h:Rw w C_a 1 encHd C_hs) (C_hn:g2c0.length=C_an) {E_a:Option Addr} {E_an:Nat} (E_c:Nat) (E_hn:g2c2.length=E_an) (C_b:Nat) (D_b:Nat) (E_b:Nat) (hm0:Mem w (bs [some C_b,some D_b,some E_b]) [⟨some C_b,149,[(.slice C_a C_an C_c)]⟩,⟨some D_b,2,[(vI g2c1)]⟩,⟨some E_b,60,[(.slice E_a E_an E_c)]⟩] w) (B_ha:order1≠ []→aB B_a∉bs [some C_b,some D_b,some E_b]) (C_ha:C_hs≠ []→aB C_a∉bs [some C_b,some D_b,some E_b]) (C_i:Inn w (bs [some C_b,some D_b,some E_b]) 1 encI64 C_hs g2c0) (h:self_ n0 order1 g2c0 g2c1 g2c2=some r),
   Calls Tryz.prog 97 #[(vI n0),(.slice B_a B_an B_c),(.func (.func 99) #[] #[(vP C_b),(vP D_b),(vP E_b)])] w fun e w'=>∃v,e= .returned v∧(∃(lo:Option Nat) (la:Option Addr) (lc:Nat) (lsp:List Value) (ln:Nat),r.2.length=ln∧LsB lo la lc lsp ln r.2 1 [(E_a,E_c,g2c2),(B_a,B_c,order1)]∧v= .tuple #[]∧Mem w (bs [some C_b,some D_b,some E_b]) [⟨some C_b,149,[(.slice C_a C_an C_c)]⟩,⟨some D_b,2,[(vI r.1)]⟩,⟨some E_b,60,[(.slice la ln lc)]⟩,⟨lo,2,row encI64 r.2 lsp⟩] w')) (n0:Int) (order1:List Int) (g2c0:List (List Int)) (g2c1:Int) (g2c2:List Int) (w:World) (r:Int×(List Int)) {B_a:Option Addr} {B_an:Nat} (B_c:Nat) (B_h:Rw w B_a 1 encI64 order1) (B_hn:order1.length=B_an) {C_a:Option Addr} {C_an:Nat} (C_c:Nat) {C_hs:List Hd} (C_h:Rw w C_a 1 encHd C_hs) (C_hn:g2c0.length=C_an) {E_a:Option Addr} {E_an:Nat} (E_c:Nat) (E_hn:g2c2.length=E_an) (C_b:Nat) (D_b:Nat) (E_b:Nat) (hm0:Mem w (bs [some C_b,some D_b,some E_b]) [⟨some C_b,149,[(.slice C_a C_an C_c)]⟩,⟨some D_b,2,[(vI g2c1)]⟩,⟨some E_b,60,[(.slice E_a E_an E_c)]⟩] w) (B_ha:order1≠ []→aB B_a∉bs [some C_b,some D_b,some E_b]) (C_ha:C_hs≠ []→aB C_a∉bs [some C_b,some D_b,some E_b]) (C_i:Inn w (bs [some C_b,some D_b,some E_b]) 1 encI64 C_hs g2c0) (h:Fi.step self_ n0 order1 g2c0 g2c1 g2c2=some r):
   Calls Tryz.prog 97 #[(vI n0),(.slice B_a B_an B_c),(.func (.func 99) #[] #[(vP C_b),(vP D_b),(vP E_b)])] w fun e w'=>∃v,e= .returned v∧(∃(lo:Option Nat) (la:Option Addr) (lc:Nat) (lsp:List Value) (ln:Nat),r.2.length=ln∧LsB lo la lc lsp ln r.2 1 [(E_a,E_c,g2c2),(B_a,B_c,order1)]∧v= .tuple #[]∧Mem w (bs [some C_b,some D_b,some E_b]) [⟨some C_b,149,[(.slice C_a C_an C_c)]⟩,⟨some D_b,2,[(vI r.1)]⟩,⟨some E_b,60,[(.slice la ln lc)]⟩,⟨lo,2,row encI64 r.2 lsp⟩] w'):=by
 subst B_hn C_hn E_hn
 rw [Fi.step] at h
 refine enter (args:= [(vI n0),(.slice B_a order1.length B_c),(.func (.func 99) #[] #[(vP C_b),(vP D_b),(vP E_b)])]) Tryz.func97 rfl Tryz.ntmps97 (by kernel_rfl) (L:= [⟨some C_b,149,[(.slice C_a g2c0.length C_c)]⟩,⟨some D_b,2,[(vI g2c1)]⟩,⟨some E_b,60,[(.slice E_a g2c2.length E_c)]⟩]) (W:=bs [some C_b,some D_b,some E_b]) hm0 (jc_ghostX 2 encI64 g2c2 (jc_seq (jc_seq (jc_region (qh [0,0,0,0] (qe (jx_then (qi h (fun h=> ?_) (fun h=> ?_)))))))))
 ·refine jc_seq (jc_region (qh [0,0] ?_))
  obtain⟨t_8,ht_08,h⟩:=bd h
  refine tO (pc 0 (fun w hm=>FaC.calls order1 g2c0 g2c1 g2c2 w _ B_c (hm.exRowW B_h B_ha) rfl C_c (hm.exRowW C_h C_ha) rfl E_c rfl C_b D_b E_b (hm.ps (N:= [⟨some C_b,149,[(.slice C_a g2c0.length C_c)]⟩,⟨some D_b,2,[(vI g2c1)]⟩,⟨some E_b,60,[(.slice E_a g2c2.length E_c)]⟩]) [0,1,2]) (hm.xp B_h B_ha [0,1,2]) (hm.xp C_h C_ha [0,1,2]) (hm.ip C_i [0,1,2]) ht_08) ?_)
  rintro w v w' hm ⟨o_09,a_0f,cap_5,sp_3,_,rfl,hl_0a,rfl,hm'⟩
  obtain⟨o_0g,sp_0h,hl_0m,hM_20⟩:=Mem.ls2 (T:=2) (enc:=encI64) (o1:=(none:Option Nat)) (sp1:= []) (xs1:=g2c2) (o:=o_09) (sp:=sp_3) (xs:=t_8.2) (F:= [(E_a,E_c,g2c2),(B_a,B_c,order1)]) (hm.aw [0,1,2] hm') 3 4 (by kernel_rfl) (by kernel_rfl) (by kernel_rfl) ls0 rfl (.inl (List.mem_cons_of_mem _ List.mem_cons_self)) rfl hl_0a
  refine⟨_,Mem.pick hM_20 (N:= [⟨some C_b,149,[(.slice C_a g2c0.length C_c)]⟩,⟨some D_b,2,[(vI t_8.1)]⟩,⟨some E_b,60,[(.slice a_0f t_8.2.length cap_5)]⟩,⟨o_0g,2,row encI64 t_8.2 sp_0h⟩]) [0,1,2,3] (by kernel_rfl) (by kernel_rfl),jkO ?_⟩
  clear hm hm' hM_20
  refine qe (jx_then (jc_ret (jx_thenr ?_)))
  obtain rfl:=si h
  exact qr [] (fun w hm=>⟨o_0g,a_0f,cap_5,sp_0h,t_8.2.length,rfl,hl_0m,rfl,hm.pk [0,1,2,3]⟩)
 ·refine jc_skip (jx_then (jc_seq (jc_region (qh [0,0] (qe (jx_then (jc_meet (fun(j:(List Int)×Int×(Option Nat)×(Option Addr)×Nat×(List Value)×Nat)=>match j with | ⟨xs_4,i_7,o_02,a_03,cap_04,sp_05,n_06⟩=>Fi.k_6 xs_4 i_7=some r∧(xs_4.length=n_06)∧(LsB o_02 a_03 cap_04 sp_05 n_06 xs_4 1 [(E_a,E_c,g2c2),(B_a,B_c,order1)])) (fun⟨xs_4,i_7,o_02,a_03,cap_04,sp_05,n_06⟩=> []) (fun⟨xs_4,i_7,o_02,a_03,cap_04,sp_05,n_06⟩=> [⟨some C_b,149,[(.slice C_a g2c0.length C_c)]⟩,⟨some D_b,2,[(vI i_7)]⟩,⟨some E_b,60,[(.slice a_03 n_06 cap_04)]⟩,⟨o_02,2,row encI64 xs_4 sp_05⟩]) ?_ ?_)))))))
  ·refine jc_block ?_
   obtain⟨t_08,ht_0n,hr_0o⟩:=bd h
   refine jl (fun(s:(List Int)×Int×Int) (x:(Option Nat)×(Option Addr)×Nat×(List Value)×Nat)=>match s,x with | ⟨xs_1,i_2,i_0⟩,⟨o_9,a_00,cap_6,sp_01,n_07⟩=>(xs_1.length=n_07)∧(LsB o_9 a_00 cap_6 sp_01 n_07 xs_1 1 [(E_a,E_c,g2c2),(B_a,B_c,order1)])) (fun⟨xs_1,i_2,i_0⟩ ⟨o_9,a_00,cap_6,sp_01,n_07⟩=> [(0,[],(vI n0)),(1,[],(.slice B_a order1.length B_c)),(2,[],(.func (.func 99) #[] #[(vP C_b),(vP D_b),(vP E_b)])),(14,[],(vI n0)),(15,[],(vI i_0))]) (fun⟨xs_1,i_2,i_0⟩ ⟨o_9,a_00,cap_6,sp_01,n_07⟩=> [⟨some C_b,149,[(.slice C_a g2c0.length C_c)]⟩,⟨some D_b,2,[(vI i_2)]⟩,⟨some E_b,60,[(.slice a_00 n_07 cap_6)]⟩,⟨o_9,2,row encI64 xs_1 sp_01⟩]) ht_0n ⟨(none:Option Nat),E_a,E_c,[],g2c2.length⟩ ⟨rfl,ls0⟩ [0,1,2,3] ?_
   rintro⟨xs_1,i_2,i_0⟩ ⟨o_9,a_00,cap_6,sp_01,n_07⟩ y_16 ⟨rfl,hl_0b⟩ h
   rw [Fi.l_11] at h
   refine jc_seq (jc_region (qh [0] (qe (jx_then (jc_seq (qi h (fun h=> ?_) (fun h=> ?_)))))))
   ·refine jc_skip (jx_then (jc_seq (jc_block (jc_seq (jc_region (qh [0,0] (qe (jx_then (jc_seq (jc_region (qh [0,0] ?_)))))))))))
    obtain⟨t_09,ht_0p,h⟩:=bd h
    refine tO (pq 0 (fun w hm=>Faw.calls order1 i_0 w _ B_c (hm.exRowW B_h B_ha) rfl ht_0p) (jkO (qh [0] (qe (jx_then (qi h (fun h=> ?_) (fun h=> ?_)))))))
    ·refine jc_region (qh [0,0] ?_)
     obtain⟨t_5,ht_0q,h⟩:=bd h
     refine tO (pc 0 (fun w hm=>FaT.calls order1 w _ B_c (hm.exRowW B_h B_ha) rfl ht_0q) ?_)
     rintro w v w' hm ⟨o_0r,cap_0s,sp_0t,_,rfl,hs_0u,ho_0v,rfl,hm'⟩
     refine aq hm hm' (jkO (qh [0] (tO (qa 0 (fun b_0c=>jkO ?_)))))
     obtain⟨hg_0w,h⟩:=gd h
     refine tO (pA 0 4 o_0r 2 t_5.length 1 cap_0s 1 8 (sB b_0c) encI64 t_5 ([i_0]:List Int) sp_0t (vI 0) rfl rfl encI64_len encI64_cell hs_0u ho_0v (fun w hm=>(hm.ow 5 (some b_0c) 2 ([i_0]:List Int) [] (fun e=>nomatch e) encI64_len)) hg_0w (fun o_0d cap_0x sp_0i hs_0y ho_0e=>jkO (qh [0] ?_)))
     obtain⟨t_3,ht_0z,h⟩:=bd h
     refine tO (pc 0 (fun w hm=>hself n0 (t_5++([i_0]:List Int)) g2c0 i_2 xs_1 w _ cap_0x (hm.ow 4 o_0d 2 (t_5++([i_0]:List Int)) sp_0i (fun e=>(ho_0e e).1) encI64_len) rfl C_c (hm.exRowW C_h C_ha) rfl cap_6 rfl C_b D_b E_b (hm.ps (N:= [⟨some C_b,149,[(.slice C_a g2c0.length C_c)]⟩,⟨some D_b,2,[(vI i_2)]⟩,⟨some E_b,60,[(.slice a_00 xs_1.length cap_6)]⟩]) [0,1,2]) (hm.oa 4 o_0d (fun e=>(ho_0e e).1) [0,1,2]) (hm.xp C_h C_ha [0,1,2]) (hm.ip C_i [0,1,2]) ht_0z) ?_)
     rintro w v w' hm ⟨o_10,a_0a,cap_0j,sp_11,_,rfl,hl_12,rfl,hm'⟩
     obtain⟨o_0k,sp_0l,hl_13,hM_207⟩:=Mem.ls3 (T:=2) (enc:=encI64) (o1:=o_9) (sp1:=sp_01) (xs1:=xs_1) (o:=o_10) (sp:=sp_11) (xs:=t_3.2) (F:= [(E_a,E_c,g2c2),(B_a,B_c,order1)]) (o2:=o_0d) (sp2:=sp_0i) (xs2:=(t_5++([i_0]:List Int))) (hm.aw [0,1,2] hm') 3 4 6 (by kernel_rfl) (by kernel_rfl) (by kernel_rfl) (by kernel_rfl) hl_0b rfl hs_0y ho_0e rfl rfl hl_12
     refine⟨_,Mem.pick hM_207 (N:= [⟨some C_b,149,[(.slice C_a g2c0.length C_c)]⟩,⟨some D_b,2,[(vI t_3.1)]⟩,⟨some E_b,60,[(.slice a_0a t_3.2.length cap_0j)]⟩,⟨o_0k,2,row encI64 t_3.2 sp_0l⟩,⟨none,0,[]⟩,⟨(some b_0c),2,row encI64 ([i_0]:List Int) []⟩]) [0,1,2,3,4,5] (by kernel_rfl) (by kernel_rfl),jkO ?_⟩
     clear hm hm' hM_207
     exact qe (jx_inn (jx_then (jc_region (qh [0,0] (qe (qb (t_3.2,t_3.1,(w64 (i_0+1))) ⟨o_0k,a_0a,cap_0j,sp_0l,t_3.2.length⟩ h ⟨rfl,hl_13⟩ [0,1,2,3]))))))
    ·exact jc_skip (jx_inn (jx_then (jc_region (qh [0,0] (qe (qb (xs_1,i_2,(w64 (i_0+1))) ⟨o_9,a_00,cap_6,sp_01,xs_1.length⟩ h ⟨rfl,hl_0b⟩ [0,1,2,3]))))))
   ·refine jc_exit (jx_thenx (jx_leave (xs_1,i_2) (sj h) (fun e_14=> ?_)))
    subst e_14
    exact jx_ine (qm ⟨xs_1,i_2,o_9,a_00,cap_6,sp_01,xs_1.length⟩ ⟨hr_0o,rfl,hl_0b⟩ [0,1,2,3])
  ·rintro⟨xs_4,i_7,o_02,a_03,cap_04,sp_05,n_06⟩ ⟨h,rfl,hl_15⟩
   replace h:Fi.k_6 xs_4 i_7=some r:=h
   rw [Fi.k_6] at h
   refine jx_fall ?_
   obtain rfl:=si h
   exact qr [] (fun w hm=>⟨o_02,a_03,cap_04,sp_05,xs_4.length,rfl,hl_15,rfl,hm.pk [0,1,2,3]⟩)
theorem Fi.rec_calls(fu:Nat):∀(n0:Int) (order1:List Int) (g2c0:List (List Int)) (g2c1:Int) (g2c2:List Int) (w:World) (r:Int×(List Int)) {B_a:Option Addr} {B_an:Nat} (B_c:Nat) (B_h:Rw w B_a 1 encI64 order1) (B_hn:order1.length=B_an) {C_a:Option Addr} {C_an:Nat} (C_c:Nat) {C_hs:List Hd} (C_h:Rw w C_a 1 encHd C_hs) (C_hn:g2c0.length=C_an) {E_a:Option Addr} {E_an:Nat} (E_c:Nat) (E_hn:g2c2.length=E_an) (C_b:Nat) (D_b:Nat) (E_b:Nat) (hm0:Mem w (bs [some C_b,some D_b,some E_b]) [⟨some C_b,149,[(.slice C_a C_an C_c)]⟩,⟨some D_b,2,[(vI g2c1)]⟩,⟨some E_b,60,[(.slice E_a E_an E_c)]⟩] w) (B_ha:order1≠ []→aB B_a∉bs [some C_b,some D_b,some E_b]) (C_ha:C_hs≠ []→aB C_a∉bs [some C_b,some D_b,some E_b]) (C_i:Inn w (bs [some C_b,some D_b,some E_b]) 1 encI64 C_hs g2c0) (h:Fi.rec_ fu n0 order1 g2c0 g2c1 g2c2=some r),
   Calls Tryz.prog 97 #[(vI n0),(.slice B_a B_an B_c),(.func (.func 99) #[] #[(vP C_b),(vP D_b),(vP E_b)])] w fun e w'=>∃v,e= .returned v∧(∃(lo:Option Nat) (la:Option Addr) (lc:Nat) (lsp:List Value) (ln:Nat),r.2.length=ln∧LsB lo la lc lsp ln r.2 1 [(E_a,E_c,g2c2),(B_a,B_c,order1)]∧v= .tuple #[]∧Mem w (bs [some C_b,some D_b,some E_b]) [⟨some C_b,149,[(.slice C_a C_an C_c)]⟩,⟨some D_b,2,[(vI r.1)]⟩,⟨some E_b,60,[(.slice la ln lc)]⟩,⟨lo,2,row encI64 r.2 lsp⟩] w'):=by
 induction fu with
 | zero=>intros;rename_i h;cases h
 | succ fu ih=>exact @Fi.step_calls _ (Fi.rec_ fu) @ih
theorem Fi.calls(n0:Int)(order1:List Int)(g2c0:List (List Int))(g2c1:Int)(g2c2:List Int)(w:World)(r:Int×(List Int)){B_a:Option Addr}{B_an:Nat}(B_c:Nat)(B_h:Rw w B_a 1 encI64 order1)(B_hn:order1.length=B_an){C_a:Option Addr}{C_an:Nat}(C_c:Nat){C_hs:List Hd}(C_h:Rw w C_a 1 encHd C_hs)(C_hn:g2c0.length=C_an){E_a:Option Addr}{E_an:Nat}(E_c:Nat)(E_hn:g2c2.length=E_an)(C_b:Nat)(D_b:Nat)(E_b:Nat)(hm0:Mem w (bs [some C_b,some D_b,some E_b]) [⟨some C_b,149,[(.slice C_a C_an C_c)]⟩,⟨some D_b,2,[(vI g2c1)]⟩,⟨some E_b,60,[(.slice E_a E_an E_c)]⟩] w)(B_ha:order1≠ []→aB B_a∉bs [some C_b,some D_b,some E_b])(C_ha:C_hs≠ []→aB C_a∉bs [some C_b,some D_b,some E_b])(C_i:Inn w (bs [some C_b,some D_b,some E_b]) 1 encI64 C_hs g2c0)(h:Fi n0 order1 g2c0 g2c1 g2c2=some r):
   Calls Tryz.prog 97 #[(vI n0),(.slice B_a B_an B_c),(.func (.func 99) #[] #[(vP C_b),(vP D_b),(vP E_b)])] w fun e w'=>∃v,e= .returned v∧(∃(lo:Option Nat) (la:Option Addr) (lc:Nat) (lsp:List Value) (ln:Nat),r.2.length=ln∧LsB lo la lc lsp ln r.2 1 [(E_a,E_c,g2c2),(B_a,B_c,order1)]∧v= .tuple #[]∧Mem w (bs [some C_b,some D_b,some E_b]) [⟨some C_b,149,[(.slice C_a C_an C_c)]⟩,⟨some D_b,2,[(vI r.1)]⟩,⟨some E_b,60,[(.slice la ln lc)]⟩,⟨lo,2,row encI64 r.2 lsp⟩] w'):=
 Fi.rec_calls 16 n0 order1 g2c0 g2c1 g2c2 w r B_c B_h B_hn C_c C_h C_hn E_c E_hn C_b D_b E_b hm0 B_ha C_ha C_i h
def Fbo(f0:GFrame)(list1:List (Arr 96 Int))(first2:Int):Option ((List Int)×Int×Int):=(Fbn f0 list1 first2).bind fun t_3=>(if(t_3 !=0)=true then some ([],0,t_3) else(F7 list1).bind fun t_4=>(FbQ first2).bind fun t_5=>(Fi (list1.length:Int) t_5 t_4 (-1) ([]:List Int)).bind fun t_0=>some (t_0.2,t_0.1,0))
theorem Fbo.calls(f0:GFrame)(list1:List (Arr 96 Int))(first2:Int)(w:World)(r:(List Int)×Int×Int){C_a:Option Addr}{C_an:Nat}(C_c:Nat)(C_h:Rw w C_a 2 encGHammer f0.fHammers)(C_hn:f0.fHammers.length=C_an){D_a:Option Addr}{D_an:Nat}(D_c:Nat)(D_h:Rw w D_a 96 encA96U32 list1)(D_hn:list1.length=D_an)(h:Fbo f0 list1 first2=some r):
   Calls Tryz.prog 26 #[(.agg #[(vH f0.fSteps),(.slice C_a C_an C_c)]),(.slice D_a D_an D_c),(vI first2)] w fun e w'=>∃v,e= .returned v∧(∃(o0:Option Nat) (c0:Nat) (s0:List Value) (n0:Nat),r.1.length=n0∧(hS o0 n0 c0 s0 1)∧(hO o0 r.1 c0)∧v= .tuple #[.slice (mB o0) n0 c0,(vI r.2.1),(vI r.2.2)]∧Mem w [] [⟨o0,2,row encI64 r.1 s0⟩] w'):=by
 subst C_hn D_hn
 rw [Fbo] at h
 refine en Tryz.func26 rfl Tryz.ntmps26 (jc_seq (jc_region (tO (qa 0 (fun b_3=>jkO (qh [0,0,0] (qe (jx_then (jc_seq (jc_seq (jc_region (qh [0,0,0] ?_))))))))))))
 obtain⟨t_3,ht_0,h⟩:=bd h
 refine tO (pq 0 (fun w hm=>Fbn.calls f0 list1 first2 w _ C_c (hm.xr C_h) rfl D_c (hm.xr D_h) rfl ht_0) (jkO (qh [0] (qe (jx_then (jc_seq (jc_region (qh [0,0] (qe (jx_then (qi h (fun h=> ?_) (fun h=> ?_))))))))))))
 ·refine jc_seq (jc_region (qh [0,0,0,0] (qe (jx_then (jc_ret (jx_thenr ?_))))))
  obtain rfl:=si h
  exact jx_ghost 2 encI64 (qr [] (fun w hm=>⟨none,0,[],0,rfl,(fun e=>absurd rfl e),(fun _=>⟨rfl,rfl⟩),rfl,hm.pk [1]⟩))
 ·refine jc_skip (jx_then (jc_seq (jc_region (qh [0] ?_))))
  obtain⟨t_4,ht_08,h⟩:=bd h
  refine tO (pc 0 (fun w hm=>F7.calls list1 w _ D_c (hm.xr D_h) rfl ht_08) ?_)
  rintro w v w' hm ⟨o_2,cap_6,sp_01,_,hh_1,hI_13,rfl,hs_0j,ho_06,rfl,hm'⟩
  refine aq hm hm' (jkO (tO (qa 0 (fun b_7=>jk_ghost 60 encHd (jk_clu encI64 (jkO (tO (qa 0 (fun b_8=>jkO (tO (qa 0 (fun b_9=>jkO (tO (qs 0 [3] (jkO (tO (qs 0 [6] (jkO (tO (qs 0 [7] (jkO (qe (jx_then (jc_seq (jc_region (qh [0,0,0] ?_))))))))))))))))))))))))))
  obtain⟨t_5,ht_09,h⟩:=bd h
  refine tO (pc 0 (fun w hm=>FbQ.calls first2 w _ ht_09) ?_)
  rintro w v w' hm ⟨o_02,cap_0a,sp_07,_,rfl,hs_0b,ho_03,rfl,hm'⟩
  refine aq hm hm' (jkO (qh [0] ?_))
  obtain⟨t_0,ht_0c,h⟩:=bd h
  refine tO (jp_ghost 2 encI64 (pc 0 (fun w hm=>Fi.calls (list1.length:Int) t_5 t_4 (-1) ([]:List Int) w _ cap_0a (hm.ow 8 o_02 2 t_5 sp_07 (fun e=>(ho_03 e).1) encI64_len) rfl cap_6 (hm.ow 1 o_2 60 hh_1 sp_01 (fun e=>(ho_06 e).1) encHd_len) (hI_13.1.symm.trans rfl) 0 rfl b_7 b_9 b_8 (hm.ps (N:= [⟨some b_7,149,[(.slice (mB o_2) hh_1.length cap_6)]⟩,⟨some b_9,2,[(vI (-1))]⟩,⟨some b_8,60,[(.slice ((none:Option Nat).map fun b=>⟨b,0,none⟩) 0 0)]⟩]) [3,7,6]) (hm.oa 8 o_02 (fun e=>(ho_03 e).1) [3,7,6]) (hm.oa 1 o_2 (fun e=>(ho_06 e).1) [3,7,6]) (hm.cluPass (N:= [⟨some b_7,149,[(.slice (mB o_2) hh_1.length cap_6)]⟩,⟨some b_9,2,[(vI (-1))]⟩,⟨some b_8,60,[(.slice ((none:Option Nat).map fun b=>⟨b,0,none⟩) 0 0)]⟩]) 2 hI_13 encI64_len [3,7,6]) ht_0c) ?_))
  rintro w v w' hm ⟨o_0d,a_0k,cap_04,sp_0e,_,rfl,hl_0f,rfl,hm'⟩
  obtain⟨o_00,sp_05,hl_0g,hM_31⟩:=Mem.ls3 (T:=2) (enc:=encI64) (o1:=(none:Option Nat)) (sp1:= []) (xs1:=([]:List Int)) (o:=o_0d) (sp:=sp_0e) (xs:=t_0.2) (F:= []) (o2:=o_02) (sp2:=sp_07) (xs2:=t_5) (hm.aw [3,7,6] hm') 9 8 10 (by kernel_rfl) (by kernel_rfl) (by kernel_rfl) (by kernel_rfl) (lsO (fun e=>absurd rfl e) (fun _=>⟨rfl,rfl⟩)) rfl hs_0b ho_03 rfl rfl hl_0f
  obtain⟨rfl,hs_0h,ho_0i⟩:=hl_0g.own
  refine⟨_,Mem.pick hM_31 (N:= [⟨some b_3,27,[(vH f0.fSteps),(.slice C_a f0.fHammers.length C_c)]⟩,⟨o_2,60,row encHd hh_1 sp_01⟩,⟨none,CLU,cluC encI64 hh_1 t_4⟩,⟨some b_7,149,[(.slice (mB o_2) hh_1.length cap_6)]⟩,⟨(none:Option Nat),60,row encHd ([]:List Hd) []⟩,⟨none,CLU,cluC encI64 ([]:List Hd) ([]:List (List Int))⟩,⟨some b_8,60,[(.slice (mB o_00) t_0.2.length cap_04)]⟩,⟨some b_9,2,[(vI t_0.1)]⟩,⟨none,0,[]⟩,⟨o_00,2,row encI64 t_0.2 sp_05⟩]) [0,1,2,3,4,5,6,7,8,9] (by kernel_rfl) (by kernel_rfl),jkO ?_⟩
  clear hm hm' hM_31
  refine qe (jx_then (jc_seq (qg [⟨some b_3,27,[(vH f0.fSteps),(.slice C_a f0.fHammers.length C_c)]⟩,⟨o_2,60,row encHd hh_1 sp_01⟩,⟨none,CLU,cluC encI64 hh_1 t_4⟩,⟨some b_7,149,[(.slice (mB o_2) hh_1.length cap_6)]⟩,⟨(none:Option Nat),60,row encHd ([]:List Hd) []⟩,⟨none,CLU,cluC encI64 ([]:List Hd) ([]:List (List Int))⟩,⟨some b_8,60,[(.slice (mB o_00) t_0.2.length cap_04)]⟩,⟨some b_9,2,[(vI t_0.1)]⟩,⟨none,0,[]⟩,⟨o_00,2,row encI64 t_0.2 sp_05⟩] 5 (qd [⟨0,6,0⟩,⟨1,7,0⟩,⟨2,0,0⟩,⟨3,0,0⟩,⟨4,0,0⟩] 0 [0,1,2,3,4,5,6,7,8,9] (qz (jx_then (jc_ret ?_)))))))
  obtain rfl:=si h
  exact qr [] (fun w hm=>⟨o_00,cap_04,sp_05,t_0.2.length,rfl,hs_0h,ho_0i,rfl,hm.pk [9]⟩)
end
end Go.Proofs.YtolfkfjjifdmeaaGreat
