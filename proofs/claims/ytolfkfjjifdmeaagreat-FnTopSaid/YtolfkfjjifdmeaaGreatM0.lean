/- Functions of the program that the law reaches: a plain function each, and that the call comes to its answer if the plain function has one. Printed by a program. -/
import Derived.Test.YtolfkfjjifdmeaaGreatT
namespace Go.Proofs.YtolfkfjjifdmeaaGreat
open Eng
set_option linter.unusedVariables false
set_option linter.unusedSectionVars false
set_option maxRecDepth 100000
variable [dsW:DrwS]
noncomputable section
def laws_a2Long(code0:List Int)(more1:List Int):Option (Bool):=some ((decide ((code0.length:Int)>3000)) || (decide ((more1.length:Int)>3000)))
theorem laws_a2Long.calls(code0:List Int)(more1:List Int)(w:World)(r:Bool){A_a:Option Addr}{A_an:Nat}(A_c:Nat)(A_h:Rw w A_a 1 encU8 code0)(A_hn:code0.length=A_an){B_a:Option Addr}{B_an:Nat}(B_c:Nat)(B_h:Rw w B_a 1 encU8 more1)(B_hn:more1.length=B_an)(h:laws_a2Long code0 more1=some r):
   Calls Tryz.prog 6 #[(.slice A_a A_an A_c),(.slice B_a B_an B_c)] w fun e w'=>∃v,e= .returned v∧(v=(.bool r)∧Mem w [] [] w'):=by
 subst A_hn B_hn
 rw [laws_a2Long] at h
 refine en Tryz.func6 rfl Tryz.ntmps6 (jc_seq (jc_region (qh [0] (qe (jx_then (jc_seq (jc_region (qf [(0,0),(0,0),(0,0),(0,0),(0,1),(0,1),(0,1),(0,0),(0,0)] (qe (jx_then (jc_ret ?_)))))))))))
 obtain rfl:=si h
 exact qr [] (fun w hm=>⟨rfl,hm.pk []⟩)
def FaJ(code0:List Int):Option (Gl00Src):=some (⟨code0,0,0⟩:Gl00Src)
theorem FaJ.calls(code0:List Int)(w:World)(r:Gl00Src){A_a:Option Addr}{A_an:Nat}(A_c:Nat)(A_h:Rw w A_a 1 encU8 code0)(A_hn:code0.length=A_an)(h:FaJ code0=some r):
   Calls Tryz.prog 57 #[(.slice A_a A_an A_c)] w fun e w'=>∃v,e= .returned v∧(∃(pb0:Nat),v= .pointer (sB pb0)∧Mem w [] [⟨some pb0,179,[(.slice A_a A_an A_c),(vI r.fat),(.int .u64 r.fseed)]⟩] w'):=by
 subst A_hn
 rw [FaJ] at h
 refine en Tryz.func57 rfl Tryz.ntmps57 (jc_seq (jc_region (qh [0] (qe (jx_then (jc_seq (jc_region (qh [0,0] (tO (qa 0 (fun b_0=>jkO (qh [0] (qe (jx_then (jc_ret ?_)))))))))))))))
 obtain rfl:=si h
 exact qr [] (fun w hm=>⟨b_0,rfl,hm.pk [0]⟩)
def Faf.k_2(s0:Gl00Src)(i_0:Int):Option (Int×Gl00Src):=(if(decide ((w64 (s0.fat+1))≤(s0.fcode.length:Int)))=true then some (i_0,(⟨s0.fcode,(w64 (s0.fat+1)),(u64 ((u64 ((u64 (s0.fseed*6364136223846793005))+(u64 i_0)))+1442695040888963407))⟩:Gl00Src)) else some ((w64 (bAnd .u64 (bShr .u64 (u64 ((u64 ((u64 (s0.fseed*6364136223846793005))+(u64 i_0)))+1442695040888963407)) 40) 255)),(⟨s0.fcode,(w64 (s0.fat+1)),(u64 ((u64 ((u64 (s0.fseed*6364136223846793005))+(u64 i_0)))+1442695040888963407))⟩:Gl00Src)))
def Faf(s0:Gl00Src):Option (Int×Gl00Src):=(if(decide (s0.fat<(s0.fcode.length:Int)))=true then(ix s0.fcode s0.fat).bind fun x_1=>Faf.k_2 s0 (w64 x_1) else Faf.k_2 s0 0)
theorem Faf.calls(s0:Gl00Src)(w:World)(r:Int×Gl00Src){B_a:Option Addr}{B_an:Nat}(B_c:Nat)(B_h:Rw w B_a 1 encU8 s0.fcode)(B_hn:s0.fcode.length=B_an)(A_b:Nat)(hm0:Mem w (bs [some A_b]) [⟨some A_b,179,[(.slice B_a B_an B_c),(vI s0.fat),(.int .u64 s0.fseed)]⟩] w)(B_ha:s0.fcode≠ []→aB B_a∉bs [some A_b])(h:Faf s0=some r):
   Calls Tryz.prog 166 #[(vP A_b)] w fun e w'=>∃v,e= .returned v∧(v=(vI r.1)∧Mem w (bs [some A_b]) [⟨some A_b,179,[(.slice B_a B_an B_c),(vI r.2.fat),(.int .u64 r.2.fseed)]⟩] w'):=by
 subst B_hn
 rw [Faf] at h
 refine enter (args:= [(vP A_b)]) Tryz.func166 rfl Tryz.ntmps166 (by kernel_rfl) (L:= [⟨some A_b,179,[(.slice B_a s0.fcode.length B_c),(vI s0.fat),(.int .u64 s0.fseed)]⟩]) (W:=bs [some A_b]) hm0 (jc_seq (jc_region (qh [0] (qe (jx_then (jc_seq (jc_region (qh [0] (qe (jx_then (jc_seq (jc_meet (fun(i_0:Int)=>Faf.k_2 s0 i_0=some r) (fun i_0=> [(0,[],(vP A_b)),(2,[],(vI 0)),(3,[],(vI i_0))]) (fun i_0=> [⟨some A_b,179,[(.slice B_a s0.fcode.length B_c),(vI s0.fat),(.int .u64 s0.fseed)]⟩]) ?_ ?_))))))))))))
 ·refine jc_seq (qg [⟨some A_b,179,[(.slice B_a s0.fcode.length B_c),(vI s0.fat),(.int .u64 s0.fseed)]⟩] 10 (qd [⟨0,0,0⟩,⟨1,0,0⟩,⟨2,0,0⟩,⟨3,0,0⟩,⟨4,0,0⟩,⟨5,0,0⟩,⟨6,0,0⟩,⟨7,0,0⟩,⟨8,0,0⟩,⟨9,0,0⟩] 0 [0] (qz (jx_then (qi h (fun h=> ?_) (fun h=> ?_))))))
  ·refine qg [⟨some A_b,179,[(.slice B_a s0.fcode.length B_c),(vI s0.fat),(.int .u64 s0.fseed)]⟩] 12 (qd [⟨0,0,0⟩,⟨1,0,0⟩,⟨2,0,0⟩,⟨3,0,0⟩,⟨4,0,0⟩,⟨5,0,0⟩,⟨6,0,0⟩,⟨7,0,0⟩] 4 [0] ?_)
   obtain⟨x_1,hx_2,h⟩:=bd h
   exact qX 8 0 [0] B_a 1 hx_2 rfl (B_h.sp hx_2) (qL 9 0 [0] false (fun w hm=>(hm.exRowW B_h B_ha).at hx_2) (qd [⟨10,0,0⟩,⟨11,0,0⟩] 0 [0] (qz (qm (w64 x_1) h [0]))))
  ·exact jc_skip (qm 0 h [0])
 ·rintro i_0 h
  replace h:Faf.k_2 s0 i_0=some r:=h
  rw [Faf.k_2] at h
  refine jx_then (jc_seq (jc_region (qh [0,0,0,0,0,0,0] (tO (qs 0 [0] (jkO (qe (jx_then (jc_seq (jc_region (qh [0,0,0,0,0,0,0,0,0,0,0,0] (tO (qs 0 [0] (jkO (qe (jx_then (jc_seq (jc_seq (qg [⟨some A_b,179,[(.slice B_a s0.fcode.length B_c),(vI (w64 (s0.fat+1))),(.int .u64 (u64 ((u64 ((u64 (s0.fseed*6364136223846793005))+(u64 i_0)))+1442695040888963407)))]⟩] 10 (qd [⟨0,0,0⟩,⟨1,0,0⟩,⟨2,0,0⟩,⟨3,0,0⟩,⟨4,0,0⟩,⟨5,0,0⟩,⟨6,0,0⟩,⟨7,0,0⟩,⟨8,0,0⟩,⟨9,0,0⟩] 0 [0] (qz (jx_then (qi h (fun h=> ?_) (fun h=> ?_))))))))))))))))))))))))
  ·refine jc_seq (jc_region (qh [0,0] (qe (jx_then (jc_ret (jx_thenr ?_))))))
   obtain rfl:=si h
   exact qr [] (fun w hm=>⟨rfl,hm.pk [0]⟩)
  ·refine jc_skip (jx_then (jc_seq (jc_region (qh [0,0,0,0,0,0,0,0] (qe (jx_then (jc_ret ?_)))))))
   obtain rfl:=si h
   exact qr [] (fun w hm=>⟨rfl,hm.pk [0]⟩)
def Fo.k_5(s0:Gl00Src)(n1:Int)(i_4:Int)(i_2:Int)(i_3:Int):Option (Int×Gl00Src):=(if n1≠0 then some ((Int.tmod i_3 n1),(⟨s0.fcode,i_4,i_2⟩:Gl00Src)) else none)
def Fo(s0:Gl00Src)(n1:Int):Option (Int×Gl00Src):=(if(decide (n1≤1))=true then some (0,s0) else(Faf s0).bind fun t_0=>(if(decide (n1>200))=true then(Faf (⟨s0.fcode,t_0.2.fat,t_0.2.fseed⟩:Gl00Src)).bind fun t_1=>Fo.k_5 s0 n1 t_1.2.fat t_1.2.fseed (w64 ((w64 (t_0.1*256))+t_1.1)) else Fo.k_5 s0 n1 t_0.2.fat t_0.2.fseed t_0.1))
theorem Fo.calls(s0:Gl00Src)(n1:Int)(w:World)(r:Int×Gl00Src){B_a:Option Addr}{B_an:Nat}(B_c:Nat)(B_h:Rw w B_a 1 encU8 s0.fcode)(B_hn:s0.fcode.length=B_an)(A_b:Nat)(hm0:Mem w (bs [some A_b]) [⟨some A_b,179,[(.slice B_a B_an B_c),(vI s0.fat),(.int .u64 s0.fseed)]⟩] w)(B_ha:s0.fcode≠ []→aB B_a∉bs [some A_b])(h:Fo s0 n1=some r):
   Calls Tryz.prog 93 #[(vP A_b),(vI n1)] w fun e w'=>∃v,e= .returned v∧(v=(vI r.1)∧Mem w (bs [some A_b]) [⟨some A_b,179,[(.slice B_a B_an B_c),(vI r.2.fat),(.int .u64 r.2.fseed)]⟩] w'):=by
 subst B_hn
 rw [Fo] at h
 refine enter (args:= [(vP A_b),(vI n1)]) Tryz.func93 rfl Tryz.ntmps93 (by kernel_rfl) (L:= [⟨some A_b,179,[(.slice B_a s0.fcode.length B_c),(vI s0.fat),(.int .u64 s0.fseed)]⟩]) (W:=bs [some A_b]) hm0 (jc_seq (jc_region (qh [0] (qe (jx_then (jc_seq (jc_seq (jc_region (qh [0,0] (qe (jx_then (qi h (fun h=> ?_) (fun h=> ?_)))))))))))))
 ·refine jc_seq (jc_region (qh [0] (qe (jx_then (jc_ret (jx_thenr ?_))))))
  obtain rfl:=si h
  exact qr [] (fun w hm=>⟨rfl,hm.pk [0]⟩)
 ·refine jc_skip (jx_then (jc_seq (jc_region (qh [0] ?_))))
  obtain⟨t_0,ht_2,h⟩:=bd h
  refine tO (pc 0 (fun w hm=>Faf.calls s0 w _ B_c (hm.exRowW B_h B_ha) rfl A_b (hm.ps [0]) (hm.xp B_h B_ha [0]) ht_2) ?_)
  rintro w v w' hm ⟨rfl,hm'⟩
  refine⟨_,hm.appW (ps:= [(0,⟨some A_b,179,[(.slice B_a s0.fcode.length B_c),(vI t_0.2.fat),(.int .u64 t_0.2.fseed)]⟩)]) (N:= []) hm' (by kernel_rfl) (by kernel_rfl),jkO ?_⟩
  clear hm hm'
  refine qh [0] (qe (jx_then (jc_seq (jc_meet (fun(j:Int×Int×Int)=>match j with | ⟨i_4,i_2,i_3⟩=>Fo.k_5 s0 n1 i_4 i_2 i_3=some r) (fun⟨i_4,i_2,i_3⟩=> [(1,[],(vI n1)),(4,[],(vI 0)),(5,[],(vI i_3))]) (fun⟨i_4,i_2,i_3⟩=> [⟨some A_b,179,[(.slice B_a s0.fcode.length B_c),(vI i_4),(.int .u64 i_2)]⟩]) ?_ ?_))))
  ·refine jc_seq (jc_region (qh [0,0] (qe (jx_then (qi h (fun h=> ?_) (fun h=> ?_))))))
   ·refine jc_region (qh [0,0,0] ?_)
    obtain⟨t_1,ht_5,h⟩:=bd h
    refine tO (pc 0 (fun w hm=>Faf.calls (⟨s0.fcode,t_0.2.fat,t_0.2.fseed⟩:Gl00Src) w _ B_c (hm.exRowW B_h B_ha) rfl A_b (hm.ps [0]) (hm.xp B_h B_ha [0]) ht_5) ?_)
    rintro w v w' hm ⟨rfl,hm'⟩
    refine⟨_,hm.appW (ps:= [(0,⟨some A_b,179,[(.slice B_a s0.fcode.length B_c),(vI t_1.2.fat),(.int .u64 t_1.2.fseed)]⟩)]) (N:= []) hm' (by kernel_rfl) (by kernel_rfl),jkO ?_⟩
    clear hm hm'
    exact qh [0,0] (qe (qm ⟨t_1.2.fat,t_1.2.fseed,(w64 ((w64 (t_0.1*256))+t_1.1))⟩ h [0]))
   ·exact jc_skip (qm ⟨t_0.2.fat,t_0.2.fseed,t_0.1⟩ h [0])
  ·rintro⟨i_4,i_2,i_3⟩ h
   replace h:Fo.k_5 s0 n1 i_4 i_2 i_3=some r:=h
   rw [Fo.k_5] at h
   refine jx_then (jc_seq (jc_region (qh [0,0] ?_)))
   obtain⟨hg_1,h⟩:=gd h
   refine tO (pM 0 .i64 i_3 n1 hg_1 (jkO (qh [0] (qe (jx_then (jc_ret ?_))))))
   obtain rfl:=si h
   exact qr [] (fun w hm=>⟨rfl,hm.pk [0]⟩)
def FaM(s0:Gl00Src)(list1:List Int):Option (Int×Gl00Src):=(Fo s0 (list1.length:Int)).bind fun t_0=>(ix list1 t_0.1).bind fun x_1=>some (x_1,(⟨s0.fcode,t_0.2.fat,t_0.2.fseed⟩:Gl00Src))
theorem FaM.calls(s0:Gl00Src)(list1:List Int)(w:World)(r:Int×Gl00Src){B_a:Option Addr}{B_an:Nat}(B_c:Nat)(B_h:Rw w B_a 1 encU8 s0.fcode)(B_hn:s0.fcode.length=B_an){E_a:Option Addr}{E_an:Nat}(E_c:Nat)(E_h:Rw w E_a 1 encI64 list1)(E_hn:list1.length=E_an)(A_b:Nat)(hm0:Mem w (bs [some A_b]) [⟨some A_b,179,[(.slice B_a B_an B_c),(vI s0.fat),(.int .u64 s0.fseed)]⟩] w)(B_ha:s0.fcode≠ []→aB B_a∉bs [some A_b])(E_ha:list1≠ []→aB E_a∉bs [some A_b])(h:FaM s0 list1=some r):
   Calls Tryz.prog 127 #[(vP A_b),(.slice E_a E_an E_c)] w fun e w'=>∃v,e= .returned v∧(v=(vI r.1)∧Mem w (bs [some A_b]) [⟨some A_b,179,[(.slice B_a B_an B_c),(vI r.2.fat),(.int .u64 r.2.fseed)]⟩] w'):=by
 subst B_hn E_hn
 rw [FaM] at h
 refine enter (args:= [(vP A_b),(.slice E_a list1.length E_c)]) Tryz.func127 rfl Tryz.ntmps127 (by kernel_rfl) (L:= [⟨some A_b,179,[(.slice B_a s0.fcode.length B_c),(vI s0.fat),(.int .u64 s0.fseed)]⟩]) (W:=bs [some A_b]) hm0 (jc_seq (jc_region (qh [0] (qe (jx_then (jc_seq (jc_region (qh [0,0,0,0] ?_))))))))
 obtain⟨t_0,ht_0,h⟩:=bd h
 refine tO (pc 0 (fun w hm=>Fo.calls s0 (list1.length:Int) w _ B_c (hm.exRowW B_h B_ha) rfl A_b (hm.ps [0]) (hm.xp B_h B_ha [0]) ht_0) ?_)
 rintro w v w' hm ⟨rfl,hm'⟩
 refine⟨_,hm.appW (ps:= [(0,⟨some A_b,179,[(.slice B_a s0.fcode.length B_c),(vI t_0.2.fat),(.int .u64 t_0.2.fseed)]⟩)]) (N:= []) hm' (by kernel_rfl) (by kernel_rfl),jkO ?_⟩
 clear hm hm'
 obtain⟨x_1,hx_1,h⟩:=bd h
 refine tO (qx 0 E_a 1 hx_1 rfl (E_h.sp hx_1) (jkO (tO (ql 0 false (fun w hm=>((hm.exRowW E_h E_ha).at hx_1)) (jkO (qh [0] (qe (jx_then (jc_ret ?_)))))))))
 obtain rfl:=si h
 exact qr [] (fun w hm=>⟨rfl,hm.pk [0]⟩)
def FaZ(a0:GNote)(b1:GNote):Option (Bool):=(if(decide (a0.fAt<b1.fAt))=true then some true else some ((a0.fAt==b1.fAt)&&(decide (a0.fPitch<b1.fPitch))))
theorem FaZ.calls(a0:GNote)(b1:GNote)(w:World)(r:Bool)(h:FaZ a0 b1=some r):
   Calls Tryz.prog 190 #[(.agg #[(vH a0.fAt),(vB a0.fPitch)]),(.agg #[(vH b1.fAt),(vB b1.fPitch)])] w fun e w'=>∃v,e= .returned v∧(v=(.bool r)∧Mem w [] [] w'):=by
 rw [FaZ] at h
 refine en Tryz.func190 rfl Tryz.ntmps190 (jc_seq (jc_region (tO (qa 0 (fun b_0=>jkO (tO (qa 0 (fun b_1=>jkO (qh [0] (qe (jx_then (jc_seq (jc_region (qf [(0,0),(0,0),(0,0),(1,0),(0,0),(0,0),(0,1),(0,1),(0,1),(1,1),(0,1)] (qp 10 h (fun h=> ?_) (fun h=> ?_))))))))))))))))
 ·refine qf [(0,3),(0,3),(0,3),(0,3),(0,3),(0,3),(0,3),(0,4),(0,0)] (qe (jx_then (jc_ret ?_)))
  obtain rfl:=si h
  exact qr [] (fun w hm=>⟨rfl,hm.pk []⟩)
 ·refine qf [(0,2),(0,1),(0,1),(0,1),(1,1),(0,1),(0,2),(0,5),(0,0)] (qe (jx_then (jc_ret ?_)))
  obtain rfl:=si h
  exact qr [] (fun w hm=>⟨rfl,hm.pk []⟩)
def Fu.k_2(xs_7:List GNote):Option ((List GNote)):=some xs_7
def Fu.k_9(list0:List GNote)(xs_0:List GNote)(i_2:Int)(i_1:Int):Option (((List GNote)×Int)⊕((List GNote))):=(if 0≤i_1∧i_1≤(xs_0.length:Int) then(if([]:List GNote).length+(xs_0.drop i_1.toNat).length≤4294967296 then(if 0≤i_1∧i_1≤(xs_0.length:Int) then(ix list0 i_2).bind fun x_8=>(if i_1.toNat+([x_8]:List GNote).length≤4294967296 then(if(xs_0.take i_1.toNat++([x_8]:List GNote)).length+(([]:List GNote)++(xs_0.drop i_1.toNat)).length≤4294967296 then some (.inl (((xs_0.take i_1.toNat++([x_8]:List GNote))++(([]:List GNote)++(xs_0.drop i_1.toNat))),(w64 (i_2+1)))) else none) else none) else none) else none) else none)
def Fu.k_8(list0:List GNote)(xs_0:List GNote)(i_2:Int)(i_1:Int):Option (((List GNote)×Int)⊕((List GNote))):=(if(decide (i_1<(xs_0.length:Int)))=true then(ix xs_0 i_1).bind fun x_07=>(ix list0 i_2).bind fun x_08=>(if((x_07.fAt==x_08.fAt)&&(x_07.fPitch==x_08.fPitch))=true then some (.inl (xs_0,(w64 (i_2+1)))) else Fu.k_9 list0 xs_0 i_2 i_1) else Fu.k_9 list0 xs_0 i_2 i_1)
def Fu.l_14(list0:List GNote)(xs_0:List GNote)(i_2:Int):Int→Option ((Int)⊕(Int))
 | i_4=>(if(decide (i_4<(xs_0.length:Int)))=true then(ix xs_0 i_4).bind fun x_09=>(ix list0 i_2).bind fun x_0a=>(FaZ x_09 x_0a).bind fun t_0k=>(if t_0k=true then some (.inl (w64 (i_4+1))) else some (.inr i_4)) else some (.inr i_4))
def Fu.l_5(list0:List GNote):((List GNote)×Int)→Option (((List GNote)×Int)⊕((List GNote)))
 | (xs_0,i_2)=>(if(decide (i_2<(list0.length:Int)))=true then(loop (Fu.l_14 list0 xs_0 i_2) 0).bind fun t_0l=>Fu.k_8 list0 xs_0 i_2 t_0l else some (.inr xs_0))
def Fu(list0:List GNote):Option ((List GNote)):=(loop (Fu.l_5 list0) (([]:List GNote),0)).bind fun t_0m=>Fu.k_2 t_0m
theorem Fu.calls(list0:List GNote)(w:World)(r:(List GNote)){A_a:Option Addr}{A_an:Nat}(A_c:Nat)(A_h:Rw w A_a 2 encGNote list0)(A_hn:list0.length=A_an)(h:Fu list0=some r):
   Calls Tryz.prog 122 #[(.slice A_a A_an A_c)] w fun e w'=>∃v,e= .returned v∧(∃(o0:Option Nat) (c0:Nat) (s0:List Value) (n0:Nat),r.length=n0∧(hS o0 n0 c0 s0 2)∧(hO o0 r c0)∧v= .slice (mB o0) n0 c0∧Mem w [] [⟨o0,101,row encGNote r s0⟩] w'):=by
 subst A_hn
 rw [Fu] at h
 refine en Tryz.func122 rfl Tryz.ntmps122 (jc_seq (jc_region (qh [0] (qe (jx_then (jc_seq (jc_region (tO (qa 0 (fun b_7=>jkO (qh [0] (qe (jx_then (jc_seq (jc_seq (jc_region (qh [0] (qe (jx_then (jc_meet (fun(j:(List GNote)×(Option Nat)×Nat×(List Value)×Nat)=>match j with | ⟨xs_7,o_00,cap_01,sp_02,n_03⟩=>Fu.k_2 xs_7=some r∧(xs_7.length=n_03)∧(hS o_00 n_03 cap_01 sp_02 2)∧(hO o_00 xs_7 cap_01)) (fun⟨xs_7,o_00,cap_01,sp_02,n_03⟩=> [(2,[],(.slice none 0 0)),(3,[],(.slice (mB o_00) n_03 cap_01))]) (fun⟨xs_7,o_00,cap_01,sp_02,n_03⟩=> [⟨o_00,101,row encGNote xs_7 sp_02⟩]) ?_ ?_))))))))))))))))))))
 ·refine jc_block ?_
  obtain⟨t_0m,ht_0t,hr_0u⟩:=bd h
  refine jl (fun(s:(List GNote)×Int) (x:(Option Nat)×Nat×(List Value)×Nat)=>match s,x with | ⟨xs_0,i_2⟩,⟨o_3,cap_5,sp_6,n_04⟩=>(xs_0.length=n_04)∧(hS o_3 n_04 cap_5 sp_6 2)∧(hO o_3 xs_0 cap_5)) (fun⟨xs_0,i_2⟩ ⟨o_3,cap_5,sp_6,n_04⟩=> [(0,[],(.slice A_a list0.length A_c)),(2,[],(.slice none 0 0)),(3,[],(.slice (mB o_3) n_04 cap_5)),(4,[],(vI i_2))]) (fun⟨xs_0,i_2⟩ ⟨o_3,cap_5,sp_6,n_04⟩=> [⟨o_3,101,row encGNote xs_0 sp_6⟩]) ht_0t ⟨(some b_7),0,[],0⟩ ⟨rfl,(fun _=>⟨Nat.le_refl _,by simp⟩),(fun e=>nomatch e)⟩ [0] ?_
  rintro⟨xs_0,i_2⟩ ⟨o_3,cap_5,sp_6,n_04⟩ y_06 ⟨rfl,hs_05,ho_9⟩ h
  rw [Fu.l_5] at h
  refine jc_seq (jc_seq (jc_region (qh [0,0,0,0] (qe (jx_then (qi h (fun h=> ?_) (fun h=> ?_)))))))
  ·refine jc_skip (jx_then (jc_seq (jc_block (jc_seq (jc_region (qh [0] (qe (jx_then (jc_seq (jc_meet (fun(i_1:Int)=>Fu.k_8 list0 xs_0 i_2 i_1=some y_06) (fun i_1=> [(0,[],(.slice A_a list0.length A_c)),(2,[],(.slice none 0 0)),(3,[],(.slice (mB o_3) xs_0.length cap_5)),(4,[],(vI i_2)),(5,[],(vI i_1))]) (fun i_1=> [⟨o_3,101,row encGNote xs_0 sp_6⟩]) ?_ ?_))))))))))
   ·refine jc_block ?_
    obtain⟨t_0l,ht_0v,hr_0n⟩:=bd h
    refine jl (fun(i_4:Int) (_:Unit)=>True) (fun i_4 _=> [(0,[],(.slice A_a list0.length A_c)),(2,[],(.slice none 0 0)),(3,[],(.slice (mB o_3) xs_0.length cap_5)),(4,[],(vI i_2)),(5,[],(vI i_4))]) (fun i_4 _=> [⟨o_3,101,row encGNote xs_0 sp_6⟩]) ht_0v () trivial [0] ?_
    rintro i_4 _ y_1h _ h
    rw [Fu.l_14] at h
    refine jc_seq (jc_seq (qg [⟨o_3,101,row encGNote xs_0 sp_6⟩] 15 (qd [⟨0,0,0⟩,⟨1,0,0⟩,⟨2,0,0⟩,⟨3,0,0⟩,⟨4,0,0⟩,⟨5,0,1⟩,⟨6,0,1⟩,⟨9,0,1⟩,⟨10,0,1⟩] 6 [0] (js 18 (decide (i_4<(xs_0.length:Int))) (fun hc_0b=> ?_) (fun hc_0b=> ?_)))))
    ·replace h:=ifT hc_0b h
     obtain⟨x_09,hx_0c,h⟩:=bd h
     refine qX 7 2 [0] (mB o_3) 2 hx_0c rfl (spo ho_9 hx_0c) (qL 8 2 [0] true (fun w hm=>(hm.ow 0 o_3 101 xs_0 sp_6 (fun e=>(ho_9 e).1) encGNote_len).at hx_0c) ?_)
     obtain⟨x_0a,hx_0d,h⟩:=bd h
     refine qX 11 2 [0] A_a 2 hx_0d rfl (A_h.sp hx_0d) (qL 12 2 [0] true (fun w hm=>(hm.xr A_h).at hx_0d) ?_)
     obtain⟨t_0k,ht_0w,h⟩:=bd h
     refine tD 13 (pq 2 (fun w hm=>FaZ.calls x_09 x_0a w _ ht_0w) (kD [0] (qd [⟨14,0,4⟩] 0 [0] (qz (jx_then (qi h (fun h=> ?_) (fun h=> ?_)))))))
     ·exact jc_skip (jx_then (jc_block (jc_region (qh [0,0,0] (qe (jx_inn (qb (w64 (i_4+1)) () h trivial [0])))))))
     ·refine jc_exit (jx_thenx (jx_leave i_4 (sj h) (fun e_0x=> ?_)))
      subst e_0x
      exact jx_ine (qm i_4 hr_0n [0])
    ·replace h:=ifF hc_0b h
     refine qd [⟨7,0,3⟩,⟨8,0,3⟩,⟨11,0,3⟩,⟨12,0,3⟩,⟨13,0,3⟩,⟨14,0,5⟩] 0 [0] (qz (jx_then (jq false (fun hc_0o=>nomatch hc_0o) (fun hc_0o=>(jc_exit (jx_thenx (jx_leave i_4 (sj h) (fun e_0y=> ?_))))))))
     subst e_0y
     exact jx_ine (qm i_4 hr_0n [0])
   ·rintro i_1 h
    replace h:Fu.k_8 list0 xs_0 i_2 i_1=some y_06:=h
    rw [Fu.k_8] at h
    refine jx_then (jc_seq (jc_meet (fun(_:Unit)=>Fu.k_9 list0 xs_0 i_2 i_1=some y_06) (fun(_:Unit)=> [(0,[],(.slice A_a list0.length A_c)),(2,[],(.slice none 0 0)),(3,[],(.slice (mB o_3) xs_0.length cap_5)),(4,[],(vI i_2)),(5,[],(vI i_1))]) (fun(_:Unit)=> [⟨o_3,101,row encGNote xs_0 sp_6⟩]) ?_ ?_))
    ·refine jc_seq (qg [⟨o_3,101,row encGNote xs_0 sp_6⟩] 15 (qd [⟨0,0,0⟩,⟨1,0,0⟩,⟨2,0,0⟩,⟨3,0,0⟩,⟨4,0,0⟩,⟨5,0,1⟩,⟨6,0,1⟩,⟨9,0,1⟩,⟨10,0,1⟩] 6 [0] (js 35 (decide (i_1<(xs_0.length:Int))) (fun hc_0e=> ?_) (fun hc_0e=> ?_))))
     ·replace h:=ifT hc_0e h
      obtain⟨x_07,hx_0f,h⟩:=bd h
      refine qX 7 2 [0] (mB o_3) 2 hx_0f rfl (spo ho_9 hx_0f) (qL 8 2 [0] true (fun w hm=>(hm.ow 0 o_3 101 xs_0 sp_6 (fun e=>(ho_9 e).1) encGNote_len).at hx_0f) ?_)
      obtain⟨x_08,hx_0g,h⟩:=bd h
      refine qX 11 2 [0] A_a 2 hx_0g rfl (A_h.sp hx_0g) (qL 12 2 [0] true (fun w hm=>(hm.xr A_h).at hx_0g) (qd [⟨13,0,2⟩,⟨14,0,4⟩] 0 [0] (qz (jx_then (qi h (fun h=> ?_) (fun h=> ?_))))))
      ·exact jc_exit (jx_thenx (jx_thenx (jx_ine (jx_then (jc_region (qh [0,0,0] (qe (qb (xs_0,(w64 (i_2+1))) ⟨o_3,cap_5,sp_6,xs_0.length⟩ h ⟨rfl,hs_05,ho_9⟩ [0]))))))))
      ·exact jc_skip (qm () h [0])
     ·replace h:=ifF hc_0e h
      exact qd [⟨7,0,3⟩,⟨8,0,3⟩,⟨11,0,3⟩,⟨12,0,3⟩,⟨13,0,3⟩,⟨14,0,5⟩] 0 [0] (qz (jx_then (jq false (fun hc_0p=>nomatch hc_0p) (fun hc_0p=>(jc_skip (qm () h [0]))))))
    ·rintro _ h
     replace h:Fu.k_9 list0 xs_0 i_2 i_1=some y_06:=h
     rw [Fu.k_9] at h
     refine jx_then (jc_seq (jc_region (tO (qa 0 (fun b_0z=>jkO (qh [0,0] ?_))))))
     obtain⟨hg_0q,h⟩:=gd h
     refine tO (pK 0 (mB o_3) xs_0.length cap_5 2 i_1 hg_0q.1 (Int.le_trans hg_0q.2 (Int.ofNat_le.2 (Nat.le_of_eq rfl))) (jkO ?_))
     obtain⟨hg_10,h⟩:=gd h
     refine tO (pA 0 1 (some b_0z) 101 0 (xs_0.length-i_1.toNat) 0 2 4 (pa (mB o_3) i_1.toNat cap_5 2) encGNote ([]:List GNote) (xs_0.drop i_1.toNat) [] (.agg #[(vH 0),(vB 0)]) rfl (tl_len rfl i_1) encGNote_len encGNote_cell (fun _=>⟨Nat.le_refl _,by simp⟩) (fun e=>nomatch e) (fun w hm=>((hm.ow 0 o_3 101 xs_0 sp_6 (fun e=>(ho_9 e).1) encGNote_len).tl i_1.toNat cap_5 (cap_le rfl hs_05 ho_9))) hg_10 (fun o_0h cap_1i sp_0r hs_1j ho_11=>jkO (qh [0] (qe (jx_then (qg [⟨o_0h,101,row encGNote (([]:List GNote)++(xs_0.drop i_1.toNat)) sp_0r⟩] 12 (qd [⟨0,0,0⟩,⟨1,0,0⟩,⟨3,0,0⟩,⟨4,0,0⟩,⟨9,0,0⟩] 7 [1] ?_)))))))
     obtain⟨hg_0i,h⟩:=gd h
     refine qv 2 0 [1] (fun w hm=>slH_run (a:=(mB o_3)) (len:=xs_0.length) (cap:=cap_5) (size:=2) (h:=i_1) (by kernel_rfl) hg_0i.1 (Int.le_trans hg_0i.2 (Int.ofNat_le.2 (cap_le rfl hs_05 ho_9)))) ?_
     obtain⟨x_8,hx_0j,h⟩:=bd h
     refine qX 5 0 [1] A_a 2 hx_0j rfl (A_h.sp hx_0j) (qL 6 0 [1] true (fun w hm=>(hm.xr A_h).at hx_0j) (tD 7 (qa 0 (fun b_0s=>kD [1] ?_))))
     obtain⟨hg_12,h⟩:=gd h
     refine tD 8 (p_apI 0 0 o_3 101 i_1.toNat xs_0.length 1 cap_5 2 4 (sB b_0s) encGNote xs_0 ([x_8]:List GNote) sp_6 (.agg #[(vH 0),(vB 0)]) (show i_1.toNat≤xs_0.length by have:=hg_0i;omega) rfl rfl (by kernel_rfl) (by kernel_rfl) (by kernel_rfl) encGNote_len encGNote_cell hs_05 ho_9 (fun w hm=>(hm.ow 2 (some b_0s) 101 ([x_8]:List GNote) [] (fun e=>nomatch e) encGNote_len)) hg_12 (by kernel_rfl) (by kernel_rfl) (fun o_13 cap_14 sp_15 hs_16 ho_17=>kD [1] ?_))
     obtain⟨hg_18,h⟩:=gd h
     exact tD 10 (pA 0 0 o_13 101 ((xs_0.take i_1.toNat++([x_8]:List GNote)).length) ((([]:List GNote)++(xs_0.drop i_1.toNat)).length) cap_14 2 4 (mB o_0h) encGNote (xs_0.take i_1.toNat++([x_8]:List GNote)) (([]:List GNote)++(xs_0.drop i_1.toNat)) sp_15 (.agg #[(vH 0),(vB 0)]) rfl rfl encGNote_len encGNote_cell hs_16 ho_17 (fun w hm=>(hm.ow 1 o_0h 101 (([]:List GNote)++(xs_0.drop i_1.toNat)) sp_0r (fun e=>(ho_11 e).1) encGNote_len)) hg_18 (fun o_19 cap_1a sp_1b hs_1c ho_1d=>kD [1] (qd [⟨11,0,0⟩] 0 [1] (qz (jx_inn (jx_then (jc_region (qh [0,0,0] (qe (qb (((xs_0.take i_1.toNat++([x_8]:List GNote))++(([]:List GNote)++(xs_0.drop i_1.toNat))),(w64 (i_2+1))) ⟨o_19,cap_1a,sp_1b,((xs_0.take i_1.toNat++([x_8]:List GNote))++(([]:List GNote)++(xs_0.drop i_1.toNat))).length⟩ h ⟨rfl,hs_1c,ho_1d⟩ [0]))))))))))
  ·refine jc_exit (jx_thenx (jx_leave xs_0 (sj h) (fun e_1e=> ?_)))
   subst e_1e
   exact jx_ine (qm ⟨xs_0,o_3,cap_5,sp_6,xs_0.length⟩ ⟨hr_0u,rfl,hs_05,ho_9⟩ [0])
 ·rintro⟨xs_7,o_00,cap_01,sp_02,n_03⟩ ⟨h,rfl,hs_1f,ho_1g⟩
  replace h:Fu.k_2 xs_7=some r:=h
  rw [Fu.k_2] at h
  refine jx_then (jc_seq (jc_region (qh [0,0] (qe (jx_then (jc_ret ?_))))))
  obtain rfl:=si h
  exact qr [] (fun w hm=>⟨o_00,cap_01,sp_02,xs_7.length,rfl,hs_1f,ho_1g,rfl,hm.pk [0]⟩)
def FB.k_11(s0:Gl00Src)(t_0:Int×Gl00Src)(xs_1:List GHammer)(xs_6:List GNote)(i_06:Int)(i_07:Int):Option (GFrame×(List GNote)×Gl00Src):=(Fu xs_6).bind fun t_0t=>some ((⟨(w16 (w64 (6+t_0.1))),xs_1⟩:GFrame),t_0t,(⟨s0.fcode,i_06,i_07⟩:Gl00Src))
def FB.l_17(s0:Gl00Src)(t_0:Int×Gl00Src):((List GNote)×Int×Int×Int)→Option (((List GNote)×Int×Int×Int)⊕(((List GNote)×Int×Int)))
 | (xs_3,i_01,i_02,i_0d)=>(if(decide (i_0d>0))=true then(Fo (⟨s0.fcode,i_01,i_02⟩:Gl00Src) (w64 (w16 (w64 (6+t_0.1))))).bind fun t_7=>(FaM (⟨s0.fcode,t_7.2.fat,t_7.2.fseed⟩:Gl00Src) ([22,23,24,34,35,12]:List Int)).bind fun t_8=>(if xs_3.length+([(⟨(w16 t_7.1),(w8 t_8.1)⟩:GNote)]:List GNote).length≤4294967296 then some (.inl ((xs_3++([(⟨(w16 t_7.1),(w8 t_8.1)⟩:GNote)]:List GNote)),t_8.2.fat,t_8.2.fseed,(w64 (i_0d-1)))) else none) else some (.inr (xs_3,i_01,i_02)))
def FB.k_6(s0:Gl00Src)(t_0:Int×Gl00Src)(i_2:Int)(i_08:Int)(xs_1:List GHammer):Option (GFrame×(List GNote)×Gl00Src):=(Fo (⟨s0.fcode,i_2,i_08⟩:Gl00Src) 5).bind fun t_0m=>(loop (FB.l_17 s0 t_0) (([]:List GNote),t_0m.2.fat,t_0m.2.fseed,t_0m.1)).bind fun t_0r=>FB.k_11 s0 t_0 xs_1 t_0r.1 t_0r.2.1 t_0r.2.2
def FB.l_25(s0:Gl00Src):(Int×Int×(List GHammer)×Int)→Option ((Int×Int×(List GHammer)×Int)⊕((Int×Int×(List GHammer))))
 | (i_03,i_04,xs_4,i_0e)=>(if(decide (i_0e>0))=true then(FaM (⟨s0.fcode,i_03,i_04⟩:Gl00Src) ([22,23,24,34,35]:List Int)).bind fun t_9=>(Fo (⟨s0.fcode,t_9.2.fat,t_9.2.fseed⟩:Gl00Src) 4).bind fun t_00=>(if xs_4.length+([(⟨(w8 t_9.1),(w8 (w64 (1+t_00.1)))⟩:GHammer)]:List GHammer).length≤4294967296 then some (.inl (t_00.2.fat,t_00.2.fseed,(xs_4++([(⟨(w8 t_9.1),(w8 (w64 (1+t_00.1)))⟩:GHammer)]:List GHammer)),(w64 (i_0e-1)))) else none) else some (.inr (i_03,i_04,xs_4)))
def FB(s0:Gl00Src):Option (GFrame×(List GNote)×Gl00Src):=(Fo s0 8).bind fun t_0=>(Fo (⟨s0.fcode,t_0.2.fat,t_0.2.fseed⟩:Gl00Src) 3).bind fun t_0f=>(loop (FB.l_25 s0) (t_0f.2.fat,t_0f.2.fseed,[],(w64 (1+t_0f.1)))).bind fun t_0s=>FB.k_6 s0 t_0 t_0s.1 t_0s.2.1 t_0s.2.2
theorem FB.calls(s0:Gl00Src)(w:World)(r:GFrame×(List GNote)×Gl00Src){B_a:Option Addr}{B_an:Nat}(B_c:Nat)(B_h:Rw w B_a 1 encU8 s0.fcode)(B_hn:s0.fcode.length=B_an)(A_b:Nat)(hm0:Mem w (bs [some A_b]) [⟨some A_b,179,[(.slice B_a B_an B_c),(vI s0.fat),(.int .u64 s0.fseed)]⟩] w)(B_ha:s0.fcode≠ []→aB B_a∉bs [some A_b])(h:FB s0=some r):
   Calls Tryz.prog 56 #[(vP A_b)] w fun e w'=>∃v,e= .returned v∧(∃(o0:Option Nat) (c0:Nat) (s0:List Value) (n0:Nat),r.1.fHammers.length=n0∧(hS o0 n0 c0 s0 2)∧(hO o0 r.1.fHammers c0)∧∃(o1:Option Nat) (c1:Nat) (s1:List Value) (n1:Nat),r.2.1.length=n1∧(hS o1 n1 c1 s1 2)∧(hO o1 r.2.1 c1)∧v= .tuple #[.agg #[(vH r.1.fSteps), .slice (mB o0) n0 c0], .slice (mB o1) n1 c1]∧Mem w (bs [some A_b]) [⟨some A_b,179,[(.slice B_a B_an B_c),(vI r.2.2.fat),(.int .u64 r.2.2.fseed)]⟩,⟨o0,132,row encGHammer r.1.fHammers s0⟩,⟨o1,101,row encGNote r.2.1 s1⟩] w'):=by
 subst B_hn
 rw [FB] at h
 refine enter (args:= [(vP A_b)]) Tryz.func56 rfl Tryz.ntmps56 (by kernel_rfl) (L:= [⟨some A_b,179,[(.slice B_a s0.fcode.length B_c),(vI s0.fat),(.int .u64 s0.fseed)]⟩]) (W:=bs [some A_b]) hm0 (jc_seq (jc_region (tO (qa 0 (fun b_0=>jkO (qh [0] (qe (jx_then (jc_seq (jc_region (qh [0] ?_)))))))))))
 obtain⟨t_0,ht_0f,h⟩:=bd h
 refine tO (pc 0 (fun w hm=>Fo.calls s0 8 w _ B_c (hm.exRowW B_h B_ha) rfl A_b (hm.ps [0]) (hm.xp B_h B_ha [0]) ht_0f) ?_)
 rintro w v w' hm ⟨rfl,hm'⟩
 refine⟨_,hm.appW (ps:= [(0,⟨some A_b,179,[(.slice B_a s0.fcode.length B_c),(vI t_0.2.fat),(.int .u64 t_0.2.fseed)]⟩)]) (N:= []) hm' (by kernel_rfl) (by kernel_rfl),jkO ?_⟩
 clear hm hm'
 refine qh [0,0,0] (tO (qa 0 (fun b_2=>jkO (tO (qs 0 [2] (jkO (qe (jx_then (jc_seq (jc_seq (jc_region (qh [0] ?_))))))))))))
 obtain⟨t_0f,ht_12,h⟩:=bd h
 refine tO (pc 0 (fun w hm=>Fo.calls (⟨s0.fcode,t_0.2.fat,t_0.2.fseed⟩:Gl00Src) 3 w _ B_c (hm.exRowW B_h B_ha) rfl A_b (hm.ps [0]) (hm.xp B_h B_ha [0]) ht_12) ?_)
 rintro w v w' hm ⟨rfl,hm'⟩
 refine⟨_,hm.appW (ps:= [(0,⟨some A_b,179,[(.slice B_a s0.fcode.length B_c),(vI t_0f.2.fat),(.int .u64 t_0f.2.fseed)]⟩)]) (N:= []) hm' (by kernel_rfl) (by kernel_rfl),jkO ?_⟩
 clear hm hm'
 refine qh [0,0] (qe (jx_then (jc_meet (fun(j:Int×Int×(List GHammer)×(Option Nat)×Nat×(List Value)×Nat)=>match j with | ⟨i_2,i_08,xs_1,o_5,cap_05,sp_09,n_0n⟩=>FB.k_6 s0 t_0 i_2 i_08 xs_1=some r∧(xs_1.length=n_0n)∧(hS o_5 n_0n cap_05 sp_09 2)∧(hO o_5 xs_1 cap_05)) (fun⟨i_2,i_08,xs_1,o_5,cap_05,sp_09,n_0n⟩=> [(0,[],(vP A_b)),(2,[],(vP b_0)),(3,[],(.slice none 0 0)),(4,[],(vP b_2))]) (fun⟨i_2,i_08,xs_1,o_5,cap_05,sp_09,n_0n⟩=> [⟨some A_b,179,[(.slice B_a s0.fcode.length B_c),(vI i_2),(.int .u64 i_08)]⟩,⟨some b_0,27,[(vH 0),(.slice none 0 0)]⟩,⟨some b_2,27,[(vH (w16 (w64 (6+t_0.1)))),(.slice (mB o_5) n_0n cap_05)]⟩,⟨o_5,132,row encGHammer xs_1 sp_09⟩]) ?_ ?_)))
 ·refine jc_block ?_
  obtain⟨t_0s,ht_13,hr_14⟩:=bd h
  refine jc_ghost 132 encGHammer (jl (fun(s:Int×Int×(List GHammer)×Int) (x:(Option Nat)×Nat×(List Value)×Nat)=>match s,x with | ⟨i_03,i_04,xs_4,i_0e⟩,⟨o_0a,cap_0g,sp_0i,n_0o⟩=>(xs_4.length=n_0o)∧(hS o_0a n_0o cap_0g sp_0i 2)∧(hO o_0a xs_4 cap_0g)) (fun⟨i_03,i_04,xs_4,i_0e⟩ ⟨o_0a,cap_0g,sp_0i,n_0o⟩=> [(0,[],(vP A_b)),(2,[],(vP b_0)),(3,[],(.slice none 0 0)),(4,[],(vP b_2)),(5,[],(vI i_0e))]) (fun⟨i_03,i_04,xs_4,i_0e⟩ ⟨o_0a,cap_0g,sp_0i,n_0o⟩=> [⟨some A_b,179,[(.slice B_a s0.fcode.length B_c),(vI i_03),(.int .u64 i_04)]⟩,⟨some b_0,27,[(vH 0),(.slice none 0 0)]⟩,⟨some b_2,27,[(vH (w16 (w64 (6+t_0.1)))),(.slice (mB o_0a) n_0o cap_0g)]⟩,⟨o_0a,132,row encGHammer xs_4 sp_0i⟩]) ht_13 ⟨none,0,[],0⟩ ⟨rfl,(fun e=>absurd rfl e),(fun _=>⟨rfl,rfl⟩)⟩ [0,1,2,3] ?_)
  rintro⟨i_03,i_04,xs_4,i_0e⟩ ⟨o_0a,cap_0g,sp_0i,n_0o⟩ y_20 ⟨rfl,hs_0u,ho_0v⟩ h
  rw [FB.l_25] at h
  refine jc_seq (jc_seq (jc_region (qh [0,0] (qe (jx_then (qi h (fun h=> ?_) (fun h=> ?_)))))))
  ·refine jc_skip (jx_then (jc_seq (jc_block (jc_seq (jc_region (qh [0] (tO (qa 0 (fun b_0w=>jkO ?_)))))))))
   obtain⟨t_9,ht_15,h⟩:=bd h
   refine tO (pc 0 (fun w hm=>FaM.calls (⟨s0.fcode,i_03,i_04⟩:Gl00Src) ([22,23,24,34,35]:List Int) w _ B_c (hm.exRowW B_h B_ha) rfl 5 (hm.ow 4 (some b_0w) 2 ([22,23,24,34,35]:List Int) [] (fun e=>nomatch e) encI64_len) rfl A_b (hm.ps [0]) (hm.xp B_h B_ha [0]) (hm.oa 4 (some b_0w) (fun e=>nomatch e) [0]) ht_15) ?_)
   rintro w v w' hm ⟨rfl,hm'⟩
   refine⟨_,hm.appW (ps:= [(0,⟨some A_b,179,[(.slice B_a s0.fcode.length B_c),(vI t_9.2.fat),(.int .u64 t_9.2.fseed)]⟩)]) (N:= []) hm' (by kernel_rfl) (by kernel_rfl),jkO ?_⟩
   clear hm hm'
   refine qh [0,0] (tO (qa 0 (fun b_21=>jkO (tO (qs 0 [5] (jkO (qe (jx_then (jc_seq (jc_region (qh [0] ?_)))))))))))
   obtain⟨t_00,ht_16,h⟩:=bd h
   refine tO (pc 0 (fun w hm=>Fo.calls (⟨s0.fcode,t_9.2.fat,t_9.2.fseed⟩:Gl00Src) 4 w _ B_c (hm.exRowW B_h B_ha) rfl A_b (hm.ps [0]) (hm.xp B_h B_ha [0]) ht_16) ?_)
   rintro w v w' hm ⟨rfl,hm'⟩
   refine⟨_,hm.appW (ps:= [(0,⟨some A_b,179,[(.slice B_a s0.fcode.length B_c),(vI t_00.2.fat),(.int .u64 t_00.2.fseed)]⟩)]) (N:= []) hm' (by kernel_rfl) (by kernel_rfl),jkO ?_⟩
   clear hm hm'
   refine qh [0,0,0] (tO (qs 0 [5] (jkO (qe (jx_then (jc_region (qh [0,2,5] (tO (qa 0 (fun b_0x=>jkO ?_))))))))))
   obtain⟨hg_17,h⟩:=gd h
   exact tO (pA 0 3 o_0a 132 xs_4.length 1 cap_0g 2 2 (sB b_0x) encGHammer xs_4 ([(⟨(w8 t_9.1),(w8 (w64 (1+t_00.1)))⟩:GHammer)]:List GHammer) sp_0i (.agg #[(vB 0),(vB 0)]) rfl rfl encGHammer_len encGHammer_cell hs_0u ho_0v (fun w hm=>(hm.ow 6 (some b_0x) 132 ([(⟨(w8 t_9.1),(w8 (w64 (1+t_00.1)))⟩:GHammer)]:List GHammer) [] (fun e=>nomatch e) encGHammer_len)) hg_17 (fun o_18 cap_19 sp_1a hs_1b ho_1c=>jkO (qh [0] (tO (qs 0 [2] (jkO (qe (jx_inn (jx_then (jc_region (qh [0,0,0] (qe (qb (t_00.2.fat,t_00.2.fseed,(xs_4++([(⟨(w8 t_9.1),(w8 (w64 (1+t_00.1)))⟩:GHammer)]:List GHammer)),(w64 (i_0e-1))) ⟨o_18,cap_19,sp_1a,(xs_4++([(⟨(w8 t_9.1),(w8 (w64 (1+t_00.1)))⟩:GHammer)]:List GHammer)).length⟩ h ⟨rfl,hs_1b,ho_1c⟩ [0,1,2,3])))))))))))))
  ·refine jc_exit (jx_thenx (jx_leave (i_03,i_04,xs_4) (sj h) (fun e_1d=> ?_)))
   subst e_1d
   exact jx_ine (qm ⟨i_03,i_04,xs_4,o_0a,cap_0g,sp_0i,xs_4.length⟩ ⟨hr_14,rfl,hs_0u,ho_0v⟩ [0,1,2,3])
 ·rintro⟨i_2,i_08,xs_1,o_5,cap_05,sp_09,n_0n⟩ ⟨h,rfl,hs_1e,ho_1f⟩
  replace h:FB.k_6 s0 t_0 i_2 i_08 xs_1=some r:=h
  rw [FB.k_6] at h
  refine jx_then (jc_seq (jc_region (tO (qa 0 (fun b_1g=>jkO (qh [0] (qe (jx_then (jc_seq (jc_seq (jc_region (qh [0] ?_))))))))))))
  obtain⟨t_0m,ht_1h,h⟩:=bd h
  refine tO (pc 0 (fun w hm=>Fo.calls (⟨s0.fcode,i_2,i_08⟩:Gl00Src) 5 w _ B_c (hm.exRowW B_h B_ha) rfl A_b (hm.ps [0]) (hm.xp B_h B_ha [0]) ht_1h) ?_)
  rintro w v w' hm ⟨rfl,hm'⟩
  refine⟨_,hm.appW (ps:= [(0,⟨some A_b,179,[(.slice B_a s0.fcode.length B_c),(vI t_0m.2.fat),(.int .u64 t_0m.2.fseed)]⟩)]) (N:= []) hm' (by kernel_rfl) (by kernel_rfl),jkO ?_⟩
  clear hm hm'
  refine qh [0] (qe (jx_then (jc_meet (fun(j:(List GNote)×Int×Int×(Option Nat)×Nat×(List Value)×Nat)=>match j with | ⟨xs_6,i_06,i_07,o_0b,cap_0j,sp_0k,n_0p⟩=>FB.k_11 s0 t_0 xs_1 xs_6 i_06 i_07=some r∧(xs_6.length=n_0p)∧(hS o_0b n_0p cap_0j sp_0k 2)∧(hO o_0b xs_6 cap_0j)) (fun⟨xs_6,i_06,i_07,o_0b,cap_0j,sp_0k,n_0p⟩=> [(2,[],(vP b_0)),(3,[],(.slice none 0 0)),(4,[],(vP b_2)),(7,[],(.slice (mB o_0b) n_0p cap_0j))]) (fun⟨xs_6,i_06,i_07,o_0b,cap_0j,sp_0k,n_0p⟩=> [⟨some A_b,179,[(.slice B_a s0.fcode.length B_c),(vI i_06),(.int .u64 i_07)]⟩,⟨some b_0,27,[(vH 0),(.slice none 0 0)]⟩,⟨some b_2,27,[(vH (w16 (w64 (6+t_0.1)))),(.slice (mB o_5) xs_1.length cap_05)]⟩,⟨o_5,132,row encGHammer xs_1 sp_09⟩,⟨o_0b,101,row encGNote xs_6 sp_0k⟩]) ?_ ?_)))
  ·refine jc_block ?_
   obtain⟨t_0r,ht_1i,hr_1j⟩:=bd h
   refine jl (fun(s:(List GNote)×Int×Int×Int) (x:(Option Nat)×Nat×(List Value)×Nat)=>match s,x with | ⟨xs_3,i_01,i_02,i_0d⟩,⟨o_0c,cap_0h,sp_0l,n_0q⟩=>(xs_3.length=n_0q)∧(hS o_0c n_0q cap_0h sp_0l 2)∧(hO o_0c xs_3 cap_0h)) (fun⟨xs_3,i_01,i_02,i_0d⟩ ⟨o_0c,cap_0h,sp_0l,n_0q⟩=> [(0,[],(vP A_b)),(2,[],(vP b_0)),(3,[],(.slice none 0 0)),(4,[],(vP b_2)),(7,[],(.slice (mB o_0c) n_0q cap_0h)),(8,[],(vI i_0d))]) (fun⟨xs_3,i_01,i_02,i_0d⟩ ⟨o_0c,cap_0h,sp_0l,n_0q⟩=> [⟨some A_b,179,[(.slice B_a s0.fcode.length B_c),(vI i_01),(.int .u64 i_02)]⟩,⟨some b_0,27,[(vH 0),(.slice none 0 0)]⟩,⟨some b_2,27,[(vH (w16 (w64 (6+t_0.1)))),(.slice (mB o_5) xs_1.length cap_05)]⟩,⟨o_5,132,row encGHammer xs_1 sp_09⟩,⟨o_0c,101,row encGNote xs_3 sp_0l⟩]) ht_1i ⟨(some b_1g),0,[],0⟩ ⟨rfl,(fun _=>⟨Nat.le_refl _,by simp⟩),(fun e=>nomatch e)⟩ [0,1,2,3,4] ?_
   rintro⟨xs_3,i_01,i_02,i_0d⟩ ⟨o_0c,cap_0h,sp_0l,n_0q⟩ y_22 ⟨rfl,hs_0y,ho_0z⟩ h
   rw [FB.l_17] at h
   refine jc_seq (jc_seq (jc_region (qh [0,0] (qe (jx_then (qi h (fun h=> ?_) (fun h=> ?_)))))))
   ·refine jc_skip (jx_then (jc_seq (jc_block (jc_seq (jc_region (qh [0,0,2,0] ?_))))))
    obtain⟨t_7,ht_1k,h⟩:=bd h
    refine tO (pc 0 (fun w hm=>Fo.calls (⟨s0.fcode,i_01,i_02⟩:Gl00Src) (w64 (w16 (w64 (6+t_0.1)))) w _ B_c (hm.exRowW B_h B_ha) rfl A_b (hm.ps [0]) (hm.xp B_h B_ha [0]) ht_1k) ?_)
    rintro w v w' hm ⟨rfl,hm'⟩
    refine⟨_,hm.appW (ps:= [(0,⟨some A_b,179,[(.slice B_a s0.fcode.length B_c),(vI t_7.2.fat),(.int .u64 t_7.2.fseed)]⟩)]) (N:= []) hm' (by kernel_rfl) (by kernel_rfl),jkO ?_⟩
    clear hm hm'
    refine qh [0,0] (tO (qa 0 (fun b_23=>jkO (tO (qs 0 [5] (jkO (qe (jx_then (jc_seq (jc_region (qh [0] (tO (qa 0 (fun b_10=>jkO ?_))))))))))))))
    obtain⟨t_8,ht_1l,h⟩:=bd h
    refine tO (pc 0 (fun w hm=>FaM.calls (⟨s0.fcode,t_7.2.fat,t_7.2.fseed⟩:Gl00Src) ([22,23,24,34,35,12]:List Int) w _ B_c (hm.exRowW B_h B_ha) rfl 6 (hm.ow 6 (some b_10) 2 ([22,23,24,34,35,12]:List Int) [] (fun e=>nomatch e) encI64_len) rfl A_b (hm.ps [0]) (hm.xp B_h B_ha [0]) (hm.oa 6 (some b_10) (fun e=>nomatch e) [0]) ht_1l) ?_)
    rintro w v w' hm ⟨rfl,hm'⟩
    refine⟨_,hm.appW (ps:= [(0,⟨some A_b,179,[(.slice B_a s0.fcode.length B_c),(vI t_8.2.fat),(.int .u64 t_8.2.fseed)]⟩)]) (N:= []) hm' (by kernel_rfl) (by kernel_rfl),jkO ?_⟩
    clear hm hm'
    refine qh [0,0] (tO (qs 0 [5] (jkO (qe (jx_then (jc_region (qh [0,5] (tO (qa 0 (fun b_11=>jkO ?_))))))))))
    obtain⟨hg_1m,h⟩:=gd h
    exact tO (pA 0 4 o_0c 101 xs_3.length 1 cap_0h 2 4 (sB b_11) encGNote xs_3 ([(⟨(w16 t_7.1),(w8 t_8.1)⟩:GNote)]:List GNote) sp_0l (.agg #[(vH 0),(vB 0)]) rfl rfl encGNote_len encGNote_cell hs_0y ho_0z (fun w hm=>(hm.ow 7 (some b_11) 101 ([(⟨(w16 t_7.1),(w8 t_8.1)⟩:GNote)]:List GNote) [] (fun e=>nomatch e) encGNote_len)) hg_1m (fun o_1n cap_1o sp_1p hs_1q ho_1r=>jkO (qh [0] (qe (jx_inn (jx_then (jc_region (qh [0,0,0] (qe (qb ((xs_3++([(⟨(w16 t_7.1),(w8 t_8.1)⟩:GNote)]:List GNote)),t_8.2.fat,t_8.2.fseed,(w64 (i_0d-1))) ⟨o_1n,cap_1o,sp_1p,(xs_3++([(⟨(w16 t_7.1),(w8 t_8.1)⟩:GNote)]:List GNote)).length⟩ h ⟨rfl,hs_1q,ho_1r⟩ [0,1,2,3,4]))))))))))
   ·refine jc_exit (jx_thenx (jx_leave (xs_3,i_01,i_02) (sj h) (fun e_1s=> ?_)))
    subst e_1s
    exact jx_ine (qm ⟨xs_3,i_01,i_02,o_0c,cap_0h,sp_0l,xs_3.length⟩ ⟨hr_1j,rfl,hs_0y,ho_0z⟩ [0,1,2,3,4])
  ·rintro⟨xs_6,i_06,i_07,o_0b,cap_0j,sp_0k,n_0p⟩ ⟨h,rfl,hs_24,ho_1t⟩
   replace h:FB.k_11 s0 t_0 xs_1 xs_6 i_06 i_07=some r:=h
   rw [FB.k_11] at h
   refine jx_then (jc_seq (qg [⟨some A_b,179,[(.slice B_a s0.fcode.length B_c),(vI i_06),(.int .u64 i_07)]⟩,⟨some b_2,27,[(vH (w16 (w64 (6+t_0.1)))),(.slice (mB o_5) xs_1.length cap_05)]⟩,⟨o_5,132,row encGHammer xs_1 sp_09⟩,⟨o_0b,101,row encGNote xs_6 sp_0k⟩] 5 (qd [⟨0,1,0⟩,⟨1,0,0⟩] 3 [0,2,3,4] ?_)))
   obtain⟨t_0t,ht_1u,h⟩:=bd h
   refine tD 2 (pc 0 (fun w hm=>Fu.calls xs_6 w _ cap_0j (hm.ow 4 o_0b 101 xs_6 sp_0k (fun e=>(ho_1t e).1) encGNote_len) rfl ht_1u) ?_)
   rintro w v w' hm ⟨o_1v,cap_1w,sp_1x,_,rfl,hs_1y,ho_1z,rfl,hm'⟩
   refine aq hm hm' (kD [0,2,3,4] (tD 3 (qs 0 [1] (kD [0,2,3,4] (qd [⟨4,0,0⟩] 0 [0,2,3,4] (qz (jx_then (jc_ret ?_))))))))
   obtain rfl:=si h
   exact qr [1] (fun w hm=>⟨o_5,cap_05,sp_09,xs_1.length,rfl,hs_1e,ho_1f,o_1v,cap_1w,sp_1x,t_0t.length,rfl,hs_1y,ho_1z,rfl,hm.pk [0,3,5]⟩)
def FbD(code0:List Int):Option (GFrame×(List GNote)):=(FaJ code0).bind fun t_1=>(FB (⟨code0,t_1.fat,t_1.fseed⟩:Gl00Src)).bind fun t_0=>some (t_0.1,t_0.2.1)
theorem FbD.calls(code0:List Int)(w:World)(r:GFrame×(List GNote)){A_a:Option Addr}{A_an:Nat}(A_c:Nat)(A_h:Rw w A_a 1 encU8 code0)(A_hn:code0.length=A_an)(h:FbD code0=some r):
   Calls Tryz.prog 7 #[(.slice A_a A_an A_c)] w fun e w'=>∃v,e= .returned v∧(∃(o0:Option Nat) (c0:Nat) (s0:List Value) (n0:Nat),r.1.fHammers.length=n0∧(hS o0 n0 c0 s0 2)∧(hO o0 r.1.fHammers c0)∧∃(o1:Option Nat) (c1:Nat) (s1:List Value) (n1:Nat),r.2.length=n1∧(hS o1 n1 c1 s1 2)∧(hO o1 r.2 c1)∧v= .tuple #[.agg #[(vH r.1.fSteps), .slice (mB o0) n0 c0], .slice (mB o1) n1 c1]∧Mem w [] [⟨o0,132,row encGHammer r.1.fHammers s0⟩,⟨o1,101,row encGNote r.2 s1⟩] w'):=by
 subst A_hn
 rw [FbD] at h
 refine en Tryz.func7 rfl Tryz.ntmps7 (jc_seq (jc_region (tO (qa 0 (fun b_1=>jkO (qh [0] (qe (jx_then (jc_seq (jc_region (qh [0] ?_)))))))))))
 obtain⟨t_1,ht_0,h⟩:=bd h
 refine tO (pc 0 (fun w hm=>FaJ.calls code0 w _ A_c (hm.xr A_h) rfl ht_0) ?_)
 rintro w v w' hm ⟨b_2,rfl,hm'⟩
 refine aq hm hm' (jkO ?_)
 obtain⟨t_0,ht_7,h⟩:=bd h
 refine tO (pc 0 (fun w hm=>FB.calls (⟨code0,t_1.fat,t_1.fseed⟩:Gl00Src) w _ A_c (hm.xr A_h) rfl b_2 (hm.ps [1]) (hm.xp A_h (fun _=>List.not_mem_nil) [1]) ht_7) ?_)
 rintro w v w' hm ⟨o_3,cap_8,sp_4,_,rfl,hs_9,ho_00,o_5,cap_01,sp_6,_,rfl,hs_02,ho_03,rfl,hm'⟩
 refine⟨_,hm.appW (ps:= [(1,⟨some b_2,179,[(.slice A_a code0.length A_c),(vI t_0.2.2.fat),(.int .u64 t_0.2.2.fseed)]⟩)]) (N:= [⟨o_3,132,row encGHammer t_0.1.fHammers sp_4⟩,⟨o_5,101,row encGNote t_0.2.1 sp_6⟩]) hm' (by kernel_rfl) (by kernel_rfl),jkO ?_⟩
 clear hm hm'
 refine qh [0,0] (tO (qs 0 [0] (jkO (qh [0] (qe (jx_then (jc_ret ?_)))))))
 obtain rfl:=si h
 exact qr [0] (fun w hm=>⟨o_3,cap_8,sp_4,t_0.1.fHammers.length,rfl,hs_9,ho_00,o_5,cap_01,sp_6,t_0.2.1.length,rfl,hs_02,ho_03,rfl,hm.pk [2,3]⟩)
def Fbc(s0:Gl00Src):Option (GCosts×Gl00Src):=(Fo s0 12).bind fun t_1=>(Fo (⟨s0.fcode,t_1.2.fat,t_1.2.fseed⟩:Gl00Src) 6).bind fun t_0=>(Fo (⟨s0.fcode,t_0.2.fat,t_0.2.fseed⟩:Gl00Src) 4).bind fun t_2=>some ((⟨(w16 t_1.1),(w16 t_0.1),(w16 t_2.1)⟩:GCosts),(⟨s0.fcode,t_2.2.fat,t_2.2.fseed⟩:Gl00Src))
theorem Fbc.calls(s0:Gl00Src)(w:World)(r:GCosts×Gl00Src){B_a:Option Addr}{B_an:Nat}(B_c:Nat)(B_h:Rw w B_a 1 encU8 s0.fcode)(B_hn:s0.fcode.length=B_an)(A_b:Nat)(hm0:Mem w (bs [some A_b]) [⟨some A_b,179,[(.slice B_a B_an B_c),(vI s0.fat),(.int .u64 s0.fseed)]⟩] w)(B_ha:s0.fcode≠ []→aB B_a∉bs [some A_b])(h:Fbc s0=some r):
   Calls Tryz.prog 58 #[(vP A_b)] w fun e w'=>∃v,e= .returned v∧(v= .agg #[(vH r.1.fAway),(vH r.1.fOctave),(vH r.1.fStep)]∧Mem w (bs [some A_b]) [⟨some A_b,179,[(.slice B_a B_an B_c),(vI r.2.fat),(.int .u64 r.2.fseed)]⟩] w'):=by
 subst B_hn
 rw [Fbc] at h
 refine enter (args:= [(vP A_b)]) Tryz.func58 rfl Tryz.ntmps58 (by kernel_rfl) (L:= [⟨some A_b,179,[(.slice B_a s0.fcode.length B_c),(vI s0.fat),(.int .u64 s0.fseed)]⟩]) (W:=bs [some A_b]) hm0 (jc_seq (jc_region (tO (qa 0 (fun b_1=>jkO (qe (jx_then (jc_seq (jc_region (qh [0] ?_))))))))))
 obtain⟨t_1,ht_0,h⟩:=bd h
 refine tO (pc 0 (fun w hm=>Fo.calls s0 12 w _ B_c (hm.exRowW B_h B_ha) rfl A_b (hm.ps [0]) (hm.xp B_h B_ha [0]) ht_0) ?_)
 rintro w v w' hm ⟨rfl,hm'⟩
 refine⟨_,hm.appW (ps:= [(0,⟨some A_b,179,[(.slice B_a s0.fcode.length B_c),(vI t_1.2.fat),(.int .u64 t_1.2.fseed)]⟩)]) (N:= []) hm' (by kernel_rfl) (by kernel_rfl),jkO ?_⟩
 clear hm hm'
 refine qh [0,0] ?_
 obtain⟨t_0,ht_2,h⟩:=bd h
 refine tO (pc 0 (fun w hm=>Fo.calls (⟨s0.fcode,t_1.2.fat,t_1.2.fseed⟩:Gl00Src) 6 w _ B_c (hm.exRowW B_h B_ha) rfl A_b (hm.ps [0]) (hm.xp B_h B_ha [0]) ht_2) ?_)
 rintro w v w' hm ⟨rfl,hm'⟩
 refine⟨_,hm.appW (ps:= [(0,⟨some A_b,179,[(.slice B_a s0.fcode.length B_c),(vI t_0.2.fat),(.int .u64 t_0.2.fseed)]⟩)]) (N:= []) hm' (by kernel_rfl) (by kernel_rfl),jkO ?_⟩
 clear hm hm'
 refine qh [0,0] (tO (qa 0 (fun b_4=>jkO (tO (qs 0 [2] (jkO (qe (jx_then (jc_seq (jc_region (qh [0] ?_)))))))))))
 obtain⟨t_2,ht_3,h⟩:=bd h
 refine tO (pc 0 (fun w hm=>Fo.calls (⟨s0.fcode,t_0.2.fat,t_0.2.fseed⟩:Gl00Src) 4 w _ B_c (hm.exRowW B_h B_ha) rfl A_b (hm.ps [0]) (hm.xp B_h B_ha [0]) ht_3) ?_)
 rintro w v w' hm ⟨rfl,hm'⟩
 refine⟨_,hm.appW (ps:= [(0,⟨some A_b,179,[(.slice B_a s0.fcode.length B_c),(vI t_2.2.fat),(.int .u64 t_2.2.fseed)]⟩)]) (N:= []) hm' (by kernel_rfl) (by kernel_rfl),jkO ?_⟩
 clear hm hm'
 refine qh [0,0] (tO (qs 0 [2] (jkO (qe (jx_then (jc_seq (jc_region (qh [2] (tO (qs 0 [1] (jkO (qe (jx_then (jc_ret ?_))))))))))))))
 obtain rfl:=si h
 exact qr [1] (fun w hm=>⟨rfl,hm.pk [0]⟩)
def FbE(code0:List Int):Option (GCosts):=(FaJ code0).bind fun t_0=>(Fbc (⟨code0,t_0.fat,t_0.fseed⟩:Gl00Src)).bind fun t_1=>some t_1.1
theorem FbE.calls(code0:List Int)(w:World)(r:GCosts){A_a:Option Addr}{A_an:Nat}(A_c:Nat)(A_h:Rw w A_a 1 encU8 code0)(A_hn:code0.length=A_an)(h:FbE code0=some r):
   Calls Tryz.prog 8 #[(.slice A_a A_an A_c)] w fun e w'=>∃v,e= .returned v∧(v= .agg #[(vH r.fAway),(vH r.fOctave),(vH r.fStep)]∧Mem w [] [] w'):=by
 subst A_hn
 rw [FbE] at h
 refine en Tryz.func8 rfl Tryz.ntmps8 (jc_seq (jc_region (tO (qa 0 (fun b_0=>jkO (qe (jx_then (jc_seq (jc_region (qh [0] ?_))))))))))
 obtain⟨t_0,ht_1,h⟩:=bd h
 refine tO (pc 0 (fun w hm=>FaJ.calls code0 w _ A_c (hm.xr A_h) rfl ht_1) ?_)
 rintro w v w' hm ⟨b_2,rfl,hm'⟩
 refine aq hm hm' (jkO ?_)
 obtain⟨t_1,ht_3,h⟩:=bd h
 refine tO (pc 0 (fun w hm=>Fbc.calls (⟨code0,t_0.fat,t_0.fseed⟩:Gl00Src) w _ A_c (hm.xr A_h) rfl b_2 (hm.ps [1]) (hm.xp A_h (fun _=>List.not_mem_nil) [1]) ht_3) ?_)
 rintro w v w' hm ⟨rfl,hm'⟩
 refine⟨_,hm.appW (ps:= [(1,⟨some b_2,179,[(.slice A_a code0.length A_c),(vI t_1.2.fat),(.int .u64 t_1.2.fseed)]⟩)]) (N:= []) hm' (by kernel_rfl) (by kernel_rfl),jkO ?_⟩
 clear hm hm'
 refine tO (qs 0 [0] (jkO (qe (jx_then (jc_ret ?_)))))
 obtain rfl:=si h
 exact qr [0] (fun w hm=>⟨rfl,hm.pk []⟩)
def FG(n0:Int)(low1:Int)(high2:Int):Option (Bool):=some ((decide (low1≤n0))&&(decide (n0≤high2)))
theorem FG.calls(n0:Int)(low1:Int)(high2:Int)(w:World)(r:Bool)(h:FG n0 low1 high2=some r):
   Calls Tryz.prog 86 #[(vI n0),(vI low1),(vI high2)] w fun e w'=>∃v,e= .returned v∧(v=(.bool r)∧Mem w [] [] w'):=by
 rw [FG] at h
 refine en Tryz.func86 rfl Tryz.ntmps86 (jc_seq (jc_region (qh [0] (qe (jx_then (jc_seq (jc_region (qf [(0,0),(0,0),(0,0),(0,0),(0,1),(0,1),(0,1),(0,0),(0,0)] (qe (jx_then (jc_ret ?_)))))))))))
 obtain rfl:=si h
 exact qr [] (fun w hm=>⟨rfl,hm.pk []⟩)
def FaF(list0:List GHammer):Option (Int):=some (list0.length:Int)
theorem FaF.calls(list0:List GHammer)(w:World)(r:Int){A_a:Option Addr}{A_an:Nat}(A_c:Nat)(A_h:Rw w A_a 2 encGHammer list0)(A_hn:list0.length=A_an)(h:FaF list0=some r):
   Calls Tryz.prog 154 #[(.slice A_a A_an A_c)] w fun e w'=>∃v,e= .returned v∧(v=(vI r)∧Mem w [] [] w'):=by
 subst A_hn
 rw [FaF] at h
 refine en Tryz.func154 rfl Tryz.ntmps154 (jc_seq (jc_region (qh [0] (qe (jx_then (jc_seq (jc_region (qh [0,0,0] (qe (jx_then (jc_ret ?_)))))))))))
 obtain rfl:=si h
 exact qr [] (fun w hm=>⟨rfl,hm.pk []⟩)
def Fbf(n0:Int):Option (Bool):=(FG n0 0 47).bind fun t_0=>some t_0
theorem Fbf.calls(n0:Int)(w:World)(r:Bool)(h:Fbf n0=some r):
   Calls Tryz.prog 157 #[(vI n0)] w fun e w'=>∃v,e= .returned v∧(v=(.bool r)∧Mem w [] [] w'):=by
 rw [Fbf] at h
 refine en Tryz.func157 rfl Tryz.ntmps157 (jc_seq (jc_region (qh [0] (qe (jx_then (jc_seq (jc_region (qh [0] ?_))))))))
 obtain⟨t_0,ht_0,h⟩:=bd h
 refine tO (pq 0 (fun w hm=>FG.calls n0 0 47 w _ ht_0) (jkO (qh [0] (qe (jx_then (jc_ret ?_))))))
 obtain rfl:=si h
 exact qr [] (fun w hm=>⟨rfl,hm.pk []⟩)
def Fa0(h0:GHammer)(p1:GFrame):Option (Bool):=(Fbf (w64 h0.fPitch)).bind fun t_1=>(if(!t_1)=true then some true else(FG (w64 h0.fReady) 1 (if(w64 p1.fSteps)<20 then(w64 p1.fSteps) else 20)).bind fun t_0=>some (!t_0))
theorem Fa0.calls(h0:GHammer)(p1:GFrame)(w:World)(r:Bool){F_a:Option Addr}{F_an:Nat}(F_c:Nat)(F_h:Rw w F_a 2 encGHammer p1.fHammers)(F_hn:p1.fHammers.length=F_an)(D_b:Nat)(hm0:Mem w (bs [some D_b]) [⟨some D_b,27,[(vH p1.fSteps),(.slice F_a F_an F_c)]⟩] w)(F_ha:p1.fHammers≠ []→aB F_a∉bs [some D_b])(h:Fa0 h0 p1=some r):
   Calls Tryz.prog 156 #[(.agg #[(vB h0.fPitch),(vB h0.fReady)]),(vP D_b)] w fun e w'=>∃v,e= .returned v∧(v=(.bool r)∧Mem w (bs [some D_b]) [⟨some D_b,27,[(vH p1.fSteps),(.slice F_a F_an F_c)]⟩] w'):=by
 subst F_hn
 rw [Fa0] at h
 refine enter (args:= [(.agg #[(vB h0.fPitch),(vB h0.fReady)]),(vP D_b)]) Tryz.func156 rfl Tryz.ntmps156 (by kernel_rfl) (L:= [⟨some D_b,27,[(vH p1.fSteps),(.slice F_a p1.fHammers.length F_c)]⟩]) (W:=bs [some D_b]) hm0 (jc_seq (jc_region (tO (qa 0 (fun b_1=>jkO (qh [0] (qe (jx_then (jc_seq (jc_region (qh [0,1,0] ?_)))))))))))
 obtain⟨t_1,ht_0,h⟩:=bd h
 refine tO (pq 0 (fun w hm=>Fbf.calls (w64 h0.fPitch) w _ ht_0) (jkO (qf [(0,0),(0,0),(0,1),(1,1),(0,1),(0,1),(0,1),(0,1),(0,1)] (qp 9 h (fun h=> ?_) (fun h=> ?_)))))
 ·refine qf [(0,3),(0,3),(0,4),(0,0)] (qe (jx_then (jc_ret ?_)))
  obtain rfl:=si h
  exact qr [] (fun w hm=>⟨rfl,hm.pk [0]⟩)
 ·obtain⟨t_0,ht_2,h⟩:=bd h
  refine tO (pq 2 (fun w hm=>FG.calls (w64 h0.fReady) 1 (if(w64 p1.fSteps)<20 then(w64 p1.fSteps) else 20) w _ ht_2) (jkO (qf [(0,2),(0,5),(0,0)] (qe (jx_then (jc_ret ?_))))))
  obtain rfl:=si h
  exact qr [] (fun w hm=>⟨rfl,hm.pk [0]⟩)
def Fm.k_1:Option (Int):=some (-1)
def Fm.l_3(s0:List GHammer)(g1c0:GFrame):Int→Option ((Int)⊕(Int⊕Unit))
 | i_0=>(if(decide (i_0<(s0.length:Int)))=true then(ix s0 i_0).bind fun x_1=>(Fa0 x_1 g1c0).bind fun t_3=>(if t_3=true then some (.inr (.inl i_0)) else some (.inl (w64 (i_0+1)))) else some (.inr (.inr ())))
def Fm(s0:List GHammer)(g1c0:GFrame):Option (Int):=(loop (Fm.l_3 s0 g1c0) 0).bind fun t_4=>match t_4 with | .inl p=>some p | .inr p=>Fm.k_1
theorem Fm.calls(s0:List GHammer)(g1c0:GFrame)(w:World)(r:Int){A_a:Option Addr}{A_an:Nat}(A_c:Nat)(A_h:Rw w A_a 2 encGHammer s0)(A_hn:s0.length=A_an){D_a:Option Addr}{D_an:Nat}(D_c:Nat)(D_h:Rw w D_a 2 encGHammer g1c0.fHammers)(D_hn:g1c0.fHammers.length=D_an)(B_b:Nat)(hm0:Mem w (bs [some B_b]) [⟨some B_b,27,[(vH g1c0.fSteps),(.slice D_a D_an D_c)]⟩] w)(A_ha:s0≠ []→aB A_a∉bs [some B_b])(D_ha:g1c0.fHammers≠ []→aB D_a∉bs [some B_b])(h:Fm s0 g1c0=some r):
   Calls Tryz.prog 206 #[(.slice A_a A_an A_c),(.func (.func 156) #[] #[(vP B_b)])] w fun e w'=>∃v,e= .returned v∧(v=(vI r)∧Mem w (bs [some B_b]) [⟨some B_b,27,[(vH g1c0.fSteps),(.slice D_a D_an D_c)]⟩] w'):=by
 subst A_hn D_hn
 rw [Fm] at h
 refine enter (args:= [(.slice A_a s0.length A_c),(.func (.func 156) #[] #[(vP B_b)])]) Tryz.func206 rfl Tryz.ntmps206 (by kernel_rfl) (L:= [⟨some B_b,27,[(vH g1c0.fSteps),(.slice D_a g1c0.fHammers.length D_c)]⟩]) (W:=bs [some B_b]) hm0 (jc_seq (jc_region (qh [0] (qe (jx_then (jc_seq (jc_seq (jc_region (qh [0,0,0] (qe (jx_then (jc_meet (fun(_:Unit)=>Fm.k_1=some r) (fun(_:Unit)=> [(4,[],(vI 0))]) (fun(_:Unit)=> [⟨some B_b,27,[(vH g1c0.fSteps),(.slice D_a g1c0.fHammers.length D_c)]⟩]) ?_ ?_))))))))))))
 ·refine jc_block ?_
  obtain⟨t_4,ht_6,hr_5⟩:=bd h
  refine jl (fun(i_0:Int) (_:Unit)=>True) (fun i_0 _=> [(0,[],(.slice A_a s0.length A_c)),(1,[],(.func (.func 156) #[] #[(vP B_b)])),(4,[],(vI 0)),(7,[],(vI (s0.length:Int))),(8,[],(vI i_0))]) (fun i_0 _=> [⟨some B_b,27,[(vH g1c0.fSteps),(.slice D_a g1c0.fHammers.length D_c)]⟩]) ht_6 () trivial [0] ?_
  rintro i_0 _ y_00 _ h
  rw [Fm.l_3] at h
  refine jc_seq (jc_region (qh [0] (qe (jx_then (jc_seq (qi h (fun h=> ?_) (fun h=> ?_)))))))
  ·refine jc_skip (jx_then (jc_seq (jc_block (jc_seq (jc_region (qh [0,0] (qe (jx_then (jc_seq (jc_region (qh [0,0,0] ?_)))))))))))
   obtain⟨x_1,hx_2,h⟩:=bd h
   refine tO (qx 0 A_a 2 hx_2 rfl (A_h.sp hx_2) (jkO (tO (ql 0 true (fun w hm=>((hm.exRowW A_h A_ha).at hx_2)) (jkO ?_)))))
   obtain⟨t_3,ht_7,h⟩:=bd h
   refine tO (pc 0 (fun w hm=>Fa0.calls x_1 g1c0 w _ D_c (hm.exRowW D_h D_ha) rfl B_b (hm.ps [0]) (hm.xp D_h D_ha [0]) ht_7) ?_)
   rintro w v w' hm ⟨rfl,hm'⟩
   refine⟨_,hm.appW (ps:= [(0,⟨some B_b,27,[(vH g1c0.fSteps),(.slice D_a g1c0.fHammers.length D_c)]⟩)]) (N:= []) hm' (by kernel_rfl) (by kernel_rfl),jkO ?_⟩
   clear hm hm'
   refine qe (jx_then (qi h (fun h=> ?_) (fun h=> ?_)))
   ·refine jc_seq (jc_region (qh [0,0] (qe (jx_then (jc_ret (jx_inr (jx_thenr (jx_leaver (.inl i_0) (sj h) (fun e_8=> ?_)))))))))
    subst e_8
    refine jx_inr (jx_thenr (jx_thenr ?_))
    obtain rfl:=si hr_5
    exact qr [] (fun w hm=>⟨rfl,hm.pk [0]⟩)
   ·exact jc_skip (jx_inn (jx_then (jc_region (qh [0,0] (qe (qb (w64 (i_0+1)) () h trivial [0]))))))
  ·refine jc_exit (jx_thenx (jx_leave (.inr ()) (sj h) (fun e_9=> ?_)))
   subst e_9
   exact jx_ine (qm () hr_5 [0])
 ·rintro _ h
  replace h:Fm.k_1=some r:=h
  rw [Fm.k_1] at h
  refine jx_then (jc_seq (jc_region (qh [0] (qe (jx_then (jc_ret ?_))))))
  obtain rfl:=si h
  exact qr [] (fun w hm=>⟨rfl,hm.pk [0]⟩)
def FV(s0:List GHammer)(g1c0:GFrame):Option (Bool):=(Fm s0 g1c0).bind fun t_0=>some (decide (t_0≥0))
theorem FV.calls(s0:List GHammer)(g1c0:GFrame)(w:World)(r:Bool){A_a:Option Addr}{A_an:Nat}(A_c:Nat)(A_h:Rw w A_a 2 encGHammer s0)(A_hn:s0.length=A_an){D_a:Option Addr}{D_an:Nat}(D_c:Nat)(D_h:Rw w D_a 2 encGHammer g1c0.fHammers)(D_hn:g1c0.fHammers.length=D_an)(B_b:Nat)(hm0:Mem w (bs [some B_b]) [⟨some B_b,27,[(vH g1c0.fSteps),(.slice D_a D_an D_c)]⟩] w)(A_ha:s0≠ []→aB A_a∉bs [some B_b])(D_ha:g1c0.fHammers≠ []→aB D_a∉bs [some B_b])(h:FV s0 g1c0=some r):
   Calls Tryz.prog 155 #[(.slice A_a A_an A_c),(.func (.func 156) #[] #[(vP B_b)])] w fun e w'=>∃v,e= .returned v∧(v=(.bool r)∧Mem w (bs [some B_b]) [⟨some B_b,27,[(vH g1c0.fSteps),(.slice D_a D_an D_c)]⟩] w'):=by
 subst A_hn D_hn
 rw [FV] at h
 refine enter (args:= [(.slice A_a s0.length A_c),(.func (.func 156) #[] #[(vP B_b)])]) Tryz.func155 rfl Tryz.ntmps155 (by kernel_rfl) (L:= [⟨some B_b,27,[(vH g1c0.fSteps),(.slice D_a g1c0.fHammers.length D_c)]⟩]) (W:=bs [some B_b]) hm0 (jc_seq (jc_region (qh [0] (qe (jx_then (jc_seq (jc_region (qh [0,0] ?_))))))))
 obtain⟨t_0,ht_0,h⟩:=bd h
 refine tO (pc 0 (fun w hm=>Fm.calls s0 g1c0 w _ A_c (hm.exRowW A_h A_ha) rfl D_c (hm.exRowW D_h D_ha) rfl B_b (hm.ps [0]) (hm.xp A_h A_ha [0]) (hm.xp D_h D_ha [0]) ht_0) ?_)
 rintro w v w' hm ⟨rfl,hm'⟩
 refine⟨_,hm.appW (ps:= [(0,⟨some B_b,27,[(vH g1c0.fSteps),(.slice D_a g1c0.fHammers.length D_c)]⟩)]) (N:= []) hm' (by kernel_rfl) (by kernel_rfl),jkO ?_⟩
 clear hm hm'
 refine qh [0,0] (qe (jx_then (jc_ret ?_)))
 obtain rfl:=si h
 exact qr [] (fun w hm=>⟨rfl,hm.pk [0]⟩)
def FaK(f0:GFrame):Option (Bool):=(FG (w64 f0.fSteps) 2 96).bind fun t_0=>(if t_0=true then(FaF f0.fHammers).bind fun t_1=>(FG t_1 1 24).bind fun t_3=>(if t_3=true then(FV f0.fHammers f0).bind fun t_2=>some (!t_2) else some false) else some false)
theorem FaK.calls(f0:GFrame)(w:World)(r:Bool){C_a:Option Addr}{C_an:Nat}(C_c:Nat)(C_h:Rw w C_a 2 encGHammer f0.fHammers)(C_hn:f0.fHammers.length=C_an)(h:FaK f0=some r):
   Calls Tryz.prog 81 #[(.agg #[(vH f0.fSteps),(.slice C_a C_an C_c)])] w fun e w'=>∃v,e= .returned v∧(v=(.bool r)∧Mem w [] [] w'):=by
 subst C_hn
 rw [FaK] at h
 refine en Tryz.func81 rfl Tryz.ntmps81 (jc_seq (jc_region (tO (qa 0 (fun b_0=>jkO (qh [0] (qe (jx_then (jc_seq (jc_region (qh [0,0,0] ?_)))))))))))
 obtain⟨t_0,ht_1,h⟩:=bd h
 refine tO (pq 0 (fun w hm=>FG.calls (w64 f0.fSteps) 2 96 w _ ht_1) (jkO (qf [(0,0),(0,1),(0,1)] (qp 7 h (fun h=> ?_) (fun h=> ?_)))))
 ·obtain⟨t_1,ht_2,h⟩:=bd h
  refine tO (pq 2 (fun w hm=>FaF.calls f0.fHammers w _ C_c (hm.xr C_h) rfl ht_2) (jkO ?_))
  obtain⟨t_3,ht_4,h⟩:=bd h
  refine tO (pq 2 (fun w hm=>FG.calls t_1 1 24 w _ ht_4) (jkO (qf [(0,4),(0,0),(0,1),(0,1),(0,1)] (qp 13 h (fun h=> ?_) (fun h=> ?_)))))
  ·obtain⟨t_2,ht_5,h⟩:=bd h
   refine tO (pc 2 (fun w hm=>FV.calls f0.fHammers f0 w _ C_c (hm.xr C_h) rfl C_c (hm.xr C_h) rfl b_0 (hm.ps [0]) (hm.xp C_h (fun _=>List.not_mem_nil) [0]) (hm.xp C_h (fun _=>List.not_mem_nil) [0]) ht_5) ?_)
   rintro w v w' hm ⟨rfl,hm'⟩
   refine⟨_,hm.appW (ps:= [(0,⟨some b_0,27,[(vH f0.fSteps),(.slice C_a f0.fHammers.length C_c)]⟩)]) (N:= []) hm' (by kernel_rfl) (by kernel_rfl),jkO ?_⟩
   clear hm hm'
   refine qf [(0,2),(0,4),(0,0)] (qe (jx_then (jc_ret ?_)))
   obtain rfl:=si h
   exact qr [] (fun w hm=>⟨rfl,hm.pk []⟩)
  ·refine qf [(0,3),(0,3),(0,5),(0,0)] (qe (jx_then (jc_ret ?_)))
   obtain rfl:=si h
   exact qr [] (fun w hm=>⟨rfl,hm.pk []⟩)
 ·refine qf [(0,3),(0,3),(0,5),(0,0),(0,3),(0,3),(0,3),(0,3),(0,3),(0,5),(0,0)] (qe (jx_then (jc_ret ?_)))
  obtain rfl:=si h
  exact qr [] (fun w hm=>⟨rfl,hm.pk []⟩)
def FQ(is0:Bool)(code1:Int):Option (Int):=(if is0=true then some 0 else some code1)
theorem FQ.calls(is0:Bool)(code1:Int)(w:World)(r:Int)(h:FQ is0 code1=some r):
   Calls Tryz.prog 85 #[(.bool is0),(vI code1)] w fun e w'=>∃v,e= .returned v∧(v=(vI r)∧Mem w [] [] w'):=by
 rw [FQ] at h
 refine en Tryz.func85 rfl Tryz.ntmps85 (jc_seq (jc_region (qh [0] (qe (jx_then (jc_seq (jc_seq (jc_region (qh [0] (qe (jx_then (qi h (fun h=> ?_) (fun h=> ?_)))))))))))))
 ·refine jc_seq (jc_region (qh [0] (qe (jx_then (jc_ret (jx_thenr ?_))))))
  obtain rfl:=si h
  exact qr [] (fun w hm=>⟨rfl,hm.pk []⟩)
 ·refine jc_skip (jx_then (jc_seq (jc_region (qh [0,0] (qe (jx_then (jc_ret ?_)))))))
  obtain rfl:=si h
  exact qr [] (fun w hm=>⟨rfl,hm.pk []⟩)
def FbL(n0:GNote):Option (Bool):=(FG (w64 n0.fAt) 0 199).bind fun t_1=>(if t_1=true then(Fbf (w64 n0.fPitch)).bind fun t_0=>some t_0 else some false)
theorem FbL.calls(n0:GNote)(w:World)(r:Bool)(h:FbL n0=some r):
   Calls Tryz.prog 203 #[(.agg #[(vH n0.fAt),(vB n0.fPitch)])] w fun e w'=>∃v,e= .returned v∧(v=(.bool r)∧Mem w [] [] w'):=by
 rw [FbL] at h
 refine en Tryz.func203 rfl Tryz.ntmps203 (jc_seq (jc_region (tO (qa 0 (fun b_1=>jkO (qh [0] (qe (jx_then (jc_seq (jc_region (qh [0,0,0] ?_)))))))))))
 obtain⟨t_1,ht_0,h⟩:=bd h
 refine tO (pq 0 (fun w hm=>FG.calls (w64 n0.fAt) 0 199 w _ ht_0) (jkO (qf [(0,0),(0,1),(0,1),(0,1)] (qp 7 h (fun h=> ?_) (fun h=> ?_)))))
 ·obtain⟨t_0,ht_2,h⟩:=bd h
  refine tO (pq 2 (fun w hm=>Fbf.calls (w64 n0.fPitch) w _ ht_2) (jkO (qf [(0,4),(0,0)] (qe (jx_then (jc_ret ?_))))))
  obtain rfl:=si h
  exact qr [] (fun w hm=>⟨rfl,hm.pk []⟩)
 ·refine qf [(0,3),(0,5),(0,0)] (qe (jx_then (jc_ret ?_)))
  obtain rfl:=si h
  exact qr [] (fun w hm=>⟨rfl,hm.pk []⟩)
def Fa4(x0:Int):Option (Bool):=some (x0 !=x0)
theorem Fa4.calls(x0:Int)(w:World)(r:Bool)(h:Fa4 x0=some r):
   Calls Tryz.prog 245 #[(vH x0)] w fun e w'=>∃v,e= .returned v∧(v=(.bool r)∧Mem w [] [] w'):=by
 rw [Fa4] at h
 refine en Tryz.func245 rfl Tryz.ntmps245 (jc_seq (jc_region (qh [0] (qe (jx_then (jc_seq (jc_region (qh [0,0,0,0] (qe (jx_then (jc_ret ?_)))))))))))
 obtain rfl:=si h
 exact qr [] (fun w hm=>⟨rfl,hm.pk []⟩)
def Fa1(x0:Int)(y1:Int):Option (Int):=(Fa4 x0).bind fun t_1=>(Fa4 y1).bind fun t_0=>(if t_1=true then(if t_0=true then some 0 else some (-1)) else(if t_0=true then some 1 else(if(decide (x0<y1))=true then some (-1) else(if(decide (x0>y1))=true then some 1 else some 0))))
theorem Fa1.calls(x0:Int)(y1:Int)(w:World)(r:Int)(h:Fa1 x0 y1=some r):
   Calls Tryz.prog 227 #[(vH x0),(vH y1)] w fun e w'=>∃v,e= .returned v∧(v=(vI r)∧Mem w [] [] w'):=by
 rw [Fa1] at h
 refine en Tryz.func227 rfl Tryz.ntmps227 (jc_seq (jc_region (qh [0] (qe (jx_then (jc_seq (jc_region (qh [0] ?_))))))))
 obtain⟨t_1,ht_1,h⟩:=bd h
 refine tO (pq 0 (fun w hm=>Fa4.calls x0 w _ ht_1) (jkO (qh [0] (qe (jx_then (jc_seq (jc_region (qh [0] ?_))))))))
 obtain⟨t_0,ht_0,h⟩:=bd h
 refine tO (pq 0 (fun w hm=>Fa4.calls y1 w _ ht_0) (jkO (qh [0] (qe (jx_then (jc_seq (jc_seq (jc_region (qh [0] (qe (jx_then (qi h (fun h=> ?_) (fun h=> ?_)))))))))))))
 ·refine jc_seq (jc_seq (jc_region (qh [0] (qe (jx_then (qi h (fun h=> ?_) (fun h=> ?_)))))))
  ·refine jc_seq (jc_region (qh [0] (qe (jx_then (jc_ret (jx_thenr (jx_thenr ?_)))))))
   obtain rfl:=si h
   exact qr [] (fun w hm=>⟨rfl,hm.pk []⟩)
  ·refine jc_skip (jx_then (jc_seq (jc_region (qh [0] (qe (jx_then (jc_ret (jx_thenr ?_))))))))
   obtain rfl:=si h
   exact qr [] (fun w hm=>⟨rfl,hm.pk []⟩)
 ·refine jc_skip (jx_then (jc_seq (jc_seq (jc_region (qh [0] (qe (jx_then (qi h (fun h=> ?_) (fun h=> ?_)))))))))
  ·refine jc_seq (jc_region (qh [0] (qe (jx_then (jc_ret (jx_thenr ?_))))))
   obtain rfl:=si h
   exact qr [] (fun w hm=>⟨rfl,hm.pk []⟩)
  ·refine jc_skip (jx_then (jc_seq (jc_seq (jc_region (qh [0,0,0] (qe (jx_then (qi h (fun h=> ?_) (fun h=> ?_)))))))))
   ·refine jc_seq (jc_region (qh [0] (qe (jx_then (jc_ret (jx_thenr ?_))))))
    obtain rfl:=si h
    exact qr [] (fun w hm=>⟨rfl,hm.pk []⟩)
   ·refine jc_skip (jx_then (jc_seq (jc_seq (jc_region (qh [0,0,0] (qe (jx_then (qi h (fun h=> ?_) (fun h=> ?_)))))))))
    ·refine jc_seq (jc_region (qh [0] (qe (jx_then (jc_ret (jx_thenr ?_))))))
     obtain rfl:=si h
     exact qr [] (fun w hm=>⟨rfl,hm.pk []⟩)
    ·refine jc_skip (jx_then (jc_seq (jc_region (qh [0] (qe (jx_then (jc_ret ?_)))))))
     obtain rfl:=si h
     exact qr [] (fun w hm=>⟨rfl,hm.pk []⟩)
def Fbd(x0:Int):Option (Bool):=some (x0 !=x0)
theorem Fbd.calls(x0:Int)(w:World)(r:Bool)(h:Fbd x0=some r):
   Calls Tryz.prog 246 #[(vB x0)] w fun e w'=>∃v,e= .returned v∧(v=(.bool r)∧Mem w [] [] w'):=by
 rw [Fbd] at h
 refine en Tryz.func246 rfl Tryz.ntmps246 (jc_seq (jc_region (qh [0] (qe (jx_then (jc_seq (jc_region (qh [0,0,0,0] (qe (jx_then (jc_ret ?_)))))))))))
 obtain rfl:=si h
 exact qr [] (fun w hm=>⟨rfl,hm.pk []⟩)
def Fba(x0:Int)(y1:Int):Option (Int):=(Fbd x0).bind fun t_1=>(Fbd y1).bind fun t_0=>(if t_1=true then(if t_0=true then some 0 else some (-1)) else(if t_0=true then some 1 else(if(decide (x0<y1))=true then some (-1) else(if(decide (x0>y1))=true then some 1 else some 0))))
theorem Fba.calls(x0:Int)(y1:Int)(w:World)(r:Int)(h:Fba x0 y1=some r):
   Calls Tryz.prog 228 #[(vB x0),(vB y1)] w fun e w'=>∃v,e= .returned v∧(v=(vI r)∧Mem w [] [] w'):=by
 rw [Fba] at h
 refine en Tryz.func228 rfl Tryz.ntmps228 (jc_seq (jc_region (qh [0] (qe (jx_then (jc_seq (jc_region (qh [0] ?_))))))))
 obtain⟨t_1,ht_1,h⟩:=bd h
 refine tO (pq 0 (fun w hm=>Fbd.calls x0 w _ ht_1) (jkO (qh [0] (qe (jx_then (jc_seq (jc_region (qh [0] ?_))))))))
 obtain⟨t_0,ht_0,h⟩:=bd h
 refine tO (pq 0 (fun w hm=>Fbd.calls y1 w _ ht_0) (jkO (qh [0] (qe (jx_then (jc_seq (jc_seq (jc_region (qh [0] (qe (jx_then (qi h (fun h=> ?_) (fun h=> ?_)))))))))))))
 ·refine jc_seq (jc_seq (jc_region (qh [0] (qe (jx_then (qi h (fun h=> ?_) (fun h=> ?_)))))))
  ·refine jc_seq (jc_region (qh [0] (qe (jx_then (jc_ret (jx_thenr (jx_thenr ?_)))))))
   obtain rfl:=si h
   exact qr [] (fun w hm=>⟨rfl,hm.pk []⟩)
  ·refine jc_skip (jx_then (jc_seq (jc_region (qh [0] (qe (jx_then (jc_ret (jx_thenr ?_))))))))
   obtain rfl:=si h
   exact qr [] (fun w hm=>⟨rfl,hm.pk []⟩)
 ·refine jc_skip (jx_then (jc_seq (jc_seq (jc_region (qh [0] (qe (jx_then (qi h (fun h=> ?_) (fun h=> ?_)))))))))
  ·refine jc_seq (jc_region (qh [0] (qe (jx_then (jc_ret (jx_thenr ?_))))))
   obtain rfl:=si h
   exact qr [] (fun w hm=>⟨rfl,hm.pk []⟩)
  ·refine jc_skip (jx_then (jc_seq (jc_seq (jc_region (qh [0,0,0] (qe (jx_then (qi h (fun h=> ?_) (fun h=> ?_)))))))))
   ·refine jc_seq (jc_region (qh [0] (qe (jx_then (jc_ret (jx_thenr ?_))))))
    obtain rfl:=si h
    exact qr [] (fun w hm=>⟨rfl,hm.pk []⟩)
   ·refine jc_skip (jx_then (jc_seq (jc_seq (jc_region (qh [0,0,0] (qe (jx_then (qi h (fun h=> ?_) (fun h=> ?_)))))))))
    ·refine jc_seq (jc_region (qh [0] (qe (jx_then (jc_ret (jx_thenr ?_))))))
     obtain rfl:=si h
     exact qr [] (fun w hm=>⟨rfl,hm.pk []⟩)
    ·refine jc_skip (jx_then (jc_seq (jc_region (qh [0] (qe (jx_then (jc_ret ?_)))))))
     obtain rfl:=si h
     exact qr [] (fun w hm=>⟨rfl,hm.pk []⟩)
def Fal.k_1:Option (Int):=some 0
def Fal.l_3(vals0:List Int):Int→Option ((Int)⊕(Int⊕Unit))
 | i_0=>(if(decide (i_0<(vals0.length:Int)))=true then(ix vals0 i_0).bind fun x_1=>(if(x_1 !=0)=true then some (.inr (.inl x_1)) else some (.inl (w64 (i_0+1)))) else some (.inr (.inr ())))
def Fal(vals0:List Int):Option (Int):=(loop (Fal.l_3 vals0) 0).bind fun t_3=>match t_3 with | .inl p=>some p | .inr p=>Fal.k_1
theorem Fal.calls(vals0:List Int)(w:World)(r:Int){A_a:Option Addr}{A_an:Nat}(A_c:Nat)(A_h:Rw w A_a 1 encI64 vals0)(A_hn:vals0.length=A_an)(h:Fal vals0=some r):
   Calls Tryz.prog 226 #[(.slice A_a A_an A_c)] w fun e w'=>∃v,e= .returned v∧(v=(vI r)∧Mem w [] [] w'):=by
 subst A_hn
 rw [Fal] at h
 refine en Tryz.func226 rfl Tryz.ntmps226 (jc_seq (jc_region (qh [0] (qe (jx_then (jc_seq (jc_region (qh [0] (qe (jx_then (jc_seq (jc_seq (jc_region (qh [0,0,0] (qe (jx_then (jc_meet (fun(_:Unit)=>Fal.k_1=some r) (fun(_:Unit)=> [(2,[],(vI 0)),(3,[],(vI 0))]) (fun(_:Unit)=> []) ?_ ?_)))))))))))))))))
 ·refine jc_block ?_
  obtain⟨t_3,ht_5,hr_4⟩:=bd h
  refine jl (fun(i_0:Int) (_:Unit)=>True) (fun i_0 _=> [(2,[],(vI 0)),(3,[],(vI 0)),(6,[],(.slice A_a vals0.length A_c)),(7,[],(vI (vals0.length:Int))),(8,[],(vI i_0))]) (fun i_0 _=> []) ht_5 () trivial [] ?_
  rintro i_0 _ y_8 _ h
  rw [Fal.l_3] at h
  refine jc_seq (jc_region (qh [0] (qe (jx_then (jc_seq (qi h (fun h=> ?_) (fun h=> ?_)))))))
  ·refine jc_skip (jx_then (jc_seq (jc_block (jc_seq (jc_region ?_)))))
   obtain⟨x_1,hx_2,h⟩:=bd h
   refine tO (qx 0 A_a 1 hx_2 rfl (A_h.sp hx_2) (jkO (tO (ql 0 false (fun w hm=>((hm.xr A_h).at hx_2)) (jkO (qh [0] (qe (jx_then (jc_seq (jc_region (qh [0,0,0] (qe (jx_then (qi h (fun h=> ?_) (fun h=> ?_)))))))))))))))
   ·refine jc_seq (jc_region (qh [0,0] (qe (jx_then (jc_ret (jx_inr (jx_thenr (jx_leaver (.inl x_1) (sj h) (fun e_6=> ?_)))))))))
    subst e_6
    refine jx_inr (jx_thenr (jx_thenr ?_))
    obtain rfl:=si hr_4
    exact qr [] (fun w hm=>⟨rfl,hm.pk []⟩)
   ·exact jc_skip (jx_inn (jx_then (jc_region (qh [0,0] (qe (qb (w64 (i_0+1)) () h trivial []))))))
  ·refine jc_exit (jx_thenx (jx_leave (.inr ()) (sj h) (fun e_7=> ?_)))
   subst e_7
   exact jx_ine (qm () hr_4 [])
 ·rintro _ h
  replace h:Fal.k_1=some r:=h
  rw [Fal.k_1] at h
  refine jx_then (jc_seq (jc_region (qh [0,0] (qe (jx_then (jc_ret ?_))))))
  obtain rfl:=si h
  exact qr [] (fun w hm=>⟨rfl,hm.pk []⟩)
def Fak(a0:GNote)(b1:GNote):Option (Int):=(Fa1 a0.fAt b1.fAt).bind fun t_0=>(Fba a0.fPitch b1.fPitch).bind fun t_1=>(Fal ([t_0,t_1]:List Int)).bind fun t_2=>some t_2
theorem Fak.calls(a0:GNote)(b1:GNote)(w:World)(r:Int)(h:Fak a0 b1=some r):
   Calls Tryz.prog 200 #[(.agg #[(vH a0.fAt),(vB a0.fPitch)]),(.agg #[(vH b1.fAt),(vB b1.fPitch)])] w fun e w'=>∃v,e= .returned v∧(v=(vI r)∧Mem w [] [] w'):=by
 rw [Fak] at h
 refine en Tryz.func200 rfl Tryz.ntmps200 (jc_seq (jc_region (tO (qa 0 (fun b_0=>jkO (tO (qa 0 (fun b_1=>jkO (qh [0] (qe (jx_then (jc_seq (qg [⟨some b_0,101,[(vH a0.fAt),(vB a0.fPitch)]⟩,⟨some b_1,101,[(vH b1.fAt),(vB b1.fPitch)]⟩] 13 (qd [⟨0,0,0⟩,⟨1,0,0⟩,⟨2,0,0⟩,⟨3,1,0⟩,⟨5,0,0⟩,⟨6,0,0⟩,⟨7,0,0⟩,⟨8,1,0⟩] 5 [0,1] ?_))))))))))))))
 obtain⟨t_0,ht_2,h⟩:=bd h
 refine tD 4 (pq 0 (fun w hm=>Fa1.calls a0.fAt b1.fAt w _ ht_2) (kD [0,1] ?_))
 obtain⟨t_1,ht_3,h⟩:=bd h
 refine tD 9 (pq 0 (fun w hm=>Fba.calls a0.fPitch b1.fPitch w _ ht_3) (kD [0,1] (tD 10 (qa 0 (fun b_4=>kD [0,1] ?_)))))
 obtain⟨t_2,ht_5,h⟩:=bd h
 refine tD 11 (pq 0 (fun w hm=>Fal.calls ([t_0,t_1]:List Int) w _ 2 (hm.ow 2 (some b_4) 3 ([t_0,t_1]:List Int) [] (fun e=>nomatch e) encI64_len) rfl ht_5) (kD [0,1] (qd [⟨12,0,0⟩] 0 [0,1] (qz (jx_then (jc_ret ?_))))))
 obtain rfl:=si h
 exact qr [] (fun w hm=>⟨rfl,hm.pk []⟩)
def FL.k_1(t0:List GNote):Option (Bool):=some (decide ((t0.length:Int)≤120))
def FL.k_7(i_0:Int)(q_2:Bool):Option ((Int)⊕(Bool⊕Unit)):=(if q_2=true then some (.inr (.inl false)) else some (.inl (w64 (i_0+1))))
def FL.l_3(t0:List GNote):Int→Option ((Int)⊕(Bool⊕Unit))
 | i_0=>(if(decide (i_0<(t0.length:Int)))=true then(ix t0 i_0).bind fun x_1=>(FbL x_1).bind fun t_3=>(if(!t_3)=true then FL.k_7 i_0 true else(if(decide (i_0>0))=true then(ix t0 (w64 (i_0-1))).bind fun x_4=>(Fak x_4 x_1).bind fun t_5=>FL.k_7 i_0 (decide (t_5≥0)) else FL.k_7 i_0 false)) else some (.inr (.inr ())))
def FL(t0:List GNote):Option (Bool):=(loop (FL.l_3 t0) 0).bind fun t_00=>match t_00 with | .inl p=>some p | .inr p=>FL.k_1 t0
theorem FL.calls(t0:List GNote)(w:World)(r:Bool){A_a:Option Addr}{A_an:Nat}(A_c:Nat)(A_h:Rw w A_a 2 encGNote t0)(A_hn:t0.length=A_an)(h:FL t0=some r):
   Calls Tryz.prog 150 #[(.slice A_a A_an A_c)] w fun e w'=>∃v,e= .returned v∧(v=(.bool r)∧Mem w [] [] w'):=by
 subst A_hn
 rw [FL] at h
 refine en Tryz.func150 rfl Tryz.ntmps150 (jc_seq (jc_region (qh [0] (qe (jx_then (jc_seq (jc_seq (jc_region (qh [0,0,0] (qe (jx_then (jc_meet (fun(_:Unit)=>FL.k_1 t0=some r) (fun(_:Unit)=> [(0,[],(.slice A_a t0.length A_c)),(2,[],(.bool false))]) (fun(_:Unit)=> []) ?_ ?_))))))))))))
 ·refine jc_block ?_
  obtain⟨t_00,ht_04,hr_01⟩:=bd h
  refine jl (fun(i_0:Int) (_:Unit)=>True) (fun i_0 _=> [(0,[],(.slice A_a t0.length A_c)),(2,[],(.bool false)),(5,[],(.slice A_a t0.length A_c)),(6,[],(vI (t0.length:Int))),(7,[],(vI i_0))]) (fun i_0 _=> []) ht_04 () trivial [] ?_
  rintro i_0 _ y_02 _ h
  rw [FL.l_3] at h
  refine jc_seq (jc_region (qh [0] (qe (jx_then (jc_seq (qi h (fun h=> ?_) (fun h=> ?_)))))))
  ·refine jc_skip (jx_then (jc_seq (jc_block (jc_seq (jc_region (qh [0] ?_))))))
   obtain⟨x_1,hx_6,h⟩:=bd h
   refine tO (qx 0 A_a 2 hx_6 rfl (A_h.sp hx_6) (jkO (tO (ql 0 true (fun w hm=>((hm.xr A_h).at hx_6)) (jkO (tO (qa 0 (fun b_03=>jkO (qh [0] (tO (qs 0 [0] (jkO (qe (jx_then (jc_seq (jc_meet (fun(q_2:Bool)=>FL.k_7 i_0 q_2=some y_02) (fun q_2=> [(0,[],(.slice A_a t0.length A_c)),(2,[],(.bool false)),(5,[],(.slice A_a t0.length A_c)),(6,[],(vI (t0.length:Int))),(7,[],(vI i_0)),(28,[],(.bool q_2))]) (fun q_2=> [⟨some b_03,101,[(vH x_1.fAt),(vB x_1.fPitch)]⟩]) ?_ ?_))))))))))))))))
   ·refine qg [⟨some b_03,101,[(vH x_1.fAt),(vB x_1.fPitch)]⟩] 17 (qd [⟨0,0,0⟩] 16 [0] ?_)
    obtain⟨t_3,ht_05,h⟩:=bd h
    refine tD 1 (pq 0 (fun w hm=>FbL.calls x_1 w _ ht_05) (kD [0] (qd [⟨2,0,0⟩,⟨3,0,0⟩,⟨4,0,1⟩,⟨5,0,1⟩] 11 [0] (js 15 (!t_3) (fun hc_7=> ?_) (fun hc_7=> ?_)))))
    ·replace h:=ifT hc_7 h
     exact qd [⟨6,0,3⟩,⟨7,0,3⟩,⟨8,0,3⟩,⟨9,0,3⟩,⟨10,0,3⟩,⟨11,0,3⟩,⟨12,0,3⟩,⟨13,0,3⟩,⟨14,0,3⟩,⟨15,0,3⟩,⟨16,0,4⟩] 0 [0] (qz (qm true h [0]))
    ·replace h:=ifF hc_7 h
     refine qd [⟨6,0,2⟩,⟨7,0,1⟩,⟨8,0,1⟩,⟨9,0,1⟩,⟨12,0,1⟩] 6 [0] (js 18 (decide (i_0>0)) (fun hc_8=> ?_) (fun hc_8=> ?_))
     ·replace h:=ifT hc_8 h
      obtain⟨x_4,hx_9,h⟩:=bd h
      refine qX 10 2 [0] A_a 2 hx_9 rfl (A_h.sp hx_9) (qL 11 2 [0] true (fun w hm=>(hm.xr A_h).at hx_9) ?_)
      obtain⟨t_5,ht_06,h⟩:=bd h
      exact tD 13 (pq 2 (fun w hm=>Fak.calls x_4 x_1 w _ ht_06) (kD [0] (qd [⟨14,0,2⟩,⟨15,0,4⟩,⟨16,0,5⟩] 0 [0] (qz (qm (decide (t_5≥0)) h [0])))))
     ·replace h:=ifF hc_8 h
      exact qd [⟨10,0,3⟩,⟨11,0,3⟩,⟨13,0,3⟩,⟨14,0,3⟩,⟨15,0,5⟩,⟨16,0,5⟩] 0 [0] (qz (qm false h [0]))
   ·rintro q_2 h
    replace h:FL.k_7 i_0 q_2=some y_02:=h
    rw [FL.k_7] at h
    refine jx_then (qi h (fun h=> ?_) (fun h=> ?_))
    ·refine jc_seq (jc_region (qh [0] (qe (jx_then (jc_ret (jx_inr (jx_thenr (jx_leaver (.inl false) (sj h) (fun e_07=> ?_)))))))))
     subst e_07
     refine jx_inr (jx_thenr (jx_thenr ?_))
     obtain rfl:=si hr_01
     exact qr [] (fun w hm=>⟨rfl,hm.pk []⟩)
    ·exact jc_skip (jx_inn (jx_then (jc_region (qh [0,0] (qe (qb (w64 (i_0+1)) () h trivial []))))))
  ·refine jc_exit (jx_thenx (jx_leave (.inr ()) (sj h) (fun e_08=> ?_)))
   subst e_08
   exact jx_ine (qm () hr_01 [])
 ·rintro _ h
  replace h:FL.k_1 t0=some r:=h
  rw [FL.k_1] at h
  refine jx_then (jc_seq (jc_region (qh [0,0,0,0] (qe (jx_then (jc_ret ?_))))))
  obtain rfl:=si h
  exact qr [] (fun w hm=>⟨rfl,hm.pk []⟩)
def Fbu(t0:List GNote):Option (Bool):=(FL t0).bind fun t_0=>some (!t_0)
theorem Fbu.calls(t0:List GNote)(w:World)(r:Bool){A_a:Option Addr}{A_an:Nat}(A_c:Nat)(A_h:Rw w A_a 2 encGNote t0)(A_hn:t0.length=A_an)(h:Fbu t0=some r):
   Calls Tryz.prog 208 #[(.slice A_a A_an A_c)] w fun e w'=>∃v,e= .returned v∧(v=(.bool r)∧Mem w [] [] w'):=by
 subst A_hn
 rw [Fbu] at h
 refine en Tryz.func208 rfl Tryz.ntmps208 (jc_seq (jc_region (qh [0] (qe (jx_then (jc_seq (jc_region (qh [0] ?_))))))))
 obtain⟨t_0,ht_0,h⟩:=bd h
 refine tO (pq 0 (fun w hm=>FL.calls t0 w _ A_c (hm.xr A_h) rfl ht_0) (jkO (qh [0,0] (qe (jx_then (jc_ret ?_))))))
 obtain rfl:=si h
 exact qr [] (fun w hm=>⟨rfl,hm.pk []⟩)
def Fq.k_1:Option (Int):=some (-1)
def Fq.l_3(s0:List (List GNote)):Int→Option ((Int)⊕(Int⊕Unit))
 | i_0=>(if(decide (i_0<(s0.length:Int)))=true then(ix s0 i_0).bind fun x_2=>(Fbu x_2).bind fun t_3=>(if t_3=true then some (.inr (.inl i_0)) else some (.inl (w64 (i_0+1)))) else some (.inr (.inr ())))
def Fq(s0:List (List GNote)):Option (Int):=(loop (Fq.l_3 s0) 0).bind fun t_4=>match t_4 with | .inl p=>some p | .inr p=>Fq.k_1
theorem Fq.calls(s0:List (List GNote))(w:World)(r:Int){A_a:Option Addr}{A_an:Nat}(A_c:Nat){A_hs:List Hd}(A_h:Rw w A_a 1 encHd A_hs)(A_hn:s0.length=A_an)(A_i:Inn w [] 2 encGNote A_hs s0)(h:Fq s0=some r):
   Calls Tryz.prog 229 #[(.slice A_a A_an A_c),(.func (.func 208) #[] #[])] w fun e w'=>∃v,e= .returned v∧(v=(vI r)∧Mem w [] [] w'):=by
 subst A_hn
 rw [Fq] at h
 refine en Tryz.func229 rfl Tryz.ntmps229 (jc_seq (jc_region (qh [0] (qe (jx_then (jc_seq (jc_seq (jc_region (qh [0,0,0] (qe (jx_then (jc_meet (fun(_:Unit)=>Fq.k_1=some r) (fun(_:Unit)=> [(4,[],(vI 0))]) (fun(_:Unit)=> []) ?_ ?_))))))))))))
 ·refine jc_block ?_
  obtain⟨t_4,ht_6,hr_5⟩:=bd h
  refine jl (fun(i_0:Int) (_:Unit)=>True) (fun i_0 _=> [(0,[],(.slice A_a s0.length A_c)),(1,[],(.func (.func 208) #[] #[])),(4,[],(vI 0)),(7,[],(vI (s0.length:Int))),(8,[],(vI i_0))]) (fun i_0 _=> []) ht_6 () trivial [] ?_
  rintro i_0 _ y_00 _ h
  rw [Fq.l_3] at h
  refine jc_seq (jc_region (qh [0] (qe (jx_then (jc_seq (qi h (fun h=> ?_) (fun h=> ?_)))))))
  ·refine jc_skip (jx_then (jc_seq (jc_block (jc_seq (jc_region (qh [0,0] (qe (jx_then (jc_seq (jc_region (qh [0,0,0] ?_)))))))))))
   obtain⟨x_2,hx_1,h⟩:=bd h
   refine tO (qx 0 A_a 1 hx_1 rfl (A_h.sp (A_i.ixh hx_1)) (jkO (tO (ql 0 false (fun w hm=>((hm.xr A_h).at (A_i.ixh hx_1))) (jkO ?_)))))
   obtain⟨t_3,ht_7,h⟩:=bd h
   refine tO (pq 0 (fun w hm=>Fbu.calls x_2 w _ ((hd A_hs i_0).c) (hm.exRow (A_i.get hx_1).1 List.not_mem_nil) (A_i.get hx_1).2.1 ht_7) (jkO (qe (jx_then (qi h (fun h=> ?_) (fun h=> ?_))))))
   ·refine jc_seq (jc_region (qh [0,0] (qe (jx_then (jc_ret (jx_inr (jx_thenr (jx_leaver (.inl i_0) (sj h) (fun e_8=> ?_)))))))))
    subst e_8
    refine jx_inr (jx_thenr (jx_thenr ?_))
    obtain rfl:=si hr_5
    exact qr [] (fun w hm=>⟨rfl,hm.pk []⟩)
   ·exact jc_skip (jx_inn (jx_then (jc_region (qh [0,0] (qe (qb (w64 (i_0+1)) () h trivial []))))))
  ·refine jc_exit (jx_thenx (jx_leave (.inr ()) (sj h) (fun e_9=> ?_)))
   subst e_9
   exact jx_ine (qm () hr_5 [])
 ·rintro _ h
  replace h:Fq.k_1=some r:=h
  rw [Fq.k_1] at h
  refine jx_then (jc_seq (jc_region (qh [0] (qe (jx_then (jc_ret ?_))))))
  obtain rfl:=si h
  exact qr [] (fun w hm=>⟨rfl,hm.pk []⟩)
def F3(s0:List (List GNote)):Option (Bool):=(Fq s0).bind fun t_0=>some (decide (t_0≥0))
theorem F3.calls(s0:List (List GNote))(w:World)(r:Bool){A_a:Option Addr}{A_an:Nat}(A_c:Nat){A_hs:List Hd}(A_h:Rw w A_a 1 encHd A_hs)(A_hn:s0.length=A_an)(A_i:Inn w [] 2 encGNote A_hs s0)(h:F3 s0=some r):
   Calls Tryz.prog 207 #[(.slice A_a A_an A_c),(.func (.func 208) #[] #[])] w fun e w'=>∃v,e= .returned v∧(v=(.bool r)∧Mem w [] [] w'):=by
 subst A_hn
 rw [F3] at h
 refine en Tryz.func207 rfl Tryz.ntmps207 (jc_seq (jc_region (qh [0] (qe (jx_then (jc_seq (jc_region (qh [0,0] ?_))))))))
 obtain⟨t_0,ht_0,h⟩:=bd h
 refine tO (pq 0 (fun w hm=>Fq.calls s0 w _ A_c (hm.xr A_h) rfl (hm.ip A_i []) ht_0) (jkO (qh [0,0] (qe (jx_then (jc_ret ?_))))))
 obtain rfl:=si h
 exact qr [] (fun w hm=>⟨rfl,hm.pk []⟩)
def Fa6(list0:List (List GNote)):Option (Int):=(F3 list0).bind fun t_0=>(FQ (!t_0) 1).bind fun t_1=>some t_1
theorem Fa6.calls(list0:List (List GNote))(w:World)(r:Int){A_a:Option Addr}{A_an:Nat}(A_c:Nat){A_hs:List Hd}(A_h:Rw w A_a 1 encHd A_hs)(A_hn:list0.length=A_an)(A_i:Inn w [] 2 encGNote A_hs list0)(h:Fa6 list0=some r):
   Calls Tryz.prog 158 #[(.slice A_a A_an A_c)] w fun e w'=>∃v,e= .returned v∧(v=(vI r)∧Mem w [] [] w'):=by
 subst A_hn
 rw [Fa6] at h
 refine en Tryz.func158 rfl Tryz.ntmps158 (jc_seq (jc_region (qh [0] (qe (jx_then (jc_seq (jc_region (qh [0] ?_))))))))
 obtain⟨t_0,ht_0,h⟩:=bd h
 refine tO (pq 0 (fun w hm=>F3.calls list0 w _ A_c (hm.xr A_h) rfl (hm.ip A_i []) ht_0) (jkO (qh [0] ?_)))
 obtain⟨t_1,ht_1,h⟩:=bd h
 refine tO (pq 0 (fun w hm=>FQ.calls (!t_0) 1 w _ ht_1) (jkO (qh [0] (qe (jx_then (jc_ret ?_))))))
 obtain rfl:=si h
 exact qr [] (fun w hm=>⟨rfl,hm.pk []⟩)
def Fbb(x0:GChoice):Option (Bool):=(if x0.fAway=true then some ((x0.fAway==true)&&((x0.fLate==0)&&((x0.fOctave==0)&&(x0.fTrack==0)))) else(FG (w64 x0.fLate) (-3) 3).bind fun t_0=>(if t_0=true then(FG (w64 x0.fOctave) (-1) 1).bind fun t_1=>(if t_1=true then(FG (w64 x0.fTrack) 0 23).bind fun t_2=>some t_2 else some false) else some false))
theorem Fbb.calls(x0:GChoice)(w:World)(r:Bool)(h:Fbb x0=some r):
   Calls Tryz.prog 178 #[(.agg #[(.bool x0.fAway),(vB x0.fLate),(vB x0.fOctave),(vB x0.fTrack)])] w fun e w'=>∃v,e= .returned v∧(v=(.bool r)∧Mem w [] [] w'):=by
 rw [Fbb] at h
 refine en Tryz.func178 rfl Tryz.ntmps178 (jc_seq (jc_region (tO (qa 0 (fun b_0=>jkO (qh [0] (qe (jx_then (jc_seq (jc_seq (jc_region (qh [0,0] (qe (jx_then (qi h (fun h=> ?_) (fun h=> ?_))))))))))))))))
 ·refine jc_seq (jc_region (qh [0,0,0,0] (qe (jx_then (jc_ret (jx_thenr ?_))))))
  obtain rfl:=si h
  exact qr [] (fun w hm=>⟨rfl,hm.pk []⟩)
 ·refine jc_skip (jx_then (jc_seq (jc_region (qh [0,0,0] ?_))))
  obtain⟨t_0,ht_3,h⟩:=bd h
  refine tO (pq 0 (fun w hm=>FG.calls (w64 x0.fLate) (-3) 3 w _ ht_3) (jkO (qf [(0,0),(0,1),(0,1),(0,1)] (qp 12 h (fun h=> ?_) (fun h=> ?_)))))
  ·obtain⟨t_1,ht_4,h⟩:=bd h
   refine tO (pq 2 (fun w hm=>FG.calls (w64 x0.fOctave) (-1) 1 w _ ht_4) (jkO (qf [(0,4),(0,0),(0,1),(0,1),(0,1)] (qp 18 h (fun h=> ?_) (fun h=> ?_)))))
   ·obtain⟨t_2,ht_5,h⟩:=bd h
    refine tO (pq 2 (fun w hm=>FG.calls (w64 x0.fTrack) 0 23 w _ ht_5) (jkO (qf [(0,4),(0,0)] (qe (jx_then (jc_ret ?_))))))
    obtain rfl:=si h
    exact qr [] (fun w hm=>⟨rfl,hm.pk []⟩)
   ·refine qf [(0,3),(0,5),(0,0)] (qe (jx_then (jc_ret ?_)))
    obtain rfl:=si h
    exact qr [] (fun w hm=>⟨rfl,hm.pk []⟩)
  ·refine qf [(0,3),(0,5),(0,0),(0,3),(0,3),(0,3),(0,3),(0,5),(0,0)] (qe (jx_then (jc_ret ?_)))
   obtain rfl:=si h
   exact qr [] (fun w hm=>⟨rfl,hm.pk []⟩)
def Fbe(x0:GChoice):Option (Bool):=(Fbb x0).bind fun t_0=>some (!t_0)
theorem Fbe.calls(x0:GChoice)(w:World)(r:Bool)(h:Fbe x0=some r):
   Calls Tryz.prog 177 #[(.agg #[(.bool x0.fAway),(vB x0.fLate),(vB x0.fOctave),(vB x0.fTrack)])] w fun e w'=>∃v,e= .returned v∧(v=(.bool r)∧Mem w [] [] w'):=by
 rw [Fbe] at h
 refine en Tryz.func177 rfl Tryz.ntmps177 (jc_seq (jc_region (tO (qa 0 (fun b_0=>jkO (qh [0] (qe (jx_then (jc_seq (jc_region (qh [0] ?_)))))))))))
 obtain⟨t_0,ht_1,h⟩:=bd h
 refine tO (pq 0 (fun w hm=>Fbb.calls x0 w _ ht_1) (jkO (qh [0,0] (qe (jx_then (jc_ret ?_))))))
 obtain rfl:=si h
 exact qr [] (fun w hm=>⟨rfl,hm.pk []⟩)
def Fh.k_1:Option (Int):=some (-1)
def Fh.l_3(s0:List GChoice):Int→Option ((Int)⊕(Int⊕Unit))
 | i_0=>(if(decide (i_0<(s0.length:Int)))=true then(ix s0 i_0).bind fun x_1=>(Fbe x_1).bind fun t_3=>(if t_3=true then some (.inr (.inl i_0)) else some (.inl (w64 (i_0+1)))) else some (.inr (.inr ())))
def Fh(s0:List GChoice):Option (Int):=(loop (Fh.l_3 s0) 0).bind fun t_4=>match t_4 with | .inl p=>some p | .inr p=>Fh.k_1
theorem Fh.calls(s0:List GChoice)(w:World)(r:Int){A_a:Option Addr}{A_an:Nat}(A_c:Nat)(A_h:Rw w A_a 4 encGChoice s0)(A_hn:s0.length=A_an)(h:Fh s0=some r):
   Calls Tryz.prog 129 #[(.slice A_a A_an A_c),(.func (.func 177) #[] #[])] w fun e w'=>∃v,e= .returned v∧(v=(vI r)∧Mem w [] [] w'):=by
 subst A_hn
 rw [Fh] at h
 refine en Tryz.func129 rfl Tryz.ntmps129 (jc_seq (jc_region (qh [0] (qe (jx_then (jc_seq (jc_seq (jc_region (qh [0,0,0] (qe (jx_then (jc_meet (fun(_:Unit)=>Fh.k_1=some r) (fun(_:Unit)=> [(4,[],(vI 0))]) (fun(_:Unit)=> []) ?_ ?_))))))))))))
 ·refine jc_block ?_
  obtain⟨t_4,ht_6,hr_5⟩:=bd h
  refine jl (fun(i_0:Int) (_:Unit)=>True) (fun i_0 _=> [(0,[],(.slice A_a s0.length A_c)),(1,[],(.func (.func 177) #[] #[])),(4,[],(vI 0)),(7,[],(vI (s0.length:Int))),(8,[],(vI i_0))]) (fun i_0 _=> []) ht_6 () trivial [] ?_
  rintro i_0 _ y_00 _ h
  rw [Fh.l_3] at h
  refine jc_seq (jc_region (qh [0] (qe (jx_then (jc_seq (qi h (fun h=> ?_) (fun h=> ?_)))))))
  ·refine jc_skip (jx_then (jc_seq (jc_block (jc_seq (jc_region (qh [0,0] (qe (jx_then (jc_seq (jc_region (qh [0,0,0] ?_)))))))))))
   obtain⟨x_1,hx_2,h⟩:=bd h
   refine tO (qx 0 A_a 4 hx_2 rfl (A_h.sp hx_2) (jkO (tO (ql 0 true (fun w hm=>((hm.xr A_h).at hx_2)) (jkO ?_)))))
   obtain⟨t_3,ht_7,h⟩:=bd h
   refine tO (pq 0 (fun w hm=>Fbe.calls x_1 w _ ht_7) (jkO (qe (jx_then (qi h (fun h=> ?_) (fun h=> ?_))))))
   ·refine jc_seq (jc_region (qh [0,0] (qe (jx_then (jc_ret (jx_inr (jx_thenr (jx_leaver (.inl i_0) (sj h) (fun e_8=> ?_)))))))))
    subst e_8
    refine jx_inr (jx_thenr (jx_thenr ?_))
    obtain rfl:=si hr_5
    exact qr [] (fun w hm=>⟨rfl,hm.pk []⟩)
   ·exact jc_skip (jx_inn (jx_then (jc_region (qh [0,0] (qe (qb (w64 (i_0+1)) () h trivial []))))))
  ·refine jc_exit (jx_thenx (jx_leave (.inr ()) (sj h) (fun e_9=> ?_)))
   subst e_9
   exact jx_ine (qm () hr_5 [])
 ·rintro _ h
  replace h:Fh.k_1=some r:=h
  rw [Fh.k_1] at h
  refine jx_then (jc_seq (jc_region (qh [0] (qe (jx_then (jc_ret ?_))))))
  obtain rfl:=si h
  exact qr [] (fun w hm=>⟨rfl,hm.pk []⟩)
def FT(s0:List GChoice):Option (Bool):=(Fh s0).bind fun t_0=>some (decide (t_0≥0))
theorem FT.calls(s0:List GChoice)(w:World)(r:Bool){A_a:Option Addr}{A_an:Nat}(A_c:Nat)(A_h:Rw w A_a 4 encGChoice s0)(A_hn:s0.length=A_an)(h:FT s0=some r):
   Calls Tryz.prog 176 #[(.slice A_a A_an A_c),(.func (.func 177) #[] #[])] w fun e w'=>∃v,e= .returned v∧(v=(.bool r)∧Mem w [] [] w'):=by
 subst A_hn
 rw [FT] at h
 refine en Tryz.func176 rfl Tryz.ntmps176 (jc_seq (jc_region (qh [0] (qe (jx_then (jc_seq (jc_region (qh [0,0] ?_))))))))
 obtain⟨t_0,ht_0,h⟩:=bd h
 refine tO (pq 0 (fun w hm=>Fh.calls s0 w _ A_c (hm.xr A_h) rfl ht_0) (jkO (qh [0,0] (qe (jx_then (jc_ret ?_))))))
 obtain rfl:=si h
 exact qr [] (fun w hm=>⟨rfl,hm.pk []⟩)
def FaV(list0:List GChoice):Option (Int):=(FT list0).bind fun t_0=>(FQ (!t_0) 1).bind fun t_1=>some t_1
theorem FaV.calls(list0:List GChoice)(w:World)(r:Int){A_a:Option Addr}{A_an:Nat}(A_c:Nat)(A_h:Rw w A_a 4 encGChoice list0)(A_hn:list0.length=A_an)(h:FaV list0=some r):
   Calls Tryz.prog 110 #[(.slice A_a A_an A_c)] w fun e w'=>∃v,e= .returned v∧(v=(vI r)∧Mem w [] [] w'):=by
 subst A_hn
 rw [FaV] at h
 refine en Tryz.func110 rfl Tryz.ntmps110 (jc_seq (jc_region (qh [0] (qe (jx_then (jc_seq (jc_region (qh [0] ?_))))))))
 obtain⟨t_0,ht_0,h⟩:=bd h
 refine tO (pq 0 (fun w hm=>FT.calls list0 w _ A_c (hm.xr A_h) rfl ht_0) (jkO (qh [0] ?_)))
 obtain⟨t_1,ht_1,h⟩:=bd h
 refine tO (pq 0 (fun w hm=>FQ.calls (!t_0) 1 w _ ht_1) (jkO (qh [0] (qe (jx_then (jc_ret ?_))))))
 obtain rfl:=si h
 exact qr [] (fun w hm=>⟨rfl,hm.pk []⟩)
def Ff.k_1:Option (Int):=some 0
def Ff.l_3(codes0:List Int):Int→Option ((Int)⊕(Int⊕Unit))
 | i_0=>(if(decide (i_0<(codes0.length:Int)))=true then(ix codes0 i_0).bind fun x_1=>(if(x_1 !=0)=true then some (.inr (.inl x_1)) else some (.inl (w64 (i_0+1)))) else some (.inr (.inr ())))
def Ff(codes0:List Int):Option (Int):=(loop (Ff.l_3 codes0) 0).bind fun t_3=>match t_3 with | .inl p=>some p | .inr p=>Ff.k_1
theorem Ff.calls(codes0:List Int)(w:World)(r:Int){A_a:Option Addr}{A_an:Nat}(A_c:Nat)(A_h:Rw w A_a 1 encI64 codes0)(A_hn:codes0.length=A_an)(h:Ff codes0=some r):
   Calls Tryz.prog 84 #[(.slice A_a A_an A_c)] w fun e w'=>∃v,e= .returned v∧(v=(vI r)∧Mem w [] [] w'):=by
 subst A_hn
 rw [Ff] at h
 refine en Tryz.func84 rfl Tryz.ntmps84 (jc_seq (jc_region (qh [0] (qe (jx_then (jc_seq (jc_seq (jc_region (qh [0,0,0] (qe (jx_then (jc_meet (fun(_:Unit)=>Ff.k_1=some r) (fun(_:Unit)=> [(2,[],(vI 0))]) (fun(_:Unit)=> []) ?_ ?_))))))))))))
 ·refine jc_block ?_
  obtain⟨t_3,ht_5,hr_4⟩:=bd h
  refine jl (fun(i_0:Int) (_:Unit)=>True) (fun i_0 _=> [(2,[],(vI 0)),(5,[],(.slice A_a codes0.length A_c)),(6,[],(vI (codes0.length:Int))),(7,[],(vI i_0))]) (fun i_0 _=> []) ht_5 () trivial [] ?_
  rintro i_0 _ y_8 _ h
  rw [Ff.l_3] at h
  refine jc_seq (jc_region (qh [0] (qe (jx_then (jc_seq (qi h (fun h=> ?_) (fun h=> ?_)))))))
  ·refine jc_skip (jx_then (jc_seq (jc_block (jc_seq (jc_region ?_)))))
   obtain⟨x_1,hx_2,h⟩:=bd h
   refine tO (qx 0 A_a 1 hx_2 rfl (A_h.sp hx_2) (jkO (tO (ql 0 false (fun w hm=>((hm.xr A_h).at hx_2)) (jkO (qh [0] (qe (jx_then (jc_seq (jc_region (qh [0,0] (qe (jx_then (qi h (fun h=> ?_) (fun h=> ?_)))))))))))))))
   ·refine jc_seq (jc_region (qh [0,0] (qe (jx_then (jc_ret (jx_inr (jx_thenr (jx_leaver (.inl x_1) (sj h) (fun e_6=> ?_)))))))))
    subst e_6
    refine jx_inr (jx_thenr (jx_thenr ?_))
    obtain rfl:=si hr_4
    exact qr [] (fun w hm=>⟨rfl,hm.pk []⟩)
   ·exact jc_skip (jx_inn (jx_then (jc_region (qh [0,0] (qe (qb (w64 (i_0+1)) () h trivial []))))))
  ·refine jc_exit (jx_thenx (jx_leave (.inr ()) (sj h) (fun e_7=> ?_)))
   subst e_7
   exact jx_ine (qm () hr_4 [])
 ·rintro _ h
  replace h:Ff.k_1=some r:=h
  rw [Ff.k_1] at h
  refine jx_then (jc_seq (jc_region (qh [0] (qe (jx_then (jc_ret ?_))))))
  obtain rfl:=si h
  exact qr [] (fun w hm=>⟨rfl,hm.pk []⟩)
def FaE(f0:GFrame)(t1:List GNote)(list2:List GChoice):Option (Int):=(FaK f0).bind fun t_3=>(FQ t_3 1).bind fun t_0=>(Fa6 [t1]).bind fun t_1=>(FaV list2).bind fun t_2=>(Ff ([t_0,t_1,t_2]:List Int)).bind fun t_4=>some t_4
theorem FaE.calls(f0:GFrame)(t1:List GNote)(list2:List GChoice)(w:World)(r:Int){C_a:Option Addr}{C_an:Nat}(C_c:Nat)(C_h:Rw w C_a 2 encGHammer f0.fHammers)(C_hn:f0.fHammers.length=C_an){D_a:Option Addr}{D_an:Nat}(D_c:Nat)(D_h:Rw w D_a 2 encGNote t1)(D_hn:t1.length=D_an){E_a:Option Addr}{E_an:Nat}(E_c:Nat)(E_h:Rw w E_a 4 encGChoice list2)(E_hn:list2.length=E_an)(h:FaE f0 t1 list2=some r):
   Calls Tryz.prog 128 #[(.agg #[(vH f0.fSteps),(.slice C_a C_an C_c)]),(.slice D_a D_an D_c),(.slice E_a E_an E_c)] w fun e w'=>∃v,e= .returned v∧(v=(vI r)∧Mem w [] [] w'):=by
 subst C_hn D_hn E_hn
 rw [FaE] at h
 refine en Tryz.func128 rfl Tryz.ntmps128 (jc_seq (jc_region (tO (qa 0 (fun b_3=>jkO (qh [0] (qe (jx_then (jc_seq (jc_region (qh [0] ?_)))))))))))
 obtain⟨t_3,ht_0,h⟩:=bd h
 refine tO (pq 0 (fun w hm=>FaK.calls f0 w _ C_c (hm.xr C_h) rfl ht_0) (jkO ?_))
 obtain⟨t_0,ht_1,h⟩:=bd h
 refine tO (pq 0 (fun w hm=>FQ.calls t_3 1 w _ ht_1) (jkO (qh [0] (tO (qa 0 (fun b_2=>jkO ?_))))))
 obtain⟨t_1,ht_4,h⟩:=bd h
 refine tO (pq 0 (fun w hm=>Fa6.calls [t1] w _ 1 (hm.ow 1 (some b_2) 29 ([(Hd.mk D_a t1.length D_c)]) [] (fun e=>nomatch e) encHd_len) rfl (Inn.cons (hm.xr D_h) rfl (fun _=>List.not_mem_nil) Inn.nil) ht_4) (jkO (qh [0] ?_)))
 obtain⟨t_2,ht_5,h⟩:=bd h
 refine tO (pq 0 (fun w hm=>FaV.calls list2 w _ E_c (hm.xr E_h) rfl ht_5) (jkO (tO (qa 0 (fun b_6=>jkO ?_)))))
 obtain⟨t_4,ht_7,h⟩:=bd h
 refine tO (pq 0 (fun w hm=>Ff.calls ([t_0,t_1,t_2]:List Int) w _ 3 (hm.ow 2 (some b_6) 2 ([t_0,t_1,t_2]:List Int) [] (fun e=>nomatch e) encI64_len) rfl ht_7) (jkO (qh [0] (qe (jx_then (jc_ret ?_))))))
 obtain rfl:=si h
 exact qr [] (fun w hm=>⟨rfl,hm.pk []⟩)
def Fbg(c0:GCosts):Option (Bool):=(FG (w64 c0.fAway) 0 1000).bind fun t_1=>(if t_1=true then(FG (w64 c0.fOctave) 0 1000).bind fun t_0=>(if t_0=true then(FG (w64 c0.fStep) 0 1000).bind fun t_2=>some t_2 else some false) else some false)
theorem Fbg.calls(c0:GCosts)(w:World)(r:Bool)(h:Fbg c0=some r):
   Calls Tryz.prog 34 #[(.agg #[(vH c0.fAway),(vH c0.fOctave),(vH c0.fStep)])] w fun e w'=>∃v,e= .returned v∧(v=(.bool r)∧Mem w [] [] w'):=by
 rw [Fbg] at h
 refine en Tryz.func34 rfl Tryz.ntmps34 (jc_seq (jc_region (tO (qa 0 (fun b_1=>jkO (qh [0] (qe (jx_then (jc_seq (jc_region (qh [0,0,0] ?_)))))))))))
 obtain⟨t_1,ht_0,h⟩:=bd h
 refine tO (pq 0 (fun w hm=>FG.calls (w64 c0.fAway) 0 1000 w _ ht_0) (jkO (qf [(0,0),(0,1),(0,1),(0,1)] (qp 7 h (fun h=> ?_) (fun h=> ?_)))))
 ·obtain⟨t_0,ht_3,h⟩:=bd h
  refine tO (pq 2 (fun w hm=>FG.calls (w64 c0.fOctave) 0 1000 w _ ht_3) (jkO (qf [(0,4),(0,0),(0,1),(0,1),(0,1)] (qp 13 h (fun h=> ?_) (fun h=> ?_)))))
  ·obtain⟨t_2,ht_4,h⟩:=bd h
   refine tO (pq 2 (fun w hm=>FG.calls (w64 c0.fStep) 0 1000 w _ ht_4) (jkO (qf [(0,4),(0,0)] (qe (jx_then (jc_ret ?_))))))
   obtain rfl:=si h
   exact qr [] (fun w hm=>⟨rfl,hm.pk []⟩)
  ·refine qf [(0,3),(0,5),(0,0)] (qe (jx_then (jc_ret ?_)))
   obtain rfl:=si h
   exact qr [] (fun w hm=>⟨rfl,hm.pk []⟩)
 ·refine qf [(0,3),(0,5),(0,0),(0,3),(0,3),(0,3),(0,3),(0,5),(0,0)] (qe (jx_then (jc_ret ?_)))
  obtain rfl:=si h
  exact qr [] (fun w hm=>⟨rfl,hm.pk []⟩)
def FaG(f0:GFrame)(t1:List GNote)(c2:GCosts):Option (Int):=(FaE f0 t1 []).bind fun t_0=>(Fbg c2).bind fun t_2=>(FQ t_2 1).bind fun t_1=>(Ff ([t_0,t_1]:List Int)).bind fun t_3=>some t_3
theorem FaG.calls(f0:GFrame)(t1:List GNote)(c2:GCosts)(w:World)(r:Int){C_a:Option Addr}{C_an:Nat}(C_c:Nat)(C_h:Rw w C_a 2 encGHammer f0.fHammers)(C_hn:f0.fHammers.length=C_an){D_a:Option Addr}{D_an:Nat}(D_c:Nat)(D_h:Rw w D_a 2 encGNote t1)(D_hn:t1.length=D_an)(h:FaG f0 t1 c2=some r):
   Calls Tryz.prog 59 #[(.agg #[(vH f0.fSteps),(.slice C_a C_an C_c)]),(.slice D_a D_an D_c),(.agg #[(vH c2.fAway),(vH c2.fOctave),(vH c2.fStep)])] w fun e w'=>∃v,e= .returned v∧(v=(vI r)∧Mem w [] [] w'):=by
 subst C_hn D_hn
 rw [FaG] at h
 refine en Tryz.func59 rfl Tryz.ntmps59 (jc_seq (jc_region (tO (qa 0 (fun b_0=>jkO (tO (qa 0 (fun b_2=>jkO (qh [0] (qe (jx_then (jc_seq (qg [⟨some b_0,27,[(vH f0.fSteps),(.slice C_a f0.fHammers.length C_c)]⟩,⟨some b_2,33,[(vH c2.fAway),(vH c2.fOctave),(vH c2.fStep)]⟩] 9 (qd [⟨0,0,0⟩,⟨1,0,0⟩,⟨3,1,0⟩] 6 [0,1] ?_))))))))))))))
 obtain⟨t_0,ht_1,h⟩:=bd h
 refine tD 2 (pq 0 (fun w hm=>FaE.calls f0 t1 [] w _ C_c (hm.xr C_h) rfl D_c (hm.xr D_h) rfl 0 Rw.nil rfl ht_1) (kD [0,1] ?_))
 obtain⟨t_2,ht_3,h⟩:=bd h
 refine tD 4 (pq 0 (fun w hm=>Fbg.calls c2 w _ ht_3) (kD [0,1] ?_))
 obtain⟨t_1,ht_4,h⟩:=bd h
 refine tD 5 (pq 0 (fun w hm=>FQ.calls t_2 1 w _ ht_4) (kD [0,1] (tD 6 (qa 0 (fun b_5=>kD [0,1] ?_)))))
 obtain⟨t_3,ht_6,h⟩:=bd h
 refine tD 7 (pq 0 (fun w hm=>Ff.calls ([t_0,t_1]:List Int) w _ 2 (hm.ow 2 (some b_5) 2 ([t_0,t_1]:List Int) [] (fun e=>nomatch e) encI64_len) rfl ht_6) (kD [0,1] (qd [⟨8,0,0⟩] 0 [0,1] (qz (jx_then (jc_ret ?_))))))
 obtain rfl:=si h
 exact qr [] (fun w hm=>⟨rfl,hm.pk []⟩)
def Fax.k_2(xs_2:List Int):Option ((List Int)):=some xs_2
def Fax.l_5(most0:Int):((List Int)×Int)→Option (((List Int)×Int)⊕((List Int)))
 | (xs_1,i_0)=>(if(decide (i_0≤most0))=true then(if xs_1.length+([(w8 (0-i_0)),i_0]:List Int).length≤4294967296 then some (.inl ((xs_1++([(w8 (0-i_0)),i_0]:List Int)),(w8 (i_0+1)))) else none) else some (.inr xs_1))
def Fax(most0:Int):Option ((List Int)):=(loop (Fax.l_5 most0) (([0]:List Int),1)).bind fun t_01=>Fax.k_2 t_01
theorem Fax.calls(most0:Int)(w:World)(r:(List Int))(h:Fax most0=some r):
   Calls Tryz.prog 130 #[(vB most0)] w fun e w'=>∃v,e= .returned v∧(∃(o0:Option Nat) (c0:Nat) (s0:List Value) (n0:Nat),r.length=n0∧(hS o0 n0 c0 s0 1)∧(hO o0 r c0)∧v= .slice (mB o0) n0 c0∧Mem w [] [⟨o0,99,row encI8 r s0⟩] w'):=by
 rw [Fax] at h
 refine en Tryz.func130 rfl Tryz.ntmps130 (jc_seq (jc_region (qh [0] (qe (jx_then (jc_seq (jc_region (tO (qa 0 (fun b_2=>jkO (qh [0] (qe (jx_then (jc_seq (jc_seq (jc_region (qh [0] (qe (jx_then (jc_meet (fun(j:(List Int)×(Option Nat)×Nat×(List Value)×Nat)=>match j with | ⟨xs_2,o_4,cap_6,sp_8,n_9⟩=>Fax.k_2 xs_2=some r∧(xs_2.length=n_9)∧(hS o_4 n_9 cap_6 sp_8 1)∧(hO o_4 xs_2 cap_6)) (fun⟨xs_2,o_4,cap_6,sp_8,n_9⟩=> [(2,[],(.slice none 0 0)),(3,[],(.slice (mB o_4) n_9 cap_6))]) (fun⟨xs_2,o_4,cap_6,sp_8,n_9⟩=> [⟨o_4,99,row encI8 xs_2 sp_8⟩]) ?_ ?_))))))))))))))))))))
 ·refine jc_block ?_
  obtain⟨t_01,ht_05,hr_06⟩:=bd h
  refine jl (fun(s:(List Int)×Int) (x:(Option Nat)×Nat×(List Value)×Nat)=>match s,x with | ⟨xs_1,i_0⟩,⟨o_3,cap_5,sp_7,n_00⟩=>(xs_1.length=n_00)∧(hS o_3 n_00 cap_5 sp_7 1)∧(hO o_3 xs_1 cap_5)) (fun⟨xs_1,i_0⟩ ⟨o_3,cap_5,sp_7,n_00⟩=> [(0,[],(vB most0)),(2,[],(.slice none 0 0)),(3,[],(.slice (mB o_3) n_00 cap_5)),(4,[],(vB i_0))]) (fun⟨xs_1,i_0⟩ ⟨o_3,cap_5,sp_7,n_00⟩=> [⟨o_3,99,row encI8 xs_1 sp_7⟩]) ht_05 ⟨(some b_2),1,[],1⟩ ⟨rfl,(fun _=>⟨Nat.le_refl _,by simp⟩),(fun e=>nomatch e)⟩ [0] ?_
  rintro⟨xs_1,i_0⟩ ⟨o_3,cap_5,sp_7,n_00⟩ y_0g ⟨rfl,hs_02,ho_03⟩ h
  rw [Fax.l_5] at h
  refine jc_seq (jc_seq (jc_region (qh [0,0,0] (qe (jx_then (qi h (fun h=> ?_) (fun h=> ?_)))))))
  ·refine jc_skip (jx_then (jc_seq (jc_block (jc_region (qh [0,0,0,0] (tO (qa 0 (fun b_04=>jkO ?_))))))))
   obtain⟨hg_07,h⟩:=gd h
   exact tO (pA 0 0 o_3 99 xs_1.length 2 cap_5 1 1 (sB b_04) encI8 xs_1 ([(w8 (0-i_0)),i_0]:List Int) sp_7 (vB 0) rfl rfl encI8_len encI8_cell hs_02 ho_03 (fun w hm=>(hm.ow 1 (some b_04) 99 ([(w8 (0-i_0)),i_0]:List Int) [] (fun e=>nomatch e) encI8_len)) hg_07 (fun o_08 cap_09 sp_0a hs_0b ho_0c=>jkO (qh [0] (qe (jx_inn (jx_then (jc_region (qh [0,0,0] (qe (qb ((xs_1++([(w8 (0-i_0)),i_0]:List Int)),(w8 (i_0+1))) ⟨o_08,cap_09,sp_0a,(xs_1++([(w8 (0-i_0)),i_0]:List Int)).length⟩ h ⟨rfl,hs_0b,ho_0c⟩ [0]))))))))))
  ·refine jc_exit (jx_thenx (jx_leave xs_1 (sj h) (fun e_0d=> ?_)))
   subst e_0d
   exact jx_ine (qm ⟨xs_1,o_3,cap_5,sp_7,xs_1.length⟩ ⟨hr_06,rfl,hs_02,ho_03⟩ [0])
 ·rintro⟨xs_2,o_4,cap_6,sp_8,n_9⟩ ⟨h,rfl,hs_0e,ho_0f⟩
  replace h:Fax.k_2 xs_2=some r:=h
  rw [Fax.k_2] at h
  refine jx_then (jc_seq (jc_region (qh [0,0] (qe (jx_then (jc_ret ?_))))))
  obtain rfl:=si h
  exact qr [] (fun w hm=>⟨o_4,cap_6,sp_8,xs_2.length,rfl,hs_0e,ho_0f,rfl,hm.pk [0]⟩)
def Fj.k_3(xs_1:List GChoice):Option ((List GChoice)):=(if xs_1.length+([(⟨true,0,0,0⟩:GChoice)]:List GChoice).length≤4294967296 then some (xs_1++([(⟨true,0,0,0⟩:GChoice)]:List GChoice)) else none)
def Fj.k_11(i_3:Int)(xs_01:List GChoice):Option (((List GChoice)×Int)⊕((List GChoice))):=some (.inl (xs_01,(w64 (i_3+1))))
def Fj.k_18(i_7:Int)(xs_02:List GChoice):Option (((List GChoice)×Int)⊕((List GChoice))):=some (.inl (xs_02,(w64 (i_7+1))))
def Fj.l_21(f0:GFrame)(n1:GNote)(x_6:Int)(x_03:Int):((List GChoice)×Int)→Option (((List GChoice)×Int)⊕((List GChoice)))
 | (xs_2,i_4)=>(if(decide (i_4<(f0.fHammers.length:Int)))=true then(ix f0.fHammers i_4).bind fun x_0w=>(FG (w64 ((w64 n1.fAt)+(w64 x_6))) 0 (w64 ((w64 f0.fSteps)-1))).bind fun t_13=>(if(t_13&&((w64 x_0w.fPitch)==(w64 ((w64 n1.fPitch)+(w64 (12*(w64 x_03)))))))=true then(if xs_2.length+([(⟨false,x_6,x_03,(w8 i_4)⟩:GChoice)]:List GChoice).length≤4294967296 then some (.inl ((xs_2++([(⟨false,x_6,x_03,(w8 i_4)⟩:GChoice)]:List GChoice)),(w64 (i_4+1)))) else none) else some (.inl (xs_2,(w64 (i_4+1))))) else some (.inr xs_2))
def Fj.l_14(f0:GFrame)(n1:GNote)(x_6:Int)(t_5:(List Int)):((List GChoice)×Int)→Option (((List GChoice)×Int)⊕((List GChoice)))
 | (xs_9,i_7)=>(if(decide (i_7<(t_5.length:Int)))=true then(ix t_5 i_7).bind fun x_03=>(loop (Fj.l_21 f0 n1 x_6 x_03) (xs_9,0)).bind fun t_14=>Fj.k_18 i_7 t_14 else some (.inr xs_9))
def Fj.l_6(f0:GFrame)(n1:GNote)(t_0:(List Int)):((List GChoice)×Int)→Option (((List GChoice)×Int)⊕((List GChoice)))
 | (xs_00,i_3)=>(if(decide (i_3<(t_0.length:Int)))=true then(ix t_0 i_3).bind fun x_6=>(Fax 1).bind fun t_5=>(loop (Fj.l_14 f0 n1 x_6 t_5) (xs_00,0)).bind fun t_15=>Fj.k_11 i_3 t_15 else some (.inr xs_00))
def Fj(f0:GFrame)(n1:GNote):Option ((List GChoice)):=(Fax 3).bind fun t_0=>(loop (Fj.l_6 f0 n1 t_0) (([]:List GChoice),0)).bind fun t_16=>Fj.k_3 t_16
theorem Fj.calls(f0:GFrame)(n1:GNote)(w:World)(r:(List GChoice)){C_a:Option Addr}{C_an:Nat}(C_c:Nat)(C_h:Rw w C_a 2 encGHammer f0.fHammers)(C_hn:f0.fHammers.length=C_an)(h:Fj f0 n1=some r):
   Calls Tryz.prog 61 #[(.agg #[(vH f0.fSteps),(.slice C_a C_an C_c)]),(.agg #[(vH n1.fAt),(vB n1.fPitch)])] w fun e w'=>∃v,e= .returned v∧(∃(o0:Option Nat) (c0:Nat) (s0:List Value) (n0:Nat),r.length=n0∧(hS o0 n0 c0 s0 4)∧(hO o0 r c0)∧v= .slice (mB o0) n0 c0∧Mem w [] [⟨o0,104,row encGChoice r s0⟩] w'):=by
 subst C_hn
 rw [Fj] at h
 refine en Tryz.func61 rfl Tryz.ntmps61 (jc_seq (jc_region (tO (qa 0 (fun b_0=>jkO (tO (qa 0 (fun b_1=>jkO (qh [0] (qe (jx_then (jc_seq (jc_region (tO (qa 0 (fun b_1h=>jkO (qh [0] (qe (jx_then (jc_seq (jc_seq (jc_region ?_))))))))))))))))))))))
 obtain⟨t_0,ht_1i,h⟩:=bd h
 refine tO (pc 0 (fun w hm=>Fax.calls 3 w _ ht_1i) ?_)
 rintro w v w' hm ⟨o_8,cap_0v,sp_0a,_,rfl,hs_2d,ho_17,rfl,hm'⟩
 refine aq hm hm' (jkO (qh [0,0] (qe (jx_then (jc_meet (fun(j:(List GChoice)×(Option Nat)×Nat×(List Value)×Nat)=>match j with | ⟨xs_1,o_0b,cap_0g,sp_0l,n_0m⟩=>Fj.k_3 xs_1=some r∧(xs_1.length=n_0m)∧(hS o_0b n_0m cap_0g sp_0l 4)∧(hO o_0b xs_1 cap_0g)) (fun⟨xs_1,o_0b,cap_0g,sp_0l,n_0m⟩=> [(4,[],(.slice none 0 0)),(5,[],(.slice (mB o_0b) n_0m cap_0g))]) (fun⟨xs_1,o_0b,cap_0g,sp_0l,n_0m⟩=> [⟨some b_0,27,[(vH f0.fSteps),(.slice C_a f0.fHammers.length C_c)]⟩,⟨some b_1,101,[(vH n1.fAt),(vB n1.fPitch)]⟩,⟨o_0b,104,row encGChoice xs_1 sp_0l⟩,⟨o_8,99,row encI8 t_0 sp_0a⟩]) ?_ ?_)))))
 ·refine jc_block ?_
  obtain⟨t_16,ht_1j,hr_1k⟩:=bd h
  refine jl (fun(s:(List GChoice)×Int) (x:(Option Nat)×Nat×(List Value)×Nat)=>match s,x with | ⟨xs_00,i_3⟩,⟨o_06,cap_0c,sp_0h,n_0n⟩=>(xs_00.length=n_0n)∧(hS o_06 n_0n cap_0c sp_0h 4)∧(hO o_06 xs_00 cap_0c)) (fun⟨xs_00,i_3⟩ ⟨o_06,cap_0c,sp_0h,n_0n⟩=> [(2,[],(vP b_0)),(3,[],(vP b_1)),(4,[],(.slice none 0 0)),(5,[],(.slice (mB o_06) n_0n cap_0c)),(15,[],(.slice (mB o_8) t_0.length cap_0v)),(16,[],(vI (t_0.length:Int))),(17,[],(vI i_3))]) (fun⟨xs_00,i_3⟩ ⟨o_06,cap_0c,sp_0h,n_0n⟩=> [⟨some b_0,27,[(vH f0.fSteps),(.slice C_a f0.fHammers.length C_c)]⟩,⟨some b_1,101,[(vH n1.fAt),(vB n1.fPitch)]⟩,⟨o_06,104,row encGChoice xs_00 sp_0h⟩,⟨o_8,99,row encI8 t_0 sp_0a⟩]) ht_1j ⟨(some b_1h),0,[],0⟩ ⟨rfl,(fun _=>⟨Nat.le_refl _,by simp⟩),(fun e=>nomatch e)⟩ [0,1,2,3] ?_
  rintro⟨xs_00,i_3⟩ ⟨o_06,cap_0c,sp_0h,n_0n⟩ y_18 ⟨rfl,hs_19,ho_1a⟩ h
  rw [Fj.l_6] at h
  refine jc_seq (jc_region (qh [0] (qe (jx_then (jc_seq (qi h (fun h=> ?_) (fun h=> ?_)))))))
  ·refine jc_skip (jx_then (jc_seq (jc_block (jc_seq (jc_region ?_)))))
   obtain⟨x_6,hx_0x,h⟩:=bd h
   refine tO (qx 0 (mB o_8) 1 hx_0x rfl (spo ho_17 hx_0x) (jkO (tO (ql 0 false (fun w hm=>((hm.ow 3 o_8 99 t_0 sp_0a (fun e=>(ho_17 e).1) encI8_len).at hx_0x)) (jkO (qh [0] (qe (jx_then (jc_seq (jc_region ?_))))))))))
   obtain⟨t_5,ht_1l,h⟩:=bd h
   refine tO (pc 0 (fun w hm=>Fax.calls 1 w _ ht_1l) ?_)
   rintro w v w' hm ⟨o_05,cap_0y,sp_0o,_,rfl,hs_2e,ho_1b,rfl,hm'⟩
   refine aq hm hm' (jkO (qh [0,0] (qe (jx_then (jc_meet (fun(j:(List GChoice)×(Option Nat)×Nat×(List Value)×Nat)=>match j with | ⟨xs_01,o_0d,cap_0i,sp_0p,n_0q⟩=>Fj.k_11 i_3 xs_01=some y_18∧(xs_01.length=n_0q)∧(hS o_0d n_0q cap_0i sp_0p 4)∧(hO o_0d xs_01 cap_0i)) (fun⟨xs_01,o_0d,cap_0i,sp_0p,n_0q⟩=> [(2,[],(vP b_0)),(3,[],(vP b_1)),(4,[],(.slice none 0 0)),(5,[],(.slice (mB o_0d) n_0q cap_0i)),(15,[],(.slice (mB o_8) t_0.length cap_0v)),(16,[],(vI (t_0.length:Int))),(17,[],(vI i_3))]) (fun⟨xs_01,o_0d,cap_0i,sp_0p,n_0q⟩=> [⟨some b_0,27,[(vH f0.fSteps),(.slice C_a f0.fHammers.length C_c)]⟩,⟨some b_1,101,[(vH n1.fAt),(vB n1.fPitch)]⟩,⟨o_0d,104,row encGChoice xs_01 sp_0p⟩,⟨o_8,99,row encI8 t_0 sp_0a⟩,⟨o_05,99,row encI8 t_5 sp_0o⟩]) ?_ ?_)))))
   ·refine jc_block ?_
    obtain⟨t_15,ht_1m,hr_1n⟩:=bd h
    refine jl (fun(s:(List GChoice)×Int) (x:(Option Nat)×Nat×(List Value)×Nat)=>match s,x with | ⟨xs_9,i_7⟩,⟨o_07,cap_0e,sp_0j,n_0r⟩=>(xs_9.length=n_0r)∧(hS o_07 n_0r cap_0e sp_0j 4)∧(hO o_07 xs_9 cap_0e)) (fun⟨xs_9,i_7⟩ ⟨o_07,cap_0e,sp_0j,n_0r⟩=> [(2,[],(vP b_0)),(3,[],(vP b_1)),(4,[],(.slice none 0 0)),(5,[],(.slice (mB o_07) n_0r cap_0e)),(7,[],(vB x_6)),(15,[],(.slice (mB o_8) t_0.length cap_0v)),(16,[],(vI (t_0.length:Int))),(17,[],(vI i_3)),(21,[],(.slice (mB o_05) t_5.length cap_0y)),(22,[],(vI (t_5.length:Int))),(23,[],(vI i_7))]) (fun⟨xs_9,i_7⟩ ⟨o_07,cap_0e,sp_0j,n_0r⟩=> [⟨some b_0,27,[(vH f0.fSteps),(.slice C_a f0.fHammers.length C_c)]⟩,⟨some b_1,101,[(vH n1.fAt),(vB n1.fPitch)]⟩,⟨o_07,104,row encGChoice xs_9 sp_0j⟩,⟨o_8,99,row encI8 t_0 sp_0a⟩,⟨o_05,99,row encI8 t_5 sp_0o⟩]) ht_1m ⟨o_06,cap_0c,sp_0h,xs_00.length⟩ ⟨rfl,hs_19,ho_1a⟩ [0,1,2,3,4] ?_
    rintro⟨xs_9,i_7⟩ ⟨o_07,cap_0e,sp_0j,n_0r⟩ y_1c ⟨rfl,hs_1d,ho_1e⟩ h
    rw [Fj.l_14] at h
    refine jc_seq (jc_region (qh [0] (qe (jx_then (jc_seq (qi h (fun h=> ?_) (fun h=> ?_)))))))
    ·refine jc_skip (jx_then (jc_seq (jc_block (jc_seq (jc_region ?_)))))
     obtain⟨x_03,hx_0z,h⟩:=bd h
     refine tO (qx 0 (mB o_05) 1 hx_0z rfl (spo ho_1b hx_0z) (jkO (tO (ql 0 false (fun w hm=>((hm.ow 4 o_05 99 t_5 sp_0o (fun e=>(ho_1b e).1) encI8_len).at hx_0z)) (jkO (qh [0] (qe (jx_then (jc_seq (jc_region (qh [0,0,0,0] (qe (jx_then (jc_meet (fun(j:(List GChoice)×(Option Nat)×Nat×(List Value)×Nat)=>match j with | ⟨xs_02,o_0f,cap_0k,sp_0s,n_0t⟩=>Fj.k_18 i_7 xs_02=some y_1c∧(xs_02.length=n_0t)∧(hS o_0f n_0t cap_0k sp_0s 4)∧(hO o_0f xs_02 cap_0k)) (fun⟨xs_02,o_0f,cap_0k,sp_0s,n_0t⟩=> [(2,[],(vP b_0)),(3,[],(vP b_1)),(4,[],(.slice none 0 0)),(5,[],(.slice (mB o_0f) n_0t cap_0k)),(7,[],(vB x_6)),(15,[],(.slice (mB o_8) t_0.length cap_0v)),(16,[],(vI (t_0.length:Int))),(17,[],(vI i_3)),(21,[],(.slice (mB o_05) t_5.length cap_0y)),(22,[],(vI (t_5.length:Int))),(23,[],(vI i_7))]) (fun⟨xs_02,o_0f,cap_0k,sp_0s,n_0t⟩=> [⟨some b_0,27,[(vH f0.fSteps),(.slice C_a f0.fHammers.length C_c)]⟩,⟨some b_1,101,[(vH n1.fAt),(vB n1.fPitch)]⟩,⟨o_0f,104,row encGChoice xs_02 sp_0s⟩,⟨o_8,99,row encI8 t_0 sp_0a⟩,⟨o_05,99,row encI8 t_5 sp_0o⟩]) ?_ ?_))))))))))))))
     ·refine jc_block ?_
      obtain⟨t_14,ht_1o,hr_1p⟩:=bd h
      refine jl (fun(s:(List GChoice)×Int) (x:(Option Nat)×Nat×(List Value)×Nat)=>match s,x with | ⟨xs_2,i_4⟩,⟨o_04,cap_08,sp_09,n_0u⟩=>(xs_2.length=n_0u)∧(hS o_04 n_0u cap_08 sp_09 4)∧(hO o_04 xs_2 cap_08)) (fun⟨xs_2,i_4⟩ ⟨o_04,cap_08,sp_09,n_0u⟩=> [(2,[],(vP b_0)),(3,[],(vP b_1)),(4,[],(.slice none 0 0)),(5,[],(.slice (mB o_04) n_0u cap_08)),(7,[],(vB x_6)),(9,[],(vB x_03)),(15,[],(.slice (mB o_8) t_0.length cap_0v)),(16,[],(vI (t_0.length:Int))),(17,[],(vI i_3)),(21,[],(.slice (mB o_05) t_5.length cap_0y)),(22,[],(vI (t_5.length:Int))),(23,[],(vI i_7)),(28,[],(.slice C_a f0.fHammers.length C_c)),(29,[],(vI (f0.fHammers.length:Int))),(30,[],(vI i_4))]) (fun⟨xs_2,i_4⟩ ⟨o_04,cap_08,sp_09,n_0u⟩=> [⟨some b_0,27,[(vH f0.fSteps),(.slice C_a f0.fHammers.length C_c)]⟩,⟨some b_1,101,[(vH n1.fAt),(vB n1.fPitch)]⟩,⟨o_04,104,row encGChoice xs_2 sp_09⟩,⟨o_8,99,row encI8 t_0 sp_0a⟩,⟨o_05,99,row encI8 t_5 sp_0o⟩]) ht_1o ⟨o_07,cap_0e,sp_0j,xs_9.length⟩ ⟨rfl,hs_1d,ho_1e⟩ [0,1,2,3,4] ?_
      rintro⟨xs_2,i_4⟩ ⟨o_04,cap_08,sp_09,n_0u⟩ y_2f ⟨rfl,hs_10,ho_11⟩ h
      rw [Fj.l_21] at h
      refine jc_seq (jc_region (qh [0] (qe (jx_then (jc_seq (qi h (fun h=> ?_) (fun h=> ?_)))))))
      ·refine jc_skip (jx_then (jc_seq (jc_block (jc_seq (jc_region (qh [0] ?_))))))
       obtain⟨x_0w,hx_12,h⟩:=bd h
       refine tO (qx 0 C_a 2 hx_12 rfl (C_h.sp hx_12) (jkO (tO (ql 0 true (fun w hm=>((hm.xr C_h).at hx_12)) (jkO (tO (qa 0 (fun b_1q=>jkO (qh [0] (tO (qs 0 [5] (jkO (qe (jx_then (jc_seq (qg [⟨some b_0,27,[(vH f0.fSteps),(.slice C_a f0.fHammers.length C_c)]⟩,⟨some b_1,101,[(vH n1.fAt),(vB n1.fPitch)]⟩,⟨o_04,104,row encGChoice xs_2 sp_09⟩,⟨o_8,99,row encI8 t_0 sp_0a⟩,⟨o_05,99,row encI8 t_5 sp_0o⟩,⟨some b_1q,132,[(vB x_0w.fPitch),(vB x_0w.fReady)]⟩] 15 (qd [⟨0,0,0⟩,⟨1,1,0⟩,⟨2,0,0⟩,⟨3,0,0⟩,⟨4,0,0⟩,⟨5,0,0⟩,⟨6,0,0⟩,⟨7,1,0⟩,⟨8,0,0⟩,⟨9,0,0⟩,⟨10,0,0⟩,⟨11,0,0⟩,⟨12,0,0⟩,⟨13,0,0⟩,⟨14,0,0⟩] 0 [0,1,2,3,4,5] (qz (jx_then (jc_seq (jc_region (qh [0,0,0,0,0] ?_))))))))))))))))))))))
       obtain⟨t_13,ht_1r,h⟩:=bd h
       refine tO (pq 0 (fun w hm=>FG.calls (w64 ((w64 n1.fAt)+(w64 x_6))) 0 (w64 ((w64 f0.fSteps)-1)) w _ ht_1r) (jkO (qf [(0,0),(0,1),(5,1),(0,1),(0,1),(0,1),(0,0)] (qe (jx_then (qi h (fun h=> ?_) (fun h=> ?_)))))))
       ·refine jc_region (qh [0,0,0,0,0,0] (tO (qa 0 (fun b_1f=>jkO ?_))))
        obtain⟨hg_1s,h⟩:=gd h
        exact tO (pA 0 2 o_04 104 xs_2.length 1 cap_08 4 4 (sB b_1f) encGChoice xs_2 ([(⟨false,x_6,x_03,(w8 i_4)⟩:GChoice)]:List GChoice) sp_09 (.agg #[(.bool false),(vB 0),(vB 0),(vB 0)]) rfl rfl encGChoice_len encGChoice_cell hs_10 ho_11 (fun w hm=>(hm.ow 6 (some b_1f) 104 ([(⟨false,x_6,x_03,(w8 i_4)⟩:GChoice)]:List GChoice) [] (fun e=>nomatch e) encGChoice_len)) hg_1s (fun o_1t cap_1u sp_1v hs_1w ho_1x=>jkO (qh [0] (qe (jx_inn (jx_then (jc_region (qh [0,0] (qe (qb ((xs_2++([(⟨false,x_6,x_03,(w8 i_4)⟩:GChoice)]:List GChoice)),(w64 (i_4+1))) ⟨o_1t,cap_1u,sp_1v,(xs_2++([(⟨false,x_6,x_03,(w8 i_4)⟩:GChoice)]:List GChoice)).length⟩ h ⟨rfl,hs_1w,ho_1x⟩ [0,1,2,3,4]))))))))))
       ·exact jc_skip (jx_inn (jx_then (jc_region (qh [0,0] (qe (qb (xs_2,(w64 (i_4+1))) ⟨o_04,cap_08,sp_09,xs_2.length⟩ h ⟨rfl,hs_10,ho_11⟩ [0,1,2,3,4]))))))
      ·refine jc_exit (jx_thenx (jx_leave xs_2 (sj h) (fun e_1y=> ?_)))
       subst e_1y
       exact jx_ine (qm ⟨xs_2,o_04,cap_08,sp_09,xs_2.length⟩ ⟨hr_1p,rfl,hs_10,ho_11⟩ [0,1,2,3,4])
     ·rintro⟨xs_02,o_0f,cap_0k,sp_0s,n_0t⟩ ⟨h,rfl,hs_1z,ho_20⟩
      replace h:Fj.k_18 i_7 xs_02=some y_1c:=h
      rw [Fj.k_18] at h
      exact jx_inn (jx_then (jc_region (qh [0,0] (qe (qb (xs_02,(w64 (i_7+1))) ⟨o_0f,cap_0k,sp_0s,xs_02.length⟩ h ⟨rfl,hs_1z,ho_20⟩ [0,1,2,3,4])))))
    ·refine jc_exit (jx_thenx (jx_leave xs_9 (sj h) (fun e_21=> ?_)))
     subst e_21
     exact jx_ine (qm ⟨xs_9,o_07,cap_0e,sp_0j,xs_9.length⟩ ⟨hr_1n,rfl,hs_1d,ho_1e⟩ [0,1,2,3,4])
   ·rintro⟨xs_01,o_0d,cap_0i,sp_0p,n_0q⟩ ⟨h,rfl,hs_22,ho_23⟩
    replace h:Fj.k_11 i_3 xs_01=some y_18:=h
    rw [Fj.k_11] at h
    exact jx_inn (jx_then (jc_region (qh [0,0] (qe (qb (xs_01,(w64 (i_3+1))) ⟨o_0d,cap_0i,sp_0p,xs_01.length⟩ h ⟨rfl,hs_22,ho_23⟩ [0,1,2,3])))))
  ·refine jc_exit (jx_thenx (jx_leave xs_00 (sj h) (fun e_24=> ?_)))
   subst e_24
   exact jx_ine (qm ⟨xs_00,o_06,cap_0c,sp_0h,xs_00.length⟩ ⟨hr_1k,rfl,hs_19,ho_1a⟩ [0,1,2,3])
 ·rintro⟨xs_1,o_0b,cap_0g,sp_0l,n_0m⟩ ⟨h,rfl,hs_25,ho_26⟩
  replace h:Fj.k_3 xs_1=some r:=h
  rw [Fj.k_3] at h
  refine jx_then (jc_seq (jc_region (qh [0,0] (tO (qa 0 (fun b_1g=>jkO ?_))))))
  obtain⟨hg_27,h⟩:=gd h
  refine tO (pA 0 2 o_0b 104 xs_1.length 1 cap_0g 4 4 (sB b_1g) encGChoice xs_1 ([(⟨true,0,0,0⟩:GChoice)]:List GChoice) sp_0l (.agg #[(.bool false),(vB 0),(vB 0),(vB 0)]) rfl rfl encGChoice_len encGChoice_cell hs_25 ho_26 (fun w hm=>(hm.ow 4 (some b_1g) 104 ([(⟨true,0,0,0⟩:GChoice)]:List GChoice) [] (fun e=>nomatch e) encGChoice_len)) hg_27 (fun o_28 cap_29 sp_2a hs_2b ho_2c=>jkO (qh [0] (qe (jx_then (jc_ret ?_))))))
  obtain rfl:=si h
  exact qr [] (fun w hm=>⟨o_28,cap_29,sp_2a,((xs_1++([(⟨true,0,0,0⟩:GChoice)]:List GChoice)).length),rfl,hs_2b,ho_2c,rfl,hm.pk [2]⟩)
def FaI(d0:Arr 96 Int)(step1:Int)(track2:Int):Option (Bool):=(ix d0.1 step1).bind fun x_0=>(if 0≤track2 then some ((bAnd .u32 (bShr .u32 x_0 track2) 1)==1) else none)
theorem FaI.calls(d0:Arr 96 Int)(step1:Int)(track2:Int)(w:World)(r:Bool){A_b A_q:Nat}(A_h:Rw w (some ⟨A_b,A_q,none⟩) 1 encU32 d0.1)(h:FaI d0 step1 track2=some r):
   Calls Tryz.prog 193 #[(.pointer (some ⟨A_b,A_q,none⟩)),(vI step1),(vI track2)] w fun e w'=>∃v,e= .returned v∧(v=(.bool r)∧Mem w [] [] w'):=by
 rw [FaI] at h
 refine en Tryz.func193 rfl Tryz.ntmps193 (jc_seq (jc_region (qh [0] (qe (jx_then (jc_seq (jc_region (qh [0,0,0] ?_))))))))
 obtain⟨x_0,hx_0,h⟩:=bd h
 refine tO (qx 0 (some ⟨A_b,A_q,none⟩) 1 hx_0 d0.2 (A_h.sp hx_0) (jkO (tO (ql 0 false (fun w hm=>((hm.xr A_h).at hx_0)) (jkO (qh [0] ?_))))))
 obtain⟨hg_1,h⟩:=gd h
 refine tO (pW 0 .u32 x_0 .i64 track2 hg_1 (jkO (qh [0,0,0] (qe (jx_then (jc_ret ?_))))))
 obtain rfl:=si h
 exact qr [] (fun w hm=>⟨rfl,hm.pk []⟩)
def FO.k_1(f0:GFrame):Option (Int):=some (w64 f0.fSteps)
def FO.l_3(f0:GFrame)(d1:Arr 96 Int)(step2:Int)(track3:Int)(way4:Int):Int→Option ((Int)⊕(Int⊕Unit))
 | i_0=>(if(decide (i_0<(w64 f0.fSteps)))=true then(if(w64 f0.fSteps)≠0 then(FaI d1 (Int.tmod (w64 ((w64 (step2+(w64 (way4*i_0))))+(w64 f0.fSteps))) (w64 f0.fSteps)) track3).bind fun t_1=>(if t_1=true then some (.inr (.inl i_0)) else some (.inl (w64 (i_0+1)))) else none) else some (.inr (.inr ())))
def FO(f0:GFrame)(d1:Arr 96 Int)(step2:Int)(track3:Int)(way4:Int):Option (Int):=(loop (FO.l_3 f0 d1 step2 track3 way4) 1).bind fun t_2=>match t_2 with | .inl p=>some p | .inr p=>FO.k_1 f0
theorem FO.calls(f0:GFrame)(d1:Arr 96 Int)(step2:Int)(track3:Int)(way4:Int)(w:World)(r:Int){C_a:Option Addr}{C_an:Nat}(C_c:Nat)(C_h:Rw w C_a 2 encGHammer f0.fHammers)(C_hn:f0.fHammers.length=C_an){D_b D_q:Nat}(D_h:Rw w (some ⟨D_b,D_q,none⟩) 1 encU32 d1.1)(h:FO f0 d1 step2 track3 way4=some r):
   Calls Tryz.prog 194 #[(.agg #[(vH f0.fSteps),(.slice C_a C_an C_c)]),(.pointer (some ⟨D_b,D_q,none⟩)),(vI step2),(vI track3),(vI way4)] w fun e w'=>∃v,e= .returned v∧(v=(vI r)∧Mem w [] [] w'):=by
 subst C_hn
 rw [FO] at h
 refine en Tryz.func194 rfl Tryz.ntmps194 (jc_seq (jc_region (tO (qa 0 (fun b_3=>jkO (qh [0] (qe (jx_then (jc_seq (jc_region (qh [0,0,0,0] (qe (jx_then (jc_seq (jc_seq (jc_region (qh [0] (qe (jx_then (jc_meet (fun(_:Unit)=>FO.k_1 f0=some r) (fun(_:Unit)=> [(10,[],(vI 0)),(11,[],(vI (w64 f0.fSteps)))]) (fun(_:Unit)=> [⟨some b_3,27,[(vH f0.fSteps),(.slice C_a f0.fHammers.length C_c)]⟩]) ?_ ?_))))))))))))))))))))
 ·refine jc_block ?_
  obtain⟨t_2,ht_5,hr_4⟩:=bd h
  refine jl (fun(i_0:Int) (_:Unit)=>True) (fun i_0 _=> [(1,[],(.pointer (some ⟨D_b,D_q,none⟩))),(2,[],(vI step2)),(3,[],(vI track3)),(4,[],(vI way4)),(10,[],(vI 0)),(11,[],(vI (w64 f0.fSteps))),(12,[],(vI i_0))]) (fun i_0 _=> [⟨some b_3,27,[(vH f0.fSteps),(.slice C_a f0.fHammers.length C_c)]⟩]) ht_5 () trivial [0] ?_
  rintro i_0 _ y_00 _ h
  rw [FO.l_3] at h
  refine jc_seq (jc_seq (jc_region (qh [0,0,0] (qe (jx_then (qi h (fun h=> ?_) (fun h=> ?_)))))))
  ·refine jc_skip (jx_then (jc_seq (jc_block (jc_seq (jc_region (qh [0,0,0,0,0,0,0,0,0] ?_))))))
   obtain⟨hg_6,h⟩:=gd h
   refine tO (pM 0 .i64 (w64 ((w64 (step2+(w64 (way4*i_0))))+(w64 f0.fSteps))) (w64 f0.fSteps) hg_6 (jkO (qh [0] ?_)))
   obtain⟨t_1,ht_7,h⟩:=bd h
   refine tO (pq 0 (fun w hm=>FaI.calls d1 (Int.tmod (w64 ((w64 (step2+(w64 (way4*i_0))))+(w64 f0.fSteps))) (w64 f0.fSteps)) track3 w _ (hm.xr D_h) ht_7) (jkO (qe (jx_then (qi h (fun h=> ?_) (fun h=> ?_))))))
   ·refine jc_seq (jc_region (qh [0,0] (qe (jx_then (jc_ret (jx_inr (jx_thenr (jx_leaver (.inl i_0) (sj h) (fun e_8=> ?_)))))))))
    subst e_8
    refine jx_inr (jx_thenr (jx_thenr ?_))
    obtain rfl:=si hr_4
    exact qr [] (fun w hm=>⟨rfl,hm.pk []⟩)
   ·exact jc_skip (jx_inn (jx_then (jc_region (qh [0,0,0] (qe (qb (w64 (i_0+1)) () h trivial [0]))))))
  ·refine jc_exit (jx_thenx (jx_leave (.inr ()) (sj h) (fun e_9=> ?_)))
   subst e_9
   exact jx_ine (qm () hr_4 [0])
 ·rintro _ h
  replace h:FO.k_1 f0=some r:=h
  rw [FO.k_1] at h
  refine jx_then (jc_seq (jc_region (qh [0,0] (qe (jx_then (jc_ret ?_))))))
  obtain rfl:=si h
  exact qr [] (fun w hm=>⟨rfl,hm.pk []⟩)
def Fa2(f0:GFrame)(d1:Arr 96 Int)(step2:Int)(track3:Int):Option (Bool):=(ix f0.fHammers track3).bind fun x_1=>(FaI d1 step2 track3).bind fun t_0=>(if(!t_0)=true then(FO f0 d1 step2 track3 1).bind fun t_2=>(if(decide (t_2≥(w64 x_1.fReady)))=true then(FO f0 d1 step2 track3 (-1)).bind fun t_3=>some (decide (t_3≥(w64 x_1.fReady))) else some false) else some false)
theorem Fa2.calls(f0:GFrame)(d1:Arr 96 Int)(step2:Int)(track3:Int)(w:World)(r:Bool){C_a:Option Addr}{C_an:Nat}(C_c:Nat)(C_h:Rw w C_a 2 encGHammer f0.fHammers)(C_hn:f0.fHammers.length=C_an){D_b D_q:Nat}(D_h:Rw w (some ⟨D_b,D_q,none⟩) 1 encU32 d1.1)(h:Fa2 f0 d1 step2 track3=some r):
   Calls Tryz.prog 131 #[(.agg #[(vH f0.fSteps),(.slice C_a C_an C_c)]),(.pointer (some ⟨D_b,D_q,none⟩)),(vI step2),(vI track3)] w fun e w'=>∃v,e= .returned v∧(v=(.bool r)∧Mem w [] [] w'):=by
 subst C_hn
 rw [Fa2] at h
 refine en Tryz.func131 rfl Tryz.ntmps131 (jc_seq (jc_region (tO (qa 0 (fun b_1=>jkO (qh [0] (qe (jx_then (jc_seq (jc_region (qh [0,0,0] ?_)))))))))))
 obtain⟨x_1,hx_0,h⟩:=bd h
 refine tO (qx 0 C_a 2 hx_0 rfl (C_h.sp hx_0) (jkO (qh [0] (tO (ql 0 false (fun w hm=>(((hm.xr C_h).at hx_0).sub 1 1)) (jkO (qh [0,0] (qe (jx_then (jc_seq (jc_region (qh [0,0,0] ?_))))))))))))
 obtain⟨t_0,ht_2,h⟩:=bd h
 refine tO (pq 0 (fun w hm=>FaI.calls d1 step2 track3 w _ (hm.xr D_h) ht_2) (jkO (qf [(0,0),(0,0),(0,1),(0,1),(0,1),(0,1)] (qp 22 h (fun h=> ?_) (fun h=> ?_)))))
 ·obtain⟨t_2,ht_4,h⟩:=bd h
  refine tO (pq 2 (fun w hm=>FO.calls f0 d1 step2 track3 1 w _ C_c (hm.xr C_h) rfl (hm.xr D_h) ht_4) (jkO (qf [(0,2),(0,2),(0,4),(0,0),(0,1),(0,1),(0,1),(0,1)] (qp 31 h (fun h=> ?_) (fun h=> ?_)))))
  ·obtain⟨t_3,ht_5,h⟩:=bd h
   refine tO (pq 2 (fun w hm=>FO.calls f0 d1 step2 track3 (-1) w _ C_c (hm.xr C_h) rfl (hm.xr D_h) ht_5) (jkO (qf [(0,2),(0,2),(0,4),(0,0)] (qe (jx_then (jc_ret ?_))))))
   obtain rfl:=si h
   exact qr [] (fun w hm=>⟨rfl,hm.pk []⟩)
  ·refine qf [(0,3),(0,3),(0,3),(0,5),(0,0)] (qe (jx_then (jc_ret ?_)))
   obtain rfl:=si h
   exact qr [] (fun w hm=>⟨rfl,hm.pk []⟩)
 ·refine qf [(0,3),(0,3),(0,3),(0,5),(0,0),(0,3),(0,3),(0,3),(0,3),(0,3),(0,3),(0,3),(0,5),(0,0)] (qe (jx_then (jc_ret ?_)))
  obtain rfl:=si h
  exact qr [] (fun w hm=>⟨rfl,hm.pk []⟩)
def FaD(f0:GFrame)(d1:Arr 96 Int)(n2:GNote)(x3:GChoice):Option (Bool):=(if x3.fAway=true then some true else(Fa2 f0 d1 (w64 ((w64 n2.fAt)+(w64 x3.fLate))) (w64 x3.fTrack)).bind fun t_0=>some t_0)
theorem FaD.calls(f0:GFrame)(d1:Arr 96 Int)(n2:GNote)(x3:GChoice)(w:World)(r:Bool){C_a:Option Addr}{C_an:Nat}(C_c:Nat)(C_h:Rw w C_a 2 encGHammer f0.fHammers)(C_hn:f0.fHammers.length=C_an){D_b D_q:Nat}(D_h:Rw w (some ⟨D_b,D_q,none⟩) 1 encU32 d1.1)(h:FaD f0 d1 n2 x3=some r):
   Calls Tryz.prog 63 #[(.agg #[(vH f0.fSteps),(.slice C_a C_an C_c)]),(.pointer (some ⟨D_b,D_q,none⟩)),(.agg #[(vH n2.fAt),(vB n2.fPitch)]),(.agg #[(.bool x3.fAway),(vB x3.fLate),(vB x3.fOctave),(vB x3.fTrack)])] w fun e w'=>∃v,e= .returned v∧(v=(.bool r)∧Mem w [] [] w'):=by
 subst C_hn
 rw [FaD] at h
 refine en Tryz.func63 rfl Tryz.ntmps63 (jc_seq (jc_region (tO (qa 0 (fun b_0=>jkO (tO (qa 0 (fun b_2=>jkO (tO (qa 0 (fun b_3=>jkO (qh [0] (qe (jx_then (jc_seq (jc_region (qf [(0,0),(2,0),(0,0),(0,1),(0,1),(0,1),(1,1),(0,1),(0,1),(2,1),(0,1),(0,1),(0,1),(2,1),(0,1)] (qp 11 h (fun h=> ?_) (fun h=> ?_)))))))))))))))))))
 ·refine qf [(0,3),(0,4),(0,0)] (qe (jx_then (jc_ret ?_)))
  obtain rfl:=si h
  exact qr [] (fun w hm=>⟨rfl,hm.pk []⟩)
 ·obtain⟨t_0,ht_1,h⟩:=bd h
  refine tO (pq 2 (fun w hm=>Fa2.calls f0 d1 (w64 ((w64 n2.fAt)+(w64 x3.fLate))) (w64 x3.fTrack) w _ C_c (hm.xr C_h) rfl (hm.xr D_h) ht_1) (jkO (qf [(0,5),(0,0)] (qe (jx_then (jc_ret ?_))))))
  obtain rfl:=si h
  exact qr [] (fun w hm=>⟨rfl,hm.pk []⟩)
def Fa7(x0:GChoice)(p1:GFrame)(p2:Arr 96 Int)(p3:GNote):Option (Bool):=(FaD p1 p2 p3 x0).bind fun t_0=>some (!t_0)
theorem Fa7.calls(x0:GChoice)(p1:GFrame)(p2:Arr 96 Int)(p3:GNote)(w:World)(r:Bool){H_a:Option Addr}{H_an:Nat}(H_c:Nat)(H_h:Rw w H_a 2 encGHammer p1.fHammers)(H_hn:p1.fHammers.length=H_an){I_b I_q:Nat}(I_h:Rw w (some ⟨I_b,I_q,none⟩) 1 encU32 p2.1)(F_b:Nat)(J_b:Nat)(hm0:Mem w (bs [some F_b,some J_b]) [⟨some F_b,27,[(vH p1.fSteps),(.slice H_a H_an H_c)]⟩,⟨some J_b,101,[(vH p3.fAt),(vB p3.fPitch)]⟩] w)(H_ha:p1.fHammers≠ []→aB H_a∉bs [some F_b,some J_b])(I_ha:p2.1≠ []→aB (some ⟨I_b,I_q,none⟩)∉bs [some F_b,some J_b])(h:Fa7 x0 p1 p2 p3=some r):
   Calls Tryz.prog 62 #[(.agg #[(.bool x0.fAway),(vB x0.fLate),(vB x0.fOctave),(vB x0.fTrack)]),(vP F_b),(.pointer (some ⟨I_b,I_q,none⟩)),(vP J_b)] w fun e w'=>∃v,e= .returned v∧(v=(.bool r)∧Mem w (bs [some F_b,some J_b]) [⟨some F_b,27,[(vH p1.fSteps),(.slice H_a H_an H_c)]⟩,⟨some J_b,101,[(vH p3.fAt),(vB p3.fPitch)]⟩] w'):=by
 subst H_hn
 rw [Fa7] at h
 refine enter (args:= [(.agg #[(.bool x0.fAway),(vB x0.fLate),(vB x0.fOctave),(vB x0.fTrack)]),(vP F_b),(.pointer (some ⟨I_b,I_q,none⟩)),(vP J_b)]) Tryz.func62 rfl Tryz.ntmps62 (by kernel_rfl) (L:= [⟨some F_b,27,[(vH p1.fSteps),(.slice H_a p1.fHammers.length H_c)]⟩,⟨some J_b,101,[(vH p3.fAt),(vB p3.fPitch)]⟩]) (W:=bs [some F_b,some J_b]) hm0 (jc_seq (jc_region (tO (qa 0 (fun b_0=>jkO (qh [0] (qe (jx_then (jc_seq (jc_region (qh [0,1,2] ?_)))))))))))
 obtain⟨t_0,ht_1,h⟩:=bd h
 refine tO (pq 0 (fun w hm=>FaD.calls p1 p2 p3 x0 w _ H_c (hm.exRowW H_h H_ha) rfl (hm.exRowW I_h I_ha) ht_1) (jkO (qh [0,0] (qe (jx_then (jc_ret ?_))))))
 obtain rfl:=si h
 exact qr [] (fun w hm=>⟨rfl,hm.pk [0,1]⟩)
def Fr.k_1:Option (Int):=some (-1)
def Fr.l_3(s0:List GChoice)(g1c0:GFrame)(g1c1:Arr 96 Int)(g1c2:GNote):Int→Option ((Int)⊕(Int⊕Unit))
 | i_0=>(if(decide (i_0<(s0.length:Int)))=true then(ix s0 i_0).bind fun x_1=>(Fa7 x_1 g1c0 g1c1 g1c2).bind fun t_3=>(if t_3=true then some (.inr (.inl i_0)) else some (.inl (w64 (i_0+1)))) else some (.inr (.inr ())))
def Fr(s0:List GChoice)(g1c0:GFrame)(g1c1:Arr 96 Int)(g1c2:GNote):Option (Int):=(loop (Fr.l_3 s0 g1c0 g1c1 g1c2) 0).bind fun t_4=>match t_4 with | .inl p=>some p | .inr p=>Fr.k_1
theorem Fr.calls(s0:List GChoice)(g1c0:GFrame)(g1c1:Arr 96 Int)(g1c2:GNote)(w:World)(r:Int){A_a:Option Addr}{A_an:Nat}(A_c:Nat)(A_h:Rw w A_a 4 encGChoice s0)(A_hn:s0.length=A_an){D_a:Option Addr}{D_an:Nat}(D_c:Nat)(D_h:Rw w D_a 2 encGHammer g1c0.fHammers)(D_hn:g1c0.fHammers.length=D_an)(B_b:Nat)(E_b:Nat)(F_b:Nat)(hm0:Mem w (bs [some B_b,some E_b,some F_b]) [⟨some B_b,27,[(vH g1c0.fSteps),(.slice D_a D_an D_c)]⟩,⟨(some E_b),40,row encU32 g1c1.1 []⟩,⟨some F_b,101,[(vH g1c2.fAt),(vB g1c2.fPitch)]⟩] w)(A_ha:s0≠ []→aB A_a∉bs [some B_b,some E_b,some F_b])(D_ha:g1c0.fHammers≠ []→aB D_a∉bs [some B_b,some E_b,some F_b])(h:Fr s0 g1c0 g1c1 g1c2=some r):
   Calls Tryz.prog 129 #[(.slice A_a A_an A_c),(.func (.func 62) #[] #[(vP B_b),(vP E_b),(vP F_b)])] w fun e w'=>∃v,e= .returned v∧(v=(vI r)∧Mem w (bs [some B_b,some E_b,some F_b]) [⟨some B_b,27,[(vH g1c0.fSteps),(.slice D_a D_an D_c)]⟩,⟨(some E_b),40,row encU32 g1c1.1 []⟩,⟨some F_b,101,[(vH g1c2.fAt),(vB g1c2.fPitch)]⟩] w'):=by
 subst A_hn D_hn
 rw [Fr] at h
 refine enter (args:= [(.slice A_a s0.length A_c),(.func (.func 62) #[] #[(vP B_b),(vP E_b),(vP F_b)])]) Tryz.func129 rfl Tryz.ntmps129 (by kernel_rfl) (L:= [⟨some B_b,27,[(vH g1c0.fSteps),(.slice D_a g1c0.fHammers.length D_c)]⟩,⟨(some E_b),40,row encU32 g1c1.1 []⟩,⟨some F_b,101,[(vH g1c2.fAt),(vB g1c2.fPitch)]⟩]) (W:=bs [some B_b,some E_b,some F_b]) hm0 (jc_seq (jc_region (qh [0] (qe (jx_then (jc_seq (jc_seq (jc_region (qh [0,0,0] (qe (jx_then (jc_meet (fun(_:Unit)=>Fr.k_1=some r) (fun(_:Unit)=> [(4,[],(vI 0))]) (fun(_:Unit)=> [⟨some B_b,27,[(vH g1c0.fSteps),(.slice D_a g1c0.fHammers.length D_c)]⟩,⟨(some E_b),40,row encU32 g1c1.1 []⟩,⟨some F_b,101,[(vH g1c2.fAt),(vB g1c2.fPitch)]⟩]) ?_ ?_))))))))))))
 ·refine jc_block ?_
  obtain⟨t_4,ht_6,hr_5⟩:=bd h
  refine jl (fun(i_0:Int) (_:Unit)=>True) (fun i_0 _=> [(0,[],(.slice A_a s0.length A_c)),(1,[],(.func (.func 62) #[] #[(vP B_b),(vP E_b),(vP F_b)])),(4,[],(vI 0)),(7,[],(vI (s0.length:Int))),(8,[],(vI i_0))]) (fun i_0 _=> [⟨some B_b,27,[(vH g1c0.fSteps),(.slice D_a g1c0.fHammers.length D_c)]⟩,⟨(some E_b),40,row encU32 g1c1.1 []⟩,⟨some F_b,101,[(vH g1c2.fAt),(vB g1c2.fPitch)]⟩]) ht_6 () trivial [0,1,2] ?_
  rintro i_0 _ y_00 _ h
  rw [Fr.l_3] at h
  refine jc_seq (jc_region (qh [0] (qe (jx_then (jc_seq (qi h (fun h=> ?_) (fun h=> ?_)))))))
  ·refine jc_skip (jx_then (jc_seq (jc_block (jc_seq (jc_region (qh [0,0] (qe (jx_then (jc_seq (jc_region (qh [0,0,0] ?_)))))))))))
   obtain⟨x_1,hx_2,h⟩:=bd h
   refine tO (qx 0 A_a 4 hx_2 rfl (A_h.sp hx_2) (jkO (tO (ql 0 true (fun w hm=>((hm.exRowW A_h A_ha).at hx_2)) (jkO ?_)))))
   obtain⟨t_3,ht_7,h⟩:=bd h
   refine tO (pc 0 (fun w hm=>Fa7.calls x_1 g1c0 g1c1 g1c2 w _ D_c (hm.exRowW D_h D_ha) rfl (hm.ow 1 (some E_b) 40 g1c1.1 [] (fun e=>nomatch e) encU32_len) B_b F_b (hm.ps [0,2]) (hm.xp D_h D_ha [0,2]) (hm.oa 1 (some E_b) (fun e=>nomatch e) [0,2]) ht_7) ?_)
   rintro w v w' hm ⟨rfl,hm'⟩
   refine⟨_,hm.appW (ps:= [(0,⟨some B_b,27,[(vH g1c0.fSteps),(.slice D_a g1c0.fHammers.length D_c)]⟩),(2,⟨some F_b,101,[(vH g1c2.fAt),(vB g1c2.fPitch)]⟩)]) (N:= []) hm' (by kernel_rfl) (by kernel_rfl),jkO ?_⟩
   clear hm hm'
   refine qe (jx_then (qi h (fun h=> ?_) (fun h=> ?_)))
   ·refine jc_seq (jc_region (qh [0,0] (qe (jx_then (jc_ret (jx_inr (jx_thenr (jx_leaver (.inl i_0) (sj h) (fun e_8=> ?_)))))))))
    subst e_8
    refine jx_inr (jx_thenr (jx_thenr ?_))
    obtain rfl:=si hr_5
    exact qr [] (fun w hm=>⟨rfl,hm.pk [0,1,2]⟩)
   ·exact jc_skip (jx_inn (jx_then (jc_region (qh [0,0] (qe (qb (w64 (i_0+1)) () h trivial [0,1,2]))))))
  ·refine jc_exit (jx_thenx (jx_leave (.inr ()) (sj h) (fun e_9=> ?_)))
   subst e_9
   exact jx_ine (qm () hr_5 [0,1,2])
 ·rintro _ h
  replace h:Fr.k_1=some r:=h
  rw [Fr.k_1] at h
  refine jx_then (jc_seq (jc_region (qh [0] (qe (jx_then (jc_ret ?_))))))
  obtain rfl:=si h
  exact qr [] (fun w hm=>⟨rfl,hm.pk [0,1,2]⟩)
def Fn.k_4(xs_1:List GChoice)(i_0:Int):Option ((List GChoice)):=(if 0≤i_0∧i_0≤(xs_1.length:Int) then some (xs_1.take i_0.toNat) else none)
def Fn.l_8(s0:List GChoice)(g1c0:GFrame)(g1c1:Arr 96 Int)(g1c2:GNote):((List GChoice)×Int×Int)→Option (((List GChoice)×Int×Int)⊕(((List GChoice)×Int)))
 | (xs_2,i_3,i_5)=>(if(decide (i_5<(s0.length:Int)))=true then(ix xs_2 i_5).bind fun x_6=>(Fa7 x_6 g1c0 g1c1 g1c2).bind fun t_05=>(if(!t_05)=true then(ix xs_2 i_3).bind fun x_07=>some (.inl ((xs_2.set i_3.toNat x_6),(w64 (i_3+1)),(w64 (i_5+1)))) else some (.inl (xs_2,i_3,(w64 (i_5+1))))) else some (.inr (xs_2,i_3)))
def Fn(s0:List GChoice)(g1c0:GFrame)(g1c1:Arr 96 Int)(g1c2:GNote):Option ((List GChoice)):=(Fr s0 g1c0 g1c1 g1c2).bind fun t_9=>(if(t_9==(-1))=true then some s0 else(loop (Fn.l_8 s0 g1c0 g1c1 g1c2) (s0,t_9,(w64 (t_9+1)))).bind fun t_02=>Fn.k_4 t_02.1 t_02.2)
theorem Fn.calls(s0:List GChoice)(g1c0:GFrame)(g1c1:Arr 96 Int)(g1c2:GNote)(w:World)(r:(List GChoice)){D_a:Option Addr}{D_an:Nat}(D_c:Nat)(D_h:Rw w D_a 2 encGHammer g1c0.fHammers)(D_hn:g1c0.fHammers.length=D_an)(A_o:Option Nat){A_on:Nat}{A_c:Nat}{A_sp:List Value}(A_hn:s0.length=A_on)(A_hs:hS A_o A_on A_c A_sp 4)(A_ho:hO A_o s0 A_c)(B_b:Nat)(E_b:Nat)(F_b:Nat)(hm0:Mem w (bs [A_o,some B_b,some E_b,some F_b]) [⟨A_o,104,row encGChoice s0 A_sp⟩,⟨some B_b,27,[(vH g1c0.fSteps),(.slice D_a D_an D_c)]⟩,⟨(some E_b),40,row encU32 g1c1.1 []⟩,⟨some F_b,101,[(vH g1c2.fAt),(vB g1c2.fPitch)]⟩] w)(D_ha:g1c0.fHammers≠ []→aB D_a∉bs [A_o,some B_b,some E_b,some F_b])(h:Fn s0 g1c0 g1c1 g1c2=some r):
   Calls Tryz.prog 60 #[(.slice (mB A_o) A_on A_c),(.func (.func 62) #[] #[(vP B_b),(vP E_b),(vP F_b)])] w fun e w'=>∃v,e= .returned v∧(∃(o0:Option Nat) (c0:Nat) (s0:List Value) (n0:Nat),r.length=n0∧(hS o0 n0 c0 s0 4)∧(hO o0 r c0)∧v= .slice (mB o0) n0 c0∧Mem w (bs [A_o,some B_b,some E_b,some F_b]) [⟨some B_b,27,[(vH g1c0.fSteps),(.slice D_a D_an D_c)]⟩,⟨(some E_b),40,row encU32 g1c1.1 []⟩,⟨some F_b,101,[(vH g1c2.fAt),(vB g1c2.fPitch)]⟩,⟨o0,104,row encGChoice r s0⟩] w'):=by
 subst D_hn A_hn
 rw [Fn] at h
 refine enter (args:= [(.slice (mB A_o) s0.length A_c),(.func (.func 62) #[] #[(vP B_b),(vP E_b),(vP F_b)])]) Tryz.func60 rfl Tryz.ntmps60 (by kernel_rfl) (L:= [⟨A_o,104,row encGChoice s0 A_sp⟩,⟨some B_b,27,[(vH g1c0.fSteps),(.slice D_a g1c0.fHammers.length D_c)]⟩,⟨(some E_b),40,row encU32 g1c1.1 []⟩,⟨some F_b,101,[(vH g1c2.fAt),(vB g1c2.fPitch)]⟩]) (W:=bs [A_o,some B_b,some E_b,some F_b]) hm0 (jc_seq (jc_region (qh [0] (qe (jx_then (jc_seq (jc_region (qh [0,0] ?_))))))))
 obtain⟨t_9,ht_9,h⟩:=bd h
 refine tO (pc 0 (fun w hm=>Fr.calls s0 g1c0 g1c1 g1c2 w _ A_c (hm.ow 0 A_o 104 s0 A_sp (fun e=>(A_ho e).1) encGChoice_len) rfl D_c (hm.exRowW D_h D_ha) rfl B_b E_b F_b (hm.ps [1,2,3]) (hm.oa 0 A_o (fun e=>(A_ho e).1) [1,2,3]) (hm.xp D_h D_ha [1,2,3]) ht_9) ?_)
 rintro w v w' hm ⟨rfl,hm'⟩
 refine⟨_,hm.appW (ps:= [(1,⟨some B_b,27,[(vH g1c0.fSteps),(.slice D_a g1c0.fHammers.length D_c)]⟩),(2,⟨(some E_b),40,row encU32 g1c1.1 []⟩),(3,⟨some F_b,101,[(vH g1c2.fAt),(vB g1c2.fPitch)]⟩)]) (N:= []) hm' (by kernel_rfl) (by kernel_rfl),jkO ?_⟩
 clear hm hm'
 refine qh [0] (qe (jx_then (jc_seq (jc_seq (jc_region (qh [0,0] (qe (jx_then (qi h (fun h=> ?_) (fun h=> ?_))))))))))
 ·refine jc_seq (jc_region (qh [0,0] (qe (jx_then (jc_ret (jx_thenr ?_))))))
  obtain rfl:=si h
  exact qr [] (fun w hm=>⟨A_o,A_c,A_sp,s0.length,rfl,A_hs,A_ho,rfl,hm.pk [1,2,3,0]⟩)
 ·refine jc_skip (jx_then (jc_seq (jc_seq (jc_region (qh [0,0,0] (qe (jx_then (jc_meet (fun(j:(List GChoice)×Int)=>match j with | ⟨xs_1,i_0⟩=>Fn.k_4 xs_1 i_0=some r∧(xs_1.length=s0.length)∧(hO A_o xs_1 A_c)) (fun⟨xs_1,i_0⟩=> [(0,[],(.slice (mB A_o) s0.length A_c)),(4,[],(.slice none 0 0)),(5,[],(vI i_0))]) (fun⟨xs_1,i_0⟩=> [⟨A_o,104,row encGChoice xs_1 A_sp⟩,⟨some B_b,27,[(vH g1c0.fSteps),(.slice D_a g1c0.fHammers.length D_c)]⟩,⟨(some E_b),40,row encU32 g1c1.1 []⟩,⟨some F_b,101,[(vH g1c2.fAt),(vB g1c2.fPitch)]⟩]) ?_ ?_))))))))
  ·refine jc_block ?_
   obtain⟨t_02,ht_08,hr_09⟩:=bd h
   refine jl (fun(s:(List GChoice)×Int×Int) (x:Unit)=>match s,x with | ⟨xs_2,i_3,i_5⟩,_=>(xs_2.length=s0.length)∧(hO A_o xs_2 A_c)) (fun⟨xs_2,i_3,i_5⟩ _=> [(0,[],(.slice (mB A_o) s0.length A_c)),(1,[],(.func (.func 62) #[] #[(vP B_b),(vP E_b),(vP F_b)])),(4,[],(.slice none 0 0)),(5,[],(vI i_3)),(6,[],(vI i_5))]) (fun⟨xs_2,i_3,i_5⟩ _=> [⟨A_o,104,row encGChoice xs_2 A_sp⟩,⟨some B_b,27,[(vH g1c0.fSteps),(.slice D_a g1c0.fHammers.length D_c)]⟩,⟨(some E_b),40,row encU32 g1c1.1 []⟩,⟨some F_b,101,[(vH g1c2.fAt),(vB g1c2.fPitch)]⟩]) ht_08 () ⟨rfl,A_ho⟩ [0,1,2,3] ?_
   rintro⟨xs_2,i_3,i_5⟩ _ y_0d ⟨hn_00,ho_8⟩ h
   rw [Fn.l_8] at h
   refine jc_seq (jc_seq (jc_region (qh [0,0,0,0] (qe (jx_then (qi h (fun h=> ?_) (fun h=> ?_)))))))
   ·refine jc_skip (jx_then (jc_seq (jc_block (jc_seq (jc_region (qh [0,0] ?_))))))
    obtain⟨x_6,hx_03,h⟩:=bd h
    refine tO (qx 0 (mB A_o) 4 hx_03 hn_00 (spo ho_8 hx_03) (jkO (tO (ql 0 true (fun w hm=>((hm.ow 0 A_o 104 xs_2 A_sp (fun e=>(ho_8 e).1) encGChoice_len).at hx_03)) (jkO (tO (qa 0 (fun b_0e=>jkO (tO (qs 0 [4] (jkO (qe (jx_then (jc_seq (jc_region (qh [0,4] ?_))))))))))))))))
    obtain⟨t_05,ht_0a,h⟩:=bd h
    refine tO (pc 0 (fun w hm=>Fa7.calls x_6 g1c0 g1c1 g1c2 w _ D_c (hm.exRowW D_h D_ha) rfl (hm.ow 2 (some E_b) 40 g1c1.1 [] (fun e=>nomatch e) encU32_len) B_b F_b (hm.ps [1,3]) (hm.xp D_h D_ha [1,3]) (hm.oa 2 (some E_b) (fun e=>nomatch e) [1,3]) ht_0a) ?_)
    rintro w v w' hm ⟨rfl,hm'⟩
    refine⟨_,hm.appW (ps:= [(1,⟨some B_b,27,[(vH g1c0.fSteps),(.slice D_a g1c0.fHammers.length D_c)]⟩),(3,⟨some F_b,101,[(vH g1c2.fAt),(vB g1c2.fPitch)]⟩)]) (N:= []) hm' (by kernel_rfl) (by kernel_rfl),jkO ?_⟩
    clear hm hm'
    refine qh [0] (qe (jx_then (qi h (fun h=> ?_) (fun h=> ?_))))
    ·refine jc_seq (jc_region (qh [0,0,4] ?_))
     obtain⟨x_07,hx_04,h⟩:=bd h
     exact tO (qx 0 (mB A_o) 4 hx_04 hn_00 (spo ho_8 hx_04) (jkO (tO (pO 0 0 A_o 104 encGChoice xs_2 A_sp i_3 x_6 4 0 [(.bool x_6.fAway),(vB x_6.fLate),(vB x_6.fOctave),(vB x_6.fTrack)] (fun e=>(ho_8 e).1) encGChoice_len hx_04 (jkO (qe (jx_then (jc_region (qh [0,0,0] (qe (jx_inn (jx_then (jc_region (qh [0,0,0] (qe (qb ((xs_2.set i_3.toNat x_6),(w64 (i_3+1)),(w64 (i_5+1))) () h ⟨(List.length_set.trans hn_00),(set_ho ho_8)⟩ [0,1,2,3]))))))))))))))))
    ·exact jc_skip (jx_inn (jx_then (jc_region (qh [0,0,0] (qe (qb (xs_2,i_3,(w64 (i_5+1))) () h ⟨hn_00,ho_8⟩ [0,1,2,3]))))))
   ·refine jc_exit (jx_thenx (jx_leave (xs_2,i_3) (sj h) (fun e_0b=> ?_)))
    subst e_0b
    exact jx_ine (qm ⟨xs_2,i_3⟩ ⟨hr_09,hn_00,ho_8⟩ [0,1,2,3])
  ·rintro⟨xs_1,i_0⟩ ⟨h,hn_7,ho_01⟩
   replace h:Fn.k_4 xs_1 i_0=some r:=h
   rw [Fn.k_4] at h
   refine jx_then (jc_seq (jc_region (qh [0,0] ?_)))
   obtain⟨hg_4,h⟩:=gd h
   refine tO (pK 0 (mB A_o) s0.length A_c 4 i_0 hg_4.1 (Int.le_trans hg_4.2 (Int.ofNat_le.2 (Nat.le_of_eq hn_7))) (jkO (tO (jp_cut (hh:=0) (o:=A_o) (T:=104) (enc:=encGChoice) (xs:=xs_1) (sp:=A_sp) i_0.toNat (by kernel_rfl) (pC 0 0 A_o 104 i_0.toNat i_0.toNat (s0.length-i_0.toNat) A_c 4 [(.bool false),(vB 0),(vB 0),(vB 0)] encGChoice (xs_1.take i_0.toNat) ((xs_1.drop i_0.toNat).flatMap encGChoice++A_sp) (hd_len hg_4) rfl encGChoice_len (cut_hs encGChoice_len (show i_0.toNat≤xs_1.length by have:=hg_4;omega) hn_7 A_hs) (cut_ho i_0.toNat ho_01) (by have:=(cap_le hn_7 A_hs ho_01);have:xs_1.length=s0.length:=hn_7;omega) (fun sp_0c hl_06=>jkO (qe (jx_then (jc_seq (jc_region (qh [0,0] (tO (p_slH 0 (mB A_o) s0.length A_c 4 i_0 (by kernel_rfl) (by kernel_rfl) hg_4.1 (by have h1:=(cap_le (hd_len hg_4) (fun e=>⟨((cut_hs encGChoice_len (show i_0.toNat≤xs_1.length by have:=hg_4;omega) hn_7 A_hs) e).1,hl_06.trans ((cut_hs encGChoice_len (show i_0.toNat≤xs_1.length by have:=hg_4;omega) hn_7 A_hs) e).2⟩) (cut_ho i_0.toNat ho_01));have h2:=(hd_len hg_4);omega) (jkO (qh [0] (qe (jx_then (jc_ret ?_))))))))))))))))))
   obtain rfl:=si h
   exact qr [] (fun w hm=>⟨A_o,A_c,sp_0c,i_0.toNat,(hd_len hg_4),(fun e=>⟨((cut_hs encGChoice_len (show i_0.toNat≤xs_1.length by have:=hg_4;omega) hn_7 A_hs) e).1,hl_06.trans ((cut_hs encGChoice_len (show i_0.toNat≤xs_1.length by have:=hg_4;omega) hn_7 A_hs) e).2⟩),(cut_ho i_0.toNat ho_01),rfl,hm.pk [1,2,3,0]⟩)
def FbS(b0:Bool):Option (Int):=(if b0=true then some 1 else some 0)
theorem FbS.calls(b0:Bool)(w:World)(r:Int)(h:FbS b0=some r):
   Calls Tryz.prog 133 #[(.bool b0)] w fun e w'=>∃v,e= .returned v∧(v=(vI r)∧Mem w [] [] w'):=by
 rw [FbS] at h
 refine en Tryz.func133 rfl Tryz.ntmps133 (jc_seq (jc_region (qh [0] (qe (jx_then (jc_seq (jc_seq (jc_region (qh [0] (qe (jx_then (qi h (fun h=> ?_) (fun h=> ?_)))))))))))))
 ·refine jc_seq (jc_region (qh [0] (qe (jx_then (jc_ret (jx_thenr ?_))))))
  obtain rfl:=si h
  exact qr [] (fun w hm=>⟨rfl,hm.pk []⟩)
 ·refine jc_skip (jx_then (jc_seq (jc_region (qh [0] (qe (jx_then (jc_ret ?_)))))))
  obtain rfl:=si h
  exact qr [] (fun w hm=>⟨rfl,hm.pk []⟩)
def Fau(c0:GCosts)(x1:GChoice):Option (Int):=(if x1.fAway=true then some (w64 c0.fAway) else(FbS (x1.fOctave !=0)).bind fun t_0=>some (w64 ((w64 ((w64 c0.fStep)*(w64 (if(w8 (0-x1.fLate))>x1.fLate then(w8 (0-x1.fLate)) else x1.fLate))))+(w64 ((w64 c0.fOctave)*t_0)))))
theorem Fau.calls(c0:GCosts)(x1:GChoice)(w:World)(r:Int)(h:Fau c0 x1=some r):
   Calls Tryz.prog 67 #[(.agg #[(vH c0.fAway),(vH c0.fOctave),(vH c0.fStep)]),(.agg #[(.bool x1.fAway),(vB x1.fLate),(vB x1.fOctave),(vB x1.fTrack)])] w fun e w'=>∃v,e= .returned v∧(v=(vI r)∧Mem w [] [] w'):=by
 rw [Fau] at h
 refine en Tryz.func67 rfl Tryz.ntmps67 (jc_seq (jc_region (tO (qa 0 (fun b_0=>jkO (tO (qa 0 (fun b_1=>jkO (qh [0] (qe (jx_then (jc_seq (jc_seq (jc_region (qh [0,1] (qe (jx_then (qi h (fun h=> ?_) (fun h=> ?_)))))))))))))))))))
 ·refine jc_seq (jc_region (qh [0,0,0,0] (qe (jx_then (jc_ret (jx_thenr ?_))))))
  obtain rfl:=si h
  exact qr [] (fun w hm=>⟨rfl,hm.pk []⟩)
 ·refine jc_skip (jx_then (jc_seq (jc_region (qh [0,1,0,1,0,0,0,0] (qe (jx_then (jc_seq (qg [⟨some b_0,33,[(vH c0.fAway),(vH c0.fOctave),(vH c0.fStep)]⟩,⟨some b_1,104,[(.bool x1.fAway),(vB x1.fLate),(vB x1.fOctave),(vB x1.fTrack)]⟩] 15 (qd [⟨0,0,0⟩,⟨1,0,0⟩,⟨2,0,0⟩,⟨3,0,0⟩,⟨4,0,0⟩,⟨5,0,0⟩,⟨6,0,0⟩,⟨7,0,0⟩,⟨8,0,0⟩,⟨9,1,0⟩,⟨10,0,0⟩] 4 [0,1] ?_)))))))))
  obtain⟨t_0,ht_2,h⟩:=bd h
  refine tD 11 (pq 0 (fun w hm=>FbS.calls (x1.fOctave !=0) w _ ht_2) (kD [0,1] (qd [⟨12,0,0⟩,⟨13,0,0⟩,⟨14,0,0⟩] 0 [0,1] (qz (jx_then (jc_ret ?_))))))
  obtain rfl:=si h
  exact qr [] (fun w hm=>⟨rfl,hm.pk []⟩)
def FaX(x0:Int):Option (Bool):=some (x0 !=x0)
theorem FaX.calls(x0:Int)(w:World)(r:Bool)(h:FaX x0=some r):
   Calls Tryz.prog 132 #[(vI x0)] w fun e w'=>∃v,e= .returned v∧(v=(.bool r)∧Mem w [] [] w'):=by
 rw [FaX] at h
 refine en Tryz.func132 rfl Tryz.ntmps132 (jc_seq (jc_region (qh [0] (qe (jx_then (jc_seq (jc_region (qh [0,0,0,0] (qe (jx_then (jc_ret ?_)))))))))))
 obtain rfl:=si h
 exact qr [] (fun w hm=>⟨rfl,hm.pk []⟩)
def FaH(x0:Int)(y1:Int):Option (Int):=(FaX x0).bind fun t_1=>(FaX y1).bind fun t_0=>(if t_1=true then(if t_0=true then some 0 else some (-1)) else(if t_0=true then some 1 else(if(decide (x0<y1))=true then some (-1) else(if(decide (x0>y1))=true then some 1 else some 0))))
theorem FaH.calls(x0:Int)(y1:Int)(w:World)(r:Int)(h:FaH x0 y1=some r):
   Calls Tryz.prog 66 #[(vI x0),(vI y1)] w fun e w'=>∃v,e= .returned v∧(v=(vI r)∧Mem w [] [] w'):=by
 rw [FaH] at h
 refine en Tryz.func66 rfl Tryz.ntmps66 (jc_seq (jc_region (qh [0] (qe (jx_then (jc_seq (jc_region (qh [0] ?_))))))))
 obtain⟨t_1,ht_1,h⟩:=bd h
 refine tO (pq 0 (fun w hm=>FaX.calls x0 w _ ht_1) (jkO (qh [0] (qe (jx_then (jc_seq (jc_region (qh [0] ?_))))))))
 obtain⟨t_0,ht_0,h⟩:=bd h
 refine tO (pq 0 (fun w hm=>FaX.calls y1 w _ ht_0) (jkO (qh [0] (qe (jx_then (jc_seq (jc_seq (jc_region (qh [0] (qe (jx_then (qi h (fun h=> ?_) (fun h=> ?_)))))))))))))
 ·refine jc_seq (jc_seq (jc_region (qh [0] (qe (jx_then (qi h (fun h=> ?_) (fun h=> ?_)))))))
  ·refine jc_seq (jc_region (qh [0] (qe (jx_then (jc_ret (jx_thenr (jx_thenr ?_)))))))
   obtain rfl:=si h
   exact qr [] (fun w hm=>⟨rfl,hm.pk []⟩)
  ·refine jc_skip (jx_then (jc_seq (jc_region (qh [0] (qe (jx_then (jc_ret (jx_thenr ?_))))))))
   obtain rfl:=si h
   exact qr [] (fun w hm=>⟨rfl,hm.pk []⟩)
 ·refine jc_skip (jx_then (jc_seq (jc_seq (jc_region (qh [0] (qe (jx_then (qi h (fun h=> ?_) (fun h=> ?_)))))))))
  ·refine jc_seq (jc_region (qh [0] (qe (jx_then (jc_ret (jx_thenr ?_))))))
   obtain rfl:=si h
   exact qr [] (fun w hm=>⟨rfl,hm.pk []⟩)
  ·refine jc_skip (jx_then (jc_seq (jc_seq (jc_region (qh [0,0,0] (qe (jx_then (qi h (fun h=> ?_) (fun h=> ?_)))))))))
   ·refine jc_seq (jc_region (qh [0] (qe (jx_then (jc_ret (jx_thenr ?_))))))
    obtain rfl:=si h
    exact qr [] (fun w hm=>⟨rfl,hm.pk []⟩)
   ·refine jc_skip (jx_then (jc_seq (jc_seq (jc_region (qh [0,0,0] (qe (jx_then (qi h (fun h=> ?_) (fun h=> ?_)))))))))
    ·refine jc_seq (jc_region (qh [0] (qe (jx_then (jc_ret (jx_thenr ?_))))))
     obtain rfl:=si h
     exact qr [] (fun w hm=>⟨rfl,hm.pk []⟩)
    ·refine jc_skip (jx_then (jc_seq (jc_region (qh [0] (qe (jx_then (jc_ret ?_)))))))
     obtain rfl:=si h
     exact qr [] (fun w hm=>⟨rfl,hm.pk []⟩)
def Fby(a0:GChoice)(b1:GChoice)(p2:GCosts):Option (Int):=(Fau p2 a0).bind fun t_0=>(Fau p2 b1).bind fun t_1=>(FaH t_0 t_1).bind fun t_2=>some t_2
theorem Fby.calls(a0:GChoice)(b1:GChoice)(p2:GCosts)(w:World)(r:Int)(K_b:Nat)(hm0:Mem w (bs [some K_b]) [⟨some K_b,33,[(vH p2.fAway),(vH p2.fOctave),(vH p2.fStep)]⟩] w)(h:Fby a0 b1 p2=some r):
   Calls Tryz.prog 65 #[(.agg #[(.bool a0.fAway),(vB a0.fLate),(vB a0.fOctave),(vB a0.fTrack)]),(.agg #[(.bool b1.fAway),(vB b1.fLate),(vB b1.fOctave),(vB b1.fTrack)]),(vP K_b)] w fun e w'=>∃v,e= .returned v∧(v=(vI r)∧Mem w (bs [some K_b]) [⟨some K_b,33,[(vH p2.fAway),(vH p2.fOctave),(vH p2.fStep)]⟩] w'):=by
 rw [Fby] at h
 refine enter (args:= [(.agg #[(.bool a0.fAway),(vB a0.fLate),(vB a0.fOctave),(vB a0.fTrack)]),(.agg #[(.bool b1.fAway),(vB b1.fLate),(vB b1.fOctave),(vB b1.fTrack)]),(vP K_b)]) Tryz.func65 rfl Tryz.ntmps65 (by kernel_rfl) (L:= [⟨some K_b,33,[(vH p2.fAway),(vH p2.fOctave),(vH p2.fStep)]⟩]) (W:=bs [some K_b]) hm0 (jc_seq (jc_region (tO (qa 0 (fun b_0=>jkO (tO (qa 0 (fun b_1=>jkO (qh [0] (qe (jx_then (jc_seq (qg [⟨some K_b,33,[(vH p2.fAway),(vH p2.fOctave),(vH p2.fStep)]⟩,⟨some b_0,104,[(.bool a0.fAway),(vB a0.fLate),(vB a0.fOctave),(vB a0.fTrack)]⟩,⟨some b_1,104,[(.bool b1.fAway),(vB b1.fLate),(vB b1.fOctave),(vB b1.fTrack)]⟩] 8 (qd [⟨0,0,0⟩,⟨1,1,0⟩,⟨3,0,0⟩,⟨4,2,0⟩] 4 [0,1,2] ?_))))))))))))))
 obtain⟨t_0,ht_2,h⟩:=bd h
 refine tD 2 (pq 0 (fun w hm=>Fau.calls p2 a0 w _ ht_2) (kD [0,1,2] ?_))
 obtain⟨t_1,ht_3,h⟩:=bd h
 refine tD 5 (pq 0 (fun w hm=>Fau.calls p2 b1 w _ ht_3) (kD [0,1,2] ?_))
 obtain⟨t_2,ht_4,h⟩:=bd h
 refine tD 6 (pq 0 (fun w hm=>FaH.calls t_0 t_1 w _ ht_4) (kD [0,1,2] (qd [⟨7,0,0⟩] 0 [0,1,2] (qz (jx_then (jc_ret ?_))))))
 obtain rfl:=si h
 exact qr [] (fun w hm=>⟨rfl,hm.pk [0]⟩)
def Fs.k_6(q_9:Bool)(i_00:Int)(i_5:Int)(i_0:Int):Option (GChoice):=some (⟨q_9,i_00,i_5,i_0⟩:GChoice)
def Fs.l_12(x0:List GChoice)(g1c0:GCosts):(Bool×Int×Int×Int×Int)→Option ((Bool×Int×Int×Int×Int)⊕((Bool×Int×Int×Int)))
 | (q_1,i_2,i_3,i_4,i_6)=>(if(decide (i_6<(x0.length:Int)))=true then(ix x0 i_6).bind fun x_02=>(Fby x_02 (⟨q_1,i_2,i_3,i_4⟩:GChoice) g1c0).bind fun t_05=>(if(decide (t_05<0))=true then(ix x0 i_6).bind fun x_8=>some (.inl (x_8.fAway,x_8.fLate,x_8.fOctave,x_8.fTrack,(w64 (i_6+1)))) else some (.inl (q_1,i_2,i_3,i_4,(w64 (i_6+1))))) else some (.inr (q_1,i_2,i_3,i_4)))
def Fs(x0:List GChoice)(g1c0:GCosts):Option (GChoice):=(if(decide ((x0.length:Int)<1))=true then none else(ix x0 0).bind fun x_7=>(loop (Fs.l_12 x0 g1c0) (x_7.fAway,x_7.fLate,x_7.fOctave,x_7.fTrack,1)).bind fun t_01=>Fs.k_6 t_01.1 t_01.2.1 t_01.2.2.1 t_01.2.2.2)
theorem Fs.calls(x0:List GChoice)(g1c0:GCosts)(w:World)(r:GChoice){A_a:Option Addr}{A_an:Nat}(A_c:Nat)(A_h:Rw w A_a 4 encGChoice x0)(A_hn:x0.length=A_an)(B_b:Nat)(hm0:Mem w (bs [some B_b]) [⟨some B_b,33,[(vH g1c0.fAway),(vH g1c0.fOctave),(vH g1c0.fStep)]⟩] w)(A_ha:x0≠ []→aB A_a∉bs [some B_b])(h:Fs x0 g1c0=some r):
   Calls Tryz.prog 64 #[(.slice A_a A_an A_c),(.func (.func 65) #[] #[(vP B_b)])] w fun e w'=>∃v,e= .returned v∧(v= .agg #[(.bool r.fAway),(vB r.fLate),(vB r.fOctave),(vB r.fTrack)]∧Mem w (bs [some B_b]) [⟨some B_b,33,[(vH g1c0.fAway),(vH g1c0.fOctave),(vH g1c0.fStep)]⟩] w'):=by
 subst A_hn
 rw [Fs] at h
 refine enter (args:= [(.slice A_a x0.length A_c),(.func (.func 65) #[] #[(vP B_b)])]) Tryz.func64 rfl Tryz.ntmps64 (by kernel_rfl) (L:= [⟨some B_b,33,[(vH g1c0.fAway),(vH g1c0.fOctave),(vH g1c0.fStep)]⟩]) (W:=bs [some B_b]) hm0 (jc_seq (jc_region (tO (qa 0 (fun b_7=>jkO (qe (jx_then (jc_seq (jc_seq (jc_region (qh [0,0,0] (qe (jx_then (qi h (fun h=> ?_) (fun h=> ?_)))))))))))))))
 ·refine jc_region ?_
  cases h
 ·refine jc_skip (jx_then (jc_seq (jc_region (qh [0] ?_))))
  obtain⟨x_7,hx_5,h⟩:=bd h
  refine tO (qx 0 A_a 4 hx_5 rfl (A_h.sp hx_5) (jkO (tO (ql 0 true (fun w hm=>((hm.exRowW A_h A_ha).at hx_5)) (jkO (tO (qa 0 (fun b_0=>jkO (tO (qs 0 [2] (jkO (qe (jx_then (jc_seq (jc_seq (jc_region (qh [0] (qe (jx_then (jc_meet (fun(j:Bool×Int×Int×Int)=>match j with | ⟨q_9,i_00,i_5,i_0⟩=>Fs.k_6 q_9 i_00 i_5 i_0=some r) (fun⟨q_9,i_00,i_5,i_0⟩=> [(4,[],(vP b_7)),(5,[],(vP b_0))]) (fun⟨q_9,i_00,i_5,i_0⟩=> [⟨some B_b,33,[(vH g1c0.fAway),(vH g1c0.fOctave),(vH g1c0.fStep)]⟩,⟨some b_7,104,[(.bool false),(vB 0),(vB 0),(vB 0)]⟩,⟨some b_0,104,[(.bool q_9),(vB i_00),(vB i_5),(vB i_0)]⟩]) ?_ ?_))))))))))))))))))))
  ·refine jc_block ?_
   obtain⟨t_01,ht_06,hr_07⟩:=bd h
   refine jl (fun(s:Bool×Int×Int×Int×Int) (x:Unit)=>match s,x with | ⟨q_1,i_2,i_3,i_4,i_6⟩,_=>True) (fun⟨q_1,i_2,i_3,i_4,i_6⟩ _=> [(0,[],(.slice A_a x0.length A_c)),(1,[],(.func (.func 65) #[] #[(vP B_b)])),(4,[],(vP b_7)),(5,[],(vP b_0)),(6,[],(vI i_6))]) (fun⟨q_1,i_2,i_3,i_4,i_6⟩ _=> [⟨some B_b,33,[(vH g1c0.fAway),(vH g1c0.fOctave),(vH g1c0.fStep)]⟩,⟨some b_7,104,[(.bool false),(vB 0),(vB 0),(vB 0)]⟩,⟨some b_0,104,[(.bool q_1),(vB i_2),(vB i_3),(vB i_4)]⟩]) ht_06 () trivial [0,1,2] ?_
   rintro⟨q_1,i_2,i_3,i_4,i_6⟩ _ y_0a _ h
   rw [Fs.l_12] at h
   refine jc_seq (jc_seq (jc_region (qh [0,0,0,0] (qe (jx_then (qi h (fun h=> ?_) (fun h=> ?_)))))))
   ·refine jc_skip (jx_then (jc_seq (jc_block (jc_seq (qg [⟨some B_b,33,[(vH g1c0.fAway),(vH g1c0.fOctave),(vH g1c0.fStep)]⟩,⟨some b_7,104,[(.bool false),(vB 0),(vB 0),(vB 0)]⟩,⟨some b_0,104,[(.bool q_1),(vB i_2),(vB i_3),(vB i_4)]⟩] 8 (qd [⟨0,0,0⟩,⟨1,0,0⟩,⟨2,0,0⟩,⟨5,2,0⟩] 4 [0,1,2] ?_))))))
    obtain⟨x_02,hx_03,h⟩:=bd h
    refine qX 3 0 [0,1,2] A_a 4 hx_03 rfl (A_h.sp hx_03) (qL 4 0 [0,1,2] true (fun w hm=>(hm.exRowW A_h A_ha).at hx_03) ?_)
    obtain⟨t_05,ht_08,h⟩:=bd h
    refine tD 6 (pc 0 (fun w hm=>Fby.calls x_02 (⟨q_1,i_2,i_3,i_4⟩:GChoice) g1c0 w _ B_b (hm.ps [0]) ht_08) ?_)
    rintro w v w' hm ⟨rfl,hm'⟩
    refine⟨_,hm.appW (ps:= [(0,⟨some B_b,33,[(vH g1c0.fAway),(vH g1c0.fOctave),(vH g1c0.fStep)]⟩)]) (N:= []) hm' (by kernel_rfl) (by kernel_rfl),kD [0,1,2] ?_⟩
    clear hm hm'
    refine qd [⟨7,0,0⟩] 0 [0,1,2] (qz (jx_then (qi h (fun h=> ?_) (fun h=> ?_))))
    ·refine jc_region (qh [0,0] ?_)
     obtain⟨x_8,hx_04,h⟩:=bd h
     exact tO (qx 0 A_a 4 hx_04 rfl (A_h.sp hx_04) (jkO (tO (ql 0 true (fun w hm=>((hm.exRowW A_h A_ha).at hx_04)) (jkO (tO (qs 0 [2] (jkO (qe (jx_inn (jx_then (jc_region (qh [0,0,0] (qe (qb (x_8.fAway,x_8.fLate,x_8.fOctave,x_8.fTrack,(w64 (i_6+1))) () h trivial [0,1,2])))))))))))))))
    ·exact jc_skip (jx_inn (jx_then (jc_region (qh [0,0,0] (qe (qb (q_1,i_2,i_3,i_4,(w64 (i_6+1))) () h trivial [0,1,2]))))))
   ·refine jc_exit (jx_thenx (jx_leave (q_1,i_2,i_3,i_4) (sj h) (fun e_09=> ?_)))
    subst e_09
    exact jx_ine (qm ⟨q_1,i_2,i_3,i_4⟩ hr_07 [0,1,2])
  ·rintro⟨q_9,i_00,i_5,i_0⟩ h
   replace h:Fs.k_6 q_9 i_00 i_5 i_0=some r:=h
   rw [Fs.k_6] at h
   refine jx_then (jc_seq (jc_region (qh [2] (tO (qs 0 [1] (jkO (qe (jx_then (jc_ret ?_)))))))))
   obtain rfl:=si h
   exact qr [1] (fun w hm=>⟨rfl,hm.pk [0]⟩)
def Fbk(d0:Arr 96 Int)(step1:Int)(track2:Int)(on3:Bool):Option ((Arr 96 Int)):=(ix d0.1 step1).bind fun x_0=>(if 0≤track2 then(ix d0.1 step1).bind fun x_5=>(if on3=true then(ix ((Arr.set d0 step1 (bClr .u32 x_0 (bShl .u32 1 track2))).1) step1).bind fun x_1=>(if 0≤track2 then(ix ((Arr.set d0 step1 (bClr .u32 x_0 (bShl .u32 1 track2))).1) step1).bind fun x_2=>some (Arr.set (Arr.set d0 step1 (bClr .u32 x_0 (bShl .u32 1 track2))) step1 (bOr .u32 x_1 (bShl .u32 1 track2))) else none) else some (Arr.set d0 step1 (bClr .u32 x_0 (bShl .u32 1 track2)))) else none)
theorem Fbk.calls(d0:Arr 96 Int)(step1:Int)(track2:Int)(on3:Bool)(w:World)(r:(Arr 96 Int))(A_b:Nat)(hm0:Mem w (bs [some A_b]) [⟨(some A_b),40,row encU32 d0.1 []⟩] w)(h:Fbk d0 step1 track2 on3=some r):
   Calls Tryz.prog 134 #[(vP A_b),(vI step1),(vI track2),(.bool on3)] w fun e w'=>∃v,e= .returned v∧(v= .tuple #[]∧Mem w (bs [some A_b]) [⟨(some A_b),40,row encU32 r.1 []⟩] w'):=by
 rw [Fbk] at h
 refine enter (args:= [(vP A_b),(vI step1),(vI track2),(.bool on3)]) Tryz.func134 rfl Tryz.ntmps134 (by kernel_rfl) (L:= [⟨(some A_b),40,row encU32 d0.1 []⟩]) (W:=bs [some A_b]) hm0 (jc_seq (qg [] 11 (qd [⟨0,0,0⟩,⟨1,0,0⟩,⟨2,0,0⟩,⟨5,0,0⟩,⟨8,0,0⟩] 6 [] ?_)))
 obtain⟨x_0,hx_2,h⟩:=bd h
 refine qX 3 0 [] (sB A_b) 1 hx_2 d0.2 rfl (t2 4 6 ?_ ?_)
 ·refine ql 0 false (fun w hm=>((hm.ow 0 (some A_b) 40 d0.1 [] (fun e=>nomatch e) encU32_len).at hx_2)) (kD [] ?_)
  obtain⟨hg_02,h⟩:=gd h
  refine tD 6 (pV 0 .u32 1 .i64 track2 hg_02 (kD [] (qd [⟨7,0,0⟩] 2 [] ?_)))
  obtain⟨x_5,hx_6,h⟩:=bd h
  refine qX 9 0 [] (sB A_b) 1 hx_6 d0.2 rfl (tD 10 (pT 0 0 A_b 40 encU32 d0.1 [] step1 (bClr .u32 x_0 (bShl .u32 1 track2)) 1 0 [(vU (bClr .u32 x_0 (bShl .u32 1 track2)))] encU32_len hx_6 (kD [] (qz (jx_then (jc_seq (jc_region (qh [0] (qe (jx_then (qi h (fun h=> ?_) (fun h=> ?_))))))))))))
  ·refine qg [] 11 (qd [⟨0,0,0⟩,⟨1,0,0⟩,⟨2,0,0⟩,⟨5,0,0⟩,⟨8,0,0⟩] 6 [] ?_)
   obtain⟨x_1,hx_3,h⟩:=bd h
   refine qX 3 0 [] (sB A_b) 1 hx_3 (Arr.set d0 step1 (bClr .u32 x_0 (bShl .u32 1 track2))).2 rfl (t2 4 6 ?_ ?_)
   ·refine ql 0 false (fun w hm=>((hm.ow 0 (some A_b) 40 ((Arr.set d0 step1 (bClr .u32 x_0 (bShl .u32 1 track2))).1) [] (fun e=>nomatch e) encU32_len).at hx_3)) (kD [] ?_)
    obtain⟨hg_03,h⟩:=gd h
    refine tD 6 (pV 0 .u32 1 .i64 track2 hg_03 (kD [] (qd [⟨7,0,0⟩] 2 [] ?_)))
    obtain⟨x_2,hx_7,h⟩:=bd h
    refine qX 9 0 [] (sB A_b) 1 hx_7 (Arr.set d0 step1 (bClr .u32 x_0 (bShl .u32 1 track2))).2 rfl (tD 10 (pT 0 0 A_b 40 encU32 ((Arr.set d0 step1 (bClr .u32 x_0 (bShl .u32 1 track2))).1) [] step1 (bOr .u32 x_1 (bShl .u32 1 track2)) 1 0 [(vU (bOr .u32 x_1 (bShl .u32 1 track2)))] encU32_len hx_7 (kD [] (qz (jx_fall ?_)))))
    obtain rfl:=si h
    exact qr [] (fun w hm=>⟨rfl,hm.pk [0]⟩)
   ·obtain⟨hg_04,h⟩:=gd h
    refine pV 0 .u32 1 .i64 track2 hg_04 (kD [] (tD 4 (ql 0 false (fun w hm=>((hm.ow 0 (some A_b) 40 ((Arr.set d0 step1 (bClr .u32 x_0 (bShl .u32 1 track2))).1) [] (fun e=>nomatch e) encU32_len).at hx_3)) (kD [] (qd [⟨7,0,0⟩] 2 [] ?_)))))
    obtain⟨x_2,hx_8,h⟩:=bd h
    refine qX 9 0 [] (sB A_b) 1 hx_8 (Arr.set d0 step1 (bClr .u32 x_0 (bShl .u32 1 track2))).2 rfl (tD 10 (pT 0 0 A_b 40 encU32 ((Arr.set d0 step1 (bClr .u32 x_0 (bShl .u32 1 track2))).1) [] step1 (bOr .u32 x_1 (bShl .u32 1 track2)) 1 0 [(vU (bOr .u32 x_1 (bShl .u32 1 track2)))] encU32_len hx_8 (kD [] (qz (jx_fall ?_)))))
    obtain rfl:=si h
    exact qr [] (fun w hm=>⟨rfl,hm.pk [0]⟩)
  ·refine jc_skip (jx_fall ?_)
   obtain rfl:=si h
   exact qr [] (fun w hm=>⟨rfl,hm.pk [0]⟩)
 ·obtain⟨hg_05,h⟩:=gd h
  refine pV 0 .u32 1 .i64 track2 hg_05 (kD [] (tD 4 (ql 0 false (fun w hm=>((hm.ow 0 (some A_b) 40 d0.1 [] (fun e=>nomatch e) encU32_len).at hx_2)) (kD [] (qd [⟨7,0,0⟩] 2 [] ?_)))))
  obtain⟨x_5,hx_9,h⟩:=bd h
  refine qX 9 0 [] (sB A_b) 1 hx_9 d0.2 rfl (tD 10 (pT 0 0 A_b 40 encU32 d0.1 [] step1 (bClr .u32 x_0 (bShl .u32 1 track2)) 1 0 [(vU (bClr .u32 x_0 (bShl .u32 1 track2)))] encU32_len hx_9 (kD [] (qz (jx_then (jc_seq (jc_region (qh [0] (qe (jx_then (qi h (fun h=> ?_) (fun h=> ?_))))))))))))
  ·refine qg [] 11 (qd [⟨0,0,0⟩,⟨1,0,0⟩,⟨2,0,0⟩,⟨5,0,0⟩,⟨8,0,0⟩] 6 [] ?_)
   obtain⟨x_1,hx_4,h⟩:=bd h
   refine qX 3 0 [] (sB A_b) 1 hx_4 (Arr.set d0 step1 (bClr .u32 x_0 (bShl .u32 1 track2))).2 rfl (t2 4 6 ?_ ?_)
   ·refine ql 0 false (fun w hm=>((hm.ow 0 (some A_b) 40 ((Arr.set d0 step1 (bClr .u32 x_0 (bShl .u32 1 track2))).1) [] (fun e=>nomatch e) encU32_len).at hx_4)) (kD [] ?_)
    obtain⟨hg_06,h⟩:=gd h
    refine tD 6 (pV 0 .u32 1 .i64 track2 hg_06 (kD [] (qd [⟨7,0,0⟩] 2 [] ?_)))
    obtain⟨x_2,hx_00,h⟩:=bd h
    refine qX 9 0 [] (sB A_b) 1 hx_00 (Arr.set d0 step1 (bClr .u32 x_0 (bShl .u32 1 track2))).2 rfl (tD 10 (pT 0 0 A_b 40 encU32 ((Arr.set d0 step1 (bClr .u32 x_0 (bShl .u32 1 track2))).1) [] step1 (bOr .u32 x_1 (bShl .u32 1 track2)) 1 0 [(vU (bOr .u32 x_1 (bShl .u32 1 track2)))] encU32_len hx_00 (kD [] (qz (jx_fall ?_)))))
    obtain rfl:=si h
    exact qr [] (fun w hm=>⟨rfl,hm.pk [0]⟩)
   ·obtain⟨hg_07,h⟩:=gd h
    refine pV 0 .u32 1 .i64 track2 hg_07 (kD [] (tD 4 (ql 0 false (fun w hm=>((hm.ow 0 (some A_b) 40 ((Arr.set d0 step1 (bClr .u32 x_0 (bShl .u32 1 track2))).1) [] (fun e=>nomatch e) encU32_len).at hx_4)) (kD [] (qd [⟨7,0,0⟩] 2 [] ?_)))))
    obtain⟨x_2,hx_01,h⟩:=bd h
    refine qX 9 0 [] (sB A_b) 1 hx_01 (Arr.set d0 step1 (bClr .u32 x_0 (bShl .u32 1 track2))).2 rfl (tD 10 (pT 0 0 A_b 40 encU32 ((Arr.set d0 step1 (bClr .u32 x_0 (bShl .u32 1 track2))).1) [] step1 (bOr .u32 x_1 (bShl .u32 1 track2)) 1 0 [(vU (bOr .u32 x_1 (bShl .u32 1 track2)))] encU32_len hx_01 (kD [] (qz (jx_fall ?_)))))
    obtain rfl:=si h
    exact qr [] (fun w hm=>⟨rfl,hm.pk [0]⟩)
  ·refine jc_skip (jx_fall ?_)
   obtain rfl:=si h
   exact qr [] (fun w hm=>⟨rfl,hm.pk [0]⟩)
def FaP(d0:Arr 96 Int)(n1:GNote)(x2:GChoice):Option ((Arr 96 Int)):=(if(!x2.fAway)=true then(Fbk d0 (w64 ((w64 n1.fAt)+(w64 x2.fLate))) (w64 x2.fTrack) true).bind fun t_0=>some t_0 else some d0)
theorem FaP.calls(d0:Arr 96 Int)(n1:GNote)(x2:GChoice)(w:World)(r:(Arr 96 Int))(A_b:Nat)(hm0:Mem w (bs [some A_b]) [⟨(some A_b),40,row encU32 d0.1 []⟩] w)(h:FaP d0 n1 x2=some r):
   Calls Tryz.prog 68 #[(vP A_b),(.agg #[(vH n1.fAt),(vB n1.fPitch)]),(.agg #[(.bool x2.fAway),(vB x2.fLate),(vB x2.fOctave),(vB x2.fTrack)])] w fun e w'=>∃v,e= .returned v∧(v= .tuple #[]∧Mem w (bs [some A_b]) [⟨(some A_b),40,row encU32 r.1 []⟩] w'):=by
 rw [FaP] at h
 refine enter (args:= [(vP A_b),(.agg #[(vH n1.fAt),(vB n1.fPitch)]),(.agg #[(.bool x2.fAway),(vB x2.fLate),(vB x2.fOctave),(vB x2.fTrack)])]) Tryz.func68 rfl Tryz.ntmps68 (by kernel_rfl) (L:= [⟨(some A_b),40,row encU32 d0.1 []⟩]) (W:=bs [some A_b]) hm0 (jc_seq (jc_region (tO (qa 0 (fun b_0=>jkO (tO (qa 0 (fun b_2=>jkO (qe (jx_then (jc_seq (jc_region (qh [0,2,0] (qe (jx_then (qi h (fun h=> ?_) (fun h=> ?_)))))))))))))))))
 ·refine jc_region (qh [0,0,1,0,0,2,0,0,0,2,0] ?_)
  obtain⟨t_0,ht_1,h⟩:=bd h
  refine tO (pc 0 (fun w hm=>Fbk.calls d0 (w64 ((w64 n1.fAt)+(w64 x2.fLate))) (w64 x2.fTrack) true w _ A_b (hm.ps [0]) ht_1) ?_)
  rintro w v w' hm ⟨rfl,hm'⟩
  refine⟨_,hm.appW (ps:= [(0,⟨(some A_b),40,row encU32 t_0.1 []⟩)]) (N:= []) hm' (by kernel_rfl) (by kernel_rfl),jkO ?_⟩
  clear hm hm'
  refine qe (jx_fall ?_)
  obtain rfl:=si h
  exact qr [] (fun w hm=>⟨rfl,hm.pk [0]⟩)
 ·refine jc_skip (jx_fall ?_)
  obtain rfl:=si h
  exact qr [] (fun w hm=>⟨rfl,hm.pk [0]⟩)
def Fav.k_4(xs_1:List GChoice)(a_01:Arr 96 Int):Option ((List GChoice)×Int):=some (xs_1,0)
def Fav.l_8(f0:GFrame)(t1:List GNote)(c2:GCosts):((List GChoice)×(Arr 96 Int)×Int)→Option (((List GChoice)×(Arr 96 Int)×Int)⊕(((List GChoice)×(Arr 96 Int))))
 | (xs_0,a_2,i_3)=>(if(decide (i_3<(t1.length:Int)))=true then(ix t1 i_3).bind fun x_4=>(Fj f0 x_4).bind fun t_08=>(Fn t_08 f0 a_2 x_4).bind fun t_07=>(Fs t_07 c2).bind fun t_6=>(FaP a_2 x_4 t_6).bind fun t_09=>(if xs_0.length+([t_6]:List GChoice).length≤4294967296 then some (.inl ((xs_0++([t_6]:List GChoice)),t_09,(w64 (i_3+1)))) else none) else some (.inr (xs_0,a_2)))
def Fav(f0:GFrame)(t1:List GNote)(c2:GCosts):Option ((List GChoice)×Int):=(FaG f0 t1 c2).bind fun t_5=>(if(t_5 !=0)=true then some ([],t_5) else(loop (Fav.l_8 f0 t1 c2) (([]:List GChoice),(Arr.rep 96 0),0)).bind fun t_0a=>Fav.k_4 t_0a.1 t_0a.2)
theorem Fav.calls(f0:GFrame)(t1:List GNote)(c2:GCosts)(w:World)(r:(List GChoice)×Int){C_a:Option Addr}{C_an:Nat}(C_c:Nat)(C_h:Rw w C_a 2 encGHammer f0.fHammers)(C_hn:f0.fHammers.length=C_an){D_a:Option Addr}{D_an:Nat}(D_c:Nat)(D_h:Rw w D_a 2 encGNote t1)(D_hn:t1.length=D_an)(h:Fav f0 t1 c2=some r):
   Calls Tryz.prog 9 #[(.agg #[(vH f0.fSteps),(.slice C_a C_an C_c)]),(.slice D_a D_an D_c),(.agg #[(vH c2.fAway),(vH c2.fOctave),(vH c2.fStep)])] w fun e w'=>∃v,e= .returned v∧(∃(o0:Option Nat) (c0:Nat) (s0:List Value) (n0:Nat),r.1.length=n0∧(hS o0 n0 c0 s0 4)∧(hO o0 r.1 c0)∧v= .tuple #[.slice (mB o0) n0 c0,(vI r.2)]∧Mem w [] [⟨o0,104,row encGChoice r.1 s0⟩] w'):=by
 subst C_hn D_hn
 rw [Fav] at h
 refine en Tryz.func9 rfl Tryz.ntmps9 (jc_seq (jc_region (tO (qa 0 (fun b_5=>jkO (tO (qa 0 (fun b_1=>jkO (qh [0,0] (qe (jx_then (jc_seq (jc_seq (jc_region (qh [0,0,1] ?_)))))))))))))))
 obtain⟨t_5,ht_0,h⟩:=bd h
 refine tO (pq 0 (fun w hm=>FaG.calls f0 t1 c2 w _ C_c (hm.xr C_h) rfl D_c (hm.xr D_h) rfl ht_0) (jkO (qh [0] (qe (jx_then (jc_seq (jc_region (qh [0,0] (qe (jx_then (qi h (fun h=> ?_) (fun h=> ?_))))))))))))
 ·refine jc_seq (jc_region (qh [0,0,0] (qe (jx_then (jc_ret (jx_thenr ?_))))))
  obtain rfl:=si h
  exact jx_ghost 104 encGChoice (qr [] (fun w hm=>⟨none,0,[],0,rfl,(fun e=>absurd rfl e),(fun _=>⟨rfl,rfl⟩),rfl,hm.pk [2]⟩))
 ·refine jc_skip (jx_then (jc_seq (jc_region (qh [0] (tO (qa 0 (fun b_3=>jkO (tO (qa 0 (fun b_7=>jkO (tO (pS 0 3 b_7 96 1 40 encU32 (Arr.rep 96 0) (Arr.rep 96 0) encU32_len encU32_cell (jkO (qh [0] (qe (jx_then (jc_seq (jc_seq (jc_region (qh [0,0,0] (qe (jx_then (jc_meet (fun(j:(List GChoice)×(Arr 96 Int)×(Option Nat)×Nat×(List Value)×Nat)=>match j with | ⟨xs_1,a_01,o_9,cap_02,sp_04,n_05⟩=>Fav.k_4 xs_1 a_01=some r∧(xs_1.length=n_05)∧(hS o_9 n_05 cap_02 sp_04 4)∧(hO o_9 xs_1 cap_02)) (fun⟨xs_1,a_01,o_9,cap_02,sp_04,n_05⟩=> [(6,[],(.slice none 0 0)),(7,[],(vI 0)),(10,[],(.slice (mB o_9) n_05 cap_02))]) (fun⟨xs_1,a_01,o_9,cap_02,sp_04,n_05⟩=> [⟨some b_5,27,[(vH f0.fSteps),(.slice C_a f0.fHammers.length C_c)]⟩,⟨some b_1,33,[(vH c2.fAway),(vH c2.fOctave),(vH c2.fStep)]⟩,⟨o_9,104,row encGChoice xs_1 sp_04⟩,⟨(some b_7),40,row encU32 a_01.1 []⟩]) ?_ ?_)))))))))))))))))))))))
  ·refine jc_block ?_
   obtain⟨t_0a,ht_0k,hr_0l⟩:=bd h
   refine jl (fun(s:(List GChoice)×(Arr 96 Int)×Int) (x:(Option Nat)×Nat×(List Value)×Nat)=>match s,x with | ⟨xs_0,a_2,i_3⟩,⟨o_8,cap_00,sp_03,n_06⟩=>(xs_0.length=n_06)∧(hS o_8 n_06 cap_00 sp_03 4)∧(hO o_8 xs_0 cap_00)) (fun⟨xs_0,a_2,i_3⟩ ⟨o_8,cap_00,sp_03,n_06⟩=> [(3,[],(vP b_5)),(5,[],(vP b_1)),(6,[],(.slice none 0 0)),(7,[],(vI 0)),(9,[],(vP b_7)),(10,[],(.slice (mB o_8) n_06 cap_00)),(24,[],(.slice D_a t1.length D_c)),(25,[],(vI (t1.length:Int))),(26,[],(vI i_3))]) (fun⟨xs_0,a_2,i_3⟩ ⟨o_8,cap_00,sp_03,n_06⟩=> [⟨some b_5,27,[(vH f0.fSteps),(.slice C_a f0.fHammers.length C_c)]⟩,⟨some b_1,33,[(vH c2.fAway),(vH c2.fOctave),(vH c2.fStep)]⟩,⟨o_8,104,row encGChoice xs_0 sp_03⟩,⟨(some b_7),40,row encU32 a_2.1 []⟩]) ht_0k ⟨(some b_3),0,[],0⟩ ⟨rfl,(fun _=>⟨Nat.le_refl _,by simp⟩),(fun e=>nomatch e)⟩ [0,1,2,3] ?_
   rintro⟨xs_0,a_2,i_3⟩ ⟨o_8,cap_00,sp_03,n_06⟩ y_13 ⟨rfl,hs_0e,ho_0f⟩ h
   rw [Fav.l_8] at h
   refine jc_seq (jc_region (qh [0] (qe (jx_then (jc_seq (qi h (fun h=> ?_) (fun h=> ?_)))))))
   ·refine jc_skip (jx_then (jc_seq (jc_block (jc_seq (jc_region ?_)))))
    obtain⟨x_4,hx_0b,h⟩:=bd h
    refine tO (qx 0 D_a 2 hx_0b rfl (D_h.sp hx_0b) (jkO (tO (ql 0 true (fun w hm=>((hm.xr D_h).at hx_0b)) (jkO (tO (qa 0 (fun b_0c=>jkO (tO (qs 0 [4] (jkO (qe (jx_then (jc_seq (jc_region (qh [0,4] ?_))))))))))))))))
    obtain⟨t_08,ht_0m,h⟩:=bd h
    refine tO (pc 0 (fun w hm=>Fj.calls f0 x_4 w _ C_c (hm.xr C_h) rfl ht_0m) ?_)
    rintro w v w' hm ⟨o_0g,cap_14,sp_0n,_,rfl,hs_0o,ho_0p,rfl,hm'⟩
    refine aq hm hm' (jkO (qh [0] ?_))
    obtain⟨t_07,ht_0q,h⟩:=bd h
    refine tO (pc 0 (fun w hm=>Fn.calls t_08 f0 a_2 x_4 w _ C_c (hm.xr C_h) rfl o_0g rfl hs_0o ho_0p b_5 b_7 b_0c (hm.ps (N:= [⟨o_0g,104,row encGChoice t_08 sp_0n⟩,⟨some b_5,27,[(vH f0.fSteps),(.slice C_a f0.fHammers.length C_c)]⟩,⟨(some b_7),40,row encU32 a_2.1 []⟩,⟨some b_0c,101,[(vH x_4.fAt),(vB x_4.fPitch)]⟩]) [5,0,3,4]) (hm.xp C_h (fun _=>List.not_mem_nil) [5,0,3,4]) ht_0q) ?_)
    rintro w v w' hm ⟨o_0d,cap_0r,sp_0h,_,rfl,hs_15,ho_0i,rfl,hm'⟩
    refine⟨_,hm.appP (ps:= [(0,⟨some b_5,27,[(vH f0.fSteps),(.slice C_a f0.fHammers.length C_c)]⟩),(3,⟨(some b_7),40,row encU32 a_2.1 []⟩),(4,⟨some b_0c,101,[(vH x_4.fAt),(vB x_4.fPitch)]⟩)]) (ds:= [5]) (N:= [⟨o_0d,104,row encGChoice t_07 sp_0h⟩]) hm' [3,0,1,2] (by kernel_rfl) (by kernel_rfl) (by kernel_rfl),jkO ?_⟩
    clear hm hm'
    refine qh [0] (qe (jx_then (jc_seq (jc_region (qh [0,0] ?_)))))
    obtain⟨t_6,ht_0s,h⟩:=bd h
    refine tO (pc 0 (fun w hm=>Fs.calls t_07 c2 w _ cap_0r (hm.ow 6 o_0d 104 t_07 sp_0h (fun e=>(ho_0i e).1) encGChoice_len) rfl b_1 (hm.ps [1]) (hm.oa 6 o_0d (fun e=>(ho_0i e).1) [1]) ht_0s) ?_)
    rintro w v w' hm ⟨rfl,hm'⟩
    refine⟨_,hm.appW (ps:= [(1,⟨some b_1,33,[(vH c2.fAway),(vH c2.fOctave),(vH c2.fStep)]⟩)]) (N:= []) hm' (by kernel_rfl) (by kernel_rfl),jkO ?_⟩
    clear hm hm'
    refine tO (qa 0 (fun b_16=>jkO (tO (qs 0 [7] (jkO (qe (jx_then (jc_seq (jc_region (qh [4,7] ?_))))))))))
    obtain⟨t_09,ht_0t,h⟩:=bd h
    refine tO (pc 0 (fun w hm=>FaP.calls a_2 x_4 t_6 w _ b_7 (hm.ps [3]) ht_0t) ?_)
    rintro w v w' hm ⟨rfl,hm'⟩
    refine⟨_,hm.appW (ps:= [(3,⟨(some b_7),40,row encU32 t_09.1 []⟩)]) (N:= []) hm' (by kernel_rfl) (by kernel_rfl),jkO ?_⟩
    clear hm hm'
    refine qe (jx_then (jc_region (qh [0,7] (tO (qa 0 (fun b_0j=>jkO ?_))))))
    obtain⟨hg_0u,h⟩:=gd h
    exact tO (pA 0 2 o_8 104 xs_0.length 1 cap_00 4 4 (sB b_0j) encGChoice xs_0 ([t_6]:List GChoice) sp_03 (.agg #[(.bool false),(vB 0),(vB 0),(vB 0)]) rfl rfl encGChoice_len encGChoice_cell hs_0e ho_0f (fun w hm=>(hm.ow 8 (some b_0j) 104 ([t_6]:List GChoice) [] (fun e=>nomatch e) encGChoice_len)) hg_0u (fun o_0v cap_0w sp_0x hs_0y ho_0z=>jkO (qh [0] (qe (jx_inn (jx_then (jc_region (qh [0,0] (qe (qb ((xs_0++([t_6]:List GChoice)),t_09,(w64 (i_3+1))) ⟨o_0v,cap_0w,sp_0x,(xs_0++([t_6]:List GChoice)).length⟩ h ⟨rfl,hs_0y,ho_0z⟩ [0,1,2,3]))))))))))
   ·refine jc_exit (jx_thenx (jx_leave (xs_0,a_2) (sj h) (fun e_10=> ?_)))
    subst e_10
    exact jx_ine (qm ⟨xs_0,a_2,o_8,cap_00,sp_03,xs_0.length⟩ ⟨hr_0l,rfl,hs_0e,ho_0f⟩ [0,1,2,3])
  ·rintro⟨xs_1,a_01,o_9,cap_02,sp_04,n_05⟩ ⟨h,rfl,hs_11,ho_12⟩
   replace h:Fav.k_4 xs_1 a_01=some r:=h
   rw [Fav.k_4] at h
   refine jx_then (jc_seq (jc_region (qh [0,0,0] (qe (jx_then (jc_ret ?_))))))
   obtain rfl:=si h
   exact qr [] (fun w hm=>⟨o_9,cap_02,sp_04,xs_1.length,rfl,hs_11,ho_12,rfl,hm.pk [2]⟩)
def FI(n0:Int)(low1:Int)(high2:Int):Option (Bool):=some ((decide (n0≥low1))&&(decide (n0≤high2)))
theorem FI.calls(n0:Int)(low1:Int)(high2:Int)(w:World)(r:Bool)(h:FI n0 low1 high2=some r):
   Calls Tryz.prog 139 #[(vI n0),(vI low1),(vI high2)] w fun e w'=>∃v,e= .returned v∧(v=(.bool r)∧Mem w [] [] w'):=by
 rw [FI] at h
 refine en Tryz.func139 rfl Tryz.ntmps139 (jc_seq (jc_region (qh [0] (qe (jx_then (jc_seq (jc_region (qf [(0,0),(0,0),(0,0),(0,0),(0,1),(0,1),(0,1),(0,0),(0,0)] (qe (jx_then (jc_ret ?_)))))))))))
 obtain rfl:=si h
 exact qr [] (fun w hm=>⟨rfl,hm.pk []⟩)
def Fbq(a0:Int)(b1:Int):Option (Int):=(if(decide (a0<b1))=true then some a0 else some b1)
theorem Fbq.calls(a0:Int)(b1:Int)(w:World)(r:Int)(h:Fbq a0 b1=some r):
   Calls Tryz.prog 175 #[(vI a0),(vI b1)] w fun e w'=>∃v,e= .returned v∧(v=(vI r)∧Mem w [] [] w'):=by
 rw [Fbq] at h
 refine en Tryz.func175 rfl Tryz.ntmps175 (jc_seq (jc_region (qh [0] (qe (jx_then (jc_seq (jc_seq (jc_region (qh [0,0,0] (qe (jx_then (qi h (fun h=> ?_) (fun h=> ?_)))))))))))))
 ·refine jc_seq (jc_region (qh [0,0] (qe (jx_then (jc_ret (jx_thenr ?_))))))
  obtain rfl:=si h
  exact qr [] (fun w hm=>⟨rfl,hm.pk []⟩)
 ·refine jc_skip (jx_then (jc_seq (jc_region (qh [0,0] (qe (jx_then (jc_ret ?_)))))))
  obtain rfl:=si h
  exact qr [] (fun w hm=>⟨rfl,hm.pk []⟩)
def Fy.k_3:Option (Bool):=some true
def Fy.k_9(i_0:Int)(q_2:Bool):Option ((Int)⊕(Bool⊕Unit)):=(if q_2=true then some (.inr (.inl false)) else some (.inl (w64 (i_0+1))))
def Fy.l_5(f0:GFrame):Int→Option ((Int)⊕(Bool⊕Unit))
 | i_0=>(if(decide (i_0<(f0.fHammers.length:Int)))=true then(ix f0.fHammers i_0).bind fun x_1=>(FI (w64 x_1.fPitch) 0 47).bind fun t_4=>(if(!t_4)=true then Fy.k_9 i_0 true else(Fbq 20 (w64 f0.fSteps)).bind fun t_5=>(FI (w64 x_1.fReady) 1 t_5).bind fun t_6=>Fy.k_9 i_0 (!t_6)) else some (.inr (.inr ())))
def Fy.k_2(f0:GFrame)(q_3:Bool):Option (Bool):=(if q_3=true then some false else(loop (Fy.l_5 f0) 0).bind fun t_00=>match t_00 with | .inl p=>some p | .inr p=>Fy.k_3)
def Fy(f0:GFrame):Option (Bool):=(FI (w64 f0.fSteps) 2 96).bind fun t_01=>(if(!t_01)=true then Fy.k_2 f0 true else(FI (f0.fHammers.length:Int) 1 24).bind fun t_7=>Fy.k_2 f0 (!t_7))
theorem Fy.calls(f0:GFrame)(w:World)(r:Bool){C_a:Option Addr}{C_an:Nat}(C_c:Nat)(C_h:Rw w C_a 2 encGHammer f0.fHammers)(C_hn:f0.fHammers.length=C_an)(A_b:Nat)(hm0:Mem w (bs [some A_b]) [⟨some A_b,27,[(vH f0.fSteps),(.slice C_a C_an C_c)]⟩] w)(C_ha:f0.fHammers≠ []→aB C_a∉bs [some A_b])(h:Fy f0=some r):
   Calls Tryz.prog 135 #[(vP A_b)] w fun e w'=>∃v,e= .returned v∧(v=(.bool r)∧Mem w (bs [some A_b]) [⟨some A_b,27,[(vH f0.fSteps),(.slice C_a C_an C_c)]⟩] w'):=by
 subst C_hn
 rw [Fy] at h
 refine enter (args:= [(vP A_b)]) Tryz.func135 rfl Tryz.ntmps135 (by kernel_rfl) (L:= [⟨some A_b,27,[(vH f0.fSteps),(.slice C_a f0.fHammers.length C_c)]⟩]) (W:=bs [some A_b]) hm0 (jc_seq (jc_region (qh [0] (qe (jx_then (jc_seq (jc_seq (jc_meet (fun(q_3:Bool)=>Fy.k_2 f0 q_3=some r) (fun q_3=> [(0,[],(vP A_b)),(2,[],(.bool false)),(20,[],(.bool q_3))]) (fun q_3=> [⟨some A_b,27,[(vH f0.fSteps),(.slice C_a f0.fHammers.length C_c)]⟩]) ?_ ?_))))))))
 ·refine jc_region (qh [0,0,0,0,0] ?_)
  obtain⟨t_01,ht_05,h⟩:=bd h
  refine tO (pq 0 (fun w hm=>FI.calls (w64 f0.fSteps) 2 96 w _ ht_05) (jkO (qf [(0,0),(0,0),(0,1),(0,1),(0,1),(0,1),(0,1)] (qp 12 h (fun h=> ?_) (fun h=> ?_)))))
  ·exact qf [(0,3),(0,3),(0,4)] (qe (qm true h [0]))
  ·obtain⟨t_7,ht_06,h⟩:=bd h
   exact tO (pq 2 (fun w hm=>FI.calls (f0.fHammers.length:Int) 1 24 w _ ht_06) (jkO (qf [(0,2),(0,5)] (qe (qm (!t_7) h [0])))))
 ·rintro q_3 h
  replace h:Fy.k_2 f0 q_3=some r:=h
  rw [Fy.k_2] at h
  refine jx_then (qi h (fun h=> ?_) (fun h=> ?_))
  ·refine jc_seq (jc_region (qh [0] (qe (jx_then (jc_ret (jx_thenr ?_))))))
   obtain rfl:=si h
   exact qr [] (fun w hm=>⟨rfl,hm.pk [0]⟩)
  ·refine jc_skip (jx_then (jc_seq (jc_seq (jc_region (qh [0] (qe (jx_then (jc_meet (fun(_:Unit)=>Fy.k_3=some r) (fun(_:Unit)=> [(2,[],(.bool false))]) (fun(_:Unit)=> [⟨some A_b,27,[(vH f0.fSteps),(.slice C_a f0.fHammers.length C_c)]⟩]) ?_ ?_))))))))
   ·refine jc_block ?_
    obtain⟨t_00,ht_07,hr_02⟩:=bd h
    refine jl (fun(i_0:Int) (_:Unit)=>True) (fun i_0 _=> [(0,[],(vP A_b)),(2,[],(.bool false)),(3,[],(vI i_0))]) (fun i_0 _=> [⟨some A_b,27,[(vH f0.fSteps),(.slice C_a f0.fHammers.length C_c)]⟩]) ht_07 () trivial [0] ?_
    rintro i_0 _ y_03 _ h
    rw [Fy.l_5] at h
    refine jc_seq (jc_seq (jc_region (qh [0,0,0,0,0,0,0] (qe (jx_then (qi h (fun h=> ?_) (fun h=> ?_)))))))
    ·refine jc_skip (jx_then (jc_seq (jc_block (jc_seq (jc_region (qh [0,0,0,0,0] ?_))))))
     obtain⟨x_1,hx_8,h⟩:=bd h
     refine tO (qx 0 C_a 2 hx_8 rfl (C_h.sp hx_8) (jkO (tO (ql 0 true (fun w hm=>((hm.exRowW C_h C_ha).at hx_8)) (jkO (tO (qa 0 (fun b_04=>jkO (tO (qs 0 [1] (jkO (qe (jx_then (jc_seq (jc_meet (fun(q_2:Bool)=>Fy.k_9 i_0 q_2=some y_03) (fun q_2=> [(0,[],(vP A_b)),(2,[],(.bool false)),(3,[],(vI i_0)),(54,[],(.bool q_2))]) (fun q_2=> [⟨some A_b,27,[(vH f0.fSteps),(.slice C_a f0.fHammers.length C_c)]⟩,⟨some b_04,132,[(vB x_1.fPitch),(vB x_1.fReady)]⟩]) ?_ ?_)))))))))))))))
     ·refine qg [⟨some A_b,27,[(vH f0.fSteps),(.slice C_a f0.fHammers.length C_c)]⟩,⟨some b_04,132,[(vB x_1.fPitch),(vB x_1.fReady)]⟩] 18 (qd [⟨0,0,0⟩,⟨1,1,0⟩,⟨2,0,0⟩] 15 [0,1] ?_)
      obtain⟨t_4,ht_08,h⟩:=bd h
      refine tD 3 (pq 0 (fun w hm=>FI.calls (w64 x_1.fPitch) 0 47 w _ ht_08) (kD [0,1] (qd [⟨4,0,0⟩,⟨5,0,0⟩,⟨6,0,1⟩,⟨7,1,1⟩,⟨8,0,1⟩,⟨9,0,1⟩,⟨10,0,1⟩,⟨11,0,1⟩,⟨12,0,1⟩,⟨13,0,1⟩] 4 [0,1] (js 42 (!t_4) (fun hc_9=> ?_) (fun hc_9=> ?_)))))
      ·replace h:=ifT hc_9 h
       exact qd [⟨14,0,3⟩,⟨15,0,3⟩,⟨16,0,3⟩,⟨17,0,4⟩] 0 [0,1] (qz (qm true h [0,1]))
      ·replace h:=ifF hc_9 h
       obtain⟨t_5,ht_09,h⟩:=bd h
       refine tD 14 (pq 2 (fun w hm=>Fbq.calls 20 (w64 f0.fSteps) w _ ht_09) (kD [0,1] ?_))
       obtain⟨t_6,ht_0a,h⟩:=bd h
       exact tD 15 (pq 2 (fun w hm=>FI.calls (w64 x_1.fReady) 1 t_5 w _ ht_0a) (kD [0,1] (qd [⟨16,0,2⟩,⟨17,0,5⟩] 0 [0,1] (qz (qm (!t_6) h [0,1])))))
     ·rintro q_2 h
      replace h:Fy.k_9 i_0 q_2=some y_03:=h
      rw [Fy.k_9] at h
      refine jx_then (qi h (fun h=> ?_) (fun h=> ?_))
      ·refine jc_seq (jc_region (qh [0] (qe (jx_then (jc_ret (jx_inr (jx_thenr (jx_leaver (.inl false) (sj h) (fun e_0b=> ?_)))))))))
       subst e_0b
       refine jx_inr (jx_thenr (jx_thenr ?_))
       obtain rfl:=si hr_02
       exact qr [] (fun w hm=>⟨rfl,hm.pk [0]⟩)
      ·exact jc_skip (jx_inn (jx_then (jc_region (qh [0,0,0] (qe (qb (w64 (i_0+1)) () h trivial [0]))))))
    ·refine jc_exit (jx_thenx (jx_leave (.inr ()) (sj h) (fun e_0c=> ?_)))
     subst e_0c
     exact jx_ine (qm () hr_02 [0])
   ·rintro _ h
    replace h:Fy.k_3=some r:=h
    rw [Fy.k_3] at h
    refine jx_then (jc_seq (jc_region (qh [0] (qe (jx_then (jc_ret ?_))))))
    obtain rfl:=si h
    exact qr [] (fun w hm=>⟨rfl,hm.pk [0]⟩)
def Fbs(n0:GNote):Option (Bool):=(FI (w64 n0.fAt) 0 199).bind fun t_1=>(if t_1=true then(FI (w64 n0.fPitch) 0 47).bind fun t_0=>some t_0 else some false)
theorem Fbs.calls(n0:GNote)(w:World)(r:Bool)(h:Fbs n0=some r):
   Calls Tryz.prog 195 #[(.agg #[(vH n0.fAt),(vB n0.fPitch)])] w fun e w'=>∃v,e= .returned v∧(v=(.bool r)∧Mem w [] [] w'):=by
 rw [Fbs] at h
 refine en Tryz.func195 rfl Tryz.ntmps195 (jc_seq (jc_region (tO (qa 0 (fun b_1=>jkO (qh [0] (qe (jx_then (jc_seq (jc_region (qh [0,0,0] ?_)))))))))))
 obtain⟨t_1,ht_0,h⟩:=bd h
 refine tO (pq 0 (fun w hm=>FI.calls (w64 n0.fAt) 0 199 w _ ht_0) (jkO (qf [(0,0),(0,1),(0,1),(0,1)] (qp 7 h (fun h=> ?_) (fun h=> ?_)))))
 ·obtain⟨t_0,ht_2,h⟩:=bd h
  refine tO (pq 2 (fun w hm=>FI.calls (w64 n0.fPitch) 0 47 w _ ht_2) (jkO (qf [(0,4),(0,0)] (qe (jx_then (jc_ret ?_))))))
  obtain rfl:=si h
  exact qr [] (fun w hm=>⟨rfl,hm.pk []⟩)
 ·refine qf [(0,3),(0,5),(0,0)] (qe (jx_then (jc_ret ?_)))
  obtain rfl:=si h
  exact qr [] (fun w hm=>⟨rfl,hm.pk []⟩)
def Fab.k_1(t0:List GNote):Option (Bool):=some (decide ((t0.length:Int)≤120))
def Fab.k_6(i_0:Int)(q_1:Bool):Option ((Int)⊕(Bool⊕Unit)):=(if q_1=true then some (.inr (.inl false)) else some (.inl (w64 (i_0+1))))
def Fab.l_3(t0:List GNote):Int→Option ((Int)⊕(Bool⊕Unit))
 | i_0=>(if(decide (i_0<(t0.length:Int)))=true then(ix t0 i_0).bind fun x_2=>(Fbs x_2).bind fun t_3=>(if(!t_3)=true then Fab.k_6 i_0 true else(if(decide (i_0>0))=true then(ix t0 (w64 (i_0-1))).bind fun x_4=>(ix t0 i_0).bind fun x_5=>(FaZ x_4 x_5).bind fun t_6=>Fab.k_6 i_0 (!t_6) else Fab.k_6 i_0 false)) else some (.inr (.inr ())))
def Fab(t0:List GNote):Option (Bool):=(loop (Fab.l_3 t0) 0).bind fun t_02=>match t_02 with | .inl p=>some p | .inr p=>Fab.k_1 t0
theorem Fab.calls(t0:List GNote)(w:World)(r:Bool){A_a:Option Addr}{A_an:Nat}(A_c:Nat)(A_h:Rw w A_a 2 encGNote t0)(A_hn:t0.length=A_an)(h:Fab t0=some r):
   Calls Tryz.prog 136 #[(.slice A_a A_an A_c)] w fun e w'=>∃v,e= .returned v∧(v=(.bool r)∧Mem w [] [] w'):=by
 subst A_hn
 rw [Fab] at h
 refine en Tryz.func136 rfl Tryz.ntmps136 (jc_seq (jc_region (qh [0] (qe (jx_then (jc_seq (jc_seq (jc_region (qh [0] (qe (jx_then (jc_meet (fun(_:Unit)=>Fab.k_1 t0=some r) (fun(_:Unit)=> [(0,[],(.slice A_a t0.length A_c)),(2,[],(.bool false))]) (fun(_:Unit)=> []) ?_ ?_))))))))))))
 ·refine jc_block ?_
  obtain⟨t_02,ht_05,hr_03⟩:=bd h
  refine jl (fun(i_0:Int) (_:Unit)=>True) (fun i_0 _=> [(0,[],(.slice A_a t0.length A_c)),(2,[],(.bool false)),(3,[],(vI i_0))]) (fun i_0 _=> []) ht_05 () trivial [] ?_
  rintro i_0 _ y_04 _ h
  rw [Fab.l_3] at h
  refine jc_seq (jc_seq (jc_region (qh [0,0,0,0] (qe (jx_then (qi h (fun h=> ?_) (fun h=> ?_)))))))
  ·refine jc_skip (jx_then (jc_seq (jc_block (jc_seq (jc_meet (fun(q_1:Bool)=>Fab.k_6 i_0 q_1=some y_04) (fun q_1=> [(0,[],(.slice A_a t0.length A_c)),(2,[],(.bool false)),(3,[],(vI i_0)),(32,[],(.bool q_1))]) (fun q_1=> []) ?_ ?_)))))
   ·refine qg [] 23 (qd [⟨0,0,0⟩,⟨1,0,0⟩] 21 [] ?_)
    obtain⟨x_2,hx_7,h⟩:=bd h
    refine qX 2 0 [] A_a 2 hx_7 rfl (A_h.sp hx_7) (qL 3 0 [] true (fun w hm=>(hm.xr A_h).at hx_7) ?_)
    obtain⟨t_3,ht_06,h⟩:=bd h
    refine tD 4 (pq 0 (fun w hm=>Fbs.calls x_2 w _ ht_06) (kD [] (qd [⟨5,0,0⟩,⟨6,0,0⟩,⟨7,0,1⟩,⟨8,0,1⟩] 14 [] (js 16 (!t_3) (fun hc_8=> ?_) (fun hc_8=> ?_)))))
    ·replace h:=ifT hc_8 h
     exact qd [⟨9,0,3⟩,⟨10,0,3⟩,⟨11,0,3⟩,⟨12,0,3⟩,⟨13,0,3⟩,⟨14,0,3⟩,⟨15,0,3⟩,⟨16,0,3⟩,⟨17,0,3⟩,⟨18,0,3⟩,⟨19,0,3⟩,⟨20,0,3⟩,⟨21,0,3⟩,⟨22,0,4⟩] 0 [] (qz (qm true h []))
    ·replace h:=ifF hc_8 h
     refine qd [⟨9,0,2⟩,⟨10,0,1⟩,⟨11,0,1⟩,⟨12,0,1⟩,⟨15,0,1⟩,⟨16,0,1⟩] 8 [] (js 19 (decide (i_0>0)) (fun hc_9=> ?_) (fun hc_9=> ?_))
     ·replace h:=ifT hc_9 h
      obtain⟨x_4,hx_00,h⟩:=bd h
      refine qX 13 2 [] A_a 2 hx_00 rfl (A_h.sp hx_00) (qL 14 2 [] true (fun w hm=>(hm.xr A_h).at hx_00) ?_)
      obtain⟨x_5,hx_01,h⟩:=bd h
      refine qX 17 2 [] A_a 2 hx_01 rfl (A_h.sp hx_01) (qL 18 2 [] true (fun w hm=>(hm.xr A_h).at hx_01) ?_)
      obtain⟨t_6,ht_07,h⟩:=bd h
      exact tD 19 (pq 2 (fun w hm=>FaZ.calls x_4 x_5 w _ ht_07) (kD [] (qd [⟨20,0,2⟩,⟨21,0,4⟩,⟨22,0,5⟩] 0 [] (qz (qm (!t_6) h [])))))
     ·replace h:=ifF hc_9 h
      exact qd [⟨13,0,3⟩,⟨14,0,3⟩,⟨17,0,3⟩,⟨18,0,3⟩,⟨19,0,3⟩,⟨20,0,3⟩,⟨21,0,5⟩,⟨22,0,5⟩] 0 [] (qz (qm false h []))
   ·rintro q_1 h
    replace h:Fab.k_6 i_0 q_1=some y_04:=h
    rw [Fab.k_6] at h
    refine jx_then (qi h (fun h=> ?_) (fun h=> ?_))
    ·refine jc_seq (jc_region (qh [0] (qe (jx_then (jc_ret (jx_inr (jx_thenr (jx_leaver (.inl false) (sj h) (fun e_08=> ?_)))))))))
     subst e_08
     refine jx_inr (jx_thenr (jx_thenr ?_))
     obtain rfl:=si hr_03
     exact qr [] (fun w hm=>⟨rfl,hm.pk []⟩)
    ·exact jc_skip (jx_inn (jx_then (jc_region (qh [0,0,0] (qe (qb (w64 (i_0+1)) () h trivial []))))))
  ·refine jc_exit (jx_thenx (jx_leave (.inr ()) (sj h) (fun e_09=> ?_)))
   subst e_09
   exact jx_ine (qm () hr_03 [])
 ·rintro _ h
  replace h:Fab.k_1 t0=some r:=h
  rw [Fab.k_1] at h
  refine jx_then (jc_seq (jc_region (qh [0,0,0,0] (qe (jx_then (jc_ret ?_))))))
  obtain rfl:=si h
  exact qr [] (fun w hm=>⟨rfl,hm.pk []⟩)
def Fbz(c0:GCosts):Option (Bool):=(FI (w64 c0.fAway) 0 1000).bind fun t_1=>(if t_1=true then(FI (w64 c0.fOctave) 0 1000).bind fun t_0=>(if t_0=true then(FI (w64 c0.fStep) 0 1000).bind fun t_2=>some t_2 else some false) else some false)
theorem Fbz.calls(c0:GCosts)(w:World)(r:Bool)(h:Fbz c0=some r):
   Calls Tryz.prog 137 #[(.agg #[(vH c0.fAway),(vH c0.fOctave),(vH c0.fStep)])] w fun e w'=>∃v,e= .returned v∧(v=(.bool r)∧Mem w [] [] w'):=by
 rw [Fbz] at h
 refine en Tryz.func137 rfl Tryz.ntmps137 (jc_seq (jc_region (tO (qa 0 (fun b_1=>jkO (qh [0] (qe (jx_then (jc_seq (jc_region (qh [0,0,0] ?_)))))))))))
 obtain⟨t_1,ht_0,h⟩:=bd h
 refine tO (pq 0 (fun w hm=>FI.calls (w64 c0.fAway) 0 1000 w _ ht_0) (jkO (qf [(0,0),(0,1),(0,1),(0,1)] (qp 7 h (fun h=> ?_) (fun h=> ?_)))))
 ·obtain⟨t_0,ht_3,h⟩:=bd h
  refine tO (pq 2 (fun w hm=>FI.calls (w64 c0.fOctave) 0 1000 w _ ht_3) (jkO (qf [(0,4),(0,0),(0,1),(0,1),(0,1)] (qp 13 h (fun h=> ?_) (fun h=> ?_)))))
  ·obtain⟨t_2,ht_4,h⟩:=bd h
   refine tO (pq 2 (fun w hm=>FI.calls (w64 c0.fStep) 0 1000 w _ ht_4) (jkO (qf [(0,4),(0,0)] (qe (jx_then (jc_ret ?_))))))
   obtain rfl:=si h
   exact qr [] (fun w hm=>⟨rfl,hm.pk []⟩)
  ·refine qf [(0,3),(0,5),(0,0)] (qe (jx_then (jc_ret ?_)))
   obtain rfl:=si h
   exact qr [] (fun w hm=>⟨rfl,hm.pk []⟩)
 ·refine qf [(0,3),(0,5),(0,0),(0,3),(0,3),(0,3),(0,3),(0,5),(0,0)] (qe (jx_then (jc_ret ?_)))
  obtain rfl:=si h
  exact qr [] (fun w hm=>⟨rfl,hm.pk []⟩)
end
end Go.Proofs.YtolfkfjjifdmeaaGreat
