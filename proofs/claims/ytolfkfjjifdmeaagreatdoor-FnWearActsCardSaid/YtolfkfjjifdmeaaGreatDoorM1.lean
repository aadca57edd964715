/- Functions of the program that the laws reach: a plain function each, and that the call comes to its answer if the plain function has one. Printed by a program. -/
import Derived.Test.YtolfkfjjifdmeaaGreatDoorT
import Derived.Test.YtolfkfjjifdmeaaGreatDoorSort
import Derived.Test.YtolfkfjjifdmeaaGreatDoorM0
namespace Go.Proofs.YtolfkfjjifdmeaaGreatDoor
open Eng
set_option linter.unusedVariables false

set_option linter.unusedSectionVars false
set_option maxRecDepth 100000
variable [dsW : DrwS]
noncomputable section
/-! ### (*impl.Drum).has -/
def impl_Drum_has (d0 : Arr 96 Int) (step1 : Int) (track2 : Int) : Option (Bool) := (ix d0.1 step1).bind fun x_1 => (if 0 ≤ track2 then some ((bAnd .u32 (bShr .u32 x_1 track2) 1) == 1) else none)
theorem impl_Drum_has.calls (d0 : Arr 96 Int) (step1 : Int) (track2 : Int) (w : World) (r : Bool) (A_b : Nat) (hm0 : Mem w (bs [some A_b]) [⟨(some A_b), 34, row encU32 d0.1 []⟩] w) (h : impl_Drum_has d0 step1 track2 = some r) :
    Calls Tryz.prog 65 #[(.pointer (some ⟨A_b, 0, none⟩)), (.int .i64 step1), (.int .i64 track2)] w fun e w' => ∃ v, e = .returned v ∧ (v = (.bool r) ∧ Mem w (bs [some A_b]) [⟨(some A_b), 34, row encU32 d0.1 []⟩] w') := by
  rw [impl_Drum_has] at h
  refine enter (args := [(.pointer (some ⟨A_b, 0, none⟩)), (.int .i64 step1), (.int .i64 track2)]) Tryz.func65 rfl Tryz.ntmps65 (by kernel_rfl) (L := [⟨(some A_b), 34, row encU32 d0.1 []⟩]) (W := bs [some A_b]) hm0 ?_
  refine jc_seq (jc_region (qh [0] (qe (jx_then (jc_seq (jc_region (qh [0,0,0] ?_)))))))
  obtain ⟨x_1, hx_1, h⟩ := bd h
  refine tO (qx 0 (some ⟨A_b, 0, none⟩) 1 hx_1 d0.2 rfl (jkO (tO (ql 0 false (fun w hm => ((hm.ow 0 (some A_b) 34 d0.1 [] (fun e => nomatch e) encU32_len).at hx_1)) (jkO (qh [0] ?_))))))
  obtain ⟨hg_2, h⟩ := gd h
  refine tO (p_shr 0 .u32 x_1 .i64 track2 (by kernel_rfl) (by kernel_rfl) hg_2 (jkO (qh [0,0,0] (qe (jx_then (jc_ret ?_))))))
  obtain rfl := Option.some.inj h
  exact qr [] (fun w hm => ⟨rfl, hm.pk [0]⟩)
/-! ### (impl.Frame).byTrack$1 -/
def impl_Frame_byTrack_1 (p_0 : Int) (track1 : Int) (p2 : List Int) : Option ((List Int)) := (ix p2 track1).bind fun x_1 => (ix p2 track1).bind fun x_2 => some (p2.set track1.toNat (w64 (x_1 + 1)))
theorem impl_Frame_byTrack_1.calls (p_0 : Int) (track1 : Int) (p2 : List Int) (w : World) (r : (List Int)) (C_b : Nat) (C_o : Option Nat) {C_on : Nat} {C_c : Nat} {C_sp : List Value} (C_hn : p2.length = C_on) (C_hs : C_o ≠ none → C_on ≤ C_c ∧ C_sp.length = (C_c - C_on) * 1) (C_ho : C_o = none → p2 = [] ∧ C_c = 0) (hm0 : Mem w (bs [some C_b, C_o]) [⟨some C_b, 48, [(.slice (C_o.map fun b => ⟨b, 0, none⟩) C_on C_c)]⟩, ⟨C_o, 2, row encI64 p2 C_sp⟩] w) (h : impl_Frame_byTrack_1 p_0 track1 p2 = some r) :
    Calls Tryz.prog 146 #[(.int .i64 p_0), (.int .i64 track1), (.pointer (some ⟨C_b, 0, none⟩))] w fun e w' => ∃ v, e = .returned v ∧ (r.length = C_on ∧ (C_o = none → r = [] ∧ C_c = 0) ∧ v = .tuple #[] ∧ Mem w (bs [some C_b, C_o]) [⟨some C_b, 48, [(.slice (C_o.map fun b => ⟨b, 0, none⟩) C_on C_c)]⟩, ⟨C_o, 2, row encI64 r C_sp⟩] w') := by
  subst C_hn
  rw [impl_Frame_byTrack_1] at h
  refine enter (args := [(.int .i64 p_0), (.int .i64 track1), (.pointer (some ⟨C_b, 0, none⟩))]) Tryz.func146 rfl Tryz.ntmps146 (by kernel_rfl) (L := [⟨some C_b, 48, [(.slice (C_o.map fun b => ⟨b, 0, none⟩) p2.length C_c)]⟩, ⟨C_o, 2, row encI64 p2 C_sp⟩]) (W := bs [some C_b, C_o]) hm0 ?_
  refine jc_region (qh [0,0] ?_)
  obtain ⟨x_1, hx_1, h⟩ := bd h
  refine tO (qx 0 (C_o.map fun b => ⟨b, 0, none⟩) 1 hx_1 rfl (spo C_ho hx_1) (jkO (tO (ql 0 false (fun w hm => ((hm.ow 1 C_o 2 p2 C_sp (fun e => (C_ho e).1) encI64_len).at hx_1)) (jkO (qh [0] ?_))))))
  obtain ⟨x_2, hx_2, h⟩ := bd h
  refine tO (qx 0 (C_o.map fun b => ⟨b, 0, none⟩) 1 hx_2 rfl (spo C_ho hx_2) (jkO (tO (p_strO 0 1 C_o 2 encI64 p2 C_sp track1 (w64 (x_1 + 1)) 1 0 [(.int .i64 (w64 (x_1 + 1)))] (by kernel_rfl) (by kernel_rfl) (by kernel_rfl) (fun e => (C_ho e).1) encI64_len hx_2 (by kernel_rfl) (by kernel_rfl) (jkO (qe (jx_fall ?_)))))))
  obtain rfl := Option.some.inj h
  exact qr [] (fun w hm => ⟨(List.length_set.trans rfl), (set_ho C_ho), rfl, hm.pk [0, 1]⟩)
/-! ### (impl.Frame).pins -/
def impl_Frame_pins_at_impl_Frame_byTrack_1.k_2 (xs_1 : List Int) : Option ((List Int)) := some xs_1
def impl_Frame_pins_at_impl_Frame_byTrack_1.k_9 (i_4 : Int) (xs_8 : List Int) : Option (((List Int) × Int) ⊕ ((List Int))) := some (.inl (xs_8, (w64 (i_4 + 1))))
def impl_Frame_pins_at_impl_Frame_byTrack_1.l_12 (d1 : Arr 96 Int) (i_4 : Int) (t_7 : Int) : ((List Int) × Int) → Option (((List Int) × Int) ⊕ ((List Int)))
  | (xs_10, i_11) => (if (decide (i_11 < t_7)) = true then (impl_Drum_has d1 i_4 i_11).bind fun t_14 => (if t_14 = true then (impl_Frame_byTrack_1 i_4 i_11 xs_10).bind fun t_15 => some (.inl (t_15, (w64 (i_11 + 1)))) else some (.inl (xs_10, (w64 (i_11 + 1))))) else some (.inr xs_10))
def impl_Frame_pins_at_impl_Frame_byTrack_1.l_5 (f0 : GFrame) (d1 : Arr 96 Int) : ((List Int) × Int) → Option (((List Int) × Int) ⊕ ((List Int)))
  | (xs_3, i_4) => (if (decide (i_4 < (w64 f0.fSteps))) = true then (impl_size_Hammer f0.fHammers).bind fun t_7 => (loop (impl_Frame_pins_at_impl_Frame_byTrack_1.l_12 d1 i_4 t_7) (xs_3, 0)).bind fun t_13 => impl_Frame_pins_at_impl_Frame_byTrack_1.k_9 i_4 t_13 else some (.inr xs_3))
def impl_Frame_pins_at_impl_Frame_byTrack_1 (f0 : GFrame) (d1 : Arr 96 Int) (g2c0 : List Int) : Option ((List Int)) := (loop (impl_Frame_pins_at_impl_Frame_byTrack_1.l_5 f0 d1) (g2c0, 0)).bind fun t_6 => impl_Frame_pins_at_impl_Frame_byTrack_1.k_2 t_6
theorem impl_Frame_pins_at_impl_Frame_byTrack_1.calls (f0 : GFrame) (d1 : Arr 96 Int) (g2c0 : List Int) (w : World) (r : (List Int)) {C_a : Option Addr} {C_an : Nat} (C_c : Nat) (C_h : Rw w C_a 2 encGHammer f0.fHammers) (C_hn : f0.fHammers.length = C_an) (E_b : Nat) (E_o : Option Nat) {E_on : Nat} {E_c : Nat} {E_sp : List Value} (E_hn : g2c0.length = E_on) (E_hs : E_o ≠ none → E_on ≤ E_c ∧ E_sp.length = (E_c - E_on) * 1) (E_ho : E_o = none → g2c0 = [] ∧ E_c = 0) (hm0 : Mem w (bs [some E_b, E_o]) [⟨some E_b, 48, [(.slice (E_o.map fun b => ⟨b, 0, none⟩) E_on E_c)]⟩, ⟨E_o, 2, row encI64 g2c0 E_sp⟩] w) (C_ha : f0.fHammers ≠ [] → aB C_a ∉ bs [some E_b, E_o]) (h : impl_Frame_pins_at_impl_Frame_byTrack_1 f0 d1 g2c0 = some r) :
    Calls Tryz.prog 141 #[(.agg #[(.int .i16 f0.fSteps), (.slice C_a C_an C_c)]), (.agg (row encU32 d1.1 []).toArray), (.func (.func 146) #[] #[(.pointer (some ⟨E_b, 0, none⟩))])] w fun e w' => ∃ v, e = .returned v ∧ (r.length = E_on ∧ (E_o = none → r = [] ∧ E_c = 0) ∧ v = .tuple #[] ∧ Mem w (bs [some E_b, E_o]) [⟨some E_b, 48, [(.slice (E_o.map fun b => ⟨b, 0, none⟩) E_on E_c)]⟩, ⟨E_o, 2, row encI64 r E_sp⟩] w') := by
  subst C_hn E_hn
  rw [impl_Frame_pins_at_impl_Frame_byTrack_1] at h
  refine enter (args := [(.agg #[(.int .i16 f0.fSteps), (.slice C_a f0.fHammers.length C_c)]), (.agg (row encU32 d1.1 []).toArray), (.func (.func 146) #[] #[(.pointer (some ⟨E_b, 0, none⟩))])]) Tryz.func141 rfl Tryz.ntmps141 (by kernel_rfl) (L := [⟨some E_b, 48, [(.slice (E_o.map fun b => ⟨b, 0, none⟩) g2c0.length E_c)]⟩, ⟨E_o, 2, row encI64 g2c0 E_sp⟩]) (W := bs [some E_b, E_o]) hm0 ?_
  refine jc_seq (jc_region (tO (qa 0 (fun b_1 => jkO (tO (qa 0 (fun b_2 => jkO (qe (jx_then (jc_seq (jc_region (qh [0,2,0,0] (qe (jx_then (jc_meet (fun (j : (List Int)) => match j with | xs_1 => impl_Frame_pins_at_impl_Frame_byTrack_1.k_2 xs_1 = some r ∧ (xs_1.length = g2c0.length) ∧ ((E_o = none → xs_1 = [] ∧ E_c = 0))) (fun (j : (List Int)) => match j with | xs_1 => []) (fun (j : (List Int)) => match j with | xs_1 => [⟨some E_b, 48, [(.slice (E_o.map fun b => ⟨b, 0, none⟩) g2c0.length E_c)]⟩, ⟨E_o, 2, row encI64 xs_1 E_sp⟩, ⟨some b_1, 27, [(.int .i16 f0.fSteps), (.slice C_a f0.fHammers.length C_c)]⟩, ⟨(some b_2), 34, row encU32 d1.1 []⟩]) ?_ ?_)))))))))))))))
  ·refine jc_block ?_
   obtain ⟨t_6, ht_398, hr_332⟩ := bd h
   refine jc_loop (fun (s : (List Int) × Int) (x : Unit) => match s, x with | ⟨xs_3, i_4⟩, _ => (xs_3.length = g2c0.length) ∧ ((E_o = none → xs_3 = [] ∧ E_c = 0))) (fun (s : (List Int) × Int) (x : Unit) => match s, x with | ⟨xs_3, i_4⟩, _ => [(2, [], (.func (.func 146) #[] #[(.pointer (some ⟨E_b, 0, none⟩))])), (3, [], (.pointer (some ⟨b_1, 0, none⟩))), (4, [], (.pointer (some ⟨b_2, 0, none⟩))), (10, [], (.int .i64 (w64 f0.fSteps))), (11, [], (.int .i64 i_4))]) (fun (s : (List Int) × Int) (x : Unit) => match s, x with | ⟨xs_3, i_4⟩, _ => [⟨some E_b, 48, [(.slice (E_o.map fun b => ⟨b, 0, none⟩) g2c0.length E_c)]⟩, ⟨E_o, 2, row encI64 xs_3 E_sp⟩, ⟨some b_1, 27, [(.int .i16 f0.fSteps), (.slice C_a f0.fHammers.length C_c)]⟩, ⟨(some b_2), 34, row encU32 d1.1 []⟩]) ht_398 () ⟨rfl, E_ho⟩ (by kernel_rfl) [0, 1, 2, 3] (by kernel_rfl) (by kernel_rfl) ?_
   rintro ⟨xs_3, i_4⟩ _ y_333 ⟨hn_331, ho_330⟩ h
   rw [impl_Frame_pins_at_impl_Frame_byTrack_1.l_5] at h
   refine jc_seq (jc_region (qh [0] (qe (jx_then (jc_seq (qi h (fun h => ?_) (fun h => ?_)))))))
   ·refine jc_skip (jx_then (jc_seq (jc_block (jc_seq (jc_region (qh [0,0] (qe (jx_then (jc_seq (jc_region (qh [0,2] ?_)))))))))))
    obtain ⟨t_7, ht_336, h⟩ := bd h
    refine tO (pc 0 (fun w hm => impl_size_Hammer.calls f0.fHammers w _ C_c (hm.exRowW C_h C_ha) rfl ht_336) ?_)
    rintro w v w' hm ⟨rfl, hm'⟩
    refine ⟨_, hm.app hm', jkO ?_⟩
    clear hm hm'
    refine qh [0] (qe (jx_then (jc_meet (fun (j : (List Int)) => match j with | xs_8 => impl_Frame_pins_at_impl_Frame_byTrack_1.k_9 i_4 xs_8 = some y_333 ∧ (xs_8.length = g2c0.length) ∧ ((E_o = none → xs_8 = [] ∧ E_c = 0))) (fun (j : (List Int)) => match j with | xs_8 => [(2, [], (.func (.func 146) #[] #[(.pointer (some ⟨E_b, 0, none⟩))])), (3, [], (.pointer (some ⟨b_1, 0, none⟩))), (4, [], (.pointer (some ⟨b_2, 0, none⟩))), (10, [], (.int .i64 (w64 f0.fSteps))), (11, [], (.int .i64 i_4))]) (fun (j : (List Int)) => match j with | xs_8 => [⟨some E_b, 48, [(.slice (E_o.map fun b => ⟨b, 0, none⟩) g2c0.length E_c)]⟩, ⟨E_o, 2, row encI64 xs_8 E_sp⟩, ⟨some b_1, 27, [(.int .i16 f0.fSteps), (.slice C_a f0.fHammers.length C_c)]⟩, ⟨(some b_2), 34, row encU32 d1.1 []⟩]) ?_ ?_)))
    ·refine jc_block ?_
     obtain ⟨t_13, ht_396, hr_386⟩ := bd h
     refine jc_loop (fun (s : (List Int) × Int) (x : Unit) => match s, x with | ⟨xs_10, i_11⟩, _ => (xs_10.length = g2c0.length) ∧ ((E_o = none → xs_10 = [] ∧ E_c = 0))) (fun (s : (List Int) × Int) (x : Unit) => match s, x with | ⟨xs_10, i_11⟩, _ => [(2, [], (.func (.func 146) #[] #[(.pointer (some ⟨E_b, 0, none⟩))])), (3, [], (.pointer (some ⟨b_1, 0, none⟩))), (4, [], (.pointer (some ⟨b_2, 0, none⟩))), (6, [], (.int .i64 i_4)), (10, [], (.int .i64 (w64 f0.fSteps))), (11, [], (.int .i64 i_4)), (16, [], (.int .i64 t_7)), (17, [], (.int .i64 i_11))]) (fun (s : (List Int) × Int) (x : Unit) => match s, x with | ⟨xs_10, i_11⟩, _ => [⟨some E_b, 48, [(.slice (E_o.map fun b => ⟨b, 0, none⟩) g2c0.length E_c)]⟩, ⟨E_o, 2, row encI64 xs_10 E_sp⟩, ⟨some b_1, 27, [(.int .i16 f0.fSteps), (.slice C_a f0.fHammers.length C_c)]⟩, ⟨(some b_2), 34, row encU32 d1.1 []⟩]) ht_396 () ⟨hn_331, ho_330⟩ (by kernel_rfl) [0, 1, 2, 3] (by kernel_rfl) (by kernel_rfl) ?_
     rintro ⟨xs_10, i_11⟩ _ y_387 ⟨hn_385, ho_384⟩ h
     rw [impl_Frame_pins_at_impl_Frame_byTrack_1.l_12] at h
     refine jc_seq (jc_region (qh [0] (qe (jx_then (jc_seq (qi h (fun h => ?_) (fun h => ?_)))))))
     ·refine jc_skip (jx_then (jc_seq (jc_block (jc_seq (jc_region (qh [0,0] (qe (jx_then (jc_seq (jc_region (qh [0,0] ?_)))))))))))
      obtain ⟨t_14, ht_390, h⟩ := bd h
      refine tO (pc 0 (fun w hm => impl_Drum_has.calls d1 i_4 i_11 w _ b_2 (hm.pass (N := [⟨(some b_2), 34, row encU32 d1.1 []⟩]) [3] (by kernel_rfl) (by kernel_rfl)) ht_390) ?_)
      rintro w v w' hm ⟨rfl, hm'⟩
      refine ⟨_, hm.appW (ps := [(3, ⟨(some b_2), 34, row encU32 d1.1 []⟩)]) (N := []) hm' (by kernel_rfl) (by kernel_rfl), jkO ?_⟩
      clear hm hm'
      refine qe (jx_then (qi h (fun h => ?_) (fun h => ?_)))
      ·refine jc_region (qh [0,0,0] ?_)
       obtain ⟨t_15, ht_392, h⟩ := bd h
       refine tO (pc 0 (fun w hm => impl_Frame_byTrack_1.calls i_4 i_11 xs_10 w _ E_b E_o hn_385 E_hs ho_384 (hm.pass (N := [⟨some E_b, 48, [(.slice (E_o.map fun b => ⟨b, 0, none⟩) g2c0.length E_c)]⟩, ⟨E_o, 2, row encI64 xs_10 E_sp⟩]) [0, 1] (by kernel_rfl) (by kernel_rfl)) ht_392) ?_)
       rintro w v w' hm ⟨hn_393, ho_394, rfl, hm'⟩
       refine ⟨_, hm.appW (ps := [(0, ⟨some E_b, 48, [(.slice (E_o.map fun b => ⟨b, 0, none⟩) g2c0.length E_c)]⟩), (1, ⟨E_o, 2, row encI64 t_15 E_sp⟩)]) (N := []) hm' (by kernel_rfl) (by kernel_rfl), jkO ?_⟩
       clear hm hm'
       exact qe (jx_inn (jx_then (jc_region (qh [0,0] (qe (qb (t_15, (w64 (i_11 + 1))) () h ⟨hn_393, ho_394⟩ [0, 1, 2, 3]))))))
      ·exact jc_skip (jx_inn (jx_then (jc_region (qh [0,0] (qe (qb (xs_10, (w64 (i_11 + 1))) () h ⟨hn_385, ho_384⟩ [0, 1, 2, 3]))))))
     ·refine jc_exit (jx_thenx (jx_leave xs_10 (Option.some.inj h).symm (fun e_395 => ?_)))
      subst e_395
      exact jx_ine (qm xs_10 ⟨hr_386, hn_385, ho_384⟩ [0, 1, 2, 3])
    ·rintro xs_8 ⟨h, hn_367, ho_366⟩
     replace h : impl_Frame_pins_at_impl_Frame_byTrack_1.k_9 i_4 xs_8 = some y_333 := h
     rw [impl_Frame_pins_at_impl_Frame_byTrack_1.k_9] at h
     exact jx_inn (jx_then (jc_region (qh [0,0] (qe (qb (xs_8, (w64 (i_4 + 1))) () h ⟨hn_367, ho_366⟩ [0, 1, 2, 3])))))
   ·refine jc_exit (jx_thenx (jx_leave xs_3 (Option.some.inj h).symm (fun e_397 => ?_)))
    subst e_397
    exact jx_ine (qm xs_3 ⟨hr_332, hn_331, ho_330⟩ [0, 1, 2, 3])
  ·rintro xs_1 ⟨h, hn_201, ho_200⟩
   replace h : impl_Frame_pins_at_impl_Frame_byTrack_1.k_2 xs_1 = some r := h
   rw [impl_Frame_pins_at_impl_Frame_byTrack_1.k_2] at h
   refine jx_fall ?_
   obtain rfl := Option.some.inj h
   exact qr [] (fun w hm => ⟨hn_201, ho_200, rfl, hm.pk [0, 1]⟩)
/-! ### (impl.Frame).byTrack -/
def impl_Frame_byTrack (f0 : GFrame) (d1 : Arr 96 Int) : Option ((List Int)) := (if 0 ≤ (f0.fHammers.length : Int) ∧ (f0.fHammers.length : Int) ≤ 17592186044416 then (impl_Frame_pins_at_impl_Frame_byTrack_1 f0 d1 (List.replicate (f0.fHammers.length : Int).toNat 0)).bind fun t_1 => some t_1 else none)
theorem impl_Frame_byTrack.calls (f0 : GFrame) (d1 : Arr 96 Int) (w : World) (r : (List Int)) {C_a : Option Addr} {C_an : Nat} (C_c : Nat) (C_h : Rw w C_a 2 encGHammer f0.fHammers) (C_hn : f0.fHammers.length = C_an) (h : impl_Frame_byTrack f0 d1 = some r) :
    Calls Tryz.prog 67 #[(.agg #[(.int .i16 f0.fSteps), (.slice C_a C_an C_c)]), (.agg (row encU32 d1.1 []).toArray)] w fun e w' => ∃ v, e = .returned v ∧ (∃ (o0 : Option Nat) (c0 : Nat) (s0 : List Value) (n0 : Nat), r.length = n0 ∧ (o0 ≠ none → n0 ≤ c0 ∧ s0.length = (c0 - n0) * 1) ∧ (o0 = none → r = [] ∧ c0 = 0) ∧ v = .slice (o0.map fun b => ⟨b, 0, none⟩) n0 c0 ∧ Mem w [] [⟨o0, 2, row encI64 r s0⟩] w') := by
  subst C_hn
  rw [impl_Frame_byTrack] at h
  refine enter (args := [(.agg #[(.int .i16 f0.fSteps), (.slice C_a f0.fHammers.length C_c)]), (.agg (row encU32 d1.1 []).toArray)]) Tryz.func67 rfl Tryz.ntmps67 (by kernel_rfl) (L := []) (W := []) (Mem.start w) ?_
  refine jc_seq (jc_region (tO (qa 0 (fun b_1 => jkO (tO (qa 0 (fun b_2 => jkO (qh [0] (qe (jx_then (jc_seq (jc_region (qh [0,0,0] ?_)))))))))))))
  obtain ⟨hg_8, h⟩ := gd h
  refine tO (p_mk 0 2 (f0.fHammers.length : Int) 1 8 encI64 0 (by kernel_rfl) (by kernel_rfl) hg_8.1 (by omega) (by kernel_rfl) (fun b_3 => jkO (tO (qa 0 (fun b_4 => jkO (tO (qs 0 [3] (jkO (qe (jx_then (jc_seq (jc_region (qh [0] (tO (p_ldA 0 1 b_2 96 1 34 encU32 d1 (by kernel_rfl) (by kernel_rfl) (by kernel_rfl) encU32_len (by kernel_rfl) (jkO (qh [0] ?_)))))))))))))))))
  obtain ⟨t_1, ht_5, h⟩ := bd h
  refine tO (pc 0 (fun w hm => impl_Frame_pins_at_impl_Frame_byTrack_1.calls f0 d1 (List.replicate (f0.fHammers.length : Int).toNat 0) w _ C_c (hm.xr C_h) rfl b_4 (some b_3) List.length_replicate (fun _ => ⟨Nat.le_refl _, by simp⟩) (fun e => nomatch e) (hm.pass (N := [⟨some b_4, 48, [(.slice (some ⟨b_3, 0, none⟩) ((f0.fHammers.length : Int).toNat) ((f0.fHammers.length : Int).toNat))]⟩, ⟨(some b_3), 2, row encI64 (List.replicate (f0.fHammers.length : Int).toNat 0) []⟩]) [3, 2] (by kernel_rfl) (by kernel_rfl)) (hm.exApart (N := [⟨some b_4, 48, [(.slice (some ⟨b_3, 0, none⟩) ((f0.fHammers.length : Int).toNat) ((f0.fHammers.length : Int).toNat))]⟩, ⟨(some b_3), 2, row encI64 (List.replicate (f0.fHammers.length : Int).toNat 0) []⟩]) C_h (fun _ => List.not_mem_nil) [3, 2] (by kernel_rfl)) ht_5) ?_)
  rintro w v w' hm ⟨hn_6, ho_7, rfl, hm'⟩
  refine ⟨_, hm.appW (ps := [(3, ⟨some b_4, 48, [(.slice (some ⟨b_3, 0, none⟩) ((f0.fHammers.length : Int).toNat) ((f0.fHammers.length : Int).toNat))]⟩), (2, ⟨(some b_3), 2, row encI64 t_1 []⟩)]) (N := []) hm' (by kernel_rfl) (by kernel_rfl), jkO ?_⟩
  clear hm hm'
  refine qe (jx_then (jc_seq (jc_region (qh [3,0] (qe (jx_then (jc_ret ?_)))))))
  obtain rfl := Option.some.inj h
  exact qr [] (fun w hm => ⟨(some b_3), ((f0.fHammers.length : Int).toNat), [], ((f0.fHammers.length : Int).toNat), hn_6, (fun _ => ⟨Nat.le_refl _, by simp⟩), (fun e => nomatch e), rfl, hm.pk [2]⟩)
/-! ### impl.TurnWear -/
def impl_TurnWear.k_11 (f0 : GFrame) (xs_6 : List GWornPin) (xs_10 : List Int) : Option (GWear × Int) := (impl_ValidWear f0 (⟨xs_6, xs_10⟩ : GWear)).bind fun t_12 => (if (!t_12) = true then some ((⟨[], []⟩ : GWear), 3) else some ((⟨xs_6, xs_10⟩ : GWear), 0))
def impl_TurnWear.l_15 (turns2 : Int) (t_9 : (List Int)) : ((List Int) × Int) → Option (((List Int) × Int) ⊕ ((List Int)))
  | (xs_13, i_14) => (if (decide (i_14 < (t_9.length : Int))) = true then (ix t_9 i_14).bind fun x_17 => (ix xs_13 i_14).bind fun x_18 => (ix xs_13 i_14).bind fun x_19 => some (.inl ((xs_13.set i_14.toNat (w64 (x_18 + (w64 (x_17 * turns2))))), (w64 (i_14 + 1)))) else some (.inr xs_13))
def impl_TurnWear.k_7 (f0 : GFrame) (w1 : GWear) (turns2 : Int) (t_5 : GWear) (xs_6 : List GWornPin) : Option (GWear × Int) := (impl_Wear_drum w1).bind fun t_8 => (impl_Frame_byTrack f0 t_8).bind fun t_9 => (loop (impl_TurnWear.l_15 turns2 t_9) (t_5.fStrokes, 0)).bind fun t_16 => impl_TurnWear.k_11 f0 xs_6 t_16
def impl_TurnWear.l_22 (turns2 : Int) (t_5 : GWear) : ((List GWornPin) × Int) → Option (((List GWornPin) × Int) ⊕ ((List GWornPin)))
  | (xs_20, i_21) => (if (decide (i_21 < (t_5.fPins.length : Int))) = true then (ix xs_20 i_21).bind fun x_24 => (ix xs_20 i_21).bind fun x_25 => some (.inl ((xs_20.set i_21.toNat (⟨x_25.fStep, x_25.fTrack, (w64 (x_24.fTurns + turns2))⟩ : GWornPin)), (w64 (i_21 + 1)))) else some (.inr xs_20))
def impl_TurnWear (f0 : GFrame) (w1 : GWear) (turns2 : Int) : Option (GWear × Int) := (impl_wearCode f0 w1 []).bind fun t_1 => (impl_isMade turns2).bind fun t_2 => (impl_unless t_2 2).bind fun t_3 => (impl_firstOf ([t_1, t_3] : List Int)).bind fun t_4 => (if (t_4 != 0) = true then some ((⟨[], []⟩ : GWear), t_4) else (impl_Wear_own w1).bind fun t_5 => (loop (impl_TurnWear.l_22 turns2 t_5) (t_5.fPins, 0)).bind fun t_23 => impl_TurnWear.k_7 f0 w1 turns2 t_5 t_23)
theorem impl_TurnWear.calls (f0 : GFrame) (w1 : GWear) (turns2 : Int) (w : World) (r : GWear × Int) {C_a : Option Addr} {C_an : Nat} (C_c : Nat) (C_h : Rw w C_a 2 encGHammer f0.fHammers) (C_hn : f0.fHammers.length = C_an) {E_a : Option Addr} {E_an : Nat} (E_c : Nat) (E_h : Rw w E_a 3 encGWornPin w1.fPins) (E_hn : w1.fPins.length = E_an) {F_a : Option Addr} {F_an : Nat} (F_c : Nat) (F_h : Rw w F_a 1 encI64 w1.fStrokes) (F_hn : w1.fStrokes.length = F_an) (h : impl_TurnWear f0 w1 turns2 = some r) :
    Calls Tryz.prog 92 #[(.agg #[(.int .i16 f0.fSteps), (.slice C_a C_an C_c)]), (.agg #[(.slice E_a E_an E_c), (.slice F_a F_an F_c)]), (.int .i64 turns2)] w fun e w' => ∃ v, e = .returned v ∧ (∃ (o0 : Option Nat) (c0 : Nat) (s0 : List Value) (n0 : Nat), r.1.fPins.length = n0 ∧ (o0 ≠ none → n0 ≤ c0 ∧ s0.length = (c0 - n0) * 3) ∧ (o0 = none → r.1.fPins = [] ∧ c0 = 0) ∧ ∃ (o1 : Option Nat) (c1 : Nat) (s1 : List Value) (n1 : Nat), r.1.fStrokes.length = n1 ∧ (o1 ≠ none → n1 ≤ c1 ∧ s1.length = (c1 - n1) * 1) ∧ (o1 = none → r.1.fStrokes = [] ∧ c1 = 0) ∧ v = .tuple #[.agg #[.slice (o0.map fun b => ⟨b, 0, none⟩) n0 c0, .slice (o1.map fun b => ⟨b, 0, none⟩) n1 c1], (.int .i64 r.2)] ∧ Mem w [] [⟨o0, 147, row encGWornPin r.1.fPins s0⟩, ⟨o1, 2, row encI64 r.1.fStrokes s1⟩] w') := by
  subst C_hn E_hn F_hn
  rw [impl_TurnWear] at h
  refine enter (args := [(.agg #[(.int .i16 f0.fSteps), (.slice C_a f0.fHammers.length C_c)]), (.agg #[(.slice E_a w1.fPins.length E_c), (.slice F_a w1.fStrokes.length F_c)]), (.int .i64 turns2)]) Tryz.func92 rfl Tryz.ntmps92 (by kernel_rfl) (L := []) (W := []) (Mem.start w) ?_
  refine jc_seq (jc_region (tO (qa 0 (fun b_1 => jkO (tO (qa 0 (fun b_2 => jkO (tO (qa 0 (fun b_3 => jkO (qh [0] (qe (jx_then (jc_seq (jc_seq (jc_region (qh [0,1] ?_)))))))))))))))))
  obtain ⟨t_1, ht_10, h⟩ := bd h
  refine tO (pc 0 (fun w hm => impl_wearCode.calls f0 w1 [] w _ C_c (hm.xr C_h) rfl E_c (hm.xr E_h) rfl F_c (hm.xr F_h) rfl 0 Rw.nil rfl ht_10) ?_)
  rintro w v w' hm ⟨rfl, hm'⟩
  refine ⟨_, hm.app hm', jkO ?_⟩
  clear hm hm'
  refine qh [0] ?_
  obtain ⟨t_2, ht_11, h⟩ := bd h
  refine tO (pc 0 (fun w hm => impl_isMade.calls turns2 w _ ht_11) ?_)
  rintro w v w' hm ⟨rfl, hm'⟩
  refine ⟨_, hm.app hm', jkO ?_⟩
  clear hm hm'
  obtain ⟨t_3, ht_12, h⟩ := bd h
  refine tO (pc 0 (fun w hm => impl_unless.calls t_2 2 w _ ht_12) ?_)
  rintro w v w' hm ⟨rfl, hm'⟩
  refine ⟨_, hm.app hm', jkO ?_⟩
  clear hm hm'
  refine tO (qa 0 (fun b_13 => jkO ?_))
  obtain ⟨t_4, ht_14, h⟩ := bd h
  refine tO (pc 0 (fun w hm => impl_firstOf.calls ([t_1, t_3] : List Int) w _ 2 (hm.ow 3 (some b_13) 2 ([t_1, t_3] : List Int) [] (fun e => nomatch e) encI64_len) rfl ht_14) ?_)
  rintro w v w' hm ⟨rfl, hm'⟩
  refine ⟨_, hm.app hm', jkO ?_⟩
  clear hm hm'
  refine qh [0] (qe (jx_then (jc_seq (jc_region (qh [0,0] (qe (jx_then (qi h (fun h => ?_) (fun h => ?_)))))))))
  ·refine jc_seq (jc_region (qh [0,0] (tO (qs 0 [2] (jkO (qh [0] (qe (jx_then (jc_ret (jx_thenr ?_))))))))))
   obtain rfl := Option.some.inj h
   exact jx_ghost 147 encGWornPin (jx_ghost 2 encI64 (qr [2] (fun w hm => ⟨none, 0, [], 0, rfl, (fun e => absurd rfl e), (fun _ => ⟨rfl, rfl⟩), none, 0, [], 0, rfl, (fun e => absurd rfl e), (fun _ => ⟨rfl, rfl⟩), rfl, hm.pk [4, 5]⟩)))
  ·refine jc_skip (jx_then (jc_seq (jc_region (qh [1] ?_))))
   obtain ⟨t_5, ht_16, h⟩ := bd h
   refine tO (pc 0 (fun w hm => impl_Wear_own.calls w1 w _ E_c (hm.xr E_h) rfl F_c (hm.xr F_h) rfl ht_16) ?_)
   rintro w v w' hm ⟨o_17, cap_18, sp_19, _, rfl, hs_20, ho_21, o_22, cap_23, sp_24, _, rfl, hs_25, ho_26, rfl, hm'⟩
   refine ⟨_, hm.app hm', jkO ?_⟩
   clear hm hm'
   refine tO (qa 0 (fun b_27 => jkO (tO (qs 0 [6] (jkO (qe (jx_then (jc_seq (jc_seq (jc_region (qh [0,6,0,0] (qe (jx_then (jc_meet (fun (j : (List GWornPin)) => match j with | xs_6 => impl_TurnWear.k_7 f0 w1 turns2 t_5 xs_6 = some r ∧ (xs_6.length = t_5.fPins.length) ∧ ((o_17 = none → xs_6 = [] ∧ cap_18 = 0))) (fun (j : (List GWornPin)) => match j with | xs_6 => [(2, [], (.int .i64 turns2)), (3, [], (.pointer (some ⟨b_1, 0, none⟩))), (4, [], (.pointer (some ⟨b_2, 0, none⟩))), (6, [], (.pointer (some ⟨b_3, 0, none⟩))), (7, [], (.int .i64 0)), (9, [], (.pointer (some ⟨b_27, 0, none⟩)))]) (fun (j : (List GWornPin)) => match j with | xs_6 => [⟨some b_1, 27, [(.int .i16 f0.fSteps), (.slice C_a f0.fHammers.length C_c)]⟩, ⟨some b_2, 62, [(.slice E_a w1.fPins.length E_c), (.slice F_a w1.fStrokes.length F_c)]⟩, ⟨some b_3, 62, [(.slice none 0 0), (.slice none 0 0)]⟩, ⟨(some b_13), 2, row encI64 ([t_1, t_3] : List Int) []⟩, ⟨o_17, 147, row encGWornPin xs_6 sp_19⟩, ⟨o_22, 2, row encI64 t_5.fStrokes sp_24⟩, ⟨some b_27, 62, [(.slice (o_17.map fun b => ⟨b, 0, none⟩) t_5.fPins.length cap_18), (.slice (o_22.map fun b => ⟨b, 0, none⟩) t_5.fStrokes.length cap_23)]⟩]) ?_ ?_))))))))))))))
   ·refine jc_block ?_
    obtain ⟨t_23, ht_239, hr_232⟩ := bd h
    refine jc_loop (fun (s : (List GWornPin) × Int) (x : Unit) => match s, x with | ⟨xs_20, i_21⟩, _ => (xs_20.length = t_5.fPins.length) ∧ ((o_17 = none → xs_20 = [] ∧ cap_18 = 0))) (fun (s : (List GWornPin) × Int) (x : Unit) => match s, x with | ⟨xs_20, i_21⟩, _ => [(2, [], (.int .i64 turns2)), (3, [], (.pointer (some ⟨b_1, 0, none⟩))), (4, [], (.pointer (some ⟨b_2, 0, none⟩))), (6, [], (.pointer (some ⟨b_3, 0, none⟩))), (7, [], (.int .i64 0)), (9, [], (.pointer (some ⟨b_27, 0, none⟩))), (29, [], (.int .i64 (t_5.fPins.length : Int))), (30, [], (.int .i64 i_21))]) (fun (s : (List GWornPin) × Int) (x : Unit) => match s, x with | ⟨xs_20, i_21⟩, _ => [⟨some b_1, 27, [(.int .i16 f0.fSteps), (.slice C_a f0.fHammers.length C_c)]⟩, ⟨some b_2, 62, [(.slice E_a w1.fPins.length E_c), (.slice F_a w1.fStrokes.length F_c)]⟩, ⟨some b_3, 62, [(.slice none 0 0), (.slice none 0 0)]⟩, ⟨(some b_13), 2, row encI64 ([t_1, t_3] : List Int) []⟩, ⟨o_17, 147, row encGWornPin xs_20 sp_19⟩, ⟨o_22, 2, row encI64 t_5.fStrokes sp_24⟩, ⟨some b_27, 62, [(.slice (o_17.map fun b => ⟨b, 0, none⟩) t_5.fPins.length cap_18), (.slice (o_22.map fun b => ⟨b, 0, none⟩) t_5.fStrokes.length cap_23)]⟩]) ht_239 () ⟨rfl, ho_21⟩ (by kernel_rfl) [0, 1, 2, 3, 4, 5, 6] (by kernel_rfl) (by kernel_rfl) ?_
    rintro ⟨xs_20, i_21⟩ _ y_233 ⟨hn_231, ho_230⟩ h
    rw [impl_TurnWear.l_22] at h
    refine jc_seq (jc_region (qh [0] (qe (jx_then (jc_seq (qi h (fun h => ?_) (fun h => ?_)))))))
    ·refine jc_skip (jx_then (jc_seq (jc_block (jc_seq (jc_region (qh [0,0] (qe (jx_then (jc_region (qh [0,6,0] ?_))))))))))
     obtain ⟨x_24, hx_236, h⟩ := bd h
     refine tO (qx 0 (o_17.map fun b => ⟨b, 0, none⟩) 3 hx_236 hn_231 (spo ho_230 hx_236) (jkO (qh [0] (tO (ql 0 false (fun w hm => (((hm.ow 4 o_17 147 xs_20 sp_19 (fun e => (ho_230 e).1) encGWornPin_len).at hx_236).sub 2 1)) (jkO (qh [0,0] ?_)))))))
     obtain ⟨x_25, hx_237, h⟩ := bd h
     exact tO (qx 0 (o_17.map fun b => ⟨b, 0, none⟩) 3 hx_237 hn_231 (spo ho_230 hx_237) (jkO (qh [0] (tO (p_strO 0 4 o_17 147 encGWornPin xs_20 sp_19 i_21 (⟨x_25.fStep, x_25.fTrack, (w64 (x_24.fTurns + turns2))⟩ : GWornPin) 3 2 [(.int .i64 (w64 (x_24.fTurns + turns2)))] (by kernel_rfl) (by kernel_rfl) (by kernel_rfl) (fun e => (ho_230 e).1) encGWornPin_len hx_237 (by kernel_rfl) (by kernel_rfl) (jkO (qe (jx_inn (jx_then (jc_region (qh [0,0] (qe (qb ((xs_20.set i_21.toNat (⟨x_25.fStep, x_25.fTrack, (w64 (x_24.fTurns + turns2))⟩ : GWornPin)), (w64 (i_21 + 1))) () h ⟨(List.length_set.trans hn_231), (set_ho ho_230)⟩ [0, 1, 2, 3, 4, 5, 6])))))))))))))
    ·refine jc_exit (jx_thenx (jx_leave xs_20 (Option.some.inj h).symm (fun e_238 => ?_)))
     subst e_238
     exact jx_ine (qm xs_20 ⟨hr_232, hn_231, ho_230⟩ [0, 1, 2, 3, 4, 5, 6])
   ·rintro xs_6 ⟨h, hn_91, ho_90⟩
    replace h : impl_TurnWear.k_7 f0 w1 turns2 t_5 xs_6 = some r := h
    rw [impl_TurnWear.k_7] at h
    refine jx_then (jc_seq (jc_seq (qg [⟨some b_1, 27, [(.int .i16 f0.fSteps), (.slice C_a f0.fHammers.length C_c)]⟩, ⟨some b_2, 62, [(.slice E_a w1.fPins.length E_c), (.slice F_a w1.fStrokes.length F_c)]⟩, ⟨some b_3, 62, [(.slice none 0 0), (.slice none 0 0)]⟩, ⟨(some b_13), 2, row encI64 ([t_1, t_3] : List Int) []⟩, ⟨o_17, 147, row encGWornPin xs_6 sp_19⟩, ⟨o_22, 2, row encI64 t_5.fStrokes sp_24⟩, ⟨some b_27, 62, [(.slice (o_17.map fun b => ⟨b, 0, none⟩) t_5.fPins.length cap_18), (.slice (o_22.map fun b => ⟨b, 0, none⟩) t_5.fStrokes.length cap_23)]⟩] 6 (qd [⟨0, 0, 0⟩,⟨1, 1, 0⟩,⟨5, 0, 0⟩] 3 [0, 1, 2, 3, 4, 5, 6] ?_))))
    obtain ⟨t_8, ht_161, h⟩ := bd h
    refine tD 2 (pc 0 (fun w hm => impl_Wear_drum.calls w1 w _ E_c (hm.xr E_h) rfl F_c (hm.xr F_h) rfl ht_161) ?_)
    rintro w v w' hm ⟨rfl, hm'⟩
    refine ⟨_, hm.app hm', kD [0, 1, 2, 3, 4, 5, 6] ?_⟩
    clear hm hm'
    obtain ⟨t_9, ht_162, h⟩ := bd h
    refine tD 3 (pc 0 (fun w hm => impl_Frame_byTrack.calls f0 t_8 w _ C_c (hm.xr C_h) rfl ht_162) ?_)
    rintro w v w' hm ⟨o_163, cap_164, sp_165, _, rfl, hs_166, ho_167, rfl, hm'⟩
    refine ⟨_, hm.app hm', kD [0, 1, 2, 3, 4, 5, 6] ?_⟩
    clear hm hm'
    refine qd [⟨4, 0, 0⟩] 0 [0, 1, 2, 3, 4, 5, 6] (qz (jx_then (jc_meet (fun (j : (List Int)) => match j with | xs_10 => impl_TurnWear.k_11 f0 xs_6 xs_10 = some r ∧ (xs_10.length = t_5.fStrokes.length) ∧ ((o_22 = none → xs_10 = [] ∧ cap_23 = 0))) (fun (j : (List Int)) => match j with | xs_10 => [(3, [], (.pointer (some ⟨b_1, 0, none⟩))), (6, [], (.pointer (some ⟨b_3, 0, none⟩))), (7, [], (.int .i64 0)), (9, [], (.pointer (some ⟨b_27, 0, none⟩)))]) (fun (j : (List Int)) => match j with | xs_10 => [⟨some b_1, 27, [(.int .i16 f0.fSteps), (.slice C_a f0.fHammers.length C_c)]⟩, ⟨some b_2, 62, [(.slice E_a w1.fPins.length E_c), (.slice F_a w1.fStrokes.length F_c)]⟩, ⟨some b_3, 62, [(.slice none 0 0), (.slice none 0 0)]⟩, ⟨(some b_13), 2, row encI64 ([t_1, t_3] : List Int) []⟩, ⟨o_17, 147, row encGWornPin xs_6 sp_19⟩, ⟨o_22, 2, row encI64 xs_10 sp_24⟩, ⟨some b_27, 62, [(.slice (o_17.map fun b => ⟨b, 0, none⟩) t_5.fPins.length cap_18), (.slice (o_22.map fun b => ⟨b, 0, none⟩) t_5.fStrokes.length cap_23)]⟩, ⟨o_163, 2, row encI64 t_9 sp_165⟩]) ?_ ?_)))
    ·refine jc_block ?_
     obtain ⟨t_16, ht_219, hr_211⟩ := bd h
     refine jc_loop (fun (s : (List Int) × Int) (x : Unit) => match s, x with | ⟨xs_13, i_14⟩, _ => (xs_13.length = t_5.fStrokes.length) ∧ ((o_22 = none → xs_13 = [] ∧ cap_23 = 0))) (fun (s : (List Int) × Int) (x : Unit) => match s, x with | ⟨xs_13, i_14⟩, _ => [(2, [], (.int .i64 turns2)), (3, [], (.pointer (some ⟨b_1, 0, none⟩))), (6, [], (.pointer (some ⟨b_3, 0, none⟩))), (7, [], (.int .i64 0)), (9, [], (.pointer (some ⟨b_27, 0, none⟩))), (47, [], (.slice (o_163.map fun b => ⟨b, 0, none⟩) t_9.length cap_164)), (48, [], (.int .i64 (t_9.length : Int))), (49, [], (.int .i64 i_14))]) (fun (s : (List Int) × Int) (x : Unit) => match s, x with | ⟨xs_13, i_14⟩, _ => [⟨some b_1, 27, [(.int .i16 f0.fSteps), (.slice C_a f0.fHammers.length C_c)]⟩, ⟨some b_2, 62, [(.slice E_a w1.fPins.length E_c), (.slice F_a w1.fStrokes.length F_c)]⟩, ⟨some b_3, 62, [(.slice none 0 0), (.slice none 0 0)]⟩, ⟨(some b_13), 2, row encI64 ([t_1, t_3] : List Int) []⟩, ⟨o_17, 147, row encGWornPin xs_6 sp_19⟩, ⟨o_22, 2, row encI64 xs_13 sp_24⟩, ⟨some b_27, 62, [(.slice (o_17.map fun b => ⟨b, 0, none⟩) t_5.fPins.length cap_18), (.slice (o_22.map fun b => ⟨b, 0, none⟩) t_5.fStrokes.length cap_23)]⟩, ⟨o_163, 2, row encI64 t_9 sp_165⟩]) ht_219 () ⟨rfl, ho_26⟩ (by kernel_rfl) [0, 1, 2, 3, 4, 5, 6, 7] (by kernel_rfl) (by kernel_rfl) ?_
     rintro ⟨xs_13, i_14⟩ _ y_212 ⟨hn_210, ho_209⟩ h
     rw [impl_TurnWear.l_15] at h
     refine jc_seq (jc_region (qh [0] (qe (jx_then (jc_seq (qi h (fun h => ?_) (fun h => ?_)))))))
     ·refine jc_skip (jx_then (jc_seq (jc_block (jc_seq (jc_region (qh [0] ?_))))))
      obtain ⟨x_17, hx_215, h⟩ := bd h
      refine tO (qx 0 (o_163.map fun b => ⟨b, 0, none⟩) 1 hx_215 rfl (spo ho_167 hx_215) (jkO (tO (ql 0 false (fun w hm => ((hm.ow 7 o_163 2 t_9 sp_165 (fun e => (ho_167 e).1) encI64_len).at hx_215)) (jkO (qh [0,0] (qe (jx_then (jc_region (qh [0,6,0] ?_))))))))))
      obtain ⟨x_18, hx_216, h⟩ := bd h
      refine tO (qx 0 (o_22.map fun b => ⟨b, 0, none⟩) 1 hx_216 hn_210 (spo ho_209 hx_216) (jkO (tO (ql 0 false (fun w hm => ((hm.ow 5 o_22 2 xs_13 sp_24 (fun e => (ho_209 e).1) encI64_len).at hx_216)) (jkO (qh [0,0,0,0] ?_))))))
      obtain ⟨x_19, hx_217, h⟩ := bd h
      exact tO (qx 0 (o_22.map fun b => ⟨b, 0, none⟩) 1 hx_217 hn_210 (spo ho_209 hx_217) (jkO (tO (p_strO 0 5 o_22 2 encI64 xs_13 sp_24 i_14 (w64 (x_18 + (w64 (x_17 * turns2)))) 1 0 [(.int .i64 (w64 (x_18 + (w64 (x_17 * turns2)))))] (by kernel_rfl) (by kernel_rfl) (by kernel_rfl) (fun e => (ho_209 e).1) encI64_len hx_217 (by kernel_rfl) (by kernel_rfl) (jkO (qe (jx_inn (jx_then (jc_region (qh [0,0] (qe (qb ((xs_13.set i_14.toNat (w64 (x_18 + (w64 (x_17 * turns2))))), (w64 (i_14 + 1))) () h ⟨(List.length_set.trans hn_210), (set_ho ho_209)⟩ [0, 1, 2, 3, 4, 5, 6, 7]))))))))))))
     ·refine jc_exit (jx_thenx (jx_leave xs_13 (Option.some.inj h).symm (fun e_218 => ?_)))
      subst e_218
      exact jx_ine (qm xs_13 ⟨hr_211, hn_210, ho_209⟩ [0, 1, 2, 3, 4, 5, 6, 7])
    ·rintro xs_10 ⟨h, hn_192, ho_191⟩
     replace h : impl_TurnWear.k_11 f0 xs_6 xs_10 = some r := h
     rw [impl_TurnWear.k_11] at h
     refine jx_then (jc_seq (jc_seq (jc_region (qh [0,6] ?_))))
     obtain ⟨t_12, ht_195, h⟩ := bd h
     refine tO (pc 0 (fun w hm => impl_ValidWear.calls f0 (⟨xs_6, xs_10⟩ : GWear) w _ C_c (hm.xr C_h) rfl cap_18 (hm.ow 4 o_17 147 xs_6 sp_19 (fun e => (ho_90 e).1) encGWornPin_len) hn_91 cap_23 (hm.ow 5 o_22 2 xs_10 sp_24 (fun e => (ho_191 e).1) encI64_len) hn_192 ht_195) ?_)
     rintro w v w' hm ⟨rfl, hm'⟩
     refine ⟨_, hm.app hm', jkO ?_⟩
     clear hm hm'
     refine qh [0] (qe (jx_then (qi h (fun h => ?_) (fun h => ?_))))
     ·refine jc_seq (jc_region (qh [0] (tO (qs 0 [2] (jkO (qh [0] (qe (jx_then (jc_ret (jx_thenr ?_))))))))))
      obtain rfl := Option.some.inj h
      exact jx_ghost 147 encGWornPin (jx_ghost 2 encI64 (qr [2] (fun w hm => ⟨none, 0, [], 0, rfl, (fun e => absurd rfl e), (fun _ => ⟨rfl, rfl⟩), none, 0, [], 0, rfl, (fun e => absurd rfl e), (fun _ => ⟨rfl, rfl⟩), rfl, hm.pk [8, 9]⟩)))
     ·refine jc_skip (jx_then (jc_seq (jc_region (qh [6] (tO (qs 0 [2] (jkO (qh [0] (qe (jx_then (jc_ret ?_)))))))))))
      obtain rfl := Option.some.inj h
      exact qr [2] (fun w hm => ⟨o_17, cap_18, sp_19, t_5.fPins.length, hn_91, hs_20, ho_90, o_22, cap_23, sp_24, t_5.fStrokes.length, hn_192, hs_25, ho_191, rfl, hm.pk [4, 5]⟩)
/-! ### impl.wornPlaceCode$1 -/
def impl_wornPlaceCode_1 (p0 : Arr 2 Int) (p1 : GFrame) : Option (Bool) := (ix p0.1 0).bind fun x_1 => (ix p0.1 1).bind fun x_2 => (impl_Frame_isPlace p1 x_1 x_2).bind fun t_3 => some (!t_3)
theorem impl_wornPlaceCode_1.calls (p0 : Arr 2 Int) (p1 : GFrame) (w : World) (r : Bool) {D_a : Option Addr} {D_an : Nat} (D_c : Nat) (D_h : Rw w D_a 2 encGHammer p1.fHammers) (D_hn : p1.fHammers.length = D_an) (B_b : Nat) (hm0 : Mem w (bs [some B_b]) [⟨some B_b, 27, [(.int .i16 p1.fSteps), (.slice D_a D_an D_c)]⟩] w) (D_ha : p1.fHammers ≠ [] → aB D_a ∉ bs [some B_b]) (h : impl_wornPlaceCode_1 p0 p1 = some r) :
    Calls Tryz.prog 214 #[(.agg (row encI64 p0.1 []).toArray), (.pointer (some ⟨B_b, 0, none⟩))] w fun e w' => ∃ v, e = .returned v ∧ (v = (.bool r) ∧ Mem w (bs [some B_b]) [⟨some B_b, 27, [(.int .i16 p1.fSteps), (.slice D_a D_an D_c)]⟩] w') := by
  subst D_hn
  rw [impl_wornPlaceCode_1] at h
  refine enter (args := [(.agg (row encI64 p0.1 []).toArray), (.pointer (some ⟨B_b, 0, none⟩))]) Tryz.func214 rfl Tryz.ntmps214 (by kernel_rfl) (L := [⟨some B_b, 27, [(.int .i16 p1.fSteps), (.slice D_a p1.fHammers.length D_c)]⟩]) (W := bs [some B_b]) hm0 ?_
  refine jc_seq (jc_region (tO (qa 0 (fun b_1 => jkO (qh [0] (qe (jx_then (jc_seq (jc_region (qh [0] ?_))))))))))
  obtain ⟨x_1, hx_2, h⟩ := bd h
  refine tO (qx 0 (some ⟨b_1, 0, none⟩) 1 hx_2 p0.2 rfl (jkO (tO (ql 0 false (fun w hm => ((hm.ow 1 (some b_1) 117 p0.1 [] (fun e => nomatch e) encI64_len).at hx_2)) (jkO ?_)))))
  obtain ⟨x_2, hx_3, h⟩ := bd h
  refine tO (qx 0 (some ⟨b_1, 0, none⟩) 1 hx_3 p0.2 rfl (jkO (tO (ql 0 false (fun w hm => ((hm.ow 1 (some b_1) 117 p0.1 [] (fun e => nomatch e) encI64_len).at hx_3)) (jkO ?_)))))
  obtain ⟨t_3, ht_4, h⟩ := bd h
  refine tO (pc 0 (fun w hm => impl_Frame_isPlace.calls p1 x_1 x_2 w _ D_c (hm.exRowW D_h D_ha) rfl ht_4) ?_)
  rintro w v w' hm ⟨rfl, hm'⟩
  refine ⟨_, hm.app hm', jkO ?_⟩
  clear hm hm'
  refine qh [0,0] (qe (jx_then (jc_ret ?_)))
  obtain rfl := Option.some.inj h
  exact qr [] (fun w hm => ⟨rfl, hm.pk [0]⟩)
/-! ### slices.IndexFunc[[][2]int64,[2]int64] -/
def slices_IndexFunc_2int64_at_impl_wornPlaceCode_1.k_1 : Option (Int) := some (-1)
def slices_IndexFunc_2int64_at_impl_wornPlaceCode_1.l_3 (s0 : List (Arr 2 Int)) (g1c0 : GFrame) : Int → Option ((Int) ⊕ (Int ⊕ Unit))
  | i_2 => (if (decide (i_2 < (s0.length : Int))) = true then (ix s0 i_2).bind fun x_5 => (impl_wornPlaceCode_1 x_5 g1c0).bind fun t_6 => (if t_6 = true then some (.inr (.inl i_2)) else some (.inl (w64 (i_2 + 1)))) else some (.inr (.inr ())))
def slices_IndexFunc_2int64_at_impl_wornPlaceCode_1 (s0 : List (Arr 2 Int)) (g1c0 : GFrame) : Option (Int) := (loop (slices_IndexFunc_2int64_at_impl_wornPlaceCode_1.l_3 s0 g1c0) 0).bind fun t_4 => match t_4 with | .inl p => some p | .inr p => slices_IndexFunc_2int64_at_impl_wornPlaceCode_1.k_1
theorem slices_IndexFunc_2int64_at_impl_wornPlaceCode_1.calls (s0 : List (Arr 2 Int)) (g1c0 : GFrame) (w : World) (r : Int) {A_a : Option Addr} {A_an : Nat} (A_c : Nat) (A_h : Rw w A_a 2 encA2I64 s0) (A_hn : s0.length = A_an) {D_a : Option Addr} {D_an : Nat} (D_c : Nat) (D_h : Rw w D_a 2 encGHammer g1c0.fHammers) (D_hn : g1c0.fHammers.length = D_an) (B_b : Nat) (hm0 : Mem w (bs [some B_b]) [⟨some B_b, 27, [(.int .i16 g1c0.fSteps), (.slice D_a D_an D_c)]⟩] w) (A_ha : s0 ≠ [] → aB A_a ∉ bs [some B_b]) (D_ha : g1c0.fHammers ≠ [] → aB D_a ∉ bs [some B_b]) (h : slices_IndexFunc_2int64_at_impl_wornPlaceCode_1 s0 g1c0 = some r) :
    Calls Tryz.prog 144 #[(.slice A_a A_an A_c), (.func (.func 214) #[] #[(.pointer (some ⟨B_b, 0, none⟩))])] w fun e w' => ∃ v, e = .returned v ∧ (v = (.int .i64 r) ∧ Mem w (bs [some B_b]) [⟨some B_b, 27, [(.int .i16 g1c0.fSteps), (.slice D_a D_an D_c)]⟩] w') := by
  subst A_hn D_hn
  rw [slices_IndexFunc_2int64_at_impl_wornPlaceCode_1] at h
  refine enter (args := [(.slice A_a s0.length A_c), (.func (.func 214) #[] #[(.pointer (some ⟨B_b, 0, none⟩))])]) Tryz.func144 rfl Tryz.ntmps144 (by kernel_rfl) (L := [⟨some B_b, 27, [(.int .i16 g1c0.fSteps), (.slice D_a g1c0.fHammers.length D_c)]⟩]) (W := bs [some B_b]) hm0 ?_
  refine jc_seq (jc_region (qh [0] (qe (jx_then (jc_seq (jc_seq (jc_region (qh [0,0,0] (qe (jx_then (jc_meet (fun (_ : Unit) => slices_IndexFunc_2int64_at_impl_wornPlaceCode_1.k_1 = some r) (fun (_ : Unit) => [(4, [], (.int .i64 0))]) (fun (_ : Unit) => [⟨some B_b, 27, [(.int .i16 g1c0.fSteps), (.slice D_a g1c0.fHammers.length D_c)]⟩]) ?_ ?_)))))))))))
  ·refine jc_block ?_
   obtain ⟨t_4, ht_40, hr_31⟩ := bd h
   refine jc_loop (fun (s : Int) (x : Unit) => match s, x with | i_2, _ => True) (fun (s : Int) (x : Unit) => match s, x with | i_2, _ => [(0, [], (.slice A_a s0.length A_c)), (1, [], (.func (.func 214) #[] #[(.pointer (some ⟨B_b, 0, none⟩))])), (4, [], (.int .i64 0)), (7, [], (.int .i64 (s0.length : Int))), (8, [], (.int .i64 i_2))]) (fun (s : Int) (x : Unit) => match s, x with | i_2, _ => [⟨some B_b, 27, [(.int .i16 g1c0.fSteps), (.slice D_a g1c0.fHammers.length D_c)]⟩]) ht_40 () trivial (by kernel_rfl) [0] (by kernel_rfl) (by kernel_rfl) ?_
   rintro i_2 _ y_32 _ h
   rw [slices_IndexFunc_2int64_at_impl_wornPlaceCode_1.l_3] at h
   refine jc_seq (jc_region (qh [0] (qe (jx_then (jc_seq (qi h (fun h => ?_) (fun h => ?_)))))))
   ·refine jc_skip (jx_then (jc_seq (jc_block (jc_seq (jc_region (qh [0,0] (qe (jx_then (jc_seq (jc_region (qh [0,0,0] ?_)))))))))))
    obtain ⟨x_5, hx_35, h⟩ := bd h
    refine tO (qx 0 A_a 2 hx_35 rfl (A_h.sp hx_35) (jkO (tO (p_ldx 0 (aB A_a) (aO A_a + i_2.toNat * 2) (encA2I64 x_5) 2 (by kernel_rfl) (by kernel_rfl) (encA2I64_len x_5) (fun w hm => ((hm.exRowW A_h A_ha).at hx_35)) (jkO ?_)))))
    obtain ⟨t_6, ht_36, h⟩ := bd h
    refine tO (pc 0 (fun w hm => impl_wornPlaceCode_1.calls x_5 g1c0 w _ D_c (hm.exRowW D_h D_ha) rfl B_b (hm.pass (N := [⟨some B_b, 27, [(.int .i16 g1c0.fSteps), (.slice D_a g1c0.fHammers.length D_c)]⟩]) [0] (by kernel_rfl) (by kernel_rfl)) (hm.exApart (N := [⟨some B_b, 27, [(.int .i16 g1c0.fSteps), (.slice D_a g1c0.fHammers.length D_c)]⟩]) D_h D_ha [0] (by kernel_rfl)) ht_36) ?_)
    rintro w v w' hm ⟨rfl, hm'⟩
    refine ⟨_, hm.appW (ps := [(0, ⟨some B_b, 27, [(.int .i16 g1c0.fSteps), (.slice D_a g1c0.fHammers.length D_c)]⟩)]) (N := []) hm' (by kernel_rfl) (by kernel_rfl), jkO ?_⟩
    clear hm hm'
    refine qe (jx_then (qi h (fun h => ?_) (fun h => ?_)))
    ·refine jc_seq (jc_region (qh [0,0] (qe (jx_then (jc_ret (jx_inr (jx_thenr (jx_leaver (.inl i_2) (Option.some.inj h).symm (fun e_38 => ?_)))))))))
     subst e_38
     refine jx_inr (jx_thenr (jx_thenr ?_))
     obtain rfl := Option.some.inj hr_31
     exact qr [] (fun w hm => ⟨rfl, hm.pk [0]⟩)
    ·exact jc_skip (jx_inn (jx_then (jc_region (qh [0,0] (qe (qb (w64 (i_2 + 1)) () h trivial [0]))))))
   ·refine jc_exit (jx_thenx (jx_leave (.inr ()) (Option.some.inj h).symm (fun e_39 => ?_)))
    subst e_39
    exact jx_ine (qm () hr_31 [0])
  ·rintro _ h
   replace h : slices_IndexFunc_2int64_at_impl_wornPlaceCode_1.k_1 = some r := h
   rw [slices_IndexFunc_2int64_at_impl_wornPlaceCode_1.k_1] at h
   refine jx_then (jc_seq (jc_region (qh [0] (qe (jx_then (jc_ret ?_))))))
   obtain rfl := Option.some.inj h
   exact qr [] (fun w hm => ⟨rfl, hm.pk [0]⟩)
/-! ### slices.ContainsFunc[[][2]int64,[2]int64] -/
def slices_ContainsFunc_2int64_at_impl_wornPlaceCode_1 (s0 : List (Arr 2 Int)) (g1c0 : GFrame) : Option (Bool) := (slices_IndexFunc_2int64_at_impl_wornPlaceCode_1 s0 g1c0).bind fun t_1 => some (decide (t_1 ≥ 0))
theorem slices_ContainsFunc_2int64_at_impl_wornPlaceCode_1.calls (s0 : List (Arr 2 Int)) (g1c0 : GFrame) (w : World) (r : Bool) {A_a : Option Addr} {A_an : Nat} (A_c : Nat) (A_h : Rw w A_a 2 encA2I64 s0) (A_hn : s0.length = A_an) {D_a : Option Addr} {D_an : Nat} (D_c : Nat) (D_h : Rw w D_a 2 encGHammer g1c0.fHammers) (D_hn : g1c0.fHammers.length = D_an) (B_b : Nat) (hm0 : Mem w (bs [some B_b]) [⟨some B_b, 27, [(.int .i16 g1c0.fSteps), (.slice D_a D_an D_c)]⟩] w) (A_ha : s0 ≠ [] → aB A_a ∉ bs [some B_b]) (D_ha : g1c0.fHammers ≠ [] → aB D_a ∉ bs [some B_b]) (h : slices_ContainsFunc_2int64_at_impl_wornPlaceCode_1 s0 g1c0 = some r) :
    Calls Tryz.prog 61 #[(.slice A_a A_an A_c), (.func (.func 214) #[] #[(.pointer (some ⟨B_b, 0, none⟩))])] w fun e w' => ∃ v, e = .returned v ∧ (v = (.bool r) ∧ Mem w (bs [some B_b]) [⟨some B_b, 27, [(.int .i16 g1c0.fSteps), (.slice D_a D_an D_c)]⟩] w') := by
  subst A_hn D_hn
  rw [slices_ContainsFunc_2int64_at_impl_wornPlaceCode_1] at h
  refine enter (args := [(.slice A_a s0.length A_c), (.func (.func 214) #[] #[(.pointer (some ⟨B_b, 0, none⟩))])]) Tryz.func61 rfl Tryz.ntmps61 (by kernel_rfl) (L := [⟨some B_b, 27, [(.int .i16 g1c0.fSteps), (.slice D_a g1c0.fHammers.length D_c)]⟩]) (W := bs [some B_b]) hm0 ?_
  refine jc_seq (jc_region (qh [0] (qe (jx_then (jc_seq (jc_region (qh [0,0] ?_)))))))
  obtain ⟨t_1, ht_1, h⟩ := bd h
  refine tO (pc 0 (fun w hm => slices_IndexFunc_2int64_at_impl_wornPlaceCode_1.calls s0 g1c0 w _ A_c (hm.exRowW A_h A_ha) rfl D_c (hm.exRowW D_h D_ha) rfl B_b (hm.pass (N := [⟨some B_b, 27, [(.int .i16 g1c0.fSteps), (.slice D_a g1c0.fHammers.length D_c)]⟩]) [0] (by kernel_rfl) (by kernel_rfl)) (hm.exApart (N := [⟨some B_b, 27, [(.int .i16 g1c0.fSteps), (.slice D_a g1c0.fHammers.length D_c)]⟩]) A_h A_ha [0] (by kernel_rfl)) (hm.exApart (N := [⟨some B_b, 27, [(.int .i16 g1c0.fSteps), (.slice D_a g1c0.fHammers.length D_c)]⟩]) D_h D_ha [0] (by kernel_rfl)) ht_1) ?_)
  rintro w v w' hm ⟨rfl, hm'⟩
  refine ⟨_, hm.appW (ps := [(0, ⟨some B_b, 27, [(.int .i16 g1c0.fSteps), (.slice D_a g1c0.fHammers.length D_c)]⟩)]) (N := []) hm' (by kernel_rfl) (by kernel_rfl), jkO ?_⟩
  clear hm hm'
  refine qh [0,0] (qe (jx_then (jc_ret ?_)))
  obtain rfl := Option.some.inj h
  exact qr [] (fun w hm => ⟨rfl, hm.pk [0]⟩)
/-! ### impl.wornPlaceCode -/
def impl_wornPlaceCode (f0 : GFrame) (w1 : GWear) (places2 : List (Arr 2 Int)) : Option (Int) := (impl_wearCode f0 w1 []).bind fun t_1 => (if (t_1 != 0) = true then some t_1 else (slices_ContainsFunc_2int64_at_impl_wornPlaceCode_1 places2 f0).bind fun t_2 => (impl_unless (!t_2) 2).bind fun t_3 => some t_3)
theorem impl_wornPlaceCode.calls (f0 : GFrame) (w1 : GWear) (places2 : List (Arr 2 Int)) (w : World) (r : Int) {C_a : Option Addr} {C_an : Nat} (C_c : Nat) (C_h : Rw w C_a 2 encGHammer f0.fHammers) (C_hn : f0.fHammers.length = C_an) {E_a : Option Addr} {E_an : Nat} (E_c : Nat) (E_h : Rw w E_a 3 encGWornPin w1.fPins) (E_hn : w1.fPins.length = E_an) {F_a : Option Addr} {F_an : Nat} (F_c : Nat) (F_h : Rw w F_a 1 encI64 w1.fStrokes) (F_hn : w1.fStrokes.length = F_an) {G_a : Option Addr} {G_an : Nat} (G_c : Nat) (G_h : Rw w G_a 2 encA2I64 places2) (G_hn : places2.length = G_an) (h : impl_wornPlaceCode f0 w1 places2 = some r) :
    Calls Tryz.prog 169 #[(.agg #[(.int .i16 f0.fSteps), (.slice C_a C_an C_c)]), (.agg #[(.slice E_a E_an E_c), (.slice F_a F_an F_c)]), (.slice G_a G_an G_c)] w fun e w' => ∃ v, e = .returned v ∧ (v = (.int .i64 r) ∧ Mem w [] [] w') := by
  subst C_hn E_hn F_hn G_hn
  rw [impl_wornPlaceCode] at h
  refine enter (args := [(.agg #[(.int .i16 f0.fSteps), (.slice C_a f0.fHammers.length C_c)]), (.agg #[(.slice E_a w1.fPins.length E_c), (.slice F_a w1.fStrokes.length F_c)]), (.slice G_a places2.length G_c)]) Tryz.func169 rfl Tryz.ntmps169 (by kernel_rfl) (L := []) (W := []) (Mem.start w) ?_
  refine jc_seq (jc_region (tO (qa 0 (fun b_1 => jkO (tO (qa 0 (fun b_2 => jkO (qh [0] (qe (jx_then (jc_seq (jc_seq (jc_region (qh [0,1] ?_))))))))))))))
  obtain ⟨t_1, ht_5, h⟩ := bd h
  refine tO (pc 0 (fun w hm => impl_wearCode.calls f0 w1 [] w _ C_c (hm.xr C_h) rfl E_c (hm.xr E_h) rfl F_c (hm.xr F_h) rfl 0 Rw.nil rfl ht_5) ?_)
  rintro w v w' hm ⟨rfl, hm'⟩
  refine ⟨_, hm.app hm', jkO ?_⟩
  clear hm hm'
  refine qh [0] (qe (jx_then (jc_seq (jc_region (qh [0,0] (qe (jx_then (qi h (fun h => ?_) (fun h => ?_)))))))))
  ·refine jc_seq (jc_region (qh [0,0] (qe (jx_then (jc_ret (jx_thenr ?_))))))
   obtain rfl := Option.some.inj h
   exact qr [] (fun w hm => ⟨rfl, hm.pk []⟩)
  ·refine jc_skip (jx_then (jc_seq (jc_region (qh [0,0] ?_))))
   obtain ⟨t_2, ht_7, h⟩ := bd h
   refine tO (pc 0 (fun w hm => slices_ContainsFunc_2int64_at_impl_wornPlaceCode_1.calls places2 f0 w _ G_c (hm.xr G_h) rfl C_c (hm.xr C_h) rfl b_1 (hm.pass (N := [⟨some b_1, 27, [(.int .i16 f0.fSteps), (.slice C_a f0.fHammers.length C_c)]⟩]) [0] (by kernel_rfl) (by kernel_rfl)) (hm.exApart (N := [⟨some b_1, 27, [(.int .i16 f0.fSteps), (.slice C_a f0.fHammers.length C_c)]⟩]) G_h (fun _ => List.not_mem_nil) [0] (by kernel_rfl)) (hm.exApart (N := [⟨some b_1, 27, [(.int .i16 f0.fSteps), (.slice C_a f0.fHammers.length C_c)]⟩]) C_h (fun _ => List.not_mem_nil) [0] (by kernel_rfl)) ht_7) ?_)
   rintro w v w' hm ⟨rfl, hm'⟩
   refine ⟨_, hm.appW (ps := [(0, ⟨some b_1, 27, [(.int .i16 f0.fSteps), (.slice C_a f0.fHammers.length C_c)]⟩)]) (N := []) hm' (by kernel_rfl) (by kernel_rfl), jkO ?_⟩
   clear hm hm'
   refine qh [0] ?_
   obtain ⟨t_3, ht_8, h⟩ := bd h
   refine tO (pc 0 (fun w hm => impl_unless.calls (!t_2) 2 w _ ht_8) ?_)
   rintro w v w' hm ⟨rfl, hm'⟩
   refine ⟨_, hm.app hm', jkO ?_⟩
   clear hm hm'
   refine qh [0] (qe (jx_then (jc_ret ?_)))
   obtain rfl := Option.some.inj h
   exact qr [] (fun w hm => ⟨rfl, hm.pk []⟩)
/-! ### impl.NewHammer -/
def impl_NewHammer (f0 : GFrame) (w1 : GWear) (track2 : Int) : Option (GWear × Int) := (impl_wornPlaceCode f0 w1 ([(Arr.set (Arr.set (Arr.rep 2 0) 0 0) 1 track2)] : List (Arr 2 Int))).bind fun t_1 => (if (t_1 != 0) = true then some ((⟨[], []⟩ : GWear), t_1) else (impl_Wear_own w1).bind fun t_2 => (ix t_2.fStrokes track2).bind fun x_3 => some ((⟨t_2.fPins, (t_2.fStrokes.set track2.toNat 0)⟩ : GWear), 0))
theorem impl_NewHammer.calls (f0 : GFrame) (w1 : GWear) (track2 : Int) (w : World) (r : GWear × Int) {C_a : Option Addr} {C_an : Nat} (C_c : Nat) (C_h : Rw w C_a 2 encGHammer f0.fHammers) (C_hn : f0.fHammers.length = C_an) {E_a : Option Addr} {E_an : Nat} (E_c : Nat) (E_h : Rw w E_a 3 encGWornPin w1.fPins) (E_hn : w1.fPins.length = E_an) {F_a : Option Addr} {F_an : Nat} (F_c : Nat) (F_h : Rw w F_a 1 encI64 w1.fStrokes) (F_hn : w1.fStrokes.length = F_an) (h : impl_NewHammer f0 w1 track2 = some r) :
    Calls Tryz.prog 93 #[(.agg #[(.int .i16 f0.fSteps), (.slice C_a C_an C_c)]), (.agg #[(.slice E_a E_an E_c), (.slice F_a F_an F_c)]), (.int .i64 track2)] w fun e w' => ∃ v, e = .returned v ∧ (∃ (o0 : Option Nat) (c0 : Nat) (s0 : List Value) (n0 : Nat), r.1.fPins.length = n0 ∧ (o0 ≠ none → n0 ≤ c0 ∧ s0.length = (c0 - n0) * 3) ∧ (o0 = none → r.1.fPins = [] ∧ c0 = 0) ∧ ∃ (o1 : Option Nat) (c1 : Nat) (s1 : List Value) (n1 : Nat), r.1.fStrokes.length = n1 ∧ (o1 ≠ none → n1 ≤ c1 ∧ s1.length = (c1 - n1) * 1) ∧ (o1 = none → r.1.fStrokes = [] ∧ c1 = 0) ∧ v = .tuple #[.agg #[.slice (o0.map fun b => ⟨b, 0, none⟩) n0 c0, .slice (o1.map fun b => ⟨b, 0, none⟩) n1 c1], (.int .i64 r.2)] ∧ Mem w [] [⟨o0, 147, row encGWornPin r.1.fPins s0⟩, ⟨o1, 2, row encI64 r.1.fStrokes s1⟩] w') := by
  subst C_hn E_hn F_hn
  rw [impl_NewHammer] at h
  refine enter (args := [(.agg #[(.int .i16 f0.fSteps), (.slice C_a f0.fHammers.length C_c)]), (.agg #[(.slice E_a w1.fPins.length E_c), (.slice F_a w1.fStrokes.length F_c)]), (.int .i64 track2)]) Tryz.func93 rfl Tryz.ntmps93 (by kernel_rfl) (L := []) (W := []) (Mem.start w) ?_
  refine jc_seq (jc_region (tO (qa 0 (fun b_1 => jkO (tO (qa 0 (fun b_2 => jkO (tO (qa 0 (fun b_3 => jkO (qh [0] (qe (jx_then (jc_seq (jc_seq (jc_region (qh [0,1,0,0] (tO (p_bs 0 117 2 1 encA2I64 [(.agg (row encI64 (Arr.set (Arr.set (Arr.rep 2 0) 0 0) 1 track2).1 []).toArray)] [(Arr.set (Arr.set (Arr.rep 2 0) 0 0) 1 track2)] (by kernel_rfl) (by kernel_rfl) rfl (by kernel_rfl) (by kernel_rfl) encA2I64_len (fun b_7 => jkO ?_))))))))))))))))))))
  obtain ⟨t_1, ht_8, h⟩ := bd h
  refine tO (pc 0 (fun w hm => impl_wornPlaceCode.calls f0 w1 ([(Arr.set (Arr.set (Arr.rep 2 0) 0 0) 1 track2)] : List (Arr 2 Int)) w _ C_c (hm.xr C_h) rfl E_c (hm.xr E_h) rfl F_c (hm.xr F_h) rfl 1 (hm.ow 3 (some b_7) 117 ([(Arr.set (Arr.set (Arr.rep 2 0) 0 0) 1 track2)] : List (Arr 2 Int)) [] (fun e => nomatch e) encA2I64_len) rfl ht_8) ?_)
  rintro w v w' hm ⟨rfl, hm'⟩
  refine ⟨_, hm.app hm', jkO ?_⟩
  clear hm hm'
  refine qh [0] (qe (jx_then (jc_seq (jc_region (qh [0,0] (qe (jx_then (qi h (fun h => ?_) (fun h => ?_)))))))))
  ·refine jc_seq (jc_region (qh [0,0] (tO (qs 0 [2] (jkO (qh [0] (qe (jx_then (jc_ret (jx_thenr ?_))))))))))
   obtain rfl := Option.some.inj h
   exact jx_ghost 147 encGWornPin (jx_ghost 2 encI64 (qr [2] (fun w hm => ⟨none, 0, [], 0, rfl, (fun e => absurd rfl e), (fun _ => ⟨rfl, rfl⟩), none, 0, [], 0, rfl, (fun e => absurd rfl e), (fun _ => ⟨rfl, rfl⟩), rfl, hm.pk [4, 5]⟩)))
  ·refine jc_skip (jx_then (jc_seq (jc_region (qh [1] ?_))))
   obtain ⟨t_2, ht_10, h⟩ := bd h
   refine tO (pc 0 (fun w hm => impl_Wear_own.calls w1 w _ E_c (hm.xr E_h) rfl F_c (hm.xr F_h) rfl ht_10) ?_)
   rintro w v w' hm ⟨o_11, cap_12, sp_13, _, rfl, hs_14, ho_15, o_16, cap_17, sp_18, _, rfl, hs_19, ho_20, rfl, hm'⟩
   refine ⟨_, hm.app hm', jkO ?_⟩
   clear hm hm'
   refine tO (qa 0 (fun b_21 => jkO (tO (qs 0 [6] (jkO (qe (jx_then (jc_seq (jc_region (qh [0,6,0] ?_))))))))))
   obtain ⟨x_3, hx_22, h⟩ := bd h
   refine tO (qx 0 (o_16.map fun b => ⟨b, 0, none⟩) 1 hx_22 rfl (spo ho_20 hx_22) (jkO (tO (p_strO 0 5 o_16 2 encI64 t_2.fStrokes sp_18 track2 0 1 0 [(.int .i64 0)] (by kernel_rfl) (by kernel_rfl) (by kernel_rfl) (fun e => (ho_20 e).1) encI64_len hx_22 (by kernel_rfl) (by kernel_rfl) (jkO (qe (jx_then (jc_seq (jc_region (qh [6] (tO (qs 0 [2] (jkO (qh [0] (qe (jx_then (jc_ret ?_)))))))))))))))))
   obtain rfl := Option.some.inj h
   exact qr [2] (fun w hm => ⟨o_11, cap_12, sp_13, t_2.fPins.length, rfl, hs_14, ho_15, o_16, cap_17, sp_18, t_2.fStrokes.length, (List.length_set.trans rfl), hs_19, (set_ho ho_20), rfl, hm.pk [4, 5]⟩)
/-! ### (impl.Wear).at$1 -/
def impl_Wear_at_1 (p0 : GWornPin) (p1 : Int) (p2 : Int) : Option (Bool) := some (((w64 p0.fStep) == p1) && ((w64 p0.fTrack) == p2))
theorem impl_Wear_at_1.calls (p0 : GWornPin) (p1 : Int) (p2 : Int) (w : World) (r : Bool) (E_b : Nat) (F_b : Nat) (hm0 : Mem w (bs [some E_b, some F_b]) [⟨some E_b, 2, [(.int .i64 p1)]⟩, ⟨some F_b, 2, [(.int .i64 p2)]⟩] w) (h : impl_Wear_at_1 p0 p1 p2 = some r) :
    Calls Tryz.prog 216 #[(.agg #[(.int .i8 p0.fStep), (.int .i8 p0.fTrack), (.int .i64 p0.fTurns)]), (.pointer (some ⟨E_b, 0, none⟩)), (.pointer (some ⟨F_b, 0, none⟩))] w fun e w' => ∃ v, e = .returned v ∧ (v = (.bool r) ∧ Mem w (bs [some E_b, some F_b]) [⟨some E_b, 2, [(.int .i64 p1)]⟩, ⟨some F_b, 2, [(.int .i64 p2)]⟩] w') := by
  rw [impl_Wear_at_1] at h
  refine enter (args := [(.agg #[(.int .i8 p0.fStep), (.int .i8 p0.fTrack), (.int .i64 p0.fTurns)]), (.pointer (some ⟨E_b, 0, none⟩)), (.pointer (some ⟨F_b, 0, none⟩))]) Tryz.func216 rfl Tryz.ntmps216 (by kernel_rfl) (L := [⟨some E_b, 2, [(.int .i64 p1)]⟩, ⟨some F_b, 2, [(.int .i64 p2)]⟩]) (W := bs [some E_b, some F_b]) hm0 ?_
  refine jc_seq (jc_region (tO (qa 0 (fun b_1 => jkO (qh [0] (qe (jx_then (jc_seq (jc_region (qf [(0, 0), (2, 0), (0, 0), (0, 0), (0, 0), (0, 0), (0, 1), (2, 1), (0, 1), (1, 1), (0, 1), (0, 0), (0, 0)] (qe (jx_then (jc_ret ?_)))))))))))))
  obtain rfl := Option.some.inj h
  exact qr [] (fun w hm => ⟨rfl, hm.pk [0, 1]⟩)
/-! ### slices.IndexFunc[[]impl.WornPin,impl.WornPin] -/
def slices_IndexFunc_WornPin_at_impl_Wear_at_1.k_1 : Option (Int) := some (-1)
def slices_IndexFunc_WornPin_at_impl_Wear_at_1.l_3 (s0 : List GWornPin) (g1c0 : Int) (g1c1 : Int) : Int → Option ((Int) ⊕ (Int ⊕ Unit))
  | i_2 => (if (decide (i_2 < (s0.length : Int))) = true then (ix s0 i_2).bind fun x_5 => (impl_Wear_at_1 x_5 g1c0 g1c1).bind fun t_6 => (if t_6 = true then some (.inr (.inl i_2)) else some (.inl (w64 (i_2 + 1)))) else some (.inr (.inr ())))
def slices_IndexFunc_WornPin_at_impl_Wear_at_1 (s0 : List GWornPin) (g1c0 : Int) (g1c1 : Int) : Option (Int) := (loop (slices_IndexFunc_WornPin_at_impl_Wear_at_1.l_3 s0 g1c0 g1c1) 0).bind fun t_4 => match t_4 with | .inl p => some p | .inr p => slices_IndexFunc_WornPin_at_impl_Wear_at_1.k_1
theorem slices_IndexFunc_WornPin_at_impl_Wear_at_1.calls (s0 : List GWornPin) (g1c0 : Int) (g1c1 : Int) (w : World) (r : Int) {A_a : Option Addr} {A_an : Nat} (A_c : Nat) (A_h : Rw w A_a 3 encGWornPin s0) (A_hn : s0.length = A_an) (B_b : Nat) (C_b : Nat) (hm0 : Mem w (bs [some B_b, some C_b]) [⟨some B_b, 2, [(.int .i64 g1c0)]⟩, ⟨some C_b, 2, [(.int .i64 g1c1)]⟩] w) (A_ha : s0 ≠ [] → aB A_a ∉ bs [some B_b, some C_b]) (h : slices_IndexFunc_WornPin_at_impl_Wear_at_1 s0 g1c0 g1c1 = some r) :
    Calls Tryz.prog 215 #[(.slice A_a A_an A_c), (.func (.func 216) #[] #[(.pointer (some ⟨B_b, 0, none⟩)), (.pointer (some ⟨C_b, 0, none⟩))])] w fun e w' => ∃ v, e = .returned v ∧ (v = (.int .i64 r) ∧ Mem w (bs [some B_b, some C_b]) [⟨some B_b, 2, [(.int .i64 g1c0)]⟩, ⟨some C_b, 2, [(.int .i64 g1c1)]⟩] w') := by
  subst A_hn
  rw [slices_IndexFunc_WornPin_at_impl_Wear_at_1] at h
  refine enter (args := [(.slice A_a s0.length A_c), (.func (.func 216) #[] #[(.pointer (some ⟨B_b, 0, none⟩)), (.pointer (some ⟨C_b, 0, none⟩))])]) Tryz.func215 rfl Tryz.ntmps215 (by kernel_rfl) (L := [⟨some B_b, 2, [(.int .i64 g1c0)]⟩, ⟨some C_b, 2, [(.int .i64 g1c1)]⟩]) (W := bs [some B_b, some C_b]) hm0 ?_
  refine jc_seq (jc_region (qh [0] (qe (jx_then (jc_seq (jc_seq (jc_region (qh [0,0,0] (qe (jx_then (jc_meet (fun (_ : Unit) => slices_IndexFunc_WornPin_at_impl_Wear_at_1.k_1 = some r) (fun (_ : Unit) => [(4, [], (.int .i64 0))]) (fun (_ : Unit) => [⟨some B_b, 2, [(.int .i64 g1c0)]⟩, ⟨some C_b, 2, [(.int .i64 g1c1)]⟩]) ?_ ?_)))))))))))
  ·refine jc_block ?_
   obtain ⟨t_4, ht_40, hr_31⟩ := bd h
   refine jc_loop (fun (s : Int) (x : Unit) => match s, x with | i_2, _ => True) (fun (s : Int) (x : Unit) => match s, x with | i_2, _ => [(0, [], (.slice A_a s0.length A_c)), (1, [], (.func (.func 216) #[] #[(.pointer (some ⟨B_b, 0, none⟩)), (.pointer (some ⟨C_b, 0, none⟩))])), (4, [], (.int .i64 0)), (7, [], (.int .i64 (s0.length : Int))), (8, [], (.int .i64 i_2))]) (fun (s : Int) (x : Unit) => match s, x with | i_2, _ => [⟨some B_b, 2, [(.int .i64 g1c0)]⟩, ⟨some C_b, 2, [(.int .i64 g1c1)]⟩]) ht_40 () trivial (by kernel_rfl) [0, 1] (by kernel_rfl) (by kernel_rfl) ?_
   rintro i_2 _ y_32 _ h
   rw [slices_IndexFunc_WornPin_at_impl_Wear_at_1.l_3] at h
   refine jc_seq (jc_region (qh [0] (qe (jx_then (jc_seq (qi h (fun h => ?_) (fun h => ?_)))))))
   ·refine jc_skip (jx_then (jc_seq (jc_block (jc_seq (jc_region (qh [0,0] (qe (jx_then (jc_seq (jc_region (qh [0,0,0] ?_)))))))))))
    obtain ⟨x_5, hx_35, h⟩ := bd h
    refine tO (qx 0 A_a 3 hx_35 rfl (A_h.sp hx_35) (jkO (tO (ql 0 true (fun w hm => ((hm.exRowW A_h A_ha).at hx_35)) (jkO ?_)))))
    obtain ⟨t_6, ht_36, h⟩ := bd h
    refine tO (pc 0 (fun w hm => impl_Wear_at_1.calls x_5 g1c0 g1c1 w _ B_b C_b (hm.pass (N := [⟨some B_b, 2, [(.int .i64 g1c0)]⟩, ⟨some C_b, 2, [(.int .i64 g1c1)]⟩]) [0, 1] (by kernel_rfl) (by kernel_rfl)) ht_36) ?_)
    rintro w v w' hm ⟨rfl, hm'⟩
    refine ⟨_, hm.appW (ps := [(0, ⟨some B_b, 2, [(.int .i64 g1c0)]⟩), (1, ⟨some C_b, 2, [(.int .i64 g1c1)]⟩)]) (N := []) hm' (by kernel_rfl) (by kernel_rfl), jkO ?_⟩
    clear hm hm'
    refine qe (jx_then (qi h (fun h => ?_) (fun h => ?_)))
    ·refine jc_seq (jc_region (qh [0,0] (qe (jx_then (jc_ret (jx_inr (jx_thenr (jx_leaver (.inl i_2) (Option.some.inj h).symm (fun e_38 => ?_)))))))))
     subst e_38
     refine jx_inr (jx_thenr (jx_thenr ?_))
     obtain rfl := Option.some.inj hr_31
     exact qr [] (fun w hm => ⟨rfl, hm.pk [0, 1]⟩)
    ·exact jc_skip (jx_inn (jx_then (jc_region (qh [0,0] (qe (qb (w64 (i_2 + 1)) () h trivial [0, 1]))))))
   ·refine jc_exit (jx_thenx (jx_leave (.inr ()) (Option.some.inj h).symm (fun e_39 => ?_)))
    subst e_39
    exact jx_ine (qm () hr_31 [0, 1])
  ·rintro _ h
   replace h : slices_IndexFunc_WornPin_at_impl_Wear_at_1.k_1 = some r := h
   rw [slices_IndexFunc_WornPin_at_impl_Wear_at_1.k_1] at h
   refine jx_then (jc_seq (jc_region (qh [0] (qe (jx_then (jc_ret ?_))))))
   obtain rfl := Option.some.inj h
   exact qr [] (fun w hm => ⟨rfl, hm.pk [0, 1]⟩)
/-! ### (impl.Wear).at -/
def impl_Wear_at (w0 : GWear) (step1 : Int) (track2 : Int) : Option (Int) := (slices_IndexFunc_WornPin_at_impl_Wear_at_1 w0.fPins step1 track2).bind fun t_1 => some t_1
theorem impl_Wear_at.calls (w0 : GWear) (step1 : Int) (track2 : Int) (w : World) (r : Int) {B_a : Option Addr} {B_an : Nat} (B_c : Nat) (B_h : Rw w B_a 3 encGWornPin w0.fPins) (B_hn : w0.fPins.length = B_an) {C_a : Option Addr} {C_an : Nat} (C_c : Nat) (C_h : Rw w C_a 1 encI64 w0.fStrokes) (C_hn : w0.fStrokes.length = C_an) (h : impl_Wear_at w0 step1 track2 = some r) :
    Calls Tryz.prog 170 #[(.agg #[(.slice B_a B_an B_c), (.slice C_a C_an C_c)]), (.int .i64 step1), (.int .i64 track2)] w fun e w' => ∃ v, e = .returned v ∧ (v = (.int .i64 r) ∧ Mem w [] [] w') := by
  subst B_hn C_hn
  rw [impl_Wear_at] at h
  refine enter (args := [(.agg #[(.slice B_a w0.fPins.length B_c), (.slice C_a w0.fStrokes.length C_c)]), (.int .i64 step1), (.int .i64 track2)]) Tryz.func170 rfl Tryz.ntmps170 (by kernel_rfl) (L := []) (W := []) (Mem.start w) ?_
  refine jc_seq (jc_region (tO (qa 0 (fun b_1 => jkO (tO (qa 0 (fun b_2 => jkO (tO (qa 0 (fun b_3 => jkO (qh [0] (qe (jx_then (jc_seq (jc_region (qh [0,0,0] ?_))))))))))))))))
  obtain ⟨t_1, ht_4, h⟩ := bd h
  refine tO (pc 0 (fun w hm => slices_IndexFunc_WornPin_at_impl_Wear_at_1.calls w0.fPins step1 track2 w _ B_c (hm.xr B_h) rfl b_2 b_3 (hm.pass (N := [⟨some b_2, 2, [(.int .i64 step1)]⟩, ⟨some b_3, 2, [(.int .i64 track2)]⟩]) [1, 2] (by kernel_rfl) (by kernel_rfl)) (hm.exApart (N := [⟨some b_2, 2, [(.int .i64 step1)]⟩, ⟨some b_3, 2, [(.int .i64 track2)]⟩]) B_h (fun _ => List.not_mem_nil) [1, 2] (by kernel_rfl)) ht_4) ?_)
  rintro w v w' hm ⟨rfl, hm'⟩
  refine ⟨_, hm.appW (ps := [(1, ⟨some b_2, 2, [(.int .i64 step1)]⟩), (2, ⟨some b_3, 2, [(.int .i64 track2)]⟩)]) (N := []) hm' (by kernel_rfl) (by kernel_rfl), jkO ?_⟩
  clear hm hm'
  refine qh [0] (qe (jx_then (jc_ret ?_)))
  obtain rfl := Option.some.inj h
  exact qr [] (fun w hm => ⟨rfl, hm.pk []⟩)
/-! ### slices.Delete[[]impl.WornPin,impl.WornPin] -/
def slices_Delete_WornPin (s0 : List GWornPin) (i1 : Int) (j2 : Int) : Option ((List GWornPin)) := (if 0 ≤ i1 ∧ i1 ≤ j2 ∧ j2 ≤ (s0.length : Int) ∧ (s0.length : Int) ≤ (s0.length : Int) then (if (i1 == j2) = true then some s0 else (if 0 ≤ i1 ∧ i1 ≤ (s0.length : Int) then (if 0 ≤ j2 ∧ j2 ≤ (s0.length : Int) then (if i1.toNat + (s0.drop j2.toNat).length ≤ s0.length then some (s0.take i1.toNat ++ (s0.drop j2.toNat)) else none) else none) else none)) else none)
theorem slices_Delete_WornPin.calls (s0 : List GWornPin) (i1 : Int) (j2 : Int) (w : World) (r : (List GWornPin)) (A_o : Option Nat) {A_on : Nat} {A_c : Nat} {A_sp : List Value} (A_hn : s0.length = A_on) (A_hs : A_o ≠ none → A_on ≤ A_c ∧ A_sp.length = (A_c - A_on) * 3) (A_ho : A_o = none → s0 = [] ∧ A_c = 0) (hm0 : Mem w (bs [A_o]) [⟨A_o, 147, row encGWornPin s0 A_sp⟩] w) (h : slices_Delete_WornPin s0 i1 j2 = some r) :
    Calls Tryz.prog 217 #[(.slice (A_o.map fun b => ⟨b, 0, none⟩) A_on A_c), (.int .i64 i1), (.int .i64 j2)] w fun e w' => ∃ v, e = .returned v ∧ (∃ (o0 : Option Nat) (c0 : Nat) (s0 : List Value) (n0 : Nat), r.length = n0 ∧ (o0 ≠ none → n0 ≤ c0 ∧ s0.length = (c0 - n0) * 3) ∧ (o0 = none → r = [] ∧ c0 = 0) ∧ v = .slice (o0.map fun b => ⟨b, 0, none⟩) n0 c0 ∧ Mem w (bs [A_o]) [⟨o0, 147, row encGWornPin r s0⟩] w') := by
  subst A_hn
  rw [slices_Delete_WornPin] at h
  refine enter (args := [(.slice (A_o.map fun b => ⟨b, 0, none⟩) s0.length A_c), (.int .i64 i1), (.int .i64 j2)]) Tryz.func217 rfl Tryz.ntmps217 (by kernel_rfl) (L := [⟨A_o, 147, row encGWornPin s0 A_sp⟩]) (W := bs [A_o]) hm0 ?_
  refine jc_seq (jc_region (qh [0] (qe (jx_then (jc_seq (jc_region (qh [0,0,0,0,0] ?_)))))))
  obtain ⟨hg_1, h⟩ := gd h
  refine tO (p_slM 0 (A_o.map fun b => ⟨b, 0, none⟩) s0.length A_c 3 i1 j2 (s0.length : Int) (by kernel_rfl) (by kernel_rfl) hg_1.1 hg_1.2.1 hg_1.2.2.1 (Int.le_trans hg_1.2.2.2 (Int.ofNat_le.2 (cap_le rfl A_hs A_ho))) (jkO (qe (jx_then (jc_seq (jc_seq (jc_region (qh [0,0,0] (qe (jx_then (qi h (fun h => ?_) (fun h => ?_))))))))))))
  ·refine jc_seq (jc_region (qh [0,0] (qe (jx_then (jc_ret (jx_thenr ?_))))))
   obtain rfl := Option.some.inj h
   exact qr [] (fun w hm => ⟨A_o, A_c, A_sp, s0.length, rfl, A_hs, A_ho, rfl, hm.pk [0]⟩)
  ·refine jc_skip (jx_then (jc_seq (jc_region (qh [0,0,0] (qe (jx_then (jc_seq (qg [] 8 (qd [⟨0, 0, 0⟩,⟨1, 0, 0⟩,⟨3, 0, 0⟩,⟨4, 0, 0⟩] 4 [] ?_)))))))))
   obtain ⟨hg_6, h⟩ := gd h
   refine qv 2 0 [] (fun w hm => slH_run (a := (A_o.map fun b => ⟨b, 0, none⟩)) (len := s0.length) (cap := A_c) (size := 3) (h := i1) (by kernel_rfl) hg_6.1 (Int.le_trans hg_6.2 (Int.ofNat_le.2 (cap_le rfl A_hs A_ho)))) ?_
   obtain ⟨hg_7, h⟩ := gd h
   refine qv 5 0 [] (fun w hm => slL_run (a := (A_o.map fun b => ⟨b, 0, none⟩)) (len := s0.length) (cap := A_c) (size := 3) (l := j2) (by kernel_rfl) hg_7.1 (Int.le_trans hg_7.2 (Int.ofNat_le.2 (Nat.le_of_eq rfl)))) ?_
   obtain ⟨hg_8, h⟩ := gd h
   refine tD 6 (p_apN 0 0 A_o 147 i1.toNat s0.length (s0.length - j2.toNat) A_c 3 16 (pa (A_o.map fun b => ⟨b, 0, none⟩) j2.toNat A_c 3) encGWornPin s0 (s0.drop j2.toNat) A_sp hg_8 rfl (tl_len rfl j2) (by kernel_rfl) (by kernel_rfl) (by kernel_rfl) encGWornPin_len encGWornPin_cell A_hs A_ho (fun w hm => ((hm.ow 0 A_o 147 s0 A_sp (fun e => (A_ho e).1) encGWornPin_len).tl j2.toNat A_c (cap_le rfl A_hs A_ho))) (fun sp_11 hs_12 ho_13 => kD [] (qd [⟨7, 0, 0⟩] 0 [] (qz (jx_then (jc_seq (jc_region (qh [0,0,0,0] (tO (p_slLH 0 (A_o.map fun b => ⟨b, 0, none⟩) ((s0.take i1.toNat ++ (s0.drop j2.toNat)).length) A_c 3 (((s0.take i1.toNat ++ (s0.drop j2.toNat)).length) : Int) (s0.length : Int) (by kernel_rfl) (by kernel_rfl) (by omega) (Int.ofNat_le.2 (Nat.le_trans (apn_le hg_8) (Nat.le_of_eq rfl))) (Int.ofNat_le.2 (show s0.length ≤ A_c by have := (cap_le rfl A_hs A_ho); have : s0.length = s0.length := rfl; omega)) (jkO (tO (p_clr 0 0 A_o 147 ((((s0.take i1.toNat ++ (s0.drop j2.toNat)).length) : Int).toNat) ((s0.take i1.toNat ++ (s0.drop j2.toNat)).length) ((s0.length : Int).toNat - (((s0.take i1.toNat ++ (s0.drop j2.toNat)).length) : Int).toNat) A_c 3 [(.int .i8 0), (.int .i8 0), (.int .i64 0)] encGWornPin (s0.take i1.toNat ++ (s0.drop j2.toNat)) sp_11 rfl (by omega) (by kernel_rfl) (by kernel_rfl) (by kernel_rfl) encGWornPin_len (by kernel_rfl) hs_12 ho_13 (by have := (show s0.length ≤ A_c by have := (cap_le rfl A_hs A_ho); have : s0.length = s0.length := rfl; omega); have := (Nat.le_trans (apn_le hg_8) (Nat.le_of_eq rfl)); omega) (fun sp_15 hl_16 => jkO (qe (jx_then (jc_seq (jc_region (qh [0,0] (qe (jx_then (jc_ret ?_))))))))))))))))))))))
   obtain rfl := Option.some.inj h
   exact qr [] (fun w hm => ⟨A_o, A_c, sp_15, ((s0.take i1.toNat ++ (s0.drop j2.toNat)).length), rfl, (fun e => ⟨(hs_12 e).1, hl_16.trans (hs_12 e).2⟩), ho_13, rfl, hm.pk [0]⟩)
/-! ### (impl.Wear).without -/
def impl_Wear_without (w0 : GWear) (i1 : Int) : Option (GWear) := (impl_Wear_own w0).bind fun t_1 => (slices_Delete_WornPin t_1.fPins i1 (w64 (i1 + 1))).bind fun t_2 => some (⟨t_2, t_1.fStrokes⟩ : GWear)
theorem impl_Wear_without.calls (w0 : GWear) (i1 : Int) (w : World) (r : GWear) {B_a : Option Addr} {B_an : Nat} (B_c : Nat) (B_h : Rw w B_a 3 encGWornPin w0.fPins) (B_hn : w0.fPins.length = B_an) {C_a : Option Addr} {C_an : Nat} (C_c : Nat) (C_h : Rw w C_a 1 encI64 w0.fStrokes) (C_hn : w0.fStrokes.length = C_an) (h : impl_Wear_without w0 i1 = some r) :
    Calls Tryz.prog 171 #[(.agg #[(.slice B_a B_an B_c), (.slice C_a C_an C_c)]), (.int .i64 i1)] w fun e w' => ∃ v, e = .returned v ∧ (∃ (o0 : Option Nat) (c0 : Nat) (s0 : List Value) (n0 : Nat), r.fPins.length = n0 ∧ (o0 ≠ none → n0 ≤ c0 ∧ s0.length = (c0 - n0) * 3) ∧ (o0 = none → r.fPins = [] ∧ c0 = 0) ∧ ∃ (o1 : Option Nat) (c1 : Nat) (s1 : List Value) (n1 : Nat), r.fStrokes.length = n1 ∧ (o1 ≠ none → n1 ≤ c1 ∧ s1.length = (c1 - n1) * 1) ∧ (o1 = none → r.fStrokes = [] ∧ c1 = 0) ∧ v = .agg #[.slice (o0.map fun b => ⟨b, 0, none⟩) n0 c0, .slice (o1.map fun b => ⟨b, 0, none⟩) n1 c1] ∧ Mem w [] [⟨o0, 147, row encGWornPin r.fPins s0⟩, ⟨o1, 2, row encI64 r.fStrokes s1⟩] w') := by
  subst B_hn C_hn
  rw [impl_Wear_without] at h
  refine enter (args := [(.agg #[(.slice B_a w0.fPins.length B_c), (.slice C_a w0.fStrokes.length C_c)]), (.int .i64 i1)]) Tryz.func171 rfl Tryz.ntmps171 (by kernel_rfl) (L := []) (W := []) (Mem.start w) ?_
  refine jc_seq (jc_region (tO (qa 0 (fun b_1 => jkO (tO (qa 0 (fun b_2 => jkO (qe (jx_then (jc_seq (jc_region (qh [0] ?_))))))))))))
  obtain ⟨t_1, ht_3, h⟩ := bd h
  refine tO (pc 0 (fun w hm => impl_Wear_own.calls w0 w _ B_c (hm.xr B_h) rfl C_c (hm.xr C_h) rfl ht_3) ?_)
  rintro w v w' hm ⟨o_4, cap_5, sp_6, _, rfl, hs_7, ho_8, o_9, cap_10, sp_11, _, rfl, hs_12, ho_13, rfl, hm'⟩
  refine ⟨_, hm.app hm', jkO ?_⟩
  clear hm hm'
  refine tO (qa 0 (fun b_14 => jkO (tO (qs 0 [4] (jkO (qe (jx_then (jc_seq (jc_region (qh [0,4,0,0,0] ?_))))))))))
  obtain ⟨t_2, ht_15, h⟩ := bd h
  refine tO (pc 0 (fun w hm => slices_Delete_WornPin.calls t_1.fPins i1 (w64 (i1 + 1)) w _ o_4 rfl hs_7 ho_8 (hm.pass (N := [⟨o_4, 147, row encGWornPin t_1.fPins sp_6⟩]) [2] (by kernel_rfl) (by kernel_rfl)) ht_15) ?_)
  rintro w v w' hm ⟨o_16, cap_17, sp_18, _, rfl, hs_19, ho_20, rfl, hm'⟩
  refine ⟨_, hm.appP (ps := []) (ds := [2]) (N := [⟨o_16, 147, row encGWornPin t_2 sp_18⟩]) hm' [0] (by kernel_rfl) (by kernel_rfl) (by kernel_rfl), jkO ?_⟩
  clear hm hm'
  refine qh [0] (tO (qs 0 [4] (jkO (qe (jx_then (jc_seq (jc_region (qh [4] (tO (qs 0 [1] (jkO (qe (jx_then (jc_ret ?_))))))))))))))
  obtain rfl := Option.some.inj h
  exact qr [1] (fun w hm => ⟨o_16, cap_17, sp_18, t_2.length, rfl, hs_19, ho_20, o_9, cap_10, sp_11, t_1.fStrokes.length, rfl, hs_12, ho_13, rfl, hm.pk [5, 3]⟩)
def lay_slices_SortFunc_WornPin_at_impl_comparePins_ren : Go.Shelf.Ren := ⟨fun | 6 => 218 | 15 => 240 | 14 => 243 | 28 => 269 | 29 => 255 | 20 => 270 | 21 => 271 | 22 => 272 | 23 => 273 | 24 => 274 | 25 => 275 | 26 => 276 | 27 => 277 | 46 => 294 | 47 => 290 | 48 => 291 | 49 => 295 | 50 => 296 | 57 => 300 | n => n, fun | 22 => 60 | 24 => 147 | 25 => 263 | 3 => 3 | 39 => 126 | 0 => 0 | 53 => 32 | 55 => 185 | 4 => 4 | 46 => 311 | 45 => 310 | 50 => 315 | 5 => 5 | 9 => 9 | 66 => 327 | 70 => 331 | 76 => 346 | 77 => 347 | n => n, fun | n => n⟩
theorem lay_slices_SortFunc_WornPin_at_impl_comparePins : Go.Proofs.SlLaysF0.n6 Tryz.prog lay_slices_SortFunc_WornPin_at_impl_comparePins_ren where
  mixed := by kernel_rfl
  f6 := ⟨ "slices.SortFunc[[]loop.example/g01311/impl.WornPin,loop.example/g01311/impl.WornPin]", by decide, Tryz.func218.trans (congrArg some (by kernel_rfl))⟩
  f14 := ⟨ "slices.pdqsortCmpFunc[loop.example/g01311/impl.WornPin]", by decide, Tryz.func243.trans (congrArg some (by kernel_rfl))⟩
  f15 := Tryz.func240.trans (congrArg some (by kernel_rfl))
  f20 := ⟨ "slices.insertionSortCmpFunc[loop.example/g01311/impl.WornPin]", by decide, Tryz.func270.trans (congrArg some (by kernel_rfl))⟩
  f21 := ⟨ "slices.heapSortCmpFunc[loop.example/g01311/impl.WornPin]", by decide, Tryz.func271.trans (congrArg some (by kernel_rfl))⟩
  f22 := ⟨ "slices.breakPatternsCmpFunc[loop.example/g01311/impl.WornPin]", by decide, Tryz.func272.trans (congrArg some (by kernel_rfl))⟩
  f23 := ⟨ "slices.choosePivotCmpFunc[loop.example/g01311/impl.WornPin]", by decide, Tryz.func273.trans (congrArg some (by kernel_rfl))⟩
  f24 := ⟨ "slices.reverseRangeCmpFunc[loop.example/g01311/impl.WornPin]", by decide, Tryz.func274.trans (congrArg some (by kernel_rfl))⟩
  f25 := ⟨ "slices.partialInsertionSortCmpFunc[loop.example/g01311/impl.WornPin]", by decide, Tryz.func275.trans (congrArg some (by kernel_rfl))⟩
  f26 := ⟨ "slices.partitionEqualCmpFunc[loop.example/g01311/impl.WornPin]", by decide, Tryz.func276.trans (congrArg some (by kernel_rfl))⟩
  f27 := ⟨ "slices.partitionCmpFunc[loop.example/g01311/impl.WornPin]", by decide, Tryz.func277.trans (congrArg some (by kernel_rfl))⟩
  f28 := Tryz.func269.trans (congrArg some (by kernel_rfl))
  f29 := Tryz.func255.trans (congrArg some (by kernel_rfl))
  f46 := ⟨ "slices.siftDownCmpFunc[loop.example/g01311/impl.WornPin]", by decide, Tryz.func294.trans (congrArg some (by kernel_rfl))⟩
  f47 := Tryz.func290.trans (congrArg some (by kernel_rfl))
  f48 := Tryz.func291.trans (congrArg some (by kernel_rfl))
  f49 := ⟨ "slices.medianAdjacentCmpFunc[loop.example/g01311/impl.WornPin]", by decide, Tryz.func295.trans (congrArg some (by kernel_rfl))⟩
  f50 := ⟨ "slices.medianCmpFunc[loop.example/g01311/impl.WornPin]", by decide, Tryz.func296.trans (congrArg some (by kernel_rfl))⟩
  f57 := ⟨ "slices.order2CmpFunc[loop.example/g01311/impl.WornPin]", by decide, Tryz.func300.trans (congrArg some (by kernel_rfl))⟩
  t0 := Tryz.underlying0
  a0 := Tryz.isAgg0
  z0 := Tryz.sizeOf0
  v0 := Tryz.zeroValue0
  t3 := Tryz.underlying3
  a3 := Tryz.isAgg3
  z3 := Tryz.sizeOf3
  v3 := Tryz.zeroValue3
  t4 := Tryz.underlying4
  a4 := Tryz.isAgg4
  z4 := Tryz.sizeOf4
  v4 := Tryz.zeroValue4
  t5 := Tryz.underlying5
  a5 := Tryz.isAgg5
  z5 := Tryz.sizeOf5
  v5 := Tryz.zeroValue5
  t9 := Tryz.underlying9
  a9 := Tryz.isAgg9
  z9 := Tryz.sizeOf9
  v9 := Tryz.zeroValue9
  t22 := Tryz.underlying60
  a22 := Tryz.isAgg60
  z22 := Tryz.sizeOf60
  v22 := Tryz.zeroValue60
  t25 := Tryz.underlying263
  a25 := Tryz.isAgg263
  z25 := Tryz.sizeOf263
  v25 := Tryz.zeroValue263
  t39 := Tryz.underlying126
  a39 := Tryz.isAgg126
  z39 := Tryz.sizeOf126
  v39 := Tryz.zeroValue126
  t45 := Tryz.underlying310
  a45 := Tryz.isAgg310
  z45 := Tryz.sizeOf310
  v45 := Tryz.zeroValue310
  t46 := Tryz.underlying311
  a46 := Tryz.isAgg311
  z46 := Tryz.sizeOf311
  v46 := Tryz.zeroValue311
  t50 := Tryz.underlying315
  a50 := Tryz.isAgg315
  z50 := Tryz.sizeOf315
  v50 := Tryz.zeroValue315
  t53 := Tryz.underlying32
  a53 := Tryz.isAgg32
  z53 := Tryz.sizeOf32
  v53 := Tryz.zeroValue32
  t55 := Tryz.underlying185
  a55 := Tryz.isAgg185
  z55 := Tryz.sizeOf185
  v55 := Tryz.zeroValue185
  t66 := Tryz.underlying327
  a66 := Tryz.isAgg327
  z66 := Tryz.sizeOf327
  v66 := Tryz.zeroValue327
  t70 := Tryz.underlying331
  a70 := Tryz.isAgg331
  z70 := Tryz.sizeOf331
  v70 := Tryz.zeroValue331
  t76 := Tryz.underlying346
  a76 := Tryz.isAgg346
  z76 := Tryz.sizeOf346
  v76 := Tryz.zeroValue346
  t77 := Tryz.underlying347
  a77 := Tryz.isAgg347
  z77 := Tryz.sizeOf347
  v77 := Tryz.zeroValue347
/-! ### slices.SortFunc[[]impl.WornPin,impl.WornPin] -/
def slices_SortFunc_WornPin_at_impl_comparePins (x0 : List GWornPin) : Option ((List GWornPin)) := sortF (fun a b => impl_comparePins a b) x0
theorem slices_SortFunc_WornPin_at_impl_comparePins.calls (x0 : List GWornPin) (w : World) (r : (List GWornPin)) (x0_o : Option Nat) {x0_on : Nat} {x0_c : Nat} {x0_sp : List Value} (x0_hn : x0.length = x0_on) (x0_hs : x0_o ≠ none → x0_on ≤ x0_c ∧ x0_sp.length = (x0_c - x0_on) * 3) (x0_ho : x0_o = none → x0 = [] ∧ x0_c = 0) (hm0 : Mem w (bs [x0_o]) [⟨x0_o, 147, row encGWornPin x0 x0_sp⟩] w) (h : slices_SortFunc_WornPin_at_impl_comparePins x0 = some r) :
    Calls Tryz.prog 218 #[(.slice (x0_o.map fun b => ⟨b, 0, none⟩) x0_on x0_c), (.func (.func 213) #[] #[])] w fun e w' => ∃ v, e = .returned v ∧ (r.length = x0_on ∧ (x0_o = none → r = [] ∧ x0_c = 0) ∧ v = .tuple #[] ∧ Mem w (bs [x0_o]) [⟨x0_o, 147, row encGWornPin r x0_sp⟩] w') := by
  exact sort_calls lay_slices_SortFunc_WornPin_at_impl_comparePins 3 Tryz.isAgg147 Tryz.sizeOf147 encGWornPin encGWornPin_len (fun x v hv => by simp [encGWornPin] at hv; rcases hv with rfl | rfl | rfl <;> rfl) (fun a b => impl_comparePins a b) 213 (enters_of Tryz.func213 (by kernel_rfl) rfl) (fun x y r w hxy => impl_comparePins.calls (dsW := ⟨True⟩) x y w r hxy) 147 x0 w r x0_o x0_on x0_c x0_sp x0_hn x0_hs x0_ho hm0 (by rw [slices_SortFunc_WornPin_at_impl_comparePins] at h; exact h)
/-! ### (impl.Wear).with -/
def impl_Wear_with (w0 : GWear) (p1 : GWornPin) : Option (GWear) := (impl_Wear_own w0).bind fun t_1 => (if t_1.fPins.length + ([p1] : List GWornPin).length ≤ 4294967296 then (slices_SortFunc_WornPin_at_impl_comparePins (t_1.fPins ++ ([p1] : List GWornPin))).bind fun t_2 => some (⟨t_2, t_1.fStrokes⟩ : GWear) else none)
theorem impl_Wear_with.calls (w0 : GWear) (p1 : GWornPin) (w : World) (r : GWear) {B_a : Option Addr} {B_an : Nat} (B_c : Nat) (B_h : Rw w B_a 3 encGWornPin w0.fPins) (B_hn : w0.fPins.length = B_an) {C_a : Option Addr} {C_an : Nat} (C_c : Nat) (C_h : Rw w C_a 1 encI64 w0.fStrokes) (C_hn : w0.fStrokes.length = C_an) (h : impl_Wear_with w0 p1 = some r) :
    Calls Tryz.prog 172 #[(.agg #[(.slice B_a B_an B_c), (.slice C_a C_an C_c)]), (.agg #[(.int .i8 p1.fStep), (.int .i8 p1.fTrack), (.int .i64 p1.fTurns)])] w fun e w' => ∃ v, e = .returned v ∧ (∃ (o0 : Option Nat) (c0 : Nat) (s0 : List Value) (n0 : Nat), r.fPins.length = n0 ∧ (o0 ≠ none → n0 ≤ c0 ∧ s0.length = (c0 - n0) * 3) ∧ (o0 = none → r.fPins = [] ∧ c0 = 0) ∧ ∃ (o1 : Option Nat) (c1 : Nat) (s1 : List Value) (n1 : Nat), r.fStrokes.length = n1 ∧ (o1 ≠ none → n1 ≤ c1 ∧ s1.length = (c1 - n1) * 1) ∧ (o1 = none → r.fStrokes = [] ∧ c1 = 0) ∧ v = .agg #[.slice (o0.map fun b => ⟨b, 0, none⟩) n0 c0, .slice (o1.map fun b => ⟨b, 0, none⟩) n1 c1] ∧ Mem w [] [⟨o0, 147, row encGWornPin r.fPins s0⟩, ⟨o1, 2, row encI64 r.fStrokes s1⟩] w') := by
  subst B_hn C_hn
  rw [impl_Wear_with] at h
  refine enter (args := [(.agg #[(.slice B_a w0.fPins.length B_c), (.slice C_a w0.fStrokes.length C_c)]), (.agg #[(.int .i8 p1.fStep), (.int .i8 p1.fTrack), (.int .i64 p1.fTurns)])]) Tryz.func172 rfl Tryz.ntmps172 (by kernel_rfl) (L := []) (W := []) (Mem.start w) ?_
  refine jc_seq (jc_region (tO (qa 0 (fun b_1 => jkO (tO (qa 0 (fun b_2 => jkO (tO (qa 0 (fun b_3 => jkO (qe (jx_then (jc_seq (jc_region (qh [0] ?_)))))))))))))))
  obtain ⟨t_1, ht_4, h⟩ := bd h
  refine tO (pc 0 (fun w hm => impl_Wear_own.calls w0 w _ B_c (hm.xr B_h) rfl C_c (hm.xr C_h) rfl ht_4) ?_)
  rintro w v w' hm ⟨o_5, cap_6, sp_7, _, rfl, hs_8, ho_9, o_10, cap_11, sp_12, _, rfl, hs_13, ho_14, rfl, hm'⟩
  refine ⟨_, hm.app hm', jkO ?_⟩
  clear hm hm'
  refine tO (qa 0 (fun b_15 => jkO (tO (qs 0 [5] (jkO (qe (jx_then (jc_seq (jc_region (qh [0,5,1] (tO (qa 0 (fun b_16 => jkO ?_)))))))))))))
  obtain ⟨hg_17, h⟩ := gd h
  refine tO (p_apn 0 3 o_5 147 t_1.fPins.length 1 cap_6 3 16 (some ⟨b_16, 0, none⟩) encGWornPin t_1.fPins ([p1] : List GWornPin) sp_7 (.agg #[(.int .i8 0), (.int .i8 0), (.int .i64 0)]) rfl rfl (by kernel_rfl) (by kernel_rfl) (by kernel_rfl) encGWornPin_len encGWornPin_cell hs_8 ho_9 (fun w hm => (hm.ow 6 (some b_16) 147 ([p1] : List GWornPin) [] (fun e => nomatch e) encGWornPin_len)) hg_17 (by kernel_rfl) (by kernel_rfl) (fun o_18 cap_19 sp_20 hs_21 ho_22 => jkO (qh [0] (tO (qs 0 [5] (jkO (qe (jx_then (jc_seq (jc_region (qh [0,5] ?_)))))))))))
  obtain ⟨t_2, ht_23, h⟩ := bd h
  refine tO (pc 0 (fun w hm => slices_SortFunc_WornPin_at_impl_comparePins.calls (t_1.fPins ++ ([p1] : List GWornPin)) w _ o_18 rfl hs_21 ho_22 (hm.pass (N := [⟨o_18, 147, row encGWornPin (t_1.fPins ++ ([p1] : List GWornPin)) sp_20⟩]) [3] (by kernel_rfl) (by kernel_rfl)) ht_23) ?_)
  rintro w v w' hm ⟨hn_24, ho_25, rfl, hm'⟩
  refine ⟨_, hm.appW (ps := [(3, ⟨o_18, 147, row encGWornPin t_2 sp_20⟩)]) (N := []) hm' (by kernel_rfl) (by kernel_rfl), jkO ?_⟩
  clear hm hm'
  refine qe (jx_then (jc_seq (jc_region (qh [5] (tO (qs 0 [2] (jkO (qe (jx_then (jc_ret ?_))))))))))
  obtain rfl := Option.some.inj h
  exact qr [2] (fun w hm => ⟨o_18, cap_19, sp_20, ((t_1.fPins ++ ([p1] : List GWornPin)).length), hn_24, hs_21, ho_25, o_10, cap_11, sp_12, t_1.fStrokes.length, rfl, hs_13, ho_14, rfl, hm.pk [3, 4]⟩)
/-! ### impl.NewPin -/
def impl_NewPin (f0 : GFrame) (w1 : GWear) (step2 : Int) (track3 : Int) : Option (GWear × Int) := (impl_wornPlaceCode f0 w1 ([(Arr.set (Arr.set (Arr.rep 2 0) 0 step2) 1 track3)] : List (Arr 2 Int))).bind fun t_1 => (if (t_1 != 0) = true then some ((⟨[], []⟩ : GWear), t_1) else (impl_Wear_at w1 step2 track3).bind fun t_2 => (if (decide (t_2 ≥ 0)) = true then (impl_Wear_without w1 t_2).bind fun t_3 => (impl_Wear_with t_3 (⟨(w8 step2), (w8 track3), 0⟩ : GWornPin)).bind fun t_4 => some (t_4, 0) else (impl_Wear_with w1 (⟨(w8 step2), (w8 track3), 0⟩ : GWornPin)).bind fun t_5 => some (t_5, 0)))
theorem impl_NewPin.calls (f0 : GFrame) (w1 : GWear) (step2 : Int) (track3 : Int) (w : World) (r : GWear × Int) {C_a : Option Addr} {C_an : Nat} (C_c : Nat) (C_h : Rw w C_a 2 encGHammer f0.fHammers) (C_hn : f0.fHammers.length = C_an) {E_a : Option Addr} {E_an : Nat} (E_c : Nat) (E_h : Rw w E_a 3 encGWornPin w1.fPins) (E_hn : w1.fPins.length = E_an) {F_a : Option Addr} {F_an : Nat} (F_c : Nat) (F_h : Rw w F_a 1 encI64 w1.fStrokes) (F_hn : w1.fStrokes.length = F_an) (h : impl_NewPin f0 w1 step2 track3 = some r) :
    Calls Tryz.prog 94 #[(.agg #[(.int .i16 f0.fSteps), (.slice C_a C_an C_c)]), (.agg #[(.slice E_a E_an E_c), (.slice F_a F_an F_c)]), (.int .i64 step2), (.int .i64 track3)] w fun e w' => ∃ v, e = .returned v ∧ (∃ (o0 : Option Nat) (c0 : Nat) (s0 : List Value) (n0 : Nat), r.1.fPins.length = n0 ∧ (o0 ≠ none → n0 ≤ c0 ∧ s0.length = (c0 - n0) * 3) ∧ (o0 = none → r.1.fPins = [] ∧ c0 = 0) ∧ ∃ (o1 : Option Nat) (c1 : Nat) (s1 : List Value) (n1 : Nat), r.1.fStrokes.length = n1 ∧ (o1 ≠ none → n1 ≤ c1 ∧ s1.length = (c1 - n1) * 1) ∧ (o1 = none → r.1.fStrokes = [] ∧ c1 = 0) ∧ v = .tuple #[.agg #[.slice (o0.map fun b => ⟨b, 0, none⟩) n0 c0, .slice (o1.map fun b => ⟨b, 0, none⟩) n1 c1], (.int .i64 r.2)] ∧ Mem w [] [⟨o0, 147, row encGWornPin r.1.fPins s0⟩, ⟨o1, 2, row encI64 r.1.fStrokes s1⟩] w') := by
  subst C_hn E_hn F_hn
  rw [impl_NewPin] at h
  refine enter (args := [(.agg #[(.int .i16 f0.fSteps), (.slice C_a f0.fHammers.length C_c)]), (.agg #[(.slice E_a w1.fPins.length E_c), (.slice F_a w1.fStrokes.length F_c)]), (.int .i64 step2), (.int .i64 track3)]) Tryz.func94 rfl Tryz.ntmps94 (by kernel_rfl) (L := []) (W := []) (Mem.start w) ?_
  refine jc_seq (jc_region (tO (qa 0 (fun b_1 => jkO (tO (qa 0 (fun b_2 => jkO (tO (qa 0 (fun b_3 => jkO (qh [0] (qe (jx_then (jc_seq (jc_seq (jc_region (qh [0,1,0,0,0] (tO (p_bs 0 117 2 1 encA2I64 [(.agg (row encI64 (Arr.set (Arr.set (Arr.rep 2 0) 0 step2) 1 track3).1 []).toArray)] [(Arr.set (Arr.set (Arr.rep 2 0) 0 step2) 1 track3)] (by kernel_rfl) (by kernel_rfl) rfl (by kernel_rfl) (by kernel_rfl) encA2I64_len (fun b_7 => jkO ?_))))))))))))))))))))
  obtain ⟨t_1, ht_8, h⟩ := bd h
  refine tO (pc 0 (fun w hm => impl_wornPlaceCode.calls f0 w1 ([(Arr.set (Arr.set (Arr.rep 2 0) 0 step2) 1 track3)] : List (Arr 2 Int)) w _ C_c (hm.xr C_h) rfl E_c (hm.xr E_h) rfl F_c (hm.xr F_h) rfl 1 (hm.ow 3 (some b_7) 117 ([(Arr.set (Arr.set (Arr.rep 2 0) 0 step2) 1 track3)] : List (Arr 2 Int)) [] (fun e => nomatch e) encA2I64_len) rfl ht_8) ?_)
  rintro w v w' hm ⟨rfl, hm'⟩
  refine ⟨_, hm.app hm', jkO ?_⟩
  clear hm hm'
  refine qh [0] (qe (jx_then (jc_seq (jc_region (qh [0,0] (qe (jx_then (qi h (fun h => ?_) (fun h => ?_)))))))))
  ·refine jc_seq (jc_region (qh [0,0] (tO (qs 0 [2] (jkO (qh [0] (qe (jx_then (jc_ret (jx_thenr ?_))))))))))
   obtain rfl := Option.some.inj h
   exact jx_ghost 147 encGWornPin (jx_ghost 2 encI64 (qr [2] (fun w hm => ⟨none, 0, [], 0, rfl, (fun e => absurd rfl e), (fun _ => ⟨rfl, rfl⟩), none, 0, [], 0, rfl, (fun e => absurd rfl e), (fun _ => ⟨rfl, rfl⟩), rfl, hm.pk [4, 5]⟩)))
  ·refine jc_skip (jx_then (jc_seq (jc_seq (jc_region (qh [1,0,0] ?_)))))
   obtain ⟨t_2, ht_23, h⟩ := bd h
   refine tO (pc 0 (fun w hm => impl_Wear_at.calls w1 step2 track3 w _ E_c (hm.xr E_h) rfl F_c (hm.xr F_h) rfl ht_23) ?_)
   rintro w v w' hm ⟨rfl, hm'⟩
   refine ⟨_, hm.app hm', jkO ?_⟩
   clear hm hm'
   refine qh [0] (qe (jx_then (jc_seq (jc_region (qh [0,0] (qe (jx_then (qi h (fun h => ?_) (fun h => ?_)))))))))
   ·refine jc_region (qh [1,0] ?_)
    obtain ⟨t_3, ht_25, h⟩ := bd h
    refine tO (pc 0 (fun w hm => impl_Wear_without.calls w1 t_2 w _ E_c (hm.xr E_h) rfl F_c (hm.xr F_h) rfl ht_25) ?_)
    rintro w v w' hm ⟨o_26, cap_27, sp_28, _, rfl, hs_29, ho_30, o_31, cap_32, sp_33, _, rfl, hs_34, ho_35, rfl, hm'⟩
    refine ⟨_, hm.app hm', jkO ?_⟩
    clear hm hm'
    refine tO (qs 0 [1] (jkO (qe (jx_then (jc_seq (jc_region (qh [1,0,0,0,0,0] ?_)))))))
    obtain ⟨t_4, ht_36, h⟩ := bd h
    refine tO (pc 0 (fun w hm => impl_Wear_with.calls t_3 (⟨(w8 step2), (w8 track3), 0⟩ : GWornPin) w _ cap_27 (hm.ow 4 o_26 147 t_3.fPins sp_28 (fun e => (ho_30 e).1) encGWornPin_len) rfl cap_32 (hm.ow 5 o_31 2 t_3.fStrokes sp_33 (fun e => (ho_35 e).1) encI64_len) rfl ht_36) ?_)
    rintro w v w' hm ⟨o_37, cap_38, sp_39, _, rfl, hs_40, ho_41, o_42, cap_43, sp_44, _, rfl, hs_45, ho_46, rfl, hm'⟩
    refine ⟨_, hm.app hm', jkO ?_⟩
    clear hm hm'
    refine tO (qs 0 [2] (jkO (qh [0] (qe (jx_then (jc_ret ?_))))))
    obtain rfl := Option.some.inj h
    exact qr [2] (fun w hm => ⟨o_37, cap_38, sp_39, t_4.fPins.length, rfl, hs_40, ho_41, o_42, cap_43, sp_44, t_4.fStrokes.length, rfl, hs_45, ho_46, rfl, hm.pk [6, 7]⟩)
   ·refine jc_skip (jx_then (jc_seq (jc_region (qh [1,0,0,0,0,0] ?_))))
    obtain ⟨t_5, ht_47, h⟩ := bd h
    refine tO (pc 0 (fun w hm => impl_Wear_with.calls w1 (⟨(w8 step2), (w8 track3), 0⟩ : GWornPin) w _ E_c (hm.xr E_h) rfl F_c (hm.xr F_h) rfl ht_47) ?_)
    rintro w v w' hm ⟨o_48, cap_49, sp_50, _, rfl, hs_51, ho_52, o_53, cap_54, sp_55, _, rfl, hs_56, ho_57, rfl, hm'⟩
    refine ⟨_, hm.app hm', jkO ?_⟩
    clear hm hm'
    refine tO (qs 0 [2] (jkO (qh [0] (qe (jx_then (jc_ret ?_))))))
    obtain rfl := Option.some.inj h
    exact qr [2] (fun w hm => ⟨o_48, cap_49, sp_50, t_5.fPins.length, rfl, hs_51, ho_52, o_53, cap_54, sp_55, t_5.fStrokes.length, rfl, hs_56, ho_57, rfl, hm.pk [4, 5]⟩)
/-! ### impl.MovePin -/
def impl_MovePin.k_4 (w1 : GWear) (toStep4 : Int) (toTrack5 : Int) (t_2 : Int) (q_3 : Bool) : Option (GWear × Int) := (if q_3 = true then some ((⟨[], []⟩ : GWear), 4) else (ix w1.fPins t_2).bind fun x_5 => (impl_Wear_without w1 t_2).bind fun t_6 => (impl_Wear_with t_6 (⟨(w8 toStep4), (w8 toTrack5), x_5.fTurns⟩ : GWornPin)).bind fun t_7 => some (t_7, 0))
def impl_MovePin (f0 : GFrame) (w1 : GWear) (step2 : Int) (track3 : Int) (toStep4 : Int) (toTrack5 : Int) : Option (GWear × Int) := (impl_wornPlaceCode f0 w1 ([(Arr.set (Arr.set (Arr.rep 2 0) 0 step2) 1 track3), (Arr.set (Arr.set (Arr.rep 2 0) 0 toStep4) 1 toTrack5)] : List (Arr 2 Int))).bind fun t_1 => (if (t_1 != 0) = true then some ((⟨[], []⟩ : GWear), t_1) else (impl_Wear_at w1 step2 track3).bind fun t_2 => (if (decide (t_2 < 0)) = true then impl_MovePin.k_4 w1 toStep4 toTrack5 t_2 true else (impl_Wear_at w1 toStep4 toTrack5).bind fun t_8 => impl_MovePin.k_4 w1 toStep4 toTrack5 t_2 (decide (t_8 ≥ 0))))
theorem impl_MovePin.calls (f0 : GFrame) (w1 : GWear) (step2 : Int) (track3 : Int) (toStep4 : Int) (toTrack5 : Int) (w : World) (r : GWear × Int) {C_a : Option Addr} {C_an : Nat} (C_c : Nat) (C_h : Rw w C_a 2 encGHammer f0.fHammers) (C_hn : f0.fHammers.length = C_an) {E_a : Option Addr} {E_an : Nat} (E_c : Nat) (E_h : Rw w E_a 3 encGWornPin w1.fPins) (E_hn : w1.fPins.length = E_an) {F_a : Option Addr} {F_an : Nat} (F_c : Nat) (F_h : Rw w F_a 1 encI64 w1.fStrokes) (F_hn : w1.fStrokes.length = F_an) (h : impl_MovePin f0 w1 step2 track3 toStep4 toTrack5 = some r) :
    Calls Tryz.prog 95 #[(.agg #[(.int .i16 f0.fSteps), (.slice C_a C_an C_c)]), (.agg #[(.slice E_a E_an E_c), (.slice F_a F_an F_c)]), (.int .i64 step2), (.int .i64 track3), (.int .i64 toStep4), (.int .i64 toTrack5)] w fun e w' => ∃ v, e = .returned v ∧ (∃ (o0 : Option Nat) (c0 : Nat) (s0 : List Value) (n0 : Nat), r.1.fPins.length = n0 ∧ (o0 ≠ none → n0 ≤ c0 ∧ s0.length = (c0 - n0) * 3) ∧ (o0 = none → r.1.fPins = [] ∧ c0 = 0) ∧ ∃ (o1 : Option Nat) (c1 : Nat) (s1 : List Value) (n1 : Nat), r.1.fStrokes.length = n1 ∧ (o1 ≠ none → n1 ≤ c1 ∧ s1.length = (c1 - n1) * 1) ∧ (o1 = none → r.1.fStrokes = [] ∧ c1 = 0) ∧ v = .tuple #[.agg #[.slice (o0.map fun b => ⟨b, 0, none⟩) n0 c0, .slice (o1.map fun b => ⟨b, 0, none⟩) n1 c1], (.int .i64 r.2)] ∧ Mem w [] [⟨o0, 147, row encGWornPin r.1.fPins s0⟩, ⟨o1, 2, row encI64 r.1.fStrokes s1⟩] w') := by
  subst C_hn E_hn F_hn
  rw [impl_MovePin] at h
  refine enter (args := [(.agg #[(.int .i16 f0.fSteps), (.slice C_a f0.fHammers.length C_c)]), (.agg #[(.slice E_a w1.fPins.length E_c), (.slice F_a w1.fStrokes.length F_c)]), (.int .i64 step2), (.int .i64 track3), (.int .i64 toStep4), (.int .i64 toTrack5)]) Tryz.func95 rfl Tryz.ntmps95 (by kernel_rfl) (L := []) (W := []) (Mem.start w) ?_
  refine jc_seq (jc_region (tO (qa 0 (fun b_1 => jkO (tO (qa 0 (fun b_2 => jkO (tO (qa 0 (fun b_3 => jkO (qh [0] (qe (jx_then (jc_seq (jc_seq (jc_region (qh [0,1,0,0,0,0,0,0] (tO (p_bs 0 117 2 2 encA2I64 [(.agg (row encI64 (Arr.set (Arr.set (Arr.rep 2 0) 0 step2) 1 track3).1 []).toArray), (.agg (row encI64 (Arr.set (Arr.set (Arr.rep 2 0) 0 toStep4) 1 toTrack5).1 []).toArray)] [(Arr.set (Arr.set (Arr.rep 2 0) 0 step2) 1 track3), (Arr.set (Arr.set (Arr.rep 2 0) 0 toStep4) 1 toTrack5)] (by kernel_rfl) (by kernel_rfl) rfl (by kernel_rfl) (by kernel_rfl) encA2I64_len (fun b_7 => jkO ?_))))))))))))))))))))
  obtain ⟨t_1, ht_8, h⟩ := bd h
  refine tO (pc 0 (fun w hm => impl_wornPlaceCode.calls f0 w1 ([(Arr.set (Arr.set (Arr.rep 2 0) 0 step2) 1 track3), (Arr.set (Arr.set (Arr.rep 2 0) 0 toStep4) 1 toTrack5)] : List (Arr 2 Int)) w _ C_c (hm.xr C_h) rfl E_c (hm.xr E_h) rfl F_c (hm.xr F_h) rfl 2 (hm.ow 3 (some b_7) 117 ([(Arr.set (Arr.set (Arr.rep 2 0) 0 step2) 1 track3), (Arr.set (Arr.set (Arr.rep 2 0) 0 toStep4) 1 toTrack5)] : List (Arr 2 Int)) [] (fun e => nomatch e) encA2I64_len) rfl ht_8) ?_)
  rintro w v w' hm ⟨rfl, hm'⟩
  refine ⟨_, hm.app hm', jkO ?_⟩
  clear hm hm'
  refine qh [0] (qe (jx_then (jc_seq (jc_region (qh [0,0] (qe (jx_then (qi h (fun h => ?_) (fun h => ?_)))))))))
  ·refine jc_seq (jc_region (qh [0,0] (tO (qs 0 [2] (jkO (qh [0] (qe (jx_then (jc_ret (jx_thenr ?_))))))))))
   obtain rfl := Option.some.inj h
   exact jx_ghost 147 encGWornPin (jx_ghost 2 encI64 (qr [2] (fun w hm => ⟨none, 0, [], 0, rfl, (fun e => absurd rfl e), (fun _ => ⟨rfl, rfl⟩), none, 0, [], 0, rfl, (fun e => absurd rfl e), (fun _ => ⟨rfl, rfl⟩), rfl, hm.pk [4, 5]⟩)))
  ·refine jc_skip (jx_then (jc_seq (jc_region (qh [1,0,0] ?_))))
   obtain ⟨t_2, ht_10, h⟩ := bd h
   refine tO (pc 0 (fun w hm => impl_Wear_at.calls w1 step2 track3 w _ E_c (hm.xr E_h) rfl F_c (hm.xr F_h) rfl ht_10) ?_)
   rintro w v w' hm ⟨rfl, hm'⟩
   refine ⟨_, hm.app hm', jkO ?_⟩
   clear hm hm'
   refine qh [0] (qe (jx_then (jc_seq (jc_seq (jc_meet (fun (j : Bool) => match j with | q_3 => impl_MovePin.k_4 w1 toStep4 toTrack5 t_2 q_3 = some r) (fun (j : Bool) => match j with | q_3 => [(4, [], (.int .i64 toStep4)), (5, [], (.int .i64 toTrack5)), (7, [], (.pointer (some ⟨b_2, 0, none⟩))), (12, [], (.pointer (some ⟨b_3, 0, none⟩))), (13, [], (.int .i64 0)), (15, [], (.int .i64 t_2)), (42, [], (.bool q_3))]) (fun (j : Bool) => match j with | q_3 => [⟨some b_1, 27, [(.int .i16 f0.fSteps), (.slice C_a f0.fHammers.length C_c)]⟩, ⟨some b_2, 62, [(.slice E_a w1.fPins.length E_c), (.slice F_a w1.fStrokes.length F_c)]⟩, ⟨some b_3, 62, [(.slice none 0 0), (.slice none 0 0)]⟩, ⟨(some b_7), 117, row encA2I64 ([(Arr.set (Arr.set (Arr.rep 2 0) 0 step2) 1 track3), (Arr.set (Arr.set (Arr.rep 2 0) 0 toStep4) 1 toTrack5)] : List (Arr 2 Int)) []⟩]) ?_ ?_)))))
   ·refine jc_region (qf [(0, 0), (0, 0), (0, 0), (1, 1), (0, 1), (0, 1)] (qp 36 h (fun h => ?_) (fun h => ?_)))
    ·exact qf [(0, 3), (0, 3), (0, 4)] (qe (qm true h [0, 1, 2, 3]))
    ·obtain ⟨t_8, ht_66, h⟩ := bd h
     refine tO (pc 2 (fun w hm => impl_Wear_at.calls w1 toStep4 toTrack5 w _ E_c (hm.xr E_h) rfl F_c (hm.xr F_h) rfl ht_66) ?_)
     rintro w v w' hm ⟨rfl, hm'⟩
     refine ⟨_, hm.app hm', jkO ?_⟩
     clear hm hm'
     exact qf [(0, 2), (0, 5)] (qe (qm (decide (t_8 ≥ 0)) h [0, 1, 2, 3]))
   ·rintro q_3 h
    replace h : impl_MovePin.k_4 w1 toStep4 toTrack5 t_2 q_3 = some r := h
    rw [impl_MovePin.k_4] at h
    refine jx_then (qi h (fun h => ?_) (fun h => ?_))
    ·refine jc_seq (jc_region (qh [0] (tO (qs 0 [2] (jkO (qh [0] (qe (jx_then (jc_ret (jx_thenr ?_))))))))))
     obtain rfl := Option.some.inj h
     exact jx_ghost 147 encGWornPin (jx_ghost 2 encI64 (qr [2] (fun w hm => ⟨none, 0, [], 0, rfl, (fun e => absurd rfl e), (fun _ => ⟨rfl, rfl⟩), none, 0, [], 0, rfl, (fun e => absurd rfl e), (fun _ => ⟨rfl, rfl⟩), rfl, hm.pk [4, 5]⟩)))
    ·refine jc_skip (jx_then (jc_seq (qg [⟨some b_1, 27, [(.int .i16 f0.fSteps), (.slice C_a f0.fHammers.length C_c)]⟩, ⟨some b_2, 62, [(.slice E_a w1.fPins.length E_c), (.slice F_a w1.fStrokes.length F_c)]⟩, ⟨(some b_7), 117, row encA2I64 ([(Arr.set (Arr.set (Arr.rep 2 0) 0 step2) 1 track3), (Arr.set (Arr.set (Arr.rep 2 0) 0 toStep4) 1 toTrack5)] : List (Arr 2 Int)) []⟩] 17 (qd [⟨0, 1, 0⟩,⟨1, 0, 0⟩,⟨3, 0, 0⟩,⟨4, 0, 0⟩,⟨5, 0, 0⟩,⟨6, 0, 0⟩,⟨7, 0, 0⟩,⟨8, 1, 0⟩,⟨9, 0, 0⟩] 8 [0, 1, 3] ?_))))
     obtain ⟨x_5, hx_42, h⟩ := bd h
     refine qv 10 0 [0, 1, 3] (fun w hm => idx_run (a := E_a) (len := w1.fPins.length) (s := 3) (j := t_2) (by kernel_rfl) (ix_some hx_42).1 (ltn hx_42 rfl) (E_h.sp hx_42)) (qd [⟨11, 0, 0⟩] 6 [0, 1, 3] (qv 12 0 [0, 1, 3] (fun w hm => ld_run (b := aB E_a) (off := (aO E_a + t_2.toNat * 3 + 2)) (s := 1) (agg := false) (vs := (((encGWornPin x_5).drop 2).take 1)) (by kernel_rfl) (by kernel_rfl) (.inr rfl) (((hm.xr E_h).at hx_42).sub 2 1)) (qd [⟨13, 0, 0⟩] 4 [0, 1, 3] ?_)))
     obtain ⟨t_6, ht_43, h⟩ := bd h
     refine tD 2 (pc 0 (fun w hm => impl_Wear_without.calls w1 t_2 w _ E_c (hm.xr E_h) rfl F_c (hm.xr F_h) rfl ht_43) ?_)
     rintro w v w' hm ⟨o_44, cap_45, sp_46, _, rfl, hs_47, ho_48, o_49, cap_50, sp_51, _, rfl, hs_52, ho_53, rfl, hm'⟩
     refine ⟨_, hm.app hm', kD [0, 1, 3] ?_⟩
     clear hm hm'
     obtain ⟨t_7, ht_54, h⟩ := bd h
     refine tD 14 (pc 0 (fun w hm => impl_Wear_with.calls t_6 (⟨(w8 toStep4), (w8 toTrack5), x_5.fTurns⟩ : GWornPin) w _ cap_45 (hm.ow 4 o_44 147 t_6.fPins sp_46 (fun e => (ho_48 e).1) encGWornPin_len) rfl cap_50 (hm.ow 5 o_49 2 t_6.fStrokes sp_51 (fun e => (ho_53 e).1) encI64_len) rfl ht_54) ?_)
     rintro w v w' hm ⟨o_55, cap_56, sp_57, _, rfl, hs_58, ho_59, o_60, cap_61, sp_62, _, rfl, hs_63, ho_64, rfl, hm'⟩
     refine ⟨_, hm.app hm', kD [0, 1, 3] ?_⟩
     clear hm hm'
     refine tD 15 (qs 0 [2] (kD [0, 1, 3] (qd [⟨16, 0, 0⟩] 0 [0, 1, 3] (qz (jx_then (jc_ret ?_))))))
     obtain rfl := Option.some.inj h
     exact qr [2] (fun w hm => ⟨o_55, cap_56, sp_57, t_7.fPins.length, rfl, hs_58, ho_59, o_60, cap_61, sp_62, t_7.fStrokes.length, rfl, hs_63, ho_64, rfl, hm.pk [6, 7]⟩)
/-! ### impl.DoWearAct -/
def impl_DoWearAct (f0 : GFrame) (w1 : GWear) (a2 : GAct) : Option (GWear × Int) := (if (a2.fKind == 0) = true then (impl_TurnWear f0 w1 a2.fA).bind fun t_1 => some (t_1.1, t_1.2) else (if (a2.fKind == 1) = true then (impl_NewHammer f0 w1 a2.fA).bind fun t_2 => some (t_2.1, t_2.2) else (if (a2.fKind == 2) = true then (impl_NewPin f0 w1 a2.fA a2.fB).bind fun t_3 => some (t_3.1, t_3.2) else (if (a2.fKind == 3) = true then (impl_MovePin f0 w1 a2.fA a2.fB a2.fC a2.fD).bind fun t_4 => some (t_4.1, t_4.2) else (impl_wearCode f0 w1 []).bind fun t_5 => (impl_firstOf ([t_5, 2] : List Int)).bind fun t_6 => some ((⟨[], []⟩ : GWear), t_6)))))
theorem impl_DoWearAct.calls (f0 : GFrame) (w1 : GWear) (a2 : GAct) (w : World) (r : GWear × Int) {C_a : Option Addr} {C_an : Nat} (C_c : Nat) (C_h : Rw w C_a 2 encGHammer f0.fHammers) (C_hn : f0.fHammers.length = C_an) {E_a : Option Addr} {E_an : Nat} (E_c : Nat) (E_h : Rw w E_a 3 encGWornPin w1.fPins) (E_hn : w1.fPins.length = E_an) {F_a : Option Addr} {F_an : Nat} (F_c : Nat) (F_h : Rw w F_a 1 encI64 w1.fStrokes) (F_hn : w1.fStrokes.length = F_an) (h : impl_DoWearAct f0 w1 a2 = some r) :
    Calls Tryz.prog 36 #[(.agg #[(.int .i16 f0.fSteps), (.slice C_a C_an C_c)]), (.agg #[(.slice E_a E_an E_c), (.slice F_a F_an F_c)]), (.agg #[(.int .i8 a2.fKind), (.int .i64 a2.fA), (.int .i64 a2.fB), (.int .i64 a2.fC), (.int .i64 a2.fD)])] w fun e w' => ∃ v, e = .returned v ∧ (∃ (o0 : Option Nat) (c0 : Nat) (s0 : List Value) (n0 : Nat), r.1.fPins.length = n0 ∧ (o0 ≠ none → n0 ≤ c0 ∧ s0.length = (c0 - n0) * 3) ∧ (o0 = none → r.1.fPins = [] ∧ c0 = 0) ∧ ∃ (o1 : Option Nat) (c1 : Nat) (s1 : List Value) (n1 : Nat), r.1.fStrokes.length = n1 ∧ (o1 ≠ none → n1 ≤ c1 ∧ s1.length = (c1 - n1) * 1) ∧ (o1 = none → r.1.fStrokes = [] ∧ c1 = 0) ∧ v = .tuple #[.agg #[.slice (o0.map fun b => ⟨b, 0, none⟩) n0 c0, .slice (o1.map fun b => ⟨b, 0, none⟩) n1 c1], (.int .i64 r.2)] ∧ Mem w [] [⟨o0, 147, row encGWornPin r.1.fPins s0⟩, ⟨o1, 2, row encI64 r.1.fStrokes s1⟩] w') := by
  subst C_hn E_hn F_hn
  rw [impl_DoWearAct] at h
  refine enter (args := [(.agg #[(.int .i16 f0.fSteps), (.slice C_a f0.fHammers.length C_c)]), (.agg #[(.slice E_a w1.fPins.length E_c), (.slice F_a w1.fStrokes.length F_c)]), (.agg #[(.int .i8 a2.fKind), (.int .i64 a2.fA), (.int .i64 a2.fB), (.int .i64 a2.fC), (.int .i64 a2.fD)])]) Tryz.func36 rfl Tryz.ntmps36 (by kernel_rfl) (L := []) (W := []) (Mem.start w) ?_
  refine jc_seq (jc_region (tO (qa 0 (fun b_1 => jkO (tO (qa 0 (fun b_2 => jkO (tO (qa 0 (fun b_3 => jkO (tO (qa 0 (fun b_4 => jkO (qh [0] (qe (jx_then (jc_seq (jc_seq (jc_region (qh [0,2] (qe (jx_then (jc_block (jc_seq (jc_region (qh [0,0] (qe (jx_then (qi h (fun h => ?_) (fun h => ?_))))))))))))))))))))))))))))))
  ·refine jc_seq (jc_region (qh [0,1,0,2] ?_))
   obtain ⟨t_1, ht_150, h⟩ := bd h
   refine tO (pc 0 (fun w hm => impl_TurnWear.calls f0 w1 a2.fA w _ C_c (hm.xr C_h) rfl E_c (hm.xr E_h) rfl F_c (hm.xr F_h) rfl ht_150) ?_)
   rintro w v w' hm ⟨o_151, cap_152, sp_153, _, rfl, hs_154, ho_155, o_156, cap_157, sp_158, _, rfl, hs_159, ho_160, rfl, hm'⟩
   refine ⟨_, hm.app hm', jkO ?_⟩
   clear hm hm'
   refine qh [0,0] (tO (qs 0 [3] (jkO (qh [0] (qe (jx_then (jc_ret (jx_inr (jx_thenr ?_)))))))))
   obtain rfl := Option.some.inj h
   exact qr [3] (fun w hm => ⟨o_151, cap_152, sp_153, t_1.1.fPins.length, rfl, hs_154, ho_155, o_156, cap_157, sp_158, t_1.1.fStrokes.length, rfl, hs_159, ho_160, rfl, hm.pk [4, 5]⟩)
  ·refine jc_seq (jc_region (qh [0,0] (qe (jx_then (qi h (fun h => ?_) (fun h => ?_))))))
   ·refine jc_seq (jc_region (qh [0,1,0,2] ?_))
    obtain ⟨t_2, ht_162, h⟩ := bd h
    refine tO (pc 0 (fun w hm => impl_NewHammer.calls f0 w1 a2.fA w _ C_c (hm.xr C_h) rfl E_c (hm.xr E_h) rfl F_c (hm.xr F_h) rfl ht_162) ?_)
    rintro w v w' hm ⟨o_163, cap_164, sp_165, _, rfl, hs_166, ho_167, o_168, cap_169, sp_170, _, rfl, hs_171, ho_172, rfl, hm'⟩
    refine ⟨_, hm.app hm', jkO ?_⟩
    clear hm hm'
    refine qh [0,0] (tO (qs 0 [3] (jkO (qh [0] (qe (jx_then (jc_ret (jx_inr (jx_thenr ?_)))))))))
    obtain rfl := Option.some.inj h
    exact qr [3] (fun w hm => ⟨o_163, cap_164, sp_165, t_2.1.fPins.length, rfl, hs_166, ho_167, o_168, cap_169, sp_170, t_2.1.fStrokes.length, rfl, hs_171, ho_172, rfl, hm.pk [4, 5]⟩)
   ·refine jc_seq (jc_region (qh [0,0] (qe (jx_then (qi h (fun h => ?_) (fun h => ?_))))))
    ·refine jc_seq (jc_region (qh [0,1,0,2,0,2] ?_))
     obtain ⟨t_3, ht_174, h⟩ := bd h
     refine tO (pc 0 (fun w hm => impl_NewPin.calls f0 w1 a2.fA a2.fB w _ C_c (hm.xr C_h) rfl E_c (hm.xr E_h) rfl F_c (hm.xr F_h) rfl ht_174) ?_)
     rintro w v w' hm ⟨o_175, cap_176, sp_177, _, rfl, hs_178, ho_179, o_180, cap_181, sp_182, _, rfl, hs_183, ho_184, rfl, hm'⟩
     refine ⟨_, hm.app hm', jkO ?_⟩
     clear hm hm'
     refine qh [0,0] (tO (qs 0 [3] (jkO (qh [0] (qe (jx_then (jc_ret (jx_inr (jx_thenr ?_)))))))))
     obtain rfl := Option.some.inj h
     exact qr [3] (fun w hm => ⟨o_175, cap_176, sp_177, t_3.1.fPins.length, rfl, hs_178, ho_179, o_180, cap_181, sp_182, t_3.1.fStrokes.length, rfl, hs_183, ho_184, rfl, hm.pk [4, 5]⟩)
    ·refine jc_seq (jc_region (qh [0,0] (qe (jx_then (qi h (fun h => ?_) (fun h => ?_))))))
     ·refine jc_seq (jc_region (qh [0,1,0,2,0,2,0,2,0,2] ?_))
      obtain ⟨t_4, ht_186, h⟩ := bd h
      refine tO (pc 0 (fun w hm => impl_MovePin.calls f0 w1 a2.fA a2.fB a2.fC a2.fD w _ C_c (hm.xr C_h) rfl E_c (hm.xr E_h) rfl F_c (hm.xr F_h) rfl ht_186) ?_)
      rintro w v w' hm ⟨o_187, cap_188, sp_189, _, rfl, hs_190, ho_191, o_192, cap_193, sp_194, _, rfl, hs_195, ho_196, rfl, hm'⟩
      refine ⟨_, hm.app hm', jkO ?_⟩
      clear hm hm'
      refine qh [0,0] (tO (qs 0 [3] (jkO (qh [0] (qe (jx_then (jc_ret (jx_inr (jx_thenr ?_)))))))))
      obtain rfl := Option.some.inj h
      exact qr [3] (fun w hm => ⟨o_187, cap_188, sp_189, t_4.1.fPins.length, rfl, hs_190, ho_191, o_192, cap_193, sp_194, t_4.1.fStrokes.length, rfl, hs_195, ho_196, rfl, hm.pk [4, 5]⟩)
     ·refine jc_skip (jx_inn (jx_then (jc_seq (jc_region (qh [0,0,1] ?_)))))
      obtain ⟨t_5, ht_197, h⟩ := bd h
      refine tO (pc 0 (fun w hm => impl_wearCode.calls f0 w1 [] w _ C_c (hm.xr C_h) rfl E_c (hm.xr E_h) rfl F_c (hm.xr F_h) rfl 0 Rw.nil rfl ht_197) ?_)
      rintro w v w' hm ⟨rfl, hm'⟩
      refine ⟨_, hm.app hm', jkO ?_⟩
      clear hm hm'
      refine tO (qa 0 (fun b_198 => jkO ?_))
      obtain ⟨t_6, ht_199, h⟩ := bd h
      refine tO (pc 0 (fun w hm => impl_firstOf.calls ([t_5, 2] : List Int) w _ 2 (hm.ow 4 (some b_198) 2 ([t_5, 2] : List Int) [] (fun e => nomatch e) encI64_len) rfl ht_199) ?_)
      rintro w v w' hm ⟨rfl, hm'⟩
      refine ⟨_, hm.app hm', jkO ?_⟩
      clear hm hm'
      refine tO (qs 0 [3] (jkO (qh [0] (qe (jx_then (jc_ret ?_))))))
      obtain rfl := Option.some.inj h
      exact jx_ghost 147 encGWornPin (jx_ghost 2 encI64 (qr [3] (fun w hm => ⟨none, 0, [], 0, rfl, (fun e => absurd rfl e), (fun _ => ⟨rfl, rfl⟩), none, 0, [], 0, rfl, (fun e => absurd rfl e), (fun _ => ⟨rfl, rfl⟩), rfl, hm.pk [5, 6]⟩)))
/-! ### (impl.Wear).parts -/
def impl_Wear_parts.k_6 (xs_5 : List Gpart) : Option ((List Gpart)) := some xs_5
def impl_Wear_parts.l_9 (w0 : GWear) (v2 : GLives) (t_4 : (List Int)) : ((List Gpart) × Int) → Option (((List Gpart) × Int) ⊕ ((List Gpart)))
  | (xs_7, i_8) => (if (decide (i_8 < (t_4.length : Int))) = true then (ix t_4 i_8).bind fun x_11 => (ix w0.fStrokes i_8).bind fun x_12 => (if xs_7.length + ([(⟨x_12, x_11, v2.fHammer, (-1), i_8⟩ : Gpart)] : List Gpart).length ≤ 4294967296 then some (.inl ((xs_7 ++ ([(⟨x_12, x_11, v2.fHammer, (-1), i_8⟩ : Gpart)] : List Gpart)), (w64 (i_8 + 1)))) else none) else some (.inr xs_7))
def impl_Wear_parts.k_2 (w0 : GWear) (f1 : GFrame) (v2 : GLives) (xs_1 : List Gpart) : Option ((List Gpart)) := (impl_Wear_drum w0).bind fun t_3 => (impl_Frame_byTrack f1 t_3).bind fun t_4 => (loop (impl_Wear_parts.l_9 w0 v2 t_4) (xs_1, 0)).bind fun t_10 => impl_Wear_parts.k_6 t_10
def impl_Wear_parts.l_15 (w0 : GWear) (v2 : GLives) : ((List Gpart) × Int) → Option (((List Gpart) × Int) ⊕ ((List Gpart)))
  | (xs_13, i_14) => (if (decide (i_14 < (w0.fPins.length : Int))) = true then (ix w0.fPins i_14).bind fun x_17 => (if xs_13.length + ([(⟨x_17.fTurns, 1, v2.fPin, (w64 x_17.fStep), (w64 x_17.fTrack)⟩ : Gpart)] : List Gpart).length ≤ 4294967296 then some (.inl ((xs_13 ++ ([(⟨x_17.fTurns, 1, v2.fPin, (w64 x_17.fStep), (w64 x_17.fTrack)⟩ : Gpart)] : List Gpart)), (w64 (i_14 + 1)))) else none) else some (.inr xs_13))
def impl_Wear_parts (w0 : GWear) (f1 : GFrame) (v2 : GLives) : Option ((List Gpart)) := (loop (impl_Wear_parts.l_15 w0 v2) (([] : List Gpart), 0)).bind fun t_16 => impl_Wear_parts.k_2 w0 f1 v2 t_16
theorem impl_Wear_parts.calls (w0 : GWear) (f1 : GFrame) (v2 : GLives) (w : World) (r : (List Gpart)) {B_a : Option Addr} {B_an : Nat} (B_c : Nat) (B_h : Rw w B_a 3 encGWornPin w0.fPins) (B_hn : w0.fPins.length = B_an) {C_a : Option Addr} {C_an : Nat} (C_c : Nat) (C_h : Rw w C_a 1 encI64 w0.fStrokes) (C_hn : w0.fStrokes.length = C_an) {F_a : Option Addr} {F_an : Nat} (F_c : Nat) (F_h : Rw w F_a 2 encGHammer f1.fHammers) (F_hn : f1.fHammers.length = F_an) (h : impl_Wear_parts w0 f1 v2 = some r) :
    Calls Tryz.prog 103 #[(.agg #[(.slice B_a B_an B_c), (.slice C_a C_an C_c)]), (.agg #[(.int .i16 f1.fSteps), (.slice F_a F_an F_c)]), (.agg #[(.int .i64 v2.fPin), (.int .i64 v2.fHammer)])] w fun e w' => ∃ v, e = .returned v ∧ (∃ (o0 : Option Nat) (c0 : Nat) (s0 : List Value) (n0 : Nat), r.length = n0 ∧ (o0 ≠ none → n0 ≤ c0 ∧ s0.length = (c0 - n0) * 5) ∧ (o0 = none → r = [] ∧ c0 = 0) ∧ v = .slice (o0.map fun b => ⟨b, 0, none⟩) n0 c0 ∧ Mem w [] [⟨o0, 157, row encGpart r s0⟩] w') := by
  subst B_hn C_hn F_hn
  rw [impl_Wear_parts] at h
  refine enter (args := [(.agg #[(.slice B_a w0.fPins.length B_c), (.slice C_a w0.fStrokes.length C_c)]), (.agg #[(.int .i16 f1.fSteps), (.slice F_a f1.fHammers.length F_c)]), (.agg #[(.int .i64 v2.fPin), (.int .i64 v2.fHammer)])]) Tryz.func103 rfl Tryz.ntmps103 (by kernel_rfl) (L := []) (W := []) (Mem.start w) ?_
  refine jc_seq (jc_region (tO (qa 0 (fun b_1 => jkO (tO (qa 0 (fun b_2 => jkO (tO (qa 0 (fun b_3 => jkO (qh [0] (qe (jx_then (jc_seq (jc_region (tO (qa 0 (fun b_4 => jkO (qh [0] (qe (jx_then (jc_seq (jc_seq (jc_region (qh [0,0,0,0] (qe (jx_then (jc_meet (fun (j : (List Gpart) × (Option Nat) × Nat × (List Value) × Nat) => match j with | ⟨xs_1, o_158, cap_159, sp_160, n_161⟩ => impl_Wear_parts.k_2 w0 f1 v2 xs_1 = some r ∧ (xs_1.length = n_161) ∧ ((o_158 ≠ none → n_161 ≤ cap_159 ∧ sp_160.length = (cap_159 - n_161) * 5)) ∧ ((o_158 = none → xs_1 = [] ∧ cap_159 = 0))) (fun (j : (List Gpart) × (Option Nat) × Nat × (List Value) × Nat) => match j with | ⟨xs_1, o_158, cap_159, sp_160, n_161⟩ => [(3, [], (.pointer (some ⟨b_1, 0, none⟩))), (4, [], (.pointer (some ⟨b_2, 0, none⟩))), (5, [], (.pointer (some ⟨b_3, 0, none⟩))), (6, [], (.slice none 0 0)), (7, [], (.slice (o_158.map fun b => ⟨b, 0, none⟩) n_161 cap_159))]) (fun (j : (List Gpart) × (Option Nat) × Nat × (List Value) × Nat) => match j with | ⟨xs_1, o_158, cap_159, sp_160, n_161⟩ => [⟨some b_1, 62, [(.slice B_a w0.fPins.length B_c), (.slice C_a w0.fStrokes.length C_c)]⟩, ⟨some b_2, 27, [(.int .i16 f1.fSteps), (.slice F_a f1.fHammers.length F_c)]⟩, ⟨some b_3, 65, [(.int .i64 v2.fPin), (.int .i64 v2.fHammer)]⟩, ⟨o_158, 157, row encGpart xs_1 sp_160⟩]) ?_ ?_))))))))))))))))))))))))))))
  ·refine jc_block ?_
   obtain ⟨t_16, ht_472, hr_458⟩ := bd h
   refine jc_loop (fun (s : (List Gpart) × Int) (x : (Option Nat) × Nat × (List Value) × Nat) => match s, x with | ⟨xs_13, i_14⟩, ⟨o_452, cap_453, sp_454, n_455⟩ => (xs_13.length = n_455) ∧ ((o_452 ≠ none → n_455 ≤ cap_453 ∧ sp_454.length = (cap_453 - n_455) * 5)) ∧ ((o_452 = none → xs_13 = [] ∧ cap_453 = 0))) (fun (s : (List Gpart) × Int) (x : (Option Nat) × Nat × (List Value) × Nat) => match s, x with | ⟨xs_13, i_14⟩, ⟨o_452, cap_453, sp_454, n_455⟩ => [(3, [], (.pointer (some ⟨b_1, 0, none⟩))), (4, [], (.pointer (some ⟨b_2, 0, none⟩))), (5, [], (.pointer (some ⟨b_3, 0, none⟩))), (6, [], (.slice none 0 0)), (7, [], (.slice (o_452.map fun b => ⟨b, 0, none⟩) n_455 cap_453)), (14, [], (.slice B_a w0.fPins.length B_c)), (15, [], (.int .i64 (w0.fPins.length : Int))), (16, [], (.int .i64 i_14))]) (fun (s : (List Gpart) × Int) (x : (Option Nat) × Nat × (List Value) × Nat) => match s, x with | ⟨xs_13, i_14⟩, ⟨o_452, cap_453, sp_454, n_455⟩ => [⟨some b_1, 62, [(.slice B_a w0.fPins.length B_c), (.slice C_a w0.fStrokes.length C_c)]⟩, ⟨some b_2, 27, [(.int .i16 f1.fSteps), (.slice F_a f1.fHammers.length F_c)]⟩, ⟨some b_3, 65, [(.int .i64 v2.fPin), (.int .i64 v2.fHammer)]⟩, ⟨o_452, 157, row encGpart xs_13 sp_454⟩]) ht_472 ⟨(some b_4), 0, [], 0⟩ ⟨rfl, (fun _ => ⟨Nat.le_refl _, by simp⟩), (fun e => nomatch e)⟩ (by kernel_rfl) [0, 1, 2, 3] (by kernel_rfl) (by kernel_rfl) ?_
   rintro ⟨xs_13, i_14⟩ ⟨o_452, cap_453, sp_454, n_455⟩ y_459 ⟨rfl, hs_456, ho_457⟩ h
   rw [impl_Wear_parts.l_15] at h
   refine jc_seq (jc_region (qh [0] (qe (jx_then (jc_seq (qi h (fun h => ?_) (fun h => ?_)))))))
   ·refine jc_skip (jx_then (jc_seq (jc_block (jc_seq (jc_region ?_)))))
    obtain ⟨x_17, hx_462, h⟩ := bd h
    refine tO (qx 0 B_a 3 hx_462 rfl (B_h.sp hx_462) (jkO (tO (ql 0 true (fun w hm => ((hm.xr B_h).at hx_462)) (jkO (tO (qa 0 (fun b_463 => jkO (tO (qs 0 [4] (jkO (qe (jx_then (jc_region (qh [0,0,4,0,2,0,4,0,0,4,0,0] (tO (qa 0 (fun b_464 => jkO ?_))))))))))))))))))
    obtain ⟨hg_465, h⟩ := gd h
    exact tO (p_apn 0 3 o_452 157 xs_13.length 1 cap_453 5 40 (some ⟨b_464, 0, none⟩) encGpart xs_13 ([(⟨x_17.fTurns, 1, v2.fPin, (w64 x_17.fStep), (w64 x_17.fTrack)⟩ : Gpart)] : List Gpart) sp_454 (.agg #[(.int .i64 0), (.int .i64 0), (.int .i64 0), (.int .i64 0), (.int .i64 0)]) rfl rfl (by kernel_rfl) (by kernel_rfl) (by kernel_rfl) encGpart_len encGpart_cell hs_456 ho_457 (fun w hm => (hm.ow 5 (some b_464) 157 ([(⟨x_17.fTurns, 1, v2.fPin, (w64 x_17.fStep), (w64 x_17.fTrack)⟩ : Gpart)] : List Gpart) [] (fun e => nomatch e) encGpart_len)) hg_465 (by kernel_rfl) (by kernel_rfl) (fun o_466 cap_467 sp_468 hs_469 ho_470 => jkO (qh [0] (qe (jx_inn (jx_then (jc_region (qh [0,0] (qe (qb ((xs_13 ++ ([(⟨x_17.fTurns, 1, v2.fPin, (w64 x_17.fStep), (w64 x_17.fTrack)⟩ : Gpart)] : List Gpart)), (w64 (i_14 + 1))) ⟨o_466, cap_467, sp_468, (xs_13 ++ ([(⟨x_17.fTurns, 1, v2.fPin, (w64 x_17.fStep), (w64 x_17.fTrack)⟩ : Gpart)] : List Gpart)).length⟩ h ⟨rfl, hs_469, ho_470⟩ [0, 1, 2, 3]))))))))))
   ·refine jc_exit (jx_thenx (jx_leave xs_13 (Option.some.inj h).symm (fun e_471 => ?_)))
    subst e_471
    exact jx_ine (qm ⟨xs_13, o_452, cap_453, sp_454, xs_13.length⟩ ⟨hr_458, rfl, hs_456, ho_457⟩ [0, 1, 2, 3])
  ·rintro ⟨xs_1, o_158, cap_159, sp_160, n_161⟩ ⟨h, rfl, hs_162, ho_163⟩
   replace h : impl_Wear_parts.k_2 w0 f1 v2 xs_1 = some r := h
   rw [impl_Wear_parts.k_2] at h
   refine jx_then (jc_seq (jc_seq (qg [⟨some b_1, 62, [(.slice B_a w0.fPins.length B_c), (.slice C_a w0.fStrokes.length C_c)]⟩, ⟨some b_2, 27, [(.int .i16 f1.fSteps), (.slice F_a f1.fHammers.length F_c)]⟩, ⟨some b_3, 65, [(.int .i64 v2.fPin), (.int .i64 v2.fHammer)]⟩, ⟨o_158, 157, row encGpart xs_1 sp_160⟩] 6 (qd [⟨0, 1, 0⟩,⟨1, 0, 0⟩,⟨5, 0, 0⟩] 3 [0, 1, 2, 3] ?_))))
   obtain ⟨t_3, ht_301, h⟩ := bd h
   refine tD 2 (pc 0 (fun w hm => impl_Wear_drum.calls w0 w _ B_c (hm.xr B_h) rfl C_c (hm.xr C_h) rfl ht_301) ?_)
   rintro w v w' hm ⟨rfl, hm'⟩
   refine ⟨_, hm.app hm', kD [0, 1, 2, 3] ?_⟩
   clear hm hm'
   obtain ⟨t_4, ht_302, h⟩ := bd h
   refine tD 3 (pc 0 (fun w hm => impl_Frame_byTrack.calls f1 t_3 w _ F_c (hm.xr F_h) rfl ht_302) ?_)
   rintro w v w' hm ⟨o_303, cap_304, sp_305, _, rfl, hs_306, ho_307, rfl, hm'⟩
   refine ⟨_, hm.app hm', kD [0, 1, 2, 3] ?_⟩
   clear hm hm'
   refine qd [⟨4, 0, 0⟩] 0 [0, 1, 2, 3] (qz (jx_then (jc_meet (fun (j : (List Gpart) × (Option Nat) × Nat × (List Value) × Nat) => match j with | ⟨xs_5, o_363, cap_364, sp_365, n_366⟩ => impl_Wear_parts.k_6 xs_5 = some r ∧ (xs_5.length = n_366) ∧ ((o_363 ≠ none → n_366 ≤ cap_364 ∧ sp_365.length = (cap_364 - n_366) * 5)) ∧ ((o_363 = none → xs_5 = [] ∧ cap_364 = 0))) (fun (j : (List Gpart) × (Option Nat) × Nat × (List Value) × Nat) => match j with | ⟨xs_5, o_363, cap_364, sp_365, n_366⟩ => [(6, [], (.slice none 0 0)), (7, [], (.slice (o_363.map fun b => ⟨b, 0, none⟩) n_366 cap_364))]) (fun (j : (List Gpart) × (Option Nat) × Nat × (List Value) × Nat) => match j with | ⟨xs_5, o_363, cap_364, sp_365, n_366⟩ => [⟨some b_1, 62, [(.slice B_a w0.fPins.length B_c), (.slice C_a w0.fStrokes.length C_c)]⟩, ⟨some b_2, 27, [(.int .i16 f1.fSteps), (.slice F_a f1.fHammers.length F_c)]⟩, ⟨some b_3, 65, [(.int .i64 v2.fPin), (.int .i64 v2.fHammer)]⟩, ⟨o_363, 157, row encGpart xs_5 sp_365⟩, ⟨o_303, 2, row encI64 t_4 sp_305⟩]) ?_ ?_)))
   ·refine jc_block ?_
    obtain ⟨t_10, ht_423, hr_407⟩ := bd h
    refine jc_loop (fun (s : (List Gpart) × Int) (x : (Option Nat) × Nat × (List Value) × Nat) => match s, x with | ⟨xs_7, i_8⟩, ⟨o_401, cap_402, sp_403, n_404⟩ => (xs_7.length = n_404) ∧ ((o_401 ≠ none → n_404 ≤ cap_402 ∧ sp_403.length = (cap_402 - n_404) * 5)) ∧ ((o_401 = none → xs_7 = [] ∧ cap_402 = 0))) (fun (s : (List Gpart) × Int) (x : (Option Nat) × Nat × (List Value) × Nat) => match s, x with | ⟨xs_7, i_8⟩, ⟨o_401, cap_402, sp_403, n_404⟩ => [(3, [], (.pointer (some ⟨b_1, 0, none⟩))), (5, [], (.pointer (some ⟨b_3, 0, none⟩))), (6, [], (.slice none 0 0)), (7, [], (.slice (o_401.map fun b => ⟨b, 0, none⟩) n_404 cap_402)), (38, [], (.slice (o_303.map fun b => ⟨b, 0, none⟩) t_4.length cap_304)), (39, [], (.int .i64 (t_4.length : Int))), (40, [], (.int .i64 i_8))]) (fun (s : (List Gpart) × Int) (x : (Option Nat) × Nat × (List Value) × Nat) => match s, x with | ⟨xs_7, i_8⟩, ⟨o_401, cap_402, sp_403, n_404⟩ => [⟨some b_1, 62, [(.slice B_a w0.fPins.length B_c), (.slice C_a w0.fStrokes.length C_c)]⟩, ⟨some b_2, 27, [(.int .i16 f1.fSteps), (.slice F_a f1.fHammers.length F_c)]⟩, ⟨some b_3, 65, [(.int .i64 v2.fPin), (.int .i64 v2.fHammer)]⟩, ⟨o_401, 157, row encGpart xs_7 sp_403⟩, ⟨o_303, 2, row encI64 t_4 sp_305⟩]) ht_423 ⟨o_158, cap_159, sp_160, xs_1.length⟩ ⟨rfl, hs_162, ho_163⟩ (by kernel_rfl) [0, 1, 2, 3, 4] (by kernel_rfl) (by kernel_rfl) ?_
    rintro ⟨xs_7, i_8⟩ ⟨o_401, cap_402, sp_403, n_404⟩ y_408 ⟨rfl, hs_405, ho_406⟩ h
    rw [impl_Wear_parts.l_9] at h
    refine jc_seq (jc_region (qh [0] (qe (jx_then (jc_seq (qi h (fun h => ?_) (fun h => ?_)))))))
    ·refine jc_skip (jx_then (jc_seq (jc_block (jc_seq (jc_region (qh [0] ?_))))))
     obtain ⟨x_11, hx_411, h⟩ := bd h
     refine tO (qx 0 (o_303.map fun b => ⟨b, 0, none⟩) 1 hx_411 rfl (spo ho_307 hx_411) (jkO (tO (ql 0 false (fun w hm => ((hm.ow 4 o_303 2 t_4 sp_305 (fun e => (ho_307 e).1) encI64_len).at hx_411)) (jkO (qh [0,0] (qe (jx_then (qg [⟨some b_1, 62, [(.slice B_a w0.fPins.length B_c), (.slice C_a w0.fStrokes.length C_c)]⟩, ⟨some b_2, 27, [(.int .i16 f1.fSteps), (.slice F_a f1.fHammers.length F_c)]⟩, ⟨some b_3, 65, [(.int .i64 v2.fPin), (.int .i64 v2.fHammer)]⟩, ⟨o_303, 2, row encI64 t_4 sp_305⟩] 14 (qd [⟨0, 0, 0⟩,⟨1, 0, 0⟩,⟨2, 0, 0⟩,⟨3, 0, 0⟩,⟨6, 0, 0⟩,⟨7, 0, 0⟩,⟨8, 2, 0⟩,⟨9, 0, 0⟩] 6 [0, 1, 2, 4] ?_))))))))))
     obtain ⟨x_12, hx_414, h⟩ := bd h
     refine qv 4 0 [0, 1, 2, 4] (fun w hm => idx_run (a := C_a) (len := w0.fStrokes.length) (s := 1) (j := i_8) (by kernel_rfl) (ix_some hx_414).1 (ltn hx_414 rfl) (C_h.sp hx_414)) (qv 5 0 [0, 1, 2, 4] (fun w hm => ld_run (b := aB C_a) (off := (aO C_a + i_8.toNat * 1)) (s := 1) (agg := false) (vs := (encI64 x_12)) (by kernel_rfl) (by kernel_rfl) (.inr rfl) ((hm.xr C_h).at hx_414)) (qd [⟨10, 0, 0⟩] 3 [0, 1, 2, 4] (tD 11 (qa 0 (fun b_415 => kD [0, 1, 2, 4] ?_)))))
     obtain ⟨hg_416, h⟩ := gd h
     exact tD 12 (p_apn 0 3 o_401 157 xs_7.length 1 cap_402 5 40 (some ⟨b_415, 0, none⟩) encGpart xs_7 ([(⟨x_12, x_11, v2.fHammer, (-1), i_8⟩ : Gpart)] : List Gpart) sp_403 (.agg #[(.int .i64 0), (.int .i64 0), (.int .i64 0), (.int .i64 0), (.int .i64 0)]) rfl rfl (by kernel_rfl) (by kernel_rfl) (by kernel_rfl) encGpart_len encGpart_cell hs_405 ho_406 (fun w hm => (hm.ow 5 (some b_415) 157 ([(⟨x_12, x_11, v2.fHammer, (-1), i_8⟩ : Gpart)] : List Gpart) [] (fun e => nomatch e) encGpart_len)) hg_416 (by kernel_rfl) (by kernel_rfl) (fun o_417 cap_418 sp_419 hs_420 ho_421 => kD [0, 1, 2, 4] (qd [⟨13, 0, 0⟩] 0 [0, 1, 2, 4] (qz (jx_inn (jx_then (jc_region (qh [0,0] (qe (qb ((xs_7 ++ ([(⟨x_12, x_11, v2.fHammer, (-1), i_8⟩ : Gpart)] : List Gpart)), (w64 (i_8 + 1))) ⟨o_417, cap_418, sp_419, (xs_7 ++ ([(⟨x_12, x_11, v2.fHammer, (-1), i_8⟩ : Gpart)] : List Gpart)).length⟩ h ⟨rfl, hs_420, ho_421⟩ [0, 1, 2, 3, 4]))))))))))
    ·refine jc_exit (jx_thenx (jx_leave xs_7 (Option.some.inj h).symm (fun e_422 => ?_)))
     subst e_422
     exact jx_ine (qm ⟨xs_7, o_401, cap_402, sp_403, xs_7.length⟩ ⟨hr_407, rfl, hs_405, ho_406⟩ [0, 1, 2, 3, 4])
   ·rintro ⟨xs_5, o_363, cap_364, sp_365, n_366⟩ ⟨h, rfl, hs_367, ho_368⟩
    replace h : impl_Wear_parts.k_6 xs_5 = some r := h
    rw [impl_Wear_parts.k_6] at h
    refine jx_then (jc_seq (jc_region (qh [0,0] (qe (jx_then (jc_ret ?_))))))
    obtain rfl := Option.some.inj h
    exact qr [] (fun w hm => ⟨o_363, cap_364, sp_365, xs_5.length, rfl, hs_367, ho_368, rfl, hm.pk [3]⟩)
/-! ### (impl.part).isWorn -/
def impl_part_isWorn (p0 : Gpart) : Option (Bool) := some (decide (p0.fmade > p0.flife))
theorem impl_part_isWorn.calls (p0 : Gpart) (w : World) (r : Bool) (h : impl_part_isWorn p0 = some r) :
    Calls Tryz.prog 104 #[(.agg #[(.int .i64 p0.fmade), (.int .i64 p0.feach), (.int .i64 p0.flife), (.int .i64 p0.fstep), (.int .i64 p0.ftrack)])] w fun e w' => ∃ v, e = .returned v ∧ (v = (.bool r) ∧ Mem w [] [] w') := by
  rw [impl_part_isWorn] at h
  refine enter (args := [(.agg #[(.int .i64 p0.fmade), (.int .i64 p0.feach), (.int .i64 p0.flife), (.int .i64 p0.fstep), (.int .i64 p0.ftrack)])]) Tryz.func104 rfl Tryz.ntmps104 (by kernel_rfl) (L := []) (W := []) (Mem.start w) ?_
  refine jc_seq (jc_region (tO (qa 0 (fun b_1 => jkO (qh [0] (qe (jx_then (jc_seq (jc_region (qh [0,0,0,0,0,0] (qe (jx_then (jc_ret ?_)))))))))))))
  obtain rfl := Option.some.inj h
  exact qr [] (fun w hm => ⟨rfl, hm.pk []⟩)
/-! ### slices.IndexFunc[[]impl.part,impl.part] -/
def slices_IndexFunc_part_at_impl_part_isWorn.k_1 : Option (Int) := some (-1)
def slices_IndexFunc_part_at_impl_part_isWorn.l_3 (s0 : List Gpart) : Int → Option ((Int) ⊕ (Int ⊕ Unit))
  | i_2 => (if (decide (i_2 < (s0.length : Int))) = true then (ix s0 i_2).bind fun x_5 => (impl_part_isWorn x_5).bind fun t_6 => (if t_6 = true then some (.inr (.inl i_2)) else some (.inl (w64 (i_2 + 1)))) else some (.inr (.inr ())))
def slices_IndexFunc_part_at_impl_part_isWorn (s0 : List Gpart) : Option (Int) := (loop (slices_IndexFunc_part_at_impl_part_isWorn.l_3 s0) 0).bind fun t_4 => match t_4 with | .inl p => some p | .inr p => slices_IndexFunc_part_at_impl_part_isWorn.k_1
theorem slices_IndexFunc_part_at_impl_part_isWorn.calls (s0 : List Gpart) (w : World) (r : Int) {A_a : Option Addr} {A_an : Nat} (A_c : Nat) (A_h : Rw w A_a 5 encGpart s0) (A_hn : s0.length = A_an) (h : slices_IndexFunc_part_at_impl_part_isWorn s0 = some r) :
    Calls Tryz.prog 241 #[(.slice A_a A_an A_c), (.func (.func 104) #[] #[])] w fun e w' => ∃ v, e = .returned v ∧ (v = (.int .i64 r) ∧ Mem w [] [] w') := by
  subst A_hn
  rw [slices_IndexFunc_part_at_impl_part_isWorn] at h
  refine enter (args := [(.slice A_a s0.length A_c), (.func (.func 104) #[] #[])]) Tryz.func241 rfl Tryz.ntmps241 (by kernel_rfl) (L := []) (W := []) (Mem.start w) ?_
  refine jc_seq (jc_region (qh [0] (qe (jx_then (jc_seq (jc_seq (jc_region (qh [0,0,0] (qe (jx_then (jc_meet (fun (_ : Unit) => slices_IndexFunc_part_at_impl_part_isWorn.k_1 = some r) (fun (_ : Unit) => [(4, [], (.int .i64 0))]) (fun (_ : Unit) => []) ?_ ?_)))))))))))
  ·refine jc_block ?_
   obtain ⟨t_4, ht_40, hr_31⟩ := bd h
   refine jc_loop (fun (s : Int) (x : Unit) => match s, x with | i_2, _ => True) (fun (s : Int) (x : Unit) => match s, x with | i_2, _ => [(0, [], (.slice A_a s0.length A_c)), (1, [], (.func (.func 104) #[] #[])), (4, [], (.int .i64 0)), (7, [], (.int .i64 (s0.length : Int))), (8, [], (.int .i64 i_2))]) (fun (s : Int) (x : Unit) => match s, x with | i_2, _ => []) ht_40 () trivial (by kernel_rfl) [] (by kernel_rfl) (by kernel_rfl) ?_
   rintro i_2 _ y_32 _ h
   rw [slices_IndexFunc_part_at_impl_part_isWorn.l_3] at h
   refine jc_seq (jc_region (qh [0] (qe (jx_then (jc_seq (qi h (fun h => ?_) (fun h => ?_)))))))
   ·refine jc_skip (jx_then (jc_seq (jc_block (jc_seq (jc_region (qh [0,0] (qe (jx_then (jc_seq (jc_region (qh [0,0,0] ?_)))))))))))
    obtain ⟨x_5, hx_35, h⟩ := bd h
    refine tO (qx 0 A_a 5 hx_35 rfl (A_h.sp hx_35) (jkO (tO (ql 0 true (fun w hm => ((hm.xr A_h).at hx_35)) (jkO ?_)))))
    obtain ⟨t_6, ht_36, h⟩ := bd h
    refine tO (pc 0 (fun w hm => impl_part_isWorn.calls x_5 w _ ht_36) ?_)
    rintro w v w' hm ⟨rfl, hm'⟩
    refine ⟨_, hm.app hm', jkO ?_⟩
    clear hm hm'
    refine qe (jx_then (qi h (fun h => ?_) (fun h => ?_)))
    ·refine jc_seq (jc_region (qh [0,0] (qe (jx_then (jc_ret (jx_inr (jx_thenr (jx_leaver (.inl i_2) (Option.some.inj h).symm (fun e_38 => ?_)))))))))
     subst e_38
     refine jx_inr (jx_thenr (jx_thenr ?_))
     obtain rfl := Option.some.inj hr_31
     exact qr [] (fun w hm => ⟨rfl, hm.pk []⟩)
    ·exact jc_skip (jx_inn (jx_then (jc_region (qh [0,0] (qe (qb (w64 (i_2 + 1)) () h trivial []))))))
   ·refine jc_exit (jx_thenx (jx_leave (.inr ()) (Option.some.inj h).symm (fun e_39 => ?_)))
    subst e_39
    exact jx_ine (qm () hr_31 [])
  ·rintro _ h
   replace h : slices_IndexFunc_part_at_impl_part_isWorn.k_1 = some r := h
   rw [slices_IndexFunc_part_at_impl_part_isWorn.k_1] at h
   refine jx_then (jc_seq (jc_region (qh [0] (qe (jx_then (jc_ret ?_))))))
   obtain rfl := Option.some.inj h
   exact qr [] (fun w hm => ⟨rfl, hm.pk []⟩)
/-! ### slices.ContainsFunc[[]impl.part,impl.part] -/
def slices_ContainsFunc_part_at_impl_part_isWorn (s0 : List Gpart) : Option (Bool) := (slices_IndexFunc_part_at_impl_part_isWorn s0).bind fun t_1 => some (decide (t_1 ≥ 0))
theorem slices_ContainsFunc_part_at_impl_part_isWorn.calls (s0 : List Gpart) (w : World) (r : Bool) {A_a : Option Addr} {A_an : Nat} (A_c : Nat) (A_h : Rw w A_a 5 encGpart s0) (A_hn : s0.length = A_an) (h : slices_ContainsFunc_part_at_impl_part_isWorn s0 = some r) :
    Calls Tryz.prog 206 #[(.slice A_a A_an A_c), (.func (.func 104) #[] #[])] w fun e w' => ∃ v, e = .returned v ∧ (v = (.bool r) ∧ Mem w [] [] w') := by
  subst A_hn
  rw [slices_ContainsFunc_part_at_impl_part_isWorn] at h
  refine enter (args := [(.slice A_a s0.length A_c), (.func (.func 104) #[] #[])]) Tryz.func206 rfl Tryz.ntmps206 (by kernel_rfl) (L := []) (W := []) (Mem.start w) ?_
  refine jc_seq (jc_region (qh [0] (qe (jx_then (jc_seq (jc_region (qh [0,0] ?_)))))))
  obtain ⟨t_1, ht_1, h⟩ := bd h
  refine tO (pc 0 (fun w hm => slices_IndexFunc_part_at_impl_part_isWorn.calls s0 w _ A_c (hm.xr A_h) rfl ht_1) ?_)
  rintro w v w' hm ⟨rfl, hm'⟩
  refine ⟨_, hm.app hm', jkO ?_⟩
  clear hm hm'
  refine qh [0,0] (qe (jx_then (jc_ret ?_)))
  obtain rfl := Option.some.inj h
  exact qr [] (fun w hm => ⟨rfl, hm.pk []⟩)
/-! ### impl.lifeCode -/
def impl_lifeCode (f0 : GFrame) (w1 : GWear) (v2 : GLives) : Option (Int) := (impl_wearCode f0 w1 ([v2] : List GLives)).bind fun t_1 => (if (t_1 != 0) = true then some t_1 else (impl_Wear_parts w1 f0 v2).bind fun t_2 => (slices_ContainsFunc_part_at_impl_part_isWorn t_2).bind fun t_3 => (impl_unless (!t_3) 4).bind fun t_4 => some t_4)
theorem impl_lifeCode.calls (f0 : GFrame) (w1 : GWear) (v2 : GLives) (w : World) (r : Int) {C_a : Option Addr} {C_an : Nat} (C_c : Nat) (C_h : Rw w C_a 2 encGHammer f0.fHammers) (C_hn : f0.fHammers.length = C_an) {E_a : Option Addr} {E_an : Nat} (E_c : Nat) (E_h : Rw w E_a 3 encGWornPin w1.fPins) (E_hn : w1.fPins.length = E_an) {F_a : Option Addr} {F_an : Nat} (F_c : Nat) (F_h : Rw w F_a 1 encI64 w1.fStrokes) (F_hn : w1.fStrokes.length = F_an) (h : impl_lifeCode f0 w1 v2 = some r) :
    Calls Tryz.prog 161 #[(.agg #[(.int .i16 f0.fSteps), (.slice C_a C_an C_c)]), (.agg #[(.slice E_a E_an E_c), (.slice F_a F_an F_c)]), (.agg #[(.int .i64 v2.fPin), (.int .i64 v2.fHammer)])] w fun e w' => ∃ v, e = .returned v ∧ (v = (.int .i64 r) ∧ Mem w [] [] w') := by
  subst C_hn E_hn F_hn
  rw [impl_lifeCode] at h
  refine enter (args := [(.agg #[(.int .i16 f0.fSteps), (.slice C_a f0.fHammers.length C_c)]), (.agg #[(.slice E_a w1.fPins.length E_c), (.slice F_a w1.fStrokes.length F_c)]), (.agg #[(.int .i64 v2.fPin), (.int .i64 v2.fHammer)])]) Tryz.func161 rfl Tryz.ntmps161 (by kernel_rfl) (L := []) (W := []) (Mem.start w) ?_
  refine jc_seq (jc_region (tO (qa 0 (fun b_1 => jkO (tO (qa 0 (fun b_2 => jkO (tO (qa 0 (fun b_3 => jkO (qh [0] (qe (jx_then (jc_seq (jc_seq (jc_region (qh [0,1,2] (tO (qa 0 (fun b_7 => jkO ?_))))))))))))))))))))
  obtain ⟨t_1, ht_8, h⟩ := bd h
  refine tO (pc 0 (fun w hm => impl_wearCode.calls f0 w1 ([v2] : List GLives) w _ C_c (hm.xr C_h) rfl E_c (hm.xr E_h) rfl F_c (hm.xr F_h) rfl 1 (hm.ow 3 (some b_7) 65 ([v2] : List GLives) [] (fun e => nomatch e) encGLives_len) rfl ht_8) ?_)
  rintro w v w' hm ⟨rfl, hm'⟩
  refine ⟨_, hm.app hm', jkO ?_⟩
  clear hm hm'
  refine qh [0] (qe (jx_then (jc_seq (jc_region (qh [0,0] (qe (jx_then (qi h (fun h => ?_) (fun h => ?_)))))))))
  ·refine jc_seq (jc_region (qh [0,0] (qe (jx_then (jc_ret (jx_thenr ?_))))))
   obtain rfl := Option.some.inj h
   exact qr [] (fun w hm => ⟨rfl, hm.pk []⟩)
  ·refine jc_skip (jx_then (jc_seq (jc_region (qh [1,0,2] ?_))))
   obtain ⟨t_2, ht_10, h⟩ := bd h
   refine tO (pc 0 (fun w hm => impl_Wear_parts.calls w1 f0 v2 w _ E_c (hm.xr E_h) rfl F_c (hm.xr F_h) rfl C_c (hm.xr C_h) rfl ht_10) ?_)
   rintro w v w' hm ⟨o_11, cap_12, sp_13, _, rfl, hs_14, ho_15, rfl, hm'⟩
   refine ⟨_, hm.app hm', jkO ?_⟩
   clear hm hm'
   obtain ⟨t_3, ht_16, h⟩ := bd h
   refine tO (pc 0 (fun w hm => slices_ContainsFunc_part_at_impl_part_isWorn.calls t_2 w _ cap_12 (hm.ow 4 o_11 157 t_2 sp_13 (fun e => (ho_15 e).1) encGpart_len) rfl ht_16) ?_)
   rintro w v w' hm ⟨rfl, hm'⟩
   refine ⟨_, hm.app hm', jkO ?_⟩
   clear hm hm'
   refine qh [0] ?_
   obtain ⟨t_4, ht_17, h⟩ := bd h
   refine tO (pc 0 (fun w hm => impl_unless.calls (!t_3) 4 w _ ht_17) ?_)
   rintro w v w' hm ⟨rfl, hm'⟩
   refine ⟨_, hm.app hm', jkO ?_⟩
   clear hm hm'
   refine qh [0] (qe (jx_then (jc_ret ?_)))
   obtain rfl := Option.some.inj h
   exact qr [] (fun w hm => ⟨rfl, hm.pk []⟩)
/-! ### impl.doActs -/
def impl_doActs.k_5 (xs_1 : List GWornPin) (xs_3 : List Int) : Option (GWear × Int × Int) := (impl_Wear_own (⟨xs_1, xs_3⟩ : GWear)).bind fun t_6 => some (t_6, 0, 0)
def impl_doActs.k_17 (i_11 : Int) (t_15 : GWear × Int) (i_16 : Int) : Option (((List GWornPin) × (List Int) × Int) ⊕ ((GWear × Int × Int) ⊕ ((List GWornPin) × (List Int)))) := (if (i_16 != 0) = true then some (.inr (.inl ((⟨[], []⟩ : GWear), i_11, i_16))) else some (.inl (t_15.1.fPins, t_15.1.fStrokes, (w64 (i_11 + 1)))))
def impl_doActs.l_12 (f0 : GFrame) (v2 : GLives) (list3 : List GAct) : ((List GWornPin) × (List Int) × Int) → Option (((List GWornPin) × (List Int) × Int) ⊕ ((GWear × Int × Int) ⊕ ((List GWornPin) × (List Int))))
  | (xs_7, xs_9, i_11) => (if (decide (i_11 < (list3.length : Int))) = true then (ix list3 i_11).bind fun x_14 => (impl_DoWearAct f0 (⟨xs_7, xs_9⟩ : GWear) x_14).bind fun t_15 => (if (t_15.2 == 0) = true then (impl_lifeCode f0 t_15.1 v2).bind fun t_18 => (if (t_18 != 0) = true then impl_doActs.k_17 i_11 t_15 8 else impl_doActs.k_17 i_11 t_15 t_15.2) else impl_doActs.k_17 i_11 t_15 t_15.2) else some (.inr (.inr (xs_7, xs_9))))
def impl_doActs (f0 : GFrame) (w1 : GWear) (v2 : GLives) (list3 : List GAct) : Option (GWear × Int × Int) := (loop (impl_doActs.l_12 f0 v2 list3) (w1.fPins, w1.fStrokes, 0)).bind fun t_13 => match t_13 with | .inl p => some p | .inr p => impl_doActs.k_5 p.1 p.2
theorem impl_doActs.calls (f0 : GFrame) (w1 : GWear) (v2 : GLives) (list3 : List GAct) (w : World) (r : GWear × Int × Int) {C_a : Option Addr} {C_an : Nat} (C_c : Nat) (C_h : Rw w C_a 2 encGHammer f0.fHammers) (C_hn : f0.fHammers.length = C_an) {E_a : Option Addr} {E_an : Nat} (E_c : Nat) (E_h : Rw w E_a 3 encGWornPin w1.fPins) (E_hn : w1.fPins.length = E_an) {F_a : Option Addr} {F_an : Nat} (F_c : Nat) (F_h : Rw w F_a 1 encI64 w1.fStrokes) (F_hn : w1.fStrokes.length = F_an) {J_a : Option Addr} {J_an : Nat} (J_c : Nat) (J_h : Rw w J_a 5 encGAct list3) (J_hn : list3.length = J_an) (h : impl_doActs f0 w1 v2 list3 = some r) :
    Calls Tryz.prog 89 #[(.agg #[(.int .i16 f0.fSteps), (.slice C_a C_an C_c)]), (.agg #[(.slice E_a E_an E_c), (.slice F_a F_an F_c)]), (.agg #[(.int .i64 v2.fPin), (.int .i64 v2.fHammer)]), (.slice J_a J_an J_c)] w fun e w' => ∃ v, e = .returned v ∧ (∃ (o0 : Option Nat) (c0 : Nat) (s0 : List Value) (n0 : Nat), r.1.fPins.length = n0 ∧ (o0 ≠ none → n0 ≤ c0 ∧ s0.length = (c0 - n0) * 3) ∧ (o0 = none → r.1.fPins = [] ∧ c0 = 0) ∧ ∃ (o1 : Option Nat) (c1 : Nat) (s1 : List Value) (n1 : Nat), r.1.fStrokes.length = n1 ∧ (o1 ≠ none → n1 ≤ c1 ∧ s1.length = (c1 - n1) * 1) ∧ (o1 = none → r.1.fStrokes = [] ∧ c1 = 0) ∧ v = .tuple #[.agg #[.slice (o0.map fun b => ⟨b, 0, none⟩) n0 c0, .slice (o1.map fun b => ⟨b, 0, none⟩) n1 c1], (.int .i64 r.2.1), (.int .i64 r.2.2)] ∧ Mem w [] [⟨o0, 147, row encGWornPin r.1.fPins s0⟩, ⟨o1, 2, row encI64 r.1.fStrokes s1⟩] w') := by
  subst C_hn E_hn F_hn J_hn
  rw [impl_doActs] at h
  refine enter (args := [(.agg #[(.int .i16 f0.fSteps), (.slice C_a f0.fHammers.length C_c)]), (.agg #[(.slice E_a w1.fPins.length E_c), (.slice F_a w1.fStrokes.length F_c)]), (.agg #[(.int .i64 v2.fPin), (.int .i64 v2.fHammer)]), (.slice J_a list3.length J_c)]) Tryz.func89 rfl Tryz.ntmps89 (by kernel_rfl) (L := []) (W := []) (Mem.start w) ?_
  refine jc_seq (jc_region (tO (qa 0 (fun b_1 => jkO (tO (qa 0 (fun b_2 => jkO (tO (qa 0 (fun b_3 => jkO (tO (qa 0 (fun b_4 => jkO (qh [0,0] (qe (jx_then (jc_seq (jc_seq (jc_region (qh [0,0,0] (qe (jx_then (jc_meet (fun (j : (List GWornPin) × (List Int) × (Option Nat) × Nat × (List Value) × Nat × (Option Addr) × (Option Nat) × Nat × (List Value) × Nat × (Option Addr)) => match j with | ⟨xs_1, xs_3, o_329, cap_330, sp_331, n_332, a_2, o_335, cap_336, sp_337, n_338, a_4⟩ => impl_doActs.k_5 xs_1 xs_3 = some r ∧ (xs_1.length = n_332) ∧ (EiR w [] o_329 a_2 3 encGWornPin xs_1) ∧ (xs_3.length = n_338) ∧ (EiR w [] o_335 a_4 1 encI64 xs_3)) (fun (j : (List GWornPin) × (List Int) × (Option Nat) × Nat × (List Value) × Nat × (Option Addr) × (Option Nat) × Nat × (List Value) × Nat × (Option Addr)) => match j with | ⟨xs_1, xs_3, o_329, cap_330, sp_331, n_332, a_2, o_335, cap_336, sp_337, n_338, a_4⟩ => [(5, [], (.pointer (some ⟨b_2, 0, none⟩))), (8, [], (.pointer (some ⟨b_4, 0, none⟩))), (9, [], (.int .i64 0)), (10, [], (.int .i64 0))]) (fun (j : (List GWornPin) × (List Int) × (Option Nat) × Nat × (List Value) × Nat × (Option Addr) × (Option Nat) × Nat × (List Value) × Nat × (Option Addr)) => match j with | ⟨xs_1, xs_3, o_329, cap_330, sp_331, n_332, a_2, o_335, cap_336, sp_337, n_338, a_4⟩ => [⟨some b_1, 27, [(.int .i16 f0.fSteps), (.slice C_a f0.fHammers.length C_c)]⟩, ⟨some b_2, 62, [(.slice a_2 n_332 cap_330), (.slice a_4 n_338 cap_336)]⟩, ⟨some b_3, 65, [(.int .i64 v2.fPin), (.int .i64 v2.fHammer)]⟩, ⟨some b_4, 62, [(.slice none 0 0), (.slice none 0 0)]⟩, ⟨o_329, 147, row encGWornPin xs_1 sp_331⟩, ⟨o_335, 2, row encI64 xs_3 sp_337⟩]) ?_ ?_)))))))))))))))))))))))
  ·refine jc_block ?_
   obtain ⟨t_13, ht_455, hr_426⟩ := bd h
   refine jc_ghostX 147 encGWornPin w1.fPins (jc_ghostX 2 encI64 w1.fStrokes (jc_loop (fun (s : (List GWornPin) × (List Int) × Int) (x : (Option Nat) × Nat × (List Value) × Nat × (Option Addr) × (Option Nat) × Nat × (List Value) × Nat × (Option Addr)) => match s, x with | ⟨xs_7, xs_9, i_11⟩, ⟨o_414, cap_415, sp_416, n_417, a_8, o_420, cap_421, sp_422, n_423, a_10⟩ => (xs_7.length = n_417) ∧ (EiR w [] o_414 a_8 3 encGWornPin xs_7) ∧ (xs_9.length = n_423) ∧ (EiR w [] o_420 a_10 1 encI64 xs_9)) (fun (s : (List GWornPin) × (List Int) × Int) (x : (Option Nat) × Nat × (List Value) × Nat × (Option Addr) × (Option Nat) × Nat × (List Value) × Nat × (Option Addr)) => match s, x with | ⟨xs_7, xs_9, i_11⟩, ⟨o_414, cap_415, sp_416, n_417, a_8, o_420, cap_421, sp_422, n_423, a_10⟩ => [(4, [], (.pointer (some ⟨b_1, 0, none⟩))), (5, [], (.pointer (some ⟨b_2, 0, none⟩))), (6, [], (.pointer (some ⟨b_3, 0, none⟩))), (8, [], (.pointer (some ⟨b_4, 0, none⟩))), (9, [], (.int .i64 0)), (10, [], (.int .i64 0)), (15, [], (.slice J_a list3.length J_c)), (16, [], (.int .i64 (list3.length : Int))), (17, [], (.int .i64 i_11))]) (fun (s : (List GWornPin) × (List Int) × Int) (x : (Option Nat) × Nat × (List Value) × Nat × (Option Addr) × (Option Nat) × Nat × (List Value) × Nat × (Option Addr)) => match s, x with | ⟨xs_7, xs_9, i_11⟩, ⟨o_414, cap_415, sp_416, n_417, a_8, o_420, cap_421, sp_422, n_423, a_10⟩ => [⟨some b_1, 27, [(.int .i16 f0.fSteps), (.slice C_a f0.fHammers.length C_c)]⟩, ⟨some b_2, 62, [(.slice a_8 n_417 cap_415), (.slice a_10 n_423 cap_421)]⟩, ⟨some b_3, 65, [(.int .i64 v2.fPin), (.int .i64 v2.fHammer)]⟩, ⟨some b_4, 62, [(.slice none 0 0), (.slice none 0 0)]⟩, ⟨o_414, 147, row encGWornPin xs_7 sp_416⟩, ⟨o_420, 2, row encI64 xs_9 sp_422⟩]) ht_455 ⟨(none : Option Nat), E_c, ([] : List Value), w1.fPins.length, E_a, (none : Option Nat), F_c, ([] : List Value), w1.fStrokes.length, F_a⟩ ⟨rfl, (.inr ⟨rfl, E_h, fun _ => List.not_mem_nil⟩), rfl, (.inr ⟨rfl, F_h, fun _ => List.not_mem_nil⟩)⟩ (by kernel_rfl) [0, 1, 2, 3, 4, 5] (by kernel_rfl) (by kernel_rfl) ?_))
   rintro ⟨xs_7, xs_9, i_11⟩ ⟨o_414, cap_415, sp_416, n_417, a_8, o_420, cap_421, sp_422, n_423, a_10⟩ y_427 ⟨hn_419, he_418, hn_425, he_424⟩ h
   rw [impl_doActs.l_12] at h
   refine jc_seq (jc_region (qh [0] (qe (jx_then (jc_seq (qi h (fun h => ?_) (fun h => ?_)))))))
   ·refine jc_skip (jx_then (jc_seq (jc_block (jc_seq (jc_region (qh [0] ?_))))))
    obtain ⟨x_14, hx_430, h⟩ := bd h
    refine tO (qx 0 J_a 5 hx_430 rfl (J_h.sp hx_430) (jkO (tO (ql 0 true (fun w hm => ((hm.xr J_h).at hx_430)) (jkO (tO (qa 0 (fun b_431 => jkO (qh [0] (tO (qs 0 [6] (jkO (qe (jx_then (jc_seq (jc_region (qh [0,1,6] ?_)))))))))))))))))
    obtain ⟨t_15, ht_432, h⟩ := bd h
    refine tO (pc 0 (fun w hm => impl_DoWearAct.calls f0 (⟨xs_7, xs_9⟩ : GWear) x_14 w _ C_c (hm.xr C_h) rfl cap_415 (hm.eiRow (hh := 4) (o := o_414) (T := 147) (enc := encGWornPin) (xs := xs_7) (sp := sp_416) (by kernel_rfl) he_418 encGWornPin_len) hn_419 cap_421 (hm.eiRow (hh := 5) (o := o_420) (T := 2) (enc := encI64) (xs := xs_9) (sp := sp_422) (by kernel_rfl) he_424 encI64_len) hn_425 ht_432) ?_)
    rintro w v w' hm ⟨o_433, cap_434, sp_435, _, rfl, hs_436, ho_437, o_438, cap_439, sp_440, _, rfl, hs_441, ho_442, rfl, hm'⟩
    refine ⟨_, hm.app hm', jkO ?_⟩
    clear hm hm'
    refine qh [0,0,0] (tO (qa 0 (fun b_443 => jkO (tO (qs 0 [9] (jkO (qh [0] (qe (jx_then (jc_seq (jc_meet (fun (j : Int) => match j with | i_16 => impl_doActs.k_17 i_11 t_15 i_16 = some y_427) (fun (j : Int) => match j with | i_16 => [(4, [], (.pointer (some ⟨b_1, 0, none⟩))), (5, [], (.pointer (some ⟨b_2, 0, none⟩))), (6, [], (.pointer (some ⟨b_3, 0, none⟩))), (8, [], (.pointer (some ⟨b_4, 0, none⟩))), (9, [], (.int .i64 0)), (10, [], (.int .i64 0)), (11, [], (.int .i64 i_11)), (13, [], (.pointer (some ⟨b_443, 0, none⟩))), (14, [], (.int .i64 i_16)), (15, [], (.slice J_a list3.length J_c)), (16, [], (.int .i64 (list3.length : Int))), (17, [], (.int .i64 i_11))]) (fun (j : Int) => match j with | i_16 => [⟨some b_1, 27, [(.int .i16 f0.fSteps), (.slice C_a f0.fHammers.length C_c)]⟩, ⟨some b_2, 62, [(.slice a_8 n_417 cap_415), (.slice a_10 n_423 cap_421)]⟩, ⟨some b_3, 65, [(.int .i64 v2.fPin), (.int .i64 v2.fHammer)]⟩, ⟨some b_4, 62, [(.slice none 0 0), (.slice none 0 0)]⟩, ⟨o_414, 147, row encGWornPin xs_7 sp_416⟩, ⟨o_420, 2, row encI64 xs_9 sp_422⟩, ⟨some b_431, 77, [(.int .i8 x_14.fKind), (.int .i64 x_14.fA), (.int .i64 x_14.fB), (.int .i64 x_14.fC), (.int .i64 x_14.fD)]⟩, ⟨o_433, 147, row encGWornPin t_15.1.fPins sp_435⟩, ⟨o_438, 2, row encI64 t_15.1.fStrokes sp_440⟩, ⟨some b_443, 62, [(.slice (o_433.map fun b => ⟨b, 0, none⟩) t_15.1.fPins.length cap_434), (.slice (o_438.map fun b => ⟨b, 0, none⟩) t_15.1.fStrokes.length cap_439)]⟩]) ?_ ?_)))))))))))
    ·refine jc_seq (jc_region (qf [(0, 0), (0, 0), (0, 0), (0, 1), (9, 1), (2, 1)] (qp 31 h (fun h => ?_) (fun h => ?_))))
     ·obtain ⟨t_18, ht_451, h⟩ := bd h
      refine tO (pc 2 (fun w hm => impl_lifeCode.calls f0 t_15.1 v2 w _ C_c (hm.xr C_h) rfl cap_434 (hm.ow 7 o_433 147 t_15.1.fPins sp_435 (fun e => (ho_437 e).1) encGWornPin_len) rfl cap_439 (hm.ow 8 o_438 2 t_15.1.fStrokes sp_440 (fun e => (ho_442 e).1) encI64_len) rfl ht_451) ?_)
      rintro w v w' hm ⟨rfl, hm'⟩
      refine ⟨_, hm.app hm', jkO ?_⟩
      clear hm hm'
      refine qf [(0, 2), (0, 4)] (qe (jx_then (qi h (fun h => ?_) (fun h => ?_))))
      ·exact jc_region (qh [0] (qe (qm 8 h [0, 1, 2, 3, 4, 5, 6, 7, 8, 9])))
      ·exact jc_skip (qm t_15.2 h [0, 1, 2, 3, 4, 5, 6, 7, 8, 9])
     ·exact qf [(0, 3), (0, 3), (0, 5)] (qe (jx_then (jc_cond false (by kernel_rfl) (fun hc_453 => nomatch hc_453) (fun hc_453 => (jc_skip (qm t_15.2 h [0, 1, 2, 3, 4, 5, 6, 7, 8, 9]))))))
    ·rintro i_16 h
     replace h : impl_doActs.k_17 i_11 t_15 i_16 = some y_427 := h
     rw [impl_doActs.k_17] at h
     refine jx_then (jc_seq (jc_seq (jc_region (qh [0,0] (qe (jx_then (qi h (fun h => ?_) (fun h => ?_))))))))
     ·refine jc_seq (jc_region (qh [0,0,0] (tO (qs 0 [3] (jkO (qh [0,0] (qe (jx_then (jc_ret (jx_thenr (jx_inr (jx_thenr (jx_leaver (.inl ((⟨[], []⟩ : GWear), i_11, i_16)) (Option.some.inj h).symm (fun e_449 => ?_))))))))))))))
      subst e_449
      refine jx_inr (jx_thenr (jx_thenr ?_))
      obtain rfl := Option.some.inj hr_426
      exact jx_ghost 147 encGWornPin (jx_ghost 2 encI64 (qr [3] (fun w hm => ⟨none, 0, [], 0, rfl, (fun e => absurd rfl e), (fun _ => ⟨rfl, rfl⟩), none, 0, [], 0, rfl, (fun e => absurd rfl e), (fun _ => ⟨rfl, rfl⟩), rfl, hm.pk [10, 11]⟩)))
     ·exact jc_skip (jx_then (jc_region (qh [9] (tO (qs 0 [1] (jkO (qe (jx_inn (jx_then (jc_region (qh [0,0] (qe (qb (t_15.1.fPins, t_15.1.fStrokes, (w64 (i_11 + 1))) ⟨o_433, cap_434, sp_435, t_15.1.fPins.length, (o_433.map fun b => ⟨b, 0, none⟩), o_438, cap_439, sp_440, t_15.1.fStrokes.length, (o_438.map fun b => ⟨b, 0, none⟩)⟩ h ⟨rfl, (.inl ⟨rfl, (fun e => (ho_437 e).1)⟩), rfl, (.inl ⟨rfl, (fun e => (ho_442 e).1)⟩)⟩ [0, 1, 2, 3, 7, 8])))))))))))))
   ·refine jc_exit (jx_thenx (jx_leave (.inr (xs_7, xs_9)) (Option.some.inj h).symm (fun e_454 => ?_)))
    subst e_454
    exact jx_ine (qm ⟨xs_7, xs_9, o_414, cap_415, sp_416, n_417, a_8, o_420, cap_421, sp_422, n_423, a_10⟩ ⟨hr_426, hn_419, he_418, hn_425, he_424⟩ [0, 1, 2, 3, 4, 5])
  ·rintro ⟨xs_1, xs_3, o_329, cap_330, sp_331, n_332, a_2, o_335, cap_336, sp_337, n_338, a_4⟩ ⟨h, hn_334, he_333, hn_340, he_339⟩
   replace h : impl_doActs.k_5 xs_1 xs_3 = some r := h
   rw [impl_doActs.k_5] at h
   refine jx_then (jc_seq (jc_region (qh [1] ?_)))
   obtain ⟨t_6, ht_341, h⟩ := bd h
   refine tO (pc 0 (fun w hm => impl_Wear_own.calls (⟨xs_1, xs_3⟩ : GWear) w _ cap_330 (hm.eiRow (hh := 4) (o := o_329) (T := 147) (enc := encGWornPin) (xs := xs_1) (sp := sp_331) (by kernel_rfl) he_333 encGWornPin_len) hn_334 cap_336 (hm.eiRow (hh := 5) (o := o_335) (T := 2) (enc := encI64) (xs := xs_3) (sp := sp_337) (by kernel_rfl) he_339 encI64_len) hn_340 ht_341) ?_)
   rintro w v w' hm ⟨o_342, cap_343, sp_344, _, rfl, hs_345, ho_346, o_347, cap_348, sp_349, _, rfl, hs_350, ho_351, rfl, hm'⟩
   refine ⟨_, hm.app hm', jkO ?_⟩
   clear hm hm'
   refine tO (qs 0 [3] (jkO (qh [0,0] (qe (jx_then (jc_ret ?_))))))
   obtain rfl := Option.some.inj h
   exact qr [3] (fun w hm => ⟨o_342, cap_343, sp_344, t_6.fPins.length, rfl, hs_345, ho_346, o_347, cap_348, sp_349, t_6.fStrokes.length, rfl, hs_350, ho_351, rfl, hm.pk [6, 7]⟩)
/-! ### impl.DoWearActs -/
def impl_DoWearActs (f0 : GFrame) (w1 : GWear) (v2 : GLives) (list3 : List GAct) : Option (GWear × Int) := (impl_actsCode f0 w1 v2 list3).bind fun t_1 => (if (t_1 != 0) = true then some ((⟨[], []⟩ : GWear), t_1) else (impl_doActs f0 w1 v2 list3).bind fun t_2 => some (t_2.1, t_2.2.2))
theorem impl_DoWearActs.calls (f0 : GFrame) (w1 : GWear) (v2 : GLives) (list3 : List GAct) (w : World) (r : GWear × Int) {C_a : Option Addr} {C_an : Nat} (C_c : Nat) (C_h : Rw w C_a 2 encGHammer f0.fHammers) (C_hn : f0.fHammers.length = C_an) {E_a : Option Addr} {E_an : Nat} (E_c : Nat) (E_h : Rw w E_a 3 encGWornPin w1.fPins) (E_hn : w1.fPins.length = E_an) {F_a : Option Addr} {F_an : Nat} (F_c : Nat) (F_h : Rw w F_a 1 encI64 w1.fStrokes) (F_hn : w1.fStrokes.length = F_an) {J_a : Option Addr} {J_an : Nat} (J_c : Nat) (J_h : Rw w J_a 5 encGAct list3) (J_hn : list3.length = J_an) (h : impl_DoWearActs f0 w1 v2 list3 = some r) :
    Calls Tryz.prog 31 #[(.agg #[(.int .i16 f0.fSteps), (.slice C_a C_an C_c)]), (.agg #[(.slice E_a E_an E_c), (.slice F_a F_an F_c)]), (.agg #[(.int .i64 v2.fPin), (.int .i64 v2.fHammer)]), (.slice J_a J_an J_c)] w fun e w' => ∃ v, e = .returned v ∧ (∃ (o0 : Option Nat) (c0 : Nat) (s0 : List Value) (n0 : Nat), r.1.fPins.length = n0 ∧ (o0 ≠ none → n0 ≤ c0 ∧ s0.length = (c0 - n0) * 3) ∧ (o0 = none → r.1.fPins = [] ∧ c0 = 0) ∧ ∃ (o1 : Option Nat) (c1 : Nat) (s1 : List Value) (n1 : Nat), r.1.fStrokes.length = n1 ∧ (o1 ≠ none → n1 ≤ c1 ∧ s1.length = (c1 - n1) * 1) ∧ (o1 = none → r.1.fStrokes = [] ∧ c1 = 0) ∧ v = .tuple #[.agg #[.slice (o0.map fun b => ⟨b, 0, none⟩) n0 c0, .slice (o1.map fun b => ⟨b, 0, none⟩) n1 c1], (.int .i64 r.2)] ∧ Mem w [] [⟨o0, 147, row encGWornPin r.1.fPins s0⟩, ⟨o1, 2, row encI64 r.1.fStrokes s1⟩] w') := by
  subst C_hn E_hn F_hn J_hn
  rw [impl_DoWearActs] at h
  refine enter (args := [(.agg #[(.int .i16 f0.fSteps), (.slice C_a f0.fHammers.length C_c)]), (.agg #[(.slice E_a w1.fPins.length E_c), (.slice F_a w1.fStrokes.length F_c)]), (.agg #[(.int .i64 v2.fPin), (.int .i64 v2.fHammer)]), (.slice J_a list3.length J_c)]) Tryz.func31 rfl Tryz.ntmps31 (by kernel_rfl) (L := []) (W := []) (Mem.start w) ?_
  refine jc_seq (jc_region (tO (qa 0 (fun b_1 => jkO (tO (qa 0 (fun b_2 => jkO (tO (qa 0 (fun b_3 => jkO (tO (qa 0 (fun b_4 => jkO (qh [0] (qe (jx_then (jc_seq (jc_seq (jc_region (qh [0,1,2,0] ?_))))))))))))))))))))
  obtain ⟨t_1, ht_7, h⟩ := bd h
  refine tO (pc 0 (fun w hm => impl_actsCode.calls f0 w1 v2 list3 w _ C_c (hm.xr C_h) rfl E_c (hm.xr E_h) rfl F_c (hm.xr F_h) rfl J_c (hm.xr J_h) rfl ht_7) ?_)
  rintro w v w' hm ⟨rfl, hm'⟩
  refine ⟨_, hm.app hm', jkO ?_⟩
  clear hm hm'
  refine qh [0] (qe (jx_then (jc_seq (jc_region (qh [0,0] (qe (jx_then (qi h (fun h => ?_) (fun h => ?_)))))))))
  ·refine jc_seq (jc_region (qh [0,0] (tO (qs 0 [3] (jkO (qh [0] (qe (jx_then (jc_ret (jx_thenr ?_))))))))))
   obtain rfl := Option.some.inj h
   exact jx_ghost 147 encGWornPin (jx_ghost 2 encI64 (qr [3] (fun w hm => ⟨none, 0, [], 0, rfl, (fun e => absurd rfl e), (fun _ => ⟨rfl, rfl⟩), none, 0, [], 0, rfl, (fun e => absurd rfl e), (fun _ => ⟨rfl, rfl⟩), rfl, hm.pk [4, 5]⟩)))
  ·refine jc_skip (jx_then (jc_seq (jc_region (qh [0,1,2,0] ?_))))
   obtain ⟨t_2, ht_9, h⟩ := bd h
   refine tO (pc 0 (fun w hm => impl_doActs.calls f0 w1 v2 list3 w _ C_c (hm.xr C_h) rfl E_c (hm.xr E_h) rfl F_c (hm.xr F_h) rfl J_c (hm.xr J_h) rfl ht_9) ?_)
   rintro w v w' hm ⟨o_10, cap_11, sp_12, _, rfl, hs_13, ho_14, o_15, cap_16, sp_17, _, rfl, hs_18, ho_19, rfl, hm'⟩
   refine ⟨_, hm.app hm', jkO ?_⟩
   clear hm hm'
   refine qh [0,0,0,0] (tO (qa 0 (fun b_20 => jkO (tO (qs 0 [6] (jkO (qh [0,0] (qe (jx_then (jc_seq (jc_region (qh [6,0] (tO (qs 0 [3] (jkO (qh [0] (qe (jx_then (jc_ret ?_)))))))))))))))))))
   obtain rfl := Option.some.inj h
   exact qr [3] (fun w hm => ⟨o_10, cap_11, sp_12, t_2.1.fPins.length, rfl, hs_13, ho_14, o_15, cap_16, sp_17, t_2.1.fStrokes.length, rfl, hs_18, ho_19, rfl, hm.pk [4, 5]⟩)
/-! ### spec.l06Place -/
def spec_l06Place (f0 : GFrame) (step1 : Int) (track2 : Int) : Option (Bool) := (spec_l00In step1 0 (w64 ((w64 f0.fSteps) - 1))).bind fun t_1 => (if t_1 = true then (spec_l00In track2 0 (w64 ((f0.fHammers.length : Int) - 1))).bind fun t_2 => some t_2 else some false)
theorem spec_l06Place.calls (f0 : GFrame) (step1 : Int) (track2 : Int) (w : World) (r : Bool) {C_a : Option Addr} {C_an : Nat} (C_c : Nat) (C_h : Rw w C_a 2 encGHammer f0.fHammers) (C_hn : f0.fHammers.length = C_an) (A_b : Nat) (hm0 : Mem w (bs [some A_b]) [⟨some A_b, 27, [(.int .i16 f0.fSteps), (.slice C_a C_an C_c)]⟩] w) (C_ha : f0.fHammers ≠ [] → aB C_a ∉ bs [some A_b]) (h : spec_l06Place f0 step1 track2 = some r) :
    Calls Tryz.prog 176 #[(.pointer (some ⟨A_b, 0, none⟩)), (.int .i64 step1), (.int .i64 track2)] w fun e w' => ∃ v, e = .returned v ∧ (v = (.bool r) ∧ Mem w (bs [some A_b]) [⟨some A_b, 27, [(.int .i16 f0.fSteps), (.slice C_a C_an C_c)]⟩] w') := by
  subst C_hn
  rw [spec_l06Place] at h
  refine enter (args := [(.pointer (some ⟨A_b, 0, none⟩)), (.int .i64 step1), (.int .i64 track2)]) Tryz.func176 rfl Tryz.ntmps176 (by kernel_rfl) (L := [⟨some A_b, 27, [(.int .i16 f0.fSteps), (.slice C_a f0.fHammers.length C_c)]⟩]) (W := bs [some A_b]) hm0 ?_
  refine jc_seq (jc_region (qh [0] (qe (jx_then (jc_seq (jc_region (qh [0,0,0,0,0,0,0] ?_)))))))
  obtain ⟨t_1, ht_1, h⟩ := bd h
  refine tO (pc 0 (fun w hm => spec_l00In.calls step1 0 (w64 ((w64 f0.fSteps) - 1)) w _ ht_1) ?_)
  rintro w v w' hm ⟨rfl, hm'⟩
  refine ⟨_, hm.app hm', jkO ?_⟩
  clear hm hm'
  refine qf [(0, 0), (0, 1), (0, 1), (0, 1), (0, 1), (0, 1), (0, 1), (0, 1)] (qp 15 h (fun h => ?_) (fun h => ?_))
  ·obtain ⟨t_2, ht_3, h⟩ := bd h
   refine tO (pc 2 (fun w hm => spec_l00In.calls track2 0 (w64 ((f0.fHammers.length : Int) - 1)) w _ ht_3) ?_)
   rintro w v w' hm ⟨rfl, hm'⟩
   refine ⟨_, hm.app hm', jkO ?_⟩
   clear hm hm'
   refine qf [(0, 4), (0, 0)] (qe (jx_then (jc_ret ?_)))
   obtain rfl := Option.some.inj h
   exact qr [] (fun w hm => ⟨rfl, hm.pk [0]⟩)
  ·refine qf [(0, 3), (0, 5), (0, 0)] (qe (jx_then (jc_ret ?_)))
   obtain rfl := Option.some.inj h
   exact qr [] (fun w hm => ⟨rfl, hm.pk [0]⟩)
/-! ### spec.l06Turns -/
def spec_l06Turns (n0 : Int) : Option (Bool) := (spec_l00In n0 0 1000000).bind fun t_1 => some t_1
theorem spec_l06Turns.calls (n0 : Int) (w : World) (r : Bool) (h : spec_l06Turns n0 = some r) :
    Calls Tryz.prog 177 #[(.int .i64 n0)] w fun e w' => ∃ v, e = .returned v ∧ (v = (.bool r) ∧ Mem w [] [] w') := by
  rw [spec_l06Turns] at h
  refine enter (args := [(.int .i64 n0)]) Tryz.func177 rfl Tryz.ntmps177 (by kernel_rfl) (L := []) (W := []) (Mem.start w) ?_
  refine jc_seq (jc_region (qh [0] (qe (jx_then (jc_seq (jc_region (qh [0] ?_)))))))
  obtain ⟨t_1, ht_1, h⟩ := bd h
  refine tO (pc 0 (fun w hm => spec_l00In.calls n0 0 1000000 w _ ht_1) ?_)
  rintro w v w' hm ⟨rfl, hm'⟩
  refine ⟨_, hm.app hm', jkO ?_⟩
  clear hm hm'
  refine qh [0] (qe (jx_then (jc_ret ?_)))
  obtain rfl := Option.some.inj h
  exact qr [] (fun w hm => ⟨rfl, hm.pk []⟩)
/-! ### spec.l06Before -/
def spec_l06Before (a0 : GWornPin) (b1 : GWornPin) : Option (Bool) := (if (decide (a0.fStep < b1.fStep)) = true then some true else some ((a0.fStep == b1.fStep) && (decide (a0.fTrack < b1.fTrack))))
theorem spec_l06Before.calls (a0 : GWornPin) (b1 : GWornPin) (w : World) (r : Bool) (h : spec_l06Before a0 b1 = some r) :
    Calls Tryz.prog 178 #[(.agg #[(.int .i8 a0.fStep), (.int .i8 a0.fTrack), (.int .i64 a0.fTurns)]), (.agg #[(.int .i8 b1.fStep), (.int .i8 b1.fTrack), (.int .i64 b1.fTurns)])] w fun e w' => ∃ v, e = .returned v ∧ (v = (.bool r) ∧ Mem w [] [] w') := by
  rw [spec_l06Before] at h
  refine enter (args := [(.agg #[(.int .i8 a0.fStep), (.int .i8 a0.fTrack), (.int .i64 a0.fTurns)]), (.agg #[(.int .i8 b1.fStep), (.int .i8 b1.fTrack), (.int .i64 b1.fTurns)])]) Tryz.func178 rfl Tryz.ntmps178 (by kernel_rfl) (L := []) (W := []) (Mem.start w) ?_
  refine jc_seq (jc_region (tO (qa 0 (fun b_1 => jkO (tO (qa 0 (fun b_2 => jkO (qh [0] (qe (jx_then (jc_seq (jc_region (qf [(0, 0), (0, 0), (0, 0), (1, 0), (0, 0), (0, 0), (0, 1), (0, 1), (0, 1), (1, 1), (0, 1)] (qp 10 h (fun h => ?_) (fun h => ?_)))))))))))))))
  ·refine qf [(0, 3), (0, 3), (0, 3), (0, 3), (0, 3), (0, 3), (0, 3), (0, 4), (0, 0)] (qe (jx_then (jc_ret ?_)))
   obtain rfl := Option.some.inj h
   exact qr [] (fun w hm => ⟨rfl, hm.pk []⟩)
  ·refine qf [(0, 2), (0, 1), (0, 1), (0, 1), (1, 1), (0, 1), (0, 2), (0, 5), (0, 0)] (qe (jx_then (jc_ret ?_)))
   obtain rfl := Option.some.inj h
   exact qr [] (fun w hm => ⟨rfl, hm.pk []⟩)
/-! ### spec.l06Ok -/
def spec_l06Ok.k_3 : Option (Bool) := some true
def spec_l06Ok.l_5 (w1 : GWear) : Int → Option ((Int) ⊕ (Bool ⊕ Unit))
  | i_4 => (if (decide (i_4 < (w1.fStrokes.length : Int))) = true then (ix w1.fStrokes i_4).bind fun x_7 => (spec_l06Turns x_7).bind fun t_8 => (if (!t_8) = true then some (.inr (.inl false)) else some (.inl (w64 (i_4 + 1)))) else some (.inr (.inr ())))
def spec_l06Ok.k_2 (w1 : GWear) : Option (Bool) := (loop (spec_l06Ok.l_5 w1) 0).bind fun t_6 => match t_6 with | .inl p => some p | .inr p => spec_l06Ok.k_3
def spec_l06Ok.k_14 (i_9 : Int) (q_13 : Bool) : Option ((Int) ⊕ (Bool ⊕ Unit)) := (if q_13 = true then some (.inr (.inl false)) else some (.inl (w64 (i_9 + 1))))
def spec_l06Ok.l_10 (f0 : GFrame) (w1 : GWear) : Int → Option ((Int) ⊕ (Bool ⊕ Unit))
  | i_9 => (if (decide (i_9 < (w1.fPins.length : Int))) = true then (ix w1.fPins i_9).bind fun x_12 => (spec_l06Place f0 (w64 x_12.fStep) (w64 x_12.fTrack)).bind fun t_15 => (if (!t_15) = true then spec_l06Ok.k_14 i_9 true else (spec_l06Turns x_12.fTurns).bind fun t_16 => (if (!t_16) = true then spec_l06Ok.k_14 i_9 true else (if (decide (i_9 > 0)) = true then (ix w1.fPins (w64 (i_9 - 1))).bind fun x_17 => (spec_l06Before x_17 x_12).bind fun t_18 => spec_l06Ok.k_14 i_9 (!t_18) else spec_l06Ok.k_14 i_9 false))) else some (.inr (.inr ())))
def spec_l06Ok (f0 : GFrame) (w1 : GWear) : Option (Bool) := (spec_l02Frame f0).bind fun t_1 => (if ((!t_1) || ((w1.fStrokes.length : Int) != (f0.fHammers.length : Int))) = true then some false else (loop (spec_l06Ok.l_10 f0 w1) 0).bind fun t_11 => match t_11 with | .inl p => some p | .inr p => spec_l06Ok.k_2 w1)
theorem spec_l06Ok.calls (f0 : GFrame) (w1 : GWear) (w : World) (r : Bool) {C_a : Option Addr} {C_an : Nat} (C_c : Nat) (C_h : Rw w C_a 2 encGHammer f0.fHammers) (C_hn : f0.fHammers.length = C_an) {E_a : Option Addr} {E_an : Nat} (E_c : Nat) (E_h : Rw w E_a 3 encGWornPin w1.fPins) (E_hn : w1.fPins.length = E_an) {F_a : Option Addr} {F_an : Nat} (F_c : Nat) (F_h : Rw w F_a 1 encI64 w1.fStrokes) (F_hn : w1.fStrokes.length = F_an) (A_b : Nat) (D_b : Nat) (hm0 : Mem w (bs [some A_b, some D_b]) [⟨some A_b, 27, [(.int .i16 f0.fSteps), (.slice C_a C_an C_c)]⟩, ⟨some D_b, 62, [(.slice E_a E_an E_c), (.slice F_a F_an F_c)]⟩] w) (C_ha : f0.fHammers ≠ [] → aB C_a ∉ bs [some A_b, some D_b]) (E_ha : w1.fPins ≠ [] → aB E_a ∉ bs [some A_b, some D_b]) (F_ha : w1.fStrokes ≠ [] → aB F_a ∉ bs [some A_b, some D_b]) (h : spec_l06Ok f0 w1 = some r) :
    Calls Tryz.prog 98 #[(.pointer (some ⟨A_b, 0, none⟩)), (.pointer (some ⟨D_b, 0, none⟩))] w fun e w' => ∃ v, e = .returned v ∧ (v = (.bool r) ∧ Mem w (bs [some A_b, some D_b]) [⟨some A_b, 27, [(.int .i16 f0.fSteps), (.slice C_a C_an C_c)]⟩, ⟨some D_b, 62, [(.slice E_a E_an E_c), (.slice F_a F_an F_c)]⟩] w') := by
  subst C_hn E_hn F_hn
  rw [spec_l06Ok] at h
  refine enter (args := [(.pointer (some ⟨A_b, 0, none⟩)), (.pointer (some ⟨D_b, 0, none⟩))]) Tryz.func98 rfl Tryz.ntmps98 (by kernel_rfl) (L := [⟨some A_b, 27, [(.int .i16 f0.fSteps), (.slice C_a f0.fHammers.length C_c)]⟩, ⟨some D_b, 62, [(.slice E_a w1.fPins.length E_c), (.slice F_a w1.fStrokes.length F_c)]⟩]) (W := bs [some A_b, some D_b]) hm0 ?_
  refine jc_seq (jc_region (qh [0] (qe (jx_then (jc_seq (jc_seq (qg [⟨some A_b, 27, [(.int .i16 f0.fSteps), (.slice C_a f0.fHammers.length C_c)]⟩, ⟨some D_b, 62, [(.slice E_a w1.fPins.length E_c), (.slice F_a w1.fStrokes.length F_c)]⟩] 16 (qd [⟨0, 0, 0⟩] 15 [0, 1] ?_))))))))
  obtain ⟨t_1, ht_5, h⟩ := bd h
  refine tD 1 (pc 0 (fun w hm => spec_l02Frame.calls f0 w _ C_c (hm.exRowW C_h C_ha) rfl A_b (hm.pass (N := [⟨some A_b, 27, [(.int .i16 f0.fSteps), (.slice C_a f0.fHammers.length C_c)]⟩]) [0] (by kernel_rfl) (by kernel_rfl)) (hm.exApart (N := [⟨some A_b, 27, [(.int .i16 f0.fSteps), (.slice C_a f0.fHammers.length C_c)]⟩]) C_h C_ha [0] (by kernel_rfl)) ht_5) ?_)
  rintro w v w' hm ⟨rfl, hm'⟩
  refine ⟨_, hm.appW (ps := [(0, ⟨some A_b, 27, [(.int .i16 f0.fSteps), (.slice C_a f0.fHammers.length C_c)]⟩)]) (N := []) hm' (by kernel_rfl) (by kernel_rfl), kD [0, 1] ?_⟩
  clear hm hm'
  refine qd [⟨2, 0, 0⟩,⟨3, 0, 0⟩,⟨4, 0, 1⟩,⟨5, 0, 1⟩,⟨6, 0, 1⟩,⟨7, 1, 1⟩,⟨8, 0, 1⟩,⟨9, 0, 1⟩,⟨10, 0, 1⟩,⟨11, 0, 1⟩,⟨12, 0, 1⟩,⟨13, 0, 1⟩,⟨14, 0, 1⟩,⟨15, 0, 0⟩] 0 [0, 1] (qz (jx_then (qi h (fun h => ?_) (fun h => ?_))))
  ·refine jc_seq (jc_region (qh [0] (qe (jx_then (jc_ret (jx_thenr ?_))))))
   obtain rfl := Option.some.inj h
   exact qr [] (fun w hm => ⟨rfl, hm.pk [0, 1]⟩)
  ·refine jc_skip (jx_then (jc_seq (jc_seq (jc_region (qh [0] (qe (jx_then (jc_meet (fun (_ : Unit) => spec_l06Ok.k_2 w1 = some r) (fun (_ : Unit) => [(1, [], (.pointer (some ⟨D_b, 0, none⟩))), (4, [], (.bool false))]) (fun (_ : Unit) => [⟨some A_b, 27, [(.int .i16 f0.fSteps), (.slice C_a f0.fHammers.length C_c)]⟩, ⟨some D_b, 62, [(.slice E_a w1.fPins.length E_c), (.slice F_a w1.fStrokes.length F_c)]⟩]) ?_ ?_))))))))
   ·refine jc_block ?_
    obtain ⟨t_11, ht_294, hr_271⟩ := bd h
    refine jc_loop (fun (s : Int) (x : Unit) => match s, x with | i_9, _ => True) (fun (s : Int) (x : Unit) => match s, x with | i_9, _ => [(0, [], (.pointer (some ⟨A_b, 0, none⟩))), (1, [], (.pointer (some ⟨D_b, 0, none⟩))), (4, [], (.bool false)), (5, [], (.int .i64 i_9))]) (fun (s : Int) (x : Unit) => match s, x with | i_9, _ => [⟨some A_b, 27, [(.int .i16 f0.fSteps), (.slice C_a f0.fHammers.length C_c)]⟩, ⟨some D_b, 62, [(.slice E_a w1.fPins.length E_c), (.slice F_a w1.fStrokes.length F_c)]⟩]) ht_294 () trivial (by kernel_rfl) [0, 1] (by kernel_rfl) (by kernel_rfl) ?_
    rintro i_9 _ y_272 _ h
    rw [spec_l06Ok.l_10] at h
    refine jc_seq (jc_seq (jc_region (qh [0,0,0,0,1,0,0] (qe (jx_then (qi h (fun h => ?_) (fun h => ?_)))))))
    ·refine jc_skip (jx_then (jc_seq (jc_block (jc_seq (jc_region (qh [0,0,0,1,0] ?_))))))
     obtain ⟨x_12, hx_275, h⟩ := bd h
     refine tO (qx 0 E_a 3 hx_275 rfl (E_h.sp hx_275) (jkO (tO (ql 0 true (fun w hm => ((hm.exRowW E_h E_ha).at hx_275)) (jkO (tO (qa 0 (fun b_276 => jkO (tO (qs 0 [2] (jkO (qe (jx_then (jc_seq (jc_meet (fun (j : Bool) => match j with | q_13 => spec_l06Ok.k_14 i_9 q_13 = some y_272) (fun (j : Bool) => match j with | q_13 => [(0, [], (.pointer (some ⟨A_b, 0, none⟩))), (1, [], (.pointer (some ⟨D_b, 0, none⟩))), (4, [], (.bool false)), (5, [], (.int .i64 i_9)), (71, [], (.bool q_13))]) (fun (j : Bool) => match j with | q_13 => [⟨some A_b, 27, [(.int .i16 f0.fSteps), (.slice C_a f0.fHammers.length C_c)]⟩, ⟨some D_b, 62, [(.slice E_a w1.fPins.length E_c), (.slice F_a w1.fStrokes.length F_c)]⟩, ⟨some b_276, 147, [(.int .i8 x_12.fStep), (.int .i8 x_12.fTrack), (.int .i64 x_12.fTurns)]⟩]) ?_ ?_)))))))))))))))
     ·refine qg [⟨some A_b, 27, [(.int .i16 f0.fSteps), (.slice C_a f0.fHammers.length C_c)]⟩, ⟨some D_b, 62, [(.slice E_a w1.fPins.length E_c), (.slice F_a w1.fStrokes.length F_c)]⟩, ⟨some b_276, 147, [(.int .i8 x_12.fStep), (.int .i8 x_12.fTrack), (.int .i64 x_12.fTurns)]⟩] 32 (qd [⟨0, 0, 0⟩,⟨1, 0, 0⟩,⟨2, 2, 0⟩,⟨3, 0, 0⟩,⟨4, 0, 0⟩,⟨5, 2, 0⟩,⟨6, 0, 0⟩] 25 [0, 1, 2] ?_)
      obtain ⟨t_15, ht_286, h⟩ := bd h
      refine tD 7 (pc 0 (fun w hm => spec_l06Place.calls f0 (w64 x_12.fStep) (w64 x_12.fTrack) w _ C_c (hm.exRowW C_h C_ha) rfl A_b (hm.pass (N := [⟨some A_b, 27, [(.int .i16 f0.fSteps), (.slice C_a f0.fHammers.length C_c)]⟩]) [0] (by kernel_rfl) (by kernel_rfl)) (hm.exApart (N := [⟨some A_b, 27, [(.int .i16 f0.fSteps), (.slice C_a f0.fHammers.length C_c)]⟩]) C_h C_ha [0] (by kernel_rfl)) ht_286) ?_)
      rintro w v w' hm ⟨rfl, hm'⟩
      refine ⟨_, hm.appW (ps := [(0, ⟨some A_b, 27, [(.int .i16 f0.fSteps), (.slice C_a f0.fHammers.length C_c)]⟩)]) (N := []) hm' (by kernel_rfl) (by kernel_rfl), kD [0, 1, 2] ?_⟩
      clear hm hm'
      refine qd [⟨8, 0, 0⟩,⟨9, 0, 0⟩,⟨10, 0, 1⟩,⟨11, 2, 1⟩] 20 [0, 1, 2] (jd_split 49 (!t_15) (by kernel_rfl) (fun hc_287 => ?_) (fun hc_287 => ?_))
      ·replace h := ifT hc_287 h
       exact qd [⟨12, 0, 3⟩,⟨13, 0, 3⟩,⟨14, 0, 4⟩,⟨15, 0, 0⟩,⟨16, 0, 3⟩,⟨17, 0, 3⟩,⟨18, 0, 3⟩,⟨19, 0, 3⟩,⟨20, 0, 3⟩,⟨21, 0, 3⟩,⟨22, 0, 3⟩,⟨23, 0, 3⟩,⟨24, 0, 3⟩,⟨25, 0, 3⟩,⟨26, 0, 3⟩,⟨27, 0, 3⟩,⟨28, 0, 3⟩,⟨29, 0, 3⟩,⟨30, 0, 3⟩,⟨31, 0, 4⟩] 0 [0, 1, 2] (qz (qm true h [0, 1, 2]))
      ·replace h := ifF hc_287 h
       obtain ⟨t_16, ht_288, h⟩ := bd h
       refine tD 12 (pc 2 (fun w hm => spec_l06Turns.calls x_12.fTurns w _ ht_288) ?_)
       rintro w v w' hm ⟨rfl, hm'⟩
       refine ⟨_, hm.app hm', kD [0, 1, 2] ?_⟩
       clear hm hm'
       refine qd [⟨13, 0, 2⟩,⟨14, 0, 5⟩,⟨15, 0, 0⟩,⟨16, 0, 1⟩,⟨17, 0, 1⟩] 14 [0, 1, 2] (jd_split 55 (!t_16) (by kernel_rfl) (fun hc_289 => ?_) (fun hc_289 => ?_))
       ·replace h := ifT hc_289 h
        exact qd [⟨18, 0, 3⟩,⟨19, 0, 3⟩,⟨20, 0, 3⟩,⟨21, 0, 3⟩,⟨22, 0, 3⟩,⟨23, 0, 3⟩,⟨24, 0, 3⟩,⟨25, 0, 3⟩,⟨26, 0, 3⟩,⟨27, 0, 3⟩,⟨28, 0, 3⟩,⟨29, 0, 3⟩,⟨30, 0, 3⟩,⟨31, 0, 4⟩] 0 [0, 1, 2] (qz (qm true h [0, 1, 2]))
       ·replace h := ifF hc_289 h
        refine qd [⟨18, 0, 2⟩,⟨19, 0, 1⟩,⟨20, 0, 1⟩,⟨21, 0, 1⟩,⟨22, 1, 1⟩,⟨23, 0, 1⟩,⟨24, 0, 1⟩,⟨27, 2, 1⟩] 6 [0, 1, 2] (jd_split 58 (decide (i_9 > 0)) (by kernel_rfl) (fun hc_290 => ?_) (fun hc_290 => ?_))
        ·replace h := ifT hc_290 h
         obtain ⟨x_17, hx_291, h⟩ := bd h
         refine qv 25 2 [0, 1, 2] (fun w hm => idx_run (a := E_a) (len := w1.fPins.length) (s := 3) (j := (w64 (i_9 - 1))) (by kernel_rfl) (ix_some hx_291).1 (ltn hx_291 rfl) (E_h.sp hx_291)) (qv 26 2 [0, 1, 2] (fun w hm => ld_run (b := aB E_a) (off := (aO E_a + (w64 (i_9 - 1)).toNat * 3)) (s := 3) (agg := true) (vs := (encGWornPin x_17)) (by kernel_rfl) (by kernel_rfl) (.inl rfl) ((hm.exRowW E_h E_ha).at hx_291)) ?_)
         obtain ⟨t_18, ht_292, h⟩ := bd h
         refine tD 28 (pc 2 (fun w hm => spec_l06Before.calls x_17 x_12 w _ ht_292) ?_)
         rintro w v w' hm ⟨rfl, hm'⟩
         refine ⟨_, hm.app hm', kD [0, 1, 2] ?_⟩
         clear hm hm'
         exact qd [⟨29, 0, 2⟩,⟨30, 0, 4⟩,⟨31, 0, 5⟩] 0 [0, 1, 2] (qz (qm (!t_18) h [0, 1, 2]))
        ·replace h := ifF hc_290 h
         exact qd [⟨25, 0, 3⟩,⟨26, 0, 3⟩,⟨28, 0, 3⟩,⟨29, 0, 3⟩,⟨30, 0, 5⟩,⟨31, 0, 5⟩] 0 [0, 1, 2] (qz (qm false h [0, 1, 2]))
     ·rintro q_13 h
      replace h : spec_l06Ok.k_14 i_9 q_13 = some y_272 := h
      rw [spec_l06Ok.k_14] at h
      refine jx_then (qi h (fun h => ?_) (fun h => ?_))
      ·refine jc_seq (jc_region (qh [0] (qe (jx_then (jc_ret (jx_inr (jx_thenr (jx_leaver (.inl false) (Option.some.inj h).symm (fun e_285 => ?_)))))))))
       subst e_285
       refine jx_inr (jx_thenr (jx_thenr ?_))
       obtain rfl := Option.some.inj hr_271
       exact qr [] (fun w hm => ⟨rfl, hm.pk [0, 1]⟩)
      ·exact jc_skip (jx_inn (jx_then (jc_region (qh [0,0,0] (qe (qb (w64 (i_9 + 1)) () h trivial [0, 1]))))))
    ·refine jc_exit (jx_thenx (jx_leave (.inr ()) (Option.some.inj h).symm (fun e_293 => ?_)))
     subst e_293
     exact jx_ine (qm () hr_271 [0, 1])
   ·rintro _ h
    replace h : spec_l06Ok.k_2 w1 = some r := h
    rw [spec_l06Ok.k_2] at h
    refine jx_then (jc_seq (jc_seq (jc_region (qh [0] (qe (jx_then (jc_meet (fun (_ : Unit) => spec_l06Ok.k_3 = some r) (fun (_ : Unit) => [(4, [], (.bool false))]) (fun (_ : Unit) => [⟨some A_b, 27, [(.int .i16 f0.fSteps), (.slice C_a f0.fHammers.length C_c)]⟩, ⟨some D_b, 62, [(.slice E_a w1.fPins.length E_c), (.slice F_a w1.fStrokes.length F_c)]⟩]) ?_ ?_)))))))
    ·refine jc_block ?_
     obtain ⟨t_6, ht_232, hr_223⟩ := bd h
     refine jc_loop (fun (s : Int) (x : Unit) => match s, x with | i_4, _ => True) (fun (s : Int) (x : Unit) => match s, x with | i_4, _ => [(1, [], (.pointer (some ⟨D_b, 0, none⟩))), (4, [], (.bool false)), (7, [], (.int .i64 i_4))]) (fun (s : Int) (x : Unit) => match s, x with | i_4, _ => [⟨some A_b, 27, [(.int .i16 f0.fSteps), (.slice C_a f0.fHammers.length C_c)]⟩, ⟨some D_b, 62, [(.slice E_a w1.fPins.length E_c), (.slice F_a w1.fStrokes.length F_c)]⟩]) ht_232 () trivial (by kernel_rfl) [0, 1] (by kernel_rfl) (by kernel_rfl) ?_
     rintro i_4 _ y_224 _ h
     rw [spec_l06Ok.l_5] at h
     refine jc_seq (jc_seq (jc_region (qh [0,0,0,0,1,0,0] (qe (jx_then (qi h (fun h => ?_) (fun h => ?_)))))))
     ·refine jc_skip (jx_then (jc_seq (jc_block (jc_seq (jc_region (qh [0,0,0,1,0] ?_))))))
      obtain ⟨x_7, hx_227, h⟩ := bd h
      refine tO (qx 0 F_a 1 hx_227 rfl (F_h.sp hx_227) (jkO (tO (ql 0 false (fun w hm => ((hm.exRowW F_h F_ha).at hx_227)) (jkO ?_)))))
      obtain ⟨t_8, ht_228, h⟩ := bd h
      refine tO (pc 0 (fun w hm => spec_l06Turns.calls x_7 w _ ht_228) ?_)
      rintro w v w' hm ⟨rfl, hm'⟩
      refine ⟨_, hm.app hm', jkO ?_⟩
      clear hm hm'
      refine qh [0] (qe (jx_then (qi h (fun h => ?_) (fun h => ?_))))
      ·refine jc_seq (jc_region (qh [0] (qe (jx_then (jc_ret (jx_inr (jx_thenr (jx_leaver (.inl false) (Option.some.inj h).symm (fun e_230 => ?_)))))))))
       subst e_230
       refine jx_inr (jx_thenr (jx_thenr ?_))
       obtain rfl := Option.some.inj hr_223
       exact qr [] (fun w hm => ⟨rfl, hm.pk [0, 1]⟩)
      ·exact jc_skip (jx_inn (jx_then (jc_region (qh [0,0,0] (qe (qb (w64 (i_4 + 1)) () h trivial [0, 1]))))))
     ·refine jc_exit (jx_thenx (jx_leave (.inr ()) (Option.some.inj h).symm (fun e_231 => ?_)))
      subst e_231
      exact jx_ine (qm () hr_223 [0, 1])
    ·rintro _ h
     replace h : spec_l06Ok.k_3 = some r := h
     rw [spec_l06Ok.k_3] at h
     refine jx_then (jc_seq (jc_region (qh [0] (qe (jx_then (jc_ret ?_))))))
     obtain rfl := Option.some.inj h
     exact qr [] (fun w hm => ⟨rfl, hm.pk [0, 1]⟩)
/-! ### spec.l06Lives -/
def spec_l06Lives (v0 : GLives) : Option (Bool) := (spec_l00In v0.fPin 1 1000000).bind fun t_1 => (if t_1 = true then (spec_l00In v0.fHammer 1 1000000).bind fun t_2 => some t_2 else some false)
theorem spec_l06Lives.calls (v0 : GLives) (w : World) (r : Bool) (h : spec_l06Lives v0 = some r) :
    Calls Tryz.prog 209 #[(.agg #[(.int .i64 v0.fPin), (.int .i64 v0.fHammer)])] w fun e w' => ∃ v, e = .returned v ∧ (v = (.bool r) ∧ Mem w [] [] w') := by
  rw [spec_l06Lives] at h
  refine enter (args := [(.agg #[(.int .i64 v0.fPin), (.int .i64 v0.fHammer)])]) Tryz.func209 rfl Tryz.ntmps209 (by kernel_rfl) (L := []) (W := []) (Mem.start w) ?_
  refine jc_seq (jc_region (tO (qa 0 (fun b_1 => jkO (qh [0] (qe (jx_then (jc_seq (jc_region (qh [0,0] ?_))))))))))
  obtain ⟨t_1, ht_2, h⟩ := bd h
  refine tO (pc 0 (fun w hm => spec_l00In.calls v0.fPin 1 1000000 w _ ht_2) ?_)
  rintro w v w' hm ⟨rfl, hm'⟩
  refine ⟨_, hm.app hm', jkO ?_⟩
  clear hm hm'
  refine qf [(0, 0), (0, 1), (0, 1)] (qp 6 h (fun h => ?_) (fun h => ?_))
  ·obtain ⟨t_2, ht_4, h⟩ := bd h
   refine tO (pc 2 (fun w hm => spec_l00In.calls v0.fHammer 1 1000000 w _ ht_4) ?_)
   rintro w v w' hm ⟨rfl, hm'⟩
   refine ⟨_, hm.app hm', jkO ?_⟩
   clear hm hm'
   refine qf [(0, 4), (0, 0)] (qe (jx_then (jc_ret ?_)))
   obtain rfl := Option.some.inj h
   exact qr [] (fun w hm => ⟨rfl, hm.pk []⟩)
  ·refine qf [(0, 3), (0, 5), (0, 0)] (qe (jx_then (jc_ret ?_)))
   obtain rfl := Option.some.inj h
   exact qr [] (fun w hm => ⟨rfl, hm.pk []⟩)
/-! ### spec.l06Lived -/
def spec_l06Lived.k_2 (q_1 : Bool) : Option (Int) := (if q_1 = true then some 1 else some 0)
def spec_l06Lived (f0 : GFrame) (w1 : GWear) (v2 : GLives) : Option (Int) := (spec_l06Ok f0 w1).bind fun t_3 => (if (!t_3) = true then spec_l06Lived.k_2 true else (spec_l06Lives v2).bind fun t_4 => spec_l06Lived.k_2 (!t_4))
theorem spec_l06Lived.calls (f0 : GFrame) (w1 : GWear) (v2 : GLives) (w : World) (r : Int) {C_a : Option Addr} {C_an : Nat} (C_c : Nat) (C_h : Rw w C_a 2 encGHammer f0.fHammers) (C_hn : f0.fHammers.length = C_an) {E_a : Option Addr} {E_an : Nat} (E_c : Nat) (E_h : Rw w E_a 3 encGWornPin w1.fPins) (E_hn : w1.fPins.length = E_an) {F_a : Option Addr} {F_an : Nat} (F_c : Nat) (F_h : Rw w F_a 1 encI64 w1.fStrokes) (F_hn : w1.fStrokes.length = F_an) (A_b : Nat) (D_b : Nat) (hm0 : Mem w (bs [some A_b, some D_b]) [⟨some A_b, 27, [(.int .i16 f0.fSteps), (.slice C_a C_an C_c)]⟩, ⟨some D_b, 62, [(.slice E_a E_an E_c), (.slice F_a F_an F_c)]⟩] w) (C_ha : f0.fHammers ≠ [] → aB C_a ∉ bs [some A_b, some D_b]) (E_ha : w1.fPins ≠ [] → aB E_a ∉ bs [some A_b, some D_b]) (F_ha : w1.fStrokes ≠ [] → aB F_a ∉ bs [some A_b, some D_b]) (h : spec_l06Lived f0 w1 v2 = some r) :
    Calls Tryz.prog 163 #[(.pointer (some ⟨A_b, 0, none⟩)), (.pointer (some ⟨D_b, 0, none⟩)), (.agg #[(.int .i64 v2.fPin), (.int .i64 v2.fHammer)])] w fun e w' => ∃ v, e = .returned v ∧ (v = (.int .i64 r) ∧ Mem w (bs [some A_b, some D_b]) [⟨some A_b, 27, [(.int .i16 f0.fSteps), (.slice C_a C_an C_c)]⟩, ⟨some D_b, 62, [(.slice E_a E_an E_c), (.slice F_a F_an F_c)]⟩] w') := by
  subst C_hn E_hn F_hn
  rw [spec_l06Lived] at h
  refine enter (args := [(.pointer (some ⟨A_b, 0, none⟩)), (.pointer (some ⟨D_b, 0, none⟩)), (.agg #[(.int .i64 v2.fPin), (.int .i64 v2.fHammer)])]) Tryz.func163 rfl Tryz.ntmps163 (by kernel_rfl) (L := [⟨some A_b, 27, [(.int .i16 f0.fSteps), (.slice C_a f0.fHammers.length C_c)]⟩, ⟨some D_b, 62, [(.slice E_a w1.fPins.length E_c), (.slice F_a w1.fStrokes.length F_c)]⟩]) (W := bs [some A_b, some D_b]) hm0 ?_
  refine jc_seq (jc_region (tO (qa 0 (fun b_1 => jkO (qh [0] (qe (jx_then (jc_seq (jc_seq (jc_meet (fun (j : Bool) => match j with | q_1 => spec_l06Lived.k_2 q_1 = some r) (fun (j : Bool) => match j with | q_1 => [(6, [], (.int .i64 0)), (15, [], (.bool q_1))]) (fun (j : Bool) => match j with | q_1 => [⟨some A_b, 27, [(.int .i16 f0.fSteps), (.slice C_a f0.fHammers.length C_c)]⟩, ⟨some D_b, 62, [(.slice E_a w1.fPins.length E_c), (.slice F_a w1.fStrokes.length F_c)]⟩, ⟨some b_1, 65, [(.int .i64 v2.fPin), (.int .i64 v2.fHammer)]⟩]) ?_ ?_))))))))))
  ·refine jc_region (qh [0,0] ?_)
   obtain ⟨t_3, ht_6, h⟩ := bd h
   refine tO (pc 0 (fun w hm => spec_l06Ok.calls f0 w1 w _ C_c (hm.exRowW C_h C_ha) rfl E_c (hm.exRowW E_h E_ha) rfl F_c (hm.exRowW F_h F_ha) rfl A_b D_b (hm.pass (N := [⟨some A_b, 27, [(.int .i16 f0.fSteps), (.slice C_a f0.fHammers.length C_c)]⟩, ⟨some D_b, 62, [(.slice E_a w1.fPins.length E_c), (.slice F_a w1.fStrokes.length F_c)]⟩]) [0, 1] (by kernel_rfl) (by kernel_rfl)) (hm.exApart (N := [⟨some A_b, 27, [(.int .i16 f0.fSteps), (.slice C_a f0.fHammers.length C_c)]⟩, ⟨some D_b, 62, [(.slice E_a w1.fPins.length E_c), (.slice F_a w1.fStrokes.length F_c)]⟩]) C_h C_ha [0, 1] (by kernel_rfl)) (hm.exApart (N := [⟨some A_b, 27, [(.int .i16 f0.fSteps), (.slice C_a f0.fHammers.length C_c)]⟩, ⟨some D_b, 62, [(.slice E_a w1.fPins.length E_c), (.slice F_a w1.fStrokes.length F_c)]⟩]) E_h E_ha [0, 1] (by kernel_rfl)) (hm.exApart (N := [⟨some A_b, 27, [(.int .i16 f0.fSteps), (.slice C_a f0.fHammers.length C_c)]⟩, ⟨some D_b, 62, [(.slice E_a w1.fPins.length E_c), (.slice F_a w1.fStrokes.length F_c)]⟩]) F_h F_ha [0, 1] (by kernel_rfl)) ht_6) ?_)
   rintro w v w' hm ⟨rfl, hm'⟩
   refine ⟨_, hm.appW (ps := [(0, ⟨some A_b, 27, [(.int .i16 f0.fSteps), (.slice C_a f0.fHammers.length C_c)]⟩), (1, ⟨some D_b, 62, [(.slice E_a w1.fPins.length E_c), (.slice F_a w1.fStrokes.length F_c)]⟩)]) (N := []) hm' (by kernel_rfl) (by kernel_rfl), jkO ?_⟩
   clear hm hm'
   refine qf [(0, 0), (0, 0), (2, 1)] (qp 11 h (fun h => ?_) (fun h => ?_))
   ·exact qf [(0, 3), (0, 3), (0, 4)] (qe (qm true h [0, 1, 2]))
   ·obtain ⟨t_4, ht_8, h⟩ := bd h
    refine tO (pc 2 (fun w hm => spec_l06Lives.calls v2 w _ ht_8) ?_)
    rintro w v w' hm ⟨rfl, hm'⟩
    refine ⟨_, hm.app hm', jkO ?_⟩
    clear hm hm'
    exact qf [(0, 2), (0, 5)] (qe (qm (!t_4) h [0, 1, 2]))
  ·rintro q_1 h
   replace h : spec_l06Lived.k_2 q_1 = some r := h
   rw [spec_l06Lived.k_2] at h
   refine jx_then (qi h (fun h => ?_) (fun h => ?_))
   ·refine jc_seq (jc_region (qh [0] (qe (jx_then (jc_ret (jx_thenr ?_))))))
    obtain rfl := Option.some.inj h
    exact qr [] (fun w hm => ⟨rfl, hm.pk [0, 1]⟩)
   ·refine jc_skip (jx_then (jc_seq (jc_region (qh [0] (qe (jx_then (jc_ret ?_)))))))
    obtain rfl := Option.some.inj h
    exact qr [] (fun w hm => ⟨rfl, hm.pk [0, 1]⟩)
/-! ### spec.l06Acts -/
def spec_l06Acts.k_3 (i_2 : Int) : Option (Int) := some i_2
def spec_l06Acts (f0 : GFrame) (w1 : GWear) (v2 : GLives) (list3 : List GAct) : Option (Int) := (spec_l06Lived f0 w1 v2).bind fun t_1 => (if ((t_1 == 0) && (decide ((list3.length : Int) > 60))) = true then spec_l06Acts.k_3 3 else spec_l06Acts.k_3 t_1)
theorem spec_l06Acts.calls (f0 : GFrame) (w1 : GWear) (v2 : GLives) (list3 : List GAct) (w : World) (r : Int) {C_a : Option Addr} {C_an : Nat} (C_c : Nat) (C_h : Rw w C_a 2 encGHammer f0.fHammers) (C_hn : f0.fHammers.length = C_an) {E_a : Option Addr} {E_an : Nat} (E_c : Nat) (E_h : Rw w E_a 3 encGWornPin w1.fPins) (E_hn : w1.fPins.length = E_an) {F_a : Option Addr} {F_an : Nat} (F_c : Nat) (F_h : Rw w F_a 1 encI64 w1.fStrokes) (F_hn : w1.fStrokes.length = F_an) {J_a : Option Addr} {J_an : Nat} (J_c : Nat) (J_h : Rw w J_a 5 encGAct list3) (J_hn : list3.length = J_an) (A_b : Nat) (D_b : Nat) (hm0 : Mem w (bs [some A_b, some D_b]) [⟨some A_b, 27, [(.int .i16 f0.fSteps), (.slice C_a C_an C_c)]⟩, ⟨some D_b, 62, [(.slice E_a E_an E_c), (.slice F_a F_an F_c)]⟩] w) (C_ha : f0.fHammers ≠ [] → aB C_a ∉ bs [some A_b, some D_b]) (E_ha : w1.fPins ≠ [] → aB E_a ∉ bs [some A_b, some D_b]) (F_ha : w1.fStrokes ≠ [] → aB F_a ∉ bs [some A_b, some D_b]) (J_ha : list3 ≠ [] → aB J_a ∉ bs [some A_b, some D_b]) (h : spec_l06Acts f0 w1 v2 list3 = some r) :
    Calls Tryz.prog 90 #[(.pointer (some ⟨A_b, 0, none⟩)), (.pointer (some ⟨D_b, 0, none⟩)), (.agg #[(.int .i64 v2.fPin), (.int .i64 v2.fHammer)]), (.slice J_a J_an J_c)] w fun e w' => ∃ v, e = .returned v ∧ (v = (.int .i64 r) ∧ Mem w (bs [some A_b, some D_b]) [⟨some A_b, 27, [(.int .i16 f0.fSteps), (.slice C_a C_an C_c)]⟩, ⟨some D_b, 62, [(.slice E_a E_an E_c), (.slice F_a F_an F_c)]⟩] w') := by
  subst C_hn E_hn F_hn J_hn
  rw [spec_l06Acts] at h
  refine enter (args := [(.pointer (some ⟨A_b, 0, none⟩)), (.pointer (some ⟨D_b, 0, none⟩)), (.agg #[(.int .i64 v2.fPin), (.int .i64 v2.fHammer)]), (.slice J_a list3.length J_c)]) Tryz.func90 rfl Tryz.ntmps90 (by kernel_rfl) (L := [⟨some A_b, 27, [(.int .i16 f0.fSteps), (.slice C_a f0.fHammers.length C_c)]⟩, ⟨some D_b, 62, [(.slice E_a w1.fPins.length E_c), (.slice F_a w1.fStrokes.length F_c)]⟩]) (W := bs [some A_b, some D_b]) hm0 ?_
  refine jc_seq (jc_region (tO (qa 0 (fun b_1 => jkO (qh [0] (qe (jx_then (jc_seq (jc_region (qh [0,0,2] ?_))))))))))
  obtain ⟨t_1, ht_2, h⟩ := bd h
  refine tO (pc 0 (fun w hm => spec_l06Lived.calls f0 w1 v2 w _ C_c (hm.exRowW C_h C_ha) rfl E_c (hm.exRowW E_h E_ha) rfl F_c (hm.exRowW F_h F_ha) rfl A_b D_b (hm.pass (N := [⟨some A_b, 27, [(.int .i16 f0.fSteps), (.slice C_a f0.fHammers.length C_c)]⟩, ⟨some D_b, 62, [(.slice E_a w1.fPins.length E_c), (.slice F_a w1.fStrokes.length F_c)]⟩]) [0, 1] (by kernel_rfl) (by kernel_rfl)) (hm.exApart (N := [⟨some A_b, 27, [(.int .i16 f0.fSteps), (.slice C_a f0.fHammers.length C_c)]⟩, ⟨some D_b, 62, [(.slice E_a w1.fPins.length E_c), (.slice F_a w1.fStrokes.length F_c)]⟩]) C_h C_ha [0, 1] (by kernel_rfl)) (hm.exApart (N := [⟨some A_b, 27, [(.int .i16 f0.fSteps), (.slice C_a f0.fHammers.length C_c)]⟩, ⟨some D_b, 62, [(.slice E_a w1.fPins.length E_c), (.slice F_a w1.fStrokes.length F_c)]⟩]) E_h E_ha [0, 1] (by kernel_rfl)) (hm.exApart (N := [⟨some A_b, 27, [(.int .i16 f0.fSteps), (.slice C_a f0.fHammers.length C_c)]⟩, ⟨some D_b, 62, [(.slice E_a w1.fPins.length E_c), (.slice F_a w1.fStrokes.length F_c)]⟩]) F_h F_ha [0, 1] (by kernel_rfl)) ht_2) ?_)
  rintro w v w' hm ⟨rfl, hm'⟩
  refine ⟨_, hm.appW (ps := [(0, ⟨some A_b, 27, [(.int .i16 f0.fSteps), (.slice C_a f0.fHammers.length C_c)]⟩), (1, ⟨some D_b, 62, [(.slice E_a w1.fPins.length E_c), (.slice F_a w1.fStrokes.length F_c)]⟩)]) (N := []) hm' (by kernel_rfl) (by kernel_rfl), jkO ?_⟩
  clear hm hm'
  refine qh [0] (qe (jx_then (jc_seq (jc_meet (fun (j : Int) => match j with | i_2 => spec_l06Acts.k_3 i_2 = some r) (fun (j : Int) => match j with | i_2 => [(8, [], (.int .i64 0)), (9, [], (.int .i64 i_2))]) (fun (j : Int) => match j with | i_2 => [⟨some A_b, 27, [(.int .i16 f0.fSteps), (.slice C_a f0.fHammers.length C_c)]⟩, ⟨some D_b, 62, [(.slice E_a w1.fPins.length E_c), (.slice F_a w1.fStrokes.length F_c)]⟩, ⟨some b_1, 65, [(.int .i64 v2.fPin), (.int .i64 v2.fHammer)]⟩]) ?_ ?_))))
  ·refine jc_seq (jc_region (qf [(0, 0), (0, 0), (0, 0), (0, 1), (0, 1), (0, 1), (0, 0)] (qe (jx_then (qi h (fun h => ?_) (fun h => ?_))))))
   ·exact jc_region (qh [0] (qe (qm 3 h [0, 1, 2])))
   ·exact jc_skip (qm t_1 h [0, 1, 2])
  ·rintro i_2 h
   replace h : spec_l06Acts.k_3 i_2 = some r := h
   rw [spec_l06Acts.k_3] at h
   refine jx_then (jc_seq (jc_region (qh [0,0] (qe (jx_then (jc_ret ?_))))))
   obtain rfl := Option.some.inj h
   exact qr [] (fun w hm => ⟨rfl, hm.pk [0, 1]⟩)
/-! ### spec.l06Copy -/
def spec_l06Copy (w0 : GWear) : Option (GWear) := (if ([] : List GWornPin).length + w0.fPins.length ≤ 4294967296 then (if ([] : List Int).length + w0.fStrokes.length ≤ 4294967296 then some (⟨(([] : List GWornPin) ++ w0.fPins), (([] : List Int) ++ w0.fStrokes)⟩ : GWear) else none) else none)
theorem spec_l06Copy.calls (w0 : GWear) (w : World) (r : GWear) {B_a : Option Addr} {B_an : Nat} (B_c : Nat) (B_h : Rw w B_a 3 encGWornPin w0.fPins) (B_hn : w0.fPins.length = B_an) {C_a : Option Addr} {C_an : Nat} (C_c : Nat) (C_h : Rw w C_a 1 encI64 w0.fStrokes) (C_hn : w0.fStrokes.length = C_an) (A_b : Nat) (hm0 : Mem w (bs [some A_b]) [⟨some A_b, 62, [(.slice B_a B_an B_c), (.slice C_a C_an C_c)]⟩] w) (B_ha : w0.fPins ≠ [] → aB B_a ∉ bs [some A_b]) (C_ha : w0.fStrokes ≠ [] → aB C_a ∉ bs [some A_b]) (h : spec_l06Copy w0 = some r) :
    Calls Tryz.prog 164 #[(.pointer (some ⟨A_b, 0, none⟩))] w fun e w' => ∃ v, e = .returned v ∧ (∃ (o0 : Option Nat) (c0 : Nat) (s0 : List Value) (n0 : Nat), r.fPins.length = n0 ∧ (o0 ≠ none → n0 ≤ c0 ∧ s0.length = (c0 - n0) * 3) ∧ (o0 = none → r.fPins = [] ∧ c0 = 0) ∧ ∃ (o1 : Option Nat) (c1 : Nat) (s1 : List Value) (n1 : Nat), r.fStrokes.length = n1 ∧ (o1 ≠ none → n1 ≤ c1 ∧ s1.length = (c1 - n1) * 1) ∧ (o1 = none → r.fStrokes = [] ∧ c1 = 0) ∧ v = .agg #[.slice (o0.map fun b => ⟨b, 0, none⟩) n0 c0, .slice (o1.map fun b => ⟨b, 0, none⟩) n1 c1] ∧ Mem w (bs [some A_b]) [⟨some A_b, 62, [(.slice B_a B_an B_c), (.slice C_a C_an C_c)]⟩, ⟨o0, 147, row encGWornPin r.fPins s0⟩, ⟨o1, 2, row encI64 r.fStrokes s1⟩] w') := by
  subst B_hn C_hn
  rw [spec_l06Copy] at h
  refine enter (args := [(.pointer (some ⟨A_b, 0, none⟩))]) Tryz.func164 rfl Tryz.ntmps164 (by kernel_rfl) (L := [⟨some A_b, 62, [(.slice B_a w0.fPins.length B_c), (.slice C_a w0.fStrokes.length C_c)]⟩]) (W := bs [some A_b]) hm0 ?_
  refine jc_seq (jc_region (tO (qa 0 (fun b_1 => jkO (qe (jx_then (jc_seq (qg [⟨some A_b, 62, [(.slice B_a w0.fPins.length B_c), (.slice C_a w0.fStrokes.length C_c)]⟩] 14 (qd [⟨1, 0, 0⟩,⟨2, 0, 0⟩,⟨3, 0, 0⟩,⟨4, 0, 0⟩,⟨7, 0, 0⟩,⟨8, 0, 0⟩,⟨9, 0, 0⟩,⟨10, 0, 0⟩] 6 [0] (toD2 0 6 (by kernel_rfl) ?_ ?_))))))))))
  ·refine qa 0 (fun b_16 => kD [0] (toD2 5 6 (by kernel_rfl) ?_ ?_))
   ·obtain ⟨hg_17, h⟩ := gd h
    refine p_apn 0 2 (some b_16) 147 0 w0.fPins.length 0 3 16 B_a encGWornPin ([] : List GWornPin) w0.fPins [] (.agg #[(.int .i8 0), (.int .i8 0), (.int .i64 0)]) rfl rfl (by kernel_rfl) (by kernel_rfl) (by kernel_rfl) encGWornPin_len encGWornPin_cell (fun _ => ⟨Nat.le_refl _, by simp⟩) (fun e => nomatch e) (fun w hm => (hm.exRowW B_h B_ha)) hg_17 (by kernel_rfl) (by kernel_rfl) (fun o_18 cap_19 sp_20 hs_21 ho_22 => kD [0] (tD 6 (qa 0 (fun b_23 => kD [0] ?_))))
    obtain ⟨hg_24, h⟩ := gd h
    refine tD 11 (p_apn 0 3 (some b_23) 2 0 w0.fStrokes.length 0 1 8 C_a encI64 ([] : List Int) w0.fStrokes [] (.int .i64 0) rfl rfl (by kernel_rfl) (by kernel_rfl) (by kernel_rfl) encI64_len encI64_cell (fun _ => ⟨Nat.le_refl _, by simp⟩) (fun e => nomatch e) (fun w hm => (hm.exRowW C_h C_ha)) hg_24 (by kernel_rfl) (by kernel_rfl) (fun o_25 cap_26 sp_27 hs_28 ho_29 => kD [0] (qd [⟨12, 0, 0⟩] 1 [0] (tD 13 (qs 0 [1] (kD [0] (qz (jx_then (jc_ret ?_)))))))))
    obtain rfl := Option.some.inj h
    exact qr [1] (fun w hm => ⟨o_18, cap_19, sp_20, ((([] : List GWornPin) ++ w0.fPins).length), rfl, hs_21, ho_22, o_25, cap_26, sp_27, ((([] : List Int) ++ w0.fStrokes).length), rfl, hs_28, ho_29, rfl, hm.pk [0, 2, 3]⟩)
   ·refine qa 0 (fun b_30 => kD [0] ?_)
    obtain ⟨hg_31, h⟩ := gd h
    refine tD 5 (p_apn 0 2 (some b_16) 147 0 w0.fPins.length 0 3 16 B_a encGWornPin ([] : List GWornPin) w0.fPins [] (.agg #[(.int .i8 0), (.int .i8 0), (.int .i64 0)]) rfl rfl (by kernel_rfl) (by kernel_rfl) (by kernel_rfl) encGWornPin_len encGWornPin_cell (fun _ => ⟨Nat.le_refl _, by simp⟩) (fun e => nomatch e) (fun w hm => (hm.exRowW B_h B_ha)) hg_31 (by kernel_rfl) (by kernel_rfl) (fun o_32 cap_33 sp_34 hs_35 ho_36 => kD [0] ?_))
    obtain ⟨hg_37, h⟩ := gd h
    refine tD 11 (p_apn 0 3 (some b_30) 2 0 w0.fStrokes.length 0 1 8 C_a encI64 ([] : List Int) w0.fStrokes [] (.int .i64 0) rfl rfl (by kernel_rfl) (by kernel_rfl) (by kernel_rfl) encI64_len encI64_cell (fun _ => ⟨Nat.le_refl _, by simp⟩) (fun e => nomatch e) (fun w hm => (hm.exRowW C_h C_ha)) hg_37 (by kernel_rfl) (by kernel_rfl) (fun o_38 cap_39 sp_40 hs_41 ho_42 => kD [0] (qd [⟨12, 0, 0⟩] 1 [0] (tD 13 (qs 0 [1] (kD [0] (qz (jx_then (jc_ret ?_)))))))))
    obtain rfl := Option.some.inj h
    exact qr [1] (fun w hm => ⟨o_32, cap_33, sp_34, ((([] : List GWornPin) ++ w0.fPins).length), rfl, hs_35, ho_36, o_38, cap_39, sp_40, ((([] : List Int) ++ w0.fStrokes).length), rfl, hs_41, ho_42, rfl, hm.pk [0, 2, 3]⟩)
  ·refine qa 0 (fun b_43 => kD [0] (tD 0 (qa 0 (fun b_44 => kD [0] ?_))))
   obtain ⟨hg_45, h⟩ := gd h
   refine tD 5 (p_apn 0 3 (some b_44) 147 0 w0.fPins.length 0 3 16 B_a encGWornPin ([] : List GWornPin) w0.fPins [] (.agg #[(.int .i8 0), (.int .i8 0), (.int .i64 0)]) rfl rfl (by kernel_rfl) (by kernel_rfl) (by kernel_rfl) encGWornPin_len encGWornPin_cell (fun _ => ⟨Nat.le_refl _, by simp⟩) (fun e => nomatch e) (fun w hm => (hm.exRowW B_h B_ha)) hg_45 (by kernel_rfl) (by kernel_rfl) (fun o_46 cap_47 sp_48 hs_49 ho_50 => kD [0] ?_))
   obtain ⟨hg_51, h⟩ := gd h
   refine tD 11 (p_apn 0 2 (some b_43) 2 0 w0.fStrokes.length 0 1 8 C_a encI64 ([] : List Int) w0.fStrokes [] (.int .i64 0) rfl rfl (by kernel_rfl) (by kernel_rfl) (by kernel_rfl) encI64_len encI64_cell (fun _ => ⟨Nat.le_refl _, by simp⟩) (fun e => nomatch e) (fun w hm => (hm.exRowW C_h C_ha)) hg_51 (by kernel_rfl) (by kernel_rfl) (fun o_52 cap_53 sp_54 hs_55 ho_56 => kD [0] (qd [⟨12, 0, 0⟩] 1 [0] (tD 13 (qs 0 [1] (kD [0] (qz (jx_then (jc_ret ?_)))))))))
   obtain rfl := Option.some.inj h
   exact qr [1] (fun w hm => ⟨o_46, cap_47, sp_48, ((([] : List GWornPin) ++ w0.fPins).length), rfl, hs_49, ho_50, o_52, cap_53, sp_54, ((([] : List Int) ++ w0.fStrokes).length), rfl, hs_55, ho_56, rfl, hm.pk [0, 3, 2]⟩)
/-! ### spec.l06Each -/
def spec_l06Each.k_2 (xs_1 : List Int) : Option ((List Int)) := some xs_1
def spec_l06Each.l_5 (w0 : GWear) : ((List Int) × Int) → Option (((List Int) × Int) ⊕ ((List Int)))
  | (xs_3, i_4) => (if (decide (i_4 < (w0.fPins.length : Int))) = true then (ix w0.fPins i_4).bind fun x_7 => (ix xs_3 x_7.fTrack).bind fun x_8 => (ix xs_3 x_7.fTrack).bind fun x_9 => some (.inl ((xs_3.set x_7.fTrack.toNat (w64 (x_8 + 1))), (w64 (i_4 + 1)))) else some (.inr xs_3))
def spec_l06Each (w0 : GWear) : Option ((List Int)) := (if 0 ≤ (w0.fStrokes.length : Int) ∧ (w0.fStrokes.length : Int) ≤ 17592186044416 then (loop (spec_l06Each.l_5 w0) ((List.replicate (w0.fStrokes.length : Int).toNat 0), 0)).bind fun t_6 => spec_l06Each.k_2 t_6 else none)
theorem spec_l06Each.calls (w0 : GWear) (w : World) (r : (List Int)) {B_a : Option Addr} {B_an : Nat} (B_c : Nat) (B_h : Rw w B_a 3 encGWornPin w0.fPins) (B_hn : w0.fPins.length = B_an) {C_a : Option Addr} {C_an : Nat} (C_c : Nat) (C_h : Rw w C_a 1 encI64 w0.fStrokes) (C_hn : w0.fStrokes.length = C_an) (A_b : Nat) (hm0 : Mem w (bs [some A_b]) [⟨some A_b, 62, [(.slice B_a B_an B_c), (.slice C_a C_an C_c)]⟩] w) (B_ha : w0.fPins ≠ [] → aB B_a ∉ bs [some A_b]) (C_ha : w0.fStrokes ≠ [] → aB C_a ∉ bs [some A_b]) (h : spec_l06Each w0 = some r) :
    Calls Tryz.prog 220 #[(.pointer (some ⟨A_b, 0, none⟩))] w fun e w' => ∃ v, e = .returned v ∧ (∃ (o0 : Option Nat) (c0 : Nat) (s0 : List Value) (n0 : Nat), r.length = n0 ∧ (o0 ≠ none → n0 ≤ c0 ∧ s0.length = (c0 - n0) * 1) ∧ (o0 = none → r = [] ∧ c0 = 0) ∧ v = .slice (o0.map fun b => ⟨b, 0, none⟩) n0 c0 ∧ Mem w (bs [some A_b]) [⟨some A_b, 62, [(.slice B_a B_an B_c), (.slice C_a C_an C_c)]⟩, ⟨o0, 2, row encI64 r s0⟩] w') := by
  subst B_hn C_hn
  rw [spec_l06Each] at h
  refine enter (args := [(.pointer (some ⟨A_b, 0, none⟩))]) Tryz.func220 rfl Tryz.ntmps220 (by kernel_rfl) (L := [⟨some A_b, 62, [(.slice B_a w0.fPins.length B_c), (.slice C_a w0.fStrokes.length C_c)]⟩]) (W := bs [some A_b]) hm0 ?_
  refine jc_seq (jc_region (qh [0] (qe (jx_then (jc_seq (jc_region (qh [0,0,0,0,0] ?_)))))))
  obtain ⟨hg_88, h⟩ := gd h
  refine tO (p_mk 0 2 (w0.fStrokes.length : Int) 1 8 encI64 0 (by kernel_rfl) (by kernel_rfl) hg_88.1 (by omega) (by kernel_rfl) (fun b_1 => jkO (qh [0] (qe (jx_then (jc_seq (jc_seq (jc_region (qh [0] (qe (jx_then (jc_meet (fun (j : (List Int)) => match j with | xs_1 => spec_l06Each.k_2 xs_1 = some r ∧ (xs_1.length = (w0.fStrokes.length : Int).toNat)) (fun (j : (List Int)) => match j with | xs_1 => [(2, [], (.slice none 0 0)), (3, [], (.slice (some ⟨b_1, 0, none⟩) ((w0.fStrokes.length : Int).toNat) ((w0.fStrokes.length : Int).toNat)))]) (fun (j : (List Int)) => match j with | xs_1 => [⟨some A_b, 62, [(.slice B_a w0.fPins.length B_c), (.slice C_a w0.fStrokes.length C_c)]⟩, ⟨(some b_1), 2, row encI64 xs_1 []⟩]) ?_ ?_))))))))))))
  ·refine jc_block ?_
   obtain ⟨t_6, ht_87, hr_79⟩ := bd h
   refine jc_loop (fun (s : (List Int) × Int) (x : Unit) => match s, x with | ⟨xs_3, i_4⟩, _ => (xs_3.length = (w0.fStrokes.length : Int).toNat)) (fun (s : (List Int) × Int) (x : Unit) => match s, x with | ⟨xs_3, i_4⟩, _ => [(0, [], (.pointer (some ⟨A_b, 0, none⟩))), (2, [], (.slice none 0 0)), (3, [], (.slice (some ⟨b_1, 0, none⟩) ((w0.fStrokes.length : Int).toNat) ((w0.fStrokes.length : Int).toNat))), (4, [], (.int .i64 i_4))]) (fun (s : (List Int) × Int) (x : Unit) => match s, x with | ⟨xs_3, i_4⟩, _ => [⟨some A_b, 62, [(.slice B_a w0.fPins.length B_c), (.slice C_a w0.fStrokes.length C_c)]⟩, ⟨(some b_1), 2, row encI64 xs_3 []⟩]) ht_87 () List.length_replicate (by kernel_rfl) [0, 1] (by kernel_rfl) (by kernel_rfl) ?_
   rintro ⟨xs_3, i_4⟩ _ y_80 hn_78 h
   rw [spec_l06Each.l_5] at h
   refine jc_seq (jc_seq (jc_region (qh [0,0,0,0,0,0,0] (qe (jx_then (qi h (fun h => ?_) (fun h => ?_)))))))
   ·refine jc_skip (jx_then (jc_seq (jc_block (jc_region (qh [0,0,0,0,0,0] ?_)))))
    obtain ⟨x_7, hx_83, h⟩ := bd h
    refine tO (qx 0 B_a 3 hx_83 rfl (B_h.sp hx_83) (jkO (qh [0] (tO (ql 0 false (fun w hm => (((hm.exRowW B_h B_ha).at hx_83).sub 1 1)) (jkO ?_))))))
    obtain ⟨x_8, hx_84, h⟩ := bd h
    refine tO (qx 0 (some ⟨b_1, 0, none⟩) 1 hx_84 hn_78 rfl (jkO (tO (ql 0 false (fun w hm => ((hm.ow 1 (some b_1) 2 xs_3 [] (fun e => nomatch e) encI64_len).at hx_84)) (jkO (qh [0] ?_))))))
    obtain ⟨x_9, hx_85, h⟩ := bd h
    exact tO (qx 0 (some ⟨b_1, 0, none⟩) 1 hx_85 hn_78 rfl (jkO (tO (p_str 0 1 b_1 2 encI64 xs_3 [] x_7.fTrack (w64 (x_8 + 1)) 1 0 [(.int .i64 (w64 (x_8 + 1)))] (by kernel_rfl) (by kernel_rfl) (by kernel_rfl) encI64_len hx_85 (by kernel_rfl) (by kernel_rfl) (jkO (qe (jx_inn (jx_then (jc_region (qh [0,0,0] (qe (qb ((xs_3.set x_7.fTrack.toNat (w64 (x_8 + 1))), (w64 (i_4 + 1))) () h (List.length_set.trans hn_78) [0, 1]))))))))))))
   ·refine jc_exit (jx_thenx (jx_leave xs_3 (Option.some.inj h).symm (fun e_86 => ?_)))
    subst e_86
    exact jx_ine (qm xs_3 ⟨hr_79, hn_78⟩ [0, 1])
  ·rintro xs_1 ⟨h, hn_66⟩
   replace h : spec_l06Each.k_2 xs_1 = some r := h
   rw [spec_l06Each.k_2] at h
   refine jx_then (jc_seq (jc_region (qh [0,0] (qe (jx_then (jc_ret ?_))))))
   obtain rfl := Option.some.inj h
   exact qr [] (fun w hm => ⟨(some b_1), ((w0.fStrokes.length : Int).toNat), [], ((w0.fStrokes.length : Int).toNat), hn_66, (fun _ => ⟨Nat.le_refl _, by simp⟩), (fun e => nomatch e), rfl, hm.pk [0, 1]⟩)
/-! ### spec.l06Turned -/
def spec_l06Turned.k_8 (xs_3 : List GWornPin) (xs_6 : List Int) (q_7 : Bool) : Option (GWear × Bool) := some ((⟨xs_3, xs_6⟩ : GWear), q_7)
def spec_l06Turned.l_12 (turns1 : Int) (t_2 : (List Int)) : ((List Int) × Bool × Int) → Option (((List Int) × Bool × Int) ⊕ (((List Int) × Bool)))
  | (xs_9, q_10, i_11) => (if (decide (i_11 < (t_2.length : Int))) = true then (ix xs_9 i_11).bind fun x_14 => (ix t_2 i_11).bind fun x_15 => (ix xs_9 i_11).bind fun x_16 => (if q_10 = true then (ix (xs_9.set i_11.toNat (w64 (x_14 + (w64 (turns1 * x_15))))) i_11).bind fun x_17 => (spec_l06Turns x_17).bind fun t_18 => some (.inl ((xs_9.set i_11.toNat (w64 (x_14 + (w64 (turns1 * x_15))))), t_18, (w64 (i_11 + 1)))) else some (.inl ((xs_9.set i_11.toNat (w64 (x_14 + (w64 (turns1 * x_15))))), false, (w64 (i_11 + 1))))) else some (.inr (xs_9, q_10)))
def spec_l06Turned.k_5 (turns1 : Int) (t_1 : GWear) (t_2 : (List Int)) (xs_3 : List GWornPin) (q_4 : Bool) : Option (GWear × Bool) := (loop (spec_l06Turned.l_12 turns1 t_2) (t_1.fStrokes, q_4, 0)).bind fun t_13 => spec_l06Turned.k_8 xs_3 t_13.1 t_13.2
def spec_l06Turned.l_22 (turns1 : Int) (t_1 : GWear) : ((List GWornPin) × Bool × Int) → Option (((List GWornPin) × Bool × Int) ⊕ (((List GWornPin) × Bool)))
  | (xs_19, q_20, i_21) => (if (decide (i_21 < (t_1.fPins.length : Int))) = true then (ix xs_19 i_21).bind fun x_24 => (ix xs_19 i_21).bind fun x_25 => (if q_20 = true then (ix (xs_19.set i_21.toNat (⟨x_25.fStep, x_25.fTrack, (w64 (x_24.fTurns + turns1))⟩ : GWornPin)) i_21).bind fun x_26 => (spec_l06Turns x_26.fTurns).bind fun t_27 => some (.inl ((xs_19.set i_21.toNat (⟨x_25.fStep, x_25.fTrack, (w64 (x_24.fTurns + turns1))⟩ : GWornPin)), t_27, (w64 (i_21 + 1)))) else some (.inl ((xs_19.set i_21.toNat (⟨x_25.fStep, x_25.fTrack, (w64 (x_24.fTurns + turns1))⟩ : GWornPin)), false, (w64 (i_21 + 1))))) else some (.inr (xs_19, q_20)))
def spec_l06Turned (w0 : GWear) (turns1 : Int) : Option (GWear × Bool) := (spec_l06Copy w0).bind fun t_1 => (spec_l06Each w0).bind fun t_2 => (loop (spec_l06Turned.l_22 turns1 t_1) (t_1.fPins, true, 0)).bind fun t_23 => spec_l06Turned.k_5 turns1 t_1 t_2 t_23.1 t_23.2
theorem spec_l06Turned.calls (w0 : GWear) (turns1 : Int) (w : World) (r : GWear × Bool) {B_a : Option Addr} {B_an : Nat} (B_c : Nat) (B_h : Rw w B_a 3 encGWornPin w0.fPins) (B_hn : w0.fPins.length = B_an) {C_a : Option Addr} {C_an : Nat} (C_c : Nat) (C_h : Rw w C_a 1 encI64 w0.fStrokes) (C_hn : w0.fStrokes.length = C_an) (A_b : Nat) (hm0 : Mem w (bs [some A_b]) [⟨some A_b, 62, [(.slice B_a B_an B_c), (.slice C_a C_an C_c)]⟩] w) (B_ha : w0.fPins ≠ [] → aB B_a ∉ bs [some A_b]) (C_ha : w0.fStrokes ≠ [] → aB C_a ∉ bs [some A_b]) (h : spec_l06Turned w0 turns1 = some r) :
    Calls Tryz.prog 179 #[(.pointer (some ⟨A_b, 0, none⟩)), (.int .i64 turns1)] w fun e w' => ∃ v, e = .returned v ∧ (∃ (o0 : Option Nat) (c0 : Nat) (s0 : List Value) (n0 : Nat), r.1.fPins.length = n0 ∧ (o0 ≠ none → n0 ≤ c0 ∧ s0.length = (c0 - n0) * 3) ∧ (o0 = none → r.1.fPins = [] ∧ c0 = 0) ∧ ∃ (o1 : Option Nat) (c1 : Nat) (s1 : List Value) (n1 : Nat), r.1.fStrokes.length = n1 ∧ (o1 ≠ none → n1 ≤ c1 ∧ s1.length = (c1 - n1) * 1) ∧ (o1 = none → r.1.fStrokes = [] ∧ c1 = 0) ∧ v = .tuple #[.agg #[.slice (o0.map fun b => ⟨b, 0, none⟩) n0 c0, .slice (o1.map fun b => ⟨b, 0, none⟩) n1 c1], (.bool r.2)] ∧ Mem w (bs [some A_b]) [⟨some A_b, 62, [(.slice B_a B_an B_c), (.slice C_a C_an C_c)]⟩, ⟨o0, 147, row encGWornPin r.1.fPins s0⟩, ⟨o1, 2, row encI64 r.1.fStrokes s1⟩] w') := by
  subst B_hn C_hn
  rw [spec_l06Turned] at h
  refine enter (args := [(.pointer (some ⟨A_b, 0, none⟩)), (.int .i64 turns1)]) Tryz.func179 rfl Tryz.ntmps179 (by kernel_rfl) (L := [⟨some A_b, 62, [(.slice B_a w0.fPins.length B_c), (.slice C_a w0.fStrokes.length C_c)]⟩]) (W := bs [some A_b]) hm0 ?_
  refine jc_seq (jc_region (tO (qa 0 (fun b_1 => jkO (qh [0] (qe (jx_then (jc_seq (jc_region (qh [0] ?_))))))))))
  obtain ⟨t_1, ht_2, h⟩ := bd h
  refine tO (pc 0 (fun w hm => spec_l06Copy.calls w0 w _ B_c (hm.exRowW B_h B_ha) rfl C_c (hm.exRowW C_h C_ha) rfl A_b (hm.pass (N := [⟨some A_b, 62, [(.slice B_a w0.fPins.length B_c), (.slice C_a w0.fStrokes.length C_c)]⟩]) [0] (by kernel_rfl) (by kernel_rfl)) (hm.exApart (N := [⟨some A_b, 62, [(.slice B_a w0.fPins.length B_c), (.slice C_a w0.fStrokes.length C_c)]⟩]) B_h B_ha [0] (by kernel_rfl)) (hm.exApart (N := [⟨some A_b, 62, [(.slice B_a w0.fPins.length B_c), (.slice C_a w0.fStrokes.length C_c)]⟩]) C_h C_ha [0] (by kernel_rfl)) ht_2) ?_)
  rintro w v w' hm ⟨o_3, cap_4, sp_5, _, rfl, hs_6, ho_7, o_8, cap_9, sp_10, _, rfl, hs_11, ho_12, rfl, hm'⟩
  refine ⟨_, hm.appW (ps := [(0, ⟨some A_b, 62, [(.slice B_a w0.fPins.length B_c), (.slice C_a w0.fStrokes.length C_c)]⟩)]) (N := [⟨o_3, 147, row encGWornPin t_1.fPins sp_5⟩, ⟨o_8, 2, row encI64 t_1.fStrokes sp_10⟩]) hm' (by kernel_rfl) (by kernel_rfl), jkO ?_⟩
  clear hm hm'
  refine tO (qa 0 (fun b_13 => jkO (tO (qs 0 [4] (jkO (qe (jx_then (jc_seq (jc_region (qh [0] ?_))))))))))
  obtain ⟨t_2, ht_14, h⟩ := bd h
  refine tO (pc 0 (fun w hm => spec_l06Each.calls w0 w _ B_c (hm.exRowW B_h B_ha) rfl C_c (hm.exRowW C_h C_ha) rfl A_b (hm.pass (N := [⟨some A_b, 62, [(.slice B_a w0.fPins.length B_c), (.slice C_a w0.fStrokes.length C_c)]⟩]) [0] (by kernel_rfl) (by kernel_rfl)) (hm.exApart (N := [⟨some A_b, 62, [(.slice B_a w0.fPins.length B_c), (.slice C_a w0.fStrokes.length C_c)]⟩]) B_h B_ha [0] (by kernel_rfl)) (hm.exApart (N := [⟨some A_b, 62, [(.slice B_a w0.fPins.length B_c), (.slice C_a w0.fStrokes.length C_c)]⟩]) C_h C_ha [0] (by kernel_rfl)) ht_14) ?_)
  rintro w v w' hm ⟨o_15, cap_16, sp_17, _, rfl, hs_18, ho_19, rfl, hm'⟩
  refine ⟨_, hm.appW (ps := [(0, ⟨some A_b, 62, [(.slice B_a w0.fPins.length B_c), (.slice C_a w0.fStrokes.length C_c)]⟩)]) (N := [⟨o_15, 2, row encI64 t_2 sp_17⟩]) hm' (by kernel_rfl) (by kernel_rfl), jkO ?_⟩
  clear hm hm'
  refine qh [0] (qe (jx_then (jc_seq (jc_region (qh [0] (qe (jx_then (jc_seq (jc_seq (jc_region (qh [0] (qe (jx_then (jc_meet (fun (j : (List GWornPin) × Bool) => match j with | ⟨xs_3, q_4⟩ => spec_l06Turned.k_5 turns1 t_1 t_2 xs_3 q_4 = some r ∧ (xs_3.length = t_1.fPins.length) ∧ ((o_3 = none → xs_3 = [] ∧ cap_4 = 0))) (fun (j : (List GWornPin) × Bool) => match j with | ⟨xs_3, q_4⟩ => [(1, [], (.int .i64 turns1)), (4, [], (.pointer (some ⟨b_1, 0, none⟩))), (5, [], (.bool false)), (6, [], (.pointer (some ⟨b_13, 0, none⟩))), (7, [], (.slice (o_15.map fun b => ⟨b, 0, none⟩) t_2.length cap_16)), (8, [], (.bool q_4))]) (fun (j : (List GWornPin) × Bool) => match j with | ⟨xs_3, q_4⟩ => [⟨some A_b, 62, [(.slice B_a w0.fPins.length B_c), (.slice C_a w0.fStrokes.length C_c)]⟩, ⟨some b_1, 62, [(.slice none 0 0), (.slice none 0 0)]⟩, ⟨o_3, 147, row encGWornPin xs_3 sp_5⟩, ⟨o_8, 2, row encI64 t_1.fStrokes sp_10⟩, ⟨some b_13, 62, [(.slice (o_3.map fun b => ⟨b, 0, none⟩) t_1.fPins.length cap_4), (.slice (o_8.map fun b => ⟨b, 0, none⟩) t_1.fStrokes.length cap_9)]⟩, ⟨o_15, 2, row encI64 t_2 sp_17⟩]) ?_ ?_))))))))))))))
  ·refine jc_block ?_
   obtain ⟨t_23, ht_303, hr_293⟩ := bd h
   refine jc_loop (fun (s : (List GWornPin) × Bool × Int) (x : Unit) => match s, x with | ⟨xs_19, q_20, i_21⟩, _ => (xs_19.length = t_1.fPins.length) ∧ ((o_3 = none → xs_19 = [] ∧ cap_4 = 0))) (fun (s : (List GWornPin) × Bool × Int) (x : Unit) => match s, x with | ⟨xs_19, q_20, i_21⟩, _ => [(1, [], (.int .i64 turns1)), (4, [], (.pointer (some ⟨b_1, 0, none⟩))), (5, [], (.bool false)), (6, [], (.pointer (some ⟨b_13, 0, none⟩))), (7, [], (.slice (o_15.map fun b => ⟨b, 0, none⟩) t_2.length cap_16)), (8, [], (.bool q_20)), (9, [], (.int .i64 i_21))]) (fun (s : (List GWornPin) × Bool × Int) (x : Unit) => match s, x with | ⟨xs_19, q_20, i_21⟩, _ => [⟨some A_b, 62, [(.slice B_a w0.fPins.length B_c), (.slice C_a w0.fStrokes.length C_c)]⟩, ⟨some b_1, 62, [(.slice none 0 0), (.slice none 0 0)]⟩, ⟨o_3, 147, row encGWornPin xs_19 sp_5⟩, ⟨o_8, 2, row encI64 t_1.fStrokes sp_10⟩, ⟨some b_13, 62, [(.slice (o_3.map fun b => ⟨b, 0, none⟩) t_1.fPins.length cap_4), (.slice (o_8.map fun b => ⟨b, 0, none⟩) t_1.fStrokes.length cap_9)]⟩, ⟨o_15, 2, row encI64 t_2 sp_17⟩]) ht_303 () ⟨rfl, ho_7⟩ (by kernel_rfl) [0, 1, 2, 3, 4, 5] (by kernel_rfl) (by kernel_rfl) ?_
   rintro ⟨xs_19, q_20, i_21⟩ _ y_294 ⟨hn_292, ho_291⟩ h
   rw [spec_l06Turned.l_22] at h
   refine jc_seq (jc_seq (jc_region (qh [0,0,4,0,0] (qe (jx_then (qi h (fun h => ?_) (fun h => ?_)))))))
   ·refine jc_skip (jx_then (jc_seq (jc_block (jc_seq (jc_region (qh [0,4,0] ?_))))))
    obtain ⟨x_24, hx_297, h⟩ := bd h
    refine tO (qx 0 (o_3.map fun b => ⟨b, 0, none⟩) 3 hx_297 hn_292 (spo ho_291 hx_297) (jkO (qh [0] (tO (ql 0 false (fun w hm => (((hm.ow 2 o_3 147 xs_19 sp_5 (fun e => (ho_291 e).1) encGWornPin_len).at hx_297).sub 2 1)) (jkO (qh [0,0] ?_)))))))
    obtain ⟨x_25, hx_298, h⟩ := bd h
    refine tO (qx 0 (o_3.map fun b => ⟨b, 0, none⟩) 3 hx_298 hn_292 (spo ho_291 hx_298) (jkO (qh [0] (tO (p_strO 0 2 o_3 147 encGWornPin xs_19 sp_5 i_21 (⟨x_25.fStep, x_25.fTrack, (w64 (x_24.fTurns + turns1))⟩ : GWornPin) 3 2 [(.int .i64 (w64 (x_24.fTurns + turns1)))] (by kernel_rfl) (by kernel_rfl) (by kernel_rfl) (fun e => (ho_291 e).1) encGWornPin_len hx_298 (by kernel_rfl) (by kernel_rfl) (jkO (qe (jx_then (jc_region (qf [(0, 0), (0, 0), (0, 1), (4, 1), (0, 1)] (qp 33 h (fun h => ?_) (fun h => ?_))))))))))))
    ·obtain ⟨x_26, hx_300, h⟩ := bd h
     refine tO (qx 2 (o_3.map fun b => ⟨b, 0, none⟩) 3 hx_300 (List.length_set.trans hn_292) (spo (set_ho ho_291) hx_300) (jkO (qf [(0, 2)] (tO (ql 2 false (fun w hm => (((hm.ow 2 o_3 147 (xs_19.set i_21.toNat (⟨x_25.fStep, x_25.fTrack, (w64 (x_24.fTurns + turns1))⟩ : GWornPin)) sp_5 (fun e => ((set_ho ho_291) e).1) encGWornPin_len).at hx_300).sub 2 1)) (jkO ?_))))))
     obtain ⟨t_27, ht_301, h⟩ := bd h
     refine tO (pc 2 (fun w hm => spec_l06Turns.calls x_26.fTurns w _ ht_301) ?_)
     rintro w v w' hm ⟨rfl, hm'⟩
     refine ⟨_, hm.app hm', jkO ?_⟩
     clear hm hm'
     exact qf [(0, 4), (0, 0)] (qe (jx_inn (jx_then (jc_region (qh [0,0,0] (qe (qb ((xs_19.set i_21.toNat (⟨x_25.fStep, x_25.fTrack, (w64 (x_24.fTurns + turns1))⟩ : GWornPin)), t_27, (w64 (i_21 + 1))) () h ⟨(List.length_set.trans hn_292), (set_ho ho_291)⟩ [0, 1, 2, 3, 4, 5])))))))
    ·exact qf [(0, 3), (0, 3), (0, 3), (0, 3), (0, 5), (0, 0)] (qe (jx_inn (jx_then (jc_region (qh [0,0,0] (qe (qb ((xs_19.set i_21.toNat (⟨x_25.fStep, x_25.fTrack, (w64 (x_24.fTurns + turns1))⟩ : GWornPin)), false, (w64 (i_21 + 1))) () h ⟨(List.length_set.trans hn_292), (set_ho ho_291)⟩ [0, 1, 2, 3, 4, 5])))))))
   ·refine jc_exit (jx_thenx (jx_leave (xs_19, q_20) (Option.some.inj h).symm (fun e_302 => ?_)))
    subst e_302
    exact jx_ine (qm ⟨xs_19, q_20⟩ ⟨hr_293, hn_292, ho_291⟩ [0, 1, 2, 3, 4, 5])
  ·rintro ⟨xs_3, q_4⟩ ⟨h, hn_107, ho_106⟩
   replace h : spec_l06Turned.k_5 turns1 t_1 t_2 xs_3 q_4 = some r := h
   rw [spec_l06Turned.k_5] at h
   refine jx_then (jc_seq (jc_seq (jc_region (qh [0] (qe (jx_then (jc_meet (fun (j : (List Int) × Bool) => match j with | ⟨xs_6, q_7⟩ => spec_l06Turned.k_8 xs_3 xs_6 q_7 = some r ∧ (xs_6.length = t_1.fStrokes.length) ∧ ((o_8 = none → xs_6 = [] ∧ cap_9 = 0))) (fun (j : (List Int) × Bool) => match j with | ⟨xs_6, q_7⟩ => [(4, [], (.pointer (some ⟨b_1, 0, none⟩))), (5, [], (.bool false)), (6, [], (.pointer (some ⟨b_13, 0, none⟩))), (8, [], (.bool q_7))]) (fun (j : (List Int) × Bool) => match j with | ⟨xs_6, q_7⟩ => [⟨some A_b, 62, [(.slice B_a w0.fPins.length B_c), (.slice C_a w0.fStrokes.length C_c)]⟩, ⟨some b_1, 62, [(.slice none 0 0), (.slice none 0 0)]⟩, ⟨o_3, 147, row encGWornPin xs_3 sp_5⟩, ⟨o_8, 2, row encI64 xs_6 sp_10⟩, ⟨some b_13, 62, [(.slice (o_3.map fun b => ⟨b, 0, none⟩) t_1.fPins.length cap_4), (.slice (o_8.map fun b => ⟨b, 0, none⟩) t_1.fStrokes.length cap_9)]⟩, ⟨o_15, 2, row encI64 t_2 sp_17⟩]) ?_ ?_)))))))
   ·refine jc_block ?_
    obtain ⟨t_13, ht_275, hr_261⟩ := bd h
    refine jc_loop (fun (s : (List Int) × Bool × Int) (x : Unit) => match s, x with | ⟨xs_9, q_10, i_11⟩, _ => (xs_9.length = t_1.fStrokes.length) ∧ ((o_8 = none → xs_9 = [] ∧ cap_9 = 0))) (fun (s : (List Int) × Bool × Int) (x : Unit) => match s, x with | ⟨xs_9, q_10, i_11⟩, _ => [(1, [], (.int .i64 turns1)), (4, [], (.pointer (some ⟨b_1, 0, none⟩))), (5, [], (.bool false)), (6, [], (.pointer (some ⟨b_13, 0, none⟩))), (7, [], (.slice (o_15.map fun b => ⟨b, 0, none⟩) t_2.length cap_16)), (8, [], (.bool q_10)), (10, [], (.int .i64 i_11))]) (fun (s : (List Int) × Bool × Int) (x : Unit) => match s, x with | ⟨xs_9, q_10, i_11⟩, _ => [⟨some A_b, 62, [(.slice B_a w0.fPins.length B_c), (.slice C_a w0.fStrokes.length C_c)]⟩, ⟨some b_1, 62, [(.slice none 0 0), (.slice none 0 0)]⟩, ⟨o_3, 147, row encGWornPin xs_3 sp_5⟩, ⟨o_8, 2, row encI64 xs_9 sp_10⟩, ⟨some b_13, 62, [(.slice (o_3.map fun b => ⟨b, 0, none⟩) t_1.fPins.length cap_4), (.slice (o_8.map fun b => ⟨b, 0, none⟩) t_1.fStrokes.length cap_9)]⟩, ⟨o_15, 2, row encI64 t_2 sp_17⟩]) ht_275 () ⟨rfl, ho_12⟩ (by kernel_rfl) [0, 1, 2, 3, 4, 5] (by kernel_rfl) (by kernel_rfl) ?_
    rintro ⟨xs_9, q_10, i_11⟩ _ y_262 ⟨hn_260, ho_259⟩ h
    rw [spec_l06Turned.l_12] at h
    refine jc_seq (jc_seq (jc_region (qh [0,0,0,0] (qe (jx_then (qi h (fun h => ?_) (fun h => ?_)))))))
    ·refine jc_skip (jx_then (jc_seq (jc_block (jc_seq (qg [⟨some A_b, 62, [(.slice B_a w0.fPins.length B_c), (.slice C_a w0.fStrokes.length C_c)]⟩, ⟨some b_1, 62, [(.slice none 0 0), (.slice none 0 0)]⟩, ⟨o_3, 147, row encGWornPin xs_3 sp_5⟩, ⟨some b_13, 62, [(.slice (o_3.map fun b => ⟨b, 0, none⟩) t_1.fPins.length cap_4), (.slice (o_8.map fun b => ⟨b, 0, none⟩) t_1.fStrokes.length cap_9)]⟩, ⟨o_15, 2, row encI64 t_2 sp_17⟩] 14 (qd [⟨0, 0, 0⟩,⟨1, 3, 0⟩,⟨2, 0, 0⟩,⟨5, 0, 0⟩,⟨6, 0, 0⟩,⟨7, 0, 0⟩] 8 [0, 1, 2, 4, 5] ?_))))))
     obtain ⟨x_14, hx_268, h⟩ := bd h
     refine qv 3 0 [0, 1, 2, 4, 5] (fun w hm => idx_run (a := (o_8.map fun b => ⟨b, 0, none⟩)) (len := t_1.fStrokes.length) (s := 1) (j := i_11) (by kernel_rfl) (ix_some hx_268).1 (ltn hx_268 hn_260) (spo ho_259 hx_268)) ?_
     obtain ⟨x_15, hx_269, h⟩ := bd h
     refine qv 8 0 [0, 1, 2, 4, 5] (fun w hm => idx_run (a := (o_15.map fun b => ⟨b, 0, none⟩)) (len := t_2.length) (s := 1) (j := i_11) (by kernel_rfl) (ix_some hx_269).1 (ltn hx_269 rfl) (spo ho_19 hx_269)) (qv 9 0 [0, 1, 2, 4, 5] (fun w hm => ld_run (b := aB (o_15.map fun b => ⟨b, 0, none⟩)) (off := (aO (o_15.map fun b => ⟨b, 0, none⟩) + i_11.toNat * 1)) (s := 1) (agg := false) (vs := (encI64 x_15)) (by kernel_rfl) (by kernel_rfl) (.inr rfl) ((hm.ow 4 o_15 2 t_2 sp_17 (fun e => (ho_19 e).1) encI64_len).at hx_269)) (qd [⟨10, 0, 0⟩] 4 [0, 1, 2, 4, 5] (tD 4 (ql 0 false (fun w hm => ((hm.ow 3 o_8 2 xs_9 sp_10 (fun e => (ho_259 e).1) encI64_len).at hx_268)) (kD [0, 1, 2, 4, 5] (qd [⟨11, 0, 0⟩] 2 [0, 1, 2, 4, 5] ?_))))))
     obtain ⟨x_16, hx_270, h⟩ := bd h
     refine qv 12 0 [0, 1, 2, 4, 5] (fun w hm => idx_run (a := (o_8.map fun b => ⟨b, 0, none⟩)) (len := t_1.fStrokes.length) (s := 1) (j := i_11) (by kernel_rfl) (ix_some hx_270).1 (ltn hx_270 hn_260) (spo ho_259 hx_270)) (tD 13 (p_strO 0 3 o_8 2 encI64 xs_9 sp_10 i_11 (w64 (x_14 + (w64 (turns1 * x_15)))) 1 0 [(.int .i64 (w64 (x_14 + (w64 (turns1 * x_15)))))] (by kernel_rfl) (by kernel_rfl) (by kernel_rfl) (fun e => (ho_259 e).1) encI64_len hx_270 (by kernel_rfl) (by kernel_rfl) (kD [0, 1, 2, 4, 5] (qz (jx_then (jc_region (qf [(0, 0), (0, 0), (0, 1), (4, 1), (0, 1)] (qp 62 h (fun h => ?_) (fun h => ?_)))))))))
     ·obtain ⟨x_17, hx_272, h⟩ := bd h
      refine tO (qx 2 (o_8.map fun b => ⟨b, 0, none⟩) 1 hx_272 (List.length_set.trans hn_260) (spo (set_ho ho_259) hx_272) (jkO (tO (ql 2 false (fun w hm => ((hm.ow 3 o_8 2 (xs_9.set i_11.toNat (w64 (x_14 + (w64 (turns1 * x_15))))) sp_10 (fun e => ((set_ho ho_259) e).1) encI64_len).at hx_272)) (jkO ?_)))))
      obtain ⟨t_18, ht_273, h⟩ := bd h
      refine tO (pc 2 (fun w hm => spec_l06Turns.calls x_17 w _ ht_273) ?_)
      rintro w v w' hm ⟨rfl, hm'⟩
      refine ⟨_, hm.app hm', jkO ?_⟩
      clear hm hm'
      exact qf [(0, 4), (0, 0)] (qe (jx_inn (jx_then (jc_region (qh [0,0,0] (qe (qb ((xs_9.set i_11.toNat (w64 (x_14 + (w64 (turns1 * x_15))))), t_18, (w64 (i_11 + 1))) () h ⟨(List.length_set.trans hn_260), (set_ho ho_259)⟩ [0, 1, 2, 3, 4, 5])))))))
     ·exact qf [(0, 3), (0, 3), (0, 3), (0, 5), (0, 0)] (qe (jx_inn (jx_then (jc_region (qh [0,0,0] (qe (qb ((xs_9.set i_11.toNat (w64 (x_14 + (w64 (turns1 * x_15))))), false, (w64 (i_11 + 1))) () h ⟨(List.length_set.trans hn_260), (set_ho ho_259)⟩ [0, 1, 2, 3, 4, 5])))))))
    ·refine jc_exit (jx_thenx (jx_leave (xs_9, q_10) (Option.some.inj h).symm (fun e_274 => ?_)))
     subst e_274
     exact jx_ine (qm ⟨xs_9, q_10⟩ ⟨hr_261, hn_260, ho_259⟩ [0, 1, 2, 3, 4, 5])
   ·rintro ⟨xs_6, q_7⟩ ⟨h, hn_234, ho_233⟩
    replace h : spec_l06Turned.k_8 xs_3 xs_6 q_7 = some r := h
    rw [spec_l06Turned.k_8] at h
    refine jx_then (jc_seq (jc_region (qh [4,0] (tO (qs 0 [1] (jkO (qh [0] (qe (jx_then (jc_ret ?_))))))))))
    obtain rfl := Option.some.inj h
    exact qr [1] (fun w hm => ⟨o_3, cap_4, sp_5, t_1.fPins.length, hn_107, hs_6, ho_106, o_8, cap_9, sp_10, t_1.fStrokes.length, hn_234, hs_11, ho_233, rfl, hm.pk [0, 2, 3]⟩)
/-! ### spec.TurnWear -/
def spec_TurnWear (f0 : GFrame) (w1 : GWear) (turns2 : Int) : Option (GWear × Int) := (spec_l06Ok f0 w1).bind fun t_1 => (if (!t_1) = true then some ((⟨[], []⟩ : GWear), 1) else (spec_l06Turns turns2).bind fun t_2 => (if (!t_2) = true then some ((⟨[], []⟩ : GWear), 2) else (spec_l06Turned w1 turns2).bind fun t_3 => (if (!t_3.2) = true then some ((⟨[], []⟩ : GWear), 3) else some (t_3.1, 0))))
theorem spec_TurnWear.calls (f0 : GFrame) (w1 : GWear) (turns2 : Int) (w : World) (r : GWear × Int) {C_a : Option Addr} {C_an : Nat} (C_c : Nat) (C_h : Rw w C_a 2 encGHammer f0.fHammers) (C_hn : f0.fHammers.length = C_an) {E_a : Option Addr} {E_an : Nat} (E_c : Nat) (E_h : Rw w E_a 3 encGWornPin w1.fPins) (E_hn : w1.fPins.length = E_an) {F_a : Option Addr} {F_an : Nat} (F_c : Nat) (F_h : Rw w F_a 1 encI64 w1.fStrokes) (F_hn : w1.fStrokes.length = F_an) (h : spec_TurnWear f0 w1 turns2 = some r) :
    Calls Tryz.prog 99 #[(.agg #[(.int .i16 f0.fSteps), (.slice C_a C_an C_c)]), (.agg #[(.slice E_a E_an E_c), (.slice F_a F_an F_c)]), (.int .i64 turns2)] w fun e w' => ∃ v, e = .returned v ∧ (∃ (o0 : Option Nat) (c0 : Nat) (s0 : List Value) (n0 : Nat), r.1.fPins.length = n0 ∧ (o0 ≠ none → n0 ≤ c0 ∧ s0.length = (c0 - n0) * 3) ∧ (o0 = none → r.1.fPins = [] ∧ c0 = 0) ∧ ∃ (o1 : Option Nat) (c1 : Nat) (s1 : List Value) (n1 : Nat), r.1.fStrokes.length = n1 ∧ (o1 ≠ none → n1 ≤ c1 ∧ s1.length = (c1 - n1) * 1) ∧ (o1 = none → r.1.fStrokes = [] ∧ c1 = 0) ∧ v = .tuple #[.agg #[.slice (o0.map fun b => ⟨b, 0, none⟩) n0 c0, .slice (o1.map fun b => ⟨b, 0, none⟩) n1 c1], (.int .i64 r.2)] ∧ Mem w [] [⟨o0, 147, row encGWornPin r.1.fPins s0⟩, ⟨o1, 2, row encI64 r.1.fStrokes s1⟩] w') := by
  subst C_hn E_hn F_hn
  rw [spec_TurnWear] at h
  refine enter (args := [(.agg #[(.int .i16 f0.fSteps), (.slice C_a f0.fHammers.length C_c)]), (.agg #[(.slice E_a w1.fPins.length E_c), (.slice F_a w1.fStrokes.length F_c)]), (.int .i64 turns2)]) Tryz.func99 rfl Tryz.ntmps99 (by kernel_rfl) (L := []) (W := []) (Mem.start w) ?_
  refine jc_seq (jc_region (tO (qa 0 (fun b_1 => jkO (tO (qa 0 (fun b_2 => jkO (tO (qa 0 (fun b_3 => jkO (qh [0] (qe (jx_then (jc_seq (jc_seq (jc_region ?_))))))))))))))))
  obtain ⟨t_1, ht_6, h⟩ := bd h
  refine tO (pc 0 (fun w hm => spec_l06Ok.calls f0 w1 w _ C_c (hm.xr C_h) rfl E_c (hm.xr E_h) rfl F_c (hm.xr F_h) rfl b_1 b_2 (hm.pass (N := [⟨some b_1, 27, [(.int .i16 f0.fSteps), (.slice C_a f0.fHammers.length C_c)]⟩, ⟨some b_2, 62, [(.slice E_a w1.fPins.length E_c), (.slice F_a w1.fStrokes.length F_c)]⟩]) [0, 1] (by kernel_rfl) (by kernel_rfl)) (hm.exApart (N := [⟨some b_1, 27, [(.int .i16 f0.fSteps), (.slice C_a f0.fHammers.length C_c)]⟩, ⟨some b_2, 62, [(.slice E_a w1.fPins.length E_c), (.slice F_a w1.fStrokes.length F_c)]⟩]) C_h (fun _ => List.not_mem_nil) [0, 1] (by kernel_rfl)) (hm.exApart (N := [⟨some b_1, 27, [(.int .i16 f0.fSteps), (.slice C_a f0.fHammers.length C_c)]⟩, ⟨some b_2, 62, [(.slice E_a w1.fPins.length E_c), (.slice F_a w1.fStrokes.length F_c)]⟩]) E_h (fun _ => List.not_mem_nil) [0, 1] (by kernel_rfl)) (hm.exApart (N := [⟨some b_1, 27, [(.int .i16 f0.fSteps), (.slice C_a f0.fHammers.length C_c)]⟩, ⟨some b_2, 62, [(.slice E_a w1.fPins.length E_c), (.slice F_a w1.fStrokes.length F_c)]⟩]) F_h (fun _ => List.not_mem_nil) [0, 1] (by kernel_rfl)) ht_6) ?_)
  rintro w v w' hm ⟨rfl, hm'⟩
  refine ⟨_, hm.appW (ps := [(0, ⟨some b_1, 27, [(.int .i16 f0.fSteps), (.slice C_a f0.fHammers.length C_c)]⟩), (1, ⟨some b_2, 62, [(.slice E_a w1.fPins.length E_c), (.slice F_a w1.fStrokes.length F_c)]⟩)]) (N := []) hm' (by kernel_rfl) (by kernel_rfl), jkO ?_⟩
  clear hm hm'
  refine qh [0] (qe (jx_then (qi h (fun h => ?_) (fun h => ?_))))
  ·refine jc_seq (jc_region (qh [0] (tO (qs 0 [2] (jkO (qh [0] (qe (jx_then (jc_ret (jx_thenr ?_))))))))))
   obtain rfl := Option.some.inj h
   exact jx_ghost 147 encGWornPin (jx_ghost 2 encI64 (qr [2] (fun w hm => ⟨none, 0, [], 0, rfl, (fun e => absurd rfl e), (fun _ => ⟨rfl, rfl⟩), none, 0, [], 0, rfl, (fun e => absurd rfl e), (fun _ => ⟨rfl, rfl⟩), rfl, hm.pk [3, 4]⟩)))
  ·refine jc_skip (jx_then (jc_seq (jc_seq (jc_region (qh [0] ?_)))))
   obtain ⟨t_2, ht_10, h⟩ := bd h
   refine tO (pc 0 (fun w hm => spec_l06Turns.calls turns2 w _ ht_10) ?_)
   rintro w v w' hm ⟨rfl, hm'⟩
   refine ⟨_, hm.app hm', jkO ?_⟩
   clear hm hm'
   refine qh [0] (qe (jx_then (qi h (fun h => ?_) (fun h => ?_))))
   ·refine jc_seq (jc_region (qh [0] (tO (qs 0 [2] (jkO (qh [0] (qe (jx_then (jc_ret (jx_thenr ?_))))))))))
    obtain rfl := Option.some.inj h
    exact jx_ghost 147 encGWornPin (jx_ghost 2 encI64 (qr [2] (fun w hm => ⟨none, 0, [], 0, rfl, (fun e => absurd rfl e), (fun _ => ⟨rfl, rfl⟩), none, 0, [], 0, rfl, (fun e => absurd rfl e), (fun _ => ⟨rfl, rfl⟩), rfl, hm.pk [3, 4]⟩)))
   ·refine jc_skip (jx_then (jc_seq (jc_region (qh [0] ?_))))
    obtain ⟨t_3, ht_12, h⟩ := bd h
    refine tO (pc 0 (fun w hm => spec_l06Turned.calls w1 turns2 w _ E_c (hm.xr E_h) rfl F_c (hm.xr F_h) rfl b_2 (hm.pass (N := [⟨some b_2, 62, [(.slice E_a w1.fPins.length E_c), (.slice F_a w1.fStrokes.length F_c)]⟩]) [1] (by kernel_rfl) (by kernel_rfl)) (hm.exApart (N := [⟨some b_2, 62, [(.slice E_a w1.fPins.length E_c), (.slice F_a w1.fStrokes.length F_c)]⟩]) E_h (fun _ => List.not_mem_nil) [1] (by kernel_rfl)) (hm.exApart (N := [⟨some b_2, 62, [(.slice E_a w1.fPins.length E_c), (.slice F_a w1.fStrokes.length F_c)]⟩]) F_h (fun _ => List.not_mem_nil) [1] (by kernel_rfl)) ht_12) ?_)
    rintro w v w' hm ⟨o_13, cap_14, sp_15, _, rfl, hs_16, ho_17, o_18, cap_19, sp_20, _, rfl, hs_21, ho_22, rfl, hm'⟩
    refine ⟨_, hm.appW (ps := [(1, ⟨some b_2, 62, [(.slice E_a w1.fPins.length E_c), (.slice F_a w1.fStrokes.length F_c)]⟩)]) (N := [⟨o_13, 147, row encGWornPin t_3.1.fPins sp_15⟩, ⟨o_18, 2, row encI64 t_3.1.fStrokes sp_20⟩]) hm' (by kernel_rfl) (by kernel_rfl), jkO ?_⟩
    clear hm hm'
    refine qh [0,0,0] (tO (qa 0 (fun b_23 => jkO (tO (qs 0 [5] (jkO (qh [0] (qe (jx_then (jc_seq (jc_seq (jc_region (qh [0,0] (qe (jx_then (qi h (fun h => ?_) (fun h => ?_)))))))))))))))))
    ·refine jc_seq (jc_region (qh [0] (tO (qs 0 [2] (jkO (qh [0] (qe (jx_then (jc_ret (jx_thenr ?_))))))))))
     obtain rfl := Option.some.inj h
     exact jx_ghost 147 encGWornPin (jx_ghost 2 encI64 (qr [2] (fun w hm => ⟨none, 0, [], 0, rfl, (fun e => absurd rfl e), (fun _ => ⟨rfl, rfl⟩), none, 0, [], 0, rfl, (fun e => absurd rfl e), (fun _ => ⟨rfl, rfl⟩), rfl, hm.pk [6, 7]⟩)))
    ·refine jc_skip (jx_then (jc_seq (jc_region (qh [5] (tO (qs 0 [2] (jkO (qh [0] (qe (jx_then (jc_ret ?_)))))))))))
     obtain rfl := Option.some.inj h
     exact qr [2] (fun w hm => ⟨o_13, cap_14, sp_15, t_3.1.fPins.length, rfl, hs_16, ho_17, o_18, cap_19, sp_20, t_3.1.fStrokes.length, rfl, hs_21, ho_22, rfl, hm.pk [3, 4]⟩)
/-! ### spec.NewHammer -/
def spec_NewHammer (f0 : GFrame) (w1 : GWear) (track2 : Int) : Option (GWear × Int) := (spec_l06Ok f0 w1).bind fun t_1 => (if (!t_1) = true then some ((⟨[], []⟩ : GWear), 1) else (spec_l00In track2 0 (w64 ((f0.fHammers.length : Int) - 1))).bind fun t_2 => (if (!t_2) = true then some ((⟨[], []⟩ : GWear), 2) else (spec_l06Copy w1).bind fun t_3 => (ix t_3.fStrokes track2).bind fun x_4 => some ((⟨t_3.fPins, (t_3.fStrokes.set track2.toNat 0)⟩ : GWear), 0)))
theorem spec_NewHammer.calls (f0 : GFrame) (w1 : GWear) (track2 : Int) (w : World) (r : GWear × Int) {C_a : Option Addr} {C_an : Nat} (C_c : Nat) (C_h : Rw w C_a 2 encGHammer f0.fHammers) (C_hn : f0.fHammers.length = C_an) {E_a : Option Addr} {E_an : Nat} (E_c : Nat) (E_h : Rw w E_a 3 encGWornPin w1.fPins) (E_hn : w1.fPins.length = E_an) {F_a : Option Addr} {F_an : Nat} (F_c : Nat) (F_h : Rw w F_a 1 encI64 w1.fStrokes) (F_hn : w1.fStrokes.length = F_an) (h : spec_NewHammer f0 w1 track2 = some r) :
    Calls Tryz.prog 100 #[(.agg #[(.int .i16 f0.fSteps), (.slice C_a C_an C_c)]), (.agg #[(.slice E_a E_an E_c), (.slice F_a F_an F_c)]), (.int .i64 track2)] w fun e w' => ∃ v, e = .returned v ∧ (∃ (o0 : Option Nat) (c0 : Nat) (s0 : List Value) (n0 : Nat), r.1.fPins.length = n0 ∧ (o0 ≠ none → n0 ≤ c0 ∧ s0.length = (c0 - n0) * 3) ∧ (o0 = none → r.1.fPins = [] ∧ c0 = 0) ∧ ∃ (o1 : Option Nat) (c1 : Nat) (s1 : List Value) (n1 : Nat), r.1.fStrokes.length = n1 ∧ (o1 ≠ none → n1 ≤ c1 ∧ s1.length = (c1 - n1) * 1) ∧ (o1 = none → r.1.fStrokes = [] ∧ c1 = 0) ∧ v = .tuple #[.agg #[.slice (o0.map fun b => ⟨b, 0, none⟩) n0 c0, .slice (o1.map fun b => ⟨b, 0, none⟩) n1 c1], (.int .i64 r.2)] ∧ Mem w [] [⟨o0, 147, row encGWornPin r.1.fPins s0⟩, ⟨o1, 2, row encI64 r.1.fStrokes s1⟩] w') := by
  subst C_hn E_hn F_hn
  rw [spec_NewHammer] at h
  refine enter (args := [(.agg #[(.int .i16 f0.fSteps), (.slice C_a f0.fHammers.length C_c)]), (.agg #[(.slice E_a w1.fPins.length E_c), (.slice F_a w1.fStrokes.length F_c)]), (.int .i64 track2)]) Tryz.func100 rfl Tryz.ntmps100 (by kernel_rfl) (L := []) (W := []) (Mem.start w) ?_
  refine jc_seq (jc_region (tO (qa 0 (fun b_1 => jkO (tO (qa 0 (fun b_2 => jkO (tO (qa 0 (fun b_3 => jkO (qh [0] (qe (jx_then (jc_seq (jc_seq (jc_region ?_))))))))))))))))
  obtain ⟨t_1, ht_6, h⟩ := bd h
  refine tO (pc 0 (fun w hm => spec_l06Ok.calls f0 w1 w _ C_c (hm.xr C_h) rfl E_c (hm.xr E_h) rfl F_c (hm.xr F_h) rfl b_1 b_2 (hm.pass (N := [⟨some b_1, 27, [(.int .i16 f0.fSteps), (.slice C_a f0.fHammers.length C_c)]⟩, ⟨some b_2, 62, [(.slice E_a w1.fPins.length E_c), (.slice F_a w1.fStrokes.length F_c)]⟩]) [0, 1] (by kernel_rfl) (by kernel_rfl)) (hm.exApart (N := [⟨some b_1, 27, [(.int .i16 f0.fSteps), (.slice C_a f0.fHammers.length C_c)]⟩, ⟨some b_2, 62, [(.slice E_a w1.fPins.length E_c), (.slice F_a w1.fStrokes.length F_c)]⟩]) C_h (fun _ => List.not_mem_nil) [0, 1] (by kernel_rfl)) (hm.exApart (N := [⟨some b_1, 27, [(.int .i16 f0.fSteps), (.slice C_a f0.fHammers.length C_c)]⟩, ⟨some b_2, 62, [(.slice E_a w1.fPins.length E_c), (.slice F_a w1.fStrokes.length F_c)]⟩]) E_h (fun _ => List.not_mem_nil) [0, 1] (by kernel_rfl)) (hm.exApart (N := [⟨some b_1, 27, [(.int .i16 f0.fSteps), (.slice C_a f0.fHammers.length C_c)]⟩, ⟨some b_2, 62, [(.slice E_a w1.fPins.length E_c), (.slice F_a w1.fStrokes.length F_c)]⟩]) F_h (fun _ => List.not_mem_nil) [0, 1] (by kernel_rfl)) ht_6) ?_)
  rintro w v w' hm ⟨rfl, hm'⟩
  refine ⟨_, hm.appW (ps := [(0, ⟨some b_1, 27, [(.int .i16 f0.fSteps), (.slice C_a f0.fHammers.length C_c)]⟩), (1, ⟨some b_2, 62, [(.slice E_a w1.fPins.length E_c), (.slice F_a w1.fStrokes.length F_c)]⟩)]) (N := []) hm' (by kernel_rfl) (by kernel_rfl), jkO ?_⟩
  clear hm hm'
  refine qh [0] (qe (jx_then (qi h (fun h => ?_) (fun h => ?_))))
  ·refine jc_seq (jc_region (qh [0] (tO (qs 0 [2] (jkO (qh [0] (qe (jx_then (jc_ret (jx_thenr ?_))))))))))
   obtain rfl := Option.some.inj h
   exact jx_ghost 147 encGWornPin (jx_ghost 2 encI64 (qr [2] (fun w hm => ⟨none, 0, [], 0, rfl, (fun e => absurd rfl e), (fun _ => ⟨rfl, rfl⟩), none, 0, [], 0, rfl, (fun e => absurd rfl e), (fun _ => ⟨rfl, rfl⟩), rfl, hm.pk [3, 4]⟩)))
  ·refine jc_skip (jx_then (jc_seq (jc_seq (jc_region (qh [0,0,0,0,0] ?_)))))
   obtain ⟨t_2, ht_10, h⟩ := bd h
   refine tO (pc 0 (fun w hm => spec_l00In.calls track2 0 (w64 ((f0.fHammers.length : Int) - 1)) w _ ht_10) ?_)
   rintro w v w' hm ⟨rfl, hm'⟩
   refine ⟨_, hm.app hm', jkO ?_⟩
   clear hm hm'
   refine qh [0] (qe (jx_then (qi h (fun h => ?_) (fun h => ?_))))
   ·refine jc_seq (jc_region (qh [0] (tO (qs 0 [2] (jkO (qh [0] (qe (jx_then (jc_ret (jx_thenr ?_))))))))))
    obtain rfl := Option.some.inj h
    exact jx_ghost 147 encGWornPin (jx_ghost 2 encI64 (qr [2] (fun w hm => ⟨none, 0, [], 0, rfl, (fun e => absurd rfl e), (fun _ => ⟨rfl, rfl⟩), none, 0, [], 0, rfl, (fun e => absurd rfl e), (fun _ => ⟨rfl, rfl⟩), rfl, hm.pk [3, 4]⟩)))
   ·refine jc_skip (jx_then (jc_seq (jc_region ?_)))
    obtain ⟨t_3, ht_12, h⟩ := bd h
    refine tO (pc 0 (fun w hm => spec_l06Copy.calls w1 w _ E_c (hm.xr E_h) rfl F_c (hm.xr F_h) rfl b_2 (hm.pass (N := [⟨some b_2, 62, [(.slice E_a w1.fPins.length E_c), (.slice F_a w1.fStrokes.length F_c)]⟩]) [1] (by kernel_rfl) (by kernel_rfl)) (hm.exApart (N := [⟨some b_2, 62, [(.slice E_a w1.fPins.length E_c), (.slice F_a w1.fStrokes.length F_c)]⟩]) E_h (fun _ => List.not_mem_nil) [1] (by kernel_rfl)) (hm.exApart (N := [⟨some b_2, 62, [(.slice E_a w1.fPins.length E_c), (.slice F_a w1.fStrokes.length F_c)]⟩]) F_h (fun _ => List.not_mem_nil) [1] (by kernel_rfl)) ht_12) ?_)
    rintro w v w' hm ⟨o_13, cap_14, sp_15, _, rfl, hs_16, ho_17, o_18, cap_19, sp_20, _, rfl, hs_21, ho_22, rfl, hm'⟩
    refine ⟨_, hm.appW (ps := [(1, ⟨some b_2, 62, [(.slice E_a w1.fPins.length E_c), (.slice F_a w1.fStrokes.length F_c)]⟩)]) (N := [⟨o_13, 147, row encGWornPin t_3.fPins sp_15⟩, ⟨o_18, 2, row encI64 t_3.fStrokes sp_20⟩]) hm' (by kernel_rfl) (by kernel_rfl), jkO ?_⟩
    clear hm hm'
    refine tO (qa 0 (fun b_23 => jkO (tO (qs 0 [5] (jkO (qe (jx_then (jc_seq (jc_region (qh [0,5,0] ?_))))))))))
    obtain ⟨x_4, hx_24, h⟩ := bd h
    refine tO (qx 0 (o_18.map fun b => ⟨b, 0, none⟩) 1 hx_24 rfl (spo ho_22 hx_24) (jkO (tO (p_strO 0 4 o_18 2 encI64 t_3.fStrokes sp_20 track2 0 1 0 [(.int .i64 0)] (by kernel_rfl) (by kernel_rfl) (by kernel_rfl) (fun e => (ho_22 e).1) encI64_len hx_24 (by kernel_rfl) (by kernel_rfl) (jkO (qe (jx_then (jc_seq (jc_region (qh [5] (tO (qs 0 [2] (jkO (qh [0] (qe (jx_then (jc_ret ?_)))))))))))))))))
    obtain rfl := Option.some.inj h
    exact qr [2] (fun w hm => ⟨o_13, cap_14, sp_15, t_3.fPins.length, rfl, hs_16, ho_17, o_18, cap_19, sp_20, t_3.fStrokes.length, (List.length_set.trans rfl), hs_21, (set_ho ho_22), rfl, hm.pk [3, 4]⟩)
/-! ### spec.l06Find -/
def spec_l06Find.k_1 : Option (Int) := some (-1)
def spec_l06Find.k_6 (i_2 : Int) (q_5 : Bool) : Option ((Int) ⊕ (Int ⊕ Unit)) := (if q_5 = true then some (.inr (.inl i_2)) else some (.inl (w64 (i_2 + 1))))
def spec_l06Find.l_3 (w0 : GWear) (step1 : Int) (track2 : Int) : Int → Option ((Int) ⊕ (Int ⊕ Unit))
  | i_2 => (if (decide (i_2 < (w0.fPins.length : Int))) = true then (ix w0.fPins i_2).bind fun x_7 => (if ((w64 x_7.fStep) == step1) = true then (ix w0.fPins i_2).bind fun x_8 => spec_l06Find.k_6 i_2 ((w64 x_8.fTrack) == track2) else spec_l06Find.k_6 i_2 false) else some (.inr (.inr ())))
def spec_l06Find (w0 : GWear) (step1 : Int) (track2 : Int) : Option (Int) := (loop (spec_l06Find.l_3 w0 step1 track2) 0).bind fun t_4 => match t_4 with | .inl p => some p | .inr p => spec_l06Find.k_1
theorem spec_l06Find.calls (w0 : GWear) (step1 : Int) (track2 : Int) (w : World) (r : Int) {B_a : Option Addr} {B_an : Nat} (B_c : Nat) (B_h : Rw w B_a 3 encGWornPin w0.fPins) (B_hn : w0.fPins.length = B_an) {C_a : Option Addr} {C_an : Nat} (C_c : Nat) (C_h : Rw w C_a 1 encI64 w0.fStrokes) (C_hn : w0.fStrokes.length = C_an) (A_b : Nat) (hm0 : Mem w (bs [some A_b]) [⟨some A_b, 62, [(.slice B_a B_an B_c), (.slice C_a C_an C_c)]⟩] w) (B_ha : w0.fPins ≠ [] → aB B_a ∉ bs [some A_b]) (C_ha : w0.fStrokes ≠ [] → aB C_a ∉ bs [some A_b]) (h : spec_l06Find w0 step1 track2 = some r) :
    Calls Tryz.prog 180 #[(.pointer (some ⟨A_b, 0, none⟩)), (.int .i64 step1), (.int .i64 track2)] w fun e w' => ∃ v, e = .returned v ∧ (v = (.int .i64 r) ∧ Mem w (bs [some A_b]) [⟨some A_b, 62, [(.slice B_a B_an B_c), (.slice C_a C_an C_c)]⟩] w') := by
  subst B_hn C_hn
  rw [spec_l06Find] at h
  refine enter (args := [(.pointer (some ⟨A_b, 0, none⟩)), (.int .i64 step1), (.int .i64 track2)]) Tryz.func180 rfl Tryz.ntmps180 (by kernel_rfl) (L := [⟨some A_b, 62, [(.slice B_a w0.fPins.length B_c), (.slice C_a w0.fStrokes.length C_c)]⟩]) (W := bs [some A_b]) hm0 ?_
  refine jc_seq (jc_region (qh [0] (qe (jx_then (jc_seq (jc_seq (jc_region (qh [0] (qe (jx_then (jc_meet (fun (_ : Unit) => spec_l06Find.k_1 = some r) (fun (_ : Unit) => [(6, [], (.int .i64 0))]) (fun (_ : Unit) => [⟨some A_b, 62, [(.slice B_a w0.fPins.length B_c), (.slice C_a w0.fStrokes.length C_c)]⟩]) ?_ ?_)))))))))))
  ·refine jc_block ?_
   obtain ⟨t_4, ht_64, hr_51⟩ := bd h
   refine jc_loop (fun (s : Int) (x : Unit) => match s, x with | i_2, _ => True) (fun (s : Int) (x : Unit) => match s, x with | i_2, _ => [(0, [], (.pointer (some ⟨A_b, 0, none⟩))), (1, [], (.int .i64 step1)), (2, [], (.int .i64 track2)), (6, [], (.int .i64 0)), (7, [], (.int .i64 i_2))]) (fun (s : Int) (x : Unit) => match s, x with | i_2, _ => [⟨some A_b, 62, [(.slice B_a w0.fPins.length B_c), (.slice C_a w0.fStrokes.length C_c)]⟩]) ht_64 () trivial (by kernel_rfl) [0] (by kernel_rfl) (by kernel_rfl) ?_
   rintro i_2 _ y_52 _ h
   rw [spec_l06Find.l_3] at h
   refine jc_seq (jc_seq (jc_region (qh [0,0,0,0,0,0,0] (qe (jx_then (qi h (fun h => ?_) (fun h => ?_)))))))
   ·refine jc_skip (jx_then (jc_seq (jc_block (jc_seq (jc_meet (fun (j : Bool) => match j with | q_5 => spec_l06Find.k_6 i_2 q_5 = some y_52) (fun (j : Bool) => match j with | q_5 => [(0, [], (.pointer (some ⟨A_b, 0, none⟩))), (1, [], (.int .i64 step1)), (2, [], (.int .i64 track2)), (6, [], (.int .i64 0)), (7, [], (.int .i64 i_2)), (40, [], (.bool q_5))]) (fun (j : Bool) => match j with | q_5 => [⟨some A_b, 62, [(.slice B_a w0.fPins.length B_c), (.slice C_a w0.fStrokes.length C_c)]⟩]) ?_ ?_)))))
    ·refine jc_region (qh [0,0,0,0,0] ?_)
     obtain ⟨x_7, hx_60, h⟩ := bd h
     refine tO (qx 0 B_a 3 hx_60 rfl (B_h.sp hx_60) (jkO (qh [0] (tO (ql 0 false (fun w hm => (((hm.exRowW B_h B_ha).at hx_60).sub 0 1)) (jkO (qf [(0, 0), (0, 0), (0, 0), (0, 0), (0, 1), (0, 1), (0, 1), (0, 1), (0, 1)] (qp 28 h (fun h => ?_) (fun h => ?_)))))))))
     ·obtain ⟨x_8, hx_62, h⟩ := bd h
      exact tO (qx 2 B_a 3 hx_62 rfl (B_h.sp hx_62) (jkO (qf [(0, 2)] (tO (ql 2 false (fun w hm => (((hm.exRowW B_h B_ha).at hx_62).sub 1 1)) (jkO (qf [(0, 2), (0, 2), (0, 2), (0, 4)] (qe (qm ((w64 x_8.fTrack) == track2) h [0])))))))))
     ·exact qf [(0, 3), (0, 3), (0, 3), (0, 3), (0, 3), (0, 3), (0, 5)] (qe (qm false h [0]))
    ·rintro q_5 h
     replace h : spec_l06Find.k_6 i_2 q_5 = some y_52 := h
     rw [spec_l06Find.k_6] at h
     refine jx_then (qi h (fun h => ?_) (fun h => ?_))
     ·refine jc_seq (jc_region (qh [0,0] (qe (jx_then (jc_ret (jx_inr (jx_thenr (jx_leaver (.inl i_2) (Option.some.inj h).symm (fun e_59 => ?_)))))))))
      subst e_59
      refine jx_inr (jx_thenr (jx_thenr ?_))
      obtain rfl := Option.some.inj hr_51
      exact qr [] (fun w hm => ⟨rfl, hm.pk [0]⟩)
     ·exact jc_skip (jx_inn (jx_then (jc_region (qh [0,0,0] (qe (qb (w64 (i_2 + 1)) () h trivial [0]))))))
   ·refine jc_exit (jx_thenx (jx_leave (.inr ()) (Option.some.inj h).symm (fun e_63 => ?_)))
    subst e_63
    exact jx_ine (qm () hr_51 [0])
  ·rintro _ h
   replace h : spec_l06Find.k_1 = some r := h
   rw [spec_l06Find.k_1] at h
   refine jx_then (jc_seq (jc_region (qh [0] (qe (jx_then (jc_ret ?_))))))
   obtain rfl := Option.some.inj h
   exact qr [] (fun w hm => ⟨rfl, hm.pk [0]⟩)
/-! ### spec.l06Put -/
def spec_l06Put.k_2 (pins0 : List GWornPin) (x1 : GWornPin) (i_1 : Int) : Option ((List GWornPin)) := (if 0 ≤ i_1 ∧ i_1 ≤ (pins0.length : Int) then (if ([x1] : List GWornPin).length + (pins0.drop i_1.toNat).length ≤ 4294967296 then (if 0 ≤ i_1 ∧ i_1 ≤ (pins0.length : Int) then (if ([] : List GWornPin).length + (pins0.take i_1.toNat).length ≤ 4294967296 then (if (([] : List GWornPin) ++ (pins0.take i_1.toNat)).length + (([x1] : List GWornPin) ++ (pins0.drop i_1.toNat)).length ≤ 4294967296 then some ((([] : List GWornPin) ++ (pins0.take i_1.toNat)) ++ (([x1] : List GWornPin) ++ (pins0.drop i_1.toNat))) else none) else none) else none) else none) else none)
def spec_l06Put.l_4 (pins0 : List GWornPin) (x1 : GWornPin) : Int → Option ((Int) ⊕ (Int))
  | i_3 => (if (decide (i_3 < (pins0.length : Int))) = true then (ix pins0 i_3).bind fun x_6 => (spec_l06Before x_6 x1).bind fun t_7 => (if t_7 = true then some (.inl (w64 (i_3 + 1))) else some (.inr i_3)) else some (.inr i_3))
def spec_l06Put (pins0 : List GWornPin) (x1 : GWornPin) : Option ((List GWornPin)) := (loop (spec_l06Put.l_4 pins0 x1) 0).bind fun t_5 => spec_l06Put.k_2 pins0 x1 t_5
theorem spec_l06Put.calls (pins0 : List GWornPin) (x1 : GWornPin) (w : World) (r : (List GWornPin)) (A_o : Option Nat) {A_on : Nat} {A_c : Nat} {A_sp : List Value} (A_hn : pins0.length = A_on) (A_hs : A_o ≠ none → A_on ≤ A_c ∧ A_sp.length = (A_c - A_on) * 3) (A_ho : A_o = none → pins0 = [] ∧ A_c = 0) (hm0 : Mem w (bs [A_o]) [⟨A_o, 147, row encGWornPin pins0 A_sp⟩] w) (h : spec_l06Put pins0 x1 = some r) :
    Calls Tryz.prog 181 #[(.slice (A_o.map fun b => ⟨b, 0, none⟩) A_on A_c), (.agg #[(.int .i8 x1.fStep), (.int .i8 x1.fTrack), (.int .i64 x1.fTurns)])] w fun e w' => ∃ v, e = .returned v ∧ (∃ (o0 : Option Nat) (c0 : Nat) (s0 : List Value) (n0 : Nat), r.length = n0 ∧ (o0 ≠ none → n0 ≤ c0 ∧ s0.length = (c0 - n0) * 3) ∧ (o0 = none → r = [] ∧ c0 = 0) ∧ v = .slice (o0.map fun b => ⟨b, 0, none⟩) n0 c0 ∧ Mem w (bs [A_o]) [⟨A_o, 147, row encGWornPin pins0 A_sp⟩, ⟨o0, 147, row encGWornPin r s0⟩] w') := by
  subst A_hn
  rw [spec_l06Put] at h
  refine enter (args := [(.slice (A_o.map fun b => ⟨b, 0, none⟩) pins0.length A_c), (.agg #[(.int .i8 x1.fStep), (.int .i8 x1.fTrack), (.int .i64 x1.fTurns)])]) Tryz.func181 rfl Tryz.ntmps181 (by kernel_rfl) (L := [⟨A_o, 147, row encGWornPin pins0 A_sp⟩]) (W := bs [A_o]) hm0 ?_
  refine jc_seq (jc_region (tO (qa 0 (fun b_1 => jkO (qh [0] (qe (jx_then (jc_seq (jc_region (qh [0] (qe (jx_then (jc_seq (jc_meet (fun (j : Int) => match j with | i_1 => spec_l06Put.k_2 pins0 x1 i_1 = some r) (fun (j : Int) => match j with | i_1 => [(0, [], (.slice (A_o.map fun b => ⟨b, 0, none⟩) pins0.length A_c)), (3, [], (.pointer (some ⟨b_1, 0, none⟩))), (4, [], (.slice none 0 0)), (5, [], (.int .i64 i_1))]) (fun (j : Int) => match j with | i_1 => [⟨A_o, 147, row encGWornPin pins0 A_sp⟩, ⟨some b_1, 147, [(.int .i8 x1.fStep), (.int .i8 x1.fTrack), (.int .i64 x1.fTurns)]⟩]) ?_ ?_))))))))))))))
  ·refine jc_block ?_
   obtain ⟨t_5, ht_93, hr_79⟩ := bd h
   refine jc_loop (fun (s : Int) (x : Unit) => match s, x with | i_3, _ => True) (fun (s : Int) (x : Unit) => match s, x with | i_3, _ => [(0, [], (.slice (A_o.map fun b => ⟨b, 0, none⟩) pins0.length A_c)), (3, [], (.pointer (some ⟨b_1, 0, none⟩))), (4, [], (.slice none 0 0)), (5, [], (.int .i64 i_3))]) (fun (s : Int) (x : Unit) => match s, x with | i_3, _ => [⟨A_o, 147, row encGWornPin pins0 A_sp⟩, ⟨some b_1, 147, [(.int .i8 x1.fStep), (.int .i8 x1.fTrack), (.int .i64 x1.fTurns)]⟩]) ht_93 () trivial (by kernel_rfl) [0, 1] (by kernel_rfl) (by kernel_rfl) ?_
   rintro i_3 _ y_80 _ h
   rw [spec_l06Put.l_4] at h
   refine jc_seq (jc_seq (qg [⟨A_o, 147, row encGWornPin pins0 A_sp⟩, ⟨some b_1, 147, [(.int .i8 x1.fStep), (.int .i8 x1.fTrack), (.int .i64 x1.fTurns)]⟩] 12 (qd [⟨0, 0, 0⟩,⟨1, 0, 0⟩,⟨2, 0, 0⟩,⟨3, 0, 0⟩,⟨4, 0, 0⟩,⟨5, 0, 1⟩,⟨6, 0, 1⟩,⟨9, 1, 1⟩] 4 [0, 1] (jd_split 11 (decide (i_3 < (pins0.length : Int))) (by kernel_rfl) (fun hc_86 => ?_) (fun hc_86 => ?_)))))
   ·replace h := ifT hc_86 h
    obtain ⟨x_6, hx_87, h⟩ := bd h
    refine qv 7 2 [0, 1] (fun w hm => idx_run (a := (A_o.map fun b => ⟨b, 0, none⟩)) (len := pins0.length) (s := 3) (j := i_3) (by kernel_rfl) (ix_some hx_87).1 (ltn hx_87 rfl) (spo A_ho hx_87)) (qv 8 2 [0, 1] (fun w hm => ld_run (b := aB (A_o.map fun b => ⟨b, 0, none⟩)) (off := (aO (A_o.map fun b => ⟨b, 0, none⟩) + i_3.toNat * 3)) (s := 3) (agg := true) (vs := (encGWornPin x_6)) (by kernel_rfl) (by kernel_rfl) (.inl rfl) ((hm.ow 0 A_o 147 pins0 A_sp (fun e => (A_ho e).1) encGWornPin_len).at hx_87)) ?_)
    obtain ⟨t_7, ht_88, h⟩ := bd h
    refine tD 10 (pc 2 (fun w hm => spec_l06Before.calls x_6 x1 w _ ht_88) ?_)
    rintro w v w' hm ⟨rfl, hm'⟩
    refine ⟨_, hm.app hm', kD [0, 1] ?_⟩
    clear hm hm'
    refine qd [⟨11, 0, 4⟩] 0 [0, 1] (qz (jx_then (qi h (fun h => ?_) (fun h => ?_))))
    ·exact jc_skip (jx_then (jc_block (jc_region (qh [0,0,0] (qe (jx_inn (qb (w64 (i_3 + 1)) () h trivial [0, 1])))))))
    ·refine jc_exit (jx_thenx (jx_leave i_3 (Option.some.inj h).symm (fun e_90 => ?_)))
     subst e_90
     exact jx_ine (qm i_3 hr_79 [0, 1])
   ·replace h := ifF hc_86 h
    refine qd [⟨7, 0, 3⟩,⟨8, 0, 3⟩,⟨10, 0, 3⟩,⟨11, 0, 5⟩] 0 [0, 1] (qz (jx_then (jc_cond false (by kernel_rfl) (fun hc_91 => nomatch hc_91) (fun hc_91 => (jc_exit (jx_thenx (jx_leave i_3 (Option.some.inj h).symm (fun e_92 => ?_))))))))
    subst e_92
    exact jx_ine (qm i_3 hr_79 [0, 1])
  ·rintro i_1 h
   replace h : spec_l06Put.k_2 pins0 x1 i_1 = some r := h
   rw [spec_l06Put.k_2] at h
   refine jx_then (jc_seq (qg [⟨A_o, 147, row encGWornPin pins0 A_sp⟩, ⟨some b_1, 147, [(.int .i8 x1.fStep), (.int .i8 x1.fTrack), (.int .i64 x1.fTurns)]⟩] 7 (qd [⟨0, 1, 0⟩,⟨2, 0, 0⟩,⟨3, 0, 0⟩] 4 [0, 1] ?_)))
   obtain ⟨hg_37, h⟩ := gd h
   refine qv 4 0 [0, 1] (fun w hm => slL_run (a := (A_o.map fun b => ⟨b, 0, none⟩)) (len := pins0.length) (cap := A_c) (size := 3) (l := i_1) (by kernel_rfl) hg_37.1 (Int.le_trans hg_37.2 (Int.ofNat_le.2 (Nat.le_of_eq rfl)))) (tD 1 (qa 0 (fun b_38 => kD [0, 1] ?_)))
   obtain ⟨hg_39, h⟩ := gd h
   refine tD 5 (p_apn 0 2 (some b_38) 147 1 (pins0.length - i_1.toNat) 1 3 16 (pa (A_o.map fun b => ⟨b, 0, none⟩) i_1.toNat A_c 3) encGWornPin ([x1] : List GWornPin) (pins0.drop i_1.toNat) [] (.agg #[(.int .i8 0), (.int .i8 0), (.int .i64 0)]) rfl (tl_len rfl i_1) (by kernel_rfl) (by kernel_rfl) (by kernel_rfl) encGWornPin_len encGWornPin_cell (fun _ => ⟨Nat.le_refl _, by simp⟩) (fun e => nomatch e) (fun w hm => ((hm.ow 0 A_o 147 pins0 A_sp (fun e => (A_ho e).1) encGWornPin_len).tl i_1.toNat A_c (cap_le rfl A_hs A_ho))) hg_39 (by kernel_rfl) (by kernel_rfl) (fun o_40 cap_41 sp_42 hs_43 ho_44 => kD [0, 1] (qd [⟨6, 0, 0⟩] 0 [0, 1] (qz (jx_then (jc_seq (jc_region (tO (qa 0 (fun b_45 => jkO (qh [0,0] ?_)))))))))))
   obtain ⟨hg_46, h⟩ := gd h
   refine tO (p_slH 0 (A_o.map fun b => ⟨b, 0, none⟩) pins0.length A_c 3 i_1 (by kernel_rfl) (by kernel_rfl) hg_46.1 (Int.le_trans hg_46.2 (Int.ofNat_le.2 (cap_le rfl A_hs A_ho))) (jkO ?_))
   obtain ⟨hg_47, h⟩ := gd h
   refine tO (p_apn 0 3 (some b_45) 147 0 i_1.toNat 0 3 16 (A_o.map fun b => ⟨b, 0, none⟩) encGWornPin ([] : List GWornPin) (pins0.take i_1.toNat) [] (.agg #[(.int .i8 0), (.int .i8 0), (.int .i64 0)]) rfl (hd_len hg_46) (by kernel_rfl) (by kernel_rfl) (by kernel_rfl) encGWornPin_len encGWornPin_cell (fun _ => ⟨Nat.le_refl _, by simp⟩) (fun e => nomatch e) (fun w hm => ((hm.ow 0 A_o 147 pins0 A_sp (fun e => (A_ho e).1) encGWornPin_len).hd i_1.toNat)) hg_47 (by kernel_rfl) (by kernel_rfl) (fun o_48 cap_49 sp_50 hs_51 ho_52 => jkO (qh [0] ?_)))
   obtain ⟨hg_53, h⟩ := gd h
   refine tO (p_apn 0 3 o_48 147 ((([] : List GWornPin) ++ (pins0.take i_1.toNat)).length) ((([x1] : List GWornPin) ++ (pins0.drop i_1.toNat)).length) cap_49 3 16 (o_40.map fun b => ⟨b, 0, none⟩) encGWornPin (([] : List GWornPin) ++ (pins0.take i_1.toNat)) (([x1] : List GWornPin) ++ (pins0.drop i_1.toNat)) sp_50 (.agg #[(.int .i8 0), (.int .i8 0), (.int .i64 0)]) rfl rfl (by kernel_rfl) (by kernel_rfl) (by kernel_rfl) encGWornPin_len encGWornPin_cell hs_51 ho_52 (fun w hm => (hm.ow 2 o_40 147 (([x1] : List GWornPin) ++ (pins0.drop i_1.toNat)) sp_42 (fun e => (ho_44 e).1) encGWornPin_len)) hg_53 (by kernel_rfl) (by kernel_rfl) (fun o_54 cap_55 sp_56 hs_57 ho_58 => jkO (qh [0] (qe (jx_then (jc_ret ?_))))))
   obtain rfl := Option.some.inj h
   exact qr [] (fun w hm => ⟨o_54, cap_55, sp_56, (((([] : List GWornPin) ++ (pins0.take i_1.toNat)) ++ (([x1] : List GWornPin) ++ (pins0.drop i_1.toNat))).length), rfl, hs_57, ho_58, rfl, hm.pk [0, 3]⟩)
/-! ### spec.NewPin -/
def spec_NewPin (f0 : GFrame) (w1 : GWear) (step2 : Int) (track3 : Int) : Option (GWear × Int) := (spec_l06Ok f0 w1).bind fun t_1 => (if (!t_1) = true then some ((⟨[], []⟩ : GWear), 1) else (spec_l06Place f0 step2 track3).bind fun t_2 => (if (!t_2) = true then some ((⟨[], []⟩ : GWear), 2) else (spec_l06Copy w1).bind fun t_3 => (spec_l06Find w1 step2 track3).bind fun t_4 => (if (decide (t_4 ≥ 0)) = true then (ix t_3.fPins t_4).bind fun x_5 => some ((⟨(t_3.fPins.set t_4.toNat (⟨x_5.fStep, x_5.fTrack, 0⟩ : GWornPin)), t_3.fStrokes⟩ : GWear), 0) else (spec_l06Put t_3.fPins (⟨(w8 step2), (w8 track3), 0⟩ : GWornPin)).bind fun t_6 => some ((⟨t_6, t_3.fStrokes⟩ : GWear), 0))))
theorem spec_NewPin.calls (f0 : GFrame) (w1 : GWear) (step2 : Int) (track3 : Int) (w : World) (r : GWear × Int) {C_a : Option Addr} {C_an : Nat} (C_c : Nat) (C_h : Rw w C_a 2 encGHammer f0.fHammers) (C_hn : f0.fHammers.length = C_an) {E_a : Option Addr} {E_an : Nat} (E_c : Nat) (E_h : Rw w E_a 3 encGWornPin w1.fPins) (E_hn : w1.fPins.length = E_an) {F_a : Option Addr} {F_an : Nat} (F_c : Nat) (F_h : Rw w F_a 1 encI64 w1.fStrokes) (F_hn : w1.fStrokes.length = F_an) (h : spec_NewPin f0 w1 step2 track3 = some r) :
    Calls Tryz.prog 101 #[(.agg #[(.int .i16 f0.fSteps), (.slice C_a C_an C_c)]), (.agg #[(.slice E_a E_an E_c), (.slice F_a F_an F_c)]), (.int .i64 step2), (.int .i64 track3)] w fun e w' => ∃ v, e = .returned v ∧ (∃ (o0 : Option Nat) (c0 : Nat) (s0 : List Value) (n0 : Nat), r.1.fPins.length = n0 ∧ (o0 ≠ none → n0 ≤ c0 ∧ s0.length = (c0 - n0) * 3) ∧ (o0 = none → r.1.fPins = [] ∧ c0 = 0) ∧ ∃ (o1 : Option Nat) (c1 : Nat) (s1 : List Value) (n1 : Nat), r.1.fStrokes.length = n1 ∧ (o1 ≠ none → n1 ≤ c1 ∧ s1.length = (c1 - n1) * 1) ∧ (o1 = none → r.1.fStrokes = [] ∧ c1 = 0) ∧ v = .tuple #[.agg #[.slice (o0.map fun b => ⟨b, 0, none⟩) n0 c0, .slice (o1.map fun b => ⟨b, 0, none⟩) n1 c1], (.int .i64 r.2)] ∧ Mem w [] [⟨o0, 147, row encGWornPin r.1.fPins s0⟩, ⟨o1, 2, row encI64 r.1.fStrokes s1⟩] w') := by
  subst C_hn E_hn F_hn
  rw [spec_NewPin] at h
  refine enter (args := [(.agg #[(.int .i16 f0.fSteps), (.slice C_a f0.fHammers.length C_c)]), (.agg #[(.slice E_a w1.fPins.length E_c), (.slice F_a w1.fStrokes.length F_c)]), (.int .i64 step2), (.int .i64 track3)]) Tryz.func101 rfl Tryz.ntmps101 (by kernel_rfl) (L := []) (W := []) (Mem.start w) ?_
  refine jc_seq (jc_region (tO (qa 0 (fun b_1 => jkO (tO (qa 0 (fun b_2 => jkO (tO (qa 0 (fun b_3 => jkO (qh [0] (qe (jx_then (jc_seq (jc_seq (jc_region ?_))))))))))))))))
  obtain ⟨t_1, ht_6, h⟩ := bd h
  refine tO (pc 0 (fun w hm => spec_l06Ok.calls f0 w1 w _ C_c (hm.xr C_h) rfl E_c (hm.xr E_h) rfl F_c (hm.xr F_h) rfl b_1 b_2 (hm.pass (N := [⟨some b_1, 27, [(.int .i16 f0.fSteps), (.slice C_a f0.fHammers.length C_c)]⟩, ⟨some b_2, 62, [(.slice E_a w1.fPins.length E_c), (.slice F_a w1.fStrokes.length F_c)]⟩]) [0, 1] (by kernel_rfl) (by kernel_rfl)) (hm.exApart (N := [⟨some b_1, 27, [(.int .i16 f0.fSteps), (.slice C_a f0.fHammers.length C_c)]⟩, ⟨some b_2, 62, [(.slice E_a w1.fPins.length E_c), (.slice F_a w1.fStrokes.length F_c)]⟩]) C_h (fun _ => List.not_mem_nil) [0, 1] (by kernel_rfl)) (hm.exApart (N := [⟨some b_1, 27, [(.int .i16 f0.fSteps), (.slice C_a f0.fHammers.length C_c)]⟩, ⟨some b_2, 62, [(.slice E_a w1.fPins.length E_c), (.slice F_a w1.fStrokes.length F_c)]⟩]) E_h (fun _ => List.not_mem_nil) [0, 1] (by kernel_rfl)) (hm.exApart (N := [⟨some b_1, 27, [(.int .i16 f0.fSteps), (.slice C_a f0.fHammers.length C_c)]⟩, ⟨some b_2, 62, [(.slice E_a w1.fPins.length E_c), (.slice F_a w1.fStrokes.length F_c)]⟩]) F_h (fun _ => List.not_mem_nil) [0, 1] (by kernel_rfl)) ht_6) ?_)
  rintro w v w' hm ⟨rfl, hm'⟩
  refine ⟨_, hm.appW (ps := [(0, ⟨some b_1, 27, [(.int .i16 f0.fSteps), (.slice C_a f0.fHammers.length C_c)]⟩), (1, ⟨some b_2, 62, [(.slice E_a w1.fPins.length E_c), (.slice F_a w1.fStrokes.length F_c)]⟩)]) (N := []) hm' (by kernel_rfl) (by kernel_rfl), jkO ?_⟩
  clear hm hm'
  refine qh [0] (qe (jx_then (qi h (fun h => ?_) (fun h => ?_))))
  ·refine jc_seq (jc_region (qh [0] (tO (qs 0 [2] (jkO (qh [0] (qe (jx_then (jc_ret (jx_thenr ?_))))))))))
   obtain rfl := Option.some.inj h
   exact jx_ghost 147 encGWornPin (jx_ghost 2 encI64 (qr [2] (fun w hm => ⟨none, 0, [], 0, rfl, (fun e => absurd rfl e), (fun _ => ⟨rfl, rfl⟩), none, 0, [], 0, rfl, (fun e => absurd rfl e), (fun _ => ⟨rfl, rfl⟩), rfl, hm.pk [3, 4]⟩)))
  ·refine jc_skip (jx_then (jc_seq (jc_seq (jc_region (qh [0,0] ?_)))))
   obtain ⟨t_2, ht_10, h⟩ := bd h
   refine tO (pc 0 (fun w hm => spec_l06Place.calls f0 step2 track3 w _ C_c (hm.xr C_h) rfl b_1 (hm.pass (N := [⟨some b_1, 27, [(.int .i16 f0.fSteps), (.slice C_a f0.fHammers.length C_c)]⟩]) [0] (by kernel_rfl) (by kernel_rfl)) (hm.exApart (N := [⟨some b_1, 27, [(.int .i16 f0.fSteps), (.slice C_a f0.fHammers.length C_c)]⟩]) C_h (fun _ => List.not_mem_nil) [0] (by kernel_rfl)) ht_10) ?_)
   rintro w v w' hm ⟨rfl, hm'⟩
   refine ⟨_, hm.appW (ps := [(0, ⟨some b_1, 27, [(.int .i16 f0.fSteps), (.slice C_a f0.fHammers.length C_c)]⟩)]) (N := []) hm' (by kernel_rfl) (by kernel_rfl), jkO ?_⟩
   clear hm hm'
   refine qh [0] (qe (jx_then (qi h (fun h => ?_) (fun h => ?_))))
   ·refine jc_seq (jc_region (qh [0] (tO (qs 0 [2] (jkO (qh [0] (qe (jx_then (jc_ret (jx_thenr ?_))))))))))
    obtain rfl := Option.some.inj h
    exact jx_ghost 147 encGWornPin (jx_ghost 2 encI64 (qr [2] (fun w hm => ⟨none, 0, [], 0, rfl, (fun e => absurd rfl e), (fun _ => ⟨rfl, rfl⟩), none, 0, [], 0, rfl, (fun e => absurd rfl e), (fun _ => ⟨rfl, rfl⟩), rfl, hm.pk [3, 4]⟩)))
   ·refine jc_skip (jx_then (jc_seq (jc_region ?_)))
    obtain ⟨t_3, ht_12, h⟩ := bd h
    refine tO (pc 0 (fun w hm => spec_l06Copy.calls w1 w _ E_c (hm.xr E_h) rfl F_c (hm.xr F_h) rfl b_2 (hm.pass (N := [⟨some b_2, 62, [(.slice E_a w1.fPins.length E_c), (.slice F_a w1.fStrokes.length F_c)]⟩]) [1] (by kernel_rfl) (by kernel_rfl)) (hm.exApart (N := [⟨some b_2, 62, [(.slice E_a w1.fPins.length E_c), (.slice F_a w1.fStrokes.length F_c)]⟩]) E_h (fun _ => List.not_mem_nil) [1] (by kernel_rfl)) (hm.exApart (N := [⟨some b_2, 62, [(.slice E_a w1.fPins.length E_c), (.slice F_a w1.fStrokes.length F_c)]⟩]) F_h (fun _ => List.not_mem_nil) [1] (by kernel_rfl)) ht_12) ?_)
    rintro w v w' hm ⟨o_13, cap_14, sp_15, _, rfl, hs_16, ho_17, o_18, cap_19, sp_20, _, rfl, hs_21, ho_22, rfl, hm'⟩
    refine ⟨_, hm.appW (ps := [(1, ⟨some b_2, 62, [(.slice E_a w1.fPins.length E_c), (.slice F_a w1.fStrokes.length F_c)]⟩)]) (N := [⟨o_13, 147, row encGWornPin t_3.fPins sp_15⟩, ⟨o_18, 2, row encI64 t_3.fStrokes sp_20⟩]) hm' (by kernel_rfl) (by kernel_rfl), jkO ?_⟩
    clear hm hm'
    refine tO (qa 0 (fun b_23 => jkO (tO (qs 0 [5] (jkO (qe (jx_then (jc_seq (jc_seq (jc_region (qh [0,0] ?_)))))))))))
    obtain ⟨t_4, ht_27, h⟩ := bd h
    refine tO (pc 0 (fun w hm => spec_l06Find.calls w1 step2 track3 w _ E_c (hm.xr E_h) rfl F_c (hm.xr F_h) rfl b_2 (hm.pass (N := [⟨some b_2, 62, [(.slice E_a w1.fPins.length E_c), (.slice F_a w1.fStrokes.length F_c)]⟩]) [1] (by kernel_rfl) (by kernel_rfl)) (hm.exApart (N := [⟨some b_2, 62, [(.slice E_a w1.fPins.length E_c), (.slice F_a w1.fStrokes.length F_c)]⟩]) E_h (fun _ => List.not_mem_nil) [1] (by kernel_rfl)) (hm.exApart (N := [⟨some b_2, 62, [(.slice E_a w1.fPins.length E_c), (.slice F_a w1.fStrokes.length F_c)]⟩]) F_h (fun _ => List.not_mem_nil) [1] (by kernel_rfl)) ht_27) ?_)
    rintro w v w' hm ⟨rfl, hm'⟩
    refine ⟨_, hm.appW (ps := [(1, ⟨some b_2, 62, [(.slice E_a w1.fPins.length E_c), (.slice F_a w1.fStrokes.length F_c)]⟩)]) (N := []) hm' (by kernel_rfl) (by kernel_rfl), jkO ?_⟩
    clear hm hm'
    refine qh [0] (qe (jx_then (jc_seq (jc_region (qh [0,0] (qe (jx_then (qi h (fun h => ?_) (fun h => ?_)))))))))
    ·refine jc_seq (jc_region (qh [0,5,0] ?_))
     obtain ⟨x_5, hx_29, h⟩ := bd h
     refine tO (qx 0 (o_13.map fun b => ⟨b, 0, none⟩) 3 hx_29 rfl (spo ho_17 hx_29) (jkO (qh [0] (tO (p_strO 0 3 o_13 147 encGWornPin t_3.fPins sp_15 t_4 (⟨x_5.fStep, x_5.fTrack, 0⟩ : GWornPin) 3 2 [(.int .i64 0)] (by kernel_rfl) (by kernel_rfl) (by kernel_rfl) (fun e => (ho_17 e).1) encGWornPin_len hx_29 (by kernel_rfl) (by kernel_rfl) (jkO (qe (jx_then (jc_seq (jc_region (qh [5] (tO (qs 0 [2] (jkO (qh [0] (qe (jx_then (jc_ret (jx_thenr ?_)))))))))))))))))))
     obtain rfl := Option.some.inj h
     exact qr [2] (fun w hm => ⟨o_13, cap_14, sp_15, t_3.fPins.length, (List.length_set.trans rfl), hs_16, (set_ho ho_17), o_18, cap_19, sp_20, t_3.fStrokes.length, rfl, hs_21, ho_22, rfl, hm.pk [3, 4]⟩)
    ·refine jc_skip (jx_then (jc_seq (jc_region (qh [0,5,0,0,0,0,0] ?_))))
     obtain ⟨t_6, ht_30, h⟩ := bd h
     refine tO (pc 0 (fun w hm => spec_l06Put.calls t_3.fPins (⟨(w8 step2), (w8 track3), 0⟩ : GWornPin) w _ o_13 rfl hs_16 ho_17 (hm.pass (N := [⟨o_13, 147, row encGWornPin t_3.fPins sp_15⟩]) [3] (by kernel_rfl) (by kernel_rfl)) ht_30) ?_)
     rintro w v w' hm ⟨o_31, cap_32, sp_33, _, rfl, hs_34, ho_35, rfl, hm'⟩
     refine ⟨_, hm.appW (ps := [(3, ⟨o_13, 147, row encGWornPin t_3.fPins sp_15⟩)]) (N := [⟨o_31, 147, row encGWornPin t_6 sp_33⟩]) hm' (by kernel_rfl) (by kernel_rfl), jkO ?_⟩
     clear hm hm'
     refine qh [0] (tO (qs 0 [5] (jkO (qe (jx_then (jc_seq (jc_region (qh [5] (tO (qs 0 [2] (jkO (qh [0] (qe (jx_then (jc_ret ?_)))))))))))))))
     obtain rfl := Option.some.inj h
     exact qr [2] (fun w hm => ⟨o_31, cap_32, sp_33, t_6.length, rfl, hs_34, ho_35, o_18, cap_19, sp_20, t_3.fStrokes.length, rfl, hs_21, ho_22, rfl, hm.pk [6, 4]⟩)
end

end Go.Proofs.YtolfkfjjifdmeaaGreatDoor
