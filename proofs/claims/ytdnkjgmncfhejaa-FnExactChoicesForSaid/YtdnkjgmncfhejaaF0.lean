/- Each function of the program that the laws reach: a plain function, and that the call comes to its answer if the plain function has one. Printed by a program. -/
import Derived.Test.YtdnkjgmncfhejaaProg
import Derived.Test.YtdnkjgmncfhejaaEng
namespace Go.Proofs.Ytdnkjgmncfhejaa
open Eng
set_option linter.unusedVariables false

structure GHammer where
  fPitch : Int
  fReady : Int
  deriving DecidableEq

structure GFrame where
  fSteps : Int
  fHammers : List GHammer
  deriving DecidableEq

structure GNote where
  fAt : Int
  fPitch : Int
  deriving DecidableEq

def encGHammer (x : GHammer) : List Value := [(.int .i8 x.fPitch), (.int .i8 x.fReady)]
theorem encGHammer_len (x : GHammer) : (encGHammer x).length = 2 := rfl
theorem encGHammer_cell (x : GHammer) : (encGHammer x).all isCell = true := rfl

structure GChoice where
  fAway : Bool
  fLate : Int
  fOctave : Int
  fTrack : Int
  deriving DecidableEq

def encI8 (x : Int) : List Value := [(.int .i8 x)]
theorem encI8_len (x : Int) : (encI8 x).length = 1 := rfl
theorem encI8_cell (x : Int) : (encI8 x).all isCell = true := rfl

def encGChoice (x : GChoice) : List Value := [(.bool x.fAway), (.int .i8 x.fLate), (.int .i8 x.fOctave), (.int .i8 x.fTrack)]
theorem encGChoice_len (x : GChoice) : (encGChoice x).length = 4 := rfl
theorem encGChoice_cell (x : GChoice) : (encGChoice x).all isCell = true := rfl

structure GWornPin where
  fStep : Int
  fTrack : Int
  fTurns : Int
  deriving DecidableEq

structure GWear where
  fPins : List GWornPin
  fStrokes : List Int
  deriving DecidableEq

def encGWornPin (x : GWornPin) : List Value := [(.int .i8 x.fStep), (.int .i8 x.fTrack), (.int .i64 x.fTurns)]
theorem encGWornPin_len (x : GWornPin) : (encGWornPin x).length = 3 := rfl
theorem encGWornPin_cell (x : GWornPin) : (encGWornPin x).all isCell = true := rfl

def encI64 (x : Int) : List Value := [(.int .i64 x)]
theorem encI64_len (x : Int) : (encI64 x).length = 1 := rfl
theorem encI64_cell (x : Int) : (encI64 x).all isCell = true := rfl

/-! ### laws.szHammerS -/
noncomputable def laws_szHammerS (a0 : List GHammer) (left1 : Int) : Option (Int) := (if (decide ((w64 (left1 - (a0.length : Int))) < 0)) = true then some (-1) else some (w64 (left1 - (a0.length : Int))))
set_option maxRecDepth 100000 in
theorem laws_szHammerS.calls (a0 : List GHammer) (left1 : Int) (w : World) (r : Int) (a0_a : Option Addr) (a0_an : Nat) (a0_c : Nat) (a0_h : Rw w a0_a 2 encGHammer a0) (a0_hn : a0.length = a0_an) (h : laws_szHammerS a0 left1 = some r) :
    Calls Try.prog 67 #[(.slice a0_a a0_an a0_c), (.int .i64 left1)] w fun e w' => ∃ v, e = .returned v ∧ (v = (.int .i64 r) ∧ Mem w [] [] w') := by
  subst a0_hn
  rw [laws_szHammerS] at h
  refine enter (args := [(.slice a0_a a0.length a0_c), (.int .i64 left1)]) Try.func67 rfl Try.ntmps67 (by kernel_rfl) (L := []) (W := []) (Mem.start w) ?_
  refine jc_seq ?_
  refine jc_region ?_
  refine jo_f [(0, 0)] (by kernel_rfl) ?_
  refine jo_end (by kernel_rfl) ?_
  refine jx_then ?_
  refine jc_seq ?_
  refine jc_region ?_
  refine jo_f [(0, 0), (0, 0), (0, 0), (0, 0), (0, 0)] (by kernel_rfl) ?_
  refine jo_end (by kernel_rfl) ?_
  refine jx_then ?_
  refine jc_seq ?_
  refine jc_seq ?_
  refine jc_region ?_
  refine jo_f [(0, 0), (0, 0)] (by kernel_rfl) ?_
  refine jo_end (by kernel_rfl) ?_
  refine jx_then ?_
  refine jc_cond (decide ((w64 (left1 - (a0.length : Int))) < 0)) (by kernel_rfl) (fun hc_2 => ?_) (fun hc_2 => ?_)
  · replace h := ifT hc_2 h
    refine jc_seq ?_
    refine jc_region ?_
    refine jo_f [(0, 0)] (by kernel_rfl) ?_
    refine jo_end (by kernel_rfl) ?_
    refine jx_then ?_
    refine jc_ret ?_
    refine jx_thenr ?_
    obtain rfl := Option.some.inj h
    exact jx_ret [] (.int .i64 (-1)) [] rfl (by kernel_rfl) (by kernel_rfl) (fun w hm => ⟨rfl, hm.pick [] (by kernel_rfl) (by kernel_rfl)⟩)
  · replace h := ifF hc_2 h
    refine jc_skip ?_
    refine jx_then ?_
    refine jc_seq ?_
    refine jc_region ?_
    refine jo_f [(0, 0), (0, 0)] (by kernel_rfl) ?_
    refine jo_end (by kernel_rfl) ?_
    refine jx_then ?_
    refine jc_ret ?_
    obtain rfl := Option.some.inj h
    exact jx_ret [] (.int .i64 (w64 (left1 - (a0.length : Int)))) [] rfl (by kernel_rfl) (by kernel_rfl) (fun w hm => ⟨rfl, hm.pick [] (by kernel_rfl) (by kernel_rfl)⟩)

/-! ### laws.szFrame -/
noncomputable def laws_szFrame (a0 : GFrame) (left1 : Int) : Option (Int) := (laws_szHammerS a0.fHammers left1).bind fun t_1 => (if (decide (t_1 < 0)) = true then some (-1) else some t_1)
set_option maxRecDepth 100000 in
theorem laws_szFrame.calls (a0 : GFrame) (left1 : Int) (w : World) (r : Int) (a0_fHammers_a : Option Addr) (a0_fHammers_an : Nat) (a0_fHammers_c : Nat) (a0_fHammers_h : Rw w a0_fHammers_a 2 encGHammer a0.fHammers) (a0_fHammers_hn : a0.fHammers.length = a0_fHammers_an) (h : laws_szFrame a0 left1 = some r) :
    Calls Try.prog 15 #[(.agg #[(.int .i16 a0.fSteps), (.slice a0_fHammers_a a0_fHammers_an a0_fHammers_c)]), (.int .i64 left1)] w fun e w' => ∃ v, e = .returned v ∧ (v = (.int .i64 r) ∧ Mem w [] [] w') := by
  subst a0_fHammers_hn
  rw [laws_szFrame] at h
  refine enter (args := [(.agg #[(.int .i16 a0.fSteps), (.slice a0_fHammers_a a0.fHammers.length a0_fHammers_c)]), (.int .i64 left1)]) Try.func15 rfl Try.ntmps15 (by kernel_rfl) (L := []) (W := []) (Mem.start w) ?_
  refine jc_seq ?_
  refine jc_region ?_
  refine toO (by kernel_rfl) (p_a 0 [0] (by kernel_rfl) (fun b => by kernel_rfl) (fun b_1 => jkO ?_))
  refine jo_f [(0, 0)] (by kernel_rfl) ?_
  refine jo_end (by kernel_rfl) ?_
  refine jx_then ?_
  refine jc_seq ?_
  refine jc_region ?_
  refine jo_f [(0, 0), (0, 0), (0, 0)] (by kernel_rfl) ?_
  obtain ⟨t_1, ht_2, h⟩ := bd h
  refine toO (by kernel_rfl) (p_call 0 67 #[(.slice a0_fHammers_a a0.fHammers.length a0_fHammers_c), (.int .i64 left1)] (by kernel_rfl) (by kernel_rfl) (fun w hm => laws_szHammerS.calls a0.fHammers left1 w _ a0_fHammers_a a0.fHammers.length a0_fHammers_c (hm.exRow a0_fHammers_h List.not_mem_nil) rfl ht_2) ?_)
  rintro w v w' hm ⟨rfl, hm'⟩
  refine ⟨_, hm.app hm', jkO ?_⟩
  clear hm hm'
  refine jo_f [(0, 0)] (by kernel_rfl) ?_
  refine jo_end (by kernel_rfl) ?_
  refine jx_then ?_
  refine jc_seq ?_
  refine jc_seq ?_
  refine jc_region ?_
  refine jo_f [(0, 0), (0, 0)] (by kernel_rfl) ?_
  refine jo_end (by kernel_rfl) ?_
  refine jx_then ?_
  refine jc_cond (decide (t_1 < 0)) (by kernel_rfl) (fun hc_4 => ?_) (fun hc_4 => ?_)
  · replace h := ifT hc_4 h
    refine jc_seq ?_
    refine jc_region ?_
    refine jo_f [(0, 0)] (by kernel_rfl) ?_
    refine jo_end (by kernel_rfl) ?_
    refine jx_then ?_
    refine jc_ret ?_
    refine jx_thenr ?_
    obtain rfl := Option.some.inj h
    exact jx_ret [] (.int .i64 (-1)) [] rfl (by kernel_rfl) (by kernel_rfl) (fun w hm => ⟨rfl, hm.pick [] (by kernel_rfl) (by kernel_rfl)⟩)
  · replace h := ifF hc_4 h
    refine jc_skip ?_
    refine jx_then ?_
    refine jc_seq ?_
    refine jc_region ?_
    refine jo_f [(0, 0), (0, 0)] (by kernel_rfl) ?_
    refine jo_end (by kernel_rfl) ?_
    refine jx_then ?_
    refine jc_ret ?_
    obtain rfl := Option.some.inj h
    exact jx_ret [] (.int .i64 t_1) [] rfl (by kernel_rfl) (by kernel_rfl) (fun w hm => ⟨rfl, hm.pick [] (by kernel_rfl) (by kernel_rfl)⟩)

/-! ### laws.toHammer -/
noncomputable def laws_toHammer (a0 : GHammer) : Option (GHammer) := some a0
set_option maxRecDepth 100000 in
theorem laws_toHammer.calls (a0 : GHammer) (w : World) (r : GHammer) (h : laws_toHammer a0 = some r) :
    Calls Try.prog 133 #[(.agg #[(.int .i8 a0.fPitch), (.int .i8 a0.fReady)])] w fun e w' => ∃ v, e = .returned v ∧ (v = .agg #[(.int .i8 r.fPitch), (.int .i8 r.fReady)] ∧ Mem w [] [] w') := by
  rw [laws_toHammer] at h
  refine enter (args := [(.agg #[(.int .i8 a0.fPitch), (.int .i8 a0.fReady)])]) Try.func133 rfl Try.ntmps133 (by kernel_rfl) (L := []) (W := []) (Mem.start w) ?_
  refine jc_seq ?_
  refine jc_region ?_
  refine toO (by kernel_rfl) (p_a 0 [0] (by kernel_rfl) (fun b => by kernel_rfl) (fun b_1 => jkO ?_))
  refine toO (by kernel_rfl) (p_a 0 [0] (by kernel_rfl) (fun b => by kernel_rfl) (fun b_2 => jkO ?_))
  refine jo_end (by kernel_rfl) ?_
  refine jx_then ?_
  refine jc_seq ?_
  refine jc_region ?_
  refine toO (by kernel_rfl) (p_a 0 [0] (by kernel_rfl) (fun b => by kernel_rfl) (fun b_3 => jkO ?_))
  refine jo_end (by kernel_rfl) ?_
  refine jx_then ?_
  refine jc_seq ?_
  refine jc_region ?_
  refine jo_f [(0, 0), (0, 0), (0, 0)] (by kernel_rfl) ?_
  refine toO (by kernel_rfl) (p_s 0 [2] (by kernel_rfl) (by kernel_rfl) (jkO ?_))
  refine jo_end (by kernel_rfl) ?_
  refine jx_then ?_
  refine jc_seq ?_
  refine jc_region ?_
  refine jo_f [(0, 0), (0, 0), (0, 0)] (by kernel_rfl) ?_
  refine toO (by kernel_rfl) (p_s 0 [2] (by kernel_rfl) (by kernel_rfl) (jkO ?_))
  refine jo_end (by kernel_rfl) ?_
  refine jx_then ?_
  refine jc_seq ?_
  refine jc_region ?_
  refine jo_f [(2, 0)] (by kernel_rfl) ?_
  refine toO (by kernel_rfl) (p_s 0 [1] (by kernel_rfl) (by kernel_rfl) (jkO ?_))
  refine jo_end (by kernel_rfl) ?_
  refine jx_then ?_
  refine jc_ret ?_
  obtain rfl := Option.some.inj h
  exact jx_ret [1] (.agg #[(.int .i8 a0.fPitch), (.int .i8 a0.fReady)]) [(b_2, b_2), (b_2, b_2)] rfl (by kernel_rfl) (by kernel_rfl) (fun w hm => ⟨rfl, hm.pick [] (by kernel_rfl) (by kernel_rfl)⟩)

/-! ### laws.toHammerS -/
noncomputable def laws_toHammerS.k_2 (xs_1 : List GHammer) : Option ((List GHammer)) := some xs_1
noncomputable def laws_toHammerS.l_5 (a0 : List GHammer) : ((List GHammer) × Int) → Option (((List GHammer) × Int) ⊕ ((List GHammer)))
  | (xs_3, i_4) => (if (decide (i_4 < (a0.length : Int))) = true then (ix a0 i_4).bind fun x_7 => (laws_toHammer x_7).bind fun t_8 => (ix xs_3 i_4).bind fun x_9 => some (.inl ((xs_3.set i_4.toNat t_8), (w64 (i_4 + 1)))) else some (.inr xs_3))
noncomputable def laws_toHammerS (a0 : List GHammer) : Option ((List GHammer)) := (if 0 ≤ (a0.length : Int) ∧ (a0.length : Int) ≤ 70368744177664 then (loop (laws_toHammerS.l_5 a0) ((List.replicate (a0.length : Int).toNat (⟨0, 0⟩ : GHammer)), 0)).bind fun t_6 => laws_toHammerS.k_2 t_6 else none)
set_option maxRecDepth 100000 in
theorem laws_toHammerS.calls (a0 : List GHammer) (w : World) (r : (List GHammer)) (a0_a : Option Addr) (a0_an : Nat) (a0_c : Nat) (a0_h : Rw w a0_a 2 encGHammer a0) (a0_hn : a0.length = a0_an) (h : laws_toHammerS a0 = some r) :
    Calls Try.prog 71 #[(.slice a0_a a0_an a0_c)] w fun e w' => ∃ v, e = .returned v ∧ (∃ (o0 : Option Nat) (c0 : Nat) (s0 : List Value) (n0 : Nat), r.length = n0 ∧ (o0 ≠ none → n0 ≤ c0 ∧ s0.length = (c0 - n0) * 2) ∧ (o0 = none → r = [] ∧ c0 = 0) ∧ v = .slice (o0.map fun b => ⟨b, 0, none⟩) n0 c0 ∧ Mem w [] [⟨o0, 176, row encGHammer r s0⟩] w') := by
  subst a0_hn
  rw [laws_toHammerS] at h
  refine enter (args := [(.slice a0_a a0.length a0_c)]) Try.func71 rfl Try.ntmps71 (by kernel_rfl) (L := []) (W := []) (Mem.start w) ?_
  refine jc_seq ?_
  refine jc_region ?_
  refine jo_f [(0, 0)] (by kernel_rfl) ?_
  refine jo_end (by kernel_rfl) ?_
  refine jx_then ?_
  refine jc_seq ?_
  refine jc_region ?_
  refine jo_f [(0, 0), (0, 0)] (by kernel_rfl) ?_
  obtain ⟨hg_88, h⟩ := gd h
  refine toO (by kernel_rfl) (p_mk 0 176 (a0.length : Int) 2 2 encGHammer (⟨0, 0⟩ : GHammer) (by kernel_rfl) (by kernel_rfl) hg_88.1 (by omega) (by kernel_rfl) (fun b_1 => jkO ?_))
  refine jo_f [(0, 0)] (by kernel_rfl) ?_
  refine jo_end (by kernel_rfl) ?_
  refine jx_then ?_
  refine jc_seq ?_
  refine jc_seq ?_
  refine jc_region ?_
  refine jo_f [(0, 0)] (by kernel_rfl) ?_
  refine jo_end (by kernel_rfl) ?_
  refine jx_then ?_
  refine jc_meet (fun (j : (List GHammer)) => match j with | xs_1 => laws_toHammerS.k_2 xs_1 = some r ∧ (xs_1.length = (a0.length : Int).toNat)) (fun (j : (List GHammer)) => match j with | xs_1 => [(2, [], (.slice none 0 0)), (3, [], (.slice (some ⟨b_1, 0, none⟩) ((a0.length : Int).toNat) ((a0.length : Int).toNat)))]) (fun (j : (List GHammer)) => match j with | xs_1 => [⟨(some b_1), 176, row encGHammer xs_1 []⟩]) ?_ ?_
  · refine jc_block ?_
    obtain ⟨t_6, ht_87, hr_79⟩ := bd h
    refine jc_loop (fun (s : (List GHammer) × Int) (x : Unit) => match s, x with | ⟨xs_3, i_4⟩, _ => (xs_3.length = (a0.length : Int).toNat)) (fun (s : (List GHammer) × Int) (x : Unit) => match s, x with | ⟨xs_3, i_4⟩, _ => [(0, [], (.slice a0_a a0.length a0_c)), (2, [], (.slice none 0 0)), (3, [], (.slice (some ⟨b_1, 0, none⟩) ((a0.length : Int).toNat) ((a0.length : Int).toNat))), (4, [], (.int .i64 i_4))]) (fun (s : (List GHammer) × Int) (x : Unit) => match s, x with | ⟨xs_3, i_4⟩, _ => [⟨(some b_1), 176, row encGHammer xs_3 []⟩]) ht_87 () List.length_replicate (by kernel_rfl) [0] (by kernel_rfl) (by kernel_rfl) ?_
    rintro ⟨xs_3, i_4⟩ _ y_80 hn_78 h
    rw [laws_toHammerS.l_5] at h
    refine jc_seq ?_
    refine jc_seq ?_
    refine jc_region ?_
    refine jo_f [(0, 0), (0, 0), (0, 0), (0, 0)] (by kernel_rfl) ?_
    refine jo_end (by kernel_rfl) ?_
    refine jx_then ?_
    refine jc_cond (decide (i_4 < (a0.length : Int))) (by kernel_rfl) (fun hc_82 => ?_) (fun hc_82 => ?_)
    · replace h := ifT hc_82 h
      refine jc_skip ?_
      refine jx_then ?_
      refine jc_seq ?_
      refine jc_block ?_
      refine jc_region ?_
      refine jo_f [(0, 0), (0, 0), (0, 0), (0, 0)] (by kernel_rfl) ?_
      obtain ⟨x_7, hx_83, h⟩ := bd h
      refine toO (by kernel_rfl) (p_idx 0 a0_a a0.length i_4 2 (by kernel_rfl) (by kernel_rfl) (ix_some hx_83).1 (ltn hx_83 rfl) (a0_h.sp hx_83) (jkO ?_))
      refine toO (by kernel_rfl) (p_ld 0 (aB a0_a) (aO a0_a + i_4.toNat * 2) true (encGHammer x_7) (by kernel_rfl) (by kernel_rfl) (by kernel_rfl) (fun w hm => ((hm.exRow a0_h List.not_mem_nil).at hx_83)) (jkO ?_))
      obtain ⟨t_8, ht_84, h⟩ := bd h
      refine toO (by kernel_rfl) (p_call 0 133 #[(.agg #[(.int .i8 x_7.fPitch), (.int .i8 x_7.fReady)])] (by kernel_rfl) (by kernel_rfl) (fun w hm => laws_toHammer.calls x_7 w _ ht_84) ?_)
      rintro w v w' hm ⟨rfl, hm'⟩
      refine ⟨_, hm.app hm', jkO ?_⟩
      clear hm hm'
      obtain ⟨x_9, hx_85, h⟩ := bd h
      refine toO (by kernel_rfl) (p_idx 0 (some ⟨b_1, 0, none⟩) ((a0.length : Int).toNat) i_4 2 (by kernel_rfl) (by kernel_rfl) (ix_some hx_85).1 (ltn hx_85 hn_78) rfl (jkO ?_))
      refine toO (by kernel_rfl) (p_str 0 0 b_1 176 encGHammer xs_3 [] i_4 t_8 2 0 [(.int .i8 t_8.fPitch), (.int .i8 t_8.fReady)] (by kernel_rfl) (by kernel_rfl) (by kernel_rfl) encGHammer_len hx_85 (by kernel_rfl) (by kernel_rfl) (jkO ?_))
      refine jo_end (by kernel_rfl) ?_
      refine jx_inn ?_
      refine jx_then ?_
      refine jc_region ?_
      refine jo_f [(0, 0), (0, 0), (0, 0)] (by kernel_rfl) ?_
      refine jo_end (by kernel_rfl) ?_
      exact jx_back ((xs_3.set i_4.toNat t_8), (w64 (i_4 + 1))) () (Option.some.inj h).symm (List.length_set.trans hn_78) [0] (by kernel_rfl) (by kernel_rfl) (by kernel_rfl)
    · replace h := ifF hc_82 h
      refine jc_exit ?_
      refine jx_thenx ?_
      refine jx_leave xs_3 (Option.some.inj h).symm (fun e_86 => ?_)
      subst e_86
      refine jx_ine ?_
      exact jx_meet xs_3 ⟨hr_79, hn_78⟩ (by kernel_rfl) [0] (by kernel_rfl) (by kernel_rfl)
  · rintro xs_1 ⟨h, hn_66⟩
    replace h : laws_toHammerS.k_2 xs_1 = some r := h
    rw [laws_toHammerS.k_2] at h
    refine jx_then ?_
    refine jc_seq ?_
    refine jc_region ?_
    refine jo_f [(0, 0), (0, 0)] (by kernel_rfl) ?_
    refine jo_end (by kernel_rfl) ?_
    refine jx_then ?_
    refine jc_ret ?_
    obtain rfl := Option.some.inj h
    exact jx_ret [] (.slice (some ⟨b_1, 0, none⟩) ((a0.length : Int).toNat) ((a0.length : Int).toNat)) [] rfl (by kernel_rfl) (by kernel_rfl) (fun w hm => ⟨(some b_1), ((a0.length : Int).toNat), [], ((a0.length : Int).toNat), hn_66, (fun _ => ⟨Nat.le_refl _, by simp⟩), (fun e => nomatch e), rfl, hm.pick [0] (by kernel_rfl) (by kernel_rfl)⟩)

/-! ### laws.toFrame -/
noncomputable def laws_toFrame (a0 : GFrame) : Option (GFrame) := (laws_toHammerS a0.fHammers).bind fun t_1 => some (⟨a0.fSteps, t_1⟩ : GFrame)
set_option maxRecDepth 100000 in
theorem laws_toFrame.calls (a0 : GFrame) (w : World) (r : GFrame) (a0_fHammers_a : Option Addr) (a0_fHammers_an : Nat) (a0_fHammers_c : Nat) (a0_fHammers_h : Rw w a0_fHammers_a 2 encGHammer a0.fHammers) (a0_fHammers_hn : a0.fHammers.length = a0_fHammers_an) (h : laws_toFrame a0 = some r) :
    Calls Try.prog 17 #[(.agg #[(.int .i16 a0.fSteps), (.slice a0_fHammers_a a0_fHammers_an a0_fHammers_c)])] w fun e w' => ∃ v, e = .returned v ∧ (∃ (o0 : Option Nat) (c0 : Nat) (s0 : List Value) (n0 : Nat), r.fHammers.length = n0 ∧ (o0 ≠ none → n0 ≤ c0 ∧ s0.length = (c0 - n0) * 2) ∧ (o0 = none → r.fHammers = [] ∧ c0 = 0) ∧ v = .agg #[(.int .i16 r.fSteps), .slice (o0.map fun b => ⟨b, 0, none⟩) n0 c0] ∧ Mem w [] [⟨o0, 176, row encGHammer r.fHammers s0⟩] w') := by
  subst a0_fHammers_hn
  rw [laws_toFrame] at h
  refine enter (args := [(.agg #[(.int .i16 a0.fSteps), (.slice a0_fHammers_a a0.fHammers.length a0_fHammers_c)])]) Try.func17 rfl Try.ntmps17 (by kernel_rfl) (L := []) (W := []) (Mem.start w) ?_
  refine jc_seq ?_
  refine jc_region ?_
  refine toO (by kernel_rfl) (p_a 0 [0] (by kernel_rfl) (fun b => by kernel_rfl) (fun b_1 => jkO ?_))
  refine toO (by kernel_rfl) (p_a 0 [0] (by kernel_rfl) (fun b => by kernel_rfl) (fun b_2 => jkO ?_))
  refine jo_end (by kernel_rfl) ?_
  refine jx_then ?_
  refine jc_seq ?_
  refine jc_region ?_
  refine toO (by kernel_rfl) (p_a 0 [0] (by kernel_rfl) (fun b => by kernel_rfl) (fun b_3 => jkO ?_))
  refine jo_end (by kernel_rfl) ?_
  refine jx_then ?_
  refine jc_seq ?_
  refine jc_region ?_
  refine jo_f [(0, 0), (0, 0), (0, 0)] (by kernel_rfl) ?_
  refine toO (by kernel_rfl) (p_s 0 [2] (by kernel_rfl) (by kernel_rfl) (jkO ?_))
  refine jo_end (by kernel_rfl) ?_
  refine jx_then ?_
  refine jc_seq ?_
  refine jc_region ?_
  refine jo_f [(0, 0), (0, 0)] (by kernel_rfl) ?_
  obtain ⟨t_1, ht_4, h⟩ := bd h
  refine toO (by kernel_rfl) (p_call 0 71 #[(.slice a0_fHammers_a a0.fHammers.length a0_fHammers_c)] (by kernel_rfl) (by kernel_rfl) (fun w hm => laws_toHammerS.calls a0.fHammers w _ a0_fHammers_a a0.fHammers.length a0_fHammers_c (hm.exRow a0_fHammers_h List.not_mem_nil) rfl ht_4) ?_)
  rintro w v w' hm ⟨o_5, cap_6, sp_7, _, rfl, hs_8, ho_9, rfl, hm'⟩
  refine ⟨_, hm.app hm', jkO ?_⟩
  clear hm hm'
  refine jo_f [(0, 0)] (by kernel_rfl) ?_
  refine toO (by kernel_rfl) (p_s 0 [2] (by kernel_rfl) (by kernel_rfl) (jkO ?_))
  refine jo_end (by kernel_rfl) ?_
  refine jx_then ?_
  refine jc_seq ?_
  refine jc_region ?_
  refine jo_f [(2, 0)] (by kernel_rfl) ?_
  refine toO (by kernel_rfl) (p_s 0 [1] (by kernel_rfl) (by kernel_rfl) (jkO ?_))
  refine jo_end (by kernel_rfl) ?_
  refine jx_then ?_
  refine jc_ret ?_
  obtain rfl := Option.some.inj h
  exact jx_ret [1] (.agg #[(.int .i16 a0.fSteps), (.slice (o_5.map fun b => ⟨b, 0, none⟩) t_1.length cap_6)]) [(b_2, b_2), (b_2, b_2)] rfl (by kernel_rfl) (by kernel_rfl) (fun w hm => ⟨o_5, cap_6, sp_7, t_1.length, rfl, hs_8, ho_9, rfl, hm.pick [3] (by kernel_rfl) (by kernel_rfl)⟩)

/-! ### laws.toNote -/
noncomputable def laws_toNote (a0 : GNote) : Option (GNote) := some a0
set_option maxRecDepth 100000 in
theorem laws_toNote.calls (a0 : GNote) (w : World) (r : GNote) (h : laws_toNote a0 = some r) :
    Calls Try.prog 18 #[(.agg #[(.int .i16 a0.fAt), (.int .i8 a0.fPitch)])] w fun e w' => ∃ v, e = .returned v ∧ (v = .agg #[(.int .i16 r.fAt), (.int .i8 r.fPitch)] ∧ Mem w [] [] w') := by
  rw [laws_toNote] at h
  refine enter (args := [(.agg #[(.int .i16 a0.fAt), (.int .i8 a0.fPitch)])]) Try.func18 rfl Try.ntmps18 (by kernel_rfl) (L := []) (W := []) (Mem.start w) ?_
  refine jc_seq ?_
  refine jc_region ?_
  refine toO (by kernel_rfl) (p_a 0 [0] (by kernel_rfl) (fun b => by kernel_rfl) (fun b_1 => jkO ?_))
  refine toO (by kernel_rfl) (p_a 0 [0] (by kernel_rfl) (fun b => by kernel_rfl) (fun b_2 => jkO ?_))
  refine jo_end (by kernel_rfl) ?_
  refine jx_then ?_
  refine jc_seq ?_
  refine jc_region ?_
  refine toO (by kernel_rfl) (p_a 0 [0] (by kernel_rfl) (fun b => by kernel_rfl) (fun b_3 => jkO ?_))
  refine jo_end (by kernel_rfl) ?_
  refine jx_then ?_
  refine jc_seq ?_
  refine jc_region ?_
  refine jo_f [(0, 0), (0, 0), (0, 0)] (by kernel_rfl) ?_
  refine toO (by kernel_rfl) (p_s 0 [2] (by kernel_rfl) (by kernel_rfl) (jkO ?_))
  refine jo_end (by kernel_rfl) ?_
  refine jx_then ?_
  refine jc_seq ?_
  refine jc_region ?_
  refine jo_f [(0, 0), (0, 0), (0, 0)] (by kernel_rfl) ?_
  refine toO (by kernel_rfl) (p_s 0 [2] (by kernel_rfl) (by kernel_rfl) (jkO ?_))
  refine jo_end (by kernel_rfl) ?_
  refine jx_then ?_
  refine jc_seq ?_
  refine jc_region ?_
  refine jo_f [(2, 0)] (by kernel_rfl) ?_
  refine toO (by kernel_rfl) (p_s 0 [1] (by kernel_rfl) (by kernel_rfl) (jkO ?_))
  refine jo_end (by kernel_rfl) ?_
  refine jx_then ?_
  refine jc_ret ?_
  obtain rfl := Option.some.inj h
  exact jx_ret [1] (.agg #[(.int .i16 a0.fAt), (.int .i8 a0.fPitch)]) [(b_2, b_2), (b_2, b_2)] rfl (by kernel_rfl) (by kernel_rfl) (fun w hm => ⟨rfl, hm.pick [] (by kernel_rfl) (by kernel_rfl)⟩)

/-! ### spec.l00In -/
noncomputable def spec_l00In (n0 : Int) (low1 : Int) (high2 : Int) : Option (Bool) := some ((decide (n0 ≥ low1)) && (decide (n0 ≤ high2)))
set_option maxRecDepth 100000 in
theorem spec_l00In.calls (n0 : Int) (low1 : Int) (high2 : Int) (w : World) (r : Bool) (h : spec_l00In n0 low1 high2 = some r) :
    Calls Try.prog 104 #[(.int .i64 n0), (.int .i64 low1), (.int .i64 high2)] w fun e w' => ∃ v, e = .returned v ∧ (v = (.bool r) ∧ Mem w [] [] w') := by
  rw [spec_l00In] at h
  refine enter (args := [(.int .i64 n0), (.int .i64 low1), (.int .i64 high2)]) Try.func104 rfl Try.ntmps104 (by kernel_rfl) (L := []) (W := []) (Mem.start w) ?_
  refine jc_seq ?_
  refine jc_region ?_
  refine jo_f [(0, 0)] (by kernel_rfl) ?_
  refine jo_end (by kernel_rfl) ?_
  refine jx_then ?_
  refine jc_seq ?_
  refine jc_region ?_
  refine jo_f [(0, 0), (0, 0), (0, 0), (0, 0), (0, 1), (0, 1), (0, 1), (0, 0), (0, 0)] (by kernel_rfl) ?_
  refine jo_end (by kernel_rfl) ?_
  refine jx_then ?_
  refine jc_ret ?_
  obtain rfl := Option.some.inj h
  exact jx_ret [] (.bool ((decide (n0 ≥ low1)) && (decide (n0 ≤ high2)))) [] rfl (by kernel_rfl) (by kernel_rfl) (fun w hm => ⟨rfl, hm.pick [] (by kernel_rfl) (by kernel_rfl)⟩)

/-! ### spec.l00Min -/
noncomputable def spec_l00Min (a0 : Int) (b1 : Int) : Option (Int) := (if (decide (a0 < b1)) = true then some a0 else some b1)
set_option maxRecDepth 100000 in
theorem spec_l00Min.calls (a0 : Int) (b1 : Int) (w : World) (r : Int) (h : spec_l00Min a0 b1 = some r) :
    Calls Try.prog 131 #[(.int .i64 a0), (.int .i64 b1)] w fun e w' => ∃ v, e = .returned v ∧ (v = (.int .i64 r) ∧ Mem w [] [] w') := by
  rw [spec_l00Min] at h
  refine enter (args := [(.int .i64 a0), (.int .i64 b1)]) Try.func131 rfl Try.ntmps131 (by kernel_rfl) (L := []) (W := []) (Mem.start w) ?_
  refine jc_seq ?_
  refine jc_region ?_
  refine jo_f [(0, 0)] (by kernel_rfl) ?_
  refine jo_end (by kernel_rfl) ?_
  refine jx_then ?_
  refine jc_seq ?_
  refine jc_seq ?_
  refine jc_region ?_
  refine jo_f [(0, 0), (0, 0), (0, 0)] (by kernel_rfl) ?_
  refine jo_end (by kernel_rfl) ?_
  refine jx_then ?_
  refine jc_cond (decide (a0 < b1)) (by kernel_rfl) (fun hc_2 => ?_) (fun hc_2 => ?_)
  · replace h := ifT hc_2 h
    refine jc_seq ?_
    refine jc_region ?_
    refine jo_f [(0, 0), (0, 0)] (by kernel_rfl) ?_
    refine jo_end (by kernel_rfl) ?_
    refine jx_then ?_
    refine jc_ret ?_
    refine jx_thenr ?_
    obtain rfl := Option.some.inj h
    exact jx_ret [] (.int .i64 a0) [] rfl (by kernel_rfl) (by kernel_rfl) (fun w hm => ⟨rfl, hm.pick [] (by kernel_rfl) (by kernel_rfl)⟩)
  · replace h := ifF hc_2 h
    refine jc_skip ?_
    refine jx_then ?_
    refine jc_seq ?_
    refine jc_region ?_
    refine jo_f [(0, 0), (0, 0)] (by kernel_rfl) ?_
    refine jo_end (by kernel_rfl) ?_
    refine jx_then ?_
    refine jc_ret ?_
    obtain rfl := Option.some.inj h
    exact jx_ret [] (.int .i64 b1) [] rfl (by kernel_rfl) (by kernel_rfl) (fun w hm => ⟨rfl, hm.pick [] (by kernel_rfl) (by kernel_rfl)⟩)

/-! ### spec.l02Frame -/
noncomputable def spec_l02Frame.k_3 : Option (Bool) := some true
noncomputable def spec_l02Frame.k_9 (i_4 : Int) (q_8 : Bool) : Option ((Int) ⊕ (Bool ⊕ Unit)) := (if q_8 = true then some (.inr (.inl false)) else some (.inl (w64 (i_4 + 1))))
noncomputable def spec_l02Frame.l_5 (f0 : GFrame) : Int → Option ((Int) ⊕ (Bool ⊕ Unit))
  | i_4 => (if (decide (i_4 < (f0.fHammers.length : Int))) = true then (ix f0.fHammers i_4).bind fun x_7 => (spec_l00In (w64 x_7.fPitch) 0 47).bind fun t_10 => (if (!t_10) = true then spec_l02Frame.k_9 i_4 true else (spec_l00Min 20 (w64 f0.fSteps)).bind fun t_11 => (spec_l00In (w64 x_7.fReady) 1 t_11).bind fun t_12 => spec_l02Frame.k_9 i_4 (!t_12)) else some (.inr (.inr ())))
noncomputable def spec_l02Frame.k_2 (f0 : GFrame) (q_1 : Bool) : Option (Bool) := (if q_1 = true then some false else (loop (spec_l02Frame.l_5 f0) 0).bind fun t_6 => match t_6 with | .inl p => some p | .inr p => spec_l02Frame.k_3)
noncomputable def spec_l02Frame (f0 : GFrame) : Option (Bool) := (spec_l00In (w64 f0.fSteps) 2 96).bind fun t_13 => (if (!t_13) = true then spec_l02Frame.k_2 f0 true else (spec_l00In (f0.fHammers.length : Int) 1 24).bind fun t_14 => spec_l02Frame.k_2 f0 (!t_14))
set_option maxRecDepth 100000 in
theorem spec_l02Frame.calls (f0 : GFrame) (w : World) (r : Bool) (f0_fHammers_a : Option Addr) (f0_fHammers_an : Nat) (f0_fHammers_c : Nat) (f0_fHammers_h : Rw w f0_fHammers_a 2 encGHammer f0.fHammers) (f0_fHammers_hn : f0.fHammers.length = f0_fHammers_an) (f0_b : Nat) (hm0 : Mem w (bs [some f0_b]) [⟨some f0_b, 35, [(.int .i16 f0.fSteps), (.slice f0_fHammers_a f0_fHammers_an f0_fHammers_c)]⟩] w) (f0_fHammers_ha : f0.fHammers ≠ [] → aB f0_fHammers_a ∉ bs [some f0_b]) (h : spec_l02Frame f0 = some r) :
    Calls Try.prog 68 #[(.pointer (some ⟨f0_b, 0, none⟩))] w fun e w' => ∃ v, e = .returned v ∧ (v = (.bool r) ∧ Mem w (bs [some f0_b]) [⟨some f0_b, 35, [(.int .i16 f0.fSteps), (.slice f0_fHammers_a f0_fHammers_an f0_fHammers_c)]⟩] w') := by
  subst f0_fHammers_hn
  rw [spec_l02Frame] at h
  refine enter (args := [(.pointer (some ⟨f0_b, 0, none⟩))]) Try.func68 rfl Try.ntmps68 (by kernel_rfl) (L := [⟨some f0_b, 35, [(.int .i16 f0.fSteps), (.slice f0_fHammers_a f0.fHammers.length f0_fHammers_c)]⟩]) (W := bs [some f0_b]) hm0 ?_
  refine jc_seq ?_
  refine jc_region ?_
  refine jo_f [(0, 0)] (by kernel_rfl) ?_
  refine jo_end (by kernel_rfl) ?_
  refine jx_then ?_
  refine jc_seq ?_
  refine jc_seq ?_
  refine jc_meet (fun (j : Bool) => match j with | q_1 => spec_l02Frame.k_2 f0 q_1 = some r) (fun (j : Bool) => match j with | q_1 => [(0, [], (.pointer (some ⟨f0_b, 0, none⟩))), (2, [], (.bool false)), (20, [], (.bool q_1))]) (fun (j : Bool) => match j with | q_1 => [⟨some f0_b, 35, [(.int .i16 f0.fSteps), (.slice f0_fHammers_a f0.fHammers.length f0_fHammers_c)]⟩]) ?_ ?_
  · refine jc_region ?_
    refine jo_f [(0, 0), (0, 0), (0, 0), (0, 0), (0, 0)] (by kernel_rfl) ?_
    obtain ⟨t_13, ht_100, h⟩ := bd h
    refine toO (by kernel_rfl) (p_call 0 104 #[(.int .i64 (w64 f0.fSteps)), (.int .i64 2), (.int .i64 96)] (by kernel_rfl) (by kernel_rfl) (fun w hm => spec_l00In.calls (w64 f0.fSteps) 2 96 w _ ht_100) ?_)
    rintro w v w' hm ⟨rfl, hm'⟩
    refine ⟨_, hm.app hm', jkO ?_⟩
    clear hm hm'
    refine jo_f [(0, 0), (0, 0), (0, 1), (0, 1), (0, 1), (0, 1), (0, 1)] (by kernel_rfl) ?_
    refine jo_split 12 (!t_13) (by kernel_rfl) (fun hc_101 => ?_) (fun hc_101 => ?_)
    · replace h := ifT hc_101 h
      refine jo_f [(0, 3), (0, 3), (0, 4)] (by kernel_rfl) ?_
      refine jo_end (by kernel_rfl) ?_
      exact jx_meet true h (by kernel_rfl) [0] (by kernel_rfl) (by kernel_rfl)
    · replace h := ifF hc_101 h
      obtain ⟨t_14, ht_102, h⟩ := bd h
      refine toO (by kernel_rfl) (p_call 2 104 #[(.int .i64 (f0.fHammers.length : Int)), (.int .i64 1), (.int .i64 24)] (by kernel_rfl) (by kernel_rfl) (fun w hm => spec_l00In.calls (f0.fHammers.length : Int) 1 24 w _ ht_102) ?_)
      rintro w v w' hm ⟨rfl, hm'⟩
      refine ⟨_, hm.app hm', jkO ?_⟩
      clear hm hm'
      refine jo_f [(0, 2), (0, 5)] (by kernel_rfl) ?_
      refine jo_end (by kernel_rfl) ?_
      exact jx_meet (!t_14) h (by kernel_rfl) [0] (by kernel_rfl) (by kernel_rfl)
  · rintro q_1 h
    replace h : spec_l02Frame.k_2 f0 q_1 = some r := h
    rw [spec_l02Frame.k_2] at h
    refine jx_then ?_
    refine jc_cond q_1 (by kernel_rfl) (fun hc_11 => ?_) (fun hc_11 => ?_)
    · replace h := ifT hc_11 h
      refine jc_seq ?_
      refine jc_region ?_
      refine jo_f [(0, 0)] (by kernel_rfl) ?_
      refine jo_end (by kernel_rfl) ?_
      refine jx_then ?_
      refine jc_ret ?_
      refine jx_thenr ?_
      obtain rfl := Option.some.inj h
      exact jx_ret [] (.bool false) [] rfl (by kernel_rfl) (by kernel_rfl) (fun w hm => ⟨rfl, hm.pick [0] (by kernel_rfl) (by kernel_rfl)⟩)
    · replace h := ifF hc_11 h
      refine jc_skip ?_
      refine jx_then ?_
      refine jc_seq ?_
      refine jc_seq ?_
      refine jc_region ?_
      refine jo_f [(0, 0)] (by kernel_rfl) ?_
      refine jo_end (by kernel_rfl) ?_
      refine jx_then ?_
      refine jc_meet (fun (_ : Unit) => spec_l02Frame.k_3 = some r) (fun (_ : Unit) => [(2, [], (.bool false))]) (fun (_ : Unit) => [⟨some f0_b, 35, [(.int .i16 f0.fSteps), (.slice f0_fHammers_a f0.fHammers.length f0_fHammers_c)]⟩]) ?_ ?_
      · refine jc_block ?_
        obtain ⟨t_6, ht_99, hr_82⟩ := bd h
        refine jc_loop (fun (s : Int) (x : Unit) => match s, x with | i_4, _ => True) (fun (s : Int) (x : Unit) => match s, x with | i_4, _ => [(0, [], (.pointer (some ⟨f0_b, 0, none⟩))), (2, [], (.bool false)), (3, [], (.int .i64 i_4))]) (fun (s : Int) (x : Unit) => match s, x with | i_4, _ => [⟨some f0_b, 35, [(.int .i16 f0.fSteps), (.slice f0_fHammers_a f0.fHammers.length f0_fHammers_c)]⟩]) ht_99 () trivial (by kernel_rfl) [0] (by kernel_rfl) (by kernel_rfl) ?_
        rintro i_4 _ y_83 _ h
        rw [spec_l02Frame.l_5] at h
        refine jc_seq ?_
        refine jc_seq ?_
        refine jc_region ?_
        refine jo_f [(0, 0), (0, 0), (0, 0), (0, 0), (0, 0), (0, 0), (0, 0)] (by kernel_rfl) ?_
        refine jo_end (by kernel_rfl) ?_
        refine jx_then ?_
        refine jc_cond (decide (i_4 < (f0.fHammers.length : Int))) (by kernel_rfl) (fun hc_85 => ?_) (fun hc_85 => ?_)
        · replace h := ifT hc_85 h
          refine jc_skip ?_
          refine jx_then ?_
          refine jc_seq ?_
          refine jc_block ?_
          refine jc_seq ?_
          refine jc_region ?_
          refine jo_f [(0, 0), (0, 0), (0, 0), (0, 0), (0, 0)] (by kernel_rfl) ?_
          obtain ⟨x_7, hx_86, h⟩ := bd h
          refine toO (by kernel_rfl) (p_idx 0 f0_fHammers_a f0.fHammers.length i_4 2 (by kernel_rfl) (by kernel_rfl) (ix_some hx_86).1 (ltn hx_86 rfl) (f0_fHammers_h.sp hx_86) (jkO ?_))
          refine toO (by kernel_rfl) (p_ld 0 (aB f0_fHammers_a) (aO f0_fHammers_a + i_4.toNat * 2) true (encGHammer x_7) (by kernel_rfl) (by kernel_rfl) (by kernel_rfl) (fun w hm => ((hm.exRowW f0_fHammers_h f0_fHammers_ha).at hx_86)) (jkO ?_))
          refine toO (by kernel_rfl) (p_a 0 [0] (by kernel_rfl) (fun b => by kernel_rfl) (fun b_87 => jkO ?_))
          refine toO (by kernel_rfl) (p_s 0 [1] (by kernel_rfl) (by kernel_rfl) (jkO ?_))
          refine jo_end (by kernel_rfl) ?_
          refine jx_then ?_
          refine jc_seq ?_
          refine jc_meet (fun (j : Bool) => match j with | q_8 => spec_l02Frame.k_9 i_4 q_8 = some y_83) (fun (j : Bool) => match j with | q_8 => [(0, [], (.pointer (some ⟨f0_b, 0, none⟩))), (2, [], (.bool false)), (3, [], (.int .i64 i_4)), (54, [], (.bool q_8))]) (fun (j : Bool) => match j with | q_8 => [⟨some f0_b, 35, [(.int .i16 f0.fSteps), (.slice f0_fHammers_a f0.fHammers.length f0_fHammers_c)]⟩, ⟨some b_87, 176, [(.int .i8 x_7.fPitch), (.int .i8 x_7.fReady)]⟩]) ?_ ?_
          · refine jc_draw [⟨some f0_b, 35, [(.int .i16 f0.fSteps), (.slice f0_fHammers_a f0.fHammers.length f0_fHammers_c)]⟩, ⟨some b_87, 176, [(.int .i8 x_7.fPitch), (.int .i8 x_7.fReady)]⟩] 18 (by kernel_rfl) (by kernel_rfl) ?_
            refine jd_f [⟨0, 0, 0⟩, ⟨1, 1, 0⟩, ⟨2, 0, 0⟩] 15 (by kernel_rfl) (by kernel_rfl) (fun w h => h.pick [0, 1] (by kernel_rfl) (by kernel_rfl)) (by kernel_rfl) (by kernel_rfl) ?_
            obtain ⟨t_10, ht_94, h⟩ := bd h
            refine toD 3 (by kernel_rfl) (p_call 0 104 #[(.int .i64 (w64 x_7.fPitch)), (.int .i64 0), (.int .i64 47)] (by kernel_rfl) (by kernel_rfl) (fun w hm => spec_l00In.calls (w64 x_7.fPitch) 0 47 w _ ht_94) ?_)
            rintro w v w' hm ⟨rfl, hm'⟩
            refine ⟨_, hm.app hm', jkD (fun w h => h.pick [0, 1] (by kernel_rfl) (by kernel_rfl)) ?_⟩
            clear hm hm'
            refine jd_f [⟨4, 0, 0⟩, ⟨5, 0, 0⟩, ⟨6, 0, 1⟩, ⟨7, 1, 1⟩, ⟨8, 0, 1⟩, ⟨9, 0, 1⟩, ⟨10, 0, 1⟩, ⟨11, 0, 1⟩, ⟨12, 0, 1⟩, ⟨13, 0, 1⟩] 4 (by kernel_rfl) (by kernel_rfl) (fun w h => h.pick [0, 1] (by kernel_rfl) (by kernel_rfl)) (by kernel_rfl) (by kernel_rfl) ?_
            refine jd_split 42 (!t_10) (by kernel_rfl) (fun hc_95 => ?_) (fun hc_95 => ?_)
            · replace h := ifT hc_95 h
              refine jd_f [⟨14, 0, 3⟩, ⟨15, 0, 3⟩, ⟨16, 0, 3⟩, ⟨17, 0, 4⟩] 0 (by kernel_rfl) (by kernel_rfl) (fun w h => h.pick [0, 1] (by kernel_rfl) (by kernel_rfl)) (by kernel_rfl) (by kernel_rfl) ?_
              refine jd_end (by kernel_rfl) ?_
              exact jx_meet true h (by kernel_rfl) [0, 1] (by kernel_rfl) (by kernel_rfl)
            · replace h := ifF hc_95 h
              obtain ⟨t_11, ht_96, h⟩ := bd h
              refine toD 14 (by kernel_rfl) (p_call 2 131 #[(.int .i64 20), (.int .i64 (w64 f0.fSteps))] (by kernel_rfl) (by kernel_rfl) (fun w hm => spec_l00Min.calls 20 (w64 f0.fSteps) w _ ht_96) ?_)
              rintro w v w' hm ⟨rfl, hm'⟩
              refine ⟨_, hm.app hm', jkD (fun w h => h.pick [0, 1] (by kernel_rfl) (by kernel_rfl)) ?_⟩
              clear hm hm'
              obtain ⟨t_12, ht_97, h⟩ := bd h
              refine toD 15 (by kernel_rfl) (p_call 2 104 #[(.int .i64 (w64 x_7.fReady)), (.int .i64 1), (.int .i64 t_11)] (by kernel_rfl) (by kernel_rfl) (fun w hm => spec_l00In.calls (w64 x_7.fReady) 1 t_11 w _ ht_97) ?_)
              rintro w v w' hm ⟨rfl, hm'⟩
              refine ⟨_, hm.app hm', jkD (fun w h => h.pick [0, 1] (by kernel_rfl) (by kernel_rfl)) ?_⟩
              clear hm hm'
              refine jd_f [⟨16, 0, 2⟩, ⟨17, 0, 5⟩] 0 (by kernel_rfl) (by kernel_rfl) (fun w h => h.pick [0, 1] (by kernel_rfl) (by kernel_rfl)) (by kernel_rfl) (by kernel_rfl) ?_
              refine jd_end (by kernel_rfl) ?_
              exact jx_meet (!t_12) h (by kernel_rfl) [0, 1] (by kernel_rfl) (by kernel_rfl)
          · rintro q_8 h
            replace h : spec_l02Frame.k_9 i_4 q_8 = some y_83 := h
            rw [spec_l02Frame.k_9] at h
            refine jx_then ?_
            refine jc_cond q_8 (by kernel_rfl) (fun hc_92 => ?_) (fun hc_92 => ?_)
            · replace h := ifT hc_92 h
              refine jc_seq ?_
              refine jc_region ?_
              refine jo_f [(0, 0)] (by kernel_rfl) ?_
              refine jo_end (by kernel_rfl) ?_
              refine jx_then ?_
              refine jc_ret ?_
              refine jx_inr ?_
              refine jx_thenr ?_
              refine jx_leaver (.inl false) (Option.some.inj h).symm (fun e_93 => ?_)
              subst e_93
              refine jx_inr ?_
              refine jx_thenr ?_
              refine jx_thenr ?_
              obtain rfl := Option.some.inj hr_82
              exact jx_ret [] (.bool false) [] rfl (by kernel_rfl) (by kernel_rfl) (fun w hm => ⟨rfl, hm.pick [0] (by kernel_rfl) (by kernel_rfl)⟩)
            · replace h := ifF hc_92 h
              refine jc_skip ?_
              refine jx_inn ?_
              refine jx_then ?_
              refine jc_region ?_
              refine jo_f [(0, 0), (0, 0), (0, 0)] (by kernel_rfl) ?_
              refine jo_end (by kernel_rfl) ?_
              exact jx_back (w64 (i_4 + 1)) () (Option.some.inj h).symm trivial [0] (by kernel_rfl) (by kernel_rfl) (by kernel_rfl)
        · replace h := ifF hc_85 h
          refine jc_exit ?_
          refine jx_thenx ?_
          refine jx_leave (.inr ()) (Option.some.inj h).symm (fun e_98 => ?_)
          subst e_98
          refine jx_ine ?_
          exact jx_meet () hr_82 (by kernel_rfl) [0] (by kernel_rfl) (by kernel_rfl)
      · rintro _ h
        replace h : spec_l02Frame.k_3 = some r := h
        rw [spec_l02Frame.k_3] at h
        refine jx_then ?_
        refine jc_seq ?_
        refine jc_region ?_
        refine jo_f [(0, 0)] (by kernel_rfl) ?_
        refine jo_end (by kernel_rfl) ?_
        refine jx_then ?_
        refine jc_ret ?_
        obtain rfl := Option.some.inj h
        exact jx_ret [] (.bool true) [] rfl (by kernel_rfl) (by kernel_rfl) (fun w hm => ⟨rfl, hm.pick [0] (by kernel_rfl) (by kernel_rfl)⟩)

/-! ### spec.l01Note -/
noncomputable def spec_l01Note (n0 : GNote) : Option (Bool) := (spec_l00In (w64 n0.fAt) 0 199).bind fun t_1 => (if t_1 = true then (spec_l00In (w64 n0.fPitch) 0 47).bind fun t_2 => some t_2 else some false)
set_option maxRecDepth 100000 in
theorem spec_l01Note.calls (n0 : GNote) (w : World) (r : Bool) (h : spec_l01Note n0 = some r) :
    Calls Try.prog 69 #[(.agg #[(.int .i16 n0.fAt), (.int .i8 n0.fPitch)])] w fun e w' => ∃ v, e = .returned v ∧ (v = (.bool r) ∧ Mem w [] [] w') := by
  rw [spec_l01Note] at h
  refine enter (args := [(.agg #[(.int .i16 n0.fAt), (.int .i8 n0.fPitch)])]) Try.func69 rfl Try.ntmps69 (by kernel_rfl) (L := []) (W := []) (Mem.start w) ?_
  refine jc_seq ?_
  refine jc_region ?_
  refine toO (by kernel_rfl) (p_a 0 [0] (by kernel_rfl) (fun b => by kernel_rfl) (fun b_1 => jkO ?_))
  refine jo_f [(0, 0)] (by kernel_rfl) ?_
  refine jo_end (by kernel_rfl) ?_
  refine jx_then ?_
  refine jc_seq ?_
  refine jc_region ?_
  refine jo_f [(0, 0), (0, 0), (0, 0)] (by kernel_rfl) ?_
  obtain ⟨t_1, ht_2, h⟩ := bd h
  refine toO (by kernel_rfl) (p_call 0 104 #[(.int .i64 (w64 n0.fAt)), (.int .i64 0), (.int .i64 199)] (by kernel_rfl) (by kernel_rfl) (fun w hm => spec_l00In.calls (w64 n0.fAt) 0 199 w _ ht_2) ?_)
  rintro w v w' hm ⟨rfl, hm'⟩
  refine ⟨_, hm.app hm', jkO ?_⟩
  clear hm hm'
  refine jo_f [(0, 0), (0, 1), (0, 1), (0, 1)] (by kernel_rfl) ?_
  refine jo_split 7 t_1 (by kernel_rfl) (fun hc_3 => ?_) (fun hc_3 => ?_)
  · replace h := ifT hc_3 h
    obtain ⟨t_2, ht_4, h⟩ := bd h
    refine toO (by kernel_rfl) (p_call 2 104 #[(.int .i64 (w64 n0.fPitch)), (.int .i64 0), (.int .i64 47)] (by kernel_rfl) (by kernel_rfl) (fun w hm => spec_l00In.calls (w64 n0.fPitch) 0 47 w _ ht_4) ?_)
    rintro w v w' hm ⟨rfl, hm'⟩
    refine ⟨_, hm.app hm', jkO ?_⟩
    clear hm hm'
    refine jo_f [(0, 4), (0, 0)] (by kernel_rfl) ?_
    refine jo_end (by kernel_rfl) ?_
    refine jx_then ?_
    refine jc_ret ?_
    obtain rfl := Option.some.inj h
    exact jx_ret [] (.bool t_2) [] rfl (by kernel_rfl) (by kernel_rfl) (fun w hm => ⟨rfl, hm.pick [] (by kernel_rfl) (by kernel_rfl)⟩)
  · replace h := ifF hc_3 h
    refine jo_f [(0, 3), (0, 5), (0, 0)] (by kernel_rfl) ?_
    refine jo_end (by kernel_rfl) ?_
    refine jx_then ?_
    refine jc_ret ?_
    obtain rfl := Option.some.inj h
    exact jx_ret [] (.bool false) [] rfl (by kernel_rfl) (by kernel_rfl) (fun w hm => ⟨rfl, hm.pick [] (by kernel_rfl) (by kernel_rfl)⟩)

/-! ### spec.l07Signed -/
noncomputable def spec_l07Signed.k_2 (xs_1 : List Int) : Option ((List Int)) := some xs_1
noncomputable def spec_l07Signed.l_5 (most0 : Int) : ((List Int) × Int) → Option (((List Int) × Int) ⊕ ((List Int)))
  | (xs_3, i_4) => (if (decide (i_4 ≤ most0)) = true then (if xs_3.length + [(w8 (0 - i_4)), i_4].length ≤ 4294967296 then some (.inl ((xs_3 ++ [(w8 (0 - i_4)), i_4]), (w8 (i_4 + 1)))) else none) else some (.inr xs_3))
noncomputable def spec_l07Signed (most0 : Int) : Option ((List Int)) := (loop (spec_l07Signed.l_5 most0) ([0], 1)).bind fun t_6 => spec_l07Signed.k_2 t_6
set_option maxRecDepth 100000 in
theorem spec_l07Signed.calls (most0 : Int) (w : World) (r : (List Int)) (h : spec_l07Signed most0 = some r) :
    Calls Try.prog 132 #[(.int .i8 most0)] w fun e w' => ∃ v, e = .returned v ∧ (∃ (o0 : Option Nat) (c0 : Nat) (s0 : List Value) (n0 : Nat), r.length = n0 ∧ (o0 ≠ none → n0 ≤ c0 ∧ s0.length = (c0 - n0) * 1) ∧ (o0 = none → r = [] ∧ c0 = 0) ∧ v = .slice (o0.map fun b => ⟨b, 0, none⟩) n0 c0 ∧ Mem w [] [⟨o0, 26, row encI8 r s0⟩] w') := by
  rw [spec_l07Signed] at h
  refine enter (args := [(.int .i8 most0)]) Try.func132 rfl Try.ntmps132 (by kernel_rfl) (L := []) (W := []) (Mem.start w) ?_
  refine jc_seq ?_
  refine jc_region ?_
  refine jo_f [(0, 0)] (by kernel_rfl) ?_
  refine jo_end (by kernel_rfl) ?_
  refine jx_then ?_
  refine jc_seq ?_
  refine jc_region ?_
  refine toO (by kernel_rfl) (p_a 0 [0] (by kernel_rfl) (fun b => by kernel_rfl) (fun b_1 => jkO ?_))
  refine jo_f [(0, 0)] (by kernel_rfl) ?_
  refine jo_end (by kernel_rfl) ?_
  refine jx_then ?_
  refine jc_seq ?_
  refine jc_seq ?_
  refine jc_region ?_
  refine jo_f [(0, 0)] (by kernel_rfl) ?_
  refine jo_end (by kernel_rfl) ?_
  refine jx_then ?_
  refine jc_meet (fun (j : (List Int) × (Option Nat) × Nat × (List Value) × Nat) => match j with | ⟨xs_1, o_137, cap_138, sp_139, n_140⟩ => spec_l07Signed.k_2 xs_1 = some r ∧ (xs_1.length = n_140) ∧ ((o_137 ≠ none → n_140 ≤ cap_138 ∧ sp_139.length = (cap_138 - n_140) * 1)) ∧ ((o_137 = none → xs_1 = [] ∧ cap_138 = 0))) (fun (j : (List Int) × (Option Nat) × Nat × (List Value) × Nat) => match j with | ⟨xs_1, o_137, cap_138, sp_139, n_140⟩ => [(2, [], (.slice none 0 0)), (3, [], (.slice (o_137.map fun b => ⟨b, 0, none⟩) n_140 cap_138))]) (fun (j : (List Int) × (Option Nat) × Nat × (List Value) × Nat) => match j with | ⟨xs_1, o_137, cap_138, sp_139, n_140⟩ => [⟨o_137, 26, row encI8 xs_1 sp_139⟩]) ?_ ?_
  · refine jc_block ?_
    obtain ⟨t_6, ht_185, hr_173⟩ := bd h
    refine jc_loop (fun (s : (List Int) × Int) (x : (Option Nat) × Nat × (List Value) × Nat) => match s, x with | ⟨xs_3, i_4⟩, ⟨o_167, cap_168, sp_169, n_170⟩ => (xs_3.length = n_170) ∧ ((o_167 ≠ none → n_170 ≤ cap_168 ∧ sp_169.length = (cap_168 - n_170) * 1)) ∧ ((o_167 = none → xs_3 = [] ∧ cap_168 = 0))) (fun (s : (List Int) × Int) (x : (Option Nat) × Nat × (List Value) × Nat) => match s, x with | ⟨xs_3, i_4⟩, ⟨o_167, cap_168, sp_169, n_170⟩ => [(0, [], (.int .i8 most0)), (2, [], (.slice none 0 0)), (3, [], (.slice (o_167.map fun b => ⟨b, 0, none⟩) n_170 cap_168)), (4, [], (.int .i8 i_4))]) (fun (s : (List Int) × Int) (x : (Option Nat) × Nat × (List Value) × Nat) => match s, x with | ⟨xs_3, i_4⟩, ⟨o_167, cap_168, sp_169, n_170⟩ => [⟨o_167, 26, row encI8 xs_3 sp_169⟩]) ht_185 ⟨(some b_1), 1, [], 1⟩ ⟨rfl, (fun _ => ⟨Nat.le_refl _, by simp⟩), (fun e => nomatch e)⟩ (by kernel_rfl) [0] (by kernel_rfl) (by kernel_rfl) ?_
    rintro ⟨xs_3, i_4⟩ ⟨o_167, cap_168, sp_169, n_170⟩ y_174 ⟨rfl, hs_171, ho_172⟩ h
    rw [spec_l07Signed.l_5] at h
    refine jc_seq ?_
    refine jc_seq ?_
    refine jc_region ?_
    refine jo_f [(0, 0), (0, 0), (0, 0)] (by kernel_rfl) ?_
    refine jo_end (by kernel_rfl) ?_
    refine jx_then ?_
    refine jc_cond (decide (i_4 ≤ most0)) (by kernel_rfl) (fun hc_176 => ?_) (fun hc_176 => ?_)
    · replace h := ifT hc_176 h
      refine jc_skip ?_
      refine jx_then ?_
      refine jc_seq ?_
      refine jc_block ?_
      refine jc_region ?_
      refine jo_f [(0, 0), (0, 0), (0, 0), (0, 0)] (by kernel_rfl) ?_
      refine toO (by kernel_rfl) (p_a 0 [0] (by kernel_rfl) (fun b => by kernel_rfl) (fun b_177 => jkO ?_))
      obtain ⟨hg_178, h⟩ := gd h
      refine toO (by kernel_rfl) (p_apn 0 0 o_167 26 xs_3.length 2 cap_168 1 1 (some ⟨b_177, 0, none⟩) encI8 xs_3 [(w8 (0 - i_4)), i_4] sp_169 (.int .i8 0) rfl rfl (by kernel_rfl) (by kernel_rfl) (by kernel_rfl) encI8_len encI8_cell hs_171 ho_172 (fun w hm => (hm.ownRow (hh := 1) (o := (some b_177)) (T := 26) (enc := encI8) (xs := [(w8 (0 - i_4)), i_4]) (sp := []) (by kernel_rfl) (fun e => nomatch e) encI8_len)) hg_178 (by kernel_rfl) (by kernel_rfl) (fun o_179 cap_180 sp_181 hs_182 ho_183 => jkO ?_))
      refine jo_f [(0, 0)] (by kernel_rfl) ?_
      refine jo_end (by kernel_rfl) ?_
      refine jx_inn ?_
      refine jx_then ?_
      refine jc_region ?_
      refine jo_f [(0, 0), (0, 0), (0, 0)] (by kernel_rfl) ?_
      refine jo_end (by kernel_rfl) ?_
      exact jx_back ((xs_3 ++ [(w8 (0 - i_4)), i_4]), (w8 (i_4 + 1))) ⟨o_179, cap_180, sp_181, (xs_3 ++ [(w8 (0 - i_4)), i_4]).length⟩ (Option.some.inj h).symm ⟨rfl, hs_182, ho_183⟩ [0] (by kernel_rfl) (by kernel_rfl) (by kernel_rfl)
    · replace h := ifF hc_176 h
      refine jc_exit ?_
      refine jx_thenx ?_
      refine jx_leave xs_3 (Option.some.inj h).symm (fun e_184 => ?_)
      subst e_184
      refine jx_ine ?_
      exact jx_meet ⟨xs_3, o_167, cap_168, sp_169, xs_3.length⟩ ⟨hr_173, rfl, hs_171, ho_172⟩ (by kernel_rfl) [0] (by kernel_rfl) (by kernel_rfl)
  · rintro ⟨xs_1, o_137, cap_138, sp_139, n_140⟩ ⟨h, rfl, hs_141, ho_142⟩
    replace h : spec_l07Signed.k_2 xs_1 = some r := h
    rw [spec_l07Signed.k_2] at h
    refine jx_then ?_
    refine jc_seq ?_
    refine jc_region ?_
    refine jo_f [(0, 0), (0, 0)] (by kernel_rfl) ?_
    refine jo_end (by kernel_rfl) ?_
    refine jx_then ?_
    refine jc_ret ?_
    obtain rfl := Option.some.inj h
    exact jx_ret [] (.slice (o_137.map fun b => ⟨b, 0, none⟩) xs_1.length cap_138) [] rfl (by kernel_rfl) (by kernel_rfl) (fun w hm => ⟨o_137, cap_138, sp_139, xs_1.length, rfl, hs_141, ho_142, rfl, hm.pick [0] (by kernel_rfl) (by kernel_rfl)⟩)

/-! ### spec.l07For -/
noncomputable def spec_l07For.k_4 (xs_3 : List GChoice) : Option ((List GChoice)) := (if xs_3.length + [(⟨true, 0, 0, 0⟩ : GChoice)].length ≤ 4294967296 then some (xs_3 ++ [(⟨true, 0, 0, 0⟩ : GChoice)]) else none)
noncomputable def spec_l07For.k_12 (i_6 : Int) (xs_11 : List GChoice) : Option (((List GChoice) × Int) ⊕ ((List GChoice))) := some (.inl (xs_11, (w64 (i_6 + 1))))
noncomputable def spec_l07For.k_18 (i_14 : Int) (xs_17 : List GChoice) : Option (((List GChoice) × Int) ⊕ ((List GChoice))) := some (.inl (xs_17, (w64 (i_14 + 1))))
noncomputable def spec_l07For.l_21 (f0 : GFrame) (n1 : GNote) (t_1 : (List Int)) (t_2 : (List Int)) (i_6 : Int) (i_14 : Int) : ((List GChoice) × Int) → Option (((List GChoice) × Int) ⊕ ((List GChoice)))
  | (xs_19, i_20) => (if (decide (i_20 < (f0.fHammers.length : Int))) = true then (ix f0.fHammers i_20).bind fun x_23 => (ix t_2 i_14).bind fun x_24 => (if (x_23.fPitch == (w8 (n1.fPitch + (w8 (12 * x_24))))) = true then (ix t_1 i_6).bind fun x_25 => (ix t_2 i_14).bind fun x_26 => (if xs_19.length + [(⟨false, x_25, x_26, (w8 i_20)⟩ : GChoice)].length ≤ 4294967296 then some (.inl ((xs_19 ++ [(⟨false, x_25, x_26, (w8 i_20)⟩ : GChoice)]), (w64 (i_20 + 1)))) else none) else some (.inl (xs_19, (w64 (i_20 + 1))))) else some (.inr xs_19))
noncomputable def spec_l07For.l_15 (f0 : GFrame) (n1 : GNote) (t_1 : (List Int)) (t_2 : (List Int)) (i_6 : Int) : ((List GChoice) × Int) → Option (((List GChoice) × Int) ⊕ ((List GChoice)))
  | (xs_13, i_14) => (if (decide (i_14 < (t_2.length : Int))) = true then (loop (spec_l07For.l_21 f0 n1 t_1 t_2 i_6 i_14) (xs_13, 0)).bind fun t_22 => spec_l07For.k_18 i_14 t_22 else some (.inr xs_13))
noncomputable def spec_l07For.l_7 (f0 : GFrame) (n1 : GNote) (t_1 : (List Int)) (t_2 : (List Int)) : ((List GChoice) × Int) → Option (((List GChoice) × Int) ⊕ ((List GChoice)))
  | (xs_5, i_6) => (if (decide (i_6 < (t_1.length : Int))) = true then (ix t_1 i_6).bind fun x_9 => (spec_l00In (w64 ((w64 n1.fAt) + (w64 x_9))) 0 (w64 ((w64 f0.fSteps) - 1))).bind fun t_10 => (if (!t_10) = true then some (.inl (xs_5, (w64 (i_6 + 1)))) else (loop (spec_l07For.l_15 f0 n1 t_1 t_2 i_6) (xs_5, 0)).bind fun t_16 => spec_l07For.k_12 i_6 t_16) else some (.inr xs_5))
noncomputable def spec_l07For (f0 : GFrame) (n1 : GNote) : Option ((List GChoice)) := (spec_l07Signed 3).bind fun t_1 => (spec_l07Signed 1).bind fun t_2 => (loop (spec_l07For.l_7 f0 n1 t_1 t_2) (([] : List GChoice), 0)).bind fun t_8 => spec_l07For.k_4 t_8
set_option maxRecDepth 100000 in
theorem spec_l07For.calls (f0 : GFrame) (n1 : GNote) (w : World) (r : (List GChoice)) (f0_fHammers_a : Option Addr) (f0_fHammers_an : Nat) (f0_fHammers_c : Nat) (f0_fHammers_h : Rw w f0_fHammers_a 2 encGHammer f0.fHammers) (f0_fHammers_hn : f0.fHammers.length = f0_fHammers_an) (f0_b : Nat) (hm0 : Mem w (bs [some f0_b]) [⟨some f0_b, 35, [(.int .i16 f0.fSteps), (.slice f0_fHammers_a f0_fHammers_an f0_fHammers_c)]⟩] w) (f0_fHammers_ha : f0.fHammers ≠ [] → aB f0_fHammers_a ∉ bs [some f0_b]) (h : spec_l07For f0 n1 = some r) :
    Calls Try.prog 70 #[(.pointer (some ⟨f0_b, 0, none⟩)), (.agg #[(.int .i16 n1.fAt), (.int .i8 n1.fPitch)])] w fun e w' => ∃ v, e = .returned v ∧ (∃ (o0 : Option Nat) (c0 : Nat) (s0 : List Value) (n0 : Nat), r.length = n0 ∧ (o0 ≠ none → n0 ≤ c0 ∧ s0.length = (c0 - n0) * 4) ∧ (o0 = none → r = [] ∧ c0 = 0) ∧ v = .slice (o0.map fun b => ⟨b, 0, none⟩) n0 c0 ∧ Mem w (bs [some f0_b]) [⟨some f0_b, 35, [(.int .i16 f0.fSteps), (.slice f0_fHammers_a f0_fHammers_an f0_fHammers_c)]⟩, ⟨o0, 113, row encGChoice r s0⟩] w') := by
  subst f0_fHammers_hn
  rw [spec_l07For] at h
  refine enter (args := [(.pointer (some ⟨f0_b, 0, none⟩)), (.agg #[(.int .i16 n1.fAt), (.int .i8 n1.fPitch)])]) Try.func70 rfl Try.ntmps70 (by kernel_rfl) (L := [⟨some f0_b, 35, [(.int .i16 f0.fSteps), (.slice f0_fHammers_a f0.fHammers.length f0_fHammers_c)]⟩]) (W := bs [some f0_b]) hm0 ?_
  refine jc_seq ?_
  refine jc_region ?_
  refine toO (by kernel_rfl) (p_a 0 [0] (by kernel_rfl) (fun b => by kernel_rfl) (fun b_1 => jkO ?_))
  refine jo_f [(0, 0)] (by kernel_rfl) ?_
  refine jo_end (by kernel_rfl) ?_
  refine jx_then ?_
  refine jc_seq ?_
  refine jc_region ?_
  refine toO (by kernel_rfl) (p_a 0 [0] (by kernel_rfl) (fun b => by kernel_rfl) (fun b_2 => jkO ?_))
  refine jo_f [(0, 0)] (by kernel_rfl) ?_
  refine jo_end (by kernel_rfl) ?_
  refine jx_then ?_
  refine jc_seq ?_
  refine jc_region ?_
  obtain ⟨t_1, ht_3, h⟩ := bd h
  refine toO (by kernel_rfl) (p_call 0 132 #[(.int .i8 3)] (by kernel_rfl) (by kernel_rfl) (fun w hm => spec_l07Signed.calls 3 w _ ht_3) ?_)
  rintro w v w' hm ⟨o_4, cap_5, sp_6, _, rfl, hs_7, ho_8, rfl, hm'⟩
  refine ⟨_, hm.app hm', jkO ?_⟩
  clear hm hm'
  refine jo_f [(0, 0)] (by kernel_rfl) ?_
  refine jo_end (by kernel_rfl) ?_
  refine jx_then ?_
  refine jc_seq ?_
  refine jc_region ?_
  obtain ⟨t_2, ht_9, h⟩ := bd h
  refine toO (by kernel_rfl) (p_call 0 132 #[(.int .i8 1)] (by kernel_rfl) (by kernel_rfl) (fun w hm => spec_l07Signed.calls 1 w _ ht_9) ?_)
  rintro w v w' hm ⟨o_10, cap_11, sp_12, _, rfl, hs_13, ho_14, rfl, hm'⟩
  refine ⟨_, hm.app hm', jkO ?_⟩
  clear hm hm'
  refine jo_f [(0, 0)] (by kernel_rfl) ?_
  refine jo_end (by kernel_rfl) ?_
  refine jx_then ?_
  refine jc_seq ?_
  refine jc_seq ?_
  refine jc_region ?_
  refine jo_f [(0, 0)] (by kernel_rfl) ?_
  refine jo_end (by kernel_rfl) ?_
  refine jx_then ?_
  refine jc_meet (fun (j : (List GChoice) × (Option Nat) × Nat × (List Value) × Nat) => match j with | ⟨xs_3, o_8151, cap_8152, sp_8153, n_8154⟩ => spec_l07For.k_4 xs_3 = some r ∧ (xs_3.length = n_8154) ∧ ((o_8151 ≠ none → n_8154 ≤ cap_8152 ∧ sp_8153.length = (cap_8152 - n_8154) * 4)) ∧ ((o_8151 = none → xs_3 = [] ∧ cap_8152 = 0))) (fun (j : (List GChoice) × (Option Nat) × Nat × (List Value) × Nat) => match j with | ⟨xs_3, o_8151, cap_8152, sp_8153, n_8154⟩ => [(4, [], (.slice none 0 0)), (5, [], (.slice (o_8151.map fun b => ⟨b, 0, none⟩) n_8154 cap_8152))]) (fun (j : (List GChoice) × (Option Nat) × Nat × (List Value) × Nat) => match j with | ⟨xs_3, o_8151, cap_8152, sp_8153, n_8154⟩ => [⟨some f0_b, 35, [(.int .i16 f0.fSteps), (.slice f0_fHammers_a f0.fHammers.length f0_fHammers_c)]⟩, ⟨some b_1, 37, [(.int .i16 n1.fAt), (.int .i8 n1.fPitch)]⟩, ⟨o_8151, 113, row encGChoice xs_3 sp_8153⟩, ⟨o_4, 26, row encI8 t_1 sp_6⟩, ⟨o_10, 26, row encI8 t_2 sp_12⟩]) ?_ ?_
  · refine jc_block ?_
    obtain ⟨t_8, ht_10873, hr_9972⟩ := bd h
    refine jc_loop (fun (s : (List GChoice) × Int) (x : (Option Nat) × Nat × (List Value) × Nat) => match s, x with | ⟨xs_5, i_6⟩, ⟨o_9966, cap_9967, sp_9968, n_9969⟩ => (xs_5.length = n_9969) ∧ ((o_9966 ≠ none → n_9969 ≤ cap_9967 ∧ sp_9968.length = (cap_9967 - n_9969) * 4)) ∧ ((o_9966 = none → xs_5 = [] ∧ cap_9967 = 0))) (fun (s : (List GChoice) × Int) (x : (Option Nat) × Nat × (List Value) × Nat) => match s, x with | ⟨xs_5, i_6⟩, ⟨o_9966, cap_9967, sp_9968, n_9969⟩ => [(0, [], (.pointer (some ⟨f0_b, 0, none⟩))), (3, [], (.pointer (some ⟨b_1, 0, none⟩))), (4, [], (.slice none 0 0)), (5, [], (.slice (o_9966.map fun b => ⟨b, 0, none⟩) n_9969 cap_9967)), (6, [], (.slice (o_4.map fun b => ⟨b, 0, none⟩) t_1.length cap_5)), (7, [], (.slice (o_10.map fun b => ⟨b, 0, none⟩) t_2.length cap_11)), (8, [], (.int .i64 i_6))]) (fun (s : (List GChoice) × Int) (x : (Option Nat) × Nat × (List Value) × Nat) => match s, x with | ⟨xs_5, i_6⟩, ⟨o_9966, cap_9967, sp_9968, n_9969⟩ => [⟨some f0_b, 35, [(.int .i16 f0.fSteps), (.slice f0_fHammers_a f0.fHammers.length f0_fHammers_c)]⟩, ⟨some b_1, 37, [(.int .i16 n1.fAt), (.int .i8 n1.fPitch)]⟩, ⟨o_9966, 113, row encGChoice xs_5 sp_9968⟩, ⟨o_4, 26, row encI8 t_1 sp_6⟩, ⟨o_10, 26, row encI8 t_2 sp_12⟩]) ht_10873 ⟨(some b_2), 0, [], 0⟩ ⟨rfl, (fun _ => ⟨Nat.le_refl _, by simp⟩), (fun e => nomatch e)⟩ (by kernel_rfl) [0, 1, 2, 3, 4] (by kernel_rfl) (by kernel_rfl) ?_
    rintro ⟨xs_5, i_6⟩ ⟨o_9966, cap_9967, sp_9968, n_9969⟩ y_9973 ⟨rfl, hs_9970, ho_9971⟩ h
    rw [spec_l07For.l_7] at h
    refine jc_seq ?_
    refine jc_seq ?_
    refine jc_region ?_
    refine jo_f [(0, 0), (0, 0), (0, 0), (0, 0)] (by kernel_rfl) ?_
    refine jo_end (by kernel_rfl) ?_
    refine jx_then ?_
    refine jc_cond (decide (i_6 < (t_1.length : Int))) (by kernel_rfl) (fun hc_9975 => ?_) (fun hc_9975 => ?_)
    · replace h := ifT hc_9975 h
      refine jc_skip ?_
      refine jx_then ?_
      refine jc_seq ?_
      refine jc_block ?_
      refine jc_seq ?_
      refine jc_seq ?_
      refine jc_draw [⟨some f0_b, 35, [(.int .i16 f0.fSteps), (.slice f0_fHammers_a f0.fHammers.length f0_fHammers_c)]⟩, ⟨some b_1, 37, [(.int .i16 n1.fAt), (.int .i8 n1.fPitch)]⟩, ⟨o_9966, 113, row encGChoice xs_5 sp_9968⟩, ⟨o_4, 26, row encI8 t_1 sp_6⟩, ⟨o_10, 26, row encI8 t_2 sp_12⟩] 17 (by kernel_rfl) (by kernel_rfl) ?_
      refine jd_f [⟨0, 0, 0⟩, ⟨1, 1, 0⟩, ⟨2, 0, 0⟩, ⟨3, 0, 0⟩, ⟨4, 0, 0⟩, ⟨9, 0, 0⟩, ⟨10, 0, 0⟩, ⟨11, 0, 0⟩, ⟨12, 0, 0⟩, ⟨13, 0, 0⟩, ⟨14, 0, 0⟩] 6 (by kernel_rfl) (by kernel_rfl) (fun w h => h.pick [0, 1, 2, 3, 4] (by kernel_rfl) (by kernel_rfl)) (by kernel_rfl) (by kernel_rfl) ?_
      obtain ⟨x_9, hx_9979, h⟩ := bd h
      refine jd_v 5 0 (by kernel_rfl) (fun w h => h.pick [0, 1, 2, 3, 4] (by kernel_rfl) (by kernel_rfl)) (by kernel_rfl) (by kernel_rfl) _ (fun w hm => idx_run (a := (o_4.map fun b => ⟨b, 0, none⟩)) (len := t_1.length) (s := 1) (j := i_6) (by kernel_rfl) (ix_some hx_9979).1 (ltn hx_9979 rfl) (spo ho_8 hx_9979)) ?_
      refine jd_v 6 0 (by kernel_rfl) (fun w h => h.pick [0, 1, 2, 3, 4] (by kernel_rfl) (by kernel_rfl)) (by kernel_rfl) (by kernel_rfl) _ (fun w hm => ld_run (b := aB (o_4.map fun b => ⟨b, 0, none⟩)) (off := (aO (o_4.map fun b => ⟨b, 0, none⟩) + i_6.toNat * 1)) (s := 1) (agg := false) (vs := (encI8 x_9)) (by kernel_rfl) (by kernel_rfl) (.inr rfl) ((hm.ownRow (hh := 3) (o := o_4) (T := 26) (enc := encI8) (xs := t_1) (sp := sp_6) (by kernel_rfl) (fun e => (ho_8 e).1) encI8_len).at hx_9979)) ?_
      refine jd_f [⟨7, 0, 0⟩, ⟨8, 0, 0⟩] 2 (by kernel_rfl) (by kernel_rfl) (fun w h => h.pick [0, 1, 2, 3, 4] (by kernel_rfl) (by kernel_rfl)) (by kernel_rfl) (by kernel_rfl) ?_
      obtain ⟨t_10, ht_9980, h⟩ := bd h
      refine toD 15 (by kernel_rfl) (p_call 0 104 #[(.int .i64 (w64 ((w64 n1.fAt) + (w64 x_9)))), (.int .i64 0), (.int .i64 (w64 ((w64 f0.fSteps) - 1)))] (by kernel_rfl) (by kernel_rfl) (fun w hm => spec_l00In.calls (w64 ((w64 n1.fAt) + (w64 x_9))) 0 (w64 ((w64 f0.fSteps) - 1)) w _ ht_9980) ?_)
      rintro w v w' hm ⟨rfl, hm'⟩
      refine ⟨_, hm.app hm', jkD (fun w h => h.pick [0, 1, 2, 3, 4] (by kernel_rfl) (by kernel_rfl)) ?_⟩
      clear hm hm'
      refine jd_f [⟨16, 0, 0⟩] 0 (by kernel_rfl) (by kernel_rfl) (fun w h => h.pick [0, 1, 2, 3, 4] (by kernel_rfl) (by kernel_rfl)) (by kernel_rfl) (by kernel_rfl) ?_
      refine jd_end (by kernel_rfl) ?_
      refine jx_then ?_
      refine jc_cond (!t_10) (by kernel_rfl) (fun hc_9981 => ?_) (fun hc_9981 => ?_)
      · replace h := ifT hc_9981 h
        refine jc_exit ?_
        refine jx_thenx ?_
        refine jx_ine ?_
        refine jx_then ?_
        refine jc_region ?_
        refine jo_f [(0, 0), (0, 0), (0, 0)] (by kernel_rfl) ?_
        refine jo_end (by kernel_rfl) ?_
        exact jx_back (xs_5, (w64 (i_6 + 1))) ⟨o_9966, cap_9967, sp_9968, xs_5.length⟩ (Option.some.inj h).symm ⟨rfl, hs_9970, ho_9971⟩ [0, 1, 2, 3, 4] (by kernel_rfl) (by kernel_rfl) (by kernel_rfl)
      · replace h := ifF hc_9981 h
        refine jc_skip ?_
        refine jx_then ?_
        refine jc_seq ?_
        refine jc_region ?_
        refine jo_f [(0, 0)] (by kernel_rfl) ?_
        refine jo_end (by kernel_rfl) ?_
        refine jx_then ?_
        refine jc_meet (fun (j : (List GChoice) × (Option Nat) × Nat × (List Value) × Nat) => match j with | ⟨xs_11, o_10424, cap_10425, sp_10426, n_10427⟩ => spec_l07For.k_12 i_6 xs_11 = some y_9973 ∧ (xs_11.length = n_10427) ∧ ((o_10424 ≠ none → n_10427 ≤ cap_10425 ∧ sp_10426.length = (cap_10425 - n_10427) * 4)) ∧ ((o_10424 = none → xs_11 = [] ∧ cap_10425 = 0))) (fun (j : (List GChoice) × (Option Nat) × Nat × (List Value) × Nat) => match j with | ⟨xs_11, o_10424, cap_10425, sp_10426, n_10427⟩ => [(0, [], (.pointer (some ⟨f0_b, 0, none⟩))), (3, [], (.pointer (some ⟨b_1, 0, none⟩))), (4, [], (.slice none 0 0)), (5, [], (.slice (o_10424.map fun b => ⟨b, 0, none⟩) n_10427 cap_10425)), (6, [], (.slice (o_4.map fun b => ⟨b, 0, none⟩) t_1.length cap_5)), (7, [], (.slice (o_10.map fun b => ⟨b, 0, none⟩) t_2.length cap_11)), (8, [], (.int .i64 i_6))]) (fun (j : (List GChoice) × (Option Nat) × Nat × (List Value) × Nat) => match j with | ⟨xs_11, o_10424, cap_10425, sp_10426, n_10427⟩ => [⟨some f0_b, 35, [(.int .i16 f0.fSteps), (.slice f0_fHammers_a f0.fHammers.length f0_fHammers_c)]⟩, ⟨some b_1, 37, [(.int .i16 n1.fAt), (.int .i8 n1.fPitch)]⟩, ⟨o_10424, 113, row encGChoice xs_11 sp_10426⟩, ⟨o_4, 26, row encI8 t_1 sp_6⟩, ⟨o_10, 26, row encI8 t_2 sp_12⟩]) ?_ ?_
        · refine jc_block ?_
          obtain ⟨t_16, ht_10871, hr_10726⟩ := bd h
          refine jc_loop (fun (s : (List GChoice) × Int) (x : (Option Nat) × Nat × (List Value) × Nat) => match s, x with | ⟨xs_13, i_14⟩, ⟨o_10720, cap_10721, sp_10722, n_10723⟩ => (xs_13.length = n_10723) ∧ ((o_10720 ≠ none → n_10723 ≤ cap_10721 ∧ sp_10722.length = (cap_10721 - n_10723) * 4)) ∧ ((o_10720 = none → xs_13 = [] ∧ cap_10721 = 0))) (fun (s : (List GChoice) × Int) (x : (Option Nat) × Nat × (List Value) × Nat) => match s, x with | ⟨xs_13, i_14⟩, ⟨o_10720, cap_10721, sp_10722, n_10723⟩ => [(0, [], (.pointer (some ⟨f0_b, 0, none⟩))), (3, [], (.pointer (some ⟨b_1, 0, none⟩))), (4, [], (.slice none 0 0)), (5, [], (.slice (o_10720.map fun b => ⟨b, 0, none⟩) n_10723 cap_10721)), (6, [], (.slice (o_4.map fun b => ⟨b, 0, none⟩) t_1.length cap_5)), (7, [], (.slice (o_10.map fun b => ⟨b, 0, none⟩) t_2.length cap_11)), (8, [], (.int .i64 i_6)), (9, [], (.int .i64 i_14))]) (fun (s : (List GChoice) × Int) (x : (Option Nat) × Nat × (List Value) × Nat) => match s, x with | ⟨xs_13, i_14⟩, ⟨o_10720, cap_10721, sp_10722, n_10723⟩ => [⟨some f0_b, 35, [(.int .i16 f0.fSteps), (.slice f0_fHammers_a f0.fHammers.length f0_fHammers_c)]⟩, ⟨some b_1, 37, [(.int .i16 n1.fAt), (.int .i8 n1.fPitch)]⟩, ⟨o_10720, 113, row encGChoice xs_13 sp_10722⟩, ⟨o_4, 26, row encI8 t_1 sp_6⟩, ⟨o_10, 26, row encI8 t_2 sp_12⟩]) ht_10871 ⟨o_9966, cap_9967, sp_9968, xs_5.length⟩ ⟨rfl, hs_9970, ho_9971⟩ (by kernel_rfl) [0, 1, 2, 3, 4] (by kernel_rfl) (by kernel_rfl) ?_
          rintro ⟨xs_13, i_14⟩ ⟨o_10720, cap_10721, sp_10722, n_10723⟩ y_10727 ⟨rfl, hs_10724, ho_10725⟩ h
          rw [spec_l07For.l_15] at h
          refine jc_seq ?_
          refine jc_seq ?_
          refine jc_region ?_
          refine jo_f [(0, 0), (0, 0), (0, 0), (0, 0)] (by kernel_rfl) ?_
          refine jo_end (by kernel_rfl) ?_
          refine jx_then ?_
          refine jc_cond (decide (i_14 < (t_2.length : Int))) (by kernel_rfl) (fun hc_10729 => ?_) (fun hc_10729 => ?_)
          · replace h := ifT hc_10729 h
            refine jc_skip ?_
            refine jx_then ?_
            refine jc_seq ?_
            refine jc_block ?_
            refine jc_seq ?_
            refine jc_region ?_
            refine jo_f [(0, 0)] (by kernel_rfl) ?_
            refine jo_end (by kernel_rfl) ?_
            refine jx_then ?_
            refine jc_meet (fun (j : (List GChoice) × (Option Nat) × Nat × (List Value) × Nat) => match j with | ⟨xs_17, o_10797, cap_10798, sp_10799, n_10800⟩ => spec_l07For.k_18 i_14 xs_17 = some y_10727 ∧ (xs_17.length = n_10800) ∧ ((o_10797 ≠ none → n_10800 ≤ cap_10798 ∧ sp_10799.length = (cap_10798 - n_10800) * 4)) ∧ ((o_10797 = none → xs_17 = [] ∧ cap_10798 = 0))) (fun (j : (List GChoice) × (Option Nat) × Nat × (List Value) × Nat) => match j with | ⟨xs_17, o_10797, cap_10798, sp_10799, n_10800⟩ => [(0, [], (.pointer (some ⟨f0_b, 0, none⟩))), (3, [], (.pointer (some ⟨b_1, 0, none⟩))), (4, [], (.slice none 0 0)), (5, [], (.slice (o_10797.map fun b => ⟨b, 0, none⟩) n_10800 cap_10798)), (6, [], (.slice (o_4.map fun b => ⟨b, 0, none⟩) t_1.length cap_5)), (7, [], (.slice (o_10.map fun b => ⟨b, 0, none⟩) t_2.length cap_11)), (8, [], (.int .i64 i_6)), (9, [], (.int .i64 i_14))]) (fun (j : (List GChoice) × (Option Nat) × Nat × (List Value) × Nat) => match j with | ⟨xs_17, o_10797, cap_10798, sp_10799, n_10800⟩ => [⟨some f0_b, 35, [(.int .i16 f0.fSteps), (.slice f0_fHammers_a f0.fHammers.length f0_fHammers_c)]⟩, ⟨some b_1, 37, [(.int .i16 n1.fAt), (.int .i8 n1.fPitch)]⟩, ⟨o_10797, 113, row encGChoice xs_17 sp_10799⟩, ⟨o_4, 26, row encI8 t_1 sp_6⟩, ⟨o_10, 26, row encI8 t_2 sp_12⟩]) ?_ ?_
            · refine jc_block ?_
              obtain ⟨t_22, ht_10869, hr_10849⟩ := bd h
              refine jc_loop (fun (s : (List GChoice) × Int) (x : (Option Nat) × Nat × (List Value) × Nat) => match s, x with | ⟨xs_19, i_20⟩, ⟨o_10843, cap_10844, sp_10845, n_10846⟩ => (xs_19.length = n_10846) ∧ ((o_10843 ≠ none → n_10846 ≤ cap_10844 ∧ sp_10845.length = (cap_10844 - n_10846) * 4)) ∧ ((o_10843 = none → xs_19 = [] ∧ cap_10844 = 0))) (fun (s : (List GChoice) × Int) (x : (Option Nat) × Nat × (List Value) × Nat) => match s, x with | ⟨xs_19, i_20⟩, ⟨o_10843, cap_10844, sp_10845, n_10846⟩ => [(0, [], (.pointer (some ⟨f0_b, 0, none⟩))), (3, [], (.pointer (some ⟨b_1, 0, none⟩))), (4, [], (.slice none 0 0)), (5, [], (.slice (o_10843.map fun b => ⟨b, 0, none⟩) n_10846 cap_10844)), (6, [], (.slice (o_4.map fun b => ⟨b, 0, none⟩) t_1.length cap_5)), (7, [], (.slice (o_10.map fun b => ⟨b, 0, none⟩) t_2.length cap_11)), (8, [], (.int .i64 i_6)), (9, [], (.int .i64 i_14)), (10, [], (.int .i64 i_20))]) (fun (s : (List GChoice) × Int) (x : (Option Nat) × Nat × (List Value) × Nat) => match s, x with | ⟨xs_19, i_20⟩, ⟨o_10843, cap_10844, sp_10845, n_10846⟩ => [⟨some f0_b, 35, [(.int .i16 f0.fSteps), (.slice f0_fHammers_a f0.fHammers.length f0_fHammers_c)]⟩, ⟨some b_1, 37, [(.int .i16 n1.fAt), (.int .i8 n1.fPitch)]⟩, ⟨o_10843, 113, row encGChoice xs_19 sp_10845⟩, ⟨o_4, 26, row encI8 t_1 sp_6⟩, ⟨o_10, 26, row encI8 t_2 sp_12⟩]) ht_10869 ⟨o_10720, cap_10721, sp_10722, xs_13.length⟩ ⟨rfl, hs_10724, ho_10725⟩ (by kernel_rfl) [0, 1, 2, 3, 4] (by kernel_rfl) (by kernel_rfl) ?_
              rintro ⟨xs_19, i_20⟩ ⟨o_10843, cap_10844, sp_10845, n_10846⟩ y_10850 ⟨rfl, hs_10847, ho_10848⟩ h
              rw [spec_l07For.l_21] at h
              refine jc_seq ?_
              refine jc_seq ?_
              refine jc_region ?_
              refine jo_f [(0, 0), (0, 0), (0, 0), (0, 0), (0, 0), (0, 0), (0, 0)] (by kernel_rfl) ?_
              refine jo_end (by kernel_rfl) ?_
              refine jx_then ?_
              refine jc_cond (decide (i_20 < (f0.fHammers.length : Int))) (by kernel_rfl) (fun hc_10852 => ?_) (fun hc_10852 => ?_)
              · replace h := ifT hc_10852 h
                refine jc_skip ?_
                refine jx_then ?_
                refine jc_seq ?_
                refine jc_block ?_
                refine jc_seq ?_
                refine jc_draw [⟨some f0_b, 35, [(.int .i16 f0.fSteps), (.slice f0_fHammers_a f0.fHammers.length f0_fHammers_c)]⟩, ⟨some b_1, 37, [(.int .i16 n1.fAt), (.int .i8 n1.fPitch)]⟩, ⟨o_10843, 113, row encGChoice xs_19 sp_10845⟩, ⟨o_4, 26, row encI8 t_1 sp_6⟩, ⟨o_10, 26, row encI8 t_2 sp_12⟩] 17 (by kernel_rfl) (by kernel_rfl) ?_
                refine jd_f [⟨0, 0, 0⟩, ⟨1, 0, 0⟩, ⟨2, 0, 0⟩, ⟨3, 0, 0⟩, ⟨4, 0, 0⟩, ⟨8, 0, 0⟩, ⟨9, 1, 0⟩, ⟨10, 0, 0⟩, ⟨11, 0, 0⟩] 8 (by kernel_rfl) (by kernel_rfl) (fun w h => h.pick [0, 1, 2, 3, 4] (by kernel_rfl) (by kernel_rfl)) (by kernel_rfl) (by kernel_rfl) ?_
                obtain ⟨x_23, hx_10853, h⟩ := bd h
                refine jd_v 5 0 (by kernel_rfl) (fun w h => h.pick [0, 1, 2, 3, 4] (by kernel_rfl) (by kernel_rfl)) (by kernel_rfl) (by kernel_rfl) _ (fun w hm => idx_run (a := f0_fHammers_a) (len := f0.fHammers.length) (s := 2) (j := i_20) (by kernel_rfl) (ix_some hx_10853).1 (ltn hx_10853 rfl) (f0_fHammers_h.sp hx_10853)) ?_
                refine jd_f [⟨6, 0, 0⟩] 6 (by kernel_rfl) (by kernel_rfl) (fun w h => h.pick [0, 1, 2, 3, 4] (by kernel_rfl) (by kernel_rfl)) (by kernel_rfl) (by kernel_rfl) ?_
                refine jd_v 7 0 (by kernel_rfl) (fun w h => h.pick [0, 1, 2, 3, 4] (by kernel_rfl) (by kernel_rfl)) (by kernel_rfl) (by kernel_rfl) _ (fun w hm => ld_run (b := aB f0_fHammers_a) (off := (aO f0_fHammers_a + i_20.toNat * 2)) (s := 1) (agg := false) (vs := (((encGHammer x_23).drop 0).take 1)) (by kernel_rfl) (by kernel_rfl) (.inr rfl) (((hm.exRowW f0_fHammers_h f0_fHammers_ha).at hx_10853).sub 0 1)) ?_
                obtain ⟨x_24, hx_10854, h⟩ := bd h
                refine jd_v 12 0 (by kernel_rfl) (fun w h => h.pick [0, 1, 2, 3, 4] (by kernel_rfl) (by kernel_rfl)) (by kernel_rfl) (by kernel_rfl) _ (fun w hm => idx_run (a := (o_10.map fun b => ⟨b, 0, none⟩)) (len := t_2.length) (s := 1) (j := i_14) (by kernel_rfl) (ix_some hx_10854).1 (ltn hx_10854 rfl) (spo ho_14 hx_10854)) ?_
                refine jd_v 13 0 (by kernel_rfl) (fun w h => h.pick [0, 1, 2, 3, 4] (by kernel_rfl) (by kernel_rfl)) (by kernel_rfl) (by kernel_rfl) _ (fun w hm => ld_run (b := aB (o_10.map fun b => ⟨b, 0, none⟩)) (off := (aO (o_10.map fun b => ⟨b, 0, none⟩) + i_14.toNat * 1)) (s := 1) (agg := false) (vs := (encI8 x_24)) (by kernel_rfl) (by kernel_rfl) (.inr rfl) ((hm.ownRow (hh := 4) (o := o_10) (T := 26) (enc := encI8) (xs := t_2) (sp := sp_12) (by kernel_rfl) (fun e => (ho_14 e).1) encI8_len).at hx_10854)) ?_
                refine jd_f [⟨14, 0, 0⟩, ⟨15, 0, 0⟩, ⟨16, 0, 0⟩] 0 (by kernel_rfl) (by kernel_rfl) (fun w h => h.pick [0, 1, 2, 3, 4] (by kernel_rfl) (by kernel_rfl)) (by kernel_rfl) (by kernel_rfl) ?_
                refine jd_end (by kernel_rfl) ?_
                refine jx_then ?_
                refine jc_cond (x_23.fPitch == (w8 (n1.fPitch + (w8 (12 * x_24))))) (by kernel_rfl) (fun hc_10855 => ?_) (fun hc_10855 => ?_)
                · replace h := ifT hc_10855 h
                  refine jc_draw [⟨some f0_b, 35, [(.int .i16 f0.fSteps), (.slice f0_fHammers_a f0.fHammers.length f0_fHammers_c)]⟩, ⟨some b_1, 37, [(.int .i16 n1.fAt), (.int .i8 n1.fPitch)]⟩, ⟨o_4, 26, row encI8 t_1 sp_6⟩, ⟨o_10, 26, row encI8 t_2 sp_12⟩] 15 (by kernel_rfl) (by kernel_rfl) ?_
                  refine jd_f [⟨0, 0, 0⟩, ⟨1, 0, 0⟩, ⟨2, 0, 0⟩, ⟨5, 0, 0⟩, ⟨6, 0, 0⟩, ⟨9, 0, 0⟩, ⟨10, 0, 0⟩] 8 (by kernel_rfl) (by kernel_rfl) (fun w h => h.pick [0, 1, 3, 4] (by kernel_rfl) (by kernel_rfl)) (by kernel_rfl) (by kernel_rfl) ?_
                  obtain ⟨x_25, hx_10859, h⟩ := bd h
                  refine jd_v 3 0 (by kernel_rfl) (fun w h => h.pick [0, 1, 3, 4] (by kernel_rfl) (by kernel_rfl)) (by kernel_rfl) (by kernel_rfl) _ (fun w hm => idx_run (a := (o_4.map fun b => ⟨b, 0, none⟩)) (len := t_1.length) (s := 1) (j := i_6) (by kernel_rfl) (ix_some hx_10859).1 (ltn hx_10859 rfl) (spo ho_8 hx_10859)) ?_
                  refine jd_v 4 0 (by kernel_rfl) (fun w h => h.pick [0, 1, 3, 4] (by kernel_rfl) (by kernel_rfl)) (by kernel_rfl) (by kernel_rfl) _ (fun w hm => ld_run (b := aB (o_4.map fun b => ⟨b, 0, none⟩)) (off := (aO (o_4.map fun b => ⟨b, 0, none⟩) + i_6.toNat * 1)) (s := 1) (agg := false) (vs := (encI8 x_25)) (by kernel_rfl) (by kernel_rfl) (.inr rfl) ((hm.ownRow (hh := 2) (o := o_4) (T := 26) (enc := encI8) (xs := t_1) (sp := sp_6) (by kernel_rfl) (fun e => (ho_8 e).1) encI8_len).at hx_10859)) ?_
                  obtain ⟨x_26, hx_10860, h⟩ := bd h
                  refine jd_v 7 0 (by kernel_rfl) (fun w h => h.pick [0, 1, 3, 4] (by kernel_rfl) (by kernel_rfl)) (by kernel_rfl) (by kernel_rfl) _ (fun w hm => idx_run (a := (o_10.map fun b => ⟨b, 0, none⟩)) (len := t_2.length) (s := 1) (j := i_14) (by kernel_rfl) (ix_some hx_10860).1 (ltn hx_10860 rfl) (spo ho_14 hx_10860)) ?_
                  refine jd_v 8 0 (by kernel_rfl) (fun w h => h.pick [0, 1, 3, 4] (by kernel_rfl) (by kernel_rfl)) (by kernel_rfl) (by kernel_rfl) _ (fun w hm => ld_run (b := aB (o_10.map fun b => ⟨b, 0, none⟩)) (off := (aO (o_10.map fun b => ⟨b, 0, none⟩) + i_14.toNat * 1)) (s := 1) (agg := false) (vs := (encI8 x_26)) (by kernel_rfl) (by kernel_rfl) (.inr rfl) ((hm.ownRow (hh := 3) (o := o_10) (T := 26) (enc := encI8) (xs := t_2) (sp := sp_12) (by kernel_rfl) (fun e => (ho_14 e).1) encI8_len).at hx_10860)) ?_
                  refine jd_f [⟨11, 0, 0⟩] 3 (by kernel_rfl) (by kernel_rfl) (fun w h => h.pick [0, 1, 3, 4] (by kernel_rfl) (by kernel_rfl)) (by kernel_rfl) (by kernel_rfl) ?_
                  refine toD 12 (by kernel_rfl) (p_a 0 [0] (by kernel_rfl) (fun b => by kernel_rfl) (fun b_10861 => jkD (fun w h => h.pick [0, 1, 3, 4] (by kernel_rfl) (by kernel_rfl)) ?_))
                  obtain ⟨hg_10862, h⟩ := gd h
                  refine toD 13 (by kernel_rfl) (p_apn 0 2 o_10843 113 xs_19.length 1 cap_10844 4 4 (some ⟨b_10861, 0, none⟩) encGChoice xs_19 [(⟨false, x_25, x_26, (w8 i_20)⟩ : GChoice)] sp_10845 (.agg #[(.bool false), (.int .i8 0), (.int .i8 0), (.int .i8 0)]) rfl rfl (by kernel_rfl) (by kernel_rfl) (by kernel_rfl) encGChoice_len encGChoice_cell hs_10847 ho_10848 (fun w hm => (hm.ownRow (hh := 5) (o := (some b_10861)) (T := 113) (enc := encGChoice) (xs := [(⟨false, x_25, x_26, (w8 i_20)⟩ : GChoice)]) (sp := []) (by kernel_rfl) (fun e => nomatch e) encGChoice_len)) hg_10862 (by kernel_rfl) (by kernel_rfl) (fun o_10863 cap_10864 sp_10865 hs_10866 ho_10867 => jkD (fun w h => h.pick [0, 1, 3, 4] (by kernel_rfl) (by kernel_rfl)) ?_))
                  refine jd_f [⟨14, 0, 0⟩] 0 (by kernel_rfl) (by kernel_rfl) (fun w h => h.pick [0, 1, 3, 4] (by kernel_rfl) (by kernel_rfl)) (by kernel_rfl) (by kernel_rfl) ?_
                  refine jd_end (by kernel_rfl) ?_
                  refine jx_inn ?_
                  refine jx_then ?_
                  refine jc_region ?_
                  refine jo_f [(0, 0), (0, 0), (0, 0)] (by kernel_rfl) ?_
                  refine jo_end (by kernel_rfl) ?_
                  exact jx_back ((xs_19 ++ [(⟨false, x_25, x_26, (w8 i_20)⟩ : GChoice)]), (w64 (i_20 + 1))) ⟨o_10863, cap_10864, sp_10865, (xs_19 ++ [(⟨false, x_25, x_26, (w8 i_20)⟩ : GChoice)]).length⟩ (Option.some.inj h).symm ⟨rfl, hs_10866, ho_10867⟩ [0, 1, 2, 3, 4] (by kernel_rfl) (by kernel_rfl) (by kernel_rfl)
                · replace h := ifF hc_10855 h
                  refine jc_skip ?_
                  refine jx_inn ?_
                  refine jx_then ?_
                  refine jc_region ?_
                  refine jo_f [(0, 0), (0, 0), (0, 0)] (by kernel_rfl) ?_
                  refine jo_end (by kernel_rfl) ?_
                  exact jx_back (xs_19, (w64 (i_20 + 1))) ⟨o_10843, cap_10844, sp_10845, xs_19.length⟩ (Option.some.inj h).symm ⟨rfl, hs_10847, ho_10848⟩ [0, 1, 2, 3, 4] (by kernel_rfl) (by kernel_rfl) (by kernel_rfl)
              · replace h := ifF hc_10852 h
                refine jc_exit ?_
                refine jx_thenx ?_
                refine jx_leave xs_19 (Option.some.inj h).symm (fun e_10868 => ?_)
                subst e_10868
                refine jx_ine ?_
                exact jx_meet ⟨xs_19, o_10843, cap_10844, sp_10845, xs_19.length⟩ ⟨hr_10849, rfl, hs_10847, ho_10848⟩ (by kernel_rfl) [0, 1, 2, 3, 4] (by kernel_rfl) (by kernel_rfl)
            · rintro ⟨xs_17, o_10797, cap_10798, sp_10799, n_10800⟩ ⟨h, rfl, hs_10801, ho_10802⟩
              replace h : spec_l07For.k_18 i_14 xs_17 = some y_10727 := h
              rw [spec_l07For.k_18] at h
              refine jx_inn ?_
              refine jx_then ?_
              refine jc_region ?_
              refine jo_f [(0, 0), (0, 0), (0, 0)] (by kernel_rfl) ?_
              refine jo_end (by kernel_rfl) ?_
              exact jx_back (xs_17, (w64 (i_14 + 1))) ⟨o_10797, cap_10798, sp_10799, xs_17.length⟩ (Option.some.inj h).symm ⟨rfl, hs_10801, ho_10802⟩ [0, 1, 2, 3, 4] (by kernel_rfl) (by kernel_rfl) (by kernel_rfl)
          · replace h := ifF hc_10729 h
            refine jc_exit ?_
            refine jx_thenx ?_
            refine jx_leave xs_13 (Option.some.inj h).symm (fun e_10870 => ?_)
            subst e_10870
            refine jx_ine ?_
            exact jx_meet ⟨xs_13, o_10720, cap_10721, sp_10722, xs_13.length⟩ ⟨hr_10726, rfl, hs_10724, ho_10725⟩ (by kernel_rfl) [0, 1, 2, 3, 4] (by kernel_rfl) (by kernel_rfl)
        · rintro ⟨xs_11, o_10424, cap_10425, sp_10426, n_10427⟩ ⟨h, rfl, hs_10428, ho_10429⟩
          replace h : spec_l07For.k_12 i_6 xs_11 = some y_9973 := h
          rw [spec_l07For.k_12] at h
          refine jx_inn ?_
          refine jx_then ?_
          refine jc_region ?_
          refine jo_f [(0, 0), (0, 0), (0, 0)] (by kernel_rfl) ?_
          refine jo_end (by kernel_rfl) ?_
          exact jx_back (xs_11, (w64 (i_6 + 1))) ⟨o_10424, cap_10425, sp_10426, xs_11.length⟩ (Option.some.inj h).symm ⟨rfl, hs_10428, ho_10429⟩ [0, 1, 2, 3, 4] (by kernel_rfl) (by kernel_rfl) (by kernel_rfl)
    · replace h := ifF hc_9975 h
      refine jc_exit ?_
      refine jx_thenx ?_
      refine jx_leave xs_5 (Option.some.inj h).symm (fun e_10872 => ?_)
      subst e_10872
      refine jx_ine ?_
      exact jx_meet ⟨xs_5, o_9966, cap_9967, sp_9968, xs_5.length⟩ ⟨hr_9972, rfl, hs_9970, ho_9971⟩ (by kernel_rfl) [0, 1, 2, 3, 4] (by kernel_rfl) (by kernel_rfl)
  · rintro ⟨xs_3, o_8151, cap_8152, sp_8153, n_8154⟩ ⟨h, rfl, hs_8155, ho_8156⟩
    replace h : spec_l07For.k_4 xs_3 = some r := h
    rw [spec_l07For.k_4] at h
    refine jx_then ?_
    refine jc_seq ?_
    refine jc_region ?_
    refine jo_f [(0, 0), (0, 0)] (by kernel_rfl) ?_
    refine toO (by kernel_rfl) (p_a 0 [0] (by kernel_rfl) (fun b => by kernel_rfl) (fun b_8157 => jkO ?_))
    obtain ⟨hg_8158, h⟩ := gd h
    refine toO (by kernel_rfl) (p_apn 0 2 o_8151 113 xs_3.length 1 cap_8152 4 4 (some ⟨b_8157, 0, none⟩) encGChoice xs_3 [(⟨true, 0, 0, 0⟩ : GChoice)] sp_8153 (.agg #[(.bool false), (.int .i8 0), (.int .i8 0), (.int .i8 0)]) rfl rfl (by kernel_rfl) (by kernel_rfl) (by kernel_rfl) encGChoice_len encGChoice_cell hs_8155 ho_8156 (fun w hm => (hm.ownRow (hh := 5) (o := (some b_8157)) (T := 113) (enc := encGChoice) (xs := [(⟨true, 0, 0, 0⟩ : GChoice)]) (sp := []) (by kernel_rfl) (fun e => nomatch e) encGChoice_len)) hg_8158 (by kernel_rfl) (by kernel_rfl) (fun o_8159 cap_8160 sp_8161 hs_8162 ho_8163 => jkO ?_))
    refine jo_f [(0, 0)] (by kernel_rfl) ?_
    refine jo_end (by kernel_rfl) ?_
    refine jx_then ?_
    refine jc_ret ?_
    obtain rfl := Option.some.inj h
    exact jx_ret [] (.slice (o_8159.map fun b => ⟨b, 0, none⟩) ((xs_3 ++ [(⟨true, 0, 0, 0⟩ : GChoice)]).length) cap_8160) [] rfl (by kernel_rfl) (by kernel_rfl) (fun w hm => ⟨o_8159, cap_8160, sp_8161, ((xs_3 ++ [(⟨true, 0, 0, 0⟩ : GChoice)]).length), rfl, hs_8162, ho_8163, rfl, hm.pick [0, 2] (by kernel_rfl) (by kernel_rfl)⟩)

/-! ### spec.ChoicesFor -/
noncomputable def spec_ChoicesFor.k_2 (f0 : GFrame) (n1 : GNote) (q_1 : Bool) : Option ((List GChoice) × Int) := (if q_1 = true then some (([] : List GChoice), 1) else (spec_l07For f0 n1).bind fun t_3 => some (t_3, 0))
noncomputable def spec_ChoicesFor (f0 : GFrame) (n1 : GNote) : Option ((List GChoice) × Int) := (spec_l02Frame f0).bind fun t_4 => (if (!t_4) = true then spec_ChoicesFor.k_2 f0 n1 true else (spec_l01Note n1).bind fun t_5 => spec_ChoicesFor.k_2 f0 n1 (!t_5))
set_option maxRecDepth 100000 in
theorem spec_ChoicesFor.calls (f0 : GFrame) (n1 : GNote) (w : World) (r : (List GChoice) × Int) (f0_fHammers_a : Option Addr) (f0_fHammers_an : Nat) (f0_fHammers_c : Nat) (f0_fHammers_h : Rw w f0_fHammers_a 2 encGHammer f0.fHammers) (f0_fHammers_hn : f0.fHammers.length = f0_fHammers_an) (h : spec_ChoicesFor f0 n1 = some r) :
    Calls Try.prog 16 #[(.agg #[(.int .i16 f0.fSteps), (.slice f0_fHammers_a f0_fHammers_an f0_fHammers_c)]), (.agg #[(.int .i16 n1.fAt), (.int .i8 n1.fPitch)])] w fun e w' => ∃ v, e = .returned v ∧ (∃ (o0 : Option Nat) (c0 : Nat) (s0 : List Value) (n0 : Nat), r.1.length = n0 ∧ (o0 ≠ none → n0 ≤ c0 ∧ s0.length = (c0 - n0) * 4) ∧ (o0 = none → r.1 = [] ∧ c0 = 0) ∧ v = .tuple #[.slice (o0.map fun b => ⟨b, 0, none⟩) n0 c0, (.int .i64 r.2)] ∧ Mem w [] [⟨o0, 113, row encGChoice r.1 s0⟩] w') := by
  subst f0_fHammers_hn
  rw [spec_ChoicesFor] at h
  refine enter (args := [(.agg #[(.int .i16 f0.fSteps), (.slice f0_fHammers_a f0.fHammers.length f0_fHammers_c)]), (.agg #[(.int .i16 n1.fAt), (.int .i8 n1.fPitch)])]) Try.func16 rfl Try.ntmps16 (by kernel_rfl) (L := []) (W := []) (Mem.start w) ?_
  refine jc_seq ?_
  refine jc_region ?_
  refine toO (by kernel_rfl) (p_a 0 [0] (by kernel_rfl) (fun b => by kernel_rfl) (fun b_1 => jkO ?_))
  refine toO (by kernel_rfl) (p_a 0 [0] (by kernel_rfl) (fun b => by kernel_rfl) (fun b_2 => jkO ?_))
  refine jo_f [(0, 0), (0, 0)] (by kernel_rfl) ?_
  refine jo_end (by kernel_rfl) ?_
  refine jx_then ?_
  refine jc_seq ?_
  refine jc_seq ?_
  refine jc_meet (fun (j : Bool) => match j with | q_1 => spec_ChoicesFor.k_2 f0 n1 q_1 = some r) (fun (j : Bool) => match j with | q_1 => [(2, [], (.pointer (some ⟨b_1, 0, none⟩))), (3, [], (.pointer (some ⟨b_2, 0, none⟩))), (4, [], (.slice none 0 0)), (5, [], (.int .i64 0)), (12, [], (.bool q_1))]) (fun (j : Bool) => match j with | q_1 => [⟨some b_1, 35, [(.int .i16 f0.fSteps), (.slice f0_fHammers_a f0.fHammers.length f0_fHammers_c)]⟩, ⟨some b_2, 37, [(.int .i16 n1.fAt), (.int .i8 n1.fPitch)]⟩]) ?_ ?_
  · refine jc_region ?_
    obtain ⟨t_4, ht_22, h⟩ := bd h
    refine toO (by kernel_rfl) (p_call 0 68 #[(.pointer (some ⟨b_1, 0, none⟩))] (by kernel_rfl) (by kernel_rfl) (fun w hm => spec_l02Frame.calls f0 w _ f0_fHammers_a f0.fHammers.length f0_fHammers_c (hm.exRow f0_fHammers_h List.not_mem_nil) rfl b_1 (hm.pass (N := [⟨some b_1, 35, [(.int .i16 f0.fSteps), (.slice f0_fHammers_a f0.fHammers.length f0_fHammers_c)]⟩]) [0] (by kernel_rfl) (by kernel_rfl)) (hm.exApart (N := [⟨some b_1, 35, [(.int .i16 f0.fSteps), (.slice f0_fHammers_a f0.fHammers.length f0_fHammers_c)]⟩]) f0_fHammers_h (fun _ => List.not_mem_nil) [0] (by kernel_rfl)) ht_22) ?_)
    rintro w v w' hm ⟨rfl, hm'⟩
    refine ⟨_, hm.appW (ps := [(0, ⟨some b_1, 35, [(.int .i16 f0.fSteps), (.slice f0_fHammers_a f0.fHammers.length f0_fHammers_c)]⟩)]) (N := []) hm' (by kernel_rfl) (by kernel_rfl), jkO ?_⟩
    clear hm hm'
    refine jo_f [(0, 0), (0, 0), (1, 1)] (by kernel_rfl) ?_
    refine jo_split 8 (!t_4) (by kernel_rfl) (fun hc_23 => ?_) (fun hc_23 => ?_)
    · replace h := ifT hc_23 h
      refine jo_f [(0, 3), (0, 3), (0, 4)] (by kernel_rfl) ?_
      refine jo_end (by kernel_rfl) ?_
      exact jx_meet true h (by kernel_rfl) [0, 1] (by kernel_rfl) (by kernel_rfl)
    · replace h := ifF hc_23 h
      obtain ⟨t_5, ht_24, h⟩ := bd h
      refine toO (by kernel_rfl) (p_call 2 69 #[(.agg #[(.int .i16 n1.fAt), (.int .i8 n1.fPitch)])] (by kernel_rfl) (by kernel_rfl) (fun w hm => spec_l01Note.calls n1 w _ ht_24) ?_)
      rintro w v w' hm ⟨rfl, hm'⟩
      refine ⟨_, hm.app hm', jkO ?_⟩
      clear hm hm'
      refine jo_f [(0, 2), (0, 5)] (by kernel_rfl) ?_
      refine jo_end (by kernel_rfl) ?_
      exact jx_meet (!t_5) h (by kernel_rfl) [0, 1] (by kernel_rfl) (by kernel_rfl)
  · rintro q_1 h
    replace h : spec_ChoicesFor.k_2 f0 n1 q_1 = some r := h
    rw [spec_ChoicesFor.k_2] at h
    refine jx_then ?_
    refine jc_cond q_1 (by kernel_rfl) (fun hc_14 => ?_) (fun hc_14 => ?_)
    · replace h := ifT hc_14 h
      refine jc_seq ?_
      refine jc_region ?_
      refine toO (by kernel_rfl) (p_a 0 [0] (by kernel_rfl) (fun b => by kernel_rfl) (fun b_15 => jkO ?_))
      refine jo_f [(0, 0), (0, 0)] (by kernel_rfl) ?_
      refine jo_end (by kernel_rfl) ?_
      refine jx_then ?_
      refine jc_ret ?_
      refine jx_thenr ?_
      obtain rfl := Option.some.inj h
      exact jx_ret [] (.tuple #[(.slice (some ⟨b_15, 0, none⟩) 0 0), (.int .i64 1)]) [] rfl (by kernel_rfl) (by kernel_rfl) (fun w hm => ⟨(some b_15), 0, [], 0, rfl, (fun _ => ⟨Nat.le_refl _, by simp⟩), (fun e => nomatch e), rfl, hm.pick [2] (by kernel_rfl) (by kernel_rfl)⟩)
    · replace h := ifF hc_14 h
      refine jc_skip ?_
      refine jx_then ?_
      refine jc_seq ?_
      refine jc_region ?_
      refine jo_f [(1, 0)] (by kernel_rfl) ?_
      obtain ⟨t_3, ht_16, h⟩ := bd h
      refine toO (by kernel_rfl) (p_call 0 70 #[(.pointer (some ⟨b_1, 0, none⟩)), (.agg #[(.int .i16 n1.fAt), (.int .i8 n1.fPitch)])] (by kernel_rfl) (by kernel_rfl) (fun w hm => spec_l07For.calls f0 n1 w _ f0_fHammers_a f0.fHammers.length f0_fHammers_c (hm.exRow f0_fHammers_h List.not_mem_nil) rfl b_1 (hm.pass (N := [⟨some b_1, 35, [(.int .i16 f0.fSteps), (.slice f0_fHammers_a f0.fHammers.length f0_fHammers_c)]⟩]) [0] (by kernel_rfl) (by kernel_rfl)) (hm.exApart (N := [⟨some b_1, 35, [(.int .i16 f0.fSteps), (.slice f0_fHammers_a f0.fHammers.length f0_fHammers_c)]⟩]) f0_fHammers_h (fun _ => List.not_mem_nil) [0] (by kernel_rfl)) ht_16) ?_)
      rintro w v w' hm ⟨o_17, cap_18, sp_19, _, rfl, hs_20, ho_21, rfl, hm'⟩
      refine ⟨_, hm.appW (ps := [(0, ⟨some b_1, 35, [(.int .i16 f0.fSteps), (.slice f0_fHammers_a f0.fHammers.length f0_fHammers_c)]⟩)]) (N := [⟨o_17, 113, row encGChoice t_3 sp_19⟩]) hm' (by kernel_rfl) (by kernel_rfl), jkO ?_⟩
      clear hm hm'
      refine jo_f [(0, 0), (0, 0)] (by kernel_rfl) ?_
      refine jo_end (by kernel_rfl) ?_
      refine jx_then ?_
      refine jc_ret ?_
      obtain rfl := Option.some.inj h
      exact jx_ret [] (.tuple #[(.slice (o_17.map fun b => ⟨b, 0, none⟩) t_3.length cap_18), (.int .i64 0)]) [] rfl (by kernel_rfl) (by kernel_rfl) (fun w hm => ⟨o_17, cap_18, sp_19, t_3.length, rfl, hs_20, ho_21, rfl, hm.pick [2] (by kernel_rfl) (by kernel_rfl)⟩)

/-! ### impl.within -/
noncomputable def impl_within (n0 : Int) (low1 : Int) (high2 : Int) : Option (Bool) := some ((decide (low1 ≤ n0)) && (decide (n0 ≤ high2)))
set_option maxRecDepth 100000 in
theorem impl_within.calls (n0 : Int) (low1 : Int) (high2 : Int) (w : World) (r : Bool) (h : impl_within n0 low1 high2 = some r) :
    Calls Try.prog 109 #[(.int .i64 n0), (.int .i64 low1), (.int .i64 high2)] w fun e w' => ∃ v, e = .returned v ∧ (v = (.bool r) ∧ Mem w [] [] w') := by
  rw [impl_within] at h
  refine enter (args := [(.int .i64 n0), (.int .i64 low1), (.int .i64 high2)]) Try.func109 rfl Try.ntmps109 (by kernel_rfl) (L := []) (W := []) (Mem.start w) ?_
  refine jc_seq ?_
  refine jc_region ?_
  refine jo_f [(0, 0)] (by kernel_rfl) ?_
  refine jo_end (by kernel_rfl) ?_
  refine jx_then ?_
  refine jc_seq ?_
  refine jc_region ?_
  refine jo_f [(0, 0), (0, 0), (0, 0), (0, 0), (0, 1), (0, 1), (0, 1), (0, 0), (0, 0)] (by kernel_rfl) ?_
  refine jo_end (by kernel_rfl) ?_
  refine jx_then ?_
  refine jc_ret ?_
  obtain rfl := Option.some.inj h
  exact jx_ret [] (.bool ((decide (low1 ≤ n0)) && (decide (n0 ≤ high2)))) [] rfl (by kernel_rfl) (by kernel_rfl) (fun w hm => ⟨rfl, hm.pick [] (by kernel_rfl) (by kernel_rfl)⟩)

/-! ### impl.size[impl.Hammer] -/
noncomputable def impl_size_Hammer (list0 : List GHammer) : Option (Int) := some (list0.length : Int)
set_option maxRecDepth 100000 in
theorem impl_size_Hammer.calls (list0 : List GHammer) (w : World) (r : Int) (list0_a : Option Addr) (list0_an : Nat) (list0_c : Nat) (list0_h : Rw w list0_a 2 encGHammer list0) (list0_hn : list0.length = list0_an) (h : impl_size_Hammer list0 = some r) :
    Calls Try.prog 134 #[(.slice list0_a list0_an list0_c)] w fun e w' => ∃ v, e = .returned v ∧ (v = (.int .i64 r) ∧ Mem w [] [] w') := by
  subst list0_hn
  rw [impl_size_Hammer] at h
  refine enter (args := [(.slice list0_a list0.length list0_c)]) Try.func134 rfl Try.ntmps134 (by kernel_rfl) (L := []) (W := []) (Mem.start w) ?_
  refine jc_seq ?_
  refine jc_region ?_
  refine jo_f [(0, 0)] (by kernel_rfl) ?_
  refine jo_end (by kernel_rfl) ?_
  refine jx_then ?_
  refine jc_seq ?_
  refine jc_region ?_
  refine jo_f [(0, 0), (0, 0), (0, 0)] (by kernel_rfl) ?_
  refine jo_end (by kernel_rfl) ?_
  refine jx_then ?_
  refine jc_ret ?_
  obtain rfl := Option.some.inj h
  exact jx_ret [] (.int .i64 (list0.length : Int)) [] rfl (by kernel_rfl) (by kernel_rfl) (fun w hm => ⟨rfl, hm.pick [] (by kernel_rfl) (by kernel_rfl)⟩)

/-! ### impl.isPitch -/
noncomputable def impl_isPitch (n0 : Int) : Option (Bool) := (impl_within n0 0 47).bind fun t_1 => some t_1
set_option maxRecDepth 100000 in
theorem impl_isPitch.calls (n0 : Int) (w : World) (r : Bool) (h : impl_isPitch n0 = some r) :
    Calls Try.prog 137 #[(.int .i64 n0)] w fun e w' => ∃ v, e = .returned v ∧ (v = (.bool r) ∧ Mem w [] [] w') := by
  rw [impl_isPitch] at h
  refine enter (args := [(.int .i64 n0)]) Try.func137 rfl Try.ntmps137 (by kernel_rfl) (L := []) (W := []) (Mem.start w) ?_
  refine jc_seq ?_
  refine jc_region ?_
  refine jo_f [(0, 0)] (by kernel_rfl) ?_
  refine jo_end (by kernel_rfl) ?_
  refine jx_then ?_
  refine jc_seq ?_
  refine jc_region ?_
  refine jo_f [(0, 0)] (by kernel_rfl) ?_
  obtain ⟨t_1, ht_1, h⟩ := bd h
  refine toO (by kernel_rfl) (p_call 0 109 #[(.int .i64 n0), (.int .i64 0), (.int .i64 47)] (by kernel_rfl) (by kernel_rfl) (fun w hm => impl_within.calls n0 0 47 w _ ht_1) ?_)
  rintro w v w' hm ⟨rfl, hm'⟩
  refine ⟨_, hm.app hm', jkO ?_⟩
  clear hm hm'
  refine jo_f [(0, 0)] (by kernel_rfl) ?_
  refine jo_end (by kernel_rfl) ?_
  refine jx_then ?_
  refine jc_ret ?_
  obtain rfl := Option.some.inj h
  exact jx_ret [] (.bool t_1) [] rfl (by kernel_rfl) (by kernel_rfl) (fun w hm => ⟨rfl, hm.pick [] (by kernel_rfl) (by kernel_rfl)⟩)

/-! ### impl.ValidFrame$1 -/
noncomputable def impl_ValidFrame_1 (h0 : GHammer) (p1 : GFrame) : Option (Bool) := (impl_isPitch (w64 h0.fPitch)).bind fun t_1 => (if (!t_1) = true then some true else (impl_within (w64 h0.fReady) 1 (if (w64 p1.fSteps) < 20 then (w64 p1.fSteps) else 20)).bind fun t_2 => some (!t_2))
set_option maxRecDepth 100000 in
theorem impl_ValidFrame_1.calls (h0 : GHammer) (p1 : GFrame) (w : World) (r : Bool) (p1_fHammers_a : Option Addr) (p1_fHammers_an : Nat) (p1_fHammers_c : Nat) (p1_fHammers_h : Rw w p1_fHammers_a 2 encGHammer p1.fHammers) (p1_fHammers_hn : p1.fHammers.length = p1_fHammers_an) (p1_b : Nat) (hm0 : Mem w (bs [some p1_b]) [⟨some p1_b, 35, [(.int .i16 p1.fSteps), (.slice p1_fHammers_a p1_fHammers_an p1_fHammers_c)]⟩] w) (p1_fHammers_ha : p1.fHammers ≠ [] → aB p1_fHammers_a ∉ bs [some p1_b]) (h : impl_ValidFrame_1 h0 p1 = some r) :
    Calls Try.prog 136 #[(.agg #[(.int .i8 h0.fPitch), (.int .i8 h0.fReady)]), (.pointer (some ⟨p1_b, 0, none⟩))] w fun e w' => ∃ v, e = .returned v ∧ (v = (.bool r) ∧ Mem w (bs [some p1_b]) [⟨some p1_b, 35, [(.int .i16 p1.fSteps), (.slice p1_fHammers_a p1_fHammers_an p1_fHammers_c)]⟩] w') := by
  subst p1_fHammers_hn
  rw [impl_ValidFrame_1] at h
  refine enter (args := [(.agg #[(.int .i8 h0.fPitch), (.int .i8 h0.fReady)]), (.pointer (some ⟨p1_b, 0, none⟩))]) Try.func136 rfl Try.ntmps136 (by kernel_rfl) (L := [⟨some p1_b, 35, [(.int .i16 p1.fSteps), (.slice p1_fHammers_a p1.fHammers.length p1_fHammers_c)]⟩]) (W := bs [some p1_b]) hm0 ?_
  refine jc_seq ?_
  refine jc_region ?_
  refine toO (by kernel_rfl) (p_a 0 [0] (by kernel_rfl) (fun b => by kernel_rfl) (fun b_1 => jkO ?_))
  refine jo_f [(0, 0)] (by kernel_rfl) ?_
  refine jo_end (by kernel_rfl) ?_
  refine jx_then ?_
  refine jc_seq ?_
  refine jc_region ?_
  refine jo_f [(0, 0), (1, 0), (0, 0)] (by kernel_rfl) ?_
  obtain ⟨t_1, ht_2, h⟩ := bd h
  refine toO (by kernel_rfl) (p_call 0 137 #[(.int .i64 (w64 h0.fPitch))] (by kernel_rfl) (by kernel_rfl) (fun w hm => impl_isPitch.calls (w64 h0.fPitch) w _ ht_2) ?_)
  rintro w v w' hm ⟨rfl, hm'⟩
  refine ⟨_, hm.app hm', jkO ?_⟩
  clear hm hm'
  refine jo_f [(0, 0), (0, 0), (0, 1), (1, 1), (0, 1), (0, 1), (0, 1), (0, 1), (0, 1)] (by kernel_rfl) ?_
  refine jo_split 9 (!t_1) (by kernel_rfl) (fun hc_3 => ?_) (fun hc_3 => ?_)
  · replace h := ifT hc_3 h
    refine jo_f [(0, 3), (0, 3), (0, 4), (0, 0)] (by kernel_rfl) ?_
    refine jo_end (by kernel_rfl) ?_
    refine jx_then ?_
    refine jc_ret ?_
    obtain rfl := Option.some.inj h
    exact jx_ret [] (.bool true) [] rfl (by kernel_rfl) (by kernel_rfl) (fun w hm => ⟨rfl, hm.pick [0] (by kernel_rfl) (by kernel_rfl)⟩)
  · replace h := ifF hc_3 h
    obtain ⟨t_2, ht_4, h⟩ := bd h
    refine toO (by kernel_rfl) (p_call 2 109 #[(.int .i64 (w64 h0.fReady)), (.int .i64 1), (.int .i64 (if (w64 p1.fSteps) < 20 then (w64 p1.fSteps) else 20))] (by kernel_rfl) (by kernel_rfl) (fun w hm => impl_within.calls (w64 h0.fReady) 1 (if (w64 p1.fSteps) < 20 then (w64 p1.fSteps) else 20) w _ ht_4) ?_)
    rintro w v w' hm ⟨rfl, hm'⟩
    refine ⟨_, hm.app hm', jkO ?_⟩
    clear hm hm'
    refine jo_f [(0, 2), (0, 5), (0, 0)] (by kernel_rfl) ?_
    refine jo_end (by kernel_rfl) ?_
    refine jx_then ?_
    refine jc_ret ?_
    obtain rfl := Option.some.inj h
    exact jx_ret [] (.bool (!t_2)) [] rfl (by kernel_rfl) (by kernel_rfl) (fun w hm => ⟨rfl, hm.pick [0] (by kernel_rfl) (by kernel_rfl)⟩)

/-! ### slices.IndexFunc[[]impl.Hammer,impl.Hammer] -/
noncomputable def slices_IndexFunc_Hammer_at_impl_ValidFrame_1.k_1 : Option (Int) := some (-1)
noncomputable def slices_IndexFunc_Hammer_at_impl_ValidFrame_1.l_3 (s0 : List GHammer) (g1c0 : GFrame) : Int → Option ((Int) ⊕ (Int ⊕ Unit))
  | i_2 => (if (decide (i_2 < (s0.length : Int))) = true then (ix s0 i_2).bind fun x_5 => (impl_ValidFrame_1 x_5 g1c0).bind fun t_6 => (if t_6 = true then some (.inr (.inl i_2)) else some (.inl (w64 (i_2 + 1)))) else some (.inr (.inr ())))
noncomputable def slices_IndexFunc_Hammer_at_impl_ValidFrame_1 (s0 : List GHammer) (g1c0 : GFrame) : Option (Int) := (loop (slices_IndexFunc_Hammer_at_impl_ValidFrame_1.l_3 s0 g1c0) 0).bind fun t_4 => match t_4 with | .inl p => some p | .inr p => slices_IndexFunc_Hammer_at_impl_ValidFrame_1.k_1
set_option maxRecDepth 100000 in
theorem slices_IndexFunc_Hammer_at_impl_ValidFrame_1.calls (s0 : List GHammer) (g1c0 : GFrame) (w : World) (r : Int) (s0_a : Option Addr) (s0_an : Nat) (s0_c : Nat) (s0_h : Rw w s0_a 2 encGHammer s0) (s0_hn : s0.length = s0_an) (g1c0_fHammers_a : Option Addr) (g1c0_fHammers_an : Nat) (g1c0_fHammers_c : Nat) (g1c0_fHammers_h : Rw w g1c0_fHammers_a 2 encGHammer g1c0.fHammers) (g1c0_fHammers_hn : g1c0.fHammers.length = g1c0_fHammers_an) (g1c0_b : Nat) (hm0 : Mem w (bs [some g1c0_b]) [⟨some g1c0_b, 35, [(.int .i16 g1c0.fSteps), (.slice g1c0_fHammers_a g1c0_fHammers_an g1c0_fHammers_c)]⟩] w) (s0_ha : s0 ≠ [] → aB s0_a ∉ bs [some g1c0_b]) (g1c0_fHammers_ha : g1c0.fHammers ≠ [] → aB g1c0_fHammers_a ∉ bs [some g1c0_b]) (h : slices_IndexFunc_Hammer_at_impl_ValidFrame_1 s0 g1c0 = some r) :
    Calls Try.prog 172 #[(.slice s0_a s0_an s0_c), (.func (.func 136) #[] #[(.pointer (some ⟨g1c0_b, 0, none⟩))])] w fun e w' => ∃ v, e = .returned v ∧ (v = (.int .i64 r) ∧ Mem w (bs [some g1c0_b]) [⟨some g1c0_b, 35, [(.int .i16 g1c0.fSteps), (.slice g1c0_fHammers_a g1c0_fHammers_an g1c0_fHammers_c)]⟩] w') := by
  subst s0_hn g1c0_fHammers_hn
  rw [slices_IndexFunc_Hammer_at_impl_ValidFrame_1] at h
  refine enter (args := [(.slice s0_a s0.length s0_c), (.func (.func 136) #[] #[(.pointer (some ⟨g1c0_b, 0, none⟩))])]) Try.func172 rfl Try.ntmps172 (by kernel_rfl) (L := [⟨some g1c0_b, 35, [(.int .i16 g1c0.fSteps), (.slice g1c0_fHammers_a g1c0.fHammers.length g1c0_fHammers_c)]⟩]) (W := bs [some g1c0_b]) hm0 ?_
  refine jc_seq ?_
  refine jc_region ?_
  refine jo_f [(0, 0)] (by kernel_rfl) ?_
  refine jo_end (by kernel_rfl) ?_
  refine jx_then ?_
  refine jc_seq ?_
  refine jc_seq ?_
  refine jc_region ?_
  refine jo_f [(0, 0), (0, 0), (0, 0)] (by kernel_rfl) ?_
  refine jo_end (by kernel_rfl) ?_
  refine jx_then ?_
  refine jc_meet (fun (_ : Unit) => slices_IndexFunc_Hammer_at_impl_ValidFrame_1.k_1 = some r) (fun (_ : Unit) => [(4, [], (.int .i64 0))]) (fun (_ : Unit) => [⟨some g1c0_b, 35, [(.int .i16 g1c0.fSteps), (.slice g1c0_fHammers_a g1c0.fHammers.length g1c0_fHammers_c)]⟩]) ?_ ?_
  · refine jc_block ?_
    obtain ⟨t_4, ht_40, hr_31⟩ := bd h
    refine jc_loop (fun (s : Int) (x : Unit) => match s, x with | i_2, _ => True) (fun (s : Int) (x : Unit) => match s, x with | i_2, _ => [(0, [], (.slice s0_a s0.length s0_c)), (1, [], (.func (.func 136) #[] #[(.pointer (some ⟨g1c0_b, 0, none⟩))])), (4, [], (.int .i64 0)), (7, [], (.int .i64 (s0.length : Int))), (8, [], (.int .i64 i_2))]) (fun (s : Int) (x : Unit) => match s, x with | i_2, _ => [⟨some g1c0_b, 35, [(.int .i16 g1c0.fSteps), (.slice g1c0_fHammers_a g1c0.fHammers.length g1c0_fHammers_c)]⟩]) ht_40 () trivial (by kernel_rfl) [0] (by kernel_rfl) (by kernel_rfl) ?_
    rintro i_2 _ y_32 _ h
    rw [slices_IndexFunc_Hammer_at_impl_ValidFrame_1.l_3] at h
    refine jc_seq ?_
    refine jc_region ?_
    refine jo_f [(0, 0)] (by kernel_rfl) ?_
    refine jo_end (by kernel_rfl) ?_
    refine jx_then ?_
    refine jc_seq ?_
    refine jc_cond (decide (i_2 < (s0.length : Int))) (by kernel_rfl) (fun hc_34 => ?_) (fun hc_34 => ?_)
    · replace h := ifT hc_34 h
      refine jc_skip ?_
      refine jx_then ?_
      refine jc_seq ?_
      refine jc_block ?_
      refine jc_seq ?_
      refine jc_region ?_
      refine jo_f [(0, 0), (0, 0)] (by kernel_rfl) ?_
      refine jo_end (by kernel_rfl) ?_
      refine jx_then ?_
      refine jc_seq ?_
      refine jc_region ?_
      refine jo_f [(0, 0), (0, 0), (0, 0)] (by kernel_rfl) ?_
      obtain ⟨x_5, hx_35, h⟩ := bd h
      refine toO (by kernel_rfl) (p_idx 0 s0_a s0.length i_2 2 (by kernel_rfl) (by kernel_rfl) (ix_some hx_35).1 (ltn hx_35 rfl) (s0_h.sp hx_35) (jkO ?_))
      refine toO (by kernel_rfl) (p_ld 0 (aB s0_a) (aO s0_a + i_2.toNat * 2) true (encGHammer x_5) (by kernel_rfl) (by kernel_rfl) (by kernel_rfl) (fun w hm => ((hm.exRowW s0_h s0_ha).at hx_35)) (jkO ?_))
      obtain ⟨t_6, ht_36, h⟩ := bd h
      refine toO (by kernel_rfl) (p_call 0 136 #[(.agg #[(.int .i8 x_5.fPitch), (.int .i8 x_5.fReady)]), (.pointer (some ⟨g1c0_b, 0, none⟩))] (by kernel_rfl) (by kernel_rfl) (fun w hm => impl_ValidFrame_1.calls x_5 g1c0 w _ g1c0_fHammers_a g1c0.fHammers.length g1c0_fHammers_c (hm.exRowW g1c0_fHammers_h g1c0_fHammers_ha) rfl g1c0_b (hm.pass (N := [⟨some g1c0_b, 35, [(.int .i16 g1c0.fSteps), (.slice g1c0_fHammers_a g1c0.fHammers.length g1c0_fHammers_c)]⟩]) [0] (by kernel_rfl) (by kernel_rfl)) (hm.exApart (N := [⟨some g1c0_b, 35, [(.int .i16 g1c0.fSteps), (.slice g1c0_fHammers_a g1c0.fHammers.length g1c0_fHammers_c)]⟩]) g1c0_fHammers_h g1c0_fHammers_ha [0] (by kernel_rfl)) ht_36) ?_)
      rintro w v w' hm ⟨rfl, hm'⟩
      refine ⟨_, hm.appW (ps := [(0, ⟨some g1c0_b, 35, [(.int .i16 g1c0.fSteps), (.slice g1c0_fHammers_a g1c0.fHammers.length g1c0_fHammers_c)]⟩)]) (N := []) hm' (by kernel_rfl) (by kernel_rfl), jkO ?_⟩
      clear hm hm'
      refine jo_end (by kernel_rfl) ?_
      refine jx_then ?_
      refine jc_cond t_6 (by kernel_rfl) (fun hc_37 => ?_) (fun hc_37 => ?_)
      · replace h := ifT hc_37 h
        refine jc_seq ?_
        refine jc_region ?_
        refine jo_f [(0, 0), (0, 0)] (by kernel_rfl) ?_
        refine jo_end (by kernel_rfl) ?_
        refine jx_then ?_
        refine jc_ret ?_
        refine jx_inr ?_
        refine jx_thenr ?_
        refine jx_leaver (.inl i_2) (Option.some.inj h).symm (fun e_38 => ?_)
        subst e_38
        refine jx_inr ?_
        refine jx_thenr ?_
        refine jx_thenr ?_
        obtain rfl := Option.some.inj hr_31
        exact jx_ret [] (.int .i64 i_2) [] rfl (by kernel_rfl) (by kernel_rfl) (fun w hm => ⟨rfl, hm.pick [0] (by kernel_rfl) (by kernel_rfl)⟩)
      · replace h := ifF hc_37 h
        refine jc_skip ?_
        refine jx_inn ?_
        refine jx_then ?_
        refine jc_region ?_
        refine jo_f [(0, 0), (0, 0)] (by kernel_rfl) ?_
        refine jo_end (by kernel_rfl) ?_
        exact jx_back (w64 (i_2 + 1)) () (Option.some.inj h).symm trivial [0] (by kernel_rfl) (by kernel_rfl) (by kernel_rfl)
    · replace h := ifF hc_34 h
      refine jc_exit ?_
      refine jx_thenx ?_
      refine jx_leave (.inr ()) (Option.some.inj h).symm (fun e_39 => ?_)
      subst e_39
      refine jx_ine ?_
      exact jx_meet () hr_31 (by kernel_rfl) [0] (by kernel_rfl) (by kernel_rfl)
  · rintro _ h
    replace h : slices_IndexFunc_Hammer_at_impl_ValidFrame_1.k_1 = some r := h
    rw [slices_IndexFunc_Hammer_at_impl_ValidFrame_1.k_1] at h
    refine jx_then ?_
    refine jc_seq ?_
    refine jc_region ?_
    refine jo_f [(0, 0)] (by kernel_rfl) ?_
    refine jo_end (by kernel_rfl) ?_
    refine jx_then ?_
    refine jc_ret ?_
    obtain rfl := Option.some.inj h
    exact jx_ret [] (.int .i64 (-1)) [] rfl (by kernel_rfl) (by kernel_rfl) (fun w hm => ⟨rfl, hm.pick [0] (by kernel_rfl) (by kernel_rfl)⟩)

/-! ### slices.ContainsFunc[[]impl.Hammer,impl.Hammer] -/
noncomputable def slices_ContainsFunc_Hammer_at_impl_ValidFrame_1 (s0 : List GHammer) (g1c0 : GFrame) : Option (Bool) := (slices_IndexFunc_Hammer_at_impl_ValidFrame_1 s0 g1c0).bind fun t_1 => some (decide (t_1 ≥ 0))
set_option maxRecDepth 100000 in
theorem slices_ContainsFunc_Hammer_at_impl_ValidFrame_1.calls (s0 : List GHammer) (g1c0 : GFrame) (w : World) (r : Bool) (s0_a : Option Addr) (s0_an : Nat) (s0_c : Nat) (s0_h : Rw w s0_a 2 encGHammer s0) (s0_hn : s0.length = s0_an) (g1c0_fHammers_a : Option Addr) (g1c0_fHammers_an : Nat) (g1c0_fHammers_c : Nat) (g1c0_fHammers_h : Rw w g1c0_fHammers_a 2 encGHammer g1c0.fHammers) (g1c0_fHammers_hn : g1c0.fHammers.length = g1c0_fHammers_an) (g1c0_b : Nat) (hm0 : Mem w (bs [some g1c0_b]) [⟨some g1c0_b, 35, [(.int .i16 g1c0.fSteps), (.slice g1c0_fHammers_a g1c0_fHammers_an g1c0_fHammers_c)]⟩] w) (s0_ha : s0 ≠ [] → aB s0_a ∉ bs [some g1c0_b]) (g1c0_fHammers_ha : g1c0.fHammers ≠ [] → aB g1c0_fHammers_a ∉ bs [some g1c0_b]) (h : slices_ContainsFunc_Hammer_at_impl_ValidFrame_1 s0 g1c0 = some r) :
    Calls Try.prog 135 #[(.slice s0_a s0_an s0_c), (.func (.func 136) #[] #[(.pointer (some ⟨g1c0_b, 0, none⟩))])] w fun e w' => ∃ v, e = .returned v ∧ (v = (.bool r) ∧ Mem w (bs [some g1c0_b]) [⟨some g1c0_b, 35, [(.int .i16 g1c0.fSteps), (.slice g1c0_fHammers_a g1c0_fHammers_an g1c0_fHammers_c)]⟩] w') := by
  subst s0_hn g1c0_fHammers_hn
  rw [slices_ContainsFunc_Hammer_at_impl_ValidFrame_1] at h
  refine enter (args := [(.slice s0_a s0.length s0_c), (.func (.func 136) #[] #[(.pointer (some ⟨g1c0_b, 0, none⟩))])]) Try.func135 rfl Try.ntmps135 (by kernel_rfl) (L := [⟨some g1c0_b, 35, [(.int .i16 g1c0.fSteps), (.slice g1c0_fHammers_a g1c0.fHammers.length g1c0_fHammers_c)]⟩]) (W := bs [some g1c0_b]) hm0 ?_
  refine jc_seq ?_
  refine jc_region ?_
  refine jo_f [(0, 0)] (by kernel_rfl) ?_
  refine jo_end (by kernel_rfl) ?_
  refine jx_then ?_
  refine jc_seq ?_
  refine jc_region ?_
  refine jo_f [(0, 0), (0, 0)] (by kernel_rfl) ?_
  obtain ⟨t_1, ht_1, h⟩ := bd h
  refine toO (by kernel_rfl) (p_call 0 172 #[(.slice s0_a s0.length s0_c), (.func (.func 136) #[] #[(.pointer (some ⟨g1c0_b, 0, none⟩))])] (by kernel_rfl) (by kernel_rfl) (fun w hm => slices_IndexFunc_Hammer_at_impl_ValidFrame_1.calls s0 g1c0 w _ s0_a s0.length s0_c (hm.exRowW s0_h s0_ha) rfl g1c0_fHammers_a g1c0.fHammers.length g1c0_fHammers_c (hm.exRowW g1c0_fHammers_h g1c0_fHammers_ha) rfl g1c0_b (hm.pass (N := [⟨some g1c0_b, 35, [(.int .i16 g1c0.fSteps), (.slice g1c0_fHammers_a g1c0.fHammers.length g1c0_fHammers_c)]⟩]) [0] (by kernel_rfl) (by kernel_rfl)) (hm.exApart (N := [⟨some g1c0_b, 35, [(.int .i16 g1c0.fSteps), (.slice g1c0_fHammers_a g1c0.fHammers.length g1c0_fHammers_c)]⟩]) s0_h s0_ha [0] (by kernel_rfl)) (hm.exApart (N := [⟨some g1c0_b, 35, [(.int .i16 g1c0.fSteps), (.slice g1c0_fHammers_a g1c0.fHammers.length g1c0_fHammers_c)]⟩]) g1c0_fHammers_h g1c0_fHammers_ha [0] (by kernel_rfl)) ht_1) ?_)
  rintro w v w' hm ⟨rfl, hm'⟩
  refine ⟨_, hm.appW (ps := [(0, ⟨some g1c0_b, 35, [(.int .i16 g1c0.fSteps), (.slice g1c0_fHammers_a g1c0.fHammers.length g1c0_fHammers_c)]⟩)]) (N := []) hm' (by kernel_rfl) (by kernel_rfl), jkO ?_⟩
  clear hm hm'
  refine jo_f [(0, 0), (0, 0)] (by kernel_rfl) ?_
  refine jo_end (by kernel_rfl) ?_
  refine jx_then ?_
  refine jc_ret ?_
  obtain rfl := Option.some.inj h
  exact jx_ret [] (.bool (decide (t_1 ≥ 0))) [] rfl (by kernel_rfl) (by kernel_rfl) (fun w hm => ⟨rfl, hm.pick [0] (by kernel_rfl) (by kernel_rfl)⟩)

/-! ### impl.ValidFrame -/
noncomputable def impl_ValidFrame (f0 : GFrame) : Option (Bool) := (impl_within (w64 f0.fSteps) 2 96).bind fun t_1 => (if t_1 = true then (impl_size_Hammer f0.fHammers).bind fun t_2 => (impl_within t_2 1 24).bind fun t_3 => (if t_3 = true then (slices_ContainsFunc_Hammer_at_impl_ValidFrame_1 f0.fHammers f0).bind fun t_4 => some (!t_4) else some false) else some false)
set_option maxRecDepth 100000 in
theorem impl_ValidFrame.calls (f0 : GFrame) (w : World) (r : Bool) (f0_fHammers_a : Option Addr) (f0_fHammers_an : Nat) (f0_fHammers_c : Nat) (f0_fHammers_h : Rw w f0_fHammers_a 2 encGHammer f0.fHammers) (f0_fHammers_hn : f0.fHammers.length = f0_fHammers_an) (h : impl_ValidFrame f0 = some r) :
    Calls Try.prog 72 #[(.agg #[(.int .i16 f0.fSteps), (.slice f0_fHammers_a f0_fHammers_an f0_fHammers_c)])] w fun e w' => ∃ v, e = .returned v ∧ (v = (.bool r) ∧ Mem w [] [] w') := by
  subst f0_fHammers_hn
  rw [impl_ValidFrame] at h
  refine enter (args := [(.agg #[(.int .i16 f0.fSteps), (.slice f0_fHammers_a f0.fHammers.length f0_fHammers_c)])]) Try.func72 rfl Try.ntmps72 (by kernel_rfl) (L := []) (W := []) (Mem.start w) ?_
  refine jc_seq ?_
  refine jc_region ?_
  refine toO (by kernel_rfl) (p_a 0 [0] (by kernel_rfl) (fun b => by kernel_rfl) (fun b_1 => jkO ?_))
  refine jo_f [(0, 0)] (by kernel_rfl) ?_
  refine jo_end (by kernel_rfl) ?_
  refine jx_then ?_
  refine jc_seq ?_
  refine jc_region ?_
  refine jo_f [(0, 0), (0, 0), (0, 0)] (by kernel_rfl) ?_
  obtain ⟨t_1, ht_2, h⟩ := bd h
  refine toO (by kernel_rfl) (p_call 0 109 #[(.int .i64 (w64 f0.fSteps)), (.int .i64 2), (.int .i64 96)] (by kernel_rfl) (by kernel_rfl) (fun w hm => impl_within.calls (w64 f0.fSteps) 2 96 w _ ht_2) ?_)
  rintro w v w' hm ⟨rfl, hm'⟩
  refine ⟨_, hm.app hm', jkO ?_⟩
  clear hm hm'
  refine jo_f [(0, 0), (0, 1), (0, 1)] (by kernel_rfl) ?_
  refine jo_split 7 t_1 (by kernel_rfl) (fun hc_3 => ?_) (fun hc_3 => ?_)
  · replace h := ifT hc_3 h
    obtain ⟨t_2, ht_4, h⟩ := bd h
    refine toO (by kernel_rfl) (p_call 2 134 #[(.slice f0_fHammers_a f0.fHammers.length f0_fHammers_c)] (by kernel_rfl) (by kernel_rfl) (fun w hm => impl_size_Hammer.calls f0.fHammers w _ f0_fHammers_a f0.fHammers.length f0_fHammers_c (hm.exRow f0_fHammers_h List.not_mem_nil) rfl ht_4) ?_)
    rintro w v w' hm ⟨rfl, hm'⟩
    refine ⟨_, hm.app hm', jkO ?_⟩
    clear hm hm'
    obtain ⟨t_3, ht_5, h⟩ := bd h
    refine toO (by kernel_rfl) (p_call 2 109 #[(.int .i64 t_2), (.int .i64 1), (.int .i64 24)] (by kernel_rfl) (by kernel_rfl) (fun w hm => impl_within.calls t_2 1 24 w _ ht_5) ?_)
    rintro w v w' hm ⟨rfl, hm'⟩
    refine ⟨_, hm.app hm', jkO ?_⟩
    clear hm hm'
    refine jo_f [(0, 4), (0, 0), (0, 1), (0, 1), (0, 1)] (by kernel_rfl) ?_
    refine jo_split 13 t_3 (by kernel_rfl) (fun hc_6 => ?_) (fun hc_6 => ?_)
    · replace h := ifT hc_6 h
      obtain ⟨t_4, ht_7, h⟩ := bd h
      refine toO (by kernel_rfl) (p_call 2 135 #[(.slice f0_fHammers_a f0.fHammers.length f0_fHammers_c), (.func (.func 136) #[] #[(.pointer (some ⟨b_1, 0, none⟩))])] (by kernel_rfl) (by kernel_rfl) (fun w hm => slices_ContainsFunc_Hammer_at_impl_ValidFrame_1.calls f0.fHammers f0 w _ f0_fHammers_a f0.fHammers.length f0_fHammers_c (hm.exRow f0_fHammers_h List.not_mem_nil) rfl f0_fHammers_a f0.fHammers.length f0_fHammers_c (hm.exRow f0_fHammers_h List.not_mem_nil) rfl b_1 (hm.pass (N := [⟨some b_1, 35, [(.int .i16 f0.fSteps), (.slice f0_fHammers_a f0.fHammers.length f0_fHammers_c)]⟩]) [0] (by kernel_rfl) (by kernel_rfl)) (hm.exApart (N := [⟨some b_1, 35, [(.int .i16 f0.fSteps), (.slice f0_fHammers_a f0.fHammers.length f0_fHammers_c)]⟩]) f0_fHammers_h (fun _ => List.not_mem_nil) [0] (by kernel_rfl)) (hm.exApart (N := [⟨some b_1, 35, [(.int .i16 f0.fSteps), (.slice f0_fHammers_a f0.fHammers.length f0_fHammers_c)]⟩]) f0_fHammers_h (fun _ => List.not_mem_nil) [0] (by kernel_rfl)) ht_7) ?_)
      rintro w v w' hm ⟨rfl, hm'⟩
      refine ⟨_, hm.appW (ps := [(0, ⟨some b_1, 35, [(.int .i16 f0.fSteps), (.slice f0_fHammers_a f0.fHammers.length f0_fHammers_c)]⟩)]) (N := []) hm' (by kernel_rfl) (by kernel_rfl), jkO ?_⟩
      clear hm hm'
      refine jo_f [(0, 2), (0, 4), (0, 0)] (by kernel_rfl) ?_
      refine jo_end (by kernel_rfl) ?_
      refine jx_then ?_
      refine jc_ret ?_
      obtain rfl := Option.some.inj h
      exact jx_ret [] (.bool (!t_4)) [] rfl (by kernel_rfl) (by kernel_rfl) (fun w hm => ⟨rfl, hm.pick [] (by kernel_rfl) (by kernel_rfl)⟩)
    · replace h := ifF hc_6 h
      refine jo_f [(0, 3), (0, 3), (0, 5), (0, 0)] (by kernel_rfl) ?_
      refine jo_end (by kernel_rfl) ?_
      refine jx_then ?_
      refine jc_ret ?_
      obtain rfl := Option.some.inj h
      exact jx_ret [] (.bool false) [] rfl (by kernel_rfl) (by kernel_rfl) (fun w hm => ⟨rfl, hm.pick [] (by kernel_rfl) (by kernel_rfl)⟩)
  · replace h := ifF hc_3 h
    refine jo_f [(0, 3), (0, 3), (0, 5), (0, 0), (0, 3), (0, 3), (0, 3), (0, 3), (0, 3), (0, 5), (0, 0)] (by kernel_rfl) ?_
    refine jo_end (by kernel_rfl) ?_
    refine jx_then ?_
    refine jc_ret ?_
    obtain rfl := Option.some.inj h
    exact jx_ret [] (.bool false) [] rfl (by kernel_rfl) (by kernel_rfl) (fun w hm => ⟨rfl, hm.pick [] (by kernel_rfl) (by kernel_rfl)⟩)

/-! ### impl.isNote -/
noncomputable def impl_isNote (n0 : GNote) : Option (Bool) := (impl_within (w64 n0.fAt) 0 199).bind fun t_1 => (if t_1 = true then (impl_isPitch (w64 n0.fPitch)).bind fun t_2 => some t_2 else some false)
set_option maxRecDepth 100000 in
theorem impl_isNote.calls (n0 : GNote) (w : World) (r : Bool) (h : impl_isNote n0 = some r) :
    Calls Try.prog 73 #[(.agg #[(.int .i16 n0.fAt), (.int .i8 n0.fPitch)])] w fun e w' => ∃ v, e = .returned v ∧ (v = (.bool r) ∧ Mem w [] [] w') := by
  rw [impl_isNote] at h
  refine enter (args := [(.agg #[(.int .i16 n0.fAt), (.int .i8 n0.fPitch)])]) Try.func73 rfl Try.ntmps73 (by kernel_rfl) (L := []) (W := []) (Mem.start w) ?_
  refine jc_seq ?_
  refine jc_region ?_
  refine toO (by kernel_rfl) (p_a 0 [0] (by kernel_rfl) (fun b => by kernel_rfl) (fun b_1 => jkO ?_))
  refine jo_f [(0, 0)] (by kernel_rfl) ?_
  refine jo_end (by kernel_rfl) ?_
  refine jx_then ?_
  refine jc_seq ?_
  refine jc_region ?_
  refine jo_f [(0, 0), (0, 0), (0, 0)] (by kernel_rfl) ?_
  obtain ⟨t_1, ht_2, h⟩ := bd h
  refine toO (by kernel_rfl) (p_call 0 109 #[(.int .i64 (w64 n0.fAt)), (.int .i64 0), (.int .i64 199)] (by kernel_rfl) (by kernel_rfl) (fun w hm => impl_within.calls (w64 n0.fAt) 0 199 w _ ht_2) ?_)
  rintro w v w' hm ⟨rfl, hm'⟩
  refine ⟨_, hm.app hm', jkO ?_⟩
  clear hm hm'
  refine jo_f [(0, 0), (0, 1), (0, 1), (0, 1)] (by kernel_rfl) ?_
  refine jo_split 7 t_1 (by kernel_rfl) (fun hc_3 => ?_) (fun hc_3 => ?_)
  · replace h := ifT hc_3 h
    obtain ⟨t_2, ht_4, h⟩ := bd h
    refine toO (by kernel_rfl) (p_call 2 137 #[(.int .i64 (w64 n0.fPitch))] (by kernel_rfl) (by kernel_rfl) (fun w hm => impl_isPitch.calls (w64 n0.fPitch) w _ ht_4) ?_)
    rintro w v w' hm ⟨rfl, hm'⟩
    refine ⟨_, hm.app hm', jkO ?_⟩
    clear hm hm'
    refine jo_f [(0, 4), (0, 0)] (by kernel_rfl) ?_
    refine jo_end (by kernel_rfl) ?_
    refine jx_then ?_
    refine jc_ret ?_
    obtain rfl := Option.some.inj h
    exact jx_ret [] (.bool t_2) [] rfl (by kernel_rfl) (by kernel_rfl) (fun w hm => ⟨rfl, hm.pick [] (by kernel_rfl) (by kernel_rfl)⟩)
  · replace h := ifF hc_3 h
    refine jo_f [(0, 3), (0, 5), (0, 0)] (by kernel_rfl) ?_
    refine jo_end (by kernel_rfl) ?_
    refine jx_then ?_
    refine jc_ret ?_
    obtain rfl := Option.some.inj h
    exact jx_ret [] (.bool false) [] rfl (by kernel_rfl) (by kernel_rfl) (fun w hm => ⟨rfl, hm.pick [] (by kernel_rfl) (by kernel_rfl)⟩)

/-! ### impl.nearest -/
noncomputable def impl_nearest.k_2 (xs_1 : List Int) : Option ((List Int)) := some xs_1
noncomputable def impl_nearest.l_5 (most0 : Int) : ((List Int) × Int) → Option (((List Int) × Int) ⊕ ((List Int)))
  | (xs_3, i_4) => (if (decide (i_4 ≤ most0)) = true then (if xs_3.length + [(w8 (0 - i_4)), i_4].length ≤ 4294967296 then some (.inl ((xs_3 ++ [(w8 (0 - i_4)), i_4]), (w8 (i_4 + 1)))) else none) else some (.inr xs_3))
noncomputable def impl_nearest (most0 : Int) : Option ((List Int)) := (loop (impl_nearest.l_5 most0) ([0], 1)).bind fun t_6 => impl_nearest.k_2 t_6
set_option maxRecDepth 100000 in
theorem impl_nearest.calls (most0 : Int) (w : World) (r : (List Int)) (h : impl_nearest most0 = some r) :
    Calls Try.prog 138 #[(.int .i8 most0)] w fun e w' => ∃ v, e = .returned v ∧ (∃ (o0 : Option Nat) (c0 : Nat) (s0 : List Value) (n0 : Nat), r.length = n0 ∧ (o0 ≠ none → n0 ≤ c0 ∧ s0.length = (c0 - n0) * 1) ∧ (o0 = none → r = [] ∧ c0 = 0) ∧ v = .slice (o0.map fun b => ⟨b, 0, none⟩) n0 c0 ∧ Mem w [] [⟨o0, 26, row encI8 r s0⟩] w') := by
  rw [impl_nearest] at h
  refine enter (args := [(.int .i8 most0)]) Try.func138 rfl Try.ntmps138 (by kernel_rfl) (L := []) (W := []) (Mem.start w) ?_
  refine jc_seq ?_
  refine jc_region ?_
  refine jo_f [(0, 0)] (by kernel_rfl) ?_
  refine jo_end (by kernel_rfl) ?_
  refine jx_then ?_
  refine jc_seq ?_
  refine jc_region ?_
  refine toO (by kernel_rfl) (p_a 0 [0] (by kernel_rfl) (fun b => by kernel_rfl) (fun b_1 => jkO ?_))
  refine jo_f [(0, 0)] (by kernel_rfl) ?_
  refine jo_end (by kernel_rfl) ?_
  refine jx_then ?_
  refine jc_seq ?_
  refine jc_seq ?_
  refine jc_region ?_
  refine jo_f [(0, 0)] (by kernel_rfl) ?_
  refine jo_end (by kernel_rfl) ?_
  refine jx_then ?_
  refine jc_meet (fun (j : (List Int) × (Option Nat) × Nat × (List Value) × Nat) => match j with | ⟨xs_1, o_137, cap_138, sp_139, n_140⟩ => impl_nearest.k_2 xs_1 = some r ∧ (xs_1.length = n_140) ∧ ((o_137 ≠ none → n_140 ≤ cap_138 ∧ sp_139.length = (cap_138 - n_140) * 1)) ∧ ((o_137 = none → xs_1 = [] ∧ cap_138 = 0))) (fun (j : (List Int) × (Option Nat) × Nat × (List Value) × Nat) => match j with | ⟨xs_1, o_137, cap_138, sp_139, n_140⟩ => [(2, [], (.slice none 0 0)), (3, [], (.slice (o_137.map fun b => ⟨b, 0, none⟩) n_140 cap_138))]) (fun (j : (List Int) × (Option Nat) × Nat × (List Value) × Nat) => match j with | ⟨xs_1, o_137, cap_138, sp_139, n_140⟩ => [⟨o_137, 26, row encI8 xs_1 sp_139⟩]) ?_ ?_
  · refine jc_block ?_
    obtain ⟨t_6, ht_185, hr_173⟩ := bd h
    refine jc_loop (fun (s : (List Int) × Int) (x : (Option Nat) × Nat × (List Value) × Nat) => match s, x with | ⟨xs_3, i_4⟩, ⟨o_167, cap_168, sp_169, n_170⟩ => (xs_3.length = n_170) ∧ ((o_167 ≠ none → n_170 ≤ cap_168 ∧ sp_169.length = (cap_168 - n_170) * 1)) ∧ ((o_167 = none → xs_3 = [] ∧ cap_168 = 0))) (fun (s : (List Int) × Int) (x : (Option Nat) × Nat × (List Value) × Nat) => match s, x with | ⟨xs_3, i_4⟩, ⟨o_167, cap_168, sp_169, n_170⟩ => [(0, [], (.int .i8 most0)), (2, [], (.slice none 0 0)), (3, [], (.slice (o_167.map fun b => ⟨b, 0, none⟩) n_170 cap_168)), (4, [], (.int .i8 i_4))]) (fun (s : (List Int) × Int) (x : (Option Nat) × Nat × (List Value) × Nat) => match s, x with | ⟨xs_3, i_4⟩, ⟨o_167, cap_168, sp_169, n_170⟩ => [⟨o_167, 26, row encI8 xs_3 sp_169⟩]) ht_185 ⟨(some b_1), 1, [], 1⟩ ⟨rfl, (fun _ => ⟨Nat.le_refl _, by simp⟩), (fun e => nomatch e)⟩ (by kernel_rfl) [0] (by kernel_rfl) (by kernel_rfl) ?_
    rintro ⟨xs_3, i_4⟩ ⟨o_167, cap_168, sp_169, n_170⟩ y_174 ⟨rfl, hs_171, ho_172⟩ h
    rw [impl_nearest.l_5] at h
    refine jc_seq ?_
    refine jc_seq ?_
    refine jc_region ?_
    refine jo_f [(0, 0), (0, 0), (0, 0)] (by kernel_rfl) ?_
    refine jo_end (by kernel_rfl) ?_
    refine jx_then ?_
    refine jc_cond (decide (i_4 ≤ most0)) (by kernel_rfl) (fun hc_176 => ?_) (fun hc_176 => ?_)
    · replace h := ifT hc_176 h
      refine jc_skip ?_
      refine jx_then ?_
      refine jc_seq ?_
      refine jc_block ?_
      refine jc_region ?_
      refine jo_f [(0, 0), (0, 0), (0, 0), (0, 0)] (by kernel_rfl) ?_
      refine toO (by kernel_rfl) (p_a 0 [0] (by kernel_rfl) (fun b => by kernel_rfl) (fun b_177 => jkO ?_))
      obtain ⟨hg_178, h⟩ := gd h
      refine toO (by kernel_rfl) (p_apn 0 0 o_167 26 xs_3.length 2 cap_168 1 1 (some ⟨b_177, 0, none⟩) encI8 xs_3 [(w8 (0 - i_4)), i_4] sp_169 (.int .i8 0) rfl rfl (by kernel_rfl) (by kernel_rfl) (by kernel_rfl) encI8_len encI8_cell hs_171 ho_172 (fun w hm => (hm.ownRow (hh := 1) (o := (some b_177)) (T := 26) (enc := encI8) (xs := [(w8 (0 - i_4)), i_4]) (sp := []) (by kernel_rfl) (fun e => nomatch e) encI8_len)) hg_178 (by kernel_rfl) (by kernel_rfl) (fun o_179 cap_180 sp_181 hs_182 ho_183 => jkO ?_))
      refine jo_f [(0, 0)] (by kernel_rfl) ?_
      refine jo_end (by kernel_rfl) ?_
      refine jx_inn ?_
      refine jx_then ?_
      refine jc_region ?_
      refine jo_f [(0, 0), (0, 0), (0, 0)] (by kernel_rfl) ?_
      refine jo_end (by kernel_rfl) ?_
      exact jx_back ((xs_3 ++ [(w8 (0 - i_4)), i_4]), (w8 (i_4 + 1))) ⟨o_179, cap_180, sp_181, (xs_3 ++ [(w8 (0 - i_4)), i_4]).length⟩ (Option.some.inj h).symm ⟨rfl, hs_182, ho_183⟩ [0] (by kernel_rfl) (by kernel_rfl) (by kernel_rfl)
    · replace h := ifF hc_176 h
      refine jc_exit ?_
      refine jx_thenx ?_
      refine jx_leave xs_3 (Option.some.inj h).symm (fun e_184 => ?_)
      subst e_184
      refine jx_ine ?_
      exact jx_meet ⟨xs_3, o_167, cap_168, sp_169, xs_3.length⟩ ⟨hr_173, rfl, hs_171, ho_172⟩ (by kernel_rfl) [0] (by kernel_rfl) (by kernel_rfl)
  · rintro ⟨xs_1, o_137, cap_138, sp_139, n_140⟩ ⟨h, rfl, hs_141, ho_142⟩
    replace h : impl_nearest.k_2 xs_1 = some r := h
    rw [impl_nearest.k_2] at h
    refine jx_then ?_
    refine jc_seq ?_
    refine jc_region ?_
    refine jo_f [(0, 0), (0, 0)] (by kernel_rfl) ?_
    refine jo_end (by kernel_rfl) ?_
    refine jx_then ?_
    refine jc_ret ?_
    obtain rfl := Option.some.inj h
    exact jx_ret [] (.slice (o_137.map fun b => ⟨b, 0, none⟩) xs_1.length cap_138) [] rfl (by kernel_rfl) (by kernel_rfl) (fun w hm => ⟨o_137, cap_138, sp_139, xs_1.length, rfl, hs_141, ho_142, rfl, hm.pick [0] (by kernel_rfl) (by kernel_rfl)⟩)

/-! ### (impl.Frame).choices -/
noncomputable def impl_Frame_choices.k_3 (xs_2 : List GChoice) : Option ((List GChoice)) := (if xs_2.length + [(⟨true, 0, 0, 0⟩ : GChoice)].length ≤ 4294967296 then some (xs_2 ++ [(⟨true, 0, 0, 0⟩ : GChoice)]) else none)
noncomputable def impl_Frame_choices.k_11 (i_5 : Int) (xs_10 : List GChoice) : Option (((List GChoice) × Int) ⊕ ((List GChoice))) := some (.inl (xs_10, (w64 (i_5 + 1))))
noncomputable def impl_Frame_choices.k_18 (i_13 : Int) (xs_17 : List GChoice) : Option (((List GChoice) × Int) ⊕ ((List GChoice))) := some (.inl (xs_17, (w64 (i_13 + 1))))
noncomputable def impl_Frame_choices.l_21 (f0 : GFrame) (n1 : GNote) (x_8 : Int) (x_16 : Int) : ((List GChoice) × Int) → Option (((List GChoice) × Int) ⊕ ((List GChoice)))
  | (xs_19, i_20) => (if (decide (i_20 < (f0.fHammers.length : Int))) = true then (ix f0.fHammers i_20).bind fun x_23 => (impl_within (w64 ((w64 n1.fAt) + (w64 x_8))) 0 (w64 ((w64 f0.fSteps) - 1))).bind fun t_24 => (if (t_24 && ((w64 x_23.fPitch) == (w64 ((w64 n1.fPitch) + (w64 (12 * (w64 x_16))))))) = true then (if xs_19.length + [(⟨false, x_8, x_16, (w8 i_20)⟩ : GChoice)].length ≤ 4294967296 then some (.inl ((xs_19 ++ [(⟨false, x_8, x_16, (w8 i_20)⟩ : GChoice)]), (w64 (i_20 + 1)))) else none) else some (.inl (xs_19, (w64 (i_20 + 1))))) else some (.inr xs_19))
noncomputable def impl_Frame_choices.l_14 (f0 : GFrame) (n1 : GNote) (x_8 : Int) (t_9 : (List Int)) : ((List GChoice) × Int) → Option (((List GChoice) × Int) ⊕ ((List GChoice)))
  | (xs_12, i_13) => (if (decide (i_13 < (t_9.length : Int))) = true then (ix t_9 i_13).bind fun x_16 => (loop (impl_Frame_choices.l_21 f0 n1 x_8 x_16) (xs_12, 0)).bind fun t_22 => impl_Frame_choices.k_18 i_13 t_22 else some (.inr xs_12))
noncomputable def impl_Frame_choices.l_6 (f0 : GFrame) (n1 : GNote) (t_1 : (List Int)) : ((List GChoice) × Int) → Option (((List GChoice) × Int) ⊕ ((List GChoice)))
  | (xs_4, i_5) => (if (decide (i_5 < (t_1.length : Int))) = true then (ix t_1 i_5).bind fun x_8 => (impl_nearest 1).bind fun t_9 => (loop (impl_Frame_choices.l_14 f0 n1 x_8 t_9) (xs_4, 0)).bind fun t_15 => impl_Frame_choices.k_11 i_5 t_15 else some (.inr xs_4))
noncomputable def impl_Frame_choices (f0 : GFrame) (n1 : GNote) : Option ((List GChoice)) := (impl_nearest 3).bind fun t_1 => (loop (impl_Frame_choices.l_6 f0 n1 t_1) (([] : List GChoice), 0)).bind fun t_7 => impl_Frame_choices.k_3 t_7
set_option maxRecDepth 100000 in
theorem impl_Frame_choices.calls (f0 : GFrame) (n1 : GNote) (w : World) (r : (List GChoice)) (f0_fHammers_a : Option Addr) (f0_fHammers_an : Nat) (f0_fHammers_c : Nat) (f0_fHammers_h : Rw w f0_fHammers_a 2 encGHammer f0.fHammers) (f0_fHammers_hn : f0.fHammers.length = f0_fHammers_an) (h : impl_Frame_choices f0 n1 = some r) :
    Calls Try.prog 74 #[(.agg #[(.int .i16 f0.fSteps), (.slice f0_fHammers_a f0_fHammers_an f0_fHammers_c)]), (.agg #[(.int .i16 n1.fAt), (.int .i8 n1.fPitch)])] w fun e w' => ∃ v, e = .returned v ∧ (∃ (o0 : Option Nat) (c0 : Nat) (s0 : List Value) (n0 : Nat), r.length = n0 ∧ (o0 ≠ none → n0 ≤ c0 ∧ s0.length = (c0 - n0) * 4) ∧ (o0 = none → r = [] ∧ c0 = 0) ∧ v = .slice (o0.map fun b => ⟨b, 0, none⟩) n0 c0 ∧ Mem w [] [⟨o0, 113, row encGChoice r s0⟩] w') := by
  subst f0_fHammers_hn
  rw [impl_Frame_choices] at h
  refine enter (args := [(.agg #[(.int .i16 f0.fSteps), (.slice f0_fHammers_a f0.fHammers.length f0_fHammers_c)]), (.agg #[(.int .i16 n1.fAt), (.int .i8 n1.fPitch)])]) Try.func74 rfl Try.ntmps74 (by kernel_rfl) (L := []) (W := []) (Mem.start w) ?_
  refine jc_seq ?_
  refine jc_region ?_
  refine toO (by kernel_rfl) (p_a 0 [0] (by kernel_rfl) (fun b => by kernel_rfl) (fun b_1 => jkO ?_))
  refine toO (by kernel_rfl) (p_a 0 [0] (by kernel_rfl) (fun b => by kernel_rfl) (fun b_2 => jkO ?_))
  refine jo_f [(0, 0)] (by kernel_rfl) ?_
  refine jo_end (by kernel_rfl) ?_
  refine jx_then ?_
  refine jc_seq ?_
  refine jc_region ?_
  refine toO (by kernel_rfl) (p_a 0 [0] (by kernel_rfl) (fun b => by kernel_rfl) (fun b_3 => jkO ?_))
  refine jo_f [(0, 0)] (by kernel_rfl) ?_
  refine jo_end (by kernel_rfl) ?_
  refine jx_then ?_
  refine jc_seq ?_
  refine jc_seq ?_
  refine jc_region ?_
  obtain ⟨t_1, ht_4830, h⟩ := bd h
  refine toO (by kernel_rfl) (p_call 0 138 #[(.int .i8 3)] (by kernel_rfl) (by kernel_rfl) (fun w hm => impl_nearest.calls 3 w _ ht_4830) ?_)
  rintro w v w' hm ⟨o_4831, cap_4832, sp_4833, _, rfl, hs_4834, ho_4835, rfl, hm'⟩
  refine ⟨_, hm.app hm', jkO ?_⟩
  clear hm hm'
  refine jo_f [(0, 0), (0, 0)] (by kernel_rfl) ?_
  refine jo_end (by kernel_rfl) ?_
  refine jx_then ?_
  refine jc_meet (fun (j : (List GChoice) × (Option Nat) × Nat × (List Value) × Nat) => match j with | ⟨xs_2, o_7243, cap_7244, sp_7245, n_7246⟩ => impl_Frame_choices.k_3 xs_2 = some r ∧ (xs_2.length = n_7246) ∧ ((o_7243 ≠ none → n_7246 ≤ cap_7244 ∧ sp_7245.length = (cap_7244 - n_7246) * 4)) ∧ ((o_7243 = none → xs_2 = [] ∧ cap_7244 = 0))) (fun (j : (List GChoice) × (Option Nat) × Nat × (List Value) × Nat) => match j with | ⟨xs_2, o_7243, cap_7244, sp_7245, n_7246⟩ => [(4, [], (.slice none 0 0)), (5, [], (.slice (o_7243.map fun b => ⟨b, 0, none⟩) n_7246 cap_7244))]) (fun (j : (List GChoice) × (Option Nat) × Nat × (List Value) × Nat) => match j with | ⟨xs_2, o_7243, cap_7244, sp_7245, n_7246⟩ => [⟨some b_1, 35, [(.int .i16 f0.fSteps), (.slice f0_fHammers_a f0.fHammers.length f0_fHammers_c)]⟩, ⟨some b_2, 37, [(.int .i16 n1.fAt), (.int .i8 n1.fPitch)]⟩, ⟨o_7243, 113, row encGChoice xs_2 sp_7245⟩, ⟨o_4831, 26, row encI8 t_1 sp_4833⟩]) ?_ ?_
  · refine jc_block ?_
    obtain ⟨t_7, ht_9662, hr_8862⟩ := bd h
    refine jc_loop (fun (s : (List GChoice) × Int) (x : (Option Nat) × Nat × (List Value) × Nat) => match s, x with | ⟨xs_4, i_5⟩, ⟨o_8856, cap_8857, sp_8858, n_8859⟩ => (xs_4.length = n_8859) ∧ ((o_8856 ≠ none → n_8859 ≤ cap_8857 ∧ sp_8858.length = (cap_8857 - n_8859) * 4)) ∧ ((o_8856 = none → xs_4 = [] ∧ cap_8857 = 0))) (fun (s : (List GChoice) × Int) (x : (Option Nat) × Nat × (List Value) × Nat) => match s, x with | ⟨xs_4, i_5⟩, ⟨o_8856, cap_8857, sp_8858, n_8859⟩ => [(2, [], (.pointer (some ⟨b_1, 0, none⟩))), (3, [], (.pointer (some ⟨b_2, 0, none⟩))), (4, [], (.slice none 0 0)), (5, [], (.slice (o_8856.map fun b => ⟨b, 0, none⟩) n_8859 cap_8857)), (15, [], (.slice (o_4831.map fun b => ⟨b, 0, none⟩) t_1.length cap_4832)), (16, [], (.int .i64 (t_1.length : Int))), (17, [], (.int .i64 i_5))]) (fun (s : (List GChoice) × Int) (x : (Option Nat) × Nat × (List Value) × Nat) => match s, x with | ⟨xs_4, i_5⟩, ⟨o_8856, cap_8857, sp_8858, n_8859⟩ => [⟨some b_1, 35, [(.int .i16 f0.fSteps), (.slice f0_fHammers_a f0.fHammers.length f0_fHammers_c)]⟩, ⟨some b_2, 37, [(.int .i16 n1.fAt), (.int .i8 n1.fPitch)]⟩, ⟨o_8856, 113, row encGChoice xs_4 sp_8858⟩, ⟨o_4831, 26, row encI8 t_1 sp_4833⟩]) ht_9662 ⟨(some b_3), 0, [], 0⟩ ⟨rfl, (fun _ => ⟨Nat.le_refl _, by simp⟩), (fun e => nomatch e)⟩ (by kernel_rfl) [0, 1, 2, 3] (by kernel_rfl) (by kernel_rfl) ?_
    rintro ⟨xs_4, i_5⟩ ⟨o_8856, cap_8857, sp_8858, n_8859⟩ y_8863 ⟨rfl, hs_8860, ho_8861⟩ h
    rw [impl_Frame_choices.l_6] at h
    refine jc_seq ?_
    refine jc_region ?_
    refine jo_f [(0, 0)] (by kernel_rfl) ?_
    refine jo_end (by kernel_rfl) ?_
    refine jx_then ?_
    refine jc_seq ?_
    refine jc_cond (decide (i_5 < (t_1.length : Int))) (by kernel_rfl) (fun hc_8865 => ?_) (fun hc_8865 => ?_)
    · replace h := ifT hc_8865 h
      refine jc_skip ?_
      refine jx_then ?_
      refine jc_seq ?_
      refine jc_block ?_
      refine jc_seq ?_
      refine jc_region ?_
      obtain ⟨x_8, hx_8866, h⟩ := bd h
      refine toO (by kernel_rfl) (p_idx 0 (o_4831.map fun b => ⟨b, 0, none⟩) t_1.length i_5 1 (by kernel_rfl) (by kernel_rfl) (ix_some hx_8866).1 (ltn hx_8866 rfl) (spo ho_4835 hx_8866) (jkO ?_))
      refine toO (by kernel_rfl) (p_ld 0 (aB (o_4831.map fun b => ⟨b, 0, none⟩)) (aO (o_4831.map fun b => ⟨b, 0, none⟩) + i_5.toNat * 1) false (encI8 x_8) (by kernel_rfl) (by kernel_rfl) (by kernel_rfl) (fun w hm => ((hm.ownRow (hh := 3) (o := o_4831) (T := 26) (enc := encI8) (xs := t_1) (sp := sp_4833) (by kernel_rfl) (fun e => (ho_4835 e).1) encI8_len).at hx_8866)) (jkO ?_))
      refine jo_f [(0, 0)] (by kernel_rfl) ?_
      refine jo_end (by kernel_rfl) ?_
      refine jx_then ?_
      refine jc_seq ?_
      refine jc_region ?_
      obtain ⟨t_9, ht_8867, h⟩ := bd h
      refine toO (by kernel_rfl) (p_call 0 138 #[(.int .i8 1)] (by kernel_rfl) (by kernel_rfl) (fun w hm => impl_nearest.calls 1 w _ ht_8867) ?_)
      rintro w v w' hm ⟨o_8868, cap_8869, sp_8870, _, rfl, hs_8871, ho_8872, rfl, hm'⟩
      refine ⟨_, hm.app hm', jkO ?_⟩
      clear hm hm'
      refine jo_f [(0, 0), (0, 0)] (by kernel_rfl) ?_
      refine jo_end (by kernel_rfl) ?_
      refine jx_then ?_
      refine jc_meet (fun (j : (List GChoice) × (Option Nat) × Nat × (List Value) × Nat) => match j with | ⟨xs_10, o_9264, cap_9265, sp_9266, n_9267⟩ => impl_Frame_choices.k_11 i_5 xs_10 = some y_8863 ∧ (xs_10.length = n_9267) ∧ ((o_9264 ≠ none → n_9267 ≤ cap_9265 ∧ sp_9266.length = (cap_9265 - n_9267) * 4)) ∧ ((o_9264 = none → xs_10 = [] ∧ cap_9265 = 0))) (fun (j : (List GChoice) × (Option Nat) × Nat × (List Value) × Nat) => match j with | ⟨xs_10, o_9264, cap_9265, sp_9266, n_9267⟩ => [(2, [], (.pointer (some ⟨b_1, 0, none⟩))), (3, [], (.pointer (some ⟨b_2, 0, none⟩))), (4, [], (.slice none 0 0)), (5, [], (.slice (o_9264.map fun b => ⟨b, 0, none⟩) n_9267 cap_9265)), (15, [], (.slice (o_4831.map fun b => ⟨b, 0, none⟩) t_1.length cap_4832)), (16, [], (.int .i64 (t_1.length : Int))), (17, [], (.int .i64 i_5))]) (fun (j : (List GChoice) × (Option Nat) × Nat × (List Value) × Nat) => match j with | ⟨xs_10, o_9264, cap_9265, sp_9266, n_9267⟩ => [⟨some b_1, 35, [(.int .i16 f0.fSteps), (.slice f0_fHammers_a f0.fHammers.length f0_fHammers_c)]⟩, ⟨some b_2, 37, [(.int .i16 n1.fAt), (.int .i8 n1.fPitch)]⟩, ⟨o_9264, 113, row encGChoice xs_10 sp_9266⟩, ⟨o_4831, 26, row encI8 t_1 sp_4833⟩, ⟨o_8868, 26, row encI8 t_9 sp_8870⟩]) ?_ ?_
      · refine jc_block ?_
        obtain ⟨t_15, ht_9660, hr_9532⟩ := bd h
        refine jc_loop (fun (s : (List GChoice) × Int) (x : (Option Nat) × Nat × (List Value) × Nat) => match s, x with | ⟨xs_12, i_13⟩, ⟨o_9526, cap_9527, sp_9528, n_9529⟩ => (xs_12.length = n_9529) ∧ ((o_9526 ≠ none → n_9529 ≤ cap_9527 ∧ sp_9528.length = (cap_9527 - n_9529) * 4)) ∧ ((o_9526 = none → xs_12 = [] ∧ cap_9527 = 0))) (fun (s : (List GChoice) × Int) (x : (Option Nat) × Nat × (List Value) × Nat) => match s, x with | ⟨xs_12, i_13⟩, ⟨o_9526, cap_9527, sp_9528, n_9529⟩ => [(2, [], (.pointer (some ⟨b_1, 0, none⟩))), (3, [], (.pointer (some ⟨b_2, 0, none⟩))), (4, [], (.slice none 0 0)), (5, [], (.slice (o_9526.map fun b => ⟨b, 0, none⟩) n_9529 cap_9527)), (7, [], (.int .i8 x_8)), (15, [], (.slice (o_4831.map fun b => ⟨b, 0, none⟩) t_1.length cap_4832)), (16, [], (.int .i64 (t_1.length : Int))), (17, [], (.int .i64 i_5)), (21, [], (.slice (o_8868.map fun b => ⟨b, 0, none⟩) t_9.length cap_8869)), (22, [], (.int .i64 (t_9.length : Int))), (23, [], (.int .i64 i_13))]) (fun (s : (List GChoice) × Int) (x : (Option Nat) × Nat × (List Value) × Nat) => match s, x with | ⟨xs_12, i_13⟩, ⟨o_9526, cap_9527, sp_9528, n_9529⟩ => [⟨some b_1, 35, [(.int .i16 f0.fSteps), (.slice f0_fHammers_a f0.fHammers.length f0_fHammers_c)]⟩, ⟨some b_2, 37, [(.int .i16 n1.fAt), (.int .i8 n1.fPitch)]⟩, ⟨o_9526, 113, row encGChoice xs_12 sp_9528⟩, ⟨o_4831, 26, row encI8 t_1 sp_4833⟩, ⟨o_8868, 26, row encI8 t_9 sp_8870⟩]) ht_9660 ⟨o_8856, cap_8857, sp_8858, xs_4.length⟩ ⟨rfl, hs_8860, ho_8861⟩ (by kernel_rfl) [0, 1, 2, 3, 4] (by kernel_rfl) (by kernel_rfl) ?_
        rintro ⟨xs_12, i_13⟩ ⟨o_9526, cap_9527, sp_9528, n_9529⟩ y_9533 ⟨rfl, hs_9530, ho_9531⟩ h
        rw [impl_Frame_choices.l_14] at h
        refine jc_seq ?_
        refine jc_region ?_
        refine jo_f [(0, 0)] (by kernel_rfl) ?_
        refine jo_end (by kernel_rfl) ?_
        refine jx_then ?_
        refine jc_seq ?_
        refine jc_cond (decide (i_13 < (t_9.length : Int))) (by kernel_rfl) (fun hc_9535 => ?_) (fun hc_9535 => ?_)
        · replace h := ifT hc_9535 h
          refine jc_skip ?_
          refine jx_then ?_
          refine jc_seq ?_
          refine jc_block ?_
          refine jc_seq ?_
          refine jc_region ?_
          obtain ⟨x_16, hx_9536, h⟩ := bd h
          refine toO (by kernel_rfl) (p_idx 0 (o_8868.map fun b => ⟨b, 0, none⟩) t_9.length i_13 1 (by kernel_rfl) (by kernel_rfl) (ix_some hx_9536).1 (ltn hx_9536 rfl) (spo ho_8872 hx_9536) (jkO ?_))
          refine toO (by kernel_rfl) (p_ld 0 (aB (o_8868.map fun b => ⟨b, 0, none⟩)) (aO (o_8868.map fun b => ⟨b, 0, none⟩) + i_13.toNat * 1) false (encI8 x_16) (by kernel_rfl) (by kernel_rfl) (by kernel_rfl) (fun w hm => ((hm.ownRow (hh := 4) (o := o_8868) (T := 26) (enc := encI8) (xs := t_9) (sp := sp_8870) (by kernel_rfl) (fun e => (ho_8872 e).1) encI8_len).at hx_9536)) (jkO ?_))
          refine jo_f [(0, 0)] (by kernel_rfl) ?_
          refine jo_end (by kernel_rfl) ?_
          refine jx_then ?_
          refine jc_seq ?_
          refine jc_region ?_
          refine jo_f [(0, 0), (0, 0), (0, 0), (0, 0)] (by kernel_rfl) ?_
          refine jo_end (by kernel_rfl) ?_
          refine jx_then ?_
          refine jc_meet (fun (j : (List GChoice) × (Option Nat) × Nat × (List Value) × Nat) => match j with | ⟨xs_17, o_9595, cap_9596, sp_9597, n_9598⟩ => impl_Frame_choices.k_18 i_13 xs_17 = some y_9533 ∧ (xs_17.length = n_9598) ∧ ((o_9595 ≠ none → n_9598 ≤ cap_9596 ∧ sp_9597.length = (cap_9596 - n_9598) * 4)) ∧ ((o_9595 = none → xs_17 = [] ∧ cap_9596 = 0))) (fun (j : (List GChoice) × (Option Nat) × Nat × (List Value) × Nat) => match j with | ⟨xs_17, o_9595, cap_9596, sp_9597, n_9598⟩ => [(2, [], (.pointer (some ⟨b_1, 0, none⟩))), (3, [], (.pointer (some ⟨b_2, 0, none⟩))), (4, [], (.slice none 0 0)), (5, [], (.slice (o_9595.map fun b => ⟨b, 0, none⟩) n_9598 cap_9596)), (7, [], (.int .i8 x_8)), (15, [], (.slice (o_4831.map fun b => ⟨b, 0, none⟩) t_1.length cap_4832)), (16, [], (.int .i64 (t_1.length : Int))), (17, [], (.int .i64 i_5)), (21, [], (.slice (o_8868.map fun b => ⟨b, 0, none⟩) t_9.length cap_8869)), (22, [], (.int .i64 (t_9.length : Int))), (23, [], (.int .i64 i_13))]) (fun (j : (List GChoice) × (Option Nat) × Nat × (List Value) × Nat) => match j with | ⟨xs_17, o_9595, cap_9596, sp_9597, n_9598⟩ => [⟨some b_1, 35, [(.int .i16 f0.fSteps), (.slice f0_fHammers_a f0.fHammers.length f0_fHammers_c)]⟩, ⟨some b_2, 37, [(.int .i16 n1.fAt), (.int .i8 n1.fPitch)]⟩, ⟨o_9595, 113, row encGChoice xs_17 sp_9597⟩, ⟨o_4831, 26, row encI8 t_1 sp_4833⟩, ⟨o_8868, 26, row encI8 t_9 sp_8870⟩]) ?_ ?_
          · refine jc_block ?_
            obtain ⟨t_22, ht_9658, hr_9641⟩ := bd h
            refine jc_loop (fun (s : (List GChoice) × Int) (x : (Option Nat) × Nat × (List Value) × Nat) => match s, x with | ⟨xs_19, i_20⟩, ⟨o_9635, cap_9636, sp_9637, n_9638⟩ => (xs_19.length = n_9638) ∧ ((o_9635 ≠ none → n_9638 ≤ cap_9636 ∧ sp_9637.length = (cap_9636 - n_9638) * 4)) ∧ ((o_9635 = none → xs_19 = [] ∧ cap_9636 = 0))) (fun (s : (List GChoice) × Int) (x : (Option Nat) × Nat × (List Value) × Nat) => match s, x with | ⟨xs_19, i_20⟩, ⟨o_9635, cap_9636, sp_9637, n_9638⟩ => [(2, [], (.pointer (some ⟨b_1, 0, none⟩))), (3, [], (.pointer (some ⟨b_2, 0, none⟩))), (4, [], (.slice none 0 0)), (5, [], (.slice (o_9635.map fun b => ⟨b, 0, none⟩) n_9638 cap_9636)), (7, [], (.int .i8 x_8)), (9, [], (.int .i8 x_16)), (15, [], (.slice (o_4831.map fun b => ⟨b, 0, none⟩) t_1.length cap_4832)), (16, [], (.int .i64 (t_1.length : Int))), (17, [], (.int .i64 i_5)), (21, [], (.slice (o_8868.map fun b => ⟨b, 0, none⟩) t_9.length cap_8869)), (22, [], (.int .i64 (t_9.length : Int))), (23, [], (.int .i64 i_13)), (28, [], (.slice f0_fHammers_a f0.fHammers.length f0_fHammers_c)), (29, [], (.int .i64 (f0.fHammers.length : Int))), (30, [], (.int .i64 i_20))]) (fun (s : (List GChoice) × Int) (x : (Option Nat) × Nat × (List Value) × Nat) => match s, x with | ⟨xs_19, i_20⟩, ⟨o_9635, cap_9636, sp_9637, n_9638⟩ => [⟨some b_1, 35, [(.int .i16 f0.fSteps), (.slice f0_fHammers_a f0.fHammers.length f0_fHammers_c)]⟩, ⟨some b_2, 37, [(.int .i16 n1.fAt), (.int .i8 n1.fPitch)]⟩, ⟨o_9635, 113, row encGChoice xs_19 sp_9637⟩, ⟨o_4831, 26, row encI8 t_1 sp_4833⟩, ⟨o_8868, 26, row encI8 t_9 sp_8870⟩]) ht_9658 ⟨o_9526, cap_9527, sp_9528, xs_12.length⟩ ⟨rfl, hs_9530, ho_9531⟩ (by kernel_rfl) [0, 1, 2, 3, 4] (by kernel_rfl) (by kernel_rfl) ?_
            rintro ⟨xs_19, i_20⟩ ⟨o_9635, cap_9636, sp_9637, n_9638⟩ y_9642 ⟨rfl, hs_9639, ho_9640⟩ h
            rw [impl_Frame_choices.l_21] at h
            refine jc_seq ?_
            refine jc_region ?_
            refine jo_f [(0, 0)] (by kernel_rfl) ?_
            refine jo_end (by kernel_rfl) ?_
            refine jx_then ?_
            refine jc_seq ?_
            refine jc_cond (decide (i_20 < (f0.fHammers.length : Int))) (by kernel_rfl) (fun hc_9644 => ?_) (fun hc_9644 => ?_)
            · replace h := ifT hc_9644 h
              refine jc_skip ?_
              refine jx_then ?_
              refine jc_seq ?_
              refine jc_block ?_
              refine jc_seq ?_
              refine jc_region ?_
              refine jo_f [(0, 0)] (by kernel_rfl) ?_
              obtain ⟨x_23, hx_9645, h⟩ := bd h
              refine toO (by kernel_rfl) (p_idx 0 f0_fHammers_a f0.fHammers.length i_20 2 (by kernel_rfl) (by kernel_rfl) (ix_some hx_9645).1 (ltn hx_9645 rfl) (f0_fHammers_h.sp hx_9645) (jkO ?_))
              refine toO (by kernel_rfl) (p_ld 0 (aB f0_fHammers_a) (aO f0_fHammers_a + i_20.toNat * 2) true (encGHammer x_23) (by kernel_rfl) (by kernel_rfl) (by kernel_rfl) (fun w hm => ((hm.exRow f0_fHammers_h List.not_mem_nil).at hx_9645)) (jkO ?_))
              refine toO (by kernel_rfl) (p_a 0 [0] (by kernel_rfl) (fun b => by kernel_rfl) (fun b_9646 => jkO ?_))
              refine jo_f [(0, 0)] (by kernel_rfl) ?_
              refine toO (by kernel_rfl) (p_s 0 [5] (by kernel_rfl) (by kernel_rfl) (jkO ?_))
              refine jo_end (by kernel_rfl) ?_
              refine jx_then ?_
              refine jc_seq ?_
              refine jc_draw [⟨some b_1, 35, [(.int .i16 f0.fSteps), (.slice f0_fHammers_a f0.fHammers.length f0_fHammers_c)]⟩, ⟨some b_2, 37, [(.int .i16 n1.fAt), (.int .i8 n1.fPitch)]⟩, ⟨o_9635, 113, row encGChoice xs_19 sp_9637⟩, ⟨o_4831, 26, row encI8 t_1 sp_4833⟩, ⟨o_8868, 26, row encI8 t_9 sp_8870⟩, ⟨some b_9646, 176, [(.int .i8 x_23.fPitch), (.int .i8 x_23.fReady)]⟩] 15 (by kernel_rfl) (by kernel_rfl) ?_
              refine jd_f [⟨0, 0, 0⟩, ⟨1, 1, 0⟩, ⟨2, 0, 0⟩, ⟨3, 0, 0⟩, ⟨4, 0, 0⟩, ⟨5, 0, 0⟩, ⟨6, 0, 0⟩, ⟨7, 1, 0⟩, ⟨8, 0, 0⟩, ⟨9, 0, 0⟩, ⟨10, 0, 0⟩, ⟨11, 0, 0⟩, ⟨12, 0, 0⟩, ⟨13, 0, 0⟩, ⟨14, 0, 0⟩] 0 (by kernel_rfl) (by kernel_rfl) (fun w h => h.pick [0, 1, 2, 3, 4, 5] (by kernel_rfl) (by kernel_rfl)) (by kernel_rfl) (by kernel_rfl) ?_
              refine jd_end (by kernel_rfl) ?_
              refine jx_then ?_
              refine jc_seq ?_
              refine jc_region ?_
              refine jo_f [(0, 0), (0, 0), (0, 0), (0, 0), (0, 0)] (by kernel_rfl) ?_
              obtain ⟨t_24, ht_9648, h⟩ := bd h
              refine toO (by kernel_rfl) (p_call 0 109 #[(.int .i64 (w64 ((w64 n1.fAt) + (w64 x_8)))), (.int .i64 0), (.int .i64 (w64 ((w64 f0.fSteps) - 1)))] (by kernel_rfl) (by kernel_rfl) (fun w hm => impl_within.calls (w64 ((w64 n1.fAt) + (w64 x_8))) 0 (w64 ((w64 f0.fSteps) - 1)) w _ ht_9648) ?_)
              rintro w v w' hm ⟨rfl, hm'⟩
              refine ⟨_, hm.app hm', jkO ?_⟩
              clear hm hm'
              refine jo_f [(0, 0), (0, 1), (5, 1), (0, 1), (0, 1), (0, 1), (0, 0)] (by kernel_rfl) ?_
              refine jo_end (by kernel_rfl) ?_
              refine jx_then ?_
              refine jc_cond (t_24 && ((w64 x_23.fPitch) == (w64 ((w64 n1.fPitch) + (w64 (12 * (w64 x_16))))))) (by kernel_rfl) (fun hc_9649 => ?_) (fun hc_9649 => ?_)
              · replace h := ifT hc_9649 h
                refine jc_region ?_
                refine jo_f [(0, 0), (0, 0), (0, 0), (0, 0), (0, 0), (0, 0)] (by kernel_rfl) ?_
                refine toO (by kernel_rfl) (p_a 0 [0] (by kernel_rfl) (fun b => by kernel_rfl) (fun b_9650 => jkO ?_))
                obtain ⟨hg_9651, h⟩ := gd h
                refine toO (by kernel_rfl) (p_apn 0 2 o_9635 113 xs_19.length 1 cap_9636 4 4 (some ⟨b_9650, 0, none⟩) encGChoice xs_19 [(⟨false, x_8, x_16, (w8 i_20)⟩ : GChoice)] sp_9637 (.agg #[(.bool false), (.int .i8 0), (.int .i8 0), (.int .i8 0)]) rfl rfl (by kernel_rfl) (by kernel_rfl) (by kernel_rfl) encGChoice_len encGChoice_cell hs_9639 ho_9640 (fun w hm => (hm.ownRow (hh := 6) (o := (some b_9650)) (T := 113) (enc := encGChoice) (xs := [(⟨false, x_8, x_16, (w8 i_20)⟩ : GChoice)]) (sp := []) (by kernel_rfl) (fun e => nomatch e) encGChoice_len)) hg_9651 (by kernel_rfl) (by kernel_rfl) (fun o_9652 cap_9653 sp_9654 hs_9655 ho_9656 => jkO ?_))
                refine jo_f [(0, 0)] (by kernel_rfl) ?_
                refine jo_end (by kernel_rfl) ?_
                refine jx_inn ?_
                refine jx_then ?_
                refine jc_region ?_
                refine jo_f [(0, 0), (0, 0)] (by kernel_rfl) ?_
                refine jo_end (by kernel_rfl) ?_
                exact jx_back ((xs_19 ++ [(⟨false, x_8, x_16, (w8 i_20)⟩ : GChoice)]), (w64 (i_20 + 1))) ⟨o_9652, cap_9653, sp_9654, (xs_19 ++ [(⟨false, x_8, x_16, (w8 i_20)⟩ : GChoice)]).length⟩ (Option.some.inj h).symm ⟨rfl, hs_9655, ho_9656⟩ [0, 1, 2, 3, 4] (by kernel_rfl) (by kernel_rfl) (by kernel_rfl)
              · replace h := ifF hc_9649 h
                refine jc_skip ?_
                refine jx_inn ?_
                refine jx_then ?_
                refine jc_region ?_
                refine jo_f [(0, 0), (0, 0)] (by kernel_rfl) ?_
                refine jo_end (by kernel_rfl) ?_
                exact jx_back (xs_19, (w64 (i_20 + 1))) ⟨o_9635, cap_9636, sp_9637, xs_19.length⟩ (Option.some.inj h).symm ⟨rfl, hs_9639, ho_9640⟩ [0, 1, 2, 3, 4] (by kernel_rfl) (by kernel_rfl) (by kernel_rfl)
            · replace h := ifF hc_9644 h
              refine jc_exit ?_
              refine jx_thenx ?_
              refine jx_leave xs_19 (Option.some.inj h).symm (fun e_9657 => ?_)
              subst e_9657
              refine jx_ine ?_
              exact jx_meet ⟨xs_19, o_9635, cap_9636, sp_9637, xs_19.length⟩ ⟨hr_9641, rfl, hs_9639, ho_9640⟩ (by kernel_rfl) [0, 1, 2, 3, 4] (by kernel_rfl) (by kernel_rfl)
          · rintro ⟨xs_17, o_9595, cap_9596, sp_9597, n_9598⟩ ⟨h, rfl, hs_9599, ho_9600⟩
            replace h : impl_Frame_choices.k_18 i_13 xs_17 = some y_9533 := h
            rw [impl_Frame_choices.k_18] at h
            refine jx_inn ?_
            refine jx_then ?_
            refine jc_region ?_
            refine jo_f [(0, 0), (0, 0)] (by kernel_rfl) ?_
            refine jo_end (by kernel_rfl) ?_
            exact jx_back (xs_17, (w64 (i_13 + 1))) ⟨o_9595, cap_9596, sp_9597, xs_17.length⟩ (Option.some.inj h).symm ⟨rfl, hs_9599, ho_9600⟩ [0, 1, 2, 3, 4] (by kernel_rfl) (by kernel_rfl) (by kernel_rfl)
        · replace h := ifF hc_9535 h
          refine jc_exit ?_
          refine jx_thenx ?_
          refine jx_leave xs_12 (Option.some.inj h).symm (fun e_9659 => ?_)
          subst e_9659
          refine jx_ine ?_
          exact jx_meet ⟨xs_12, o_9526, cap_9527, sp_9528, xs_12.length⟩ ⟨hr_9532, rfl, hs_9530, ho_9531⟩ (by kernel_rfl) [0, 1, 2, 3, 4] (by kernel_rfl) (by kernel_rfl)
      · rintro ⟨xs_10, o_9264, cap_9265, sp_9266, n_9267⟩ ⟨h, rfl, hs_9268, ho_9269⟩
        replace h : impl_Frame_choices.k_11 i_5 xs_10 = some y_8863 := h
        rw [impl_Frame_choices.k_11] at h
        refine jx_inn ?_
        refine jx_then ?_
        refine jc_region ?_
        refine jo_f [(0, 0), (0, 0)] (by kernel_rfl) ?_
        refine jo_end (by kernel_rfl) ?_
        exact jx_back (xs_10, (w64 (i_5 + 1))) ⟨o_9264, cap_9265, sp_9266, xs_10.length⟩ (Option.some.inj h).symm ⟨rfl, hs_9268, ho_9269⟩ [0, 1, 2, 3] (by kernel_rfl) (by kernel_rfl) (by kernel_rfl)
    · replace h := ifF hc_8865 h
      refine jc_exit ?_
      refine jx_thenx ?_
      refine jx_leave xs_4 (Option.some.inj h).symm (fun e_9661 => ?_)
      subst e_9661
      refine jx_ine ?_
      exact jx_meet ⟨xs_4, o_8856, cap_8857, sp_8858, xs_4.length⟩ ⟨hr_8862, rfl, hs_8860, ho_8861⟩ (by kernel_rfl) [0, 1, 2, 3] (by kernel_rfl) (by kernel_rfl)
  · rintro ⟨xs_2, o_7243, cap_7244, sp_7245, n_7246⟩ ⟨h, rfl, hs_7247, ho_7248⟩
    replace h : impl_Frame_choices.k_3 xs_2 = some r := h
    rw [impl_Frame_choices.k_3] at h
    refine jx_then ?_
    refine jc_seq ?_
    refine jc_region ?_
    refine jo_f [(0, 0), (0, 0)] (by kernel_rfl) ?_
    refine toO (by kernel_rfl) (p_a 0 [0] (by kernel_rfl) (fun b => by kernel_rfl) (fun b_7249 => jkO ?_))
    obtain ⟨hg_7250, h⟩ := gd h
    refine toO (by kernel_rfl) (p_apn 0 2 o_7243 113 xs_2.length 1 cap_7244 4 4 (some ⟨b_7249, 0, none⟩) encGChoice xs_2 [(⟨true, 0, 0, 0⟩ : GChoice)] sp_7245 (.agg #[(.bool false), (.int .i8 0), (.int .i8 0), (.int .i8 0)]) rfl rfl (by kernel_rfl) (by kernel_rfl) (by kernel_rfl) encGChoice_len encGChoice_cell hs_7247 ho_7248 (fun w hm => (hm.ownRow (hh := 4) (o := (some b_7249)) (T := 113) (enc := encGChoice) (xs := [(⟨true, 0, 0, 0⟩ : GChoice)]) (sp := []) (by kernel_rfl) (fun e => nomatch e) encGChoice_len)) hg_7250 (by kernel_rfl) (by kernel_rfl) (fun o_7251 cap_7252 sp_7253 hs_7254 ho_7255 => jkO ?_))
    refine jo_f [(0, 0)] (by kernel_rfl) ?_
    refine jo_end (by kernel_rfl) ?_
    refine jx_then ?_
    refine jc_ret ?_
    obtain rfl := Option.some.inj h
    exact jx_ret [] (.slice (o_7251.map fun b => ⟨b, 0, none⟩) ((xs_2 ++ [(⟨true, 0, 0, 0⟩ : GChoice)]).length) cap_7252) [] rfl (by kernel_rfl) (by kernel_rfl) (fun w hm => ⟨o_7251, cap_7252, sp_7253, ((xs_2 ++ [(⟨true, 0, 0, 0⟩ : GChoice)]).length), rfl, hs_7254, ho_7255, rfl, hm.pick [2] (by kernel_rfl) (by kernel_rfl)⟩)

/-! ### impl.ChoicesFor -/
noncomputable def impl_ChoicesFor.k_2 (f0 : GFrame) (n1 : GNote) (q_1 : Bool) : Option ((List GChoice) × Int) := (if q_1 = true then some ([], 1) else (impl_Frame_choices f0 n1).bind fun t_3 => some (t_3, 0))
noncomputable def impl_ChoicesFor (f0 : GFrame) (n1 : GNote) : Option ((List GChoice) × Int) := (impl_ValidFrame f0).bind fun t_4 => (if (!t_4) = true then impl_ChoicesFor.k_2 f0 n1 true else (impl_isNote n1).bind fun t_5 => impl_ChoicesFor.k_2 f0 n1 (!t_5))
set_option maxRecDepth 100000 in
theorem impl_ChoicesFor.calls (f0 : GFrame) (n1 : GNote) (w : World) (r : (List GChoice) × Int) (f0_fHammers_a : Option Addr) (f0_fHammers_an : Nat) (f0_fHammers_c : Nat) (f0_fHammers_h : Rw w f0_fHammers_a 2 encGHammer f0.fHammers) (f0_fHammers_hn : f0.fHammers.length = f0_fHammers_an) (h : impl_ChoicesFor f0 n1 = some r) :
    Calls Try.prog 19 #[(.agg #[(.int .i16 f0.fSteps), (.slice f0_fHammers_a f0_fHammers_an f0_fHammers_c)]), (.agg #[(.int .i16 n1.fAt), (.int .i8 n1.fPitch)])] w fun e w' => ∃ v, e = .returned v ∧ (∃ (o0 : Option Nat) (c0 : Nat) (s0 : List Value) (n0 : Nat), r.1.length = n0 ∧ (o0 ≠ none → n0 ≤ c0 ∧ s0.length = (c0 - n0) * 4) ∧ (o0 = none → r.1 = [] ∧ c0 = 0) ∧ v = .tuple #[.slice (o0.map fun b => ⟨b, 0, none⟩) n0 c0, (.int .i64 r.2)] ∧ Mem w [] [⟨o0, 113, row encGChoice r.1 s0⟩] w') := by
  subst f0_fHammers_hn
  rw [impl_ChoicesFor] at h
  refine enter (args := [(.agg #[(.int .i16 f0.fSteps), (.slice f0_fHammers_a f0.fHammers.length f0_fHammers_c)]), (.agg #[(.int .i16 n1.fAt), (.int .i8 n1.fPitch)])]) Try.func19 rfl Try.ntmps19 (by kernel_rfl) (L := []) (W := []) (Mem.start w) ?_
  refine jc_seq ?_
  refine jc_region ?_
  refine toO (by kernel_rfl) (p_a 0 [0] (by kernel_rfl) (fun b => by kernel_rfl) (fun b_1 => jkO ?_))
  refine toO (by kernel_rfl) (p_a 0 [0] (by kernel_rfl) (fun b => by kernel_rfl) (fun b_2 => jkO ?_))
  refine jo_f [(0, 0), (0, 0)] (by kernel_rfl) ?_
  refine jo_end (by kernel_rfl) ?_
  refine jx_then ?_
  refine jc_seq ?_
  refine jc_seq ?_
  refine jc_meet (fun (j : Bool) => match j with | q_1 => impl_ChoicesFor.k_2 f0 n1 q_1 = some r) (fun (j : Bool) => match j with | q_1 => [(2, [], (.pointer (some ⟨b_1, 0, none⟩))), (3, [], (.pointer (some ⟨b_2, 0, none⟩))), (4, [], (.slice none 0 0)), (5, [], (.int .i64 0)), (13, [], (.bool q_1))]) (fun (j : Bool) => match j with | q_1 => [⟨some b_1, 35, [(.int .i16 f0.fSteps), (.slice f0_fHammers_a f0.fHammers.length f0_fHammers_c)]⟩, ⟨some b_2, 37, [(.int .i16 n1.fAt), (.int .i8 n1.fPitch)]⟩]) ?_ ?_
  · refine jc_region ?_
    refine jo_f [(0, 0)] (by kernel_rfl) ?_
    obtain ⟨t_4, ht_20, h⟩ := bd h
    refine toO (by kernel_rfl) (p_call 0 72 #[(.agg #[(.int .i16 f0.fSteps), (.slice f0_fHammers_a f0.fHammers.length f0_fHammers_c)])] (by kernel_rfl) (by kernel_rfl) (fun w hm => impl_ValidFrame.calls f0 w _ f0_fHammers_a f0.fHammers.length f0_fHammers_c (hm.exRow f0_fHammers_h List.not_mem_nil) rfl ht_20) ?_)
    rintro w v w' hm ⟨rfl, hm'⟩
    refine ⟨_, hm.app hm', jkO ?_⟩
    clear hm hm'
    refine jo_f [(0, 0), (0, 0), (1, 1)] (by kernel_rfl) ?_
    refine jo_split 9 (!t_4) (by kernel_rfl) (fun hc_21 => ?_) (fun hc_21 => ?_)
    · replace h := ifT hc_21 h
      refine jo_f [(0, 3), (0, 3), (0, 4)] (by kernel_rfl) ?_
      refine jo_end (by kernel_rfl) ?_
      exact jx_meet true h (by kernel_rfl) [0, 1] (by kernel_rfl) (by kernel_rfl)
    · replace h := ifF hc_21 h
      obtain ⟨t_5, ht_22, h⟩ := bd h
      refine toO (by kernel_rfl) (p_call 2 73 #[(.agg #[(.int .i16 n1.fAt), (.int .i8 n1.fPitch)])] (by kernel_rfl) (by kernel_rfl) (fun w hm => impl_isNote.calls n1 w _ ht_22) ?_)
      rintro w v w' hm ⟨rfl, hm'⟩
      refine ⟨_, hm.app hm', jkO ?_⟩
      clear hm hm'
      refine jo_f [(0, 2), (0, 5)] (by kernel_rfl) ?_
      refine jo_end (by kernel_rfl) ?_
      exact jx_meet (!t_5) h (by kernel_rfl) [0, 1] (by kernel_rfl) (by kernel_rfl)
  · rintro q_1 h
    replace h : impl_ChoicesFor.k_2 f0 n1 q_1 = some r := h
    rw [impl_ChoicesFor.k_2] at h
    refine jx_then ?_
    refine jc_cond q_1 (by kernel_rfl) (fun hc_13 => ?_) (fun hc_13 => ?_)
    · replace h := ifT hc_13 h
      refine jc_seq ?_
      refine jc_region ?_
      refine jo_f [(0, 0), (0, 0)] (by kernel_rfl) ?_
      refine jo_end (by kernel_rfl) ?_
      refine jx_then ?_
      refine jc_ret ?_
      refine jx_thenr ?_
      obtain rfl := Option.some.inj h
      refine jx_ghost 113 encGChoice ?_
      exact jx_ret [] (.tuple #[(.slice none 0 0), (.int .i64 1)]) [] rfl (by kernel_rfl) (by kernel_rfl) (fun w hm => ⟨none, 0, [], 0, rfl, (fun e => absurd rfl e), (fun _ => ⟨rfl, rfl⟩), rfl, hm.pick [2] (by kernel_rfl) (by kernel_rfl)⟩)
    · replace h := ifF hc_13 h
      refine jc_skip ?_
      refine jx_then ?_
      refine jc_seq ?_
      refine jc_region ?_
      refine jo_f [(0, 0), (1, 0)] (by kernel_rfl) ?_
      obtain ⟨t_3, ht_14, h⟩ := bd h
      refine toO (by kernel_rfl) (p_call 0 74 #[(.agg #[(.int .i16 f0.fSteps), (.slice f0_fHammers_a f0.fHammers.length f0_fHammers_c)]), (.agg #[(.int .i16 n1.fAt), (.int .i8 n1.fPitch)])] (by kernel_rfl) (by kernel_rfl) (fun w hm => impl_Frame_choices.calls f0 n1 w _ f0_fHammers_a f0.fHammers.length f0_fHammers_c (hm.exRow f0_fHammers_h List.not_mem_nil) rfl ht_14) ?_)
      rintro w v w' hm ⟨o_15, cap_16, sp_17, _, rfl, hs_18, ho_19, rfl, hm'⟩
      refine ⟨_, hm.app hm', jkO ?_⟩
      clear hm hm'
      refine jo_f [(0, 0), (0, 0)] (by kernel_rfl) ?_
      refine jo_end (by kernel_rfl) ?_
      refine jx_then ?_
      refine jc_ret ?_
      obtain rfl := Option.some.inj h
      exact jx_ret [] (.tuple #[(.slice (o_15.map fun b => ⟨b, 0, none⟩) t_3.length cap_16), (.int .i64 0)]) [] rfl (by kernel_rfl) (by kernel_rfl) (fun w hm => ⟨o_15, cap_16, sp_17, t_3.length, rfl, hs_18, ho_19, rfl, hm.pick [2] (by kernel_rfl) (by kernel_rfl)⟩)

/-! ### laws.eqChoice -/
noncomputable def laws_eqChoice (a0 : GChoice) (b1 : GChoice) : Option (Bool) := (if (a0.fAway != b1.fAway) = true then some false else (if (a0.fLate != b1.fLate) = true then some false else (if (a0.fOctave != b1.fOctave) = true then some false else (if (a0.fTrack != b1.fTrack) = true then some false else some true))))
set_option maxRecDepth 100000 in
theorem laws_eqChoice.calls (a0 : GChoice) (b1 : GChoice) (w : World) (r : Bool) (h : laws_eqChoice a0 b1 = some r) :
    Calls Try.prog 75 #[(.agg #[(.bool a0.fAway), (.int .i8 a0.fLate), (.int .i8 a0.fOctave), (.int .i8 a0.fTrack)]), (.agg #[(.bool b1.fAway), (.int .i8 b1.fLate), (.int .i8 b1.fOctave), (.int .i8 b1.fTrack)])] w fun e w' => ∃ v, e = .returned v ∧ (v = (.bool r) ∧ Mem w [] [] w') := by
  rw [laws_eqChoice] at h
  refine enter (args := [(.agg #[(.bool a0.fAway), (.int .i8 a0.fLate), (.int .i8 a0.fOctave), (.int .i8 a0.fTrack)]), (.agg #[(.bool b1.fAway), (.int .i8 b1.fLate), (.int .i8 b1.fOctave), (.int .i8 b1.fTrack)])]) Try.func75 rfl Try.ntmps75 (by kernel_rfl) (L := []) (W := []) (Mem.start w) ?_
  refine jc_seq ?_
  refine jc_region ?_
  refine toO (by kernel_rfl) (p_a 0 [0] (by kernel_rfl) (fun b => by kernel_rfl) (fun b_1 => jkO ?_))
  refine toO (by kernel_rfl) (p_a 0 [0] (by kernel_rfl) (fun b => by kernel_rfl) (fun b_2 => jkO ?_))
  refine jo_f [(0, 0)] (by kernel_rfl) ?_
  refine jo_end (by kernel_rfl) ?_
  refine jx_then ?_
  refine jc_seq ?_
  refine jc_seq ?_
  refine jc_region ?_
  refine jo_f [(0, 0), (0, 0), (0, 0), (1, 0), (0, 0)] (by kernel_rfl) ?_
  refine jo_end (by kernel_rfl) ?_
  refine jx_then ?_
  refine jc_cond (a0.fAway != b1.fAway) (by kernel_rfl) (fun hc_4 => ?_) (fun hc_4 => ?_)
  · replace h := ifT hc_4 h
    refine jc_seq ?_
    refine jc_region ?_
    refine jo_f [(0, 0)] (by kernel_rfl) ?_
    refine jo_end (by kernel_rfl) ?_
    refine jx_then ?_
    refine jc_ret ?_
    refine jx_thenr ?_
    obtain rfl := Option.some.inj h
    exact jx_ret [] (.bool false) [] rfl (by kernel_rfl) (by kernel_rfl) (fun w hm => ⟨rfl, hm.pick [] (by kernel_rfl) (by kernel_rfl)⟩)
  · replace h := ifF hc_4 h
    refine jc_skip ?_
    refine jx_then ?_
    refine jc_seq ?_
    refine jc_seq ?_
    refine jc_region ?_
    refine jo_f [(0, 0), (0, 0), (0, 0), (1, 0), (0, 0)] (by kernel_rfl) ?_
    refine jo_end (by kernel_rfl) ?_
    refine jx_then ?_
    refine jc_cond (a0.fLate != b1.fLate) (by kernel_rfl) (fun hc_6 => ?_) (fun hc_6 => ?_)
    · replace h := ifT hc_6 h
      refine jc_seq ?_
      refine jc_region ?_
      refine jo_f [(0, 0)] (by kernel_rfl) ?_
      refine jo_end (by kernel_rfl) ?_
      refine jx_then ?_
      refine jc_ret ?_
      refine jx_thenr ?_
      obtain rfl := Option.some.inj h
      exact jx_ret [] (.bool false) [] rfl (by kernel_rfl) (by kernel_rfl) (fun w hm => ⟨rfl, hm.pick [] (by kernel_rfl) (by kernel_rfl)⟩)
    · replace h := ifF hc_6 h
      refine jc_skip ?_
      refine jx_then ?_
      refine jc_seq ?_
      refine jc_seq ?_
      refine jc_region ?_
      refine jo_f [(0, 0), (0, 0), (0, 0), (1, 0), (0, 0)] (by kernel_rfl) ?_
      refine jo_end (by kernel_rfl) ?_
      refine jx_then ?_
      refine jc_cond (a0.fOctave != b1.fOctave) (by kernel_rfl) (fun hc_8 => ?_) (fun hc_8 => ?_)
      · replace h := ifT hc_8 h
        refine jc_seq ?_
        refine jc_region ?_
        refine jo_f [(0, 0)] (by kernel_rfl) ?_
        refine jo_end (by kernel_rfl) ?_
        refine jx_then ?_
        refine jc_ret ?_
        refine jx_thenr ?_
        obtain rfl := Option.some.inj h
        exact jx_ret [] (.bool false) [] rfl (by kernel_rfl) (by kernel_rfl) (fun w hm => ⟨rfl, hm.pick [] (by kernel_rfl) (by kernel_rfl)⟩)
      · replace h := ifF hc_8 h
        refine jc_skip ?_
        refine jx_then ?_
        refine jc_seq ?_
        refine jc_seq ?_
        refine jc_region ?_
        refine jo_f [(0, 0), (0, 0), (0, 0), (1, 0), (0, 0)] (by kernel_rfl) ?_
        refine jo_end (by kernel_rfl) ?_
        refine jx_then ?_
        refine jc_cond (a0.fTrack != b1.fTrack) (by kernel_rfl) (fun hc_9 => ?_) (fun hc_9 => ?_)
        · replace h := ifT hc_9 h
          refine jc_seq ?_
          refine jc_region ?_
          refine jo_f [(0, 0)] (by kernel_rfl) ?_
          refine jo_end (by kernel_rfl) ?_
          refine jx_then ?_
          refine jc_ret ?_
          refine jx_thenr ?_
          obtain rfl := Option.some.inj h
          exact jx_ret [] (.bool false) [] rfl (by kernel_rfl) (by kernel_rfl) (fun w hm => ⟨rfl, hm.pick [] (by kernel_rfl) (by kernel_rfl)⟩)
        · replace h := ifF hc_9 h
          refine jc_skip ?_
          refine jx_then ?_
          refine jc_seq ?_
          refine jc_region ?_
          refine jo_f [(0, 0)] (by kernel_rfl) ?_
          refine jo_end (by kernel_rfl) ?_
          refine jx_then ?_
          refine jc_ret ?_
          obtain rfl := Option.some.inj h
          exact jx_ret [] (.bool true) [] rfl (by kernel_rfl) (by kernel_rfl) (fun w hm => ⟨rfl, hm.pick [] (by kernel_rfl) (by kernel_rfl)⟩)

/-! ### laws.eqChoiceS -/
noncomputable def laws_eqChoiceS.k_1 : Option (Bool) := some true
noncomputable def laws_eqChoiceS.l_3 (a0 : List GChoice) (b1 : List GChoice) : Int → Option ((Int) ⊕ (Bool ⊕ Unit))
  | i_2 => (if (decide (i_2 < (a0.length : Int))) = true then (ix a0 i_2).bind fun x_5 => (ix b1 i_2).bind fun x_6 => (laws_eqChoice x_5 x_6).bind fun t_7 => (if (!t_7) = true then some (.inr (.inl false)) else some (.inl (w64 (i_2 + 1)))) else some (.inr (.inr ())))
noncomputable def laws_eqChoiceS (a0 : List GChoice) (b1 : List GChoice) : Option (Bool) := (if ((a0.length : Int) != (b1.length : Int)) = true then some false else (loop (laws_eqChoiceS.l_3 a0 b1) 0).bind fun t_4 => match t_4 with | .inl p => some p | .inr p => laws_eqChoiceS.k_1)
set_option maxRecDepth 100000 in
theorem laws_eqChoiceS.calls (a0 : List GChoice) (b1 : List GChoice) (w : World) (r : Bool) (a0_a : Option Addr) (a0_an : Nat) (a0_c : Nat) (a0_h : Rw w a0_a 4 encGChoice a0) (a0_hn : a0.length = a0_an) (b1_a : Option Addr) (b1_an : Nat) (b1_c : Nat) (b1_h : Rw w b1_a 4 encGChoice b1) (b1_hn : b1.length = b1_an) (h : laws_eqChoiceS a0 b1 = some r) :
    Calls Try.prog 20 #[(.slice a0_a a0_an a0_c), (.slice b1_a b1_an b1_c)] w fun e w' => ∃ v, e = .returned v ∧ (v = (.bool r) ∧ Mem w [] [] w') := by
  subst a0_hn b1_hn
  rw [laws_eqChoiceS] at h
  refine enter (args := [(.slice a0_a a0.length a0_c), (.slice b1_a b1.length b1_c)]) Try.func20 rfl Try.ntmps20 (by kernel_rfl) (L := []) (W := []) (Mem.start w) ?_
  refine jc_seq ?_
  refine jc_region ?_
  refine jo_f [(0, 0)] (by kernel_rfl) ?_
  refine jo_end (by kernel_rfl) ?_
  refine jx_then ?_
  refine jc_seq ?_
  refine jc_seq ?_
  refine jc_region ?_
  refine jo_f [(0, 0), (0, 0), (0, 0), (0, 0), (0, 0)] (by kernel_rfl) ?_
  refine jo_end (by kernel_rfl) ?_
  refine jx_then ?_
  refine jc_cond ((a0.length : Int) != (b1.length : Int)) (by kernel_rfl) (fun hc_2 => ?_) (fun hc_2 => ?_)
  · replace h := ifT hc_2 h
    refine jc_seq ?_
    refine jc_region ?_
    refine jo_f [(0, 0)] (by kernel_rfl) ?_
    refine jo_end (by kernel_rfl) ?_
    refine jx_then ?_
    refine jc_ret ?_
    refine jx_thenr ?_
    obtain rfl := Option.some.inj h
    exact jx_ret [] (.bool false) [] rfl (by kernel_rfl) (by kernel_rfl) (fun w hm => ⟨rfl, hm.pick [] (by kernel_rfl) (by kernel_rfl)⟩)
  · replace h := ifF hc_2 h
    refine jc_skip ?_
    refine jx_then ?_
    refine jc_seq ?_
    refine jc_seq ?_
    refine jc_region ?_
    refine jo_f [(0, 0)] (by kernel_rfl) ?_
    refine jo_end (by kernel_rfl) ?_
    refine jx_then ?_
    refine jc_meet (fun (_ : Unit) => laws_eqChoiceS.k_1 = some r) (fun (_ : Unit) => [(4, [], (.bool false))]) (fun (_ : Unit) => []) ?_ ?_
    · refine jc_block ?_
      obtain ⟨t_4, ht_48, hr_38⟩ := bd h
      refine jc_loop (fun (s : Int) (x : Unit) => match s, x with | i_2, _ => True) (fun (s : Int) (x : Unit) => match s, x with | i_2, _ => [(0, [], (.slice a0_a a0.length a0_c)), (1, [], (.slice b1_a b1.length b1_c)), (4, [], (.bool false)), (5, [], (.int .i64 i_2))]) (fun (s : Int) (x : Unit) => match s, x with | i_2, _ => []) ht_48 () trivial (by kernel_rfl) [] (by kernel_rfl) (by kernel_rfl) ?_
      rintro i_2 _ y_39 _ h
      rw [laws_eqChoiceS.l_3] at h
      refine jc_seq ?_
      refine jc_seq ?_
      refine jc_region ?_
      refine jo_f [(0, 0), (0, 0), (0, 0), (0, 0)] (by kernel_rfl) ?_
      refine jo_end (by kernel_rfl) ?_
      refine jx_then ?_
      refine jc_cond (decide (i_2 < (a0.length : Int))) (by kernel_rfl) (fun hc_41 => ?_) (fun hc_41 => ?_)
      · replace h := ifT hc_41 h
        refine jc_skip ?_
        refine jx_then ?_
        refine jc_seq ?_
        refine jc_block ?_
        refine jc_seq ?_
        refine jc_draw [] 10 (by kernel_rfl) (by kernel_rfl) ?_
        refine jd_f [⟨0, 0, 0⟩, ⟨1, 0, 0⟩, ⟨4, 0, 0⟩, ⟨5, 0, 0⟩] 6 (by kernel_rfl) (by kernel_rfl) (fun w h => h.pick [] (by kernel_rfl) (by kernel_rfl)) (by kernel_rfl) (by kernel_rfl) ?_
        obtain ⟨x_5, hx_42, h⟩ := bd h
        refine jd_v 2 0 (by kernel_rfl) (fun w h => h.pick [] (by kernel_rfl) (by kernel_rfl)) (by kernel_rfl) (by kernel_rfl) _ (fun w hm => idx_run (a := a0_a) (len := a0.length) (s := 4) (j := i_2) (by kernel_rfl) (ix_some hx_42).1 (ltn hx_42 rfl) (a0_h.sp hx_42)) ?_
        refine jd_v 3 0 (by kernel_rfl) (fun w h => h.pick [] (by kernel_rfl) (by kernel_rfl)) (by kernel_rfl) (by kernel_rfl) _ (fun w hm => ld_run (b := aB a0_a) (off := (aO a0_a + i_2.toNat * 4)) (s := 4) (agg := true) (vs := (encGChoice x_5)) (by kernel_rfl) (by kernel_rfl) (.inl rfl) ((hm.exRow a0_h List.not_mem_nil).at hx_42)) ?_
        obtain ⟨x_6, hx_43, h⟩ := bd h
        refine jd_v 6 0 (by kernel_rfl) (fun w h => h.pick [] (by kernel_rfl) (by kernel_rfl)) (by kernel_rfl) (by kernel_rfl) _ (fun w hm => idx_run (a := b1_a) (len := b1.length) (s := 4) (j := i_2) (by kernel_rfl) (ix_some hx_43).1 (ltn hx_43 rfl) (b1_h.sp hx_43)) ?_
        refine jd_v 7 0 (by kernel_rfl) (fun w h => h.pick [] (by kernel_rfl) (by kernel_rfl)) (by kernel_rfl) (by kernel_rfl) _ (fun w hm => ld_run (b := aB b1_a) (off := (aO b1_a + i_2.toNat * 4)) (s := 4) (agg := true) (vs := (encGChoice x_6)) (by kernel_rfl) (by kernel_rfl) (.inl rfl) ((hm.exRow b1_h List.not_mem_nil).at hx_43)) ?_
        obtain ⟨t_7, ht_44, h⟩ := bd h
        refine toD 8 (by kernel_rfl) (p_call 0 75 #[(.agg #[(.bool x_5.fAway), (.int .i8 x_5.fLate), (.int .i8 x_5.fOctave), (.int .i8 x_5.fTrack)]), (.agg #[(.bool x_6.fAway), (.int .i8 x_6.fLate), (.int .i8 x_6.fOctave), (.int .i8 x_6.fTrack)])] (by kernel_rfl) (by kernel_rfl) (fun w hm => laws_eqChoice.calls x_5 x_6 w _ ht_44) ?_)
        rintro w v w' hm ⟨rfl, hm'⟩
        refine ⟨_, hm.app hm', jkD (fun w h => h.pick [] (by kernel_rfl) (by kernel_rfl)) ?_⟩
        clear hm hm'
        refine jd_f [⟨9, 0, 0⟩] 0 (by kernel_rfl) (by kernel_rfl) (fun w h => h.pick [] (by kernel_rfl) (by kernel_rfl)) (by kernel_rfl) (by kernel_rfl) ?_
        refine jd_end (by kernel_rfl) ?_
        refine jx_then ?_
        refine jc_cond (!t_7) (by kernel_rfl) (fun hc_45 => ?_) (fun hc_45 => ?_)
        · replace h := ifT hc_45 h
          refine jc_seq ?_
          refine jc_region ?_
          refine jo_f [(0, 0)] (by kernel_rfl) ?_
          refine jo_end (by kernel_rfl) ?_
          refine jx_then ?_
          refine jc_ret ?_
          refine jx_inr ?_
          refine jx_thenr ?_
          refine jx_leaver (.inl false) (Option.some.inj h).symm (fun e_46 => ?_)
          subst e_46
          refine jx_inr ?_
          refine jx_thenr ?_
          refine jx_thenr ?_
          obtain rfl := Option.some.inj hr_38
          exact jx_ret [] (.bool false) [] rfl (by kernel_rfl) (by kernel_rfl) (fun w hm => ⟨rfl, hm.pick [] (by kernel_rfl) (by kernel_rfl)⟩)
        · replace h := ifF hc_45 h
          refine jc_skip ?_
          refine jx_inn ?_
          refine jx_then ?_
          refine jc_region ?_
          refine jo_f [(0, 0), (0, 0), (0, 0)] (by kernel_rfl) ?_
          refine jo_end (by kernel_rfl) ?_
          exact jx_back (w64 (i_2 + 1)) () (Option.some.inj h).symm trivial [] (by kernel_rfl) (by kernel_rfl) (by kernel_rfl)
      · replace h := ifF hc_41 h
        refine jc_exit ?_
        refine jx_thenx ?_
        refine jx_leave (.inr ()) (Option.some.inj h).symm (fun e_47 => ?_)
        subst e_47
        refine jx_ine ?_
        exact jx_meet () hr_38 (by kernel_rfl) [] (by kernel_rfl) (by kernel_rfl)
    · rintro _ h
      replace h : laws_eqChoiceS.k_1 = some r := h
      rw [laws_eqChoiceS.k_1] at h
      refine jx_then ?_
      refine jc_seq ?_
      refine jc_region ?_
      refine jo_f [(0, 0)] (by kernel_rfl) ?_
      refine jo_end (by kernel_rfl) ?_
      refine jx_then ?_
      refine jc_ret ?_
      obtain rfl := Option.some.inj h
      exact jx_ret [] (.bool true) [] rfl (by kernel_rfl) (by kernel_rfl) (fun w hm => ⟨rfl, hm.pick [] (by kernel_rfl) (by kernel_rfl)⟩)

/-! ### laws.eqHammer -/
noncomputable def laws_eqHammer (a0 : GHammer) (b1 : GHammer) : Option (Bool) := (if (a0.fPitch != b1.fPitch) = true then some false else (if (a0.fReady != b1.fReady) = true then some false else some true))
set_option maxRecDepth 100000 in
theorem laws_eqHammer.calls (a0 : GHammer) (b1 : GHammer) (w : World) (r : Bool) (h : laws_eqHammer a0 b1 = some r) :
    Calls Try.prog 139 #[(.agg #[(.int .i8 a0.fPitch), (.int .i8 a0.fReady)]), (.agg #[(.int .i8 b1.fPitch), (.int .i8 b1.fReady)])] w fun e w' => ∃ v, e = .returned v ∧ (v = (.bool r) ∧ Mem w [] [] w') := by
  rw [laws_eqHammer] at h
  refine enter (args := [(.agg #[(.int .i8 a0.fPitch), (.int .i8 a0.fReady)]), (.agg #[(.int .i8 b1.fPitch), (.int .i8 b1.fReady)])]) Try.func139 rfl Try.ntmps139 (by kernel_rfl) (L := []) (W := []) (Mem.start w) ?_
  refine jc_seq ?_
  refine jc_region ?_
  refine toO (by kernel_rfl) (p_a 0 [0] (by kernel_rfl) (fun b => by kernel_rfl) (fun b_1 => jkO ?_))
  refine toO (by kernel_rfl) (p_a 0 [0] (by kernel_rfl) (fun b => by kernel_rfl) (fun b_2 => jkO ?_))
  refine jo_f [(0, 0)] (by kernel_rfl) ?_
  refine jo_end (by kernel_rfl) ?_
  refine jx_then ?_
  refine jc_seq ?_
  refine jc_seq ?_
  refine jc_region ?_
  refine jo_f [(0, 0), (0, 0), (0, 0), (1, 0), (0, 0)] (by kernel_rfl) ?_
  refine jo_end (by kernel_rfl) ?_
  refine jx_then ?_
  refine jc_cond (a0.fPitch != b1.fPitch) (by kernel_rfl) (fun hc_4 => ?_) (fun hc_4 => ?_)
  · replace h := ifT hc_4 h
    refine jc_seq ?_
    refine jc_region ?_
    refine jo_f [(0, 0)] (by kernel_rfl) ?_
    refine jo_end (by kernel_rfl) ?_
    refine jx_then ?_
    refine jc_ret ?_
    refine jx_thenr ?_
    obtain rfl := Option.some.inj h
    exact jx_ret [] (.bool false) [] rfl (by kernel_rfl) (by kernel_rfl) (fun w hm => ⟨rfl, hm.pick [] (by kernel_rfl) (by kernel_rfl)⟩)
  · replace h := ifF hc_4 h
    refine jc_skip ?_
    refine jx_then ?_
    refine jc_seq ?_
    refine jc_seq ?_
    refine jc_region ?_
    refine jo_f [(0, 0), (0, 0), (0, 0), (1, 0), (0, 0)] (by kernel_rfl) ?_
    refine jo_end (by kernel_rfl) ?_
    refine jx_then ?_
    refine jc_cond (a0.fReady != b1.fReady) (by kernel_rfl) (fun hc_5 => ?_) (fun hc_5 => ?_)
    · replace h := ifT hc_5 h
      refine jc_seq ?_
      refine jc_region ?_
      refine jo_f [(0, 0)] (by kernel_rfl) ?_
      refine jo_end (by kernel_rfl) ?_
      refine jx_then ?_
      refine jc_ret ?_
      refine jx_thenr ?_
      obtain rfl := Option.some.inj h
      exact jx_ret [] (.bool false) [] rfl (by kernel_rfl) (by kernel_rfl) (fun w hm => ⟨rfl, hm.pick [] (by kernel_rfl) (by kernel_rfl)⟩)
    · replace h := ifF hc_5 h
      refine jc_skip ?_
      refine jx_then ?_
      refine jc_seq ?_
      refine jc_region ?_
      refine jo_f [(0, 0)] (by kernel_rfl) ?_
      refine jo_end (by kernel_rfl) ?_
      refine jx_then ?_
      refine jc_ret ?_
      obtain rfl := Option.some.inj h
      exact jx_ret [] (.bool true) [] rfl (by kernel_rfl) (by kernel_rfl) (fun w hm => ⟨rfl, hm.pick [] (by kernel_rfl) (by kernel_rfl)⟩)

/-! ### laws.eqHammerS -/
noncomputable def laws_eqHammerS.k_1 : Option (Bool) := some true
noncomputable def laws_eqHammerS.l_3 (a0 : List GHammer) (b1 : List GHammer) : Int → Option ((Int) ⊕ (Bool ⊕ Unit))
  | i_2 => (if (decide (i_2 < (a0.length : Int))) = true then (ix a0 i_2).bind fun x_5 => (ix b1 i_2).bind fun x_6 => (laws_eqHammer x_5 x_6).bind fun t_7 => (if (!t_7) = true then some (.inr (.inl false)) else some (.inl (w64 (i_2 + 1)))) else some (.inr (.inr ())))
noncomputable def laws_eqHammerS (a0 : List GHammer) (b1 : List GHammer) : Option (Bool) := (if ((a0.length : Int) != (b1.length : Int)) = true then some false else (loop (laws_eqHammerS.l_3 a0 b1) 0).bind fun t_4 => match t_4 with | .inl p => some p | .inr p => laws_eqHammerS.k_1)
set_option maxRecDepth 100000 in
theorem laws_eqHammerS.calls (a0 : List GHammer) (b1 : List GHammer) (w : World) (r : Bool) (a0_a : Option Addr) (a0_an : Nat) (a0_c : Nat) (a0_h : Rw w a0_a 2 encGHammer a0) (a0_hn : a0.length = a0_an) (b1_a : Option Addr) (b1_an : Nat) (b1_c : Nat) (b1_h : Rw w b1_a 2 encGHammer b1) (b1_hn : b1.length = b1_an) (h : laws_eqHammerS a0 b1 = some r) :
    Calls Try.prog 76 #[(.slice a0_a a0_an a0_c), (.slice b1_a b1_an b1_c)] w fun e w' => ∃ v, e = .returned v ∧ (v = (.bool r) ∧ Mem w [] [] w') := by
  subst a0_hn b1_hn
  rw [laws_eqHammerS] at h
  refine enter (args := [(.slice a0_a a0.length a0_c), (.slice b1_a b1.length b1_c)]) Try.func76 rfl Try.ntmps76 (by kernel_rfl) (L := []) (W := []) (Mem.start w) ?_
  refine jc_seq ?_
  refine jc_region ?_
  refine jo_f [(0, 0)] (by kernel_rfl) ?_
  refine jo_end (by kernel_rfl) ?_
  refine jx_then ?_
  refine jc_seq ?_
  refine jc_seq ?_
  refine jc_region ?_
  refine jo_f [(0, 0), (0, 0), (0, 0), (0, 0), (0, 0)] (by kernel_rfl) ?_
  refine jo_end (by kernel_rfl) ?_
  refine jx_then ?_
  refine jc_cond ((a0.length : Int) != (b1.length : Int)) (by kernel_rfl) (fun hc_2 => ?_) (fun hc_2 => ?_)
  · replace h := ifT hc_2 h
    refine jc_seq ?_
    refine jc_region ?_
    refine jo_f [(0, 0)] (by kernel_rfl) ?_
    refine jo_end (by kernel_rfl) ?_
    refine jx_then ?_
    refine jc_ret ?_
    refine jx_thenr ?_
    obtain rfl := Option.some.inj h
    exact jx_ret [] (.bool false) [] rfl (by kernel_rfl) (by kernel_rfl) (fun w hm => ⟨rfl, hm.pick [] (by kernel_rfl) (by kernel_rfl)⟩)
  · replace h := ifF hc_2 h
    refine jc_skip ?_
    refine jx_then ?_
    refine jc_seq ?_
    refine jc_seq ?_
    refine jc_region ?_
    refine jo_f [(0, 0)] (by kernel_rfl) ?_
    refine jo_end (by kernel_rfl) ?_
    refine jx_then ?_
    refine jc_meet (fun (_ : Unit) => laws_eqHammerS.k_1 = some r) (fun (_ : Unit) => [(4, [], (.bool false))]) (fun (_ : Unit) => []) ?_ ?_
    · refine jc_block ?_
      obtain ⟨t_4, ht_48, hr_38⟩ := bd h
      refine jc_loop (fun (s : Int) (x : Unit) => match s, x with | i_2, _ => True) (fun (s : Int) (x : Unit) => match s, x with | i_2, _ => [(0, [], (.slice a0_a a0.length a0_c)), (1, [], (.slice b1_a b1.length b1_c)), (4, [], (.bool false)), (5, [], (.int .i64 i_2))]) (fun (s : Int) (x : Unit) => match s, x with | i_2, _ => []) ht_48 () trivial (by kernel_rfl) [] (by kernel_rfl) (by kernel_rfl) ?_
      rintro i_2 _ y_39 _ h
      rw [laws_eqHammerS.l_3] at h
      refine jc_seq ?_
      refine jc_seq ?_
      refine jc_region ?_
      refine jo_f [(0, 0), (0, 0), (0, 0), (0, 0)] (by kernel_rfl) ?_
      refine jo_end (by kernel_rfl) ?_
      refine jx_then ?_
      refine jc_cond (decide (i_2 < (a0.length : Int))) (by kernel_rfl) (fun hc_41 => ?_) (fun hc_41 => ?_)
      · replace h := ifT hc_41 h
        refine jc_skip ?_
        refine jx_then ?_
        refine jc_seq ?_
        refine jc_block ?_
        refine jc_seq ?_
        refine jc_draw [] 10 (by kernel_rfl) (by kernel_rfl) ?_
        refine jd_f [⟨0, 0, 0⟩, ⟨1, 0, 0⟩, ⟨4, 0, 0⟩, ⟨5, 0, 0⟩] 6 (by kernel_rfl) (by kernel_rfl) (fun w h => h.pick [] (by kernel_rfl) (by kernel_rfl)) (by kernel_rfl) (by kernel_rfl) ?_
        obtain ⟨x_5, hx_42, h⟩ := bd h
        refine jd_v 2 0 (by kernel_rfl) (fun w h => h.pick [] (by kernel_rfl) (by kernel_rfl)) (by kernel_rfl) (by kernel_rfl) _ (fun w hm => idx_run (a := a0_a) (len := a0.length) (s := 2) (j := i_2) (by kernel_rfl) (ix_some hx_42).1 (ltn hx_42 rfl) (a0_h.sp hx_42)) ?_
        refine jd_v 3 0 (by kernel_rfl) (fun w h => h.pick [] (by kernel_rfl) (by kernel_rfl)) (by kernel_rfl) (by kernel_rfl) _ (fun w hm => ld_run (b := aB a0_a) (off := (aO a0_a + i_2.toNat * 2)) (s := 2) (agg := true) (vs := (encGHammer x_5)) (by kernel_rfl) (by kernel_rfl) (.inl rfl) ((hm.exRow a0_h List.not_mem_nil).at hx_42)) ?_
        obtain ⟨x_6, hx_43, h⟩ := bd h
        refine jd_v 6 0 (by kernel_rfl) (fun w h => h.pick [] (by kernel_rfl) (by kernel_rfl)) (by kernel_rfl) (by kernel_rfl) _ (fun w hm => idx_run (a := b1_a) (len := b1.length) (s := 2) (j := i_2) (by kernel_rfl) (ix_some hx_43).1 (ltn hx_43 rfl) (b1_h.sp hx_43)) ?_
        refine jd_v 7 0 (by kernel_rfl) (fun w h => h.pick [] (by kernel_rfl) (by kernel_rfl)) (by kernel_rfl) (by kernel_rfl) _ (fun w hm => ld_run (b := aB b1_a) (off := (aO b1_a + i_2.toNat * 2)) (s := 2) (agg := true) (vs := (encGHammer x_6)) (by kernel_rfl) (by kernel_rfl) (.inl rfl) ((hm.exRow b1_h List.not_mem_nil).at hx_43)) ?_
        obtain ⟨t_7, ht_44, h⟩ := bd h
        refine toD 8 (by kernel_rfl) (p_call 0 139 #[(.agg #[(.int .i8 x_5.fPitch), (.int .i8 x_5.fReady)]), (.agg #[(.int .i8 x_6.fPitch), (.int .i8 x_6.fReady)])] (by kernel_rfl) (by kernel_rfl) (fun w hm => laws_eqHammer.calls x_5 x_6 w _ ht_44) ?_)
        rintro w v w' hm ⟨rfl, hm'⟩
        refine ⟨_, hm.app hm', jkD (fun w h => h.pick [] (by kernel_rfl) (by kernel_rfl)) ?_⟩
        clear hm hm'
        refine jd_f [⟨9, 0, 0⟩] 0 (by kernel_rfl) (by kernel_rfl) (fun w h => h.pick [] (by kernel_rfl) (by kernel_rfl)) (by kernel_rfl) (by kernel_rfl) ?_
        refine jd_end (by kernel_rfl) ?_
        refine jx_then ?_
        refine jc_cond (!t_7) (by kernel_rfl) (fun hc_45 => ?_) (fun hc_45 => ?_)
        · replace h := ifT hc_45 h
          refine jc_seq ?_
          refine jc_region ?_
          refine jo_f [(0, 0)] (by kernel_rfl) ?_
          refine jo_end (by kernel_rfl) ?_
          refine jx_then ?_
          refine jc_ret ?_
          refine jx_inr ?_
          refine jx_thenr ?_
          refine jx_leaver (.inl false) (Option.some.inj h).symm (fun e_46 => ?_)
          subst e_46
          refine jx_inr ?_
          refine jx_thenr ?_
          refine jx_thenr ?_
          obtain rfl := Option.some.inj hr_38
          exact jx_ret [] (.bool false) [] rfl (by kernel_rfl) (by kernel_rfl) (fun w hm => ⟨rfl, hm.pick [] (by kernel_rfl) (by kernel_rfl)⟩)
        · replace h := ifF hc_45 h
          refine jc_skip ?_
          refine jx_inn ?_
          refine jx_then ?_
          refine jc_region ?_
          refine jo_f [(0, 0), (0, 0), (0, 0)] (by kernel_rfl) ?_
          refine jo_end (by kernel_rfl) ?_
          exact jx_back (w64 (i_2 + 1)) () (Option.some.inj h).symm trivial [] (by kernel_rfl) (by kernel_rfl) (by kernel_rfl)
      · replace h := ifF hc_41 h
        refine jc_exit ?_
        refine jx_thenx ?_
        refine jx_leave (.inr ()) (Option.some.inj h).symm (fun e_47 => ?_)
        subst e_47
        refine jx_ine ?_
        exact jx_meet () hr_38 (by kernel_rfl) [] (by kernel_rfl) (by kernel_rfl)
    · rintro _ h
      replace h : laws_eqHammerS.k_1 = some r := h
      rw [laws_eqHammerS.k_1] at h
      refine jx_then ?_
      refine jc_seq ?_
      refine jc_region ?_
      refine jo_f [(0, 0)] (by kernel_rfl) ?_
      refine jo_end (by kernel_rfl) ?_
      refine jx_then ?_
      refine jc_ret ?_
      obtain rfl := Option.some.inj h
      exact jx_ret [] (.bool true) [] rfl (by kernel_rfl) (by kernel_rfl) (fun w hm => ⟨rfl, hm.pick [] (by kernel_rfl) (by kernel_rfl)⟩)

/-! ### laws.eqFrame -/
noncomputable def laws_eqFrame (a0 : GFrame) (b1 : GFrame) : Option (Bool) := (if (a0.fSteps != b1.fSteps) = true then some false else (laws_eqHammerS a0.fHammers b1.fHammers).bind fun t_1 => (if (!t_1) = true then some false else some true))
set_option maxRecDepth 100000 in
theorem laws_eqFrame.calls (a0 : GFrame) (b1 : GFrame) (w : World) (r : Bool) (a0_fHammers_a : Option Addr) (a0_fHammers_an : Nat) (a0_fHammers_c : Nat) (a0_fHammers_h : Rw w a0_fHammers_a 2 encGHammer a0.fHammers) (a0_fHammers_hn : a0.fHammers.length = a0_fHammers_an) (b1_fHammers_a : Option Addr) (b1_fHammers_an : Nat) (b1_fHammers_c : Nat) (b1_fHammers_h : Rw w b1_fHammers_a 2 encGHammer b1.fHammers) (b1_fHammers_hn : b1.fHammers.length = b1_fHammers_an) (h : laws_eqFrame a0 b1 = some r) :
    Calls Try.prog 21 #[(.agg #[(.int .i16 a0.fSteps), (.slice a0_fHammers_a a0_fHammers_an a0_fHammers_c)]), (.agg #[(.int .i16 b1.fSteps), (.slice b1_fHammers_a b1_fHammers_an b1_fHammers_c)])] w fun e w' => ∃ v, e = .returned v ∧ (v = (.bool r) ∧ Mem w [] [] w') := by
  subst a0_fHammers_hn b1_fHammers_hn
  rw [laws_eqFrame] at h
  refine enter (args := [(.agg #[(.int .i16 a0.fSteps), (.slice a0_fHammers_a a0.fHammers.length a0_fHammers_c)]), (.agg #[(.int .i16 b1.fSteps), (.slice b1_fHammers_a b1.fHammers.length b1_fHammers_c)])]) Try.func21 rfl Try.ntmps21 (by kernel_rfl) (L := []) (W := []) (Mem.start w) ?_
  refine jc_seq ?_
  refine jc_region ?_
  refine toO (by kernel_rfl) (p_a 0 [0] (by kernel_rfl) (fun b => by kernel_rfl) (fun b_1 => jkO ?_))
  refine toO (by kernel_rfl) (p_a 0 [0] (by kernel_rfl) (fun b => by kernel_rfl) (fun b_2 => jkO ?_))
  refine jo_f [(0, 0)] (by kernel_rfl) ?_
  refine jo_end (by kernel_rfl) ?_
  refine jx_then ?_
  refine jc_seq ?_
  refine jc_seq ?_
  refine jc_region ?_
  refine jo_f [(0, 0), (0, 0), (0, 0), (1, 0), (0, 0)] (by kernel_rfl) ?_
  refine jo_end (by kernel_rfl) ?_
  refine jx_then ?_
  refine jc_cond (a0.fSteps != b1.fSteps) (by kernel_rfl) (fun hc_4 => ?_) (fun hc_4 => ?_)
  · replace h := ifT hc_4 h
    refine jc_seq ?_
    refine jc_region ?_
    refine jo_f [(0, 0)] (by kernel_rfl) ?_
    refine jo_end (by kernel_rfl) ?_
    refine jx_then ?_
    refine jc_ret ?_
    refine jx_thenr ?_
    obtain rfl := Option.some.inj h
    exact jx_ret [] (.bool false) [] rfl (by kernel_rfl) (by kernel_rfl) (fun w hm => ⟨rfl, hm.pick [] (by kernel_rfl) (by kernel_rfl)⟩)
  · replace h := ifF hc_4 h
    refine jc_skip ?_
    refine jx_then ?_
    refine jc_seq ?_
    refine jc_seq ?_
    refine jc_region ?_
    refine jo_f [(0, 0), (0, 0), (0, 0), (1, 0)] (by kernel_rfl) ?_
    obtain ⟨t_1, ht_5, h⟩ := bd h
    refine toO (by kernel_rfl) (p_call 0 76 #[(.slice a0_fHammers_a a0.fHammers.length a0_fHammers_c), (.slice b1_fHammers_a b1.fHammers.length b1_fHammers_c)] (by kernel_rfl) (by kernel_rfl) (fun w hm => laws_eqHammerS.calls a0.fHammers b1.fHammers w _ a0_fHammers_a a0.fHammers.length a0_fHammers_c (hm.exRow a0_fHammers_h List.not_mem_nil) rfl b1_fHammers_a b1.fHammers.length b1_fHammers_c (hm.exRow b1_fHammers_h List.not_mem_nil) rfl ht_5) ?_)
    rintro w v w' hm ⟨rfl, hm'⟩
    refine ⟨_, hm.app hm', jkO ?_⟩
    clear hm hm'
    refine jo_f [(0, 0)] (by kernel_rfl) ?_
    refine jo_end (by kernel_rfl) ?_
    refine jx_then ?_
    refine jc_cond (!t_1) (by kernel_rfl) (fun hc_6 => ?_) (fun hc_6 => ?_)
    · replace h := ifT hc_6 h
      refine jc_seq ?_
      refine jc_region ?_
      refine jo_f [(0, 0)] (by kernel_rfl) ?_
      refine jo_end (by kernel_rfl) ?_
      refine jx_then ?_
      refine jc_ret ?_
      refine jx_thenr ?_
      obtain rfl := Option.some.inj h
      exact jx_ret [] (.bool false) [] rfl (by kernel_rfl) (by kernel_rfl) (fun w hm => ⟨rfl, hm.pick [] (by kernel_rfl) (by kernel_rfl)⟩)
    · replace h := ifF hc_6 h
      refine jc_skip ?_
      refine jx_then ?_
      refine jc_seq ?_
      refine jc_region ?_
      refine jo_f [(0, 0)] (by kernel_rfl) ?_
      refine jo_end (by kernel_rfl) ?_
      refine jx_then ?_
      refine jc_ret ?_
      obtain rfl := Option.some.inj h
      exact jx_ret [] (.bool true) [] rfl (by kernel_rfl) (by kernel_rfl) (fun w hm => ⟨rfl, hm.pick [] (by kernel_rfl) (by kernel_rfl)⟩)

/-! ### laws.markHammerS -/
noncomputable def laws_markHammerS.k_3 (xs_1 : List GHammer) (i_2 : Int) : Option (Int × (List GHammer)) := some (i_2, xs_1)
noncomputable def laws_markHammerS.l_7 (a0 : List GHammer) : ((List GHammer) × Int × Int) → Option (((List GHammer) × Int × Int) ⊕ (((List GHammer) × Int)))
  | (xs_4, i_5, i_6) => (if (decide (i_6 < (a0.length : Int))) = true then (ix xs_4 i_6).bind fun x_9 => (ix (xs_4.set i_6.toNat (⟨(w8 i_5), x_9.fReady⟩ : GHammer)) i_6).bind fun x_10 => some (.inl (((xs_4.set i_6.toNat (⟨(w8 i_5), x_9.fReady⟩ : GHammer)).set i_6.toNat (⟨x_10.fPitch, (w8 (w64 (i_5 + 1)))⟩ : GHammer)), (w64 ((w64 (i_5 + 1)) + 1)), (w64 (i_6 + 1)))) else some (.inr (xs_4, i_5)))
noncomputable def laws_markHammerS (a0 : List GHammer) (k1 : Int) : Option (Int × (List GHammer)) := (loop (laws_markHammerS.l_7 a0) (a0, k1, 0)).bind fun t_8 => laws_markHammerS.k_3 t_8.1 t_8.2
set_option maxRecDepth 100000 in
theorem laws_markHammerS.calls (a0 : List GHammer) (k1 : Int) (w : World) (r : Int × (List GHammer)) (a0_o : Option Nat) (a0_on : Nat) (a0_c : Nat) (a0_sp : List Value) (a0_hn : a0.length = a0_on) (a0_hs : a0_o ≠ none → a0_on ≤ a0_c ∧ a0_sp.length = (a0_c - a0_on) * 2) (a0_ho : a0_o = none → a0 = [] ∧ a0_c = 0) (hm0 : Mem w (bs [a0_o]) [⟨a0_o, 176, row encGHammer a0 a0_sp⟩] w) (h : laws_markHammerS a0 k1 = some r) :
    Calls Try.prog 77 #[(.slice (a0_o.map fun b => ⟨b, 0, none⟩) a0_on a0_c), (.int .i64 k1)] w fun e w' => ∃ v, e = .returned v ∧ (r.2.length = a0_on ∧ (a0_o = none → r.2 = [] ∧ a0_c = 0) ∧ v = (.int .i64 r.1) ∧ Mem w (bs [a0_o]) [⟨a0_o, 176, row encGHammer r.2 a0_sp⟩] w') := by
  subst a0_hn
  rw [laws_markHammerS] at h
  refine enter (args := [(.slice (a0_o.map fun b => ⟨b, 0, none⟩) a0.length a0_c), (.int .i64 k1)]) Try.func77 rfl Try.ntmps77 (by kernel_rfl) (L := [⟨a0_o, 176, row encGHammer a0 a0_sp⟩]) (W := bs [a0_o]) hm0 ?_
  refine jc_seq ?_
  refine jc_region ?_
  refine jo_f [(0, 0)] (by kernel_rfl) ?_
  refine jo_end (by kernel_rfl) ?_
  refine jx_then ?_
  refine jc_seq ?_
  refine jc_seq ?_
  refine jc_region ?_
  refine jo_f [(0, 0)] (by kernel_rfl) ?_
  refine jo_end (by kernel_rfl) ?_
  refine jx_then ?_
  refine jc_meet (fun (j : (List GHammer) × Int) => match j with | ⟨xs_1, i_2⟩ => laws_markHammerS.k_3 xs_1 i_2 = some r ∧ (xs_1.length = a0.length) ∧ ((a0_o = none → xs_1 = [] ∧ a0_c = 0))) (fun (j : (List GHammer) × Int) => match j with | ⟨xs_1, i_2⟩ => [(1, [], (.int .i64 i_2)), (4, [], (.int .i64 0))]) (fun (j : (List GHammer) × Int) => match j with | ⟨xs_1, i_2⟩ => [⟨a0_o, 176, row encGHammer xs_1 a0_sp⟩]) ?_ ?_
  · refine jc_block ?_
    obtain ⟨t_8, ht_84, hr_77⟩ := bd h
    refine jc_loop (fun (s : (List GHammer) × Int × Int) (x : Unit) => match s, x with | ⟨xs_4, i_5, i_6⟩, _ => (xs_4.length = a0.length) ∧ ((a0_o = none → xs_4 = [] ∧ a0_c = 0))) (fun (s : (List GHammer) × Int × Int) (x : Unit) => match s, x with | ⟨xs_4, i_5, i_6⟩, _ => [(0, [], (.slice (a0_o.map fun b => ⟨b, 0, none⟩) a0.length a0_c)), (1, [], (.int .i64 i_5)), (4, [], (.int .i64 0)), (5, [], (.int .i64 i_6))]) (fun (s : (List GHammer) × Int × Int) (x : Unit) => match s, x with | ⟨xs_4, i_5, i_6⟩, _ => [⟨a0_o, 176, row encGHammer xs_4 a0_sp⟩]) ht_84 () ⟨rfl, a0_ho⟩ (by kernel_rfl) [0] (by kernel_rfl) (by kernel_rfl) ?_
    rintro ⟨xs_4, i_5, i_6⟩ _ y_78 ⟨hn_76, ho_75⟩ h
    rw [laws_markHammerS.l_7] at h
    refine jc_seq ?_
    refine jc_seq ?_
    refine jc_region ?_
    refine jo_f [(0, 0), (0, 0), (0, 0), (0, 0)] (by kernel_rfl) ?_
    refine jo_end (by kernel_rfl) ?_
    refine jx_then ?_
    refine jc_cond (decide (i_6 < (a0.length : Int))) (by kernel_rfl) (fun hc_80 => ?_) (fun hc_80 => ?_)
    · replace h := ifT hc_80 h
      refine jc_skip ?_
      refine jx_then ?_
      refine jc_seq ?_
      refine jc_block ?_
      refine jc_seq ?_
      refine jc_region ?_
      refine jo_f [(0, 0), (0, 0), (0, 0), (0, 0)] (by kernel_rfl) ?_
      obtain ⟨x_9, hx_81, h⟩ := bd h
      refine toO (by kernel_rfl) (p_idx 0 (a0_o.map fun b => ⟨b, 0, none⟩) a0.length i_6 2 (by kernel_rfl) (by kernel_rfl) (ix_some hx_81).1 (ltn hx_81 hn_76) (spo ho_75 hx_81) (jkO ?_))
      refine jo_f [(0, 0)] (by kernel_rfl) ?_
      refine toO (by kernel_rfl) (p_strO 0 0 a0_o 176 encGHammer xs_4 a0_sp i_6 (⟨(w8 i_5), x_9.fReady⟩ : GHammer) 2 0 [(.int .i8 (w8 i_5))] (by kernel_rfl) (by kernel_rfl) (by kernel_rfl) (fun e => (ho_75 e).1) encGHammer_len hx_81 (by kernel_rfl) (by kernel_rfl) (jkO ?_))
      refine jo_end (by kernel_rfl) ?_
      refine jx_then ?_
      refine jc_seq ?_
      refine jc_region ?_
      refine jo_f [(0, 0), (0, 0), (0, 0)] (by kernel_rfl) ?_
      refine jo_end (by kernel_rfl) ?_
      refine jx_then ?_
      refine jc_seq ?_
      refine jc_region ?_
      refine jo_f [(0, 0), (0, 0), (0, 0), (0, 0)] (by kernel_rfl) ?_
      obtain ⟨x_10, hx_82, h⟩ := bd h
      refine toO (by kernel_rfl) (p_idx 0 (a0_o.map fun b => ⟨b, 0, none⟩) a0.length i_6 2 (by kernel_rfl) (by kernel_rfl) (ix_some hx_82).1 (ltn hx_82 (List.length_set.trans hn_76)) (spo (set_ho ho_75) hx_82) (jkO ?_))
      refine jo_f [(0, 0)] (by kernel_rfl) ?_
      refine toO (by kernel_rfl) (p_strO 0 0 a0_o 176 encGHammer (xs_4.set i_6.toNat (⟨(w8 i_5), x_9.fReady⟩ : GHammer)) a0_sp i_6 (⟨x_10.fPitch, (w8 (w64 (i_5 + 1)))⟩ : GHammer) 2 1 [(.int .i8 (w8 (w64 (i_5 + 1))))] (by kernel_rfl) (by kernel_rfl) (by kernel_rfl) (fun e => ((set_ho ho_75) e).1) encGHammer_len hx_82 (by kernel_rfl) (by kernel_rfl) (jkO ?_))
      refine jo_end (by kernel_rfl) ?_
      refine jx_then ?_
      refine jc_region ?_
      refine jo_f [(0, 0), (0, 0), (0, 0)] (by kernel_rfl) ?_
      refine jo_end (by kernel_rfl) ?_
      refine jx_inn ?_
      refine jx_then ?_
      refine jc_region ?_
      refine jo_f [(0, 0), (0, 0), (0, 0)] (by kernel_rfl) ?_
      refine jo_end (by kernel_rfl) ?_
      exact jx_back (((xs_4.set i_6.toNat (⟨(w8 i_5), x_9.fReady⟩ : GHammer)).set i_6.toNat (⟨x_10.fPitch, (w8 (w64 (i_5 + 1)))⟩ : GHammer)), (w64 ((w64 (i_5 + 1)) + 1)), (w64 (i_6 + 1))) () (Option.some.inj h).symm ⟨(List.length_set.trans (List.length_set.trans hn_76)), (set_ho (set_ho ho_75))⟩ [0] (by kernel_rfl) (by kernel_rfl) (by kernel_rfl)
    · replace h := ifF hc_80 h
      refine jc_exit ?_
      refine jx_thenx ?_
      refine jx_leave (xs_4, i_5) (Option.some.inj h).symm (fun e_83 => ?_)
      subst e_83
      refine jx_ine ?_
      exact jx_meet ⟨xs_4, i_5⟩ ⟨hr_77, hn_76, ho_75⟩ (by kernel_rfl) [0] (by kernel_rfl) (by kernel_rfl)
  · rintro ⟨xs_1, i_2⟩ ⟨h, hn_64, ho_63⟩
    replace h : laws_markHammerS.k_3 xs_1 i_2 = some r := h
    rw [laws_markHammerS.k_3] at h
    refine jx_then ?_
    refine jc_seq ?_
    refine jc_region ?_
    refine jo_f [(0, 0), (0, 0)] (by kernel_rfl) ?_
    refine jo_end (by kernel_rfl) ?_
    refine jx_then ?_
    refine jc_ret ?_
    obtain rfl := Option.some.inj h
    exact jx_ret [] (.int .i64 i_2) [] rfl (by kernel_rfl) (by kernel_rfl) (fun w hm => ⟨hn_64, ho_63, rfl, hm.pick [0] (by kernel_rfl) (by kernel_rfl)⟩)

/-! ### laws.markFrame -/
noncomputable def laws_markFrame (a0 : GFrame) (k1 : Int) : Option (Int × (List GHammer)) := (laws_markHammerS a0.fHammers k1).bind fun t_1 => some (t_1.1, t_1.2)
set_option maxRecDepth 100000 in
theorem laws_markFrame.calls (a0 : GFrame) (k1 : Int) (w : World) (r : Int × (List GHammer)) (a0_fHammers_o : Option Nat) (a0_fHammers_on : Nat) (a0_fHammers_c : Nat) (a0_fHammers_sp : List Value) (a0_fHammers_hn : a0.fHammers.length = a0_fHammers_on) (a0_fHammers_hs : a0_fHammers_o ≠ none → a0_fHammers_on ≤ a0_fHammers_c ∧ a0_fHammers_sp.length = (a0_fHammers_c - a0_fHammers_on) * 2) (a0_fHammers_ho : a0_fHammers_o = none → a0.fHammers = [] ∧ a0_fHammers_c = 0) (hm0 : Mem w (bs [a0_fHammers_o]) [⟨a0_fHammers_o, 176, row encGHammer a0.fHammers a0_fHammers_sp⟩] w) (h : laws_markFrame a0 k1 = some r) :
    Calls Try.prog 22 #[(.agg #[(.int .i16 a0.fSteps), (.slice (a0_fHammers_o.map fun b => ⟨b, 0, none⟩) a0_fHammers_on a0_fHammers_c)]), (.int .i64 k1)] w fun e w' => ∃ v, e = .returned v ∧ (r.2.length = a0_fHammers_on ∧ (a0_fHammers_o = none → r.2 = [] ∧ a0_fHammers_c = 0) ∧ v = (.int .i64 r.1) ∧ Mem w (bs [a0_fHammers_o]) [⟨a0_fHammers_o, 176, row encGHammer r.2 a0_fHammers_sp⟩] w') := by
  subst a0_fHammers_hn
  rw [laws_markFrame] at h
  refine enter (args := [(.agg #[(.int .i16 a0.fSteps), (.slice (a0_fHammers_o.map fun b => ⟨b, 0, none⟩) a0.fHammers.length a0_fHammers_c)]), (.int .i64 k1)]) Try.func22 rfl Try.ntmps22 (by kernel_rfl) (L := [⟨a0_fHammers_o, 176, row encGHammer a0.fHammers a0_fHammers_sp⟩]) (W := bs [a0_fHammers_o]) hm0 ?_
  refine jc_seq ?_
  refine jc_region ?_
  refine toO (by kernel_rfl) (p_a 0 [0] (by kernel_rfl) (fun b => by kernel_rfl) (fun b_1 => jkO ?_))
  refine jo_f [(0, 0)] (by kernel_rfl) ?_
  refine jo_end (by kernel_rfl) ?_
  refine jx_then ?_
  refine jc_seq ?_
  refine jc_region ?_
  refine jo_f [(0, 0), (1, 0), (0, 0)] (by kernel_rfl) ?_
  obtain ⟨t_1, ht_2, h⟩ := bd h
  refine toO (by kernel_rfl) (p_call 0 77 #[(.slice (a0_fHammers_o.map fun b => ⟨b, 0, none⟩) a0.fHammers.length a0_fHammers_c), (.int .i64 k1)] (by kernel_rfl) (by kernel_rfl) (fun w hm => laws_markHammerS.calls a0.fHammers k1 w _ a0_fHammers_o a0.fHammers.length a0_fHammers_c a0_fHammers_sp rfl a0_fHammers_hs a0_fHammers_ho (hm.pass (N := [⟨a0_fHammers_o, 176, row encGHammer a0.fHammers a0_fHammers_sp⟩]) [0] (by kernel_rfl) (by kernel_rfl)) ht_2) ?_)
  rintro w v w' hm ⟨hn_3, ho_4, rfl, hm'⟩
  refine ⟨_, hm.appW (ps := [(0, ⟨a0_fHammers_o, 176, row encGHammer t_1.2 a0_fHammers_sp⟩)]) (N := []) hm' (by kernel_rfl) (by kernel_rfl), jkO ?_⟩
  clear hm hm'
  refine jo_f [(0, 0)] (by kernel_rfl) ?_
  refine jo_end (by kernel_rfl) ?_
  refine jx_then ?_
  refine jc_seq ?_
  refine jc_region ?_
  refine jo_f [(0, 0), (0, 0)] (by kernel_rfl) ?_
  refine jo_end (by kernel_rfl) ?_
  refine jx_then ?_
  refine jc_ret ?_
  obtain rfl := Option.some.inj h
  exact jx_ret [] (.int .i64 t_1.1) [] rfl (by kernel_rfl) (by kernel_rfl) (fun w hm => ⟨hn_3, ho_4, rfl, hm.pick [0] (by kernel_rfl) (by kernel_rfl)⟩)

/-! ### laws.markChoiceS -/
noncomputable def laws_markChoiceS.k_3 (xs_1 : List GChoice) (i_2 : Int) : Option (Int × (List GChoice)) := some (i_2, xs_1)
noncomputable def laws_markChoiceS.l_7 (a0 : List GChoice) : ((List GChoice) × Int × Int) → Option (((List GChoice) × Int × Int) ⊕ (((List GChoice) × Int)))
  | (xs_4, i_5, i_6) => (if (decide (i_6 < (a0.length : Int))) = true then (ix xs_4 i_6).bind fun x_9 => (ix (xs_4.set i_6.toNat (⟨((Int.tmod i_5 3) == 0), x_9.fLate, x_9.fOctave, x_9.fTrack⟩ : GChoice)) i_6).bind fun x_10 => (ix ((xs_4.set i_6.toNat (⟨((Int.tmod i_5 3) == 0), x_9.fLate, x_9.fOctave, x_9.fTrack⟩ : GChoice)).set i_6.toNat (⟨x_10.fAway, (w8 (w64 (i_5 + 1))), x_10.fOctave, x_10.fTrack⟩ : GChoice)) i_6).bind fun x_11 => (ix (((xs_4.set i_6.toNat (⟨((Int.tmod i_5 3) == 0), x_9.fLate, x_9.fOctave, x_9.fTrack⟩ : GChoice)).set i_6.toNat (⟨x_10.fAway, (w8 (w64 (i_5 + 1))), x_10.fOctave, x_10.fTrack⟩ : GChoice)).set i_6.toNat (⟨x_11.fAway, x_11.fLate, (w8 (w64 ((w64 (i_5 + 1)) + 1))), x_11.fTrack⟩ : GChoice)) i_6).bind fun x_12 => some (.inl (((((xs_4.set i_6.toNat (⟨((Int.tmod i_5 3) == 0), x_9.fLate, x_9.fOctave, x_9.fTrack⟩ : GChoice)).set i_6.toNat (⟨x_10.fAway, (w8 (w64 (i_5 + 1))), x_10.fOctave, x_10.fTrack⟩ : GChoice)).set i_6.toNat (⟨x_11.fAway, x_11.fLate, (w8 (w64 ((w64 (i_5 + 1)) + 1))), x_11.fTrack⟩ : GChoice)).set i_6.toNat (⟨x_12.fAway, x_12.fLate, x_12.fOctave, (w8 (w64 ((w64 ((w64 (i_5 + 1)) + 1)) + 1)))⟩ : GChoice)), (w64 ((w64 ((w64 ((w64 (i_5 + 1)) + 1)) + 1)) + 1)), (w64 (i_6 + 1)))) else some (.inr (xs_4, i_5)))
noncomputable def laws_markChoiceS (a0 : List GChoice) (k1 : Int) : Option (Int × (List GChoice)) := (loop (laws_markChoiceS.l_7 a0) (a0, k1, 0)).bind fun t_8 => laws_markChoiceS.k_3 t_8.1 t_8.2
set_option maxRecDepth 100000 in
theorem laws_markChoiceS.calls (a0 : List GChoice) (k1 : Int) (w : World) (r : Int × (List GChoice)) (a0_o : Option Nat) (a0_on : Nat) (a0_c : Nat) (a0_sp : List Value) (a0_hn : a0.length = a0_on) (a0_hs : a0_o ≠ none → a0_on ≤ a0_c ∧ a0_sp.length = (a0_c - a0_on) * 4) (a0_ho : a0_o = none → a0 = [] ∧ a0_c = 0) (hm0 : Mem w (bs [a0_o]) [⟨a0_o, 113, row encGChoice a0 a0_sp⟩] w) (h : laws_markChoiceS a0 k1 = some r) :
    Calls Try.prog 23 #[(.slice (a0_o.map fun b => ⟨b, 0, none⟩) a0_on a0_c), (.int .i64 k1)] w fun e w' => ∃ v, e = .returned v ∧ (r.2.length = a0_on ∧ (a0_o = none → r.2 = [] ∧ a0_c = 0) ∧ v = (.int .i64 r.1) ∧ Mem w (bs [a0_o]) [⟨a0_o, 113, row encGChoice r.2 a0_sp⟩] w') := by
  subst a0_hn
  rw [laws_markChoiceS] at h
  refine enter (args := [(.slice (a0_o.map fun b => ⟨b, 0, none⟩) a0.length a0_c), (.int .i64 k1)]) Try.func23 rfl Try.ntmps23 (by kernel_rfl) (L := [⟨a0_o, 113, row encGChoice a0 a0_sp⟩]) (W := bs [a0_o]) hm0 ?_
  refine jc_seq ?_
  refine jc_region ?_
  refine jo_f [(0, 0)] (by kernel_rfl) ?_
  refine jo_end (by kernel_rfl) ?_
  refine jx_then ?_
  refine jc_seq ?_
  refine jc_seq ?_
  refine jc_region ?_
  refine jo_f [(0, 0)] (by kernel_rfl) ?_
  refine jo_end (by kernel_rfl) ?_
  refine jx_then ?_
  refine jc_meet (fun (j : (List GChoice) × Int) => match j with | ⟨xs_1, i_2⟩ => laws_markChoiceS.k_3 xs_1 i_2 = some r ∧ (xs_1.length = a0.length) ∧ ((a0_o = none → xs_1 = [] ∧ a0_c = 0))) (fun (j : (List GChoice) × Int) => match j with | ⟨xs_1, i_2⟩ => [(1, [], (.int .i64 i_2)), (4, [], (.int .i64 0))]) (fun (j : (List GChoice) × Int) => match j with | ⟨xs_1, i_2⟩ => [⟨a0_o, 113, row encGChoice xs_1 a0_sp⟩]) ?_ ?_
  · refine jc_block ?_
    obtain ⟨t_8, ht_108, hr_99⟩ := bd h
    refine jc_loop (fun (s : (List GChoice) × Int × Int) (x : Unit) => match s, x with | ⟨xs_4, i_5, i_6⟩, _ => (xs_4.length = a0.length) ∧ ((a0_o = none → xs_4 = [] ∧ a0_c = 0))) (fun (s : (List GChoice) × Int × Int) (x : Unit) => match s, x with | ⟨xs_4, i_5, i_6⟩, _ => [(0, [], (.slice (a0_o.map fun b => ⟨b, 0, none⟩) a0.length a0_c)), (1, [], (.int .i64 i_5)), (4, [], (.int .i64 0)), (5, [], (.int .i64 i_6))]) (fun (s : (List GChoice) × Int × Int) (x : Unit) => match s, x with | ⟨xs_4, i_5, i_6⟩, _ => [⟨a0_o, 113, row encGChoice xs_4 a0_sp⟩]) ht_108 () ⟨rfl, a0_ho⟩ (by kernel_rfl) [0] (by kernel_rfl) (by kernel_rfl) ?_
    rintro ⟨xs_4, i_5, i_6⟩ _ y_100 ⟨hn_98, ho_97⟩ h
    rw [laws_markChoiceS.l_7] at h
    refine jc_seq ?_
    refine jc_seq ?_
    refine jc_region ?_
    refine jo_f [(0, 0), (0, 0), (0, 0), (0, 0)] (by kernel_rfl) ?_
    refine jo_end (by kernel_rfl) ?_
    refine jx_then ?_
    refine jc_cond (decide (i_6 < (a0.length : Int))) (by kernel_rfl) (fun hc_102 => ?_) (fun hc_102 => ?_)
    · replace h := ifT hc_102 h
      refine jc_skip ?_
      refine jx_then ?_
      refine jc_seq ?_
      refine jc_block ?_
      refine jc_seq ?_
      refine jc_region ?_
      refine jo_f [(0, 0), (0, 0), (0, 0), (0, 0), (0, 0)] (by kernel_rfl) ?_
      obtain ⟨x_9, hx_103, h⟩ := bd h
      refine toO (by kernel_rfl) (p_idx 0 (a0_o.map fun b => ⟨b, 0, none⟩) a0.length i_6 4 (by kernel_rfl) (by kernel_rfl) (ix_some hx_103).1 (ltn hx_103 hn_98) (spo ho_97 hx_103) (jkO ?_))
      refine jo_f [(0, 0)] (by kernel_rfl) ?_
      refine toO (by kernel_rfl) (p_strO 0 0 a0_o 113 encGChoice xs_4 a0_sp i_6 (⟨((Int.tmod i_5 3) == 0), x_9.fLate, x_9.fOctave, x_9.fTrack⟩ : GChoice) 4 0 [(.bool ((Int.tmod i_5 3) == 0))] (by kernel_rfl) (by kernel_rfl) (by kernel_rfl) (fun e => (ho_97 e).1) encGChoice_len hx_103 (by kernel_rfl) (by kernel_rfl) (jkO ?_))
      refine jo_end (by kernel_rfl) ?_
      refine jx_then ?_
      refine jc_seq ?_
      refine jc_region ?_
      refine jo_f [(0, 0), (0, 0), (0, 0)] (by kernel_rfl) ?_
      refine jo_end (by kernel_rfl) ?_
      refine jx_then ?_
      refine jc_seq ?_
      refine jc_region ?_
      refine jo_f [(0, 0), (0, 0), (0, 0), (0, 0)] (by kernel_rfl) ?_
      obtain ⟨x_10, hx_104, h⟩ := bd h
      refine toO (by kernel_rfl) (p_idx 0 (a0_o.map fun b => ⟨b, 0, none⟩) a0.length i_6 4 (by kernel_rfl) (by kernel_rfl) (ix_some hx_104).1 (ltn hx_104 (List.length_set.trans hn_98)) (spo (set_ho ho_97) hx_104) (jkO ?_))
      refine jo_f [(0, 0)] (by kernel_rfl) ?_
      refine toO (by kernel_rfl) (p_strO 0 0 a0_o 113 encGChoice (xs_4.set i_6.toNat (⟨((Int.tmod i_5 3) == 0), x_9.fLate, x_9.fOctave, x_9.fTrack⟩ : GChoice)) a0_sp i_6 (⟨x_10.fAway, (w8 (w64 (i_5 + 1))), x_10.fOctave, x_10.fTrack⟩ : GChoice) 4 1 [(.int .i8 (w8 (w64 (i_5 + 1))))] (by kernel_rfl) (by kernel_rfl) (by kernel_rfl) (fun e => ((set_ho ho_97) e).1) encGChoice_len hx_104 (by kernel_rfl) (by kernel_rfl) (jkO ?_))
      refine jo_end (by kernel_rfl) ?_
      refine jx_then ?_
      refine jc_seq ?_
      refine jc_region ?_
      refine jo_f [(0, 0), (0, 0), (0, 0)] (by kernel_rfl) ?_
      refine jo_end (by kernel_rfl) ?_
      refine jx_then ?_
      refine jc_seq ?_
      refine jc_region ?_
      refine jo_f [(0, 0), (0, 0), (0, 0), (0, 0)] (by kernel_rfl) ?_
      obtain ⟨x_11, hx_105, h⟩ := bd h
      refine toO (by kernel_rfl) (p_idx 0 (a0_o.map fun b => ⟨b, 0, none⟩) a0.length i_6 4 (by kernel_rfl) (by kernel_rfl) (ix_some hx_105).1 (ltn hx_105 (List.length_set.trans (List.length_set.trans hn_98))) (spo (set_ho (set_ho ho_97)) hx_105) (jkO ?_))
      refine jo_f [(0, 0)] (by kernel_rfl) ?_
      refine toO (by kernel_rfl) (p_strO 0 0 a0_o 113 encGChoice ((xs_4.set i_6.toNat (⟨((Int.tmod i_5 3) == 0), x_9.fLate, x_9.fOctave, x_9.fTrack⟩ : GChoice)).set i_6.toNat (⟨x_10.fAway, (w8 (w64 (i_5 + 1))), x_10.fOctave, x_10.fTrack⟩ : GChoice)) a0_sp i_6 (⟨x_11.fAway, x_11.fLate, (w8 (w64 ((w64 (i_5 + 1)) + 1))), x_11.fTrack⟩ : GChoice) 4 2 [(.int .i8 (w8 (w64 ((w64 (i_5 + 1)) + 1))))] (by kernel_rfl) (by kernel_rfl) (by kernel_rfl) (fun e => ((set_ho (set_ho ho_97)) e).1) encGChoice_len hx_105 (by kernel_rfl) (by kernel_rfl) (jkO ?_))
      refine jo_end (by kernel_rfl) ?_
      refine jx_then ?_
      refine jc_seq ?_
      refine jc_region ?_
      refine jo_f [(0, 0), (0, 0), (0, 0)] (by kernel_rfl) ?_
      refine jo_end (by kernel_rfl) ?_
      refine jx_then ?_
      refine jc_seq ?_
      refine jc_region ?_
      refine jo_f [(0, 0), (0, 0), (0, 0), (0, 0)] (by kernel_rfl) ?_
      obtain ⟨x_12, hx_106, h⟩ := bd h
      refine toO (by kernel_rfl) (p_idx 0 (a0_o.map fun b => ⟨b, 0, none⟩) a0.length i_6 4 (by kernel_rfl) (by kernel_rfl) (ix_some hx_106).1 (ltn hx_106 (List.length_set.trans (List.length_set.trans (List.length_set.trans hn_98)))) (spo (set_ho (set_ho (set_ho ho_97))) hx_106) (jkO ?_))
      refine jo_f [(0, 0)] (by kernel_rfl) ?_
      refine toO (by kernel_rfl) (p_strO 0 0 a0_o 113 encGChoice (((xs_4.set i_6.toNat (⟨((Int.tmod i_5 3) == 0), x_9.fLate, x_9.fOctave, x_9.fTrack⟩ : GChoice)).set i_6.toNat (⟨x_10.fAway, (w8 (w64 (i_5 + 1))), x_10.fOctave, x_10.fTrack⟩ : GChoice)).set i_6.toNat (⟨x_11.fAway, x_11.fLate, (w8 (w64 ((w64 (i_5 + 1)) + 1))), x_11.fTrack⟩ : GChoice)) a0_sp i_6 (⟨x_12.fAway, x_12.fLate, x_12.fOctave, (w8 (w64 ((w64 ((w64 (i_5 + 1)) + 1)) + 1)))⟩ : GChoice) 4 3 [(.int .i8 (w8 (w64 ((w64 ((w64 (i_5 + 1)) + 1)) + 1))))] (by kernel_rfl) (by kernel_rfl) (by kernel_rfl) (fun e => ((set_ho (set_ho (set_ho ho_97))) e).1) encGChoice_len hx_106 (by kernel_rfl) (by kernel_rfl) (jkO ?_))
      refine jo_end (by kernel_rfl) ?_
      refine jx_then ?_
      refine jc_region ?_
      refine jo_f [(0, 0), (0, 0), (0, 0)] (by kernel_rfl) ?_
      refine jo_end (by kernel_rfl) ?_
      refine jx_inn ?_
      refine jx_then ?_
      refine jc_region ?_
      refine jo_f [(0, 0), (0, 0), (0, 0)] (by kernel_rfl) ?_
      refine jo_end (by kernel_rfl) ?_
      exact jx_back (((((xs_4.set i_6.toNat (⟨((Int.tmod i_5 3) == 0), x_9.fLate, x_9.fOctave, x_9.fTrack⟩ : GChoice)).set i_6.toNat (⟨x_10.fAway, (w8 (w64 (i_5 + 1))), x_10.fOctave, x_10.fTrack⟩ : GChoice)).set i_6.toNat (⟨x_11.fAway, x_11.fLate, (w8 (w64 ((w64 (i_5 + 1)) + 1))), x_11.fTrack⟩ : GChoice)).set i_6.toNat (⟨x_12.fAway, x_12.fLate, x_12.fOctave, (w8 (w64 ((w64 ((w64 (i_5 + 1)) + 1)) + 1)))⟩ : GChoice)), (w64 ((w64 ((w64 ((w64 (i_5 + 1)) + 1)) + 1)) + 1)), (w64 (i_6 + 1))) () (Option.some.inj h).symm ⟨(List.length_set.trans (List.length_set.trans (List.length_set.trans (List.length_set.trans hn_98)))), (set_ho (set_ho (set_ho (set_ho ho_97))))⟩ [0] (by kernel_rfl) (by kernel_rfl) (by kernel_rfl)
    · replace h := ifF hc_102 h
      refine jc_exit ?_
      refine jx_thenx ?_
      refine jx_leave (xs_4, i_5) (Option.some.inj h).symm (fun e_107 => ?_)
      subst e_107
      refine jx_ine ?_
      exact jx_meet ⟨xs_4, i_5⟩ ⟨hr_99, hn_98, ho_97⟩ (by kernel_rfl) [0] (by kernel_rfl) (by kernel_rfl)
  · rintro ⟨xs_1, i_2⟩ ⟨h, hn_82, ho_81⟩
    replace h : laws_markChoiceS.k_3 xs_1 i_2 = some r := h
    rw [laws_markChoiceS.k_3] at h
    refine jx_then ?_
    refine jc_seq ?_
    refine jc_region ?_
    refine jo_f [(0, 0), (0, 0)] (by kernel_rfl) ?_
    refine jo_end (by kernel_rfl) ?_
    refine jx_then ?_
    refine jc_ret ?_
    obtain rfl := Option.some.inj h
    exact jx_ret [] (.int .i64 i_2) [] rfl (by kernel_rfl) (by kernel_rfl) (fun w hm => ⟨hn_82, ho_81, rfl, hm.pick [0] (by kernel_rfl) (by kernel_rfl)⟩)

/-! ### laws.heldChoiceS -/
noncomputable def laws_heldChoiceS.k_2 (i_1 : Int) : Option (Int) := some i_1
noncomputable def laws_heldChoiceS.l_5 (a0 : List GChoice) : (Int × Int) → Option ((Int × Int) ⊕ (Int ⊕ Int))
  | (i_3, i_4) => (if (decide (i_4 < (a0.length : Int))) = true then (ix a0 i_4).bind fun x_7 => (if (x_7.fAway != ((Int.tmod i_3 3) == 0)) = true then some (.inr (.inl (-1))) else (ix a0 i_4).bind fun x_8 => (if (x_8.fLate != (w8 (w64 (i_3 + 1)))) = true then some (.inr (.inl (-1))) else (ix a0 i_4).bind fun x_9 => (if (x_9.fOctave != (w8 (w64 ((w64 (i_3 + 1)) + 1)))) = true then some (.inr (.inl (-1))) else (ix a0 i_4).bind fun x_10 => (if (x_10.fTrack != (w8 (w64 ((w64 ((w64 (i_3 + 1)) + 1)) + 1)))) = true then some (.inr (.inl (-1))) else some (.inl ((w64 ((w64 ((w64 ((w64 (i_3 + 1)) + 1)) + 1)) + 1)), (w64 (i_4 + 1)))))))) else some (.inr (.inr i_3)))
noncomputable def laws_heldChoiceS (a0 : List GChoice) (k1 : Int) : Option (Int) := (loop (laws_heldChoiceS.l_5 a0) (k1, 0)).bind fun t_6 => match t_6 with | .inl p => some p | .inr p => laws_heldChoiceS.k_2 p
set_option maxRecDepth 100000 in
theorem laws_heldChoiceS.calls (a0 : List GChoice) (k1 : Int) (w : World) (r : Int) (a0_a : Option Addr) (a0_an : Nat) (a0_c : Nat) (a0_h : Rw w a0_a 4 encGChoice a0) (a0_hn : a0.length = a0_an) (h : laws_heldChoiceS a0 k1 = some r) :
    Calls Try.prog 24 #[(.slice a0_a a0_an a0_c), (.int .i64 k1)] w fun e w' => ∃ v, e = .returned v ∧ (v = (.int .i64 r) ∧ Mem w [] [] w') := by
  subst a0_hn
  rw [laws_heldChoiceS] at h
  refine enter (args := [(.slice a0_a a0.length a0_c), (.int .i64 k1)]) Try.func24 rfl Try.ntmps24 (by kernel_rfl) (L := []) (W := []) (Mem.start w) ?_
  refine jc_seq ?_
  refine jc_region ?_
  refine jo_f [(0, 0)] (by kernel_rfl) ?_
  refine jo_end (by kernel_rfl) ?_
  refine jx_then ?_
  refine jc_seq ?_
  refine jc_seq ?_
  refine jc_region ?_
  refine jo_f [(0, 0)] (by kernel_rfl) ?_
  refine jo_end (by kernel_rfl) ?_
  refine jx_then ?_
  refine jc_meet (fun (j : Int) => match j with | i_1 => laws_heldChoiceS.k_2 i_1 = some r) (fun (j : Int) => match j with | i_1 => [(1, [], (.int .i64 i_1)), (4, [], (.int .i64 0))]) (fun (j : Int) => match j with | i_1 => []) ?_ ?_
  · refine jc_block ?_
    obtain ⟨t_6, ht_224, hr_201⟩ := bd h
    refine jc_loop (fun (s : Int × Int) (x : Unit) => match s, x with | ⟨i_3, i_4⟩, _ => True) (fun (s : Int × Int) (x : Unit) => match s, x with | ⟨i_3, i_4⟩, _ => [(0, [], (.slice a0_a a0.length a0_c)), (1, [], (.int .i64 i_3)), (4, [], (.int .i64 0)), (5, [], (.int .i64 i_4))]) (fun (s : Int × Int) (x : Unit) => match s, x with | ⟨i_3, i_4⟩, _ => []) ht_224 () trivial (by kernel_rfl) [] (by kernel_rfl) (by kernel_rfl) ?_
    rintro ⟨i_3, i_4⟩ _ y_202 _ h
    rw [laws_heldChoiceS.l_5] at h
    refine jc_seq ?_
    refine jc_seq ?_
    refine jc_region ?_
    refine jo_f [(0, 0), (0, 0), (0, 0), (0, 0)] (by kernel_rfl) ?_
    refine jo_end (by kernel_rfl) ?_
    refine jx_then ?_
    refine jc_cond (decide (i_4 < (a0.length : Int))) (by kernel_rfl) (fun hc_204 => ?_) (fun hc_204 => ?_)
    · replace h := ifT hc_204 h
      refine jc_skip ?_
      refine jx_then ?_
      refine jc_seq ?_
      refine jc_block ?_
      refine jc_seq ?_
      refine jc_seq ?_
      refine jc_region ?_
      refine jo_f [(0, 0), (0, 0)] (by kernel_rfl) ?_
      obtain ⟨x_7, hx_207, h⟩ := bd h
      refine toO (by kernel_rfl) (p_idx 0 a0_a a0.length i_4 4 (by kernel_rfl) (by kernel_rfl) (ix_some hx_207).1 (ltn hx_207 rfl) (a0_h.sp hx_207) (jkO ?_))
      refine jo_f [(0, 0)] (by kernel_rfl) ?_
      refine toO (by kernel_rfl) (p_ld 0 (aB a0_a) (aO a0_a + i_4.toNat * 4) false (((encGChoice x_7).drop 0).take 1) (by kernel_rfl) (by kernel_rfl) (by kernel_rfl) (fun w hm => (((hm.exRow a0_h List.not_mem_nil).at hx_207).sub 0 1)) (jkO ?_))
      refine jo_f [(0, 0), (0, 0), (0, 0), (0, 0)] (by kernel_rfl) ?_
      refine jo_end (by kernel_rfl) ?_
      refine jx_then ?_
      refine jc_cond (x_7.fAway != ((Int.tmod i_3 3) == 0)) (by kernel_rfl) (fun hc_208 => ?_) (fun hc_208 => ?_)
      · replace h := ifT hc_208 h
        refine jc_seq ?_
        refine jc_region ?_
        refine jo_f [(0, 0)] (by kernel_rfl) ?_
        refine jo_end (by kernel_rfl) ?_
        refine jx_then ?_
        refine jc_ret ?_
        refine jx_thenr ?_
        refine jx_inr ?_
        refine jx_thenr ?_
        refine jx_leaver (.inl (-1)) (Option.some.inj h).symm (fun e_209 => ?_)
        subst e_209
        refine jx_inr ?_
        refine jx_thenr ?_
        refine jx_thenr ?_
        obtain rfl := Option.some.inj hr_201
        exact jx_ret [] (.int .i64 (-1)) [] rfl (by kernel_rfl) (by kernel_rfl) (fun w hm => ⟨rfl, hm.pick [] (by kernel_rfl) (by kernel_rfl)⟩)
      · replace h := ifF hc_208 h
        refine jc_skip ?_
        refine jx_then ?_
        refine jc_seq ?_
        refine jc_region ?_
        refine jo_f [(0, 0), (0, 0), (0, 0)] (by kernel_rfl) ?_
        refine jo_end (by kernel_rfl) ?_
        refine jx_then ?_
        refine jc_seq ?_
        refine jc_seq ?_
        refine jc_region ?_
        refine jo_f [(0, 0), (0, 0)] (by kernel_rfl) ?_
        obtain ⟨x_8, hx_212, h⟩ := bd h
        refine toO (by kernel_rfl) (p_idx 0 a0_a a0.length i_4 4 (by kernel_rfl) (by kernel_rfl) (ix_some hx_212).1 (ltn hx_212 rfl) (a0_h.sp hx_212) (jkO ?_))
        refine jo_f [(0, 0)] (by kernel_rfl) ?_
        refine toO (by kernel_rfl) (p_ld 0 (aB a0_a) (aO a0_a + i_4.toNat * 4 + 1) false (((encGChoice x_8).drop 1).take 1) (by kernel_rfl) (by kernel_rfl) (by kernel_rfl) (fun w hm => (((hm.exRow a0_h List.not_mem_nil).at hx_212).sub 1 1)) (jkO ?_))
        refine jo_f [(0, 0), (0, 0), (0, 0)] (by kernel_rfl) ?_
        refine jo_end (by kernel_rfl) ?_
        refine jx_then ?_
        refine jc_cond (x_8.fLate != (w8 (w64 (i_3 + 1)))) (by kernel_rfl) (fun hc_213 => ?_) (fun hc_213 => ?_)
        · replace h := ifT hc_213 h
          refine jc_seq ?_
          refine jc_region ?_
          refine jo_f [(0, 0)] (by kernel_rfl) ?_
          refine jo_end (by kernel_rfl) ?_
          refine jx_then ?_
          refine jc_ret ?_
          refine jx_thenr ?_
          refine jx_inr ?_
          refine jx_thenr ?_
          refine jx_leaver (.inl (-1)) (Option.some.inj h).symm (fun e_214 => ?_)
          subst e_214
          refine jx_inr ?_
          refine jx_thenr ?_
          refine jx_thenr ?_
          obtain rfl := Option.some.inj hr_201
          exact jx_ret [] (.int .i64 (-1)) [] rfl (by kernel_rfl) (by kernel_rfl) (fun w hm => ⟨rfl, hm.pick [] (by kernel_rfl) (by kernel_rfl)⟩)
        · replace h := ifF hc_213 h
          refine jc_skip ?_
          refine jx_then ?_
          refine jc_seq ?_
          refine jc_region ?_
          refine jo_f [(0, 0), (0, 0), (0, 0)] (by kernel_rfl) ?_
          refine jo_end (by kernel_rfl) ?_
          refine jx_then ?_
          refine jc_seq ?_
          refine jc_seq ?_
          refine jc_region ?_
          refine jo_f [(0, 0), (0, 0)] (by kernel_rfl) ?_
          obtain ⟨x_9, hx_217, h⟩ := bd h
          refine toO (by kernel_rfl) (p_idx 0 a0_a a0.length i_4 4 (by kernel_rfl) (by kernel_rfl) (ix_some hx_217).1 (ltn hx_217 rfl) (a0_h.sp hx_217) (jkO ?_))
          refine jo_f [(0, 0)] (by kernel_rfl) ?_
          refine toO (by kernel_rfl) (p_ld 0 (aB a0_a) (aO a0_a + i_4.toNat * 4 + 2) false (((encGChoice x_9).drop 2).take 1) (by kernel_rfl) (by kernel_rfl) (by kernel_rfl) (fun w hm => (((hm.exRow a0_h List.not_mem_nil).at hx_217).sub 2 1)) (jkO ?_))
          refine jo_f [(0, 0), (0, 0), (0, 0)] (by kernel_rfl) ?_
          refine jo_end (by kernel_rfl) ?_
          refine jx_then ?_
          refine jc_cond (x_9.fOctave != (w8 (w64 ((w64 (i_3 + 1)) + 1)))) (by kernel_rfl) (fun hc_218 => ?_) (fun hc_218 => ?_)
          · replace h := ifT hc_218 h
            refine jc_seq ?_
            refine jc_region ?_
            refine jo_f [(0, 0)] (by kernel_rfl) ?_
            refine jo_end (by kernel_rfl) ?_
            refine jx_then ?_
            refine jc_ret ?_
            refine jx_thenr ?_
            refine jx_inr ?_
            refine jx_thenr ?_
            refine jx_leaver (.inl (-1)) (Option.some.inj h).symm (fun e_219 => ?_)
            subst e_219
            refine jx_inr ?_
            refine jx_thenr ?_
            refine jx_thenr ?_
            obtain rfl := Option.some.inj hr_201
            exact jx_ret [] (.int .i64 (-1)) [] rfl (by kernel_rfl) (by kernel_rfl) (fun w hm => ⟨rfl, hm.pick [] (by kernel_rfl) (by kernel_rfl)⟩)
          · replace h := ifF hc_218 h
            refine jc_skip ?_
            refine jx_then ?_
            refine jc_seq ?_
            refine jc_region ?_
            refine jo_f [(0, 0), (0, 0), (0, 0)] (by kernel_rfl) ?_
            refine jo_end (by kernel_rfl) ?_
            refine jx_then ?_
            refine jc_seq ?_
            refine jc_seq ?_
            refine jc_region ?_
            refine jo_f [(0, 0), (0, 0)] (by kernel_rfl) ?_
            obtain ⟨x_10, hx_220, h⟩ := bd h
            refine toO (by kernel_rfl) (p_idx 0 a0_a a0.length i_4 4 (by kernel_rfl) (by kernel_rfl) (ix_some hx_220).1 (ltn hx_220 rfl) (a0_h.sp hx_220) (jkO ?_))
            refine jo_f [(0, 0)] (by kernel_rfl) ?_
            refine toO (by kernel_rfl) (p_ld 0 (aB a0_a) (aO a0_a + i_4.toNat * 4 + 3) false (((encGChoice x_10).drop 3).take 1) (by kernel_rfl) (by kernel_rfl) (by kernel_rfl) (fun w hm => (((hm.exRow a0_h List.not_mem_nil).at hx_220).sub 3 1)) (jkO ?_))
            refine jo_f [(0, 0), (0, 0), (0, 0)] (by kernel_rfl) ?_
            refine jo_end (by kernel_rfl) ?_
            refine jx_then ?_
            refine jc_cond (x_10.fTrack != (w8 (w64 ((w64 ((w64 (i_3 + 1)) + 1)) + 1)))) (by kernel_rfl) (fun hc_221 => ?_) (fun hc_221 => ?_)
            · replace h := ifT hc_221 h
              refine jc_seq ?_
              refine jc_region ?_
              refine jo_f [(0, 0)] (by kernel_rfl) ?_
              refine jo_end (by kernel_rfl) ?_
              refine jx_then ?_
              refine jc_ret ?_
              refine jx_thenr ?_
              refine jx_inr ?_
              refine jx_thenr ?_
              refine jx_leaver (.inl (-1)) (Option.some.inj h).symm (fun e_222 => ?_)
              subst e_222
              refine jx_inr ?_
              refine jx_thenr ?_
              refine jx_thenr ?_
              obtain rfl := Option.some.inj hr_201
              exact jx_ret [] (.int .i64 (-1)) [] rfl (by kernel_rfl) (by kernel_rfl) (fun w hm => ⟨rfl, hm.pick [] (by kernel_rfl) (by kernel_rfl)⟩)
            · replace h := ifF hc_221 h
              refine jc_skip ?_
              refine jx_then ?_
              refine jc_region ?_
              refine jo_f [(0, 0), (0, 0), (0, 0)] (by kernel_rfl) ?_
              refine jo_end (by kernel_rfl) ?_
              refine jx_inn ?_
              refine jx_then ?_
              refine jc_region ?_
              refine jo_f [(0, 0), (0, 0), (0, 0)] (by kernel_rfl) ?_
              refine jo_end (by kernel_rfl) ?_
              exact jx_back ((w64 ((w64 ((w64 ((w64 (i_3 + 1)) + 1)) + 1)) + 1)), (w64 (i_4 + 1))) () (Option.some.inj h).symm trivial [] (by kernel_rfl) (by kernel_rfl) (by kernel_rfl)
    · replace h := ifF hc_204 h
      refine jc_exit ?_
      refine jx_thenx ?_
      refine jx_leave (.inr i_3) (Option.some.inj h).symm (fun e_223 => ?_)
      subst e_223
      refine jx_ine ?_
      exact jx_meet i_3 hr_201 (by kernel_rfl) [] (by kernel_rfl) (by kernel_rfl)
  · rintro i_1 h
    replace h : laws_heldChoiceS.k_2 i_1 = some r := h
    rw [laws_heldChoiceS.k_2] at h
    refine jx_then ?_
    refine jc_seq ?_
    refine jc_region ?_
    refine jo_f [(0, 0), (0, 0)] (by kernel_rfl) ?_
    refine jo_end (by kernel_rfl) ?_
    refine jx_then ?_
    refine jc_ret ?_
    obtain rfl := Option.some.inj h
    exact jx_ret [] (.int .i64 i_1) [] rfl (by kernel_rfl) (by kernel_rfl) (fun w hm => ⟨rfl, hm.pick [] (by kernel_rfl) (by kernel_rfl)⟩)

/-! ### laws.FnExactChoicesFor -/
noncomputable def laws_FnExactChoicesFor.k_13 (aF0 : GFrame) (aN1 : GNote) (t_4 : (List GChoice) × Int) (t_7 : (List GChoice) × Int) (q_12 : Bool) : Option (Bool) := (if q_12 = true then some false else (laws_markChoiceS t_7.1 1).bind fun t_14 => (laws_heldChoiceS t_14.2 1).bind fun t_15 => (if (decide (t_15 < 0)) = true then some false else (if (t_15 != t_14.1) = true then some false else (laws_toFrame aF0).bind fun t_16 => (laws_toNote aN1).bind fun t_17 => (impl_ChoicesFor t_16 t_17).bind fun t_18 => (laws_eqChoiceS t_18.1 t_4.1).bind fun t_19 => (if ((!t_19) || (t_18.2 != t_4.2)) = true then some false else (laws_heldChoiceS t_14.2 1).bind fun t_20 => (if (decide (t_20 < 0)) = true then some false else (if (t_20 != t_14.1) = true then some false else some true))))))
noncomputable def laws_FnExactChoicesFor (aF0 : GFrame) (aN1 : GNote) : Option (Bool) := (laws_szFrame aF0 1048576).bind fun t_1 => (if (decide (t_1 < 0)) = true then some true else (laws_toFrame aF0).bind fun t_2 => (laws_toNote aN1).bind fun t_3 => (spec_ChoicesFor t_2 t_3).bind fun t_4 => (laws_toFrame aF0).bind fun t_5 => (laws_toNote aN1).bind fun t_6 => (impl_ChoicesFor t_5 t_6).bind fun t_7 => (laws_eqChoiceS t_7.1 t_4.1).bind fun t_8 => (if ((!t_8) || (t_7.2 != t_4.2)) = true then some false else (laws_toFrame aF0).bind fun t_9 => (laws_eqFrame t_5 t_9).bind fun t_10 => (if (!t_10) = true then some false else (laws_markFrame t_5 1).bind fun t_11 => (if (decide (t_11.1 < 0)) = true then laws_FnExactChoicesFor.k_13 aF0 aN1 t_4 t_7 true else (laws_eqChoiceS t_7.1 t_4.1).bind fun t_21 => laws_FnExactChoicesFor.k_13 aF0 aN1 t_4 t_7 ((!t_21) || (t_7.2 != t_4.2))))))
set_option maxRecDepth 100000 in
theorem laws_FnExactChoicesFor.calls (aF0 : GFrame) (aN1 : GNote) (w : World) (r : Bool) (aF0_fHammers_a : Option Addr) (aF0_fHammers_an : Nat) (aF0_fHammers_c : Nat) (aF0_fHammers_h : Rw w aF0_fHammers_a 2 encGHammer aF0.fHammers) (aF0_fHammers_hn : aF0.fHammers.length = aF0_fHammers_an) (h : laws_FnExactChoicesFor aF0 aN1 = some r) :
    Calls Try.prog 3 #[(.agg #[(.int .i16 aF0.fSteps), (.slice aF0_fHammers_a aF0_fHammers_an aF0_fHammers_c)]), (.agg #[(.int .i16 aN1.fAt), (.int .i8 aN1.fPitch)])] w fun e w' => ∃ v, e = .returned v ∧ (v = (.bool r) ∧ Mem w [] [] w') := by
  subst aF0_fHammers_hn
  rw [laws_FnExactChoicesFor] at h
  refine enter (args := [(.agg #[(.int .i16 aF0.fSteps), (.slice aF0_fHammers_a aF0.fHammers.length aF0_fHammers_c)]), (.agg #[(.int .i16 aN1.fAt), (.int .i8 aN1.fPitch)])]) Try.func3 rfl Try.ntmps3 (by kernel_rfl) (L := []) (W := []) (Mem.start w) ?_
  refine jc_seq ?_
  refine jc_region ?_
  refine toO (by kernel_rfl) (p_a 0 [0] (by kernel_rfl) (fun b => by kernel_rfl) (fun b_1 => jkO ?_))
  refine toO (by kernel_rfl) (p_a 0 [0] (by kernel_rfl) (fun b => by kernel_rfl) (fun b_2 => jkO ?_))
  refine jo_f [(0, 0)] (by kernel_rfl) ?_
  refine jo_end (by kernel_rfl) ?_
  refine jx_then ?_
  refine jc_seq ?_
  refine jc_region ?_
  refine jo_f [(0, 0)] (by kernel_rfl) ?_
  refine jo_end (by kernel_rfl) ?_
  refine jx_then ?_
  refine jc_seq ?_
  refine jc_region ?_
  refine jo_f [(0, 0), (0, 0)] (by kernel_rfl) ?_
  obtain ⟨t_1, ht_3, h⟩ := bd h
  refine toO (by kernel_rfl) (p_call 0 15 #[(.agg #[(.int .i16 aF0.fSteps), (.slice aF0_fHammers_a aF0.fHammers.length aF0_fHammers_c)]), (.int .i64 1048576)] (by kernel_rfl) (by kernel_rfl) (fun w hm => laws_szFrame.calls aF0 1048576 w _ aF0_fHammers_a aF0.fHammers.length aF0_fHammers_c (hm.exRow aF0_fHammers_h List.not_mem_nil) rfl ht_3) ?_)
  rintro w v w' hm ⟨rfl, hm'⟩
  refine ⟨_, hm.app hm', jkO ?_⟩
  clear hm hm'
  refine jo_f [(0, 0)] (by kernel_rfl) ?_
  refine jo_end (by kernel_rfl) ?_
  refine jx_then ?_
  refine jc_seq ?_
  refine jc_seq ?_
  refine jc_region ?_
  refine jo_f [(0, 0), (0, 0)] (by kernel_rfl) ?_
  refine jo_end (by kernel_rfl) ?_
  refine jx_then ?_
  refine jc_cond (decide (t_1 < 0)) (by kernel_rfl) (fun hc_5 => ?_) (fun hc_5 => ?_)
  · replace h := ifT hc_5 h
    refine jc_seq ?_
    refine jc_region ?_
    refine jo_f [(0, 0)] (by kernel_rfl) ?_
    refine jo_end (by kernel_rfl) ?_
    refine jx_then ?_
    refine jc_ret ?_
    refine jx_thenr ?_
    obtain rfl := Option.some.inj h
    exact jx_ret [] (.bool true) [] rfl (by kernel_rfl) (by kernel_rfl) (fun w hm => ⟨rfl, hm.pick [] (by kernel_rfl) (by kernel_rfl)⟩)
  · replace h := ifF hc_5 h
    refine jc_skip ?_
    refine jx_then ?_
    refine jc_seq ?_
    refine jc_draw [⟨some b_1, 25, [(.int .i16 aF0.fSteps), (.slice aF0_fHammers_a aF0.fHammers.length aF0_fHammers_c)]⟩, ⟨some b_2, 28, [(.int .i16 aN1.fAt), (.int .i8 aN1.fPitch)]⟩] 10 (by kernel_rfl) (by kernel_rfl) ?_
    refine jd_f [⟨0, 0, 0⟩, ⟨2, 1, 0⟩] 8 (by kernel_rfl) (by kernel_rfl) (fun w h => h.pick [0, 1] (by kernel_rfl) (by kernel_rfl)) (by kernel_rfl) (by kernel_rfl) ?_
    obtain ⟨t_2, ht_19, h⟩ := bd h
    refine toD 1 (by kernel_rfl) (p_call 0 17 #[(.agg #[(.int .i16 aF0.fSteps), (.slice aF0_fHammers_a aF0.fHammers.length aF0_fHammers_c)])] (by kernel_rfl) (by kernel_rfl) (fun w hm => laws_toFrame.calls aF0 w _ aF0_fHammers_a aF0.fHammers.length aF0_fHammers_c (hm.exRow aF0_fHammers_h List.not_mem_nil) rfl ht_19) ?_)
    rintro w v w' hm ⟨o_20, cap_21, sp_22, _, rfl, hs_23, ho_24, rfl, hm'⟩
    refine ⟨_, hm.app hm', jkD (fun w h => h.pick [0, 1] (by kernel_rfl) (by kernel_rfl)) ?_⟩
    clear hm hm'
    obtain ⟨t_3, ht_25, h⟩ := bd h
    refine toD 3 (by kernel_rfl) (p_call 0 18 #[(.agg #[(.int .i16 aN1.fAt), (.int .i8 aN1.fPitch)])] (by kernel_rfl) (by kernel_rfl) (fun w hm => laws_toNote.calls aN1 w _ ht_25) ?_)
    rintro w v w' hm ⟨rfl, hm'⟩
    refine ⟨_, hm.app hm', jkD (fun w h => h.pick [0, 1] (by kernel_rfl) (by kernel_rfl)) ?_⟩
    clear hm hm'
    obtain ⟨t_4, ht_26, h⟩ := bd h
    refine toD 4 (by kernel_rfl) (p_call 0 16 #[(.agg #[(.int .i16 t_2.fSteps), (.slice (o_20.map fun b => ⟨b, 0, none⟩) t_2.fHammers.length cap_21)]), (.agg #[(.int .i16 t_3.fAt), (.int .i8 t_3.fPitch)])] (by kernel_rfl) (by kernel_rfl) (fun w hm => spec_ChoicesFor.calls t_2 t_3 w _ (o_20.map fun b => ⟨b, 0, none⟩) t_2.fHammers.length cap_21 (hm.ownRow (hh := 2) (o := o_20) (T := 176) (enc := encGHammer) (xs := t_2.fHammers) (sp := sp_22) (by kernel_rfl) (fun e => (ho_24 e).1) encGHammer_len) rfl ht_26) ?_)
    rintro w v w' hm ⟨o_27, cap_28, sp_29, _, rfl, hs_30, ho_31, rfl, hm'⟩
    refine ⟨_, hm.app hm', jkD (fun w h => h.pick [0, 1] (by kernel_rfl) (by kernel_rfl)) ?_⟩
    clear hm hm'
    refine jd_f [⟨5, 0, 0⟩, ⟨6, 0, 0⟩, ⟨7, 0, 0⟩, ⟨8, 0, 0⟩, ⟨9, 0, 0⟩] 0 (by kernel_rfl) (by kernel_rfl) (fun w h => h.pick [0, 1] (by kernel_rfl) (by kernel_rfl)) (by kernel_rfl) (by kernel_rfl) ?_
    refine jd_end (by kernel_rfl) ?_
    refine jx_then ?_
    refine jc_seq ?_
    refine jc_region ?_
    refine jo_f [(0, 0)] (by kernel_rfl) ?_
    obtain ⟨t_5, ht_32, h⟩ := bd h
    refine toO (by kernel_rfl) (p_call 0 17 #[(.agg #[(.int .i16 aF0.fSteps), (.slice aF0_fHammers_a aF0.fHammers.length aF0_fHammers_c)])] (by kernel_rfl) (by kernel_rfl) (fun w hm => laws_toFrame.calls aF0 w _ aF0_fHammers_a aF0.fHammers.length aF0_fHammers_c (hm.exRow aF0_fHammers_h List.not_mem_nil) rfl ht_32) ?_)
    rintro w v w' hm ⟨o_33, cap_34, sp_35, _, rfl, hs_36, ho_37, rfl, hm'⟩
    refine ⟨_, hm.app hm', jkO ?_⟩
    clear hm hm'
    refine toO (by kernel_rfl) (p_a 0 [0] (by kernel_rfl) (fun b => by kernel_rfl) (fun b_38 => jkO ?_))
    refine toO (by kernel_rfl) (p_s 0 [5] (by kernel_rfl) (by kernel_rfl) (jkO ?_))
    refine jo_end (by kernel_rfl) ?_
    refine jx_then ?_
    refine jc_seq ?_
    refine jc_draw [⟨some b_1, 25, [(.int .i16 aF0.fSteps), (.slice aF0_fHammers_a aF0.fHammers.length aF0_fHammers_c)]⟩, ⟨some b_2, 28, [(.int .i16 aN1.fAt), (.int .i8 aN1.fPitch)]⟩, ⟨o_20, 176, row encGHammer t_2.fHammers sp_22⟩, ⟨o_27, 113, row encGChoice t_4.1 sp_29⟩, ⟨o_33, 176, row encGHammer t_5.fHammers sp_35⟩, ⟨some b_38, 35, [(.int .i16 t_5.fSteps), (.slice (o_33.map fun b => ⟨b, 0, none⟩) t_5.fHammers.length cap_34)]⟩] 9 (by kernel_rfl) (by kernel_rfl) ?_
    refine jd_f [⟨0, 5, 0⟩, ⟨1, 1, 0⟩] 7 (by kernel_rfl) (by kernel_rfl) (fun w h => h.pick [0, 1, 2, 3, 4, 5] (by kernel_rfl) (by kernel_rfl)) (by kernel_rfl) (by kernel_rfl) ?_
    obtain ⟨t_6, ht_46, h⟩ := bd h
    refine toD 2 (by kernel_rfl) (p_call 0 18 #[(.agg #[(.int .i16 aN1.fAt), (.int .i8 aN1.fPitch)])] (by kernel_rfl) (by kernel_rfl) (fun w hm => laws_toNote.calls aN1 w _ ht_46) ?_)
    rintro w v w' hm ⟨rfl, hm'⟩
    refine ⟨_, hm.app hm', jkD (fun w h => h.pick [0, 1, 2, 3, 4, 5] (by kernel_rfl) (by kernel_rfl)) ?_⟩
    clear hm hm'
    obtain ⟨t_7, ht_47, h⟩ := bd h
    refine toD 3 (by kernel_rfl) (p_call 0 19 #[(.agg #[(.int .i16 t_5.fSteps), (.slice (o_33.map fun b => ⟨b, 0, none⟩) t_5.fHammers.length cap_34)]), (.agg #[(.int .i16 t_6.fAt), (.int .i8 t_6.fPitch)])] (by kernel_rfl) (by kernel_rfl) (fun w hm => impl_ChoicesFor.calls t_5 t_6 w _ (o_33.map fun b => ⟨b, 0, none⟩) t_5.fHammers.length cap_34 (hm.ownRow (hh := 4) (o := o_33) (T := 176) (enc := encGHammer) (xs := t_5.fHammers) (sp := sp_35) (by kernel_rfl) (fun e => (ho_37 e).1) encGHammer_len) rfl ht_47) ?_)
    rintro w v w' hm ⟨o_48, cap_49, sp_50, _, rfl, hs_51, ho_52, rfl, hm'⟩
    refine ⟨_, hm.app hm', jkD (fun w h => h.pick [0, 1, 2, 3, 4, 5] (by kernel_rfl) (by kernel_rfl)) ?_⟩
    clear hm hm'
    refine jd_f [⟨4, 0, 0⟩, ⟨5, 0, 0⟩, ⟨6, 0, 0⟩, ⟨7, 0, 0⟩, ⟨8, 0, 0⟩] 0 (by kernel_rfl) (by kernel_rfl) (fun w h => h.pick [0, 1, 2, 3, 4, 5] (by kernel_rfl) (by kernel_rfl)) (by kernel_rfl) (by kernel_rfl) ?_
    refine jd_end (by kernel_rfl) ?_
    refine jx_then ?_
    refine jc_seq ?_
    refine jc_seq ?_
    refine jc_region ?_
    refine jo_f [(0, 0), (0, 0)] (by kernel_rfl) ?_
    obtain ⟨t_8, ht_57, h⟩ := bd h
    refine toO (by kernel_rfl) (p_call 0 20 #[(.slice (o_48.map fun b => ⟨b, 0, none⟩) t_7.1.length cap_49), (.slice (o_27.map fun b => ⟨b, 0, none⟩) t_4.1.length cap_28)] (by kernel_rfl) (by kernel_rfl) (fun w hm => laws_eqChoiceS.calls t_7.1 t_4.1 w _ (o_48.map fun b => ⟨b, 0, none⟩) t_7.1.length cap_49 (hm.ownRow (hh := 6) (o := o_48) (T := 113) (enc := encGChoice) (xs := t_7.1) (sp := sp_50) (by kernel_rfl) (fun e => (ho_52 e).1) encGChoice_len) rfl (o_27.map fun b => ⟨b, 0, none⟩) t_4.1.length cap_28 (hm.ownRow (hh := 3) (o := o_27) (T := 113) (enc := encGChoice) (xs := t_4.1) (sp := sp_29) (by kernel_rfl) (fun e => (ho_31 e).1) encGChoice_len) rfl ht_57) ?_)
    rintro w v w' hm ⟨rfl, hm'⟩
    refine ⟨_, hm.app hm', jkO ?_⟩
    clear hm hm'
    refine jo_f [(0, 0), (0, 0), (0, 1), (0, 1), (0, 1), (0, 0)] (by kernel_rfl) ?_
    refine jo_end (by kernel_rfl) ?_
    refine jx_then ?_
    refine jc_cond ((!t_8) || (t_7.2 != t_4.2)) (by kernel_rfl) (fun hc_58 => ?_) (fun hc_58 => ?_)
    · replace h := ifT hc_58 h
      refine jc_seq ?_
      refine jc_region ?_
      refine jo_f [(0, 0)] (by kernel_rfl) ?_
      refine jo_end (by kernel_rfl) ?_
      refine jx_then ?_
      refine jc_ret ?_
      refine jx_thenr ?_
      obtain rfl := Option.some.inj h
      exact jx_ret [] (.bool false) [] rfl (by kernel_rfl) (by kernel_rfl) (fun w hm => ⟨rfl, hm.pick [] (by kernel_rfl) (by kernel_rfl)⟩)
    · replace h := ifF hc_58 h
      refine jc_skip ?_
      refine jx_then ?_
      refine jc_seq ?_
      refine jc_seq ?_
      refine jc_draw [⟨some b_1, 25, [(.int .i16 aF0.fSteps), (.slice aF0_fHammers_a aF0.fHammers.length aF0_fHammers_c)]⟩, ⟨some b_2, 28, [(.int .i16 aN1.fAt), (.int .i8 aN1.fPitch)]⟩, ⟨o_20, 176, row encGHammer t_2.fHammers sp_22⟩, ⟨o_27, 113, row encGChoice t_4.1 sp_29⟩, ⟨some b_38, 35, [(.int .i16 t_5.fSteps), (.slice (o_33.map fun b => ⟨b, 0, none⟩) t_5.fHammers.length cap_34)]⟩] 5 (by kernel_rfl) (by kernel_rfl) ?_
      refine jd_f [⟨0, 4, 0⟩, ⟨1, 0, 0⟩] 3 (by kernel_rfl) (by kernel_rfl) (fun w h => h.pick [0, 1, 2, 3, 5] (by kernel_rfl) (by kernel_rfl)) (by kernel_rfl) (by kernel_rfl) ?_
      obtain ⟨t_9, ht_108, h⟩ := bd h
      refine toD 2 (by kernel_rfl) (p_call 0 17 #[(.agg #[(.int .i16 aF0.fSteps), (.slice aF0_fHammers_a aF0.fHammers.length aF0_fHammers_c)])] (by kernel_rfl) (by kernel_rfl) (fun w hm => laws_toFrame.calls aF0 w _ aF0_fHammers_a aF0.fHammers.length aF0_fHammers_c (hm.exRow aF0_fHammers_h List.not_mem_nil) rfl ht_108) ?_)
      rintro w v w' hm ⟨o_109, cap_110, sp_111, _, rfl, hs_112, ho_113, rfl, hm'⟩
      refine ⟨_, hm.app hm', jkD (fun w h => h.pick [0, 1, 2, 3, 5] (by kernel_rfl) (by kernel_rfl)) ?_⟩
      clear hm hm'
      obtain ⟨t_10, ht_114, h⟩ := bd h
      refine toD 3 (by kernel_rfl) (p_call 0 21 #[(.agg #[(.int .i16 t_5.fSteps), (.slice (o_33.map fun b => ⟨b, 0, none⟩) t_5.fHammers.length cap_34)]), (.agg #[(.int .i16 t_9.fSteps), (.slice (o_109.map fun b => ⟨b, 0, none⟩) t_9.fHammers.length cap_110)])] (by kernel_rfl) (by kernel_rfl) (fun w hm => laws_eqFrame.calls t_5 t_9 w _ (o_33.map fun b => ⟨b, 0, none⟩) t_5.fHammers.length cap_34 (hm.ownRow (hh := 4) (o := o_33) (T := 176) (enc := encGHammer) (xs := t_5.fHammers) (sp := sp_35) (by kernel_rfl) (fun e => (ho_37 e).1) encGHammer_len) rfl (o_109.map fun b => ⟨b, 0, none⟩) t_9.fHammers.length cap_110 (hm.ownRow (hh := 7) (o := o_109) (T := 176) (enc := encGHammer) (xs := t_9.fHammers) (sp := sp_111) (by kernel_rfl) (fun e => (ho_113 e).1) encGHammer_len) rfl ht_114) ?_)
      rintro w v w' hm ⟨rfl, hm'⟩
      refine ⟨_, hm.app hm', jkD (fun w h => h.pick [0, 1, 2, 3, 5] (by kernel_rfl) (by kernel_rfl)) ?_⟩
      clear hm hm'
      refine jd_f [⟨4, 0, 0⟩] 0 (by kernel_rfl) (by kernel_rfl) (fun w h => h.pick [0, 1, 2, 3, 5] (by kernel_rfl) (by kernel_rfl)) (by kernel_rfl) (by kernel_rfl) ?_
      refine jd_end (by kernel_rfl) ?_
      refine jx_then ?_
      refine jc_cond (!t_10) (by kernel_rfl) (fun hc_115 => ?_) (fun hc_115 => ?_)
      · replace h := ifT hc_115 h
        refine jc_seq ?_
        refine jc_region ?_
        refine jo_f [(0, 0)] (by kernel_rfl) ?_
        refine jo_end (by kernel_rfl) ?_
        refine jx_then ?_
        refine jc_ret ?_
        refine jx_thenr ?_
        obtain rfl := Option.some.inj h
        exact jx_ret [] (.bool false) [] rfl (by kernel_rfl) (by kernel_rfl) (fun w hm => ⟨rfl, hm.pick [] (by kernel_rfl) (by kernel_rfl)⟩)
      · replace h := ifF hc_115 h
        refine jc_skip ?_
        refine jx_then ?_
        refine jc_seq ?_
        refine jc_region ?_
        refine jo_f [(0, 0)] (by kernel_rfl) ?_
        refine jo_end (by kernel_rfl) ?_
        refine jx_then ?_
        refine jc_seq ?_
        refine jc_region ?_
        refine jo_f [(5, 0), (0, 0)] (by kernel_rfl) ?_
        obtain ⟨t_11, ht_116, h⟩ := bd h
        refine toO (by kernel_rfl) (p_call 0 22 #[(.agg #[(.int .i16 t_5.fSteps), (.slice (o_33.map fun b => ⟨b, 0, none⟩) t_5.fHammers.length cap_34)]), (.int .i64 1)] (by kernel_rfl) (by kernel_rfl) (fun w hm => laws_markFrame.calls t_5 1 w _ o_33 t_5.fHammers.length cap_34 sp_35 rfl hs_36 ho_37 (hm.pass (N := [⟨o_33, 176, row encGHammer t_5.fHammers sp_35⟩]) [4] (by kernel_rfl) (by kernel_rfl)) ht_116) ?_)
        rintro w v w' hm ⟨hn_117, ho_118, rfl, hm'⟩
        refine ⟨_, hm.appW (ps := [(4, ⟨o_33, 176, row encGHammer t_11.2 sp_35⟩)]) (N := []) hm' (by kernel_rfl) (by kernel_rfl), jkO ?_⟩
        clear hm hm'
        refine jo_f [(0, 0)] (by kernel_rfl) ?_
        refine jo_end (by kernel_rfl) ?_
        refine jx_then ?_
        refine jc_seq ?_
        refine jc_seq ?_
        refine jc_meet (fun (j : Bool) => match j with | q_12 => laws_FnExactChoicesFor.k_13 aF0 aN1 t_4 t_7 q_12 = some r) (fun (j : Bool) => match j with | q_12 => [(2, [], (.pointer (some ⟨b_1, 0, none⟩))), (3, [], (.pointer (some ⟨b_2, 0, none⟩))), (4, [], (.bool false)), (6, [], (.slice (o_27.map fun b => ⟨b, 0, none⟩) t_4.1.length cap_28)), (7, [], (.int .i64 t_4.2)), (9, [], (.slice (o_48.map fun b => ⟨b, 0, none⟩) t_7.1.length cap_49)), (67, [], (.bool q_12))]) (fun (j : Bool) => match j with | q_12 => [⟨some b_1, 25, [(.int .i16 aF0.fSteps), (.slice aF0_fHammers_a aF0.fHammers.length aF0_fHammers_c)]⟩, ⟨some b_2, 28, [(.int .i16 aN1.fAt), (.int .i8 aN1.fPitch)]⟩, ⟨o_20, 176, row encGHammer t_2.fHammers sp_22⟩, ⟨o_27, 113, row encGChoice t_4.1 sp_29⟩, ⟨o_33, 176, row encGHammer t_11.2 sp_35⟩, ⟨some b_38, 35, [(.int .i16 t_5.fSteps), (.slice (o_33.map fun b => ⟨b, 0, none⟩) t_5.fHammers.length cap_34)]⟩, ⟨o_48, 113, row encGChoice t_7.1 sp_50⟩, ⟨o_109, 176, row encGHammer t_9.fHammers sp_111⟩]) ?_ ?_
        · refine jc_region ?_
          refine jo_f [(0, 0), (0, 0), (0, 0), (0, 1), (0, 1)] (by kernel_rfl) ?_
          refine jo_split 57 (decide (t_11.1 < 0)) (by kernel_rfl) (fun hc_171 => ?_) (fun hc_171 => ?_)
          · replace h := ifT hc_171 h
            refine jo_f [(0, 3), (0, 3), (0, 4), (0, 0), (0, 3), (0, 3), (0, 3), (0, 4)] (by kernel_rfl) ?_
            refine jo_end (by kernel_rfl) ?_
            exact jx_meet true h (by kernel_rfl) [0, 1, 2, 3, 4, 5, 6, 7] (by kernel_rfl) (by kernel_rfl)
          · replace h := ifF hc_171 h
            obtain ⟨t_21, ht_172, h⟩ := bd h
            refine toO (by kernel_rfl) (p_call 2 20 #[(.slice (o_48.map fun b => ⟨b, 0, none⟩) t_7.1.length cap_49), (.slice (o_27.map fun b => ⟨b, 0, none⟩) t_4.1.length cap_28)] (by kernel_rfl) (by kernel_rfl) (fun w hm => laws_eqChoiceS.calls t_7.1 t_4.1 w _ (o_48.map fun b => ⟨b, 0, none⟩) t_7.1.length cap_49 (hm.ownRow (hh := 6) (o := o_48) (T := 113) (enc := encGChoice) (xs := t_7.1) (sp := sp_50) (by kernel_rfl) (fun e => (ho_52 e).1) encGChoice_len) rfl (o_27.map fun b => ⟨b, 0, none⟩) t_4.1.length cap_28 (hm.ownRow (hh := 3) (o := o_27) (T := 113) (enc := encGChoice) (xs := t_4.1) (sp := sp_29) (by kernel_rfl) (fun e => (ho_31 e).1) encGChoice_len) rfl ht_172) ?_)
            rintro w v w' hm ⟨rfl, hm'⟩
            refine ⟨_, hm.app hm', jkO ?_⟩
            clear hm hm'
            refine jo_f [(0, 2), (0, 5), (0, 0), (0, 1), (0, 1), (0, 1), (0, 0)] (by kernel_rfl) ?_
            refine jo_end (by kernel_rfl) ?_
            exact jx_meet ((!t_21) || (t_7.2 != t_4.2)) h (by kernel_rfl) [0, 1, 2, 3, 4, 5, 6, 7] (by kernel_rfl) (by kernel_rfl)
        · rintro q_12 h
          replace h : laws_FnExactChoicesFor.k_13 aF0 aN1 t_4 t_7 q_12 = some r := h
          rw [laws_FnExactChoicesFor.k_13] at h
          refine jx_then ?_
          refine jc_cond q_12 (by kernel_rfl) (fun hc_126 => ?_) (fun hc_126 => ?_)
          · replace h := ifT hc_126 h
            refine jc_seq ?_
            refine jc_region ?_
            refine jo_f [(0, 0)] (by kernel_rfl) ?_
            refine jo_end (by kernel_rfl) ?_
            refine jx_then ?_
            refine jc_ret ?_
            refine jx_thenr ?_
            obtain rfl := Option.some.inj h
            exact jx_ret [] (.bool false) [] rfl (by kernel_rfl) (by kernel_rfl) (fun w hm => ⟨rfl, hm.pick [] (by kernel_rfl) (by kernel_rfl)⟩)
          · replace h := ifF hc_126 h
            refine jc_skip ?_
            refine jx_then ?_
            refine jc_seq ?_
            refine jc_region ?_
            refine jo_f [(0, 0)] (by kernel_rfl) ?_
            refine jo_end (by kernel_rfl) ?_
            refine jx_then ?_
            refine jc_seq ?_
            refine jc_region ?_
            refine jo_f [(0, 0), (0, 0)] (by kernel_rfl) ?_
            obtain ⟨t_14, ht_127, h⟩ := bd h
            refine toO (by kernel_rfl) (p_call 0 23 #[(.slice (o_48.map fun b => ⟨b, 0, none⟩) t_7.1.length cap_49), (.int .i64 1)] (by kernel_rfl) (by kernel_rfl) (fun w hm => laws_markChoiceS.calls t_7.1 1 w _ o_48 t_7.1.length cap_49 sp_50 rfl hs_51 ho_52 (hm.pass (N := [⟨o_48, 113, row encGChoice t_7.1 sp_50⟩]) [6] (by kernel_rfl) (by kernel_rfl)) ht_127) ?_)
            rintro w v w' hm ⟨hn_128, ho_129, rfl, hm'⟩
            refine ⟨_, hm.appW (ps := [(6, ⟨o_48, 113, row encGChoice t_14.2 sp_50⟩)]) (N := []) hm' (by kernel_rfl) (by kernel_rfl), jkO ?_⟩
            clear hm hm'
            refine jo_f [(0, 0)] (by kernel_rfl) ?_
            refine jo_end (by kernel_rfl) ?_
            refine jx_then ?_
            refine jc_seq ?_
            refine jc_region ?_
            refine jo_f [(0, 0)] (by kernel_rfl) ?_
            refine jo_end (by kernel_rfl) ?_
            refine jx_then ?_
            refine jc_seq ?_
            refine jc_region ?_
            refine jo_f [(0, 0), (0, 0)] (by kernel_rfl) ?_
            obtain ⟨t_15, ht_130, h⟩ := bd h
            refine toO (by kernel_rfl) (p_call 0 24 #[(.slice (o_48.map fun b => ⟨b, 0, none⟩) t_7.1.length cap_49), (.int .i64 1)] (by kernel_rfl) (by kernel_rfl) (fun w hm => laws_heldChoiceS.calls t_14.2 1 w _ (o_48.map fun b => ⟨b, 0, none⟩) t_7.1.length cap_49 (hm.ownRow (hh := 6) (o := o_48) (T := 113) (enc := encGChoice) (xs := t_14.2) (sp := sp_50) (by kernel_rfl) (fun e => (ho_129 e).1) encGChoice_len) hn_128 ht_130) ?_)
            rintro w v w' hm ⟨rfl, hm'⟩
            refine ⟨_, hm.app hm', jkO ?_⟩
            clear hm hm'
            refine jo_f [(0, 0)] (by kernel_rfl) ?_
            refine jo_end (by kernel_rfl) ?_
            refine jx_then ?_
            refine jc_seq ?_
            refine jc_seq ?_
            refine jc_region ?_
            refine jo_f [(0, 0), (0, 0)] (by kernel_rfl) ?_
            refine jo_end (by kernel_rfl) ?_
            refine jx_then ?_
            refine jc_cond (decide (t_15 < 0)) (by kernel_rfl) (fun hc_132 => ?_) (fun hc_132 => ?_)
            · replace h := ifT hc_132 h
              refine jc_seq ?_
              refine jc_region ?_
              refine jo_f [(0, 0)] (by kernel_rfl) ?_
              refine jo_end (by kernel_rfl) ?_
              refine jx_then ?_
              refine jc_ret ?_
              refine jx_thenr ?_
              obtain rfl := Option.some.inj h
              exact jx_ret [] (.bool false) [] rfl (by kernel_rfl) (by kernel_rfl) (fun w hm => ⟨rfl, hm.pick [] (by kernel_rfl) (by kernel_rfl)⟩)
            · replace h := ifF hc_132 h
              refine jc_skip ?_
              refine jx_then ?_
              refine jc_seq ?_
              refine jc_seq ?_
              refine jc_region ?_
              refine jo_f [(0, 0), (0, 0), (0, 0)] (by kernel_rfl) ?_
              refine jo_end (by kernel_rfl) ?_
              refine jx_then ?_
              refine jc_cond (t_15 != t_14.1) (by kernel_rfl) (fun hc_134 => ?_) (fun hc_134 => ?_)
              · replace h := ifT hc_134 h
                refine jc_seq ?_
                refine jc_region ?_
                refine jo_f [(0, 0)] (by kernel_rfl) ?_
                refine jo_end (by kernel_rfl) ?_
                refine jx_then ?_
                refine jc_ret ?_
                refine jx_thenr ?_
                obtain rfl := Option.some.inj h
                exact jx_ret [] (.bool false) [] rfl (by kernel_rfl) (by kernel_rfl) (fun w hm => ⟨rfl, hm.pick [] (by kernel_rfl) (by kernel_rfl)⟩)
              · replace h := ifF hc_134 h
                refine jc_skip ?_
                refine jx_then ?_
                refine jc_seq ?_
                refine jc_draw [⟨some b_1, 25, [(.int .i16 aF0.fSteps), (.slice aF0_fHammers_a aF0.fHammers.length aF0_fHammers_c)]⟩, ⟨some b_2, 28, [(.int .i16 aN1.fAt), (.int .i8 aN1.fPitch)]⟩, ⟨o_20, 176, row encGHammer t_2.fHammers sp_22⟩, ⟨o_27, 113, row encGChoice t_4.1 sp_29⟩, ⟨o_33, 176, row encGHammer t_11.2 sp_35⟩, ⟨some b_38, 35, [(.int .i16 t_5.fSteps), (.slice (o_33.map fun b => ⟨b, 0, none⟩) t_5.fHammers.length cap_34)]⟩, ⟨o_48, 113, row encGChoice t_14.2 sp_50⟩, ⟨o_109, 176, row encGHammer t_9.fHammers sp_111⟩] 10 (by kernel_rfl) (by kernel_rfl) ?_
                refine jd_f [⟨0, 0, 0⟩, ⟨2, 1, 0⟩] 8 (by kernel_rfl) (by kernel_rfl) (fun w h => h.pick [0, 1, 2, 3, 4, 5, 6, 7] (by kernel_rfl) (by kernel_rfl)) (by kernel_rfl) (by kernel_rfl) ?_
                obtain ⟨t_16, ht_148, h⟩ := bd h
                refine toD 1 (by kernel_rfl) (p_call 0 17 #[(.agg #[(.int .i16 aF0.fSteps), (.slice aF0_fHammers_a aF0.fHammers.length aF0_fHammers_c)])] (by kernel_rfl) (by kernel_rfl) (fun w hm => laws_toFrame.calls aF0 w _ aF0_fHammers_a aF0.fHammers.length aF0_fHammers_c (hm.exRow aF0_fHammers_h List.not_mem_nil) rfl ht_148) ?_)
                rintro w v w' hm ⟨o_149, cap_150, sp_151, _, rfl, hs_152, ho_153, rfl, hm'⟩
                refine ⟨_, hm.app hm', jkD (fun w h => h.pick [0, 1, 2, 3, 4, 5, 6, 7] (by kernel_rfl) (by kernel_rfl)) ?_⟩
                clear hm hm'
                obtain ⟨t_17, ht_154, h⟩ := bd h
                refine toD 3 (by kernel_rfl) (p_call 0 18 #[(.agg #[(.int .i16 aN1.fAt), (.int .i8 aN1.fPitch)])] (by kernel_rfl) (by kernel_rfl) (fun w hm => laws_toNote.calls aN1 w _ ht_154) ?_)
                rintro w v w' hm ⟨rfl, hm'⟩
                refine ⟨_, hm.app hm', jkD (fun w h => h.pick [0, 1, 2, 3, 4, 5, 6, 7] (by kernel_rfl) (by kernel_rfl)) ?_⟩
                clear hm hm'
                obtain ⟨t_18, ht_155, h⟩ := bd h
                refine toD 4 (by kernel_rfl) (p_call 0 19 #[(.agg #[(.int .i16 t_16.fSteps), (.slice (o_149.map fun b => ⟨b, 0, none⟩) t_16.fHammers.length cap_150)]), (.agg #[(.int .i16 t_17.fAt), (.int .i8 t_17.fPitch)])] (by kernel_rfl) (by kernel_rfl) (fun w hm => impl_ChoicesFor.calls t_16 t_17 w _ (o_149.map fun b => ⟨b, 0, none⟩) t_16.fHammers.length cap_150 (hm.ownRow (hh := 8) (o := o_149) (T := 176) (enc := encGHammer) (xs := t_16.fHammers) (sp := sp_151) (by kernel_rfl) (fun e => (ho_153 e).1) encGHammer_len) rfl ht_155) ?_)
                rintro w v w' hm ⟨o_156, cap_157, sp_158, _, rfl, hs_159, ho_160, rfl, hm'⟩
                refine ⟨_, hm.app hm', jkD (fun w h => h.pick [0, 1, 2, 3, 4, 5, 6, 7] (by kernel_rfl) (by kernel_rfl)) ?_⟩
                clear hm hm'
                refine jd_f [⟨5, 0, 0⟩, ⟨6, 0, 0⟩, ⟨7, 0, 0⟩, ⟨8, 0, 0⟩, ⟨9, 0, 0⟩] 0 (by kernel_rfl) (by kernel_rfl) (fun w h => h.pick [0, 1, 2, 3, 4, 5, 6, 7] (by kernel_rfl) (by kernel_rfl)) (by kernel_rfl) (by kernel_rfl) ?_
                refine jd_end (by kernel_rfl) ?_
                refine jx_then ?_
                refine jc_seq ?_
                refine jc_seq ?_
                refine jc_region ?_
                refine jo_f [(0, 0), (0, 0)] (by kernel_rfl) ?_
                obtain ⟨t_19, ht_165, h⟩ := bd h
                refine toO (by kernel_rfl) (p_call 0 20 #[(.slice (o_156.map fun b => ⟨b, 0, none⟩) t_18.1.length cap_157), (.slice (o_27.map fun b => ⟨b, 0, none⟩) t_4.1.length cap_28)] (by kernel_rfl) (by kernel_rfl) (fun w hm => laws_eqChoiceS.calls t_18.1 t_4.1 w _ (o_156.map fun b => ⟨b, 0, none⟩) t_18.1.length cap_157 (hm.ownRow (hh := 9) (o := o_156) (T := 113) (enc := encGChoice) (xs := t_18.1) (sp := sp_158) (by kernel_rfl) (fun e => (ho_160 e).1) encGChoice_len) rfl (o_27.map fun b => ⟨b, 0, none⟩) t_4.1.length cap_28 (hm.ownRow (hh := 3) (o := o_27) (T := 113) (enc := encGChoice) (xs := t_4.1) (sp := sp_29) (by kernel_rfl) (fun e => (ho_31 e).1) encGChoice_len) rfl ht_165) ?_)
                rintro w v w' hm ⟨rfl, hm'⟩
                refine ⟨_, hm.app hm', jkO ?_⟩
                clear hm hm'
                refine jo_f [(0, 0), (0, 0), (0, 1), (0, 1), (0, 1), (0, 0)] (by kernel_rfl) ?_
                refine jo_end (by kernel_rfl) ?_
                refine jx_then ?_
                refine jc_cond ((!t_19) || (t_18.2 != t_4.2)) (by kernel_rfl) (fun hc_166 => ?_) (fun hc_166 => ?_)
                · replace h := ifT hc_166 h
                  refine jc_seq ?_
                  refine jc_region ?_
                  refine jo_f [(0, 0)] (by kernel_rfl) ?_
                  refine jo_end (by kernel_rfl) ?_
                  refine jx_then ?_
                  refine jc_ret ?_
                  refine jx_thenr ?_
                  obtain rfl := Option.some.inj h
                  exact jx_ret [] (.bool false) [] rfl (by kernel_rfl) (by kernel_rfl) (fun w hm => ⟨rfl, hm.pick [] (by kernel_rfl) (by kernel_rfl)⟩)
                · replace h := ifF hc_166 h
                  refine jc_skip ?_
                  refine jx_then ?_
                  refine jc_seq ?_
                  refine jc_region ?_
                  refine jo_f [(0, 0)] (by kernel_rfl) ?_
                  refine jo_end (by kernel_rfl) ?_
                  refine jx_then ?_
                  refine jc_seq ?_
                  refine jc_region ?_
                  refine jo_f [(0, 0), (0, 0)] (by kernel_rfl) ?_
                  obtain ⟨t_20, ht_167, h⟩ := bd h
                  refine toO (by kernel_rfl) (p_call 0 24 #[(.slice (o_48.map fun b => ⟨b, 0, none⟩) t_7.1.length cap_49), (.int .i64 1)] (by kernel_rfl) (by kernel_rfl) (fun w hm => laws_heldChoiceS.calls t_14.2 1 w _ (o_48.map fun b => ⟨b, 0, none⟩) t_7.1.length cap_49 (hm.ownRow (hh := 6) (o := o_48) (T := 113) (enc := encGChoice) (xs := t_14.2) (sp := sp_50) (by kernel_rfl) (fun e => (ho_129 e).1) encGChoice_len) hn_128 ht_167) ?_)
                  rintro w v w' hm ⟨rfl, hm'⟩
                  refine ⟨_, hm.app hm', jkO ?_⟩
                  clear hm hm'
                  refine jo_f [(0, 0)] (by kernel_rfl) ?_
                  refine jo_end (by kernel_rfl) ?_
                  refine jx_then ?_
                  refine jc_seq ?_
                  refine jc_seq ?_
                  refine jc_region ?_
                  refine jo_f [(0, 0), (0, 0)] (by kernel_rfl) ?_
                  refine jo_end (by kernel_rfl) ?_
                  refine jx_then ?_
                  refine jc_cond (decide (t_20 < 0)) (by kernel_rfl) (fun hc_169 => ?_) (fun hc_169 => ?_)
                  · replace h := ifT hc_169 h
                    refine jc_seq ?_
                    refine jc_region ?_
                    refine jo_f [(0, 0)] (by kernel_rfl) ?_
                    refine jo_end (by kernel_rfl) ?_
                    refine jx_then ?_
                    refine jc_ret ?_
                    refine jx_thenr ?_
                    obtain rfl := Option.some.inj h
                    exact jx_ret [] (.bool false) [] rfl (by kernel_rfl) (by kernel_rfl) (fun w hm => ⟨rfl, hm.pick [] (by kernel_rfl) (by kernel_rfl)⟩)
                  · replace h := ifF hc_169 h
                    refine jc_skip ?_
                    refine jx_then ?_
                    refine jc_seq ?_
                    refine jc_seq ?_
                    refine jc_region ?_
                    refine jo_f [(0, 0), (0, 0), (0, 0)] (by kernel_rfl) ?_
                    refine jo_end (by kernel_rfl) ?_
                    refine jx_then ?_
                    refine jc_cond (t_20 != t_14.1) (by kernel_rfl) (fun hc_170 => ?_) (fun hc_170 => ?_)
                    · replace h := ifT hc_170 h
                      refine jc_seq ?_
                      refine jc_region ?_
                      refine jo_f [(0, 0)] (by kernel_rfl) ?_
                      refine jo_end (by kernel_rfl) ?_
                      refine jx_then ?_
                      refine jc_ret ?_
                      refine jx_thenr ?_
                      obtain rfl := Option.some.inj h
                      exact jx_ret [] (.bool false) [] rfl (by kernel_rfl) (by kernel_rfl) (fun w hm => ⟨rfl, hm.pick [] (by kernel_rfl) (by kernel_rfl)⟩)
                    · replace h := ifF hc_170 h
                      refine jc_skip ?_
                      refine jx_then ?_
                      refine jc_seq ?_
                      refine jc_region ?_
                      refine jo_f [(0, 0)] (by kernel_rfl) ?_
                      refine jo_end (by kernel_rfl) ?_
                      refine jx_then ?_
                      refine jc_ret ?_
                      obtain rfl := Option.some.inj h
                      exact jx_ret [] (.bool true) [] rfl (by kernel_rfl) (by kernel_rfl) (fun w hm => ⟨rfl, hm.pick [] (by kernel_rfl) (by kernel_rfl)⟩)

/-! ### laws.szWornPinS -/
noncomputable def laws_szWornPinS (a0 : List GWornPin) (left1 : Int) : Option (Int) := (if (decide ((w64 (left1 - (a0.length : Int))) < 0)) = true then some (-1) else some (w64 (left1 - (a0.length : Int))))
set_option maxRecDepth 100000 in
theorem laws_szWornPinS.calls (a0 : List GWornPin) (left1 : Int) (w : World) (r : Int) (a0_a : Option Addr) (a0_an : Nat) (a0_c : Nat) (a0_h : Rw w a0_a 3 encGWornPin a0) (a0_hn : a0.length = a0_an) (h : laws_szWornPinS a0 left1 = some r) :
    Calls Try.prog 78 #[(.slice a0_a a0_an a0_c), (.int .i64 left1)] w fun e w' => ∃ v, e = .returned v ∧ (v = (.int .i64 r) ∧ Mem w [] [] w') := by
  subst a0_hn
  rw [laws_szWornPinS] at h
  refine enter (args := [(.slice a0_a a0.length a0_c), (.int .i64 left1)]) Try.func78 rfl Try.ntmps78 (by kernel_rfl) (L := []) (W := []) (Mem.start w) ?_
  refine jc_seq ?_
  refine jc_region ?_
  refine jo_f [(0, 0)] (by kernel_rfl) ?_
  refine jo_end (by kernel_rfl) ?_
  refine jx_then ?_
  refine jc_seq ?_
  refine jc_region ?_
  refine jo_f [(0, 0), (0, 0), (0, 0), (0, 0), (0, 0)] (by kernel_rfl) ?_
  refine jo_end (by kernel_rfl) ?_
  refine jx_then ?_
  refine jc_seq ?_
  refine jc_seq ?_
  refine jc_region ?_
  refine jo_f [(0, 0), (0, 0)] (by kernel_rfl) ?_
  refine jo_end (by kernel_rfl) ?_
  refine jx_then ?_
  refine jc_cond (decide ((w64 (left1 - (a0.length : Int))) < 0)) (by kernel_rfl) (fun hc_2 => ?_) (fun hc_2 => ?_)
  · replace h := ifT hc_2 h
    refine jc_seq ?_
    refine jc_region ?_
    refine jo_f [(0, 0)] (by kernel_rfl) ?_
    refine jo_end (by kernel_rfl) ?_
    refine jx_then ?_
    refine jc_ret ?_
    refine jx_thenr ?_
    obtain rfl := Option.some.inj h
    exact jx_ret [] (.int .i64 (-1)) [] rfl (by kernel_rfl) (by kernel_rfl) (fun w hm => ⟨rfl, hm.pick [] (by kernel_rfl) (by kernel_rfl)⟩)
  · replace h := ifF hc_2 h
    refine jc_skip ?_
    refine jx_then ?_
    refine jc_seq ?_
    refine jc_region ?_
    refine jo_f [(0, 0), (0, 0)] (by kernel_rfl) ?_
    refine jo_end (by kernel_rfl) ?_
    refine jx_then ?_
    refine jc_ret ?_
    obtain rfl := Option.some.inj h
    exact jx_ret [] (.int .i64 (w64 (left1 - (a0.length : Int)))) [] rfl (by kernel_rfl) (by kernel_rfl) (fun w hm => ⟨rfl, hm.pick [] (by kernel_rfl) (by kernel_rfl)⟩)

/-! ### laws.szInt64S -/
noncomputable def laws_szInt64S (a0 : List Int) (left1 : Int) : Option (Int) := (if (decide ((w64 (left1 - (a0.length : Int))) < 0)) = true then some (-1) else some (w64 (left1 - (a0.length : Int))))
set_option maxRecDepth 100000 in
theorem laws_szInt64S.calls (a0 : List Int) (left1 : Int) (w : World) (r : Int) (a0_a : Option Addr) (a0_an : Nat) (a0_c : Nat) (a0_h : Rw w a0_a 1 encI64 a0) (a0_hn : a0.length = a0_an) (h : laws_szInt64S a0 left1 = some r) :
    Calls Try.prog 79 #[(.slice a0_a a0_an a0_c), (.int .i64 left1)] w fun e w' => ∃ v, e = .returned v ∧ (v = (.int .i64 r) ∧ Mem w [] [] w') := by
  subst a0_hn
  rw [laws_szInt64S] at h
  refine enter (args := [(.slice a0_a a0.length a0_c), (.int .i64 left1)]) Try.func79 rfl Try.ntmps79 (by kernel_rfl) (L := []) (W := []) (Mem.start w) ?_
  refine jc_seq ?_
  refine jc_region ?_
  refine jo_f [(0, 0)] (by kernel_rfl) ?_
  refine jo_end (by kernel_rfl) ?_
  refine jx_then ?_
  refine jc_seq ?_
  refine jc_region ?_
  refine jo_f [(0, 0), (0, 0), (0, 0), (0, 0), (0, 0)] (by kernel_rfl) ?_
  refine jo_end (by kernel_rfl) ?_
  refine jx_then ?_
  refine jc_seq ?_
  refine jc_seq ?_
  refine jc_region ?_
  refine jo_f [(0, 0), (0, 0)] (by kernel_rfl) ?_
  refine jo_end (by kernel_rfl) ?_
  refine jx_then ?_
  refine jc_cond (decide ((w64 (left1 - (a0.length : Int))) < 0)) (by kernel_rfl) (fun hc_2 => ?_) (fun hc_2 => ?_)
  · replace h := ifT hc_2 h
    refine jc_seq ?_
    refine jc_region ?_
    refine jo_f [(0, 0)] (by kernel_rfl) ?_
    refine jo_end (by kernel_rfl) ?_
    refine jx_then ?_
    refine jc_ret ?_
    refine jx_thenr ?_
    obtain rfl := Option.some.inj h
    exact jx_ret [] (.int .i64 (-1)) [] rfl (by kernel_rfl) (by kernel_rfl) (fun w hm => ⟨rfl, hm.pick [] (by kernel_rfl) (by kernel_rfl)⟩)
  · replace h := ifF hc_2 h
    refine jc_skip ?_
    refine jx_then ?_
    refine jc_seq ?_
    refine jc_region ?_
    refine jo_f [(0, 0), (0, 0)] (by kernel_rfl) ?_
    refine jo_end (by kernel_rfl) ?_
    refine jx_then ?_
    refine jc_ret ?_
    obtain rfl := Option.some.inj h
    exact jx_ret [] (.int .i64 (w64 (left1 - (a0.length : Int)))) [] rfl (by kernel_rfl) (by kernel_rfl) (fun w hm => ⟨rfl, hm.pick [] (by kernel_rfl) (by kernel_rfl)⟩)

/-! ### laws.szWear -/
noncomputable def laws_szWear (a0 : GWear) (left1 : Int) : Option (Int) := (laws_szWornPinS a0.fPins left1).bind fun t_1 => (if (decide (t_1 < 0)) = true then some (-1) else (laws_szInt64S a0.fStrokes t_1).bind fun t_2 => (if (decide (t_2 < 0)) = true then some (-1) else some t_2))
set_option maxRecDepth 100000 in
theorem laws_szWear.calls (a0 : GWear) (left1 : Int) (w : World) (r : Int) (a0_fPins_a : Option Addr) (a0_fPins_an : Nat) (a0_fPins_c : Nat) (a0_fPins_h : Rw w a0_fPins_a 3 encGWornPin a0.fPins) (a0_fPins_hn : a0.fPins.length = a0_fPins_an) (a0_fStrokes_a : Option Addr) (a0_fStrokes_an : Nat) (a0_fStrokes_c : Nat) (a0_fStrokes_h : Rw w a0_fStrokes_a 1 encI64 a0.fStrokes) (a0_fStrokes_hn : a0.fStrokes.length = a0_fStrokes_an) (h : laws_szWear a0 left1 = some r) :
    Calls Try.prog 25 #[(.agg #[(.slice a0_fPins_a a0_fPins_an a0_fPins_c), (.slice a0_fStrokes_a a0_fStrokes_an a0_fStrokes_c)]), (.int .i64 left1)] w fun e w' => ∃ v, e = .returned v ∧ (v = (.int .i64 r) ∧ Mem w [] [] w') := by
  subst a0_fPins_hn a0_fStrokes_hn
  rw [laws_szWear] at h
  refine enter (args := [(.agg #[(.slice a0_fPins_a a0.fPins.length a0_fPins_c), (.slice a0_fStrokes_a a0.fStrokes.length a0_fStrokes_c)]), (.int .i64 left1)]) Try.func25 rfl Try.ntmps25 (by kernel_rfl) (L := []) (W := []) (Mem.start w) ?_
  refine jc_seq ?_
  refine jc_region ?_
  refine toO (by kernel_rfl) (p_a 0 [0] (by kernel_rfl) (fun b => by kernel_rfl) (fun b_1 => jkO ?_))
  refine jo_f [(0, 0)] (by kernel_rfl) ?_
  refine jo_end (by kernel_rfl) ?_
  refine jx_then ?_
  refine jc_seq ?_
  refine jc_region ?_
  refine jo_f [(0, 0), (0, 0), (0, 0)] (by kernel_rfl) ?_
  obtain ⟨t_1, ht_2, h⟩ := bd h
  refine toO (by kernel_rfl) (p_call 0 78 #[(.slice a0_fPins_a a0.fPins.length a0_fPins_c), (.int .i64 left1)] (by kernel_rfl) (by kernel_rfl) (fun w hm => laws_szWornPinS.calls a0.fPins left1 w _ a0_fPins_a a0.fPins.length a0_fPins_c (hm.exRow a0_fPins_h List.not_mem_nil) rfl ht_2) ?_)
  rintro w v w' hm ⟨rfl, hm'⟩
  refine ⟨_, hm.app hm', jkO ?_⟩
  clear hm hm'
  refine jo_f [(0, 0)] (by kernel_rfl) ?_
  refine jo_end (by kernel_rfl) ?_
  refine jx_then ?_
  refine jc_seq ?_
  refine jc_seq ?_
  refine jc_region ?_
  refine jo_f [(0, 0), (0, 0)] (by kernel_rfl) ?_
  refine jo_end (by kernel_rfl) ?_
  refine jx_then ?_
  refine jc_cond (decide (t_1 < 0)) (by kernel_rfl) (fun hc_4 => ?_) (fun hc_4 => ?_)
  · replace h := ifT hc_4 h
    refine jc_seq ?_
    refine jc_region ?_
    refine jo_f [(0, 0)] (by kernel_rfl) ?_
    refine jo_end (by kernel_rfl) ?_
    refine jx_then ?_
    refine jc_ret ?_
    refine jx_thenr ?_
    obtain rfl := Option.some.inj h
    exact jx_ret [] (.int .i64 (-1)) [] rfl (by kernel_rfl) (by kernel_rfl) (fun w hm => ⟨rfl, hm.pick [] (by kernel_rfl) (by kernel_rfl)⟩)
  · replace h := ifF hc_4 h
    refine jc_skip ?_
    refine jx_then ?_
    refine jc_seq ?_
    refine jc_region ?_
    refine jo_f [(0, 0), (0, 0), (0, 0)] (by kernel_rfl) ?_
    obtain ⟨t_2, ht_5, h⟩ := bd h
    refine toO (by kernel_rfl) (p_call 0 79 #[(.slice a0_fStrokes_a a0.fStrokes.length a0_fStrokes_c), (.int .i64 t_1)] (by kernel_rfl) (by kernel_rfl) (fun w hm => laws_szInt64S.calls a0.fStrokes t_1 w _ a0_fStrokes_a a0.fStrokes.length a0_fStrokes_c (hm.exRow a0_fStrokes_h List.not_mem_nil) rfl ht_5) ?_)
    rintro w v w' hm ⟨rfl, hm'⟩
    refine ⟨_, hm.app hm', jkO ?_⟩
    clear hm hm'
    refine jo_f [(0, 0)] (by kernel_rfl) ?_
    refine jo_end (by kernel_rfl) ?_
    refine jx_then ?_
    refine jc_seq ?_
    refine jc_seq ?_
    refine jc_region ?_
    refine jo_f [(0, 0), (0, 0)] (by kernel_rfl) ?_
    refine jo_end (by kernel_rfl) ?_
    refine jx_then ?_
    refine jc_cond (decide (t_2 < 0)) (by kernel_rfl) (fun hc_7 => ?_) (fun hc_7 => ?_)
    · replace h := ifT hc_7 h
      refine jc_seq ?_
      refine jc_region ?_
      refine jo_f [(0, 0)] (by kernel_rfl) ?_
      refine jo_end (by kernel_rfl) ?_
      refine jx_then ?_
      refine jc_ret ?_
      refine jx_thenr ?_
      obtain rfl := Option.some.inj h
      exact jx_ret [] (.int .i64 (-1)) [] rfl (by kernel_rfl) (by kernel_rfl) (fun w hm => ⟨rfl, hm.pick [] (by kernel_rfl) (by kernel_rfl)⟩)
    · replace h := ifF hc_7 h
      refine jc_skip ?_
      refine jx_then ?_
      refine jc_seq ?_
      refine jc_region ?_
      refine jo_f [(0, 0), (0, 0)] (by kernel_rfl) ?_
      refine jo_end (by kernel_rfl) ?_
      refine jx_then ?_
      refine jc_ret ?_
      obtain rfl := Option.some.inj h
      exact jx_ret [] (.int .i64 t_2) [] rfl (by kernel_rfl) (by kernel_rfl) (fun w hm => ⟨rfl, hm.pick [] (by kernel_rfl) (by kernel_rfl)⟩)

/-! ### laws.toWornPin -/
noncomputable def laws_toWornPin (a0 : GWornPin) : Option (GWornPin) := some a0
set_option maxRecDepth 100000 in
theorem laws_toWornPin.calls (a0 : GWornPin) (w : World) (r : GWornPin) (h : laws_toWornPin a0 = some r) :
    Calls Try.prog 142 #[(.agg #[(.int .i8 a0.fStep), (.int .i8 a0.fTrack), (.int .i64 a0.fTurns)])] w fun e w' => ∃ v, e = .returned v ∧ (v = .agg #[(.int .i8 r.fStep), (.int .i8 r.fTrack), (.int .i64 r.fTurns)] ∧ Mem w [] [] w') := by
  rw [laws_toWornPin] at h
  refine enter (args := [(.agg #[(.int .i8 a0.fStep), (.int .i8 a0.fTrack), (.int .i64 a0.fTurns)])]) Try.func142 rfl Try.ntmps142 (by kernel_rfl) (L := []) (W := []) (Mem.start w) ?_
  refine jc_seq ?_
  refine jc_region ?_
  refine toO (by kernel_rfl) (p_a 0 [0] (by kernel_rfl) (fun b => by kernel_rfl) (fun b_1 => jkO ?_))
  refine toO (by kernel_rfl) (p_a 0 [0] (by kernel_rfl) (fun b => by kernel_rfl) (fun b_2 => jkO ?_))
  refine jo_end (by kernel_rfl) ?_
  refine jx_then ?_
  refine jc_seq ?_
  refine jc_region ?_
  refine toO (by kernel_rfl) (p_a 0 [0] (by kernel_rfl) (fun b => by kernel_rfl) (fun b_3 => jkO ?_))
  refine jo_end (by kernel_rfl) ?_
  refine jx_then ?_
  refine jc_seq ?_
  refine jc_region ?_
  refine jo_f [(0, 0), (0, 0), (0, 0)] (by kernel_rfl) ?_
  refine toO (by kernel_rfl) (p_s 0 [2] (by kernel_rfl) (by kernel_rfl) (jkO ?_))
  refine jo_end (by kernel_rfl) ?_
  refine jx_then ?_
  refine jc_seq ?_
  refine jc_region ?_
  refine jo_f [(0, 0), (0, 0), (0, 0)] (by kernel_rfl) ?_
  refine toO (by kernel_rfl) (p_s 0 [2] (by kernel_rfl) (by kernel_rfl) (jkO ?_))
  refine jo_end (by kernel_rfl) ?_
  refine jx_then ?_
  refine jc_seq ?_
  refine jc_region ?_
  refine jo_f [(0, 0), (0, 0), (0, 0)] (by kernel_rfl) ?_
  refine toO (by kernel_rfl) (p_s 0 [2] (by kernel_rfl) (by kernel_rfl) (jkO ?_))
  refine jo_end (by kernel_rfl) ?_
  refine jx_then ?_
  refine jc_seq ?_
  refine jc_region ?_
  refine jo_f [(2, 0)] (by kernel_rfl) ?_
  refine toO (by kernel_rfl) (p_s 0 [1] (by kernel_rfl) (by kernel_rfl) (jkO ?_))
  refine jo_end (by kernel_rfl) ?_
  refine jx_then ?_
  refine jc_ret ?_
  obtain rfl := Option.some.inj h
  exact jx_ret [1] (.agg #[(.int .i8 a0.fStep), (.int .i8 a0.fTrack), (.int .i64 a0.fTurns)]) [(b_2, b_2), (b_2, b_2), (b_2, b_2)] rfl (by kernel_rfl) (by kernel_rfl) (fun w hm => ⟨rfl, hm.pick [] (by kernel_rfl) (by kernel_rfl)⟩)

/-! ### laws.toWornPinS -/
noncomputable def laws_toWornPinS.k_2 (xs_1 : List GWornPin) : Option ((List GWornPin)) := some xs_1
noncomputable def laws_toWornPinS.l_5 (a0 : List GWornPin) : ((List GWornPin) × Int) → Option (((List GWornPin) × Int) ⊕ ((List GWornPin)))
  | (xs_3, i_4) => (if (decide (i_4 < (a0.length : Int))) = true then (ix a0 i_4).bind fun x_7 => (laws_toWornPin x_7).bind fun t_8 => (ix xs_3 i_4).bind fun x_9 => some (.inl ((xs_3.set i_4.toNat t_8), (w64 (i_4 + 1)))) else some (.inr xs_3))
noncomputable def laws_toWornPinS (a0 : List GWornPin) : Option ((List GWornPin)) := (if 0 ≤ (a0.length : Int) ∧ (a0.length : Int) ≤ 8796093022208 then (loop (laws_toWornPinS.l_5 a0) ((List.replicate (a0.length : Int).toNat (⟨0, 0, 0⟩ : GWornPin)), 0)).bind fun t_6 => laws_toWornPinS.k_2 t_6 else none)
set_option maxRecDepth 100000 in
theorem laws_toWornPinS.calls (a0 : List GWornPin) (w : World) (r : (List GWornPin)) (a0_a : Option Addr) (a0_an : Nat) (a0_c : Nat) (a0_h : Rw w a0_a 3 encGWornPin a0) (a0_hn : a0.length = a0_an) (h : laws_toWornPinS a0 = some r) :
    Calls Try.prog 81 #[(.slice a0_a a0_an a0_c)] w fun e w' => ∃ v, e = .returned v ∧ (∃ (o0 : Option Nat) (c0 : Nat) (s0 : List Value) (n0 : Nat), r.length = n0 ∧ (o0 ≠ none → n0 ≤ c0 ∧ s0.length = (c0 - n0) * 3) ∧ (o0 = none → r = [] ∧ c0 = 0) ∧ v = .slice (o0.map fun b => ⟨b, 0, none⟩) n0 c0 ∧ Mem w [] [⟨o0, 124, row encGWornPin r s0⟩] w') := by
  subst a0_hn
  rw [laws_toWornPinS] at h
  refine enter (args := [(.slice a0_a a0.length a0_c)]) Try.func81 rfl Try.ntmps81 (by kernel_rfl) (L := []) (W := []) (Mem.start w) ?_
  refine jc_seq ?_
  refine jc_region ?_
  refine jo_f [(0, 0)] (by kernel_rfl) ?_
  refine jo_end (by kernel_rfl) ?_
  refine jx_then ?_
  refine jc_seq ?_
  refine jc_region ?_
  refine jo_f [(0, 0), (0, 0)] (by kernel_rfl) ?_
  obtain ⟨hg_88, h⟩ := gd h
  refine toO (by kernel_rfl) (p_mk 0 124 (a0.length : Int) 3 16 encGWornPin (⟨0, 0, 0⟩ : GWornPin) (by kernel_rfl) (by kernel_rfl) hg_88.1 (by omega) (by kernel_rfl) (fun b_1 => jkO ?_))
  refine jo_f [(0, 0)] (by kernel_rfl) ?_
  refine jo_end (by kernel_rfl) ?_
  refine jx_then ?_
  refine jc_seq ?_
  refine jc_seq ?_
  refine jc_region ?_
  refine jo_f [(0, 0)] (by kernel_rfl) ?_
  refine jo_end (by kernel_rfl) ?_
  refine jx_then ?_
  refine jc_meet (fun (j : (List GWornPin)) => match j with | xs_1 => laws_toWornPinS.k_2 xs_1 = some r ∧ (xs_1.length = (a0.length : Int).toNat)) (fun (j : (List GWornPin)) => match j with | xs_1 => [(2, [], (.slice none 0 0)), (3, [], (.slice (some ⟨b_1, 0, none⟩) ((a0.length : Int).toNat) ((a0.length : Int).toNat)))]) (fun (j : (List GWornPin)) => match j with | xs_1 => [⟨(some b_1), 124, row encGWornPin xs_1 []⟩]) ?_ ?_
  · refine jc_block ?_
    obtain ⟨t_6, ht_87, hr_79⟩ := bd h
    refine jc_loop (fun (s : (List GWornPin) × Int) (x : Unit) => match s, x with | ⟨xs_3, i_4⟩, _ => (xs_3.length = (a0.length : Int).toNat)) (fun (s : (List GWornPin) × Int) (x : Unit) => match s, x with | ⟨xs_3, i_4⟩, _ => [(0, [], (.slice a0_a a0.length a0_c)), (2, [], (.slice none 0 0)), (3, [], (.slice (some ⟨b_1, 0, none⟩) ((a0.length : Int).toNat) ((a0.length : Int).toNat))), (4, [], (.int .i64 i_4))]) (fun (s : (List GWornPin) × Int) (x : Unit) => match s, x with | ⟨xs_3, i_4⟩, _ => [⟨(some b_1), 124, row encGWornPin xs_3 []⟩]) ht_87 () List.length_replicate (by kernel_rfl) [0] (by kernel_rfl) (by kernel_rfl) ?_
    rintro ⟨xs_3, i_4⟩ _ y_80 hn_78 h
    rw [laws_toWornPinS.l_5] at h
    refine jc_seq ?_
    refine jc_seq ?_
    refine jc_region ?_
    refine jo_f [(0, 0), (0, 0), (0, 0), (0, 0)] (by kernel_rfl) ?_
    refine jo_end (by kernel_rfl) ?_
    refine jx_then ?_
    refine jc_cond (decide (i_4 < (a0.length : Int))) (by kernel_rfl) (fun hc_82 => ?_) (fun hc_82 => ?_)
    · replace h := ifT hc_82 h
      refine jc_skip ?_
      refine jx_then ?_
      refine jc_seq ?_
      refine jc_block ?_
      refine jc_region ?_
      refine jo_f [(0, 0), (0, 0), (0, 0), (0, 0)] (by kernel_rfl) ?_
      obtain ⟨x_7, hx_83, h⟩ := bd h
      refine toO (by kernel_rfl) (p_idx 0 a0_a a0.length i_4 3 (by kernel_rfl) (by kernel_rfl) (ix_some hx_83).1 (ltn hx_83 rfl) (a0_h.sp hx_83) (jkO ?_))
      refine toO (by kernel_rfl) (p_ld 0 (aB a0_a) (aO a0_a + i_4.toNat * 3) true (encGWornPin x_7) (by kernel_rfl) (by kernel_rfl) (by kernel_rfl) (fun w hm => ((hm.exRow a0_h List.not_mem_nil).at hx_83)) (jkO ?_))
      obtain ⟨t_8, ht_84, h⟩ := bd h
      refine toO (by kernel_rfl) (p_call 0 142 #[(.agg #[(.int .i8 x_7.fStep), (.int .i8 x_7.fTrack), (.int .i64 x_7.fTurns)])] (by kernel_rfl) (by kernel_rfl) (fun w hm => laws_toWornPin.calls x_7 w _ ht_84) ?_)
      rintro w v w' hm ⟨rfl, hm'⟩
      refine ⟨_, hm.app hm', jkO ?_⟩
      clear hm hm'
      obtain ⟨x_9, hx_85, h⟩ := bd h
      refine toO (by kernel_rfl) (p_idx 0 (some ⟨b_1, 0, none⟩) ((a0.length : Int).toNat) i_4 3 (by kernel_rfl) (by kernel_rfl) (ix_some hx_85).1 (ltn hx_85 hn_78) rfl (jkO ?_))
      refine toO (by kernel_rfl) (p_str 0 0 b_1 124 encGWornPin xs_3 [] i_4 t_8 3 0 [(.int .i8 t_8.fStep), (.int .i8 t_8.fTrack), (.int .i64 t_8.fTurns)] (by kernel_rfl) (by kernel_rfl) (by kernel_rfl) encGWornPin_len hx_85 (by kernel_rfl) (by kernel_rfl) (jkO ?_))
      refine jo_end (by kernel_rfl) ?_
      refine jx_inn ?_
      refine jx_then ?_
      refine jc_region ?_
      refine jo_f [(0, 0), (0, 0), (0, 0)] (by kernel_rfl) ?_
      refine jo_end (by kernel_rfl) ?_
      exact jx_back ((xs_3.set i_4.toNat t_8), (w64 (i_4 + 1))) () (Option.some.inj h).symm (List.length_set.trans hn_78) [0] (by kernel_rfl) (by kernel_rfl) (by kernel_rfl)
    · replace h := ifF hc_82 h
      refine jc_exit ?_
      refine jx_thenx ?_
      refine jx_leave xs_3 (Option.some.inj h).symm (fun e_86 => ?_)
      subst e_86
      refine jx_ine ?_
      exact jx_meet xs_3 ⟨hr_79, hn_78⟩ (by kernel_rfl) [0] (by kernel_rfl) (by kernel_rfl)
  · rintro xs_1 ⟨h, hn_66⟩
    replace h : laws_toWornPinS.k_2 xs_1 = some r := h
    rw [laws_toWornPinS.k_2] at h
    refine jx_then ?_
    refine jc_seq ?_
    refine jc_region ?_
    refine jo_f [(0, 0), (0, 0)] (by kernel_rfl) ?_
    refine jo_end (by kernel_rfl) ?_
    refine jx_then ?_
    refine jc_ret ?_
    obtain rfl := Option.some.inj h
    exact jx_ret [] (.slice (some ⟨b_1, 0, none⟩) ((a0.length : Int).toNat) ((a0.length : Int).toNat)) [] rfl (by kernel_rfl) (by kernel_rfl) (fun w hm => ⟨(some b_1), ((a0.length : Int).toNat), [], ((a0.length : Int).toNat), hn_66, (fun _ => ⟨Nat.le_refl _, by simp⟩), (fun e => nomatch e), rfl, hm.pick [0] (by kernel_rfl) (by kernel_rfl)⟩)

/-! ### laws.toInt64S -/
noncomputable def laws_toInt64S.k_2 (xs_1 : List Int) : Option ((List Int)) := some xs_1
noncomputable def laws_toInt64S.l_5 (a0 : List Int) : ((List Int) × Int) → Option (((List Int) × Int) ⊕ ((List Int)))
  | (xs_3, i_4) => (if (decide (i_4 < (a0.length : Int))) = true then (ix a0 i_4).bind fun x_7 => (ix xs_3 i_4).bind fun x_8 => some (.inl ((xs_3.set i_4.toNat x_7), (w64 (i_4 + 1)))) else some (.inr xs_3))
noncomputable def laws_toInt64S (a0 : List Int) : Option ((List Int)) := (if 0 ≤ (a0.length : Int) ∧ (a0.length : Int) ≤ 17592186044416 then (loop (laws_toInt64S.l_5 a0) ((List.replicate (a0.length : Int).toNat 0), 0)).bind fun t_6 => laws_toInt64S.k_2 t_6 else none)
set_option maxRecDepth 100000 in
theorem laws_toInt64S.calls (a0 : List Int) (w : World) (r : (List Int)) (a0_a : Option Addr) (a0_an : Nat) (a0_c : Nat) (a0_h : Rw w a0_a 1 encI64 a0) (a0_hn : a0.length = a0_an) (h : laws_toInt64S a0 = some r) :
    Calls Try.prog 82 #[(.slice a0_a a0_an a0_c)] w fun e w' => ∃ v, e = .returned v ∧ (∃ (o0 : Option Nat) (c0 : Nat) (s0 : List Value) (n0 : Nat), r.length = n0 ∧ (o0 ≠ none → n0 ≤ c0 ∧ s0.length = (c0 - n0) * 1) ∧ (o0 = none → r = [] ∧ c0 = 0) ∧ v = .slice (o0.map fun b => ⟨b, 0, none⟩) n0 c0 ∧ Mem w [] [⟨o0, 2, row encI64 r s0⟩] w') := by
  subst a0_hn
  rw [laws_toInt64S] at h
  refine enter (args := [(.slice a0_a a0.length a0_c)]) Try.func82 rfl Try.ntmps82 (by kernel_rfl) (L := []) (W := []) (Mem.start w) ?_
  refine jc_seq ?_
  refine jc_region ?_
  refine jo_f [(0, 0)] (by kernel_rfl) ?_
  refine jo_end (by kernel_rfl) ?_
  refine jx_then ?_
  refine jc_seq ?_
  refine jc_region ?_
  refine jo_f [(0, 0), (0, 0)] (by kernel_rfl) ?_
  obtain ⟨hg_76, h⟩ := gd h
  refine toO (by kernel_rfl) (p_mk 0 2 (a0.length : Int) 1 8 encI64 0 (by kernel_rfl) (by kernel_rfl) hg_76.1 (by omega) (by kernel_rfl) (fun b_1 => jkO ?_))
  refine jo_f [(0, 0)] (by kernel_rfl) ?_
  refine jo_end (by kernel_rfl) ?_
  refine jx_then ?_
  refine jc_seq ?_
  refine jc_seq ?_
  refine jc_region ?_
  refine jo_f [(0, 0)] (by kernel_rfl) ?_
  refine jo_end (by kernel_rfl) ?_
  refine jx_then ?_
  refine jc_meet (fun (j : (List Int)) => match j with | xs_1 => laws_toInt64S.k_2 xs_1 = some r ∧ (xs_1.length = (a0.length : Int).toNat)) (fun (j : (List Int)) => match j with | xs_1 => [(2, [], (.slice none 0 0)), (3, [], (.slice (some ⟨b_1, 0, none⟩) ((a0.length : Int).toNat) ((a0.length : Int).toNat)))]) (fun (j : (List Int)) => match j with | xs_1 => [⟨(some b_1), 2, row encI64 xs_1 []⟩]) ?_ ?_
  · refine jc_block ?_
    obtain ⟨t_6, ht_75, hr_68⟩ := bd h
    refine jc_loop (fun (s : (List Int) × Int) (x : Unit) => match s, x with | ⟨xs_3, i_4⟩, _ => (xs_3.length = (a0.length : Int).toNat)) (fun (s : (List Int) × Int) (x : Unit) => match s, x with | ⟨xs_3, i_4⟩, _ => [(0, [], (.slice a0_a a0.length a0_c)), (2, [], (.slice none 0 0)), (3, [], (.slice (some ⟨b_1, 0, none⟩) ((a0.length : Int).toNat) ((a0.length : Int).toNat))), (4, [], (.int .i64 i_4))]) (fun (s : (List Int) × Int) (x : Unit) => match s, x with | ⟨xs_3, i_4⟩, _ => [⟨(some b_1), 2, row encI64 xs_3 []⟩]) ht_75 () List.length_replicate (by kernel_rfl) [0] (by kernel_rfl) (by kernel_rfl) ?_
    rintro ⟨xs_3, i_4⟩ _ y_69 hn_67 h
    rw [laws_toInt64S.l_5] at h
    refine jc_seq ?_
    refine jc_seq ?_
    refine jc_region ?_
    refine jo_f [(0, 0), (0, 0), (0, 0), (0, 0)] (by kernel_rfl) ?_
    refine jo_end (by kernel_rfl) ?_
    refine jx_then ?_
    refine jc_cond (decide (i_4 < (a0.length : Int))) (by kernel_rfl) (fun hc_71 => ?_) (fun hc_71 => ?_)
    · replace h := ifT hc_71 h
      refine jc_skip ?_
      refine jx_then ?_
      refine jc_seq ?_
      refine jc_block ?_
      refine jc_region ?_
      refine jo_f [(0, 0), (0, 0), (0, 0), (0, 0)] (by kernel_rfl) ?_
      obtain ⟨x_7, hx_72, h⟩ := bd h
      refine toO (by kernel_rfl) (p_idx 0 a0_a a0.length i_4 1 (by kernel_rfl) (by kernel_rfl) (ix_some hx_72).1 (ltn hx_72 rfl) (a0_h.sp hx_72) (jkO ?_))
      refine toO (by kernel_rfl) (p_ld 0 (aB a0_a) (aO a0_a + i_4.toNat * 1) false (encI64 x_7) (by kernel_rfl) (by kernel_rfl) (by kernel_rfl) (fun w hm => ((hm.exRow a0_h List.not_mem_nil).at hx_72)) (jkO ?_))
      obtain ⟨x_8, hx_73, h⟩ := bd h
      refine toO (by kernel_rfl) (p_idx 0 (some ⟨b_1, 0, none⟩) ((a0.length : Int).toNat) i_4 1 (by kernel_rfl) (by kernel_rfl) (ix_some hx_73).1 (ltn hx_73 hn_67) rfl (jkO ?_))
      refine toO (by kernel_rfl) (p_str 0 0 b_1 2 encI64 xs_3 [] i_4 x_7 1 0 [(.int .i64 x_7)] (by kernel_rfl) (by kernel_rfl) (by kernel_rfl) encI64_len hx_73 (by kernel_rfl) (by kernel_rfl) (jkO ?_))
      refine jo_end (by kernel_rfl) ?_
      refine jx_inn ?_
      refine jx_then ?_
      refine jc_region ?_
      refine jo_f [(0, 0), (0, 0), (0, 0)] (by kernel_rfl) ?_
      refine jo_end (by kernel_rfl) ?_
      exact jx_back ((xs_3.set i_4.toNat x_7), (w64 (i_4 + 1))) () (Option.some.inj h).symm (List.length_set.trans hn_67) [0] (by kernel_rfl) (by kernel_rfl) (by kernel_rfl)
    · replace h := ifF hc_71 h
      refine jc_exit ?_
      refine jx_thenx ?_
      refine jx_leave xs_3 (Option.some.inj h).symm (fun e_74 => ?_)
      subst e_74
      refine jx_ine ?_
      exact jx_meet xs_3 ⟨hr_68, hn_67⟩ (by kernel_rfl) [0] (by kernel_rfl) (by kernel_rfl)
  · rintro xs_1 ⟨h, hn_57⟩
    replace h : laws_toInt64S.k_2 xs_1 = some r := h
    rw [laws_toInt64S.k_2] at h
    refine jx_then ?_
    refine jc_seq ?_
    refine jc_region ?_
    refine jo_f [(0, 0), (0, 0)] (by kernel_rfl) ?_
    refine jo_end (by kernel_rfl) ?_
    refine jx_then ?_
    refine jc_ret ?_
    obtain rfl := Option.some.inj h
    exact jx_ret [] (.slice (some ⟨b_1, 0, none⟩) ((a0.length : Int).toNat) ((a0.length : Int).toNat)) [] rfl (by kernel_rfl) (by kernel_rfl) (fun w hm => ⟨(some b_1), ((a0.length : Int).toNat), [], ((a0.length : Int).toNat), hn_57, (fun _ => ⟨Nat.le_refl _, by simp⟩), (fun e => nomatch e), rfl, hm.pick [0] (by kernel_rfl) (by kernel_rfl)⟩)

/-! ### laws.toWear -/
noncomputable def laws_toWear (a0 : GWear) : Option (GWear) := (laws_toWornPinS a0.fPins).bind fun t_1 => (laws_toInt64S a0.fStrokes).bind fun t_2 => some (⟨t_1, t_2⟩ : GWear)
set_option maxRecDepth 100000 in
theorem laws_toWear.calls (a0 : GWear) (w : World) (r : GWear) (a0_fPins_a : Option Addr) (a0_fPins_an : Nat) (a0_fPins_c : Nat) (a0_fPins_h : Rw w a0_fPins_a 3 encGWornPin a0.fPins) (a0_fPins_hn : a0.fPins.length = a0_fPins_an) (a0_fStrokes_a : Option Addr) (a0_fStrokes_an : Nat) (a0_fStrokes_c : Nat) (a0_fStrokes_h : Rw w a0_fStrokes_a 1 encI64 a0.fStrokes) (a0_fStrokes_hn : a0.fStrokes.length = a0_fStrokes_an) (h : laws_toWear a0 = some r) :
    Calls Try.prog 27 #[(.agg #[(.slice a0_fPins_a a0_fPins_an a0_fPins_c), (.slice a0_fStrokes_a a0_fStrokes_an a0_fStrokes_c)])] w fun e w' => ∃ v, e = .returned v ∧ (∃ (o0 : Option Nat) (c0 : Nat) (s0 : List Value) (n0 : Nat), r.fPins.length = n0 ∧ (o0 ≠ none → n0 ≤ c0 ∧ s0.length = (c0 - n0) * 3) ∧ (o0 = none → r.fPins = [] ∧ c0 = 0) ∧ ∃ (o1 : Option Nat) (c1 : Nat) (s1 : List Value) (n1 : Nat), r.fStrokes.length = n1 ∧ (o1 ≠ none → n1 ≤ c1 ∧ s1.length = (c1 - n1) * 1) ∧ (o1 = none → r.fStrokes = [] ∧ c1 = 0) ∧ v = .agg #[.slice (o0.map fun b => ⟨b, 0, none⟩) n0 c0, .slice (o1.map fun b => ⟨b, 0, none⟩) n1 c1] ∧ Mem w [] [⟨o0, 124, row encGWornPin r.fPins s0⟩, ⟨o1, 2, row encI64 r.fStrokes s1⟩] w') := by
  subst a0_fPins_hn a0_fStrokes_hn
  rw [laws_toWear] at h
  refine enter (args := [(.agg #[(.slice a0_fPins_a a0.fPins.length a0_fPins_c), (.slice a0_fStrokes_a a0.fStrokes.length a0_fStrokes_c)])]) Try.func27 rfl Try.ntmps27 (by kernel_rfl) (L := []) (W := []) (Mem.start w) ?_
  refine jc_seq ?_
  refine jc_region ?_
  refine toO (by kernel_rfl) (p_a 0 [0] (by kernel_rfl) (fun b => by kernel_rfl) (fun b_1 => jkO ?_))
  refine toO (by kernel_rfl) (p_a 0 [0] (by kernel_rfl) (fun b => by kernel_rfl) (fun b_2 => jkO ?_))
  refine jo_end (by kernel_rfl) ?_
  refine jx_then ?_
  refine jc_seq ?_
  refine jc_region ?_
  refine toO (by kernel_rfl) (p_a 0 [0] (by kernel_rfl) (fun b => by kernel_rfl) (fun b_3 => jkO ?_))
  refine jo_end (by kernel_rfl) ?_
  refine jx_then ?_
  refine jc_seq ?_
  refine jc_region ?_
  refine jo_f [(0, 0), (0, 0)] (by kernel_rfl) ?_
  obtain ⟨t_1, ht_4, h⟩ := bd h
  refine toO (by kernel_rfl) (p_call 0 81 #[(.slice a0_fPins_a a0.fPins.length a0_fPins_c)] (by kernel_rfl) (by kernel_rfl) (fun w hm => laws_toWornPinS.calls a0.fPins w _ a0_fPins_a a0.fPins.length a0_fPins_c (hm.exRow a0_fPins_h List.not_mem_nil) rfl ht_4) ?_)
  rintro w v w' hm ⟨o_5, cap_6, sp_7, _, rfl, hs_8, ho_9, rfl, hm'⟩
  refine ⟨_, hm.app hm', jkO ?_⟩
  clear hm hm'
  refine jo_f [(0, 0)] (by kernel_rfl) ?_
  refine toO (by kernel_rfl) (p_s 0 [2] (by kernel_rfl) (by kernel_rfl) (jkO ?_))
  refine jo_end (by kernel_rfl) ?_
  refine jx_then ?_
  refine jc_seq ?_
  refine jc_region ?_
  refine jo_f [(0, 0), (0, 0)] (by kernel_rfl) ?_
  obtain ⟨t_2, ht_10, h⟩ := bd h
  refine toO (by kernel_rfl) (p_call 0 82 #[(.slice a0_fStrokes_a a0.fStrokes.length a0_fStrokes_c)] (by kernel_rfl) (by kernel_rfl) (fun w hm => laws_toInt64S.calls a0.fStrokes w _ a0_fStrokes_a a0.fStrokes.length a0_fStrokes_c (hm.exRow a0_fStrokes_h List.not_mem_nil) rfl ht_10) ?_)
  rintro w v w' hm ⟨o_11, cap_12, sp_13, _, rfl, hs_14, ho_15, rfl, hm'⟩
  refine ⟨_, hm.app hm', jkO ?_⟩
  clear hm hm'
  refine jo_f [(0, 0)] (by kernel_rfl) ?_
  refine toO (by kernel_rfl) (p_s 0 [2] (by kernel_rfl) (by kernel_rfl) (jkO ?_))
  refine jo_end (by kernel_rfl) ?_
  refine jx_then ?_
  refine jc_seq ?_
  refine jc_region ?_
  refine jo_f [(2, 0)] (by kernel_rfl) ?_
  refine toO (by kernel_rfl) (p_s 0 [1] (by kernel_rfl) (by kernel_rfl) (jkO ?_))
  refine jo_end (by kernel_rfl) ?_
  refine jx_then ?_
  refine jc_ret ?_
  obtain rfl := Option.some.inj h
  exact jx_ret [1] (.agg #[(.slice (o_5.map fun b => ⟨b, 0, none⟩) t_1.length cap_6), (.slice (o_11.map fun b => ⟨b, 0, none⟩) t_2.length cap_12)]) [(b_2, b_2), (b_2, b_2)] rfl (by kernel_rfl) (by kernel_rfl) (fun w hm => ⟨o_5, cap_6, sp_7, t_1.length, rfl, hs_8, ho_9, o_11, cap_12, sp_13, t_2.length, rfl, hs_14, ho_15, rfl, hm.pick [3, 4] (by kernel_rfl) (by kernel_rfl)⟩)

/-! ### spec.l06Place -/
noncomputable def spec_l06Place (f0 : GFrame) (step1 : Int) (track2 : Int) : Option (Bool) := (spec_l00In step1 0 (w64 ((w64 f0.fSteps) - 1))).bind fun t_1 => (if t_1 = true then (spec_l00In track2 0 (w64 ((f0.fHammers.length : Int) - 1))).bind fun t_2 => some t_2 else some false)
set_option maxRecDepth 100000 in
theorem spec_l06Place.calls (f0 : GFrame) (step1 : Int) (track2 : Int) (w : World) (r : Bool) (f0_fHammers_a : Option Addr) (f0_fHammers_an : Nat) (f0_fHammers_c : Nat) (f0_fHammers_h : Rw w f0_fHammers_a 2 encGHammer f0.fHammers) (f0_fHammers_hn : f0.fHammers.length = f0_fHammers_an) (f0_b : Nat) (hm0 : Mem w (bs [some f0_b]) [⟨some f0_b, 35, [(.int .i16 f0.fSteps), (.slice f0_fHammers_a f0_fHammers_an f0_fHammers_c)]⟩] w) (f0_fHammers_ha : f0.fHammers ≠ [] → aB f0_fHammers_a ∉ bs [some f0_b]) (h : spec_l06Place f0 step1 track2 = some r) :
    Calls Try.prog 140 #[(.pointer (some ⟨f0_b, 0, none⟩)), (.int .i64 step1), (.int .i64 track2)] w fun e w' => ∃ v, e = .returned v ∧ (v = (.bool r) ∧ Mem w (bs [some f0_b]) [⟨some f0_b, 35, [(.int .i16 f0.fSteps), (.slice f0_fHammers_a f0_fHammers_an f0_fHammers_c)]⟩] w') := by
  subst f0_fHammers_hn
  rw [spec_l06Place] at h
  refine enter (args := [(.pointer (some ⟨f0_b, 0, none⟩)), (.int .i64 step1), (.int .i64 track2)]) Try.func140 rfl Try.ntmps140 (by kernel_rfl) (L := [⟨some f0_b, 35, [(.int .i16 f0.fSteps), (.slice f0_fHammers_a f0.fHammers.length f0_fHammers_c)]⟩]) (W := bs [some f0_b]) hm0 ?_
  refine jc_seq ?_
  refine jc_region ?_
  refine jo_f [(0, 0)] (by kernel_rfl) ?_
  refine jo_end (by kernel_rfl) ?_
  refine jx_then ?_
  refine jc_seq ?_
  refine jc_region ?_
  refine jo_f [(0, 0), (0, 0), (0, 0), (0, 0), (0, 0), (0, 0), (0, 0)] (by kernel_rfl) ?_
  obtain ⟨t_1, ht_1, h⟩ := bd h
  refine toO (by kernel_rfl) (p_call 0 104 #[(.int .i64 step1), (.int .i64 0), (.int .i64 (w64 ((w64 f0.fSteps) - 1)))] (by kernel_rfl) (by kernel_rfl) (fun w hm => spec_l00In.calls step1 0 (w64 ((w64 f0.fSteps) - 1)) w _ ht_1) ?_)
  rintro w v w' hm ⟨rfl, hm'⟩
  refine ⟨_, hm.app hm', jkO ?_⟩
  clear hm hm'
  refine jo_f [(0, 0), (0, 1), (0, 1), (0, 1), (0, 1), (0, 1), (0, 1), (0, 1)] (by kernel_rfl) ?_
  refine jo_split 15 t_1 (by kernel_rfl) (fun hc_2 => ?_) (fun hc_2 => ?_)
  · replace h := ifT hc_2 h
    obtain ⟨t_2, ht_3, h⟩ := bd h
    refine toO (by kernel_rfl) (p_call 2 104 #[(.int .i64 track2), (.int .i64 0), (.int .i64 (w64 ((f0.fHammers.length : Int) - 1)))] (by kernel_rfl) (by kernel_rfl) (fun w hm => spec_l00In.calls track2 0 (w64 ((f0.fHammers.length : Int) - 1)) w _ ht_3) ?_)
    rintro w v w' hm ⟨rfl, hm'⟩
    refine ⟨_, hm.app hm', jkO ?_⟩
    clear hm hm'
    refine jo_f [(0, 4), (0, 0)] (by kernel_rfl) ?_
    refine jo_end (by kernel_rfl) ?_
    refine jx_then ?_
    refine jc_ret ?_
    obtain rfl := Option.some.inj h
    exact jx_ret [] (.bool t_2) [] rfl (by kernel_rfl) (by kernel_rfl) (fun w hm => ⟨rfl, hm.pick [0] (by kernel_rfl) (by kernel_rfl)⟩)
  · replace h := ifF hc_2 h
    refine jo_f [(0, 3), (0, 5), (0, 0)] (by kernel_rfl) ?_
    refine jo_end (by kernel_rfl) ?_
    refine jx_then ?_
    refine jc_ret ?_
    obtain rfl := Option.some.inj h
    exact jx_ret [] (.bool false) [] rfl (by kernel_rfl) (by kernel_rfl) (fun w hm => ⟨rfl, hm.pick [0] (by kernel_rfl) (by kernel_rfl)⟩)

/-! ### spec.l06Turns -/
noncomputable def spec_l06Turns (n0 : Int) : Option (Bool) := (spec_l00In n0 0 1000000).bind fun t_1 => some t_1
set_option maxRecDepth 100000 in
theorem spec_l06Turns.calls (n0 : Int) (w : World) (r : Bool) (h : spec_l06Turns n0 = some r) :
    Calls Try.prog 129 #[(.int .i64 n0)] w fun e w' => ∃ v, e = .returned v ∧ (v = (.bool r) ∧ Mem w [] [] w') := by
  rw [spec_l06Turns] at h
  refine enter (args := [(.int .i64 n0)]) Try.func129 rfl Try.ntmps129 (by kernel_rfl) (L := []) (W := []) (Mem.start w) ?_
  refine jc_seq ?_
  refine jc_region ?_
  refine jo_f [(0, 0)] (by kernel_rfl) ?_
  refine jo_end (by kernel_rfl) ?_
  refine jx_then ?_
  refine jc_seq ?_
  refine jc_region ?_
  refine jo_f [(0, 0)] (by kernel_rfl) ?_
  obtain ⟨t_1, ht_1, h⟩ := bd h
  refine toO (by kernel_rfl) (p_call 0 104 #[(.int .i64 n0), (.int .i64 0), (.int .i64 1000000)] (by kernel_rfl) (by kernel_rfl) (fun w hm => spec_l00In.calls n0 0 1000000 w _ ht_1) ?_)
  rintro w v w' hm ⟨rfl, hm'⟩
  refine ⟨_, hm.app hm', jkO ?_⟩
  clear hm hm'
  refine jo_f [(0, 0)] (by kernel_rfl) ?_
  refine jo_end (by kernel_rfl) ?_
  refine jx_then ?_
  refine jc_ret ?_
  obtain rfl := Option.some.inj h
  exact jx_ret [] (.bool t_1) [] rfl (by kernel_rfl) (by kernel_rfl) (fun w hm => ⟨rfl, hm.pick [] (by kernel_rfl) (by kernel_rfl)⟩)

/-! ### spec.l06Before -/
noncomputable def spec_l06Before (a0 : GWornPin) (b1 : GWornPin) : Option (Bool) := (if (decide (a0.fStep < b1.fStep)) = true then some true else some ((a0.fStep == b1.fStep) && (decide (a0.fTrack < b1.fTrack))))
set_option maxRecDepth 100000 in
theorem spec_l06Before.calls (a0 : GWornPin) (b1 : GWornPin) (w : World) (r : Bool) (h : spec_l06Before a0 b1 = some r) :
    Calls Try.prog 141 #[(.agg #[(.int .i8 a0.fStep), (.int .i8 a0.fTrack), (.int .i64 a0.fTurns)]), (.agg #[(.int .i8 b1.fStep), (.int .i8 b1.fTrack), (.int .i64 b1.fTurns)])] w fun e w' => ∃ v, e = .returned v ∧ (v = (.bool r) ∧ Mem w [] [] w') := by
  rw [spec_l06Before] at h
  refine enter (args := [(.agg #[(.int .i8 a0.fStep), (.int .i8 a0.fTrack), (.int .i64 a0.fTurns)]), (.agg #[(.int .i8 b1.fStep), (.int .i8 b1.fTrack), (.int .i64 b1.fTurns)])]) Try.func141 rfl Try.ntmps141 (by kernel_rfl) (L := []) (W := []) (Mem.start w) ?_
  refine jc_seq ?_
  refine jc_region ?_
  refine toO (by kernel_rfl) (p_a 0 [0] (by kernel_rfl) (fun b => by kernel_rfl) (fun b_1 => jkO ?_))
  refine toO (by kernel_rfl) (p_a 0 [0] (by kernel_rfl) (fun b => by kernel_rfl) (fun b_2 => jkO ?_))
  refine jo_f [(0, 0)] (by kernel_rfl) ?_
  refine jo_end (by kernel_rfl) ?_
  refine jx_then ?_
  refine jc_seq ?_
  refine jc_region ?_
  refine jo_f [(0, 0), (0, 0), (0, 0), (1, 0), (0, 0), (0, 0), (0, 1), (0, 1), (0, 1), (1, 1), (0, 1)] (by kernel_rfl) ?_
  refine jo_split 10 (decide (a0.fStep < b1.fStep)) (by kernel_rfl) (fun hc_3 => ?_) (fun hc_3 => ?_)
  · replace h := ifT hc_3 h
    refine jo_f [(0, 3), (0, 3), (0, 3), (0, 3), (0, 3), (0, 3), (0, 3), (0, 4), (0, 0)] (by kernel_rfl) ?_
    refine jo_end (by kernel_rfl) ?_
    refine jx_then ?_
    refine jc_ret ?_
    obtain rfl := Option.some.inj h
    exact jx_ret [] (.bool true) [] rfl (by kernel_rfl) (by kernel_rfl) (fun w hm => ⟨rfl, hm.pick [] (by kernel_rfl) (by kernel_rfl)⟩)
  · replace h := ifF hc_3 h
    refine jo_f [(0, 2), (0, 1), (0, 1), (0, 1), (1, 1), (0, 1), (0, 2), (0, 5), (0, 0)] (by kernel_rfl) ?_
    refine jo_end (by kernel_rfl) ?_
    refine jx_then ?_
    refine jc_ret ?_
    obtain rfl := Option.some.inj h
    exact jx_ret [] (.bool ((a0.fStep == b1.fStep) && (decide (a0.fTrack < b1.fTrack)))) [] rfl (by kernel_rfl) (by kernel_rfl) (fun w hm => ⟨rfl, hm.pick [] (by kernel_rfl) (by kernel_rfl)⟩)
end Go.Proofs.Ytdnkjgmncfhejaa
