/- Each function of the program that the laws reach: a plain function, and that the call comes to its answer if the plain function has one. Printed by a program. -/
import Derived.Test.YtojommdkbolmgaaProg
import Derived.Test.YtojommdkbolmgaaEng
namespace Go.Proofs.Ytojommdkbolmgaa
open Eng
set_option linter.unusedVariables false

structure GLives where
  fPin : Int
  fHammer : Int
  deriving DecidableEq

structure GCosts where
  fAway : Int
  fOctave : Int
  fStep : Int
  deriving DecidableEq

structure GChoice where
  fAway : Bool
  fLate : Int
  fOctave : Int
  fTrack : Int
  deriving DecidableEq

structure GNote where
  fAt : Int
  fPitch : Int
  deriving DecidableEq

structure GWornPin where
  fStep : Int
  fTrack : Int
  fTurns : Int
  deriving DecidableEq

structure GWear where
  fPins : List GWornPin
  fStrokes : List Int
  deriving DecidableEq

def encGWornPin (x : GWornPin) : List Value := [(.int .i8 x.fStep), (.int .i8 x.fTrack), (.int .i64 x.fTurns)]
theorem encGWornPin_len (x : GWornPin) : (encGWornPin x).length = 3 := rfl
theorem encGWornPin_cell (x : GWornPin) : (encGWornPin x).all isCell = true := rfl

def encI64 (x : Int) : List Value := [(.int .i64 x)]
theorem encI64_len (x : Int) : (encI64 x).length = 1 := rfl
theorem encI64_cell (x : Int) : (encI64 x).all isCell = true := rfl

def encGChoice (x : GChoice) : List Value := [(.bool x.fAway), (.int .i8 x.fLate), (.int .i8 x.fOctave), (.int .i8 x.fTrack)]
theorem encGChoice_len (x : GChoice) : (encGChoice x).length = 4 := rfl
theorem encGChoice_cell (x : GChoice) : (encGChoice x).all isCell = true := rfl

/-! ### laws.toLives -/
noncomputable def laws_toLives (a0 : GLives) : Option (GLives) := some a0
set_option maxRecDepth 100000 in
theorem laws_toLives.calls (a0 : GLives) (w : World) (r : GLives) (h : laws_toLives a0 = some r) :
    Calls Try.prog 10 #[(.agg #[(.int .i64 a0.fPin), (.int .i64 a0.fHammer)])] w fun e w' => ∃ v, e = .returned v ∧ (v = .agg #[(.int .i64 r.fPin), (.int .i64 r.fHammer)] ∧ Mem w [] [] w') := by
  rw [laws_toLives] at h
  refine enter (args := [(.agg #[(.int .i64 a0.fPin), (.int .i64 a0.fHammer)])]) Try.func10 rfl Try.ntmps10 (by kernel_rfl) (L := []) (W := []) (Mem.start w) ?_
  refine jc_seq ?_
  refine jc_region ?_
  refine toO (by kernel_rfl) (p_a 0 [0] (by kernel_rfl) (fun b => by kernel_rfl) (fun b_1 => jkO ?_))
  refine toO (by kernel_rfl) (p_a 0 [0] (by kernel_rfl) (fun b => by kernel_rfl) (fun b_2 => jkO ?_))
  refine jo_end (by kernel_rfl) ?_
  refine jx_then ?_
  refine jc_seq ?_
  refine jc_region ?_
  refine toO (by kernel_rfl) (p_a 0 [0] (by kernel_rfl) (fun b => by kernel_rfl) (fun b_3 => jkO ?_))
  refine jo_end (by kernel_rfl) ?_
  refine jx_then ?_
  refine jc_seq ?_
  refine jc_region ?_
  refine jo_f [(0, 0), (0, 0), (0, 0)] (by kernel_rfl) ?_
  refine toO (by kernel_rfl) (p_s 0 [2] (by kernel_rfl) (by kernel_rfl) (jkO ?_))
  refine jo_end (by kernel_rfl) ?_
  refine jx_then ?_
  refine jc_seq ?_
  refine jc_region ?_
  refine jo_f [(0, 0), (0, 0), (0, 0)] (by kernel_rfl) ?_
  refine toO (by kernel_rfl) (p_s 0 [2] (by kernel_rfl) (by kernel_rfl) (jkO ?_))
  refine jo_end (by kernel_rfl) ?_
  refine jx_then ?_
  refine jc_seq ?_
  refine jc_region ?_
  refine jo_f [(2, 0)] (by kernel_rfl) ?_
  refine toO (by kernel_rfl) (p_s 0 [1] (by kernel_rfl) (by kernel_rfl) (jkO ?_))
  refine jo_end (by kernel_rfl) ?_
  refine jx_then ?_
  refine jc_ret ?_
  obtain rfl := Option.some.inj h
  exact jx_ret [1] (.agg #[(.int .i64 a0.fPin), (.int .i64 a0.fHammer)]) [(b_2, b_2), (b_2, b_2)] rfl (by kernel_rfl) (by kernel_rfl) (fun w hm => ⟨rfl, hm.pick [] (by kernel_rfl) (by kernel_rfl)⟩)

/-! ### spec.l00In -/
noncomputable def spec_l00In (n0 : Int) (low1 : Int) (high2 : Int) : Option (Bool) := some ((decide (n0 ≥ low1)) && (decide (n0 ≤ high2)))
set_option maxRecDepth 100000 in
theorem spec_l00In.calls (n0 : Int) (low1 : Int) (high2 : Int) (w : World) (r : Bool) (h : spec_l00In n0 low1 high2 = some r) :
    Calls Try.prog 54 #[(.int .i64 n0), (.int .i64 low1), (.int .i64 high2)] w fun e w' => ∃ v, e = .returned v ∧ (v = (.bool r) ∧ Mem w [] [] w') := by
  rw [spec_l00In] at h
  refine enter (args := [(.int .i64 n0), (.int .i64 low1), (.int .i64 high2)]) Try.func54 rfl Try.ntmps54 (by kernel_rfl) (L := []) (W := []) (Mem.start w) ?_
  refine jc_seq ?_
  refine jc_region ?_
  refine jo_f [(0, 0)] (by kernel_rfl) ?_
  refine jo_end (by kernel_rfl) ?_
  refine jx_then ?_
  refine jc_seq ?_
  refine jc_region ?_
  refine jo_f [(0, 0), (0, 0), (0, 0), (0, 0), (0, 1), (0, 1), (0, 1), (0, 0), (0, 0)] (by kernel_rfl) ?_
  refine jo_end (by kernel_rfl) ?_
  refine jx_then ?_
  refine jc_ret ?_
  obtain rfl := Option.some.inj h
  exact jx_ret [] (.bool ((decide (n0 ≥ low1)) && (decide (n0 ≤ high2)))) [] rfl (by kernel_rfl) (by kernel_rfl) (fun w hm => ⟨rfl, hm.pick [] (by kernel_rfl) (by kernel_rfl)⟩)

/-! ### spec.l06Lives -/
noncomputable def spec_l06Lives (v0 : GLives) : Option (Bool) := (spec_l00In v0.fPin 1 1000000).bind fun t_1 => (if t_1 = true then (spec_l00In v0.fHammer 1 1000000).bind fun t_2 => some t_2 else some false)
set_option maxRecDepth 100000 in
theorem spec_l06Lives.calls (v0 : GLives) (w : World) (r : Bool) (h : spec_l06Lives v0 = some r) :
    Calls Try.prog 32 #[(.agg #[(.int .i64 v0.fPin), (.int .i64 v0.fHammer)])] w fun e w' => ∃ v, e = .returned v ∧ (v = (.bool r) ∧ Mem w [] [] w') := by
  rw [spec_l06Lives] at h
  refine enter (args := [(.agg #[(.int .i64 v0.fPin), (.int .i64 v0.fHammer)])]) Try.func32 rfl Try.ntmps32 (by kernel_rfl) (L := []) (W := []) (Mem.start w) ?_
  refine jc_seq ?_
  refine jc_region ?_
  refine toO (by kernel_rfl) (p_a 0 [0] (by kernel_rfl) (fun b => by kernel_rfl) (fun b_1 => jkO ?_))
  refine jo_f [(0, 0)] (by kernel_rfl) ?_
  refine jo_end (by kernel_rfl) ?_
  refine jx_then ?_
  refine jc_seq ?_
  refine jc_region ?_
  refine jo_f [(0, 0), (0, 0)] (by kernel_rfl) ?_
  obtain ⟨t_1, ht_2, h⟩ := bd h
  refine toO (by kernel_rfl) (p_call 0 54 #[(.int .i64 v0.fPin), (.int .i64 1), (.int .i64 1000000)] (by kernel_rfl) (by kernel_rfl) (fun w hm => spec_l00In.calls v0.fPin 1 1000000 w _ ht_2) ?_)
  rintro w v w' hm ⟨rfl, hm'⟩
  refine ⟨_, hm.app hm', jkO ?_⟩
  clear hm hm'
  refine jo_f [(0, 0), (0, 1), (0, 1)] (by kernel_rfl) ?_
  refine jo_split 6 t_1 (by kernel_rfl) (fun hc_3 => ?_) (fun hc_3 => ?_)
  · replace h := ifT hc_3 h
    obtain ⟨t_2, ht_4, h⟩ := bd h
    refine toO (by kernel_rfl) (p_call 2 54 #[(.int .i64 v0.fHammer), (.int .i64 1), (.int .i64 1000000)] (by kernel_rfl) (by kernel_rfl) (fun w hm => spec_l00In.calls v0.fHammer 1 1000000 w _ ht_4) ?_)
    rintro w v w' hm ⟨rfl, hm'⟩
    refine ⟨_, hm.app hm', jkO ?_⟩
    clear hm hm'
    refine jo_f [(0, 4), (0, 0)] (by kernel_rfl) ?_
    refine jo_end (by kernel_rfl) ?_
    refine jx_then ?_
    refine jc_ret ?_
    obtain rfl := Option.some.inj h
    exact jx_ret [] (.bool t_2) [] rfl (by kernel_rfl) (by kernel_rfl) (fun w hm => ⟨rfl, hm.pick [] (by kernel_rfl) (by kernel_rfl)⟩)
  · replace h := ifF hc_3 h
    refine jo_f [(0, 3), (0, 5), (0, 0)] (by kernel_rfl) ?_
    refine jo_end (by kernel_rfl) ?_
    refine jx_then ?_
    refine jc_ret ?_
    obtain rfl := Option.some.inj h
    exact jx_ret [] (.bool false) [] rfl (by kernel_rfl) (by kernel_rfl) (fun w hm => ⟨rfl, hm.pick [] (by kernel_rfl) (by kernel_rfl)⟩)

/-! ### spec.ValidLives -/
noncomputable def spec_ValidLives (v0 : GLives) : Option (Bool) := (spec_l06Lives v0).bind fun t_1 => some t_1
set_option maxRecDepth 100000 in
theorem spec_ValidLives.calls (v0 : GLives) (w : World) (r : Bool) (h : spec_ValidLives v0 = some r) :
    Calls Try.prog 9 #[(.agg #[(.int .i64 v0.fPin), (.int .i64 v0.fHammer)])] w fun e w' => ∃ v, e = .returned v ∧ (v = (.bool r) ∧ Mem w [] [] w') := by
  rw [spec_ValidLives] at h
  refine enter (args := [(.agg #[(.int .i64 v0.fPin), (.int .i64 v0.fHammer)])]) Try.func9 rfl Try.ntmps9 (by kernel_rfl) (L := []) (W := []) (Mem.start w) ?_
  refine jc_seq ?_
  refine jc_region ?_
  refine toO (by kernel_rfl) (p_a 0 [0] (by kernel_rfl) (fun b => by kernel_rfl) (fun b_1 => jkO ?_))
  refine jo_f [(0, 0)] (by kernel_rfl) ?_
  refine jo_end (by kernel_rfl) ?_
  refine jx_then ?_
  refine jc_seq ?_
  refine jc_region ?_
  refine jo_f [(0, 0)] (by kernel_rfl) ?_
  obtain ⟨t_1, ht_2, h⟩ := bd h
  refine toO (by kernel_rfl) (p_call 0 32 #[(.agg #[(.int .i64 v0.fPin), (.int .i64 v0.fHammer)])] (by kernel_rfl) (by kernel_rfl) (fun w hm => spec_l06Lives.calls v0 w _ ht_2) ?_)
  rintro w v w' hm ⟨rfl, hm'⟩
  refine ⟨_, hm.app hm', jkO ?_⟩
  clear hm hm'
  refine jo_f [(0, 0)] (by kernel_rfl) ?_
  refine jo_end (by kernel_rfl) ?_
  refine jx_then ?_
  refine jc_ret ?_
  obtain rfl := Option.some.inj h
  exact jx_ret [] (.bool t_1) [] rfl (by kernel_rfl) (by kernel_rfl) (fun w hm => ⟨rfl, hm.pick [] (by kernel_rfl) (by kernel_rfl)⟩)

/-! ### impl.within -/
noncomputable def impl_within (n0 : Int) (low1 : Int) (high2 : Int) : Option (Bool) := some ((decide (low1 ≤ n0)) && (decide (n0 ≤ high2)))
set_option maxRecDepth 100000 in
theorem impl_within.calls (n0 : Int) (low1 : Int) (high2 : Int) (w : World) (r : Bool) (h : impl_within n0 low1 high2 = some r) :
    Calls Try.prog 33 #[(.int .i64 n0), (.int .i64 low1), (.int .i64 high2)] w fun e w' => ∃ v, e = .returned v ∧ (v = (.bool r) ∧ Mem w [] [] w') := by
  rw [impl_within] at h
  refine enter (args := [(.int .i64 n0), (.int .i64 low1), (.int .i64 high2)]) Try.func33 rfl Try.ntmps33 (by kernel_rfl) (L := []) (W := []) (Mem.start w) ?_
  refine jc_seq ?_
  refine jc_region ?_
  refine jo_f [(0, 0)] (by kernel_rfl) ?_
  refine jo_end (by kernel_rfl) ?_
  refine jx_then ?_
  refine jc_seq ?_
  refine jc_region ?_
  refine jo_f [(0, 0), (0, 0), (0, 0), (0, 0), (0, 1), (0, 1), (0, 1), (0, 0), (0, 0)] (by kernel_rfl) ?_
  refine jo_end (by kernel_rfl) ?_
  refine jx_then ?_
  refine jc_ret ?_
  obtain rfl := Option.some.inj h
  exact jx_ret [] (.bool ((decide (low1 ≤ n0)) && (decide (n0 ≤ high2)))) [] rfl (by kernel_rfl) (by kernel_rfl) (fun w hm => ⟨rfl, hm.pick [] (by kernel_rfl) (by kernel_rfl)⟩)

/-! ### impl.ValidLives -/
noncomputable def impl_ValidLives (v0 : GLives) : Option (Bool) := (impl_within v0.fPin 1 1000000).bind fun t_1 => (if t_1 = true then (impl_within v0.fHammer 1 1000000).bind fun t_2 => some t_2 else some false)
set_option maxRecDepth 100000 in
theorem impl_ValidLives.calls (v0 : GLives) (w : World) (r : Bool) (h : impl_ValidLives v0 = some r) :
    Calls Try.prog 11 #[(.agg #[(.int .i64 v0.fPin), (.int .i64 v0.fHammer)])] w fun e w' => ∃ v, e = .returned v ∧ (v = (.bool r) ∧ Mem w [] [] w') := by
  rw [impl_ValidLives] at h
  refine enter (args := [(.agg #[(.int .i64 v0.fPin), (.int .i64 v0.fHammer)])]) Try.func11 rfl Try.ntmps11 (by kernel_rfl) (L := []) (W := []) (Mem.start w) ?_
  refine jc_seq ?_
  refine jc_region ?_
  refine toO (by kernel_rfl) (p_a 0 [0] (by kernel_rfl) (fun b => by kernel_rfl) (fun b_1 => jkO ?_))
  refine jo_f [(0, 0)] (by kernel_rfl) ?_
  refine jo_end (by kernel_rfl) ?_
  refine jx_then ?_
  refine jc_seq ?_
  refine jc_region ?_
  refine jo_f [(0, 0), (0, 0)] (by kernel_rfl) ?_
  obtain ⟨t_1, ht_2, h⟩ := bd h
  refine toO (by kernel_rfl) (p_call 0 33 #[(.int .i64 v0.fPin), (.int .i64 1), (.int .i64 1000000)] (by kernel_rfl) (by kernel_rfl) (fun w hm => impl_within.calls v0.fPin 1 1000000 w _ ht_2) ?_)
  rintro w v w' hm ⟨rfl, hm'⟩
  refine ⟨_, hm.app hm', jkO ?_⟩
  clear hm hm'
  refine jo_f [(0, 0), (0, 1), (0, 1)] (by kernel_rfl) ?_
  refine jo_split 6 t_1 (by kernel_rfl) (fun hc_3 => ?_) (fun hc_3 => ?_)
  · replace h := ifT hc_3 h
    obtain ⟨t_2, ht_4, h⟩ := bd h
    refine toO (by kernel_rfl) (p_call 2 33 #[(.int .i64 v0.fHammer), (.int .i64 1), (.int .i64 1000000)] (by kernel_rfl) (by kernel_rfl) (fun w hm => impl_within.calls v0.fHammer 1 1000000 w _ ht_4) ?_)
    rintro w v w' hm ⟨rfl, hm'⟩
    refine ⟨_, hm.app hm', jkO ?_⟩
    clear hm hm'
    refine jo_f [(0, 4), (0, 0)] (by kernel_rfl) ?_
    refine jo_end (by kernel_rfl) ?_
    refine jx_then ?_
    refine jc_ret ?_
    obtain rfl := Option.some.inj h
    exact jx_ret [] (.bool t_2) [] rfl (by kernel_rfl) (by kernel_rfl) (fun w hm => ⟨rfl, hm.pick [] (by kernel_rfl) (by kernel_rfl)⟩)
  · replace h := ifF hc_3 h
    refine jo_f [(0, 3), (0, 5), (0, 0)] (by kernel_rfl) ?_
    refine jo_end (by kernel_rfl) ?_
    refine jx_then ?_
    refine jc_ret ?_
    obtain rfl := Option.some.inj h
    exact jx_ret [] (.bool false) [] rfl (by kernel_rfl) (by kernel_rfl) (fun w hm => ⟨rfl, hm.pick [] (by kernel_rfl) (by kernel_rfl)⟩)

/-! ### laws.FnExactValidLives -/
noncomputable def laws_FnExactValidLives (aV0 : GLives) : Option (Bool) := (laws_toLives aV0).bind fun t_1 => (spec_ValidLives t_1).bind fun t_2 => (laws_toLives aV0).bind fun t_3 => (impl_ValidLives t_3).bind fun t_4 => (if (t_4 != t_2) = true then some false else some true)
set_option maxRecDepth 100000 in
theorem laws_FnExactValidLives.calls (aV0 : GLives) (w : World) (r : Bool) (h : laws_FnExactValidLives aV0 = some r) :
    Calls Try.prog 3 #[(.agg #[(.int .i64 aV0.fPin), (.int .i64 aV0.fHammer)])] w fun e w' => ∃ v, e = .returned v ∧ (v = (.bool r) ∧ Mem w [] [] w') := by
  rw [laws_FnExactValidLives] at h
  refine enter (args := [(.agg #[(.int .i64 aV0.fPin), (.int .i64 aV0.fHammer)])]) Try.func3 rfl Try.ntmps3 (by kernel_rfl) (L := []) (W := []) (Mem.start w) ?_
  refine jc_seq ?_
  refine jc_region ?_
  refine toO (by kernel_rfl) (p_a 0 [0] (by kernel_rfl) (fun b => by kernel_rfl) (fun b_1 => jkO ?_))
  refine jo_f [(0, 0)] (by kernel_rfl) ?_
  refine jo_end (by kernel_rfl) ?_
  refine jx_then ?_
  refine jc_seq ?_
  refine jc_region ?_
  refine jo_f [(0, 0)] (by kernel_rfl) ?_
  obtain ⟨t_1, ht_2, h⟩ := bd h
  refine toO (by kernel_rfl) (p_call 0 10 #[(.agg #[(.int .i64 aV0.fPin), (.int .i64 aV0.fHammer)])] (by kernel_rfl) (by kernel_rfl) (fun w hm => laws_toLives.calls aV0 w _ ht_2) ?_)
  rintro w v w' hm ⟨rfl, hm'⟩
  refine ⟨_, hm.app hm', jkO ?_⟩
  clear hm hm'
  obtain ⟨t_2, ht_3, h⟩ := bd h
  refine toO (by kernel_rfl) (p_call 0 9 #[(.agg #[(.int .i64 t_1.fPin), (.int .i64 t_1.fHammer)])] (by kernel_rfl) (by kernel_rfl) (fun w hm => spec_ValidLives.calls t_1 w _ ht_3) ?_)
  rintro w v w' hm ⟨rfl, hm'⟩
  refine ⟨_, hm.app hm', jkO ?_⟩
  clear hm hm'
  refine jo_f [(0, 0)] (by kernel_rfl) ?_
  refine jo_end (by kernel_rfl) ?_
  refine jx_then ?_
  refine jc_seq ?_
  refine jc_region ?_
  refine jo_f [(0, 0)] (by kernel_rfl) ?_
  obtain ⟨t_3, ht_4, h⟩ := bd h
  refine toO (by kernel_rfl) (p_call 0 10 #[(.agg #[(.int .i64 aV0.fPin), (.int .i64 aV0.fHammer)])] (by kernel_rfl) (by kernel_rfl) (fun w hm => laws_toLives.calls aV0 w _ ht_4) ?_)
  rintro w v w' hm ⟨rfl, hm'⟩
  refine ⟨_, hm.app hm', jkO ?_⟩
  clear hm hm'
  obtain ⟨t_4, ht_5, h⟩ := bd h
  refine toO (by kernel_rfl) (p_call 0 11 #[(.agg #[(.int .i64 t_3.fPin), (.int .i64 t_3.fHammer)])] (by kernel_rfl) (by kernel_rfl) (fun w hm => impl_ValidLives.calls t_3 w _ ht_5) ?_)
  rintro w v w' hm ⟨rfl, hm'⟩
  refine ⟨_, hm.app hm', jkO ?_⟩
  clear hm hm'
  refine jo_f [(0, 0)] (by kernel_rfl) ?_
  refine jo_end (by kernel_rfl) ?_
  refine jx_then ?_
  refine jc_seq ?_
  refine jc_seq ?_
  refine jc_region ?_
  refine jo_f [(0, 0), (0, 0), (0, 0)] (by kernel_rfl) ?_
  refine jo_end (by kernel_rfl) ?_
  refine jx_then ?_
  refine jc_cond (t_4 != t_2) (by kernel_rfl) (fun hc_6 => ?_) (fun hc_6 => ?_)
  · replace h := ifT hc_6 h
    refine jc_seq ?_
    refine jc_region ?_
    refine jo_f [(0, 0)] (by kernel_rfl) ?_
    refine jo_end (by kernel_rfl) ?_
    refine jx_then ?_
    refine jc_ret ?_
    refine jx_thenr ?_
    obtain rfl := Option.some.inj h
    exact jx_ret [] (.bool false) [] rfl (by kernel_rfl) (by kernel_rfl) (fun w hm => ⟨rfl, hm.pick [] (by kernel_rfl) (by kernel_rfl)⟩)
  · replace h := ifF hc_6 h
    refine jc_skip ?_
    refine jx_then ?_
    refine jc_seq ?_
    refine jc_region ?_
    refine jo_f [(0, 0)] (by kernel_rfl) ?_
    refine jo_end (by kernel_rfl) ?_
    refine jx_then ?_
    refine jc_ret ?_
    obtain rfl := Option.some.inj h
    exact jx_ret [] (.bool true) [] rfl (by kernel_rfl) (by kernel_rfl) (fun w hm => ⟨rfl, hm.pick [] (by kernel_rfl) (by kernel_rfl)⟩)

/-! ### laws.toCosts -/
noncomputable def laws_toCosts (a0 : GCosts) : Option (GCosts) := some a0
set_option maxRecDepth 100000 in
theorem laws_toCosts.calls (a0 : GCosts) (w : World) (r : GCosts) (h : laws_toCosts a0 = some r) :
    Calls Try.prog 13 #[(.agg #[(.int .i16 a0.fAway), (.int .i16 a0.fOctave), (.int .i16 a0.fStep)])] w fun e w' => ∃ v, e = .returned v ∧ (v = .agg #[(.int .i16 r.fAway), (.int .i16 r.fOctave), (.int .i16 r.fStep)] ∧ Mem w [] [] w') := by
  rw [laws_toCosts] at h
  refine enter (args := [(.agg #[(.int .i16 a0.fAway), (.int .i16 a0.fOctave), (.int .i16 a0.fStep)])]) Try.func13 rfl Try.ntmps13 (by kernel_rfl) (L := []) (W := []) (Mem.start w) ?_
  refine jc_seq ?_
  refine jc_region ?_
  refine toO (by kernel_rfl) (p_a 0 [0] (by kernel_rfl) (fun b => by kernel_rfl) (fun b_1 => jkO ?_))
  refine toO (by kernel_rfl) (p_a 0 [0] (by kernel_rfl) (fun b => by kernel_rfl) (fun b_2 => jkO ?_))
  refine jo_end (by kernel_rfl) ?_
  refine jx_then ?_
  refine jc_seq ?_
  refine jc_region ?_
  refine toO (by kernel_rfl) (p_a 0 [0] (by kernel_rfl) (fun b => by kernel_rfl) (fun b_3 => jkO ?_))
  refine jo_end (by kernel_rfl) ?_
  refine jx_then ?_
  refine jc_seq ?_
  refine jc_region ?_
  refine jo_f [(0, 0), (0, 0), (0, 0)] (by kernel_rfl) ?_
  refine toO (by kernel_rfl) (p_s 0 [2] (by kernel_rfl) (by kernel_rfl) (jkO ?_))
  refine jo_end (by kernel_rfl) ?_
  refine jx_then ?_
  refine jc_seq ?_
  refine jc_region ?_
  refine jo_f [(0, 0), (0, 0), (0, 0)] (by kernel_rfl) ?_
  refine toO (by kernel_rfl) (p_s 0 [2] (by kernel_rfl) (by kernel_rfl) (jkO ?_))
  refine jo_end (by kernel_rfl) ?_
  refine jx_then ?_
  refine jc_seq ?_
  refine jc_region ?_
  refine jo_f [(0, 0), (0, 0), (0, 0)] (by kernel_rfl) ?_
  refine toO (by kernel_rfl) (p_s 0 [2] (by kernel_rfl) (by kernel_rfl) (jkO ?_))
  refine jo_end (by kernel_rfl) ?_
  refine jx_then ?_
  refine jc_seq ?_
  refine jc_region ?_
  refine jo_f [(2, 0)] (by kernel_rfl) ?_
  refine toO (by kernel_rfl) (p_s 0 [1] (by kernel_rfl) (by kernel_rfl) (jkO ?_))
  refine jo_end (by kernel_rfl) ?_
  refine jx_then ?_
  refine jc_ret ?_
  obtain rfl := Option.some.inj h
  exact jx_ret [1] (.agg #[(.int .i16 a0.fAway), (.int .i16 a0.fOctave), (.int .i16 a0.fStep)]) [(b_2, b_2), (b_2, b_2), (b_2, b_2)] rfl (by kernel_rfl) (by kernel_rfl) (fun w hm => ⟨rfl, hm.pick [] (by kernel_rfl) (by kernel_rfl)⟩)

/-! ### spec.l07Costs -/
noncomputable def spec_l07Costs (c0 : GCosts) : Option (Bool) := (spec_l00In (w64 c0.fAway) 0 1000).bind fun t_1 => (if t_1 = true then (spec_l00In (w64 c0.fOctave) 0 1000).bind fun t_2 => (if t_2 = true then (spec_l00In (w64 c0.fStep) 0 1000).bind fun t_3 => some t_3 else some false) else some false)
set_option maxRecDepth 100000 in
theorem spec_l07Costs.calls (c0 : GCosts) (w : World) (r : Bool) (h : spec_l07Costs c0 = some r) :
    Calls Try.prog 34 #[(.agg #[(.int .i16 c0.fAway), (.int .i16 c0.fOctave), (.int .i16 c0.fStep)])] w fun e w' => ∃ v, e = .returned v ∧ (v = (.bool r) ∧ Mem w [] [] w') := by
  rw [spec_l07Costs] at h
  refine enter (args := [(.agg #[(.int .i16 c0.fAway), (.int .i16 c0.fOctave), (.int .i16 c0.fStep)])]) Try.func34 rfl Try.ntmps34 (by kernel_rfl) (L := []) (W := []) (Mem.start w) ?_
  refine jc_seq ?_
  refine jc_region ?_
  refine toO (by kernel_rfl) (p_a 0 [0] (by kernel_rfl) (fun b => by kernel_rfl) (fun b_1 => jkO ?_))
  refine jo_f [(0, 0)] (by kernel_rfl) ?_
  refine jo_end (by kernel_rfl) ?_
  refine jx_then ?_
  refine jc_seq ?_
  refine jc_region ?_
  refine jo_f [(0, 0), (0, 0), (0, 0)] (by kernel_rfl) ?_
  obtain ⟨t_1, ht_2, h⟩ := bd h
  refine toO (by kernel_rfl) (p_call 0 54 #[(.int .i64 (w64 c0.fAway)), (.int .i64 0), (.int .i64 1000)] (by kernel_rfl) (by kernel_rfl) (fun w hm => spec_l00In.calls (w64 c0.fAway) 0 1000 w _ ht_2) ?_)
  rintro w v w' hm ⟨rfl, hm'⟩
  refine ⟨_, hm.app hm', jkO ?_⟩
  clear hm hm'
  refine jo_f [(0, 0), (0, 1), (0, 1), (0, 1)] (by kernel_rfl) ?_
  refine jo_split 7 t_1 (by kernel_rfl) (fun hc_3 => ?_) (fun hc_3 => ?_)
  · replace h := ifT hc_3 h
    obtain ⟨t_2, ht_4, h⟩ := bd h
    refine toO (by kernel_rfl) (p_call 2 54 #[(.int .i64 (w64 c0.fOctave)), (.int .i64 0), (.int .i64 1000)] (by kernel_rfl) (by kernel_rfl) (fun w hm => spec_l00In.calls (w64 c0.fOctave) 0 1000 w _ ht_4) ?_)
    rintro w v w' hm ⟨rfl, hm'⟩
    refine ⟨_, hm.app hm', jkO ?_⟩
    clear hm hm'
    refine jo_f [(0, 4), (0, 0), (0, 1), (0, 1), (0, 1)] (by kernel_rfl) ?_
    refine jo_split 13 t_2 (by kernel_rfl) (fun hc_5 => ?_) (fun hc_5 => ?_)
    · replace h := ifT hc_5 h
      obtain ⟨t_3, ht_6, h⟩ := bd h
      refine toO (by kernel_rfl) (p_call 2 54 #[(.int .i64 (w64 c0.fStep)), (.int .i64 0), (.int .i64 1000)] (by kernel_rfl) (by kernel_rfl) (fun w hm => spec_l00In.calls (w64 c0.fStep) 0 1000 w _ ht_6) ?_)
      rintro w v w' hm ⟨rfl, hm'⟩
      refine ⟨_, hm.app hm', jkO ?_⟩
      clear hm hm'
      refine jo_f [(0, 4), (0, 0)] (by kernel_rfl) ?_
      refine jo_end (by kernel_rfl) ?_
      refine jx_then ?_
      refine jc_ret ?_
      obtain rfl := Option.some.inj h
      exact jx_ret [] (.bool t_3) [] rfl (by kernel_rfl) (by kernel_rfl) (fun w hm => ⟨rfl, hm.pick [] (by kernel_rfl) (by kernel_rfl)⟩)
    · replace h := ifF hc_5 h
      refine jo_f [(0, 3), (0, 5), (0, 0)] (by kernel_rfl) ?_
      refine jo_end (by kernel_rfl) ?_
      refine jx_then ?_
      refine jc_ret ?_
      obtain rfl := Option.some.inj h
      exact jx_ret [] (.bool false) [] rfl (by kernel_rfl) (by kernel_rfl) (fun w hm => ⟨rfl, hm.pick [] (by kernel_rfl) (by kernel_rfl)⟩)
  · replace h := ifF hc_3 h
    refine jo_f [(0, 3), (0, 5), (0, 0), (0, 3), (0, 3), (0, 3), (0, 3), (0, 5), (0, 0)] (by kernel_rfl) ?_
    refine jo_end (by kernel_rfl) ?_
    refine jx_then ?_
    refine jc_ret ?_
    obtain rfl := Option.some.inj h
    exact jx_ret [] (.bool false) [] rfl (by kernel_rfl) (by kernel_rfl) (fun w hm => ⟨rfl, hm.pick [] (by kernel_rfl) (by kernel_rfl)⟩)

/-! ### spec.ValidCosts -/
noncomputable def spec_ValidCosts (c0 : GCosts) : Option (Bool) := (spec_l07Costs c0).bind fun t_1 => some t_1
set_option maxRecDepth 100000 in
theorem spec_ValidCosts.calls (c0 : GCosts) (w : World) (r : Bool) (h : spec_ValidCosts c0 = some r) :
    Calls Try.prog 12 #[(.agg #[(.int .i16 c0.fAway), (.int .i16 c0.fOctave), (.int .i16 c0.fStep)])] w fun e w' => ∃ v, e = .returned v ∧ (v = (.bool r) ∧ Mem w [] [] w') := by
  rw [spec_ValidCosts] at h
  refine enter (args := [(.agg #[(.int .i16 c0.fAway), (.int .i16 c0.fOctave), (.int .i16 c0.fStep)])]) Try.func12 rfl Try.ntmps12 (by kernel_rfl) (L := []) (W := []) (Mem.start w) ?_
  refine jc_seq ?_
  refine jc_region ?_
  refine toO (by kernel_rfl) (p_a 0 [0] (by kernel_rfl) (fun b => by kernel_rfl) (fun b_1 => jkO ?_))
  refine jo_f [(0, 0)] (by kernel_rfl) ?_
  refine jo_end (by kernel_rfl) ?_
  refine jx_then ?_
  refine jc_seq ?_
  refine jc_region ?_
  refine jo_f [(0, 0)] (by kernel_rfl) ?_
  obtain ⟨t_1, ht_2, h⟩ := bd h
  refine toO (by kernel_rfl) (p_call 0 34 #[(.agg #[(.int .i16 c0.fAway), (.int .i16 c0.fOctave), (.int .i16 c0.fStep)])] (by kernel_rfl) (by kernel_rfl) (fun w hm => spec_l07Costs.calls c0 w _ ht_2) ?_)
  rintro w v w' hm ⟨rfl, hm'⟩
  refine ⟨_, hm.app hm', jkO ?_⟩
  clear hm hm'
  refine jo_f [(0, 0)] (by kernel_rfl) ?_
  refine jo_end (by kernel_rfl) ?_
  refine jx_then ?_
  refine jc_ret ?_
  obtain rfl := Option.some.inj h
  exact jx_ret [] (.bool t_1) [] rfl (by kernel_rfl) (by kernel_rfl) (fun w hm => ⟨rfl, hm.pick [] (by kernel_rfl) (by kernel_rfl)⟩)

/-! ### impl.ValidCosts -/
noncomputable def impl_ValidCosts (c0 : GCosts) : Option (Bool) := (impl_within (w64 c0.fAway) 0 1000).bind fun t_1 => (if t_1 = true then (impl_within (w64 c0.fOctave) 0 1000).bind fun t_2 => (if t_2 = true then (impl_within (w64 c0.fStep) 0 1000).bind fun t_3 => some t_3 else some false) else some false)
set_option maxRecDepth 100000 in
theorem impl_ValidCosts.calls (c0 : GCosts) (w : World) (r : Bool) (h : impl_ValidCosts c0 = some r) :
    Calls Try.prog 14 #[(.agg #[(.int .i16 c0.fAway), (.int .i16 c0.fOctave), (.int .i16 c0.fStep)])] w fun e w' => ∃ v, e = .returned v ∧ (v = (.bool r) ∧ Mem w [] [] w') := by
  rw [impl_ValidCosts] at h
  refine enter (args := [(.agg #[(.int .i16 c0.fAway), (.int .i16 c0.fOctave), (.int .i16 c0.fStep)])]) Try.func14 rfl Try.ntmps14 (by kernel_rfl) (L := []) (W := []) (Mem.start w) ?_
  refine jc_seq ?_
  refine jc_region ?_
  refine toO (by kernel_rfl) (p_a 0 [0] (by kernel_rfl) (fun b => by kernel_rfl) (fun b_1 => jkO ?_))
  refine jo_f [(0, 0)] (by kernel_rfl) ?_
  refine jo_end (by kernel_rfl) ?_
  refine jx_then ?_
  refine jc_seq ?_
  refine jc_region ?_
  refine jo_f [(0, 0), (0, 0), (0, 0)] (by kernel_rfl) ?_
  obtain ⟨t_1, ht_2, h⟩ := bd h
  refine toO (by kernel_rfl) (p_call 0 33 #[(.int .i64 (w64 c0.fAway)), (.int .i64 0), (.int .i64 1000)] (by kernel_rfl) (by kernel_rfl) (fun w hm => impl_within.calls (w64 c0.fAway) 0 1000 w _ ht_2) ?_)
  rintro w v w' hm ⟨rfl, hm'⟩
  refine ⟨_, hm.app hm', jkO ?_⟩
  clear hm hm'
  refine jo_f [(0, 0), (0, 1), (0, 1), (0, 1)] (by kernel_rfl) ?_
  refine jo_split 7 t_1 (by kernel_rfl) (fun hc_3 => ?_) (fun hc_3 => ?_)
  · replace h := ifT hc_3 h
    obtain ⟨t_2, ht_4, h⟩ := bd h
    refine toO (by kernel_rfl) (p_call 2 33 #[(.int .i64 (w64 c0.fOctave)), (.int .i64 0), (.int .i64 1000)] (by kernel_rfl) (by kernel_rfl) (fun w hm => impl_within.calls (w64 c0.fOctave) 0 1000 w _ ht_4) ?_)
    rintro w v w' hm ⟨rfl, hm'⟩
    refine ⟨_, hm.app hm', jkO ?_⟩
    clear hm hm'
    refine jo_f [(0, 4), (0, 0), (0, 1), (0, 1), (0, 1)] (by kernel_rfl) ?_
    refine jo_split 13 t_2 (by kernel_rfl) (fun hc_5 => ?_) (fun hc_5 => ?_)
    · replace h := ifT hc_5 h
      obtain ⟨t_3, ht_6, h⟩ := bd h
      refine toO (by kernel_rfl) (p_call 2 33 #[(.int .i64 (w64 c0.fStep)), (.int .i64 0), (.int .i64 1000)] (by kernel_rfl) (by kernel_rfl) (fun w hm => impl_within.calls (w64 c0.fStep) 0 1000 w _ ht_6) ?_)
      rintro w v w' hm ⟨rfl, hm'⟩
      refine ⟨_, hm.app hm', jkO ?_⟩
      clear hm hm'
      refine jo_f [(0, 4), (0, 0)] (by kernel_rfl) ?_
      refine jo_end (by kernel_rfl) ?_
      refine jx_then ?_
      refine jc_ret ?_
      obtain rfl := Option.some.inj h
      exact jx_ret [] (.bool t_3) [] rfl (by kernel_rfl) (by kernel_rfl) (fun w hm => ⟨rfl, hm.pick [] (by kernel_rfl) (by kernel_rfl)⟩)
    · replace h := ifF hc_5 h
      refine jo_f [(0, 3), (0, 5), (0, 0)] (by kernel_rfl) ?_
      refine jo_end (by kernel_rfl) ?_
      refine jx_then ?_
      refine jc_ret ?_
      obtain rfl := Option.some.inj h
      exact jx_ret [] (.bool false) [] rfl (by kernel_rfl) (by kernel_rfl) (fun w hm => ⟨rfl, hm.pick [] (by kernel_rfl) (by kernel_rfl)⟩)
  · replace h := ifF hc_3 h
    refine jo_f [(0, 3), (0, 5), (0, 0), (0, 3), (0, 3), (0, 3), (0, 3), (0, 5), (0, 0)] (by kernel_rfl) ?_
    refine jo_end (by kernel_rfl) ?_
    refine jx_then ?_
    refine jc_ret ?_
    obtain rfl := Option.some.inj h
    exact jx_ret [] (.bool false) [] rfl (by kernel_rfl) (by kernel_rfl) (fun w hm => ⟨rfl, hm.pick [] (by kernel_rfl) (by kernel_rfl)⟩)

/-! ### laws.FnExactValidCosts -/
noncomputable def laws_FnExactValidCosts (aC0 : GCosts) : Option (Bool) := (laws_toCosts aC0).bind fun t_1 => (spec_ValidCosts t_1).bind fun t_2 => (laws_toCosts aC0).bind fun t_3 => (impl_ValidCosts t_3).bind fun t_4 => (if (t_4 != t_2) = true then some false else some true)
set_option maxRecDepth 100000 in
theorem laws_FnExactValidCosts.calls (aC0 : GCosts) (w : World) (r : Bool) (h : laws_FnExactValidCosts aC0 = some r) :
    Calls Try.prog 4 #[(.agg #[(.int .i16 aC0.fAway), (.int .i16 aC0.fOctave), (.int .i16 aC0.fStep)])] w fun e w' => ∃ v, e = .returned v ∧ (v = (.bool r) ∧ Mem w [] [] w') := by
  rw [laws_FnExactValidCosts] at h
  refine enter (args := [(.agg #[(.int .i16 aC0.fAway), (.int .i16 aC0.fOctave), (.int .i16 aC0.fStep)])]) Try.func4 rfl Try.ntmps4 (by kernel_rfl) (L := []) (W := []) (Mem.start w) ?_
  refine jc_seq ?_
  refine jc_region ?_
  refine toO (by kernel_rfl) (p_a 0 [0] (by kernel_rfl) (fun b => by kernel_rfl) (fun b_1 => jkO ?_))
  refine jo_f [(0, 0)] (by kernel_rfl) ?_
  refine jo_end (by kernel_rfl) ?_
  refine jx_then ?_
  refine jc_seq ?_
  refine jc_region ?_
  refine jo_f [(0, 0)] (by kernel_rfl) ?_
  obtain ⟨t_1, ht_2, h⟩ := bd h
  refine toO (by kernel_rfl) (p_call 0 13 #[(.agg #[(.int .i16 aC0.fAway), (.int .i16 aC0.fOctave), (.int .i16 aC0.fStep)])] (by kernel_rfl) (by kernel_rfl) (fun w hm => laws_toCosts.calls aC0 w _ ht_2) ?_)
  rintro w v w' hm ⟨rfl, hm'⟩
  refine ⟨_, hm.app hm', jkO ?_⟩
  clear hm hm'
  obtain ⟨t_2, ht_3, h⟩ := bd h
  refine toO (by kernel_rfl) (p_call 0 12 #[(.agg #[(.int .i16 t_1.fAway), (.int .i16 t_1.fOctave), (.int .i16 t_1.fStep)])] (by kernel_rfl) (by kernel_rfl) (fun w hm => spec_ValidCosts.calls t_1 w _ ht_3) ?_)
  rintro w v w' hm ⟨rfl, hm'⟩
  refine ⟨_, hm.app hm', jkO ?_⟩
  clear hm hm'
  refine jo_f [(0, 0)] (by kernel_rfl) ?_
  refine jo_end (by kernel_rfl) ?_
  refine jx_then ?_
  refine jc_seq ?_
  refine jc_region ?_
  refine jo_f [(0, 0)] (by kernel_rfl) ?_
  obtain ⟨t_3, ht_4, h⟩ := bd h
  refine toO (by kernel_rfl) (p_call 0 13 #[(.agg #[(.int .i16 aC0.fAway), (.int .i16 aC0.fOctave), (.int .i16 aC0.fStep)])] (by kernel_rfl) (by kernel_rfl) (fun w hm => laws_toCosts.calls aC0 w _ ht_4) ?_)
  rintro w v w' hm ⟨rfl, hm'⟩
  refine ⟨_, hm.app hm', jkO ?_⟩
  clear hm hm'
  obtain ⟨t_4, ht_5, h⟩ := bd h
  refine toO (by kernel_rfl) (p_call 0 14 #[(.agg #[(.int .i16 t_3.fAway), (.int .i16 t_3.fOctave), (.int .i16 t_3.fStep)])] (by kernel_rfl) (by kernel_rfl) (fun w hm => impl_ValidCosts.calls t_3 w _ ht_5) ?_)
  rintro w v w' hm ⟨rfl, hm'⟩
  refine ⟨_, hm.app hm', jkO ?_⟩
  clear hm hm'
  refine jo_f [(0, 0)] (by kernel_rfl) ?_
  refine jo_end (by kernel_rfl) ?_
  refine jx_then ?_
  refine jc_seq ?_
  refine jc_seq ?_
  refine jc_region ?_
  refine jo_f [(0, 0), (0, 0), (0, 0)] (by kernel_rfl) ?_
  refine jo_end (by kernel_rfl) ?_
  refine jx_then ?_
  refine jc_cond (t_4 != t_2) (by kernel_rfl) (fun hc_6 => ?_) (fun hc_6 => ?_)
  · replace h := ifT hc_6 h
    refine jc_seq ?_
    refine jc_region ?_
    refine jo_f [(0, 0)] (by kernel_rfl) ?_
    refine jo_end (by kernel_rfl) ?_
    refine jx_then ?_
    refine jc_ret ?_
    refine jx_thenr ?_
    obtain rfl := Option.some.inj h
    exact jx_ret [] (.bool false) [] rfl (by kernel_rfl) (by kernel_rfl) (fun w hm => ⟨rfl, hm.pick [] (by kernel_rfl) (by kernel_rfl)⟩)
  · replace h := ifF hc_6 h
    refine jc_skip ?_
    refine jx_then ?_
    refine jc_seq ?_
    refine jc_region ?_
    refine jo_f [(0, 0)] (by kernel_rfl) ?_
    refine jo_end (by kernel_rfl) ?_
    refine jx_then ?_
    refine jc_ret ?_
    obtain rfl := Option.some.inj h
    exact jx_ret [] (.bool true) [] rfl (by kernel_rfl) (by kernel_rfl) (fun w hm => ⟨rfl, hm.pick [] (by kernel_rfl) (by kernel_rfl)⟩)

/-! ### laws.toChoice -/
noncomputable def laws_toChoice (a0 : GChoice) : Option (GChoice) := some a0
set_option maxRecDepth 100000 in
theorem laws_toChoice.calls (a0 : GChoice) (w : World) (r : GChoice) (h : laws_toChoice a0 = some r) :
    Calls Try.prog 16 #[(.agg #[(.bool a0.fAway), (.int .i8 a0.fLate), (.int .i8 a0.fOctave), (.int .i8 a0.fTrack)])] w fun e w' => ∃ v, e = .returned v ∧ (v = .agg #[(.bool r.fAway), (.int .i8 r.fLate), (.int .i8 r.fOctave), (.int .i8 r.fTrack)] ∧ Mem w [] [] w') := by
  rw [laws_toChoice] at h
  refine enter (args := [(.agg #[(.bool a0.fAway), (.int .i8 a0.fLate), (.int .i8 a0.fOctave), (.int .i8 a0.fTrack)])]) Try.func16 rfl Try.ntmps16 (by kernel_rfl) (L := []) (W := []) (Mem.start w) ?_
  refine jc_seq ?_
  refine jc_region ?_
  refine toO (by kernel_rfl) (p_a 0 [0] (by kernel_rfl) (fun b => by kernel_rfl) (fun b_1 => jkO ?_))
  refine toO (by kernel_rfl) (p_a 0 [0] (by kernel_rfl) (fun b => by kernel_rfl) (fun b_2 => jkO ?_))
  refine jo_end (by kernel_rfl) ?_
  refine jx_then ?_
  refine jc_seq ?_
  refine jc_region ?_
  refine toO (by kernel_rfl) (p_a 0 [0] (by kernel_rfl) (fun b => by kernel_rfl) (fun b_3 => jkO ?_))
  refine jo_end (by kernel_rfl) ?_
  refine jx_then ?_
  refine jc_seq ?_
  refine jc_region ?_
  refine jo_f [(0, 0), (0, 0), (0, 0)] (by kernel_rfl) ?_
  refine toO (by kernel_rfl) (p_s 0 [2] (by kernel_rfl) (by kernel_rfl) (jkO ?_))
  refine jo_end (by kernel_rfl) ?_
  refine jx_then ?_
  refine jc_seq ?_
  refine jc_region ?_
  refine jo_f [(0, 0), (0, 0), (0, 0)] (by kernel_rfl) ?_
  refine toO (by kernel_rfl) (p_s 0 [2] (by kernel_rfl) (by kernel_rfl) (jkO ?_))
  refine jo_end (by kernel_rfl) ?_
  refine jx_then ?_
  refine jc_seq ?_
  refine jc_region ?_
  refine jo_f [(0, 0), (0, 0), (0, 0)] (by kernel_rfl) ?_
  refine toO (by kernel_rfl) (p_s 0 [2] (by kernel_rfl) (by kernel_rfl) (jkO ?_))
  refine jo_end (by kernel_rfl) ?_
  refine jx_then ?_
  refine jc_seq ?_
  refine jc_region ?_
  refine jo_f [(0, 0), (0, 0), (0, 0)] (by kernel_rfl) ?_
  refine toO (by kernel_rfl) (p_s 0 [2] (by kernel_rfl) (by kernel_rfl) (jkO ?_))
  refine jo_end (by kernel_rfl) ?_
  refine jx_then ?_
  refine jc_seq ?_
  refine jc_region ?_
  refine jo_f [(2, 0)] (by kernel_rfl) ?_
  refine toO (by kernel_rfl) (p_s 0 [1] (by kernel_rfl) (by kernel_rfl) (jkO ?_))
  refine jo_end (by kernel_rfl) ?_
  refine jx_then ?_
  refine jc_ret ?_
  obtain rfl := Option.some.inj h
  exact jx_ret [1] (.agg #[(.bool a0.fAway), (.int .i8 a0.fLate), (.int .i8 a0.fOctave), (.int .i8 a0.fTrack)]) [(b_2, b_2), (b_2, b_2), (b_2, b_2), (b_2, b_2)] rfl (by kernel_rfl) (by kernel_rfl) (fun w hm => ⟨rfl, hm.pick [] (by kernel_rfl) (by kernel_rfl)⟩)

/-! ### spec.l07Choice -/
noncomputable def spec_l07Choice (x0 : GChoice) : Option (Bool) := (if x0.fAway = true then some ((x0.fAway == true) && ((x0.fLate == 0) && ((x0.fOctave == 0) && (x0.fTrack == 0)))) else (spec_l00In (w64 x0.fLate) (-3) 3).bind fun t_1 => (if t_1 = true then (spec_l00In (w64 x0.fOctave) (-1) 1).bind fun t_2 => (if t_2 = true then (spec_l00In (w64 x0.fTrack) 0 23).bind fun t_3 => some t_3 else some false) else some false))
set_option maxRecDepth 100000 in
theorem spec_l07Choice.calls (x0 : GChoice) (w : World) (r : Bool) (h : spec_l07Choice x0 = some r) :
    Calls Try.prog 35 #[(.agg #[(.bool x0.fAway), (.int .i8 x0.fLate), (.int .i8 x0.fOctave), (.int .i8 x0.fTrack)])] w fun e w' => ∃ v, e = .returned v ∧ (v = (.bool r) ∧ Mem w [] [] w') := by
  rw [spec_l07Choice] at h
  refine enter (args := [(.agg #[(.bool x0.fAway), (.int .i8 x0.fLate), (.int .i8 x0.fOctave), (.int .i8 x0.fTrack)])]) Try.func35 rfl Try.ntmps35 (by kernel_rfl) (L := []) (W := []) (Mem.start w) ?_
  refine jc_seq ?_
  refine jc_region ?_
  refine toO (by kernel_rfl) (p_a 0 [0] (by kernel_rfl) (fun b => by kernel_rfl) (fun b_1 => jkO ?_))
  refine jo_f [(0, 0)] (by kernel_rfl) ?_
  refine jo_end (by kernel_rfl) ?_
  refine jx_then ?_
  refine jc_seq ?_
  refine jc_seq ?_
  refine jc_region ?_
  refine jo_f [(0, 0), (0, 0)] (by kernel_rfl) ?_
  refine jo_end (by kernel_rfl) ?_
  refine jx_then ?_
  refine jc_cond x0.fAway (by kernel_rfl) (fun hc_3 => ?_) (fun hc_3 => ?_)
  · replace h := ifT hc_3 h
    refine jc_seq ?_
    refine jc_region ?_
    refine jo_f [(0, 0), (0, 0), (0, 0), (0, 0)] (by kernel_rfl) ?_
    refine jo_end (by kernel_rfl) ?_
    refine jx_then ?_
    refine jc_ret ?_
    refine jx_thenr ?_
    obtain rfl := Option.some.inj h
    exact jx_ret [] (.bool ((x0.fAway == true) && ((x0.fLate == 0) && ((x0.fOctave == 0) && (x0.fTrack == 0))))) [] rfl (by kernel_rfl) (by kernel_rfl) (fun w hm => ⟨rfl, hm.pick [] (by kernel_rfl) (by kernel_rfl)⟩)
  · replace h := ifF hc_3 h
    refine jc_skip ?_
    refine jx_then ?_
    refine jc_seq ?_
    refine jc_region ?_
    refine jo_f [(0, 0), (0, 0), (0, 0)] (by kernel_rfl) ?_
    obtain ⟨t_1, ht_4, h⟩ := bd h
    refine toO (by kernel_rfl) (p_call 0 54 #[(.int .i64 (w64 x0.fLate)), (.int .i64 (-3)), (.int .i64 3)] (by kernel_rfl) (by kernel_rfl) (fun w hm => spec_l00In.calls (w64 x0.fLate) (-3) 3 w _ ht_4) ?_)
    rintro w v w' hm ⟨rfl, hm'⟩
    refine ⟨_, hm.app hm', jkO ?_⟩
    clear hm hm'
    refine jo_f [(0, 0), (0, 1), (0, 1), (0, 1)] (by kernel_rfl) ?_
    refine jo_split 12 t_1 (by kernel_rfl) (fun hc_5 => ?_) (fun hc_5 => ?_)
    · replace h := ifT hc_5 h
      obtain ⟨t_2, ht_6, h⟩ := bd h
      refine toO (by kernel_rfl) (p_call 2 54 #[(.int .i64 (w64 x0.fOctave)), (.int .i64 (-1)), (.int .i64 1)] (by kernel_rfl) (by kernel_rfl) (fun w hm => spec_l00In.calls (w64 x0.fOctave) (-1) 1 w _ ht_6) ?_)
      rintro w v w' hm ⟨rfl, hm'⟩
      refine ⟨_, hm.app hm', jkO ?_⟩
      clear hm hm'
      refine jo_f [(0, 4), (0, 0), (0, 1), (0, 1), (0, 1)] (by kernel_rfl) ?_
      refine jo_split 18 t_2 (by kernel_rfl) (fun hc_7 => ?_) (fun hc_7 => ?_)
      · replace h := ifT hc_7 h
        obtain ⟨t_3, ht_8, h⟩ := bd h
        refine toO (by kernel_rfl) (p_call 2 54 #[(.int .i64 (w64 x0.fTrack)), (.int .i64 0), (.int .i64 23)] (by kernel_rfl) (by kernel_rfl) (fun w hm => spec_l00In.calls (w64 x0.fTrack) 0 23 w _ ht_8) ?_)
        rintro w v w' hm ⟨rfl, hm'⟩
        refine ⟨_, hm.app hm', jkO ?_⟩
        clear hm hm'
        refine jo_f [(0, 4), (0, 0)] (by kernel_rfl) ?_
        refine jo_end (by kernel_rfl) ?_
        refine jx_then ?_
        refine jc_ret ?_
        obtain rfl := Option.some.inj h
        exact jx_ret [] (.bool t_3) [] rfl (by kernel_rfl) (by kernel_rfl) (fun w hm => ⟨rfl, hm.pick [] (by kernel_rfl) (by kernel_rfl)⟩)
      · replace h := ifF hc_7 h
        refine jo_f [(0, 3), (0, 5), (0, 0)] (by kernel_rfl) ?_
        refine jo_end (by kernel_rfl) ?_
        refine jx_then ?_
        refine jc_ret ?_
        obtain rfl := Option.some.inj h
        exact jx_ret [] (.bool false) [] rfl (by kernel_rfl) (by kernel_rfl) (fun w hm => ⟨rfl, hm.pick [] (by kernel_rfl) (by kernel_rfl)⟩)
    · replace h := ifF hc_5 h
      refine jo_f [(0, 3), (0, 5), (0, 0), (0, 3), (0, 3), (0, 3), (0, 3), (0, 5), (0, 0)] (by kernel_rfl) ?_
      refine jo_end (by kernel_rfl) ?_
      refine jx_then ?_
      refine jc_ret ?_
      obtain rfl := Option.some.inj h
      exact jx_ret [] (.bool false) [] rfl (by kernel_rfl) (by kernel_rfl) (fun w hm => ⟨rfl, hm.pick [] (by kernel_rfl) (by kernel_rfl)⟩)

/-! ### spec.ValidChoice -/
noncomputable def spec_ValidChoice (x0 : GChoice) : Option (Bool) := (spec_l07Choice x0).bind fun t_1 => some t_1
set_option maxRecDepth 100000 in
theorem spec_ValidChoice.calls (x0 : GChoice) (w : World) (r : Bool) (h : spec_ValidChoice x0 = some r) :
    Calls Try.prog 15 #[(.agg #[(.bool x0.fAway), (.int .i8 x0.fLate), (.int .i8 x0.fOctave), (.int .i8 x0.fTrack)])] w fun e w' => ∃ v, e = .returned v ∧ (v = (.bool r) ∧ Mem w [] [] w') := by
  rw [spec_ValidChoice] at h
  refine enter (args := [(.agg #[(.bool x0.fAway), (.int .i8 x0.fLate), (.int .i8 x0.fOctave), (.int .i8 x0.fTrack)])]) Try.func15 rfl Try.ntmps15 (by kernel_rfl) (L := []) (W := []) (Mem.start w) ?_
  refine jc_seq ?_
  refine jc_region ?_
  refine toO (by kernel_rfl) (p_a 0 [0] (by kernel_rfl) (fun b => by kernel_rfl) (fun b_1 => jkO ?_))
  refine jo_f [(0, 0)] (by kernel_rfl) ?_
  refine jo_end (by kernel_rfl) ?_
  refine jx_then ?_
  refine jc_seq ?_
  refine jc_region ?_
  refine jo_f [(0, 0)] (by kernel_rfl) ?_
  obtain ⟨t_1, ht_2, h⟩ := bd h
  refine toO (by kernel_rfl) (p_call 0 35 #[(.agg #[(.bool x0.fAway), (.int .i8 x0.fLate), (.int .i8 x0.fOctave), (.int .i8 x0.fTrack)])] (by kernel_rfl) (by kernel_rfl) (fun w hm => spec_l07Choice.calls x0 w _ ht_2) ?_)
  rintro w v w' hm ⟨rfl, hm'⟩
  refine ⟨_, hm.app hm', jkO ?_⟩
  clear hm hm'
  refine jo_f [(0, 0)] (by kernel_rfl) ?_
  refine jo_end (by kernel_rfl) ?_
  refine jx_then ?_
  refine jc_ret ?_
  obtain rfl := Option.some.inj h
  exact jx_ret [] (.bool t_1) [] rfl (by kernel_rfl) (by kernel_rfl) (fun w hm => ⟨rfl, hm.pick [] (by kernel_rfl) (by kernel_rfl)⟩)

/-! ### impl.ValidChoice -/
noncomputable def impl_ValidChoice (x0 : GChoice) : Option (Bool) := (if x0.fAway = true then some ((x0.fAway == true) && ((x0.fLate == 0) && ((x0.fOctave == 0) && (x0.fTrack == 0)))) else (impl_within (w64 x0.fLate) (-3) 3).bind fun t_1 => (if t_1 = true then (impl_within (w64 x0.fOctave) (-1) 1).bind fun t_2 => (if t_2 = true then (impl_within (w64 x0.fTrack) 0 23).bind fun t_3 => some t_3 else some false) else some false))
set_option maxRecDepth 100000 in
theorem impl_ValidChoice.calls (x0 : GChoice) (w : World) (r : Bool) (h : impl_ValidChoice x0 = some r) :
    Calls Try.prog 17 #[(.agg #[(.bool x0.fAway), (.int .i8 x0.fLate), (.int .i8 x0.fOctave), (.int .i8 x0.fTrack)])] w fun e w' => ∃ v, e = .returned v ∧ (v = (.bool r) ∧ Mem w [] [] w') := by
  rw [impl_ValidChoice] at h
  refine enter (args := [(.agg #[(.bool x0.fAway), (.int .i8 x0.fLate), (.int .i8 x0.fOctave), (.int .i8 x0.fTrack)])]) Try.func17 rfl Try.ntmps17 (by kernel_rfl) (L := []) (W := []) (Mem.start w) ?_
  refine jc_seq ?_
  refine jc_region ?_
  refine toO (by kernel_rfl) (p_a 0 [0] (by kernel_rfl) (fun b => by kernel_rfl) (fun b_1 => jkO ?_))
  refine jo_f [(0, 0)] (by kernel_rfl) ?_
  refine jo_end (by kernel_rfl) ?_
  refine jx_then ?_
  refine jc_seq ?_
  refine jc_seq ?_
  refine jc_region ?_
  refine jo_f [(0, 0), (0, 0)] (by kernel_rfl) ?_
  refine jo_end (by kernel_rfl) ?_
  refine jx_then ?_
  refine jc_cond x0.fAway (by kernel_rfl) (fun hc_3 => ?_) (fun hc_3 => ?_)
  · replace h := ifT hc_3 h
    refine jc_seq ?_
    refine jc_region ?_
    refine jo_f [(0, 0), (0, 0), (0, 0), (0, 0)] (by kernel_rfl) ?_
    refine jo_end (by kernel_rfl) ?_
    refine jx_then ?_
    refine jc_ret ?_
    refine jx_thenr ?_
    obtain rfl := Option.some.inj h
    exact jx_ret [] (.bool ((x0.fAway == true) && ((x0.fLate == 0) && ((x0.fOctave == 0) && (x0.fTrack == 0))))) [] rfl (by kernel_rfl) (by kernel_rfl) (fun w hm => ⟨rfl, hm.pick [] (by kernel_rfl) (by kernel_rfl)⟩)
  · replace h := ifF hc_3 h
    refine jc_skip ?_
    refine jx_then ?_
    refine jc_seq ?_
    refine jc_region ?_
    refine jo_f [(0, 0), (0, 0), (0, 0)] (by kernel_rfl) ?_
    obtain ⟨t_1, ht_4, h⟩ := bd h
    refine toO (by kernel_rfl) (p_call 0 33 #[(.int .i64 (w64 x0.fLate)), (.int .i64 (-3)), (.int .i64 3)] (by kernel_rfl) (by kernel_rfl) (fun w hm => impl_within.calls (w64 x0.fLate) (-3) 3 w _ ht_4) ?_)
    rintro w v w' hm ⟨rfl, hm'⟩
    refine ⟨_, hm.app hm', jkO ?_⟩
    clear hm hm'
    refine jo_f [(0, 0), (0, 1), (0, 1), (0, 1)] (by kernel_rfl) ?_
    refine jo_split 12 t_1 (by kernel_rfl) (fun hc_5 => ?_) (fun hc_5 => ?_)
    · replace h := ifT hc_5 h
      obtain ⟨t_2, ht_6, h⟩ := bd h
      refine toO (by kernel_rfl) (p_call 2 33 #[(.int .i64 (w64 x0.fOctave)), (.int .i64 (-1)), (.int .i64 1)] (by kernel_rfl) (by kernel_rfl) (fun w hm => impl_within.calls (w64 x0.fOctave) (-1) 1 w _ ht_6) ?_)
      rintro w v w' hm ⟨rfl, hm'⟩
      refine ⟨_, hm.app hm', jkO ?_⟩
      clear hm hm'
      refine jo_f [(0, 4), (0, 0), (0, 1), (0, 1), (0, 1)] (by kernel_rfl) ?_
      refine jo_split 18 t_2 (by kernel_rfl) (fun hc_7 => ?_) (fun hc_7 => ?_)
      · replace h := ifT hc_7 h
        obtain ⟨t_3, ht_8, h⟩ := bd h
        refine toO (by kernel_rfl) (p_call 2 33 #[(.int .i64 (w64 x0.fTrack)), (.int .i64 0), (.int .i64 23)] (by kernel_rfl) (by kernel_rfl) (fun w hm => impl_within.calls (w64 x0.fTrack) 0 23 w _ ht_8) ?_)
        rintro w v w' hm ⟨rfl, hm'⟩
        refine ⟨_, hm.app hm', jkO ?_⟩
        clear hm hm'
        refine jo_f [(0, 4), (0, 0)] (by kernel_rfl) ?_
        refine jo_end (by kernel_rfl) ?_
        refine jx_then ?_
        refine jc_ret ?_
        obtain rfl := Option.some.inj h
        exact jx_ret [] (.bool t_3) [] rfl (by kernel_rfl) (by kernel_rfl) (fun w hm => ⟨rfl, hm.pick [] (by kernel_rfl) (by kernel_rfl)⟩)
      · replace h := ifF hc_7 h
        refine jo_f [(0, 3), (0, 5), (0, 0)] (by kernel_rfl) ?_
        refine jo_end (by kernel_rfl) ?_
        refine jx_then ?_
        refine jc_ret ?_
        obtain rfl := Option.some.inj h
        exact jx_ret [] (.bool false) [] rfl (by kernel_rfl) (by kernel_rfl) (fun w hm => ⟨rfl, hm.pick [] (by kernel_rfl) (by kernel_rfl)⟩)
    · replace h := ifF hc_5 h
      refine jo_f [(0, 3), (0, 5), (0, 0), (0, 3), (0, 3), (0, 3), (0, 3), (0, 5), (0, 0)] (by kernel_rfl) ?_
      refine jo_end (by kernel_rfl) ?_
      refine jx_then ?_
      refine jc_ret ?_
      obtain rfl := Option.some.inj h
      exact jx_ret [] (.bool false) [] rfl (by kernel_rfl) (by kernel_rfl) (fun w hm => ⟨rfl, hm.pick [] (by kernel_rfl) (by kernel_rfl)⟩)

/-! ### laws.FnExactValidChoice -/
noncomputable def laws_FnExactValidChoice (aX0 : GChoice) : Option (Bool) := (laws_toChoice aX0).bind fun t_1 => (spec_ValidChoice t_1).bind fun t_2 => (laws_toChoice aX0).bind fun t_3 => (impl_ValidChoice t_3).bind fun t_4 => (if (t_4 != t_2) = true then some false else some true)
set_option maxRecDepth 100000 in
theorem laws_FnExactValidChoice.calls (aX0 : GChoice) (w : World) (r : Bool) (h : laws_FnExactValidChoice aX0 = some r) :
    Calls Try.prog 5 #[(.agg #[(.bool aX0.fAway), (.int .i8 aX0.fLate), (.int .i8 aX0.fOctave), (.int .i8 aX0.fTrack)])] w fun e w' => ∃ v, e = .returned v ∧ (v = (.bool r) ∧ Mem w [] [] w') := by
  rw [laws_FnExactValidChoice] at h
  refine enter (args := [(.agg #[(.bool aX0.fAway), (.int .i8 aX0.fLate), (.int .i8 aX0.fOctave), (.int .i8 aX0.fTrack)])]) Try.func5 rfl Try.ntmps5 (by kernel_rfl) (L := []) (W := []) (Mem.start w) ?_
  refine jc_seq ?_
  refine jc_region ?_
  refine toO (by kernel_rfl) (p_a 0 [0] (by kernel_rfl) (fun b => by kernel_rfl) (fun b_1 => jkO ?_))
  refine jo_f [(0, 0)] (by kernel_rfl) ?_
  refine jo_end (by kernel_rfl) ?_
  refine jx_then ?_
  refine jc_seq ?_
  refine jc_region ?_
  refine jo_f [(0, 0)] (by kernel_rfl) ?_
  obtain ⟨t_1, ht_2, h⟩ := bd h
  refine toO (by kernel_rfl) (p_call 0 16 #[(.agg #[(.bool aX0.fAway), (.int .i8 aX0.fLate), (.int .i8 aX0.fOctave), (.int .i8 aX0.fTrack)])] (by kernel_rfl) (by kernel_rfl) (fun w hm => laws_toChoice.calls aX0 w _ ht_2) ?_)
  rintro w v w' hm ⟨rfl, hm'⟩
  refine ⟨_, hm.app hm', jkO ?_⟩
  clear hm hm'
  obtain ⟨t_2, ht_3, h⟩ := bd h
  refine toO (by kernel_rfl) (p_call 0 15 #[(.agg #[(.bool t_1.fAway), (.int .i8 t_1.fLate), (.int .i8 t_1.fOctave), (.int .i8 t_1.fTrack)])] (by kernel_rfl) (by kernel_rfl) (fun w hm => spec_ValidChoice.calls t_1 w _ ht_3) ?_)
  rintro w v w' hm ⟨rfl, hm'⟩
  refine ⟨_, hm.app hm', jkO ?_⟩
  clear hm hm'
  refine jo_f [(0, 0)] (by kernel_rfl) ?_
  refine jo_end (by kernel_rfl) ?_
  refine jx_then ?_
  refine jc_seq ?_
  refine jc_region ?_
  refine jo_f [(0, 0)] (by kernel_rfl) ?_
  obtain ⟨t_3, ht_4, h⟩ := bd h
  refine toO (by kernel_rfl) (p_call 0 16 #[(.agg #[(.bool aX0.fAway), (.int .i8 aX0.fLate), (.int .i8 aX0.fOctave), (.int .i8 aX0.fTrack)])] (by kernel_rfl) (by kernel_rfl) (fun w hm => laws_toChoice.calls aX0 w _ ht_4) ?_)
  rintro w v w' hm ⟨rfl, hm'⟩
  refine ⟨_, hm.app hm', jkO ?_⟩
  clear hm hm'
  obtain ⟨t_4, ht_5, h⟩ := bd h
  refine toO (by kernel_rfl) (p_call 0 17 #[(.agg #[(.bool t_3.fAway), (.int .i8 t_3.fLate), (.int .i8 t_3.fOctave), (.int .i8 t_3.fTrack)])] (by kernel_rfl) (by kernel_rfl) (fun w hm => impl_ValidChoice.calls t_3 w _ ht_5) ?_)
  rintro w v w' hm ⟨rfl, hm'⟩
  refine ⟨_, hm.app hm', jkO ?_⟩
  clear hm hm'
  refine jo_f [(0, 0)] (by kernel_rfl) ?_
  refine jo_end (by kernel_rfl) ?_
  refine jx_then ?_
  refine jc_seq ?_
  refine jc_seq ?_
  refine jc_region ?_
  refine jo_f [(0, 0), (0, 0), (0, 0)] (by kernel_rfl) ?_
  refine jo_end (by kernel_rfl) ?_
  refine jx_then ?_
  refine jc_cond (t_4 != t_2) (by kernel_rfl) (fun hc_6 => ?_) (fun hc_6 => ?_)
  · replace h := ifT hc_6 h
    refine jc_seq ?_
    refine jc_region ?_
    refine jo_f [(0, 0)] (by kernel_rfl) ?_
    refine jo_end (by kernel_rfl) ?_
    refine jx_then ?_
    refine jc_ret ?_
    refine jx_thenr ?_
    obtain rfl := Option.some.inj h
    exact jx_ret [] (.bool false) [] rfl (by kernel_rfl) (by kernel_rfl) (fun w hm => ⟨rfl, hm.pick [] (by kernel_rfl) (by kernel_rfl)⟩)
  · replace h := ifF hc_6 h
    refine jc_skip ?_
    refine jx_then ?_
    refine jc_seq ?_
    refine jc_region ?_
    refine jo_f [(0, 0)] (by kernel_rfl) ?_
    refine jo_end (by kernel_rfl) ?_
    refine jx_then ?_
    refine jc_ret ?_
    obtain rfl := Option.some.inj h
    exact jx_ret [] (.bool true) [] rfl (by kernel_rfl) (by kernel_rfl) (fun w hm => ⟨rfl, hm.pick [] (by kernel_rfl) (by kernel_rfl)⟩)

/-! ### laws.toNote -/
noncomputable def laws_toNote (a0 : GNote) : Option (GNote) := some a0
set_option maxRecDepth 100000 in
theorem laws_toNote.calls (a0 : GNote) (w : World) (r : GNote) (h : laws_toNote a0 = some r) :
    Calls Try.prog 19 #[(.agg #[(.int .i16 a0.fAt), (.int .i8 a0.fPitch)])] w fun e w' => ∃ v, e = .returned v ∧ (v = .agg #[(.int .i16 r.fAt), (.int .i8 r.fPitch)] ∧ Mem w [] [] w') := by
  rw [laws_toNote] at h
  refine enter (args := [(.agg #[(.int .i16 a0.fAt), (.int .i8 a0.fPitch)])]) Try.func19 rfl Try.ntmps19 (by kernel_rfl) (L := []) (W := []) (Mem.start w) ?_
  refine jc_seq ?_
  refine jc_region ?_
  refine toO (by kernel_rfl) (p_a 0 [0] (by kernel_rfl) (fun b => by kernel_rfl) (fun b_1 => jkO ?_))
  refine toO (by kernel_rfl) (p_a 0 [0] (by kernel_rfl) (fun b => by kernel_rfl) (fun b_2 => jkO ?_))
  refine jo_end (by kernel_rfl) ?_
  refine jx_then ?_
  refine jc_seq ?_
  refine jc_region ?_
  refine toO (by kernel_rfl) (p_a 0 [0] (by kernel_rfl) (fun b => by kernel_rfl) (fun b_3 => jkO ?_))
  refine jo_end (by kernel_rfl) ?_
  refine jx_then ?_
  refine jc_seq ?_
  refine jc_region ?_
  refine jo_f [(0, 0), (0, 0), (0, 0)] (by kernel_rfl) ?_
  refine toO (by kernel_rfl) (p_s 0 [2] (by kernel_rfl) (by kernel_rfl) (jkO ?_))
  refine jo_end (by kernel_rfl) ?_
  refine jx_then ?_
  refine jc_seq ?_
  refine jc_region ?_
  refine jo_f [(0, 0), (0, 0), (0, 0)] (by kernel_rfl) ?_
  refine toO (by kernel_rfl) (p_s 0 [2] (by kernel_rfl) (by kernel_rfl) (jkO ?_))
  refine jo_end (by kernel_rfl) ?_
  refine jx_then ?_
  refine jc_seq ?_
  refine jc_region ?_
  refine jo_f [(2, 0)] (by kernel_rfl) ?_
  refine toO (by kernel_rfl) (p_s 0 [1] (by kernel_rfl) (by kernel_rfl) (jkO ?_))
  refine jo_end (by kernel_rfl) ?_
  refine jx_then ?_
  refine jc_ret ?_
  obtain rfl := Option.some.inj h
  exact jx_ret [1] (.agg #[(.int .i16 a0.fAt), (.int .i8 a0.fPitch)]) [(b_2, b_2), (b_2, b_2)] rfl (by kernel_rfl) (by kernel_rfl) (fun w hm => ⟨rfl, hm.pick [] (by kernel_rfl) (by kernel_rfl)⟩)

/-! ### spec.l01Note -/
noncomputable def spec_l01Note (n0 : GNote) : Option (Bool) := (spec_l00In (w64 n0.fAt) 0 199).bind fun t_1 => (if t_1 = true then (spec_l00In (w64 n0.fPitch) 0 47).bind fun t_2 => some t_2 else some false)
set_option maxRecDepth 100000 in
theorem spec_l01Note.calls (n0 : GNote) (w : World) (r : Bool) (h : spec_l01Note n0 = some r) :
    Calls Try.prog 36 #[(.agg #[(.int .i16 n0.fAt), (.int .i8 n0.fPitch)])] w fun e w' => ∃ v, e = .returned v ∧ (v = (.bool r) ∧ Mem w [] [] w') := by
  rw [spec_l01Note] at h
  refine enter (args := [(.agg #[(.int .i16 n0.fAt), (.int .i8 n0.fPitch)])]) Try.func36 rfl Try.ntmps36 (by kernel_rfl) (L := []) (W := []) (Mem.start w) ?_
  refine jc_seq ?_
  refine jc_region ?_
  refine toO (by kernel_rfl) (p_a 0 [0] (by kernel_rfl) (fun b => by kernel_rfl) (fun b_1 => jkO ?_))
  refine jo_f [(0, 0)] (by kernel_rfl) ?_
  refine jo_end (by kernel_rfl) ?_
  refine jx_then ?_
  refine jc_seq ?_
  refine jc_region ?_
  refine jo_f [(0, 0), (0, 0), (0, 0)] (by kernel_rfl) ?_
  obtain ⟨t_1, ht_2, h⟩ := bd h
  refine toO (by kernel_rfl) (p_call 0 54 #[(.int .i64 (w64 n0.fAt)), (.int .i64 0), (.int .i64 199)] (by kernel_rfl) (by kernel_rfl) (fun w hm => spec_l00In.calls (w64 n0.fAt) 0 199 w _ ht_2) ?_)
  rintro w v w' hm ⟨rfl, hm'⟩
  refine ⟨_, hm.app hm', jkO ?_⟩
  clear hm hm'
  refine jo_f [(0, 0), (0, 1), (0, 1), (0, 1)] (by kernel_rfl) ?_
  refine jo_split 7 t_1 (by kernel_rfl) (fun hc_3 => ?_) (fun hc_3 => ?_)
  · replace h := ifT hc_3 h
    obtain ⟨t_2, ht_4, h⟩ := bd h
    refine toO (by kernel_rfl) (p_call 2 54 #[(.int .i64 (w64 n0.fPitch)), (.int .i64 0), (.int .i64 47)] (by kernel_rfl) (by kernel_rfl) (fun w hm => spec_l00In.calls (w64 n0.fPitch) 0 47 w _ ht_4) ?_)
    rintro w v w' hm ⟨rfl, hm'⟩
    refine ⟨_, hm.app hm', jkO ?_⟩
    clear hm hm'
    refine jo_f [(0, 4), (0, 0)] (by kernel_rfl) ?_
    refine jo_end (by kernel_rfl) ?_
    refine jx_then ?_
    refine jc_ret ?_
    obtain rfl := Option.some.inj h
    exact jx_ret [] (.bool t_2) [] rfl (by kernel_rfl) (by kernel_rfl) (fun w hm => ⟨rfl, hm.pick [] (by kernel_rfl) (by kernel_rfl)⟩)
  · replace h := ifF hc_3 h
    refine jo_f [(0, 3), (0, 5), (0, 0)] (by kernel_rfl) ?_
    refine jo_end (by kernel_rfl) ?_
    refine jx_then ?_
    refine jc_ret ?_
    obtain rfl := Option.some.inj h
    exact jx_ret [] (.bool false) [] rfl (by kernel_rfl) (by kernel_rfl) (fun w hm => ⟨rfl, hm.pick [] (by kernel_rfl) (by kernel_rfl)⟩)

/-! ### spec.NoteOf -/
noncomputable def spec_NoteOf.k_2 (n0 : GNote) (x1 : GChoice) (q_1 : Bool) : Option (GNote × Int) := (if q_1 = true then some ((⟨0, 0⟩ : GNote), 1) else (if x1.fAway = true then some ((⟨0, 0⟩ : GNote), 4) else some ((⟨(w16 (n0.fAt + (w16 x1.fLate))), (w8 (n0.fPitch + (w8 (12 * x1.fOctave))))⟩ : GNote), 0)))
noncomputable def spec_NoteOf (n0 : GNote) (x1 : GChoice) : Option (GNote × Int) := (spec_l01Note n0).bind fun t_3 => (if (!t_3) = true then spec_NoteOf.k_2 n0 x1 true else (spec_l07Choice x1).bind fun t_4 => spec_NoteOf.k_2 n0 x1 (!t_4))
set_option maxRecDepth 100000 in
theorem spec_NoteOf.calls (n0 : GNote) (x1 : GChoice) (w : World) (r : GNote × Int) (h : spec_NoteOf n0 x1 = some r) :
    Calls Try.prog 18 #[(.agg #[(.int .i16 n0.fAt), (.int .i8 n0.fPitch)]), (.agg #[(.bool x1.fAway), (.int .i8 x1.fLate), (.int .i8 x1.fOctave), (.int .i8 x1.fTrack)])] w fun e w' => ∃ v, e = .returned v ∧ (v = .tuple #[.agg #[(.int .i16 r.1.fAt), (.int .i8 r.1.fPitch)], (.int .i64 r.2)] ∧ Mem w [] [] w') := by
  rw [spec_NoteOf] at h
  refine enter (args := [(.agg #[(.int .i16 n0.fAt), (.int .i8 n0.fPitch)]), (.agg #[(.bool x1.fAway), (.int .i8 x1.fLate), (.int .i8 x1.fOctave), (.int .i8 x1.fTrack)])]) Try.func18 rfl Try.ntmps18 (by kernel_rfl) (L := []) (W := []) (Mem.start w) ?_
  refine jc_seq ?_
  refine jc_region ?_
  refine toO (by kernel_rfl) (p_a 0 [0] (by kernel_rfl) (fun b => by kernel_rfl) (fun b_1 => jkO ?_))
  refine toO (by kernel_rfl) (p_a 0 [0] (by kernel_rfl) (fun b => by kernel_rfl) (fun b_2 => jkO ?_))
  refine toO (by kernel_rfl) (p_a 0 [0] (by kernel_rfl) (fun b => by kernel_rfl) (fun b_3 => jkO ?_))
  refine jo_f [(0, 0)] (by kernel_rfl) ?_
  refine jo_end (by kernel_rfl) ?_
  refine jx_then ?_
  refine jc_seq ?_
  refine jc_seq ?_
  refine jc_meet (fun (j : Bool) => match j with | q_1 => spec_NoteOf.k_2 n0 x1 q_1 = some r) (fun (j : Bool) => match j with | q_1 => [(2, [], (.pointer (some ⟨b_1, 0, none⟩))), (3, [], (.pointer (some ⟨b_2, 0, none⟩))), (4, [], (.pointer (some ⟨b_3, 0, none⟩))), (5, [], (.int .i64 0)), (13, [], (.bool q_1))]) (fun (j : Bool) => match j with | q_1 => [⟨some b_1, 44, [(.int .i16 n0.fAt), (.int .i8 n0.fPitch)]⟩, ⟨some b_2, 39, [(.bool x1.fAway), (.int .i8 x1.fLate), (.int .i8 x1.fOctave), (.int .i8 x1.fTrack)]⟩, ⟨some b_3, 44, [(.int .i16 0), (.int .i8 0)]⟩]) ?_ ?_
  · refine jc_region ?_
    refine jo_f [(0, 0)] (by kernel_rfl) ?_
    obtain ⟨t_3, ht_17, h⟩ := bd h
    refine toO (by kernel_rfl) (p_call 0 36 #[(.agg #[(.int .i16 n0.fAt), (.int .i8 n0.fPitch)])] (by kernel_rfl) (by kernel_rfl) (fun w hm => spec_l01Note.calls n0 w _ ht_17) ?_)
    rintro w v w' hm ⟨rfl, hm'⟩
    refine ⟨_, hm.app hm', jkO ?_⟩
    clear hm hm'
    refine jo_f [(0, 0), (0, 0), (1, 1)] (by kernel_rfl) ?_
    refine jo_split 9 (!t_3) (by kernel_rfl) (fun hc_18 => ?_) (fun hc_18 => ?_)
    · replace h := ifT hc_18 h
      refine jo_f [(0, 3), (0, 3), (0, 4)] (by kernel_rfl) ?_
      refine jo_end (by kernel_rfl) ?_
      exact jx_meet true h (by kernel_rfl) [0, 1, 2] (by kernel_rfl) (by kernel_rfl)
    · replace h := ifF hc_18 h
      obtain ⟨t_4, ht_19, h⟩ := bd h
      refine toO (by kernel_rfl) (p_call 2 35 #[(.agg #[(.bool x1.fAway), (.int .i8 x1.fLate), (.int .i8 x1.fOctave), (.int .i8 x1.fTrack)])] (by kernel_rfl) (by kernel_rfl) (fun w hm => spec_l07Choice.calls x1 w _ ht_19) ?_)
      rintro w v w' hm ⟨rfl, hm'⟩
      refine ⟨_, hm.app hm', jkO ?_⟩
      clear hm hm'
      refine jo_f [(0, 2), (0, 5)] (by kernel_rfl) ?_
      refine jo_end (by kernel_rfl) ?_
      exact jx_meet (!t_4) h (by kernel_rfl) [0, 1, 2] (by kernel_rfl) (by kernel_rfl)
  · rintro q_1 h
    replace h : spec_NoteOf.k_2 n0 x1 q_1 = some r := h
    rw [spec_NoteOf.k_2] at h
    refine jx_then ?_
    refine jc_cond q_1 (by kernel_rfl) (fun hc_14 => ?_) (fun hc_14 => ?_)
    · replace h := ifT hc_14 h
      refine jc_seq ?_
      refine jc_region ?_
      refine jo_f [(0, 0)] (by kernel_rfl) ?_
      refine toO (by kernel_rfl) (p_s 0 [2] (by kernel_rfl) (by kernel_rfl) (jkO ?_))
      refine jo_f [(0, 0)] (by kernel_rfl) ?_
      refine jo_end (by kernel_rfl) ?_
      refine jx_then ?_
      refine jc_ret ?_
      refine jx_thenr ?_
      obtain rfl := Option.some.inj h
      exact jx_ret [2] (.tuple #[(.agg #[(.int .i16 0), (.int .i8 0)]), (.int .i64 1)]) [(b_3, b_3), (b_3, b_3)] rfl (by kernel_rfl) (by kernel_rfl) (fun w hm => ⟨rfl, hm.pick [] (by kernel_rfl) (by kernel_rfl)⟩)
    · replace h := ifF hc_14 h
      refine jc_skip ?_
      refine jx_then ?_
      refine jc_seq ?_
      refine jc_seq ?_
      refine jc_region ?_
      refine jo_f [(0, 0), (1, 0)] (by kernel_rfl) ?_
      refine jo_end (by kernel_rfl) ?_
      refine jx_then ?_
      refine jc_cond x1.fAway (by kernel_rfl) (fun hc_16 => ?_) (fun hc_16 => ?_)
      · replace h := ifT hc_16 h
        refine jc_seq ?_
        refine jc_region ?_
        refine jo_f [(0, 0)] (by kernel_rfl) ?_
        refine toO (by kernel_rfl) (p_s 0 [2] (by kernel_rfl) (by kernel_rfl) (jkO ?_))
        refine jo_f [(0, 0)] (by kernel_rfl) ?_
        refine jo_end (by kernel_rfl) ?_
        refine jx_then ?_
        refine jc_ret ?_
        refine jx_thenr ?_
        obtain rfl := Option.some.inj h
        exact jx_ret [2] (.tuple #[(.agg #[(.int .i16 0), (.int .i8 0)]), (.int .i64 4)]) [(b_3, b_3), (b_3, b_3)] rfl (by kernel_rfl) (by kernel_rfl) (fun w hm => ⟨rfl, hm.pick [] (by kernel_rfl) (by kernel_rfl)⟩)
      · replace h := ifF hc_16 h
        refine jc_skip ?_
        refine jx_then ?_
        refine jc_seq ?_
        refine jc_region ?_
        refine jo_f [(0, 0), (0, 0), (0, 0), (1, 0), (0, 0), (0, 0), (0, 0), (0, 0), (0, 0), (1, 0), (0, 0), (0, 0), (0, 0)] (by kernel_rfl) ?_
        refine toO (by kernel_rfl) (p_s 0 [2] (by kernel_rfl) (by kernel_rfl) (jkO ?_))
        refine jo_f [(0, 0)] (by kernel_rfl) ?_
        refine jo_end (by kernel_rfl) ?_
        refine jx_then ?_
        refine jc_ret ?_
        obtain rfl := Option.some.inj h
        exact jx_ret [2] (.tuple #[(.agg #[(.int .i16 (w16 (n0.fAt + (w16 x1.fLate)))), (.int .i8 (w8 (n0.fPitch + (w8 (12 * x1.fOctave)))))]), (.int .i64 0)]) [(b_3, b_3), (b_3, b_3)] rfl (by kernel_rfl) (by kernel_rfl) (fun w hm => ⟨rfl, hm.pick [] (by kernel_rfl) (by kernel_rfl)⟩)

/-! ### impl.isPitch -/
noncomputable def impl_isPitch (n0 : Int) : Option (Bool) := (impl_within n0 0 47).bind fun t_1 => some t_1
set_option maxRecDepth 100000 in
theorem impl_isPitch.calls (n0 : Int) (w : World) (r : Bool) (h : impl_isPitch n0 = some r) :
    Calls Try.prog 55 #[(.int .i64 n0)] w fun e w' => ∃ v, e = .returned v ∧ (v = (.bool r) ∧ Mem w [] [] w') := by
  rw [impl_isPitch] at h
  refine enter (args := [(.int .i64 n0)]) Try.func55 rfl Try.ntmps55 (by kernel_rfl) (L := []) (W := []) (Mem.start w) ?_
  refine jc_seq ?_
  refine jc_region ?_
  refine jo_f [(0, 0)] (by kernel_rfl) ?_
  refine jo_end (by kernel_rfl) ?_
  refine jx_then ?_
  refine jc_seq ?_
  refine jc_region ?_
  refine jo_f [(0, 0)] (by kernel_rfl) ?_
  obtain ⟨t_1, ht_1, h⟩ := bd h
  refine toO (by kernel_rfl) (p_call 0 33 #[(.int .i64 n0), (.int .i64 0), (.int .i64 47)] (by kernel_rfl) (by kernel_rfl) (fun w hm => impl_within.calls n0 0 47 w _ ht_1) ?_)
  rintro w v w' hm ⟨rfl, hm'⟩
  refine ⟨_, hm.app hm', jkO ?_⟩
  clear hm hm'
  refine jo_f [(0, 0)] (by kernel_rfl) ?_
  refine jo_end (by kernel_rfl) ?_
  refine jx_then ?_
  refine jc_ret ?_
  obtain rfl := Option.some.inj h
  exact jx_ret [] (.bool t_1) [] rfl (by kernel_rfl) (by kernel_rfl) (fun w hm => ⟨rfl, hm.pick [] (by kernel_rfl) (by kernel_rfl)⟩)

/-! ### impl.isNote -/
noncomputable def impl_isNote (n0 : GNote) : Option (Bool) := (impl_within (w64 n0.fAt) 0 199).bind fun t_1 => (if t_1 = true then (impl_isPitch (w64 n0.fPitch)).bind fun t_2 => some t_2 else some false)
set_option maxRecDepth 100000 in
theorem impl_isNote.calls (n0 : GNote) (w : World) (r : Bool) (h : impl_isNote n0 = some r) :
    Calls Try.prog 37 #[(.agg #[(.int .i16 n0.fAt), (.int .i8 n0.fPitch)])] w fun e w' => ∃ v, e = .returned v ∧ (v = (.bool r) ∧ Mem w [] [] w') := by
  rw [impl_isNote] at h
  refine enter (args := [(.agg #[(.int .i16 n0.fAt), (.int .i8 n0.fPitch)])]) Try.func37 rfl Try.ntmps37 (by kernel_rfl) (L := []) (W := []) (Mem.start w) ?_
  refine jc_seq ?_
  refine jc_region ?_
  refine toO (by kernel_rfl) (p_a 0 [0] (by kernel_rfl) (fun b => by kernel_rfl) (fun b_1 => jkO ?_))
  refine jo_f [(0, 0)] (by kernel_rfl) ?_
  refine jo_end (by kernel_rfl) ?_
  refine jx_then ?_
  refine jc_seq ?_
  refine jc_region ?_
  refine jo_f [(0, 0), (0, 0), (0, 0)] (by kernel_rfl) ?_
  obtain ⟨t_1, ht_2, h⟩ := bd h
  refine toO (by kernel_rfl) (p_call 0 33 #[(.int .i64 (w64 n0.fAt)), (.int .i64 0), (.int .i64 199)] (by kernel_rfl) (by kernel_rfl) (fun w hm => impl_within.calls (w64 n0.fAt) 0 199 w _ ht_2) ?_)
  rintro w v w' hm ⟨rfl, hm'⟩
  refine ⟨_, hm.app hm', jkO ?_⟩
  clear hm hm'
  refine jo_f [(0, 0), (0, 1), (0, 1), (0, 1)] (by kernel_rfl) ?_
  refine jo_split 7 t_1 (by kernel_rfl) (fun hc_3 => ?_) (fun hc_3 => ?_)
  · replace h := ifT hc_3 h
    obtain ⟨t_2, ht_4, h⟩ := bd h
    refine toO (by kernel_rfl) (p_call 2 55 #[(.int .i64 (w64 n0.fPitch))] (by kernel_rfl) (by kernel_rfl) (fun w hm => impl_isPitch.calls (w64 n0.fPitch) w _ ht_4) ?_)
    rintro w v w' hm ⟨rfl, hm'⟩
    refine ⟨_, hm.app hm', jkO ?_⟩
    clear hm hm'
    refine jo_f [(0, 4), (0, 0)] (by kernel_rfl) ?_
    refine jo_end (by kernel_rfl) ?_
    refine jx_then ?_
    refine jc_ret ?_
    obtain rfl := Option.some.inj h
    exact jx_ret [] (.bool t_2) [] rfl (by kernel_rfl) (by kernel_rfl) (fun w hm => ⟨rfl, hm.pick [] (by kernel_rfl) (by kernel_rfl)⟩)
  · replace h := ifF hc_3 h
    refine jo_f [(0, 3), (0, 5), (0, 0)] (by kernel_rfl) ?_
    refine jo_end (by kernel_rfl) ?_
    refine jx_then ?_
    refine jc_ret ?_
    obtain rfl := Option.some.inj h
    exact jx_ret [] (.bool false) [] rfl (by kernel_rfl) (by kernel_rfl) (fun w hm => ⟨rfl, hm.pick [] (by kernel_rfl) (by kernel_rfl)⟩)

/-! ### impl.NoteOf -/
noncomputable def impl_NoteOf.k_2 (n0 : GNote) (x1 : GChoice) (q_1 : Bool) : Option (GNote × Int) := (if q_1 = true then some ((⟨0, 0⟩ : GNote), 1) else (if x1.fAway = true then some ((⟨0, 0⟩ : GNote), 4) else some ((⟨(w16 (n0.fAt + (w16 x1.fLate))), (w8 (n0.fPitch + (w8 (12 * x1.fOctave))))⟩ : GNote), 0)))
noncomputable def impl_NoteOf (n0 : GNote) (x1 : GChoice) : Option (GNote × Int) := (impl_isNote n0).bind fun t_3 => (if (!t_3) = true then impl_NoteOf.k_2 n0 x1 true else (impl_ValidChoice x1).bind fun t_4 => impl_NoteOf.k_2 n0 x1 (!t_4))
set_option maxRecDepth 100000 in
theorem impl_NoteOf.calls (n0 : GNote) (x1 : GChoice) (w : World) (r : GNote × Int) (h : impl_NoteOf n0 x1 = some r) :
    Calls Try.prog 20 #[(.agg #[(.int .i16 n0.fAt), (.int .i8 n0.fPitch)]), (.agg #[(.bool x1.fAway), (.int .i8 x1.fLate), (.int .i8 x1.fOctave), (.int .i8 x1.fTrack)])] w fun e w' => ∃ v, e = .returned v ∧ (v = .tuple #[.agg #[(.int .i16 r.1.fAt), (.int .i8 r.1.fPitch)], (.int .i64 r.2)] ∧ Mem w [] [] w') := by
  rw [impl_NoteOf] at h
  refine enter (args := [(.agg #[(.int .i16 n0.fAt), (.int .i8 n0.fPitch)]), (.agg #[(.bool x1.fAway), (.int .i8 x1.fLate), (.int .i8 x1.fOctave), (.int .i8 x1.fTrack)])]) Try.func20 rfl Try.ntmps20 (by kernel_rfl) (L := []) (W := []) (Mem.start w) ?_
  refine jc_seq ?_
  refine jc_region ?_
  refine toO (by kernel_rfl) (p_a 0 [0] (by kernel_rfl) (fun b => by kernel_rfl) (fun b_1 => jkO ?_))
  refine toO (by kernel_rfl) (p_a 0 [0] (by kernel_rfl) (fun b => by kernel_rfl) (fun b_2 => jkO ?_))
  refine toO (by kernel_rfl) (p_a 0 [0] (by kernel_rfl) (fun b => by kernel_rfl) (fun b_3 => jkO ?_))
  refine jo_f [(0, 0)] (by kernel_rfl) ?_
  refine jo_end (by kernel_rfl) ?_
  refine jx_then ?_
  refine jc_seq ?_
  refine jc_block ?_
  refine jc_seq ?_
  refine jc_meet (fun (j : Bool) => match j with | q_1 => impl_NoteOf.k_2 n0 x1 q_1 = some r) (fun (j : Bool) => match j with | q_1 => [(2, [], (.pointer (some ⟨b_1, 0, none⟩))), (3, [], (.pointer (some ⟨b_2, 0, none⟩))), (4, [], (.pointer (some ⟨b_3, 0, none⟩))), (5, [], (.int .i64 0)), (6, [], (.bool q_1))]) (fun (j : Bool) => match j with | q_1 => [⟨some b_1, 44, [(.int .i16 n0.fAt), (.int .i8 n0.fPitch)]⟩, ⟨some b_2, 39, [(.bool x1.fAway), (.int .i8 x1.fLate), (.int .i8 x1.fOctave), (.int .i8 x1.fTrack)]⟩, ⟨some b_3, 44, [(.int .i16 0), (.int .i8 0)]⟩]) ?_ ?_
  · refine jc_region ?_
    refine jo_f [(0, 0)] (by kernel_rfl) ?_
    obtain ⟨t_3, ht_17, h⟩ := bd h
    refine toO (by kernel_rfl) (p_call 0 37 #[(.agg #[(.int .i16 n0.fAt), (.int .i8 n0.fPitch)])] (by kernel_rfl) (by kernel_rfl) (fun w hm => impl_isNote.calls n0 w _ ht_17) ?_)
    rintro w v w' hm ⟨rfl, hm'⟩
    refine ⟨_, hm.app hm', jkO ?_⟩
    clear hm hm'
    refine jo_f [(0, 0), (0, 0), (1, 1)] (by kernel_rfl) ?_
    refine jo_split 10 (!t_3) (by kernel_rfl) (fun hc_18 => ?_) (fun hc_18 => ?_)
    · replace h := ifT hc_18 h
      refine jo_f [(0, 3), (0, 3), (0, 4), (0, 0)] (by kernel_rfl) ?_
      refine jo_end (by kernel_rfl) ?_
      exact jx_meet true h (by kernel_rfl) [0, 1, 2] (by kernel_rfl) (by kernel_rfl)
    · replace h := ifF hc_18 h
      obtain ⟨t_4, ht_19, h⟩ := bd h
      refine toO (by kernel_rfl) (p_call 2 17 #[(.agg #[(.bool x1.fAway), (.int .i8 x1.fLate), (.int .i8 x1.fOctave), (.int .i8 x1.fTrack)])] (by kernel_rfl) (by kernel_rfl) (fun w hm => impl_ValidChoice.calls x1 w _ ht_19) ?_)
      rintro w v w' hm ⟨rfl, hm'⟩
      refine ⟨_, hm.app hm', jkO ?_⟩
      clear hm hm'
      refine jo_f [(0, 2), (0, 5), (0, 0)] (by kernel_rfl) ?_
      refine jo_end (by kernel_rfl) ?_
      exact jx_meet (!t_4) h (by kernel_rfl) [0, 1, 2] (by kernel_rfl) (by kernel_rfl)
  · rintro q_1 h
    replace h : impl_NoteOf.k_2 n0 x1 q_1 = some r := h
    rw [impl_NoteOf.k_2] at h
    refine jx_then ?_
    refine jc_cond q_1 (by kernel_rfl) (fun hc_15 => ?_) (fun hc_15 => ?_)
    · replace h := ifT hc_15 h
      refine jc_seq ?_
      refine jc_region ?_
      refine jo_f [(0, 0)] (by kernel_rfl) ?_
      refine toO (by kernel_rfl) (p_s 0 [2] (by kernel_rfl) (by kernel_rfl) (jkO ?_))
      refine jo_f [(0, 0)] (by kernel_rfl) ?_
      refine jo_end (by kernel_rfl) ?_
      refine jx_then ?_
      refine jc_ret ?_
      refine jx_inr ?_
      refine jx_thenr ?_
      obtain rfl := Option.some.inj h
      exact jx_ret [2] (.tuple #[(.agg #[(.int .i16 0), (.int .i8 0)]), (.int .i64 1)]) [(b_3, b_3), (b_3, b_3)] rfl (by kernel_rfl) (by kernel_rfl) (fun w hm => ⟨rfl, hm.pick [] (by kernel_rfl) (by kernel_rfl)⟩)
    · replace h := ifF hc_15 h
      refine jc_seq ?_
      refine jc_region ?_
      refine jo_f [(0, 0), (1, 0), (0, 0)] (by kernel_rfl) ?_
      refine jo_end (by kernel_rfl) ?_
      refine jx_then ?_
      refine jc_cond x1.fAway (by kernel_rfl) (fun hc_16 => ?_) (fun hc_16 => ?_)
      · replace h := ifT hc_16 h
        refine jc_seq ?_
        refine jc_region ?_
        refine jo_f [(0, 0)] (by kernel_rfl) ?_
        refine toO (by kernel_rfl) (p_s 0 [2] (by kernel_rfl) (by kernel_rfl) (jkO ?_))
        refine jo_f [(0, 0)] (by kernel_rfl) ?_
        refine jo_end (by kernel_rfl) ?_
        refine jx_then ?_
        refine jc_ret ?_
        refine jx_inr ?_
        refine jx_thenr ?_
        obtain rfl := Option.some.inj h
        exact jx_ret [2] (.tuple #[(.agg #[(.int .i16 0), (.int .i8 0)]), (.int .i64 4)]) [(b_3, b_3), (b_3, b_3)] rfl (by kernel_rfl) (by kernel_rfl) (fun w hm => ⟨rfl, hm.pick [] (by kernel_rfl) (by kernel_rfl)⟩)
      · replace h := ifF hc_16 h
        refine jc_skip ?_
        refine jx_inn ?_
        refine jx_then ?_
        refine jc_seq ?_
        refine jc_region ?_
        refine jo_f [(0, 0), (0, 0), (0, 0), (1, 0), (0, 0), (0, 0), (0, 0), (0, 0), (0, 0), (1, 0), (0, 0), (0, 0), (0, 0)] (by kernel_rfl) ?_
        refine toO (by kernel_rfl) (p_s 0 [2] (by kernel_rfl) (by kernel_rfl) (jkO ?_))
        refine jo_f [(0, 0)] (by kernel_rfl) ?_
        refine jo_end (by kernel_rfl) ?_
        refine jx_then ?_
        refine jc_ret ?_
        obtain rfl := Option.some.inj h
        exact jx_ret [2] (.tuple #[(.agg #[(.int .i16 (w16 (n0.fAt + (w16 x1.fLate)))), (.int .i8 (w8 (n0.fPitch + (w8 (12 * x1.fOctave)))))]), (.int .i64 0)]) [(b_3, b_3), (b_3, b_3)] rfl (by kernel_rfl) (by kernel_rfl) (fun w hm => ⟨rfl, hm.pick [] (by kernel_rfl) (by kernel_rfl)⟩)

/-! ### laws.eqNote -/
noncomputable def laws_eqNote (a0 : GNote) (b1 : GNote) : Option (Bool) := (if (a0.fAt != b1.fAt) = true then some false else (if (a0.fPitch != b1.fPitch) = true then some false else some true))
set_option maxRecDepth 100000 in
theorem laws_eqNote.calls (a0 : GNote) (b1 : GNote) (w : World) (r : Bool) (h : laws_eqNote a0 b1 = some r) :
    Calls Try.prog 21 #[(.agg #[(.int .i16 a0.fAt), (.int .i8 a0.fPitch)]), (.agg #[(.int .i16 b1.fAt), (.int .i8 b1.fPitch)])] w fun e w' => ∃ v, e = .returned v ∧ (v = (.bool r) ∧ Mem w [] [] w') := by
  rw [laws_eqNote] at h
  refine enter (args := [(.agg #[(.int .i16 a0.fAt), (.int .i8 a0.fPitch)]), (.agg #[(.int .i16 b1.fAt), (.int .i8 b1.fPitch)])]) Try.func21 rfl Try.ntmps21 (by kernel_rfl) (L := []) (W := []) (Mem.start w) ?_
  refine jc_seq ?_
  refine jc_region ?_
  refine toO (by kernel_rfl) (p_a 0 [0] (by kernel_rfl) (fun b => by kernel_rfl) (fun b_1 => jkO ?_))
  refine toO (by kernel_rfl) (p_a 0 [0] (by kernel_rfl) (fun b => by kernel_rfl) (fun b_2 => jkO ?_))
  refine jo_f [(0, 0)] (by kernel_rfl) ?_
  refine jo_end (by kernel_rfl) ?_
  refine jx_then ?_
  refine jc_seq ?_
  refine jc_seq ?_
  refine jc_region ?_
  refine jo_f [(0, 0), (0, 0), (0, 0), (1, 0), (0, 0)] (by kernel_rfl) ?_
  refine jo_end (by kernel_rfl) ?_
  refine jx_then ?_
  refine jc_cond (a0.fAt != b1.fAt) (by kernel_rfl) (fun hc_4 => ?_) (fun hc_4 => ?_)
  · replace h := ifT hc_4 h
    refine jc_seq ?_
    refine jc_region ?_
    refine jo_f [(0, 0)] (by kernel_rfl) ?_
    refine jo_end (by kernel_rfl) ?_
    refine jx_then ?_
    refine jc_ret ?_
    refine jx_thenr ?_
    obtain rfl := Option.some.inj h
    exact jx_ret [] (.bool false) [] rfl (by kernel_rfl) (by kernel_rfl) (fun w hm => ⟨rfl, hm.pick [] (by kernel_rfl) (by kernel_rfl)⟩)
  · replace h := ifF hc_4 h
    refine jc_skip ?_
    refine jx_then ?_
    refine jc_seq ?_
    refine jc_seq ?_
    refine jc_region ?_
    refine jo_f [(0, 0), (0, 0), (0, 0), (1, 0), (0, 0)] (by kernel_rfl) ?_
    refine jo_end (by kernel_rfl) ?_
    refine jx_then ?_
    refine jc_cond (a0.fPitch != b1.fPitch) (by kernel_rfl) (fun hc_5 => ?_) (fun hc_5 => ?_)
    · replace h := ifT hc_5 h
      refine jc_seq ?_
      refine jc_region ?_
      refine jo_f [(0, 0)] (by kernel_rfl) ?_
      refine jo_end (by kernel_rfl) ?_
      refine jx_then ?_
      refine jc_ret ?_
      refine jx_thenr ?_
      obtain rfl := Option.some.inj h
      exact jx_ret [] (.bool false) [] rfl (by kernel_rfl) (by kernel_rfl) (fun w hm => ⟨rfl, hm.pick [] (by kernel_rfl) (by kernel_rfl)⟩)
    · replace h := ifF hc_5 h
      refine jc_skip ?_
      refine jx_then ?_
      refine jc_seq ?_
      refine jc_region ?_
      refine jo_f [(0, 0)] (by kernel_rfl) ?_
      refine jo_end (by kernel_rfl) ?_
      refine jx_then ?_
      refine jc_ret ?_
      obtain rfl := Option.some.inj h
      exact jx_ret [] (.bool true) [] rfl (by kernel_rfl) (by kernel_rfl) (fun w hm => ⟨rfl, hm.pick [] (by kernel_rfl) (by kernel_rfl)⟩)

/-! ### laws.FnExactNoteOf -/
noncomputable def laws_FnExactNoteOf (aN0 : GNote) (aX1 : GChoice) : Option (Bool) := (laws_toNote aN0).bind fun t_1 => (laws_toChoice aX1).bind fun t_2 => (spec_NoteOf t_1 t_2).bind fun t_3 => (laws_toNote aN0).bind fun t_4 => (laws_toChoice aX1).bind fun t_5 => (impl_NoteOf t_4 t_5).bind fun t_6 => (laws_eqNote t_6.1 t_3.1).bind fun t_7 => (if ((!t_7) || (t_6.2 != t_3.2)) = true then some false else some true)
set_option maxRecDepth 100000 in
theorem laws_FnExactNoteOf.calls (aN0 : GNote) (aX1 : GChoice) (w : World) (r : Bool) (h : laws_FnExactNoteOf aN0 aX1 = some r) :
    Calls Try.prog 6 #[(.agg #[(.int .i16 aN0.fAt), (.int .i8 aN0.fPitch)]), (.agg #[(.bool aX1.fAway), (.int .i8 aX1.fLate), (.int .i8 aX1.fOctave), (.int .i8 aX1.fTrack)])] w fun e w' => ∃ v, e = .returned v ∧ (v = (.bool r) ∧ Mem w [] [] w') := by
  rw [laws_FnExactNoteOf] at h
  refine enter (args := [(.agg #[(.int .i16 aN0.fAt), (.int .i8 aN0.fPitch)]), (.agg #[(.bool aX1.fAway), (.int .i8 aX1.fLate), (.int .i8 aX1.fOctave), (.int .i8 aX1.fTrack)])]) Try.func6 rfl Try.ntmps6 (by kernel_rfl) (L := []) (W := []) (Mem.start w) ?_
  refine jc_seq ?_
  refine jc_region ?_
  refine toO (by kernel_rfl) (p_a 0 [0] (by kernel_rfl) (fun b => by kernel_rfl) (fun b_1 => jkO ?_))
  refine toO (by kernel_rfl) (p_a 0 [0] (by kernel_rfl) (fun b => by kernel_rfl) (fun b_2 => jkO ?_))
  refine jo_f [(0, 0)] (by kernel_rfl) ?_
  refine jo_end (by kernel_rfl) ?_
  refine jx_then ?_
  refine jc_seq ?_
  refine jc_draw [⟨some b_1, 43, [(.int .i16 aN0.fAt), (.int .i8 aN0.fPitch)]⟩, ⟨some b_2, 37, [(.bool aX1.fAway), (.int .i8 aX1.fLate), (.int .i8 aX1.fOctave), (.int .i8 aX1.fTrack)]⟩] 11 (by kernel_rfl) (by kernel_rfl) ?_
  refine jd_f [⟨0, 0, 0⟩, ⟨2, 1, 0⟩] 9 (by kernel_rfl) (by kernel_rfl) (fun w h => h.pick [0, 1] (by kernel_rfl) (by kernel_rfl)) (by kernel_rfl) (by kernel_rfl) ?_
  refine toD2 1 8 (by kernel_rfl) ?_ ?_
  · obtain ⟨t_1, ht_3, h⟩ := bd h
    refine p_call 0 19 #[(.agg #[(.int .i16 aN0.fAt), (.int .i8 aN0.fPitch)])] (by kernel_rfl) (by kernel_rfl) (fun w hm => laws_toNote.calls aN0 w _ ht_3) ?_
    rintro w v w' hm ⟨rfl, hm'⟩
    refine ⟨_, hm.app hm', jkD (fun w h => h.pick [0, 1] (by kernel_rfl) (by kernel_rfl)) ?_⟩
    clear hm hm'
    refine toD2 3 8 (by kernel_rfl) ?_ ?_
    · obtain ⟨t_2, ht_4, h⟩ := bd h
      refine p_call 0 16 #[(.agg #[(.bool aX1.fAway), (.int .i8 aX1.fLate), (.int .i8 aX1.fOctave), (.int .i8 aX1.fTrack)])] (by kernel_rfl) (by kernel_rfl) (fun w hm => laws_toChoice.calls aX1 w _ ht_4) ?_
      rintro w v w' hm ⟨rfl, hm'⟩
      refine ⟨_, hm.app hm', jkD (fun w h => h.pick [0, 1] (by kernel_rfl) (by kernel_rfl)) ?_⟩
      clear hm hm'
      refine toD2 4 8 (by kernel_rfl) ?_ ?_
      · obtain ⟨t_3, ht_5, h⟩ := bd h
        refine p_call 0 18 #[(.agg #[(.int .i16 t_1.fAt), (.int .i8 t_1.fPitch)]), (.agg #[(.bool t_2.fAway), (.int .i8 t_2.fLate), (.int .i8 t_2.fOctave), (.int .i8 t_2.fTrack)])] (by kernel_rfl) (by kernel_rfl) (fun w hm => spec_NoteOf.calls t_1 t_2 w _ ht_5) ?_
        rintro w v w' hm ⟨rfl, hm'⟩
        refine ⟨_, hm.app hm', jkD (fun w h => h.pick [0, 1] (by kernel_rfl) (by kernel_rfl)) ?_⟩
        clear hm hm'
        refine jd_f [⟨5, 0, 0⟩, ⟨6, 0, 0⟩, ⟨7, 0, 0⟩] 3 (by kernel_rfl) (by kernel_rfl) (fun w h => h.pick [0, 1] (by kernel_rfl) (by kernel_rfl)) (by kernel_rfl) (by kernel_rfl) ?_
        refine toD 8 (by kernel_rfl) (p_a 0 [0] (by kernel_rfl) (fun b => by kernel_rfl) (fun b_6 => jkD (fun w h => h.pick [0, 1] (by kernel_rfl) (by kernel_rfl)) ?_))
        refine toD 9 (by kernel_rfl) (p_s 0 [2] (by kernel_rfl) (by kernel_rfl) (jkD (fun w h => h.pick [0, 1] (by kernel_rfl) (by kernel_rfl)) ?_))
        refine jd_f [⟨10, 0, 0⟩] 0 (by kernel_rfl) (by kernel_rfl) (fun w h => h.pick [0, 1] (by kernel_rfl) (by kernel_rfl)) (by kernel_rfl) (by kernel_rfl) ?_
        refine jd_end (by kernel_rfl) ?_
        refine jx_then ?_
        refine jc_seq ?_
        refine jc_draw [⟨some b_1, 43, [(.int .i16 aN0.fAt), (.int .i8 aN0.fPitch)]⟩, ⟨some b_2, 37, [(.bool aX1.fAway), (.int .i8 aX1.fLate), (.int .i8 aX1.fOctave), (.int .i8 aX1.fTrack)]⟩, ⟨some b_6, 44, [(.int .i16 t_3.1.fAt), (.int .i8 t_3.1.fPitch)]⟩] 11 (by kernel_rfl) (by kernel_rfl) ?_
        refine jd_f [⟨0, 0, 0⟩, ⟨2, 1, 0⟩] 9 (by kernel_rfl) (by kernel_rfl) (fun w h => h.pick [0, 1, 2] (by kernel_rfl) (by kernel_rfl)) (by kernel_rfl) (by kernel_rfl) ?_
        refine toD2 1 8 (by kernel_rfl) ?_ ?_
        · obtain ⟨t_4, ht_7, h⟩ := bd h
          refine p_call 0 19 #[(.agg #[(.int .i16 aN0.fAt), (.int .i8 aN0.fPitch)])] (by kernel_rfl) (by kernel_rfl) (fun w hm => laws_toNote.calls aN0 w _ ht_7) ?_
          rintro w v w' hm ⟨rfl, hm'⟩
          refine ⟨_, hm.app hm', jkD (fun w h => h.pick [0, 1, 2] (by kernel_rfl) (by kernel_rfl)) ?_⟩
          clear hm hm'
          refine toD2 3 8 (by kernel_rfl) ?_ ?_
          · obtain ⟨t_5, ht_8, h⟩ := bd h
            refine p_call 0 16 #[(.agg #[(.bool aX1.fAway), (.int .i8 aX1.fLate), (.int .i8 aX1.fOctave), (.int .i8 aX1.fTrack)])] (by kernel_rfl) (by kernel_rfl) (fun w hm => laws_toChoice.calls aX1 w _ ht_8) ?_
            rintro w v w' hm ⟨rfl, hm'⟩
            refine ⟨_, hm.app hm', jkD (fun w h => h.pick [0, 1, 2] (by kernel_rfl) (by kernel_rfl)) ?_⟩
            clear hm hm'
            refine toD2 4 8 (by kernel_rfl) ?_ ?_
            · obtain ⟨t_6, ht_9, h⟩ := bd h
              refine p_call 0 20 #[(.agg #[(.int .i16 t_4.fAt), (.int .i8 t_4.fPitch)]), (.agg #[(.bool t_5.fAway), (.int .i8 t_5.fLate), (.int .i8 t_5.fOctave), (.int .i8 t_5.fTrack)])] (by kernel_rfl) (by kernel_rfl) (fun w hm => impl_NoteOf.calls t_4 t_5 w _ ht_9) ?_
              rintro w v w' hm ⟨rfl, hm'⟩
              refine ⟨_, hm.app hm', jkD (fun w h => h.pick [0, 1, 2] (by kernel_rfl) (by kernel_rfl)) ?_⟩
              clear hm hm'
              refine jd_f [⟨5, 0, 0⟩, ⟨6, 0, 0⟩, ⟨7, 0, 0⟩] 3 (by kernel_rfl) (by kernel_rfl) (fun w h => h.pick [0, 1, 2] (by kernel_rfl) (by kernel_rfl)) (by kernel_rfl) (by kernel_rfl) ?_
              refine toD 8 (by kernel_rfl) (p_a 0 [0] (by kernel_rfl) (fun b => by kernel_rfl) (fun b_10 => jkD (fun w h => h.pick [0, 1, 2] (by kernel_rfl) (by kernel_rfl)) ?_))
              refine toD 9 (by kernel_rfl) (p_s 0 [3] (by kernel_rfl) (by kernel_rfl) (jkD (fun w h => h.pick [0, 1, 2] (by kernel_rfl) (by kernel_rfl)) ?_))
              refine jd_f [⟨10, 0, 0⟩] 0 (by kernel_rfl) (by kernel_rfl) (fun w h => h.pick [0, 1, 2] (by kernel_rfl) (by kernel_rfl)) (by kernel_rfl) (by kernel_rfl) ?_
              refine jd_end (by kernel_rfl) ?_
              refine jx_then ?_
              refine jc_seq ?_
              refine jc_seq ?_
              refine jc_region ?_
              refine jo_f [(3, 0), (2, 0)] (by kernel_rfl) ?_
              obtain ⟨t_7, ht_12, h⟩ := bd h
              refine toO (by kernel_rfl) (p_call 0 21 #[(.agg #[(.int .i16 t_6.1.fAt), (.int .i8 t_6.1.fPitch)]), (.agg #[(.int .i16 t_3.1.fAt), (.int .i8 t_3.1.fPitch)])] (by kernel_rfl) (by kernel_rfl) (fun w hm => laws_eqNote.calls t_6.1 t_3.1 w _ ht_12) ?_)
              rintro w v w' hm ⟨rfl, hm'⟩
              refine ⟨_, hm.app hm', jkO ?_⟩
              clear hm hm'
              refine jo_f [(0, 0), (0, 0), (0, 1), (0, 1), (0, 1), (0, 0)] (by kernel_rfl) ?_
              refine jo_end (by kernel_rfl) ?_
              refine jx_then ?_
              refine jc_cond ((!t_7) || (t_6.2 != t_3.2)) (by kernel_rfl) (fun hc_13 => ?_) (fun hc_13 => ?_)
              · replace h := ifT hc_13 h
                refine jc_seq ?_
                refine jc_region ?_
                refine jo_f [(0, 0)] (by kernel_rfl) ?_
                refine jo_end (by kernel_rfl) ?_
                refine jx_then ?_
                refine jc_ret ?_
                refine jx_thenr ?_
                obtain rfl := Option.some.inj h
                exact jx_ret [] (.bool false) [] rfl (by kernel_rfl) (by kernel_rfl) (fun w hm => ⟨rfl, hm.pick [] (by kernel_rfl) (by kernel_rfl)⟩)
              · replace h := ifF hc_13 h
                refine jc_skip ?_
                refine jx_then ?_
                refine jc_seq ?_
                refine jc_region ?_
                refine jo_f [(0, 0)] (by kernel_rfl) ?_
                refine jo_end (by kernel_rfl) ?_
                refine jx_then ?_
                refine jc_ret ?_
                obtain rfl := Option.some.inj h
                exact jx_ret [] (.bool true) [] rfl (by kernel_rfl) (by kernel_rfl) (fun w hm => ⟨rfl, hm.pick [] (by kernel_rfl) (by kernel_rfl)⟩)
            · refine p_a 0 [0] (by kernel_rfl) (fun b => by kernel_rfl) (fun b_14 => jkD (fun w h => h.pick [0, 1, 2] (by kernel_rfl) (by kernel_rfl)) ?_)
              obtain ⟨t_6, ht_15, h⟩ := bd h
              refine toD 4 (by kernel_rfl) (p_call 0 20 #[(.agg #[(.int .i16 t_4.fAt), (.int .i8 t_4.fPitch)]), (.agg #[(.bool t_5.fAway), (.int .i8 t_5.fLate), (.int .i8 t_5.fOctave), (.int .i8 t_5.fTrack)])] (by kernel_rfl) (by kernel_rfl) (fun w hm => impl_NoteOf.calls t_4 t_5 w _ ht_15) ?_)
              rintro w v w' hm ⟨rfl, hm'⟩
              refine ⟨_, hm.app hm', jkD (fun w h => h.pick [0, 1, 2] (by kernel_rfl) (by kernel_rfl)) ?_⟩
              clear hm hm'
              refine jd_f [⟨5, 0, 0⟩, ⟨6, 0, 0⟩, ⟨7, 0, 0⟩] 2 (by kernel_rfl) (by kernel_rfl) (fun w h => h.pick [0, 1, 2] (by kernel_rfl) (by kernel_rfl)) (by kernel_rfl) (by kernel_rfl) ?_
              refine toD 9 (by kernel_rfl) (p_s 0 [3] (by kernel_rfl) (by kernel_rfl) (jkD (fun w h => h.pick [0, 1, 2] (by kernel_rfl) (by kernel_rfl)) ?_))
              refine jd_f [⟨10, 0, 0⟩] 0 (by kernel_rfl) (by kernel_rfl) (fun w h => h.pick [0, 1, 2] (by kernel_rfl) (by kernel_rfl)) (by kernel_rfl) (by kernel_rfl) ?_
              refine jd_end (by kernel_rfl) ?_
              refine jx_then ?_
              refine jc_seq ?_
              refine jc_seq ?_
              refine jc_region ?_
              refine jo_f [(3, 0), (2, 0)] (by kernel_rfl) ?_
              obtain ⟨t_7, ht_17, h⟩ := bd h
              refine toO (by kernel_rfl) (p_call 0 21 #[(.agg #[(.int .i16 t_6.1.fAt), (.int .i8 t_6.1.fPitch)]), (.agg #[(.int .i16 t_3.1.fAt), (.int .i8 t_3.1.fPitch)])] (by kernel_rfl) (by kernel_rfl) (fun w hm => laws_eqNote.calls t_6.1 t_3.1 w _ ht_17) ?_)
              rintro w v w' hm ⟨rfl, hm'⟩
              refine ⟨_, hm.app hm', jkO ?_⟩
              clear hm hm'
              refine jo_f [(0, 0), (0, 0), (0, 1), (0, 1), (0, 1), (0, 0)] (by kernel_rfl) ?_
              refine jo_end (by kernel_rfl) ?_
              refine jx_then ?_
              refine jc_cond ((!t_7) || (t_6.2 != t_3.2)) (by kernel_rfl) (fun hc_18 => ?_) (fun hc_18 => ?_)
              · replace h := ifT hc_18 h
                refine jc_seq ?_
                refine jc_region ?_
                refine jo_f [(0, 0)] (by kernel_rfl) ?_
                refine jo_end (by kernel_rfl) ?_
                refine jx_then ?_
                refine jc_ret ?_
                refine jx_thenr ?_
                obtain rfl := Option.some.inj h
                exact jx_ret [] (.bool false) [] rfl (by kernel_rfl) (by kernel_rfl) (fun w hm => ⟨rfl, hm.pick [] (by kernel_rfl) (by kernel_rfl)⟩)
              · replace h := ifF hc_18 h
                refine jc_skip ?_
                refine jx_then ?_
                refine jc_seq ?_
                refine jc_region ?_
                refine jo_f [(0, 0)] (by kernel_rfl) ?_
                refine jo_end (by kernel_rfl) ?_
                refine jx_then ?_
                refine jc_ret ?_
                obtain rfl := Option.some.inj h
                exact jx_ret [] (.bool true) [] rfl (by kernel_rfl) (by kernel_rfl) (fun w hm => ⟨rfl, hm.pick [] (by kernel_rfl) (by kernel_rfl)⟩)
          · refine p_a 0 [0] (by kernel_rfl) (fun b => by kernel_rfl) (fun b_19 => jkD (fun w h => h.pick [0, 1, 2] (by kernel_rfl) (by kernel_rfl)) ?_)
            obtain ⟨t_5, ht_20, h⟩ := bd h
            refine toD 3 (by kernel_rfl) (p_call 0 16 #[(.agg #[(.bool aX1.fAway), (.int .i8 aX1.fLate), (.int .i8 aX1.fOctave), (.int .i8 aX1.fTrack)])] (by kernel_rfl) (by kernel_rfl) (fun w hm => laws_toChoice.calls aX1 w _ ht_20) ?_)
            rintro w v w' hm ⟨rfl, hm'⟩
            refine ⟨_, hm.app hm', jkD (fun w h => h.pick [0, 1, 2] (by kernel_rfl) (by kernel_rfl)) ?_⟩
            clear hm hm'
            obtain ⟨t_6, ht_21, h⟩ := bd h
            refine toD 4 (by kernel_rfl) (p_call 0 20 #[(.agg #[(.int .i16 t_4.fAt), (.int .i8 t_4.fPitch)]), (.agg #[(.bool t_5.fAway), (.int .i8 t_5.fLate), (.int .i8 t_5.fOctave), (.int .i8 t_5.fTrack)])] (by kernel_rfl) (by kernel_rfl) (fun w hm => impl_NoteOf.calls t_4 t_5 w _ ht_21) ?_)
            rintro w v w' hm ⟨rfl, hm'⟩
            refine ⟨_, hm.app hm', jkD (fun w h => h.pick [0, 1, 2] (by kernel_rfl) (by kernel_rfl)) ?_⟩
            clear hm hm'
            refine jd_f [⟨5, 0, 0⟩, ⟨6, 0, 0⟩, ⟨7, 0, 0⟩] 2 (by kernel_rfl) (by kernel_rfl) (fun w h => h.pick [0, 1, 2] (by kernel_rfl) (by kernel_rfl)) (by kernel_rfl) (by kernel_rfl) ?_
            refine toD 9 (by kernel_rfl) (p_s 0 [3] (by kernel_rfl) (by kernel_rfl) (jkD (fun w h => h.pick [0, 1, 2] (by kernel_rfl) (by kernel_rfl)) ?_))
            refine jd_f [⟨10, 0, 0⟩] 0 (by kernel_rfl) (by kernel_rfl) (fun w h => h.pick [0, 1, 2] (by kernel_rfl) (by kernel_rfl)) (by kernel_rfl) (by kernel_rfl) ?_
            refine jd_end (by kernel_rfl) ?_
            refine jx_then ?_
            refine jc_seq ?_
            refine jc_seq ?_
            refine jc_region ?_
            refine jo_f [(3, 0), (2, 0)] (by kernel_rfl) ?_
            obtain ⟨t_7, ht_23, h⟩ := bd h
            refine toO (by kernel_rfl) (p_call 0 21 #[(.agg #[(.int .i16 t_6.1.fAt), (.int .i8 t_6.1.fPitch)]), (.agg #[(.int .i16 t_3.1.fAt), (.int .i8 t_3.1.fPitch)])] (by kernel_rfl) (by kernel_rfl) (fun w hm => laws_eqNote.calls t_6.1 t_3.1 w _ ht_23) ?_)
            rintro w v w' hm ⟨rfl, hm'⟩
            refine ⟨_, hm.app hm', jkO ?_⟩
            clear hm hm'
            refine jo_f [(0, 0), (0, 0), (0, 1), (0, 1), (0, 1), (0, 0)] (by kernel_rfl) ?_
            refine jo_end (by kernel_rfl) ?_
            refine jx_then ?_
            refine jc_cond ((!t_7) || (t_6.2 != t_3.2)) (by kernel_rfl) (fun hc_24 => ?_) (fun hc_24 => ?_)
            · replace h := ifT hc_24 h
              refine jc_seq ?_
              refine jc_region ?_
              refine jo_f [(0, 0)] (by kernel_rfl) ?_
              refine jo_end (by kernel_rfl) ?_
              refine jx_then ?_
              refine jc_ret ?_
              refine jx_thenr ?_
              obtain rfl := Option.some.inj h
              exact jx_ret [] (.bool false) [] rfl (by kernel_rfl) (by kernel_rfl) (fun w hm => ⟨rfl, hm.pick [] (by kernel_rfl) (by kernel_rfl)⟩)
            · replace h := ifF hc_24 h
              refine jc_skip ?_
              refine jx_then ?_
              refine jc_seq ?_
              refine jc_region ?_
              refine jo_f [(0, 0)] (by kernel_rfl) ?_
              refine jo_end (by kernel_rfl) ?_
              refine jx_then ?_
              refine jc_ret ?_
              obtain rfl := Option.some.inj h
              exact jx_ret [] (.bool true) [] rfl (by kernel_rfl) (by kernel_rfl) (fun w hm => ⟨rfl, hm.pick [] (by kernel_rfl) (by kernel_rfl)⟩)
        · refine p_a 0 [0] (by kernel_rfl) (fun b => by kernel_rfl) (fun b_25 => jkD (fun w h => h.pick [0, 1, 2] (by kernel_rfl) (by kernel_rfl)) ?_)
          obtain ⟨t_4, ht_26, h⟩ := bd h
          refine toD 1 (by kernel_rfl) (p_call 0 19 #[(.agg #[(.int .i16 aN0.fAt), (.int .i8 aN0.fPitch)])] (by kernel_rfl) (by kernel_rfl) (fun w hm => laws_toNote.calls aN0 w _ ht_26) ?_)
          rintro w v w' hm ⟨rfl, hm'⟩
          refine ⟨_, hm.app hm', jkD (fun w h => h.pick [0, 1, 2] (by kernel_rfl) (by kernel_rfl)) ?_⟩
          clear hm hm'
          obtain ⟨t_5, ht_27, h⟩ := bd h
          refine toD 3 (by kernel_rfl) (p_call 0 16 #[(.agg #[(.bool aX1.fAway), (.int .i8 aX1.fLate), (.int .i8 aX1.fOctave), (.int .i8 aX1.fTrack)])] (by kernel_rfl) (by kernel_rfl) (fun w hm => laws_toChoice.calls aX1 w _ ht_27) ?_)
          rintro w v w' hm ⟨rfl, hm'⟩
          refine ⟨_, hm.app hm', jkD (fun w h => h.pick [0, 1, 2] (by kernel_rfl) (by kernel_rfl)) ?_⟩
          clear hm hm'
          obtain ⟨t_6, ht_28, h⟩ := bd h
          refine toD 4 (by kernel_rfl) (p_call 0 20 #[(.agg #[(.int .i16 t_4.fAt), (.int .i8 t_4.fPitch)]), (.agg #[(.bool t_5.fAway), (.int .i8 t_5.fLate), (.int .i8 t_5.fOctave), (.int .i8 t_5.fTrack)])] (by kernel_rfl) (by kernel_rfl) (fun w hm => impl_NoteOf.calls t_4 t_5 w _ ht_28) ?_)
          rintro w v w' hm ⟨rfl, hm'⟩
          refine ⟨_, hm.app hm', jkD (fun w h => h.pick [0, 1, 2] (by kernel_rfl) (by kernel_rfl)) ?_⟩
          clear hm hm'
          refine jd_f [⟨5, 0, 0⟩, ⟨6, 0, 0⟩, ⟨7, 0, 0⟩] 2 (by kernel_rfl) (by kernel_rfl) (fun w h => h.pick [0, 1, 2] (by kernel_rfl) (by kernel_rfl)) (by kernel_rfl) (by kernel_rfl) ?_
          refine toD 9 (by kernel_rfl) (p_s 0 [3] (by kernel_rfl) (by kernel_rfl) (jkD (fun w h => h.pick [0, 1, 2] (by kernel_rfl) (by kernel_rfl)) ?_))
          refine jd_f [⟨10, 0, 0⟩] 0 (by kernel_rfl) (by kernel_rfl) (fun w h => h.pick [0, 1, 2] (by kernel_rfl) (by kernel_rfl)) (by kernel_rfl) (by kernel_rfl) ?_
          refine jd_end (by kernel_rfl) ?_
          refine jx_then ?_
          refine jc_seq ?_
          refine jc_seq ?_
          refine jc_region ?_
          refine jo_f [(3, 0), (2, 0)] (by kernel_rfl) ?_
          obtain ⟨t_7, ht_30, h⟩ := bd h
          refine toO (by kernel_rfl) (p_call 0 21 #[(.agg #[(.int .i16 t_6.1.fAt), (.int .i8 t_6.1.fPitch)]), (.agg #[(.int .i16 t_3.1.fAt), (.int .i8 t_3.1.fPitch)])] (by kernel_rfl) (by kernel_rfl) (fun w hm => laws_eqNote.calls t_6.1 t_3.1 w _ ht_30) ?_)
          rintro w v w' hm ⟨rfl, hm'⟩
          refine ⟨_, hm.app hm', jkO ?_⟩
          clear hm hm'
          refine jo_f [(0, 0), (0, 0), (0, 1), (0, 1), (0, 1), (0, 0)] (by kernel_rfl) ?_
          refine jo_end (by kernel_rfl) ?_
          refine jx_then ?_
          refine jc_cond ((!t_7) || (t_6.2 != t_3.2)) (by kernel_rfl) (fun hc_31 => ?_) (fun hc_31 => ?_)
          · replace h := ifT hc_31 h
            refine jc_seq ?_
            refine jc_region ?_
            refine jo_f [(0, 0)] (by kernel_rfl) ?_
            refine jo_end (by kernel_rfl) ?_
            refine jx_then ?_
            refine jc_ret ?_
            refine jx_thenr ?_
            obtain rfl := Option.some.inj h
            exact jx_ret [] (.bool false) [] rfl (by kernel_rfl) (by kernel_rfl) (fun w hm => ⟨rfl, hm.pick [] (by kernel_rfl) (by kernel_rfl)⟩)
          · replace h := ifF hc_31 h
            refine jc_skip ?_
            refine jx_then ?_
            refine jc_seq ?_
            refine jc_region ?_
            refine jo_f [(0, 0)] (by kernel_rfl) ?_
            refine jo_end (by kernel_rfl) ?_
            refine jx_then ?_
            refine jc_ret ?_
            obtain rfl := Option.some.inj h
            exact jx_ret [] (.bool true) [] rfl (by kernel_rfl) (by kernel_rfl) (fun w hm => ⟨rfl, hm.pick [] (by kernel_rfl) (by kernel_rfl)⟩)
      · refine p_a 0 [0] (by kernel_rfl) (fun b => by kernel_rfl) (fun b_32 => jkD (fun w h => h.pick [0, 1] (by kernel_rfl) (by kernel_rfl)) ?_)
        obtain ⟨t_3, ht_33, h⟩ := bd h
        refine toD 4 (by kernel_rfl) (p_call 0 18 #[(.agg #[(.int .i16 t_1.fAt), (.int .i8 t_1.fPitch)]), (.agg #[(.bool t_2.fAway), (.int .i8 t_2.fLate), (.int .i8 t_2.fOctave), (.int .i8 t_2.fTrack)])] (by kernel_rfl) (by kernel_rfl) (fun w hm => spec_NoteOf.calls t_1 t_2 w _ ht_33) ?_)
        rintro w v w' hm ⟨rfl, hm'⟩
        refine ⟨_, hm.app hm', jkD (fun w h => h.pick [0, 1] (by kernel_rfl) (by kernel_rfl)) ?_⟩
        clear hm hm'
        refine jd_f [⟨5, 0, 0⟩, ⟨6, 0, 0⟩, ⟨7, 0, 0⟩] 2 (by kernel_rfl) (by kernel_rfl) (fun w h => h.pick [0, 1] (by kernel_rfl) (by kernel_rfl)) (by kernel_rfl) (by kernel_rfl) ?_
        refine toD 9 (by kernel_rfl) (p_s 0 [2] (by kernel_rfl) (by kernel_rfl) (jkD (fun w h => h.pick [0, 1] (by kernel_rfl) (by kernel_rfl)) ?_))
        refine jd_f [⟨10, 0, 0⟩] 0 (by kernel_rfl) (by kernel_rfl) (fun w h => h.pick [0, 1] (by kernel_rfl) (by kernel_rfl)) (by kernel_rfl) (by kernel_rfl) ?_
        refine jd_end (by kernel_rfl) ?_
        refine jx_then ?_
        refine jc_seq ?_
        refine jc_draw [⟨some b_1, 43, [(.int .i16 aN0.fAt), (.int .i8 aN0.fPitch)]⟩, ⟨some b_2, 37, [(.bool aX1.fAway), (.int .i8 aX1.fLate), (.int .i8 aX1.fOctave), (.int .i8 aX1.fTrack)]⟩, ⟨some b_32, 44, [(.int .i16 t_3.1.fAt), (.int .i8 t_3.1.fPitch)]⟩] 11 (by kernel_rfl) (by kernel_rfl) ?_
        refine jd_f [⟨0, 0, 0⟩, ⟨2, 1, 0⟩] 9 (by kernel_rfl) (by kernel_rfl) (fun w h => h.pick [0, 1, 2] (by kernel_rfl) (by kernel_rfl)) (by kernel_rfl) (by kernel_rfl) ?_
        refine toD2 1 8 (by kernel_rfl) ?_ ?_
        · obtain ⟨t_4, ht_34, h⟩ := bd h
          refine p_call 0 19 #[(.agg #[(.int .i16 aN0.fAt), (.int .i8 aN0.fPitch)])] (by kernel_rfl) (by kernel_rfl) (fun w hm => laws_toNote.calls aN0 w _ ht_34) ?_
          rintro w v w' hm ⟨rfl, hm'⟩
          refine ⟨_, hm.app hm', jkD (fun w h => h.pick [0, 1, 2] (by kernel_rfl) (by kernel_rfl)) ?_⟩
          clear hm hm'
          refine toD2 3 8 (by kernel_rfl) ?_ ?_
          · obtain ⟨t_5, ht_35, h⟩ := bd h
            refine p_call 0 16 #[(.agg #[(.bool aX1.fAway), (.int .i8 aX1.fLate), (.int .i8 aX1.fOctave), (.int .i8 aX1.fTrack)])] (by kernel_rfl) (by kernel_rfl) (fun w hm => laws_toChoice.calls aX1 w _ ht_35) ?_
            rintro w v w' hm ⟨rfl, hm'⟩
            refine ⟨_, hm.app hm', jkD (fun w h => h.pick [0, 1, 2] (by kernel_rfl) (by kernel_rfl)) ?_⟩
            clear hm hm'
            refine toD2 4 8 (by kernel_rfl) ?_ ?_
            · obtain ⟨t_6, ht_36, h⟩ := bd h
              refine p_call 0 20 #[(.agg #[(.int .i16 t_4.fAt), (.int .i8 t_4.fPitch)]), (.agg #[(.bool t_5.fAway), (.int .i8 t_5.fLate), (.int .i8 t_5.fOctave), (.int .i8 t_5.fTrack)])] (by kernel_rfl) (by kernel_rfl) (fun w hm => impl_NoteOf.calls t_4 t_5 w _ ht_36) ?_
              rintro w v w' hm ⟨rfl, hm'⟩
              refine ⟨_, hm.app hm', jkD (fun w h => h.pick [0, 1, 2] (by kernel_rfl) (by kernel_rfl)) ?_⟩
              clear hm hm'
              refine jd_f [⟨5, 0, 0⟩, ⟨6, 0, 0⟩, ⟨7, 0, 0⟩] 3 (by kernel_rfl) (by kernel_rfl) (fun w h => h.pick [0, 1, 2] (by kernel_rfl) (by kernel_rfl)) (by kernel_rfl) (by kernel_rfl) ?_
              refine toD 8 (by kernel_rfl) (p_a 0 [0] (by kernel_rfl) (fun b => by kernel_rfl) (fun b_37 => jkD (fun w h => h.pick [0, 1, 2] (by kernel_rfl) (by kernel_rfl)) ?_))
              refine toD 9 (by kernel_rfl) (p_s 0 [3] (by kernel_rfl) (by kernel_rfl) (jkD (fun w h => h.pick [0, 1, 2] (by kernel_rfl) (by kernel_rfl)) ?_))
              refine jd_f [⟨10, 0, 0⟩] 0 (by kernel_rfl) (by kernel_rfl) (fun w h => h.pick [0, 1, 2] (by kernel_rfl) (by kernel_rfl)) (by kernel_rfl) (by kernel_rfl) ?_
              refine jd_end (by kernel_rfl) ?_
              refine jx_then ?_
              refine jc_seq ?_
              refine jc_seq ?_
              refine jc_region ?_
              refine jo_f [(3, 0), (2, 0)] (by kernel_rfl) ?_
              obtain ⟨t_7, ht_39, h⟩ := bd h
              refine toO (by kernel_rfl) (p_call 0 21 #[(.agg #[(.int .i16 t_6.1.fAt), (.int .i8 t_6.1.fPitch)]), (.agg #[(.int .i16 t_3.1.fAt), (.int .i8 t_3.1.fPitch)])] (by kernel_rfl) (by kernel_rfl) (fun w hm => laws_eqNote.calls t_6.1 t_3.1 w _ ht_39) ?_)
              rintro w v w' hm ⟨rfl, hm'⟩
              refine ⟨_, hm.app hm', jkO ?_⟩
              clear hm hm'
              refine jo_f [(0, 0), (0, 0), (0, 1), (0, 1), (0, 1), (0, 0)] (by kernel_rfl) ?_
              refine jo_end (by kernel_rfl) ?_
              refine jx_then ?_
              refine jc_cond ((!t_7) || (t_6.2 != t_3.2)) (by kernel_rfl) (fun hc_40 => ?_) (fun hc_40 => ?_)
              · replace h := ifT hc_40 h
                refine jc_seq ?_
                refine jc_region ?_
                refine jo_f [(0, 0)] (by kernel_rfl) ?_
                refine jo_end (by kernel_rfl) ?_
                refine jx_then ?_
                refine jc_ret ?_
                refine jx_thenr ?_
                obtain rfl := Option.some.inj h
                exact jx_ret [] (.bool false) [] rfl (by kernel_rfl) (by kernel_rfl) (fun w hm => ⟨rfl, hm.pick [] (by kernel_rfl) (by kernel_rfl)⟩)
              · replace h := ifF hc_40 h
                refine jc_skip ?_
                refine jx_then ?_
                refine jc_seq ?_
                refine jc_region ?_
                refine jo_f [(0, 0)] (by kernel_rfl) ?_
                refine jo_end (by kernel_rfl) ?_
                refine jx_then ?_
                refine jc_ret ?_
                obtain rfl := Option.some.inj h
                exact jx_ret [] (.bool true) [] rfl (by kernel_rfl) (by kernel_rfl) (fun w hm => ⟨rfl, hm.pick [] (by kernel_rfl) (by kernel_rfl)⟩)
            · refine p_a 0 [0] (by kernel_rfl) (fun b => by kernel_rfl) (fun b_41 => jkD (fun w h => h.pick [0, 1, 2] (by kernel_rfl) (by kernel_rfl)) ?_)
              obtain ⟨t_6, ht_42, h⟩ := bd h
              refine toD 4 (by kernel_rfl) (p_call 0 20 #[(.agg #[(.int .i16 t_4.fAt), (.int .i8 t_4.fPitch)]), (.agg #[(.bool t_5.fAway), (.int .i8 t_5.fLate), (.int .i8 t_5.fOctave), (.int .i8 t_5.fTrack)])] (by kernel_rfl) (by kernel_rfl) (fun w hm => impl_NoteOf.calls t_4 t_5 w _ ht_42) ?_)
              rintro w v w' hm ⟨rfl, hm'⟩
              refine ⟨_, hm.app hm', jkD (fun w h => h.pick [0, 1, 2] (by kernel_rfl) (by kernel_rfl)) ?_⟩
              clear hm hm'
              refine jd_f [⟨5, 0, 0⟩, ⟨6, 0, 0⟩, ⟨7, 0, 0⟩] 2 (by kernel_rfl) (by kernel_rfl) (fun w h => h.pick [0, 1, 2] (by kernel_rfl) (by kernel_rfl)) (by kernel_rfl) (by kernel_rfl) ?_
              refine toD 9 (by kernel_rfl) (p_s 0 [3] (by kernel_rfl) (by kernel_rfl) (jkD (fun w h => h.pick [0, 1, 2] (by kernel_rfl) (by kernel_rfl)) ?_))
              refine jd_f [⟨10, 0, 0⟩] 0 (by kernel_rfl) (by kernel_rfl) (fun w h => h.pick [0, 1, 2] (by kernel_rfl) (by kernel_rfl)) (by kernel_rfl) (by kernel_rfl) ?_
              refine jd_end (by kernel_rfl) ?_
              refine jx_then ?_
              refine jc_seq ?_
              refine jc_seq ?_
              refine jc_region ?_
              refine jo_f [(3, 0), (2, 0)] (by kernel_rfl) ?_
              obtain ⟨t_7, ht_44, h⟩ := bd h
              refine toO (by kernel_rfl) (p_call 0 21 #[(.agg #[(.int .i16 t_6.1.fAt), (.int .i8 t_6.1.fPitch)]), (.agg #[(.int .i16 t_3.1.fAt), (.int .i8 t_3.1.fPitch)])] (by kernel_rfl) (by kernel_rfl) (fun w hm => laws_eqNote.calls t_6.1 t_3.1 w _ ht_44) ?_)
              rintro w v w' hm ⟨rfl, hm'⟩
              refine ⟨_, hm.app hm', jkO ?_⟩
              clear hm hm'
              refine jo_f [(0, 0), (0, 0), (0, 1), (0, 1), (0, 1), (0, 0)] (by kernel_rfl) ?_
              refine jo_end (by kernel_rfl) ?_
              refine jx_then ?_
              refine jc_cond ((!t_7) || (t_6.2 != t_3.2)) (by kernel_rfl) (fun hc_45 => ?_) (fun hc_45 => ?_)
              · replace h := ifT hc_45 h
                refine jc_seq ?_
                refine jc_region ?_
                refine jo_f [(0, 0)] (by kernel_rfl) ?_
                refine jo_end (by kernel_rfl) ?_
                refine jx_then ?_
                refine jc_ret ?_
                refine jx_thenr ?_
                obtain rfl := Option.some.inj h
                exact jx_ret [] (.bool false) [] rfl (by kernel_rfl) (by kernel_rfl) (fun w hm => ⟨rfl, hm.pick [] (by kernel_rfl) (by kernel_rfl)⟩)
              · replace h := ifF hc_45 h
                refine jc_skip ?_
                refine jx_then ?_
                refine jc_seq ?_
                refine jc_region ?_
                refine jo_f [(0, 0)] (by kernel_rfl) ?_
                refine jo_end (by kernel_rfl) ?_
                refine jx_then ?_
                refine jc_ret ?_
                obtain rfl := Option.some.inj h
                exact jx_ret [] (.bool true) [] rfl (by kernel_rfl) (by kernel_rfl) (fun w hm => ⟨rfl, hm.pick [] (by kernel_rfl) (by kernel_rfl)⟩)
          · refine p_a 0 [0] (by kernel_rfl) (fun b => by kernel_rfl) (fun b_46 => jkD (fun w h => h.pick [0, 1, 2] (by kernel_rfl) (by kernel_rfl)) ?_)
            obtain ⟨t_5, ht_47, h⟩ := bd h
            refine toD 3 (by kernel_rfl) (p_call 0 16 #[(.agg #[(.bool aX1.fAway), (.int .i8 aX1.fLate), (.int .i8 aX1.fOctave), (.int .i8 aX1.fTrack)])] (by kernel_rfl) (by kernel_rfl) (fun w hm => laws_toChoice.calls aX1 w _ ht_47) ?_)
            rintro w v w' hm ⟨rfl, hm'⟩
            refine ⟨_, hm.app hm', jkD (fun w h => h.pick [0, 1, 2] (by kernel_rfl) (by kernel_rfl)) ?_⟩
            clear hm hm'
            obtain ⟨t_6, ht_48, h⟩ := bd h
            refine toD 4 (by kernel_rfl) (p_call 0 20 #[(.agg #[(.int .i16 t_4.fAt), (.int .i8 t_4.fPitch)]), (.agg #[(.bool t_5.fAway), (.int .i8 t_5.fLate), (.int .i8 t_5.fOctave), (.int .i8 t_5.fTrack)])] (by kernel_rfl) (by kernel_rfl) (fun w hm => impl_NoteOf.calls t_4 t_5 w _ ht_48) ?_)
            rintro w v w' hm ⟨rfl, hm'⟩
            refine ⟨_, hm.app hm', jkD (fun w h => h.pick [0, 1, 2] (by kernel_rfl) (by kernel_rfl)) ?_⟩
            clear hm hm'
            refine jd_f [⟨5, 0, 0⟩, ⟨6, 0, 0⟩, ⟨7, 0, 0⟩] 2 (by kernel_rfl) (by kernel_rfl) (fun w h => h.pick [0, 1, 2] (by kernel_rfl) (by kernel_rfl)) (by kernel_rfl) (by kernel_rfl) ?_
            refine toD 9 (by kernel_rfl) (p_s 0 [3] (by kernel_rfl) (by kernel_rfl) (jkD (fun w h => h.pick [0, 1, 2] (by kernel_rfl) (by kernel_rfl)) ?_))
            refine jd_f [⟨10, 0, 0⟩] 0 (by kernel_rfl) (by kernel_rfl) (fun w h => h.pick [0, 1, 2] (by kernel_rfl) (by kernel_rfl)) (by kernel_rfl) (by kernel_rfl) ?_
            refine jd_end (by kernel_rfl) ?_
            refine jx_then ?_
            refine jc_seq ?_
            refine jc_seq ?_
            refine jc_region ?_
            refine jo_f [(3, 0), (2, 0)] (by kernel_rfl) ?_
            obtain ⟨t_7, ht_50, h⟩ := bd h
            refine toO (by kernel_rfl) (p_call 0 21 #[(.agg #[(.int .i16 t_6.1.fAt), (.int .i8 t_6.1.fPitch)]), (.agg #[(.int .i16 t_3.1.fAt), (.int .i8 t_3.1.fPitch)])] (by kernel_rfl) (by kernel_rfl) (fun w hm => laws_eqNote.calls t_6.1 t_3.1 w _ ht_50) ?_)
            rintro w v w' hm ⟨rfl, hm'⟩
            refine ⟨_, hm.app hm', jkO ?_⟩
            clear hm hm'
            refine jo_f [(0, 0), (0, 0), (0, 1), (0, 1), (0, 1), (0, 0)] (by kernel_rfl) ?_
            refine jo_end (by kernel_rfl) ?_
            refine jx_then ?_
            refine jc_cond ((!t_7) || (t_6.2 != t_3.2)) (by kernel_rfl) (fun hc_51 => ?_) (fun hc_51 => ?_)
            · replace h := ifT hc_51 h
              refine jc_seq ?_
              refine jc_region ?_
              refine jo_f [(0, 0)] (by kernel_rfl) ?_
              refine jo_end (by kernel_rfl) ?_
              refine jx_then ?_
              refine jc_ret ?_
              refine jx_thenr ?_
              obtain rfl := Option.some.inj h
              exact jx_ret [] (.bool false) [] rfl (by kernel_rfl) (by kernel_rfl) (fun w hm => ⟨rfl, hm.pick [] (by kernel_rfl) (by kernel_rfl)⟩)
            · replace h := ifF hc_51 h
              refine jc_skip ?_
              refine jx_then ?_
              refine jc_seq ?_
              refine jc_region ?_
              refine jo_f [(0, 0)] (by kernel_rfl) ?_
              refine jo_end (by kernel_rfl) ?_
              refine jx_then ?_
              refine jc_ret ?_
              obtain rfl := Option.some.inj h
              exact jx_ret [] (.bool true) [] rfl (by kernel_rfl) (by kernel_rfl) (fun w hm => ⟨rfl, hm.pick [] (by kernel_rfl) (by kernel_rfl)⟩)
        · refine p_a 0 [0] (by kernel_rfl) (fun b => by kernel_rfl) (fun b_52 => jkD (fun w h => h.pick [0, 1, 2] (by kernel_rfl) (by kernel_rfl)) ?_)
          obtain ⟨t_4, ht_53, h⟩ := bd h
          refine toD 1 (by kernel_rfl) (p_call 0 19 #[(.agg #[(.int .i16 aN0.fAt), (.int .i8 aN0.fPitch)])] (by kernel_rfl) (by kernel_rfl) (fun w hm => laws_toNote.calls aN0 w _ ht_53) ?_)
          rintro w v w' hm ⟨rfl, hm'⟩
          refine ⟨_, hm.app hm', jkD (fun w h => h.pick [0, 1, 2] (by kernel_rfl) (by kernel_rfl)) ?_⟩
          clear hm hm'
          obtain ⟨t_5, ht_54, h⟩ := bd h
          refine toD 3 (by kernel_rfl) (p_call 0 16 #[(.agg #[(.bool aX1.fAway), (.int .i8 aX1.fLate), (.int .i8 aX1.fOctave), (.int .i8 aX1.fTrack)])] (by kernel_rfl) (by kernel_rfl) (fun w hm => laws_toChoice.calls aX1 w _ ht_54) ?_)
          rintro w v w' hm ⟨rfl, hm'⟩
          refine ⟨_, hm.app hm', jkD (fun w h => h.pick [0, 1, 2] (by kernel_rfl) (by kernel_rfl)) ?_⟩
          clear hm hm'
          obtain ⟨t_6, ht_55, h⟩ := bd h
          refine toD 4 (by kernel_rfl) (p_call 0 20 #[(.agg #[(.int .i16 t_4.fAt), (.int .i8 t_4.fPitch)]), (.agg #[(.bool t_5.fAway), (.int .i8 t_5.fLate), (.int .i8 t_5.fOctave), (.int .i8 t_5.fTrack)])] (by kernel_rfl) (by kernel_rfl) (fun w hm => impl_NoteOf.calls t_4 t_5 w _ ht_55) ?_)
          rintro w v w' hm ⟨rfl, hm'⟩
          refine ⟨_, hm.app hm', jkD (fun w h => h.pick [0, 1, 2] (by kernel_rfl) (by kernel_rfl)) ?_⟩
          clear hm hm'
          refine jd_f [⟨5, 0, 0⟩, ⟨6, 0, 0⟩, ⟨7, 0, 0⟩] 2 (by kernel_rfl) (by kernel_rfl) (fun w h => h.pick [0, 1, 2] (by kernel_rfl) (by kernel_rfl)) (by kernel_rfl) (by kernel_rfl) ?_
          refine toD 9 (by kernel_rfl) (p_s 0 [3] (by kernel_rfl) (by kernel_rfl) (jkD (fun w h => h.pick [0, 1, 2] (by kernel_rfl) (by kernel_rfl)) ?_))
          refine jd_f [⟨10, 0, 0⟩] 0 (by kernel_rfl) (by kernel_rfl) (fun w h => h.pick [0, 1, 2] (by kernel_rfl) (by kernel_rfl)) (by kernel_rfl) (by kernel_rfl) ?_
          refine jd_end (by kernel_rfl) ?_
          refine jx_then ?_
          refine jc_seq ?_
          refine jc_seq ?_
          refine jc_region ?_
          refine jo_f [(3, 0), (2, 0)] (by kernel_rfl) ?_
          obtain ⟨t_7, ht_57, h⟩ := bd h
          refine toO (by kernel_rfl) (p_call 0 21 #[(.agg #[(.int .i16 t_6.1.fAt), (.int .i8 t_6.1.fPitch)]), (.agg #[(.int .i16 t_3.1.fAt), (.int .i8 t_3.1.fPitch)])] (by kernel_rfl) (by kernel_rfl) (fun w hm => laws_eqNote.calls t_6.1 t_3.1 w _ ht_57) ?_)
          rintro w v w' hm ⟨rfl, hm'⟩
          refine ⟨_, hm.app hm', jkO ?_⟩
          clear hm hm'
          refine jo_f [(0, 0), (0, 0), (0, 1), (0, 1), (0, 1), (0, 0)] (by kernel_rfl) ?_
          refine jo_end (by kernel_rfl) ?_
          refine jx_then ?_
          refine jc_cond ((!t_7) || (t_6.2 != t_3.2)) (by kernel_rfl) (fun hc_58 => ?_) (fun hc_58 => ?_)
          · replace h := ifT hc_58 h
            refine jc_seq ?_
            refine jc_region ?_
            refine jo_f [(0, 0)] (by kernel_rfl) ?_
            refine jo_end (by kernel_rfl) ?_
            refine jx_then ?_
            refine jc_ret ?_
            refine jx_thenr ?_
            obtain rfl := Option.some.inj h
            exact jx_ret [] (.bool false) [] rfl (by kernel_rfl) (by kernel_rfl) (fun w hm => ⟨rfl, hm.pick [] (by kernel_rfl) (by kernel_rfl)⟩)
          · replace h := ifF hc_58 h
            refine jc_skip ?_
            refine jx_then ?_
            refine jc_seq ?_
            refine jc_region ?_
            refine jo_f [(0, 0)] (by kernel_rfl) ?_
            refine jo_end (by kernel_rfl) ?_
            refine jx_then ?_
            refine jc_ret ?_
            obtain rfl := Option.some.inj h
            exact jx_ret [] (.bool true) [] rfl (by kernel_rfl) (by kernel_rfl) (fun w hm => ⟨rfl, hm.pick [] (by kernel_rfl) (by kernel_rfl)⟩)
    · refine p_a 0 [0] (by kernel_rfl) (fun b => by kernel_rfl) (fun b_59 => jkD (fun w h => h.pick [0, 1] (by kernel_rfl) (by kernel_rfl)) ?_)
      obtain ⟨t_2, ht_60, h⟩ := bd h
      refine toD 3 (by kernel_rfl) (p_call 0 16 #[(.agg #[(.bool aX1.fAway), (.int .i8 aX1.fLate), (.int .i8 aX1.fOctave), (.int .i8 aX1.fTrack)])] (by kernel_rfl) (by kernel_rfl) (fun w hm => laws_toChoice.calls aX1 w _ ht_60) ?_)
      rintro w v w' hm ⟨rfl, hm'⟩
      refine ⟨_, hm.app hm', jkD (fun w h => h.pick [0, 1] (by kernel_rfl) (by kernel_rfl)) ?_⟩
      clear hm hm'
      obtain ⟨t_3, ht_61, h⟩ := bd h
      refine toD 4 (by kernel_rfl) (p_call 0 18 #[(.agg #[(.int .i16 t_1.fAt), (.int .i8 t_1.fPitch)]), (.agg #[(.bool t_2.fAway), (.int .i8 t_2.fLate), (.int .i8 t_2.fOctave), (.int .i8 t_2.fTrack)])] (by kernel_rfl) (by kernel_rfl) (fun w hm => spec_NoteOf.calls t_1 t_2 w _ ht_61) ?_)
      rintro w v w' hm ⟨rfl, hm'⟩
      refine ⟨_, hm.app hm', jkD (fun w h => h.pick [0, 1] (by kernel_rfl) (by kernel_rfl)) ?_⟩
      clear hm hm'
      refine jd_f [⟨5, 0, 0⟩, ⟨6, 0, 0⟩, ⟨7, 0, 0⟩] 2 (by kernel_rfl) (by kernel_rfl) (fun w h => h.pick [0, 1] (by kernel_rfl) (by kernel_rfl)) (by kernel_rfl) (by kernel_rfl) ?_
      refine toD 9 (by kernel_rfl) (p_s 0 [2] (by kernel_rfl) (by kernel_rfl) (jkD (fun w h => h.pick [0, 1] (by kernel_rfl) (by kernel_rfl)) ?_))
      refine jd_f [⟨10, 0, 0⟩] 0 (by kernel_rfl) (by kernel_rfl) (fun w h => h.pick [0, 1] (by kernel_rfl) (by kernel_rfl)) (by kernel_rfl) (by kernel_rfl) ?_
      refine jd_end (by kernel_rfl) ?_
      refine jx_then ?_
      refine jc_seq ?_
      refine jc_draw [⟨some b_1, 43, [(.int .i16 aN0.fAt), (.int .i8 aN0.fPitch)]⟩, ⟨some b_2, 37, [(.bool aX1.fAway), (.int .i8 aX1.fLate), (.int .i8 aX1.fOctave), (.int .i8 aX1.fTrack)]⟩, ⟨some b_59, 44, [(.int .i16 t_3.1.fAt), (.int .i8 t_3.1.fPitch)]⟩] 11 (by kernel_rfl) (by kernel_rfl) ?_
      refine jd_f [⟨0, 0, 0⟩, ⟨2, 1, 0⟩] 9 (by kernel_rfl) (by kernel_rfl) (fun w h => h.pick [0, 1, 2] (by kernel_rfl) (by kernel_rfl)) (by kernel_rfl) (by kernel_rfl) ?_
      refine toD2 1 8 (by kernel_rfl) ?_ ?_
      · obtain ⟨t_4, ht_62, h⟩ := bd h
        refine p_call 0 19 #[(.agg #[(.int .i16 aN0.fAt), (.int .i8 aN0.fPitch)])] (by kernel_rfl) (by kernel_rfl) (fun w hm => laws_toNote.calls aN0 w _ ht_62) ?_
        rintro w v w' hm ⟨rfl, hm'⟩
        refine ⟨_, hm.app hm', jkD (fun w h => h.pick [0, 1, 2] (by kernel_rfl) (by kernel_rfl)) ?_⟩
        clear hm hm'
        refine toD2 3 8 (by kernel_rfl) ?_ ?_
        · obtain ⟨t_5, ht_63, h⟩ := bd h
          refine p_call 0 16 #[(.agg #[(.bool aX1.fAway), (.int .i8 aX1.fLate), (.int .i8 aX1.fOctave), (.int .i8 aX1.fTrack)])] (by kernel_rfl) (by kernel_rfl) (fun w hm => laws_toChoice.calls aX1 w _ ht_63) ?_
          rintro w v w' hm ⟨rfl, hm'⟩
          refine ⟨_, hm.app hm', jkD (fun w h => h.pick [0, 1, 2] (by kernel_rfl) (by kernel_rfl)) ?_⟩
          clear hm hm'
          refine toD2 4 8 (by kernel_rfl) ?_ ?_
          · obtain ⟨t_6, ht_64, h⟩ := bd h
            refine p_call 0 20 #[(.agg #[(.int .i16 t_4.fAt), (.int .i8 t_4.fPitch)]), (.agg #[(.bool t_5.fAway), (.int .i8 t_5.fLate), (.int .i8 t_5.fOctave), (.int .i8 t_5.fTrack)])] (by kernel_rfl) (by kernel_rfl) (fun w hm => impl_NoteOf.calls t_4 t_5 w _ ht_64) ?_
            rintro w v w' hm ⟨rfl, hm'⟩
            refine ⟨_, hm.app hm', jkD (fun w h => h.pick [0, 1, 2] (by kernel_rfl) (by kernel_rfl)) ?_⟩
            clear hm hm'
            refine jd_f [⟨5, 0, 0⟩, ⟨6, 0, 0⟩, ⟨7, 0, 0⟩] 3 (by kernel_rfl) (by kernel_rfl) (fun w h => h.pick [0, 1, 2] (by kernel_rfl) (by kernel_rfl)) (by kernel_rfl) (by kernel_rfl) ?_
            refine toD 8 (by kernel_rfl) (p_a 0 [0] (by kernel_rfl) (fun b => by kernel_rfl) (fun b_65 => jkD (fun w h => h.pick [0, 1, 2] (by kernel_rfl) (by kernel_rfl)) ?_))
            refine toD 9 (by kernel_rfl) (p_s 0 [3] (by kernel_rfl) (by kernel_rfl) (jkD (fun w h => h.pick [0, 1, 2] (by kernel_rfl) (by kernel_rfl)) ?_))
            refine jd_f [⟨10, 0, 0⟩] 0 (by kernel_rfl) (by kernel_rfl) (fun w h => h.pick [0, 1, 2] (by kernel_rfl) (by kernel_rfl)) (by kernel_rfl) (by kernel_rfl) ?_
            refine jd_end (by kernel_rfl) ?_
            refine jx_then ?_
            refine jc_seq ?_
            refine jc_seq ?_
            refine jc_region ?_
            refine jo_f [(3, 0), (2, 0)] (by kernel_rfl) ?_
            obtain ⟨t_7, ht_67, h⟩ := bd h
            refine toO (by kernel_rfl) (p_call 0 21 #[(.agg #[(.int .i16 t_6.1.fAt), (.int .i8 t_6.1.fPitch)]), (.agg #[(.int .i16 t_3.1.fAt), (.int .i8 t_3.1.fPitch)])] (by kernel_rfl) (by kernel_rfl) (fun w hm => laws_eqNote.calls t_6.1 t_3.1 w _ ht_67) ?_)
            rintro w v w' hm ⟨rfl, hm'⟩
            refine ⟨_, hm.app hm', jkO ?_⟩
            clear hm hm'
            refine jo_f [(0, 0), (0, 0), (0, 1), (0, 1), (0, 1), (0, 0)] (by kernel_rfl) ?_
            refine jo_end (by kernel_rfl) ?_
            refine jx_then ?_
            refine jc_cond ((!t_7) || (t_6.2 != t_3.2)) (by kernel_rfl) (fun hc_68 => ?_) (fun hc_68 => ?_)
            · replace h := ifT hc_68 h
              refine jc_seq ?_
              refine jc_region ?_
              refine jo_f [(0, 0)] (by kernel_rfl) ?_
              refine jo_end (by kernel_rfl) ?_
              refine jx_then ?_
              refine jc_ret ?_
              refine jx_thenr ?_
              obtain rfl := Option.some.inj h
              exact jx_ret [] (.bool false) [] rfl (by kernel_rfl) (by kernel_rfl) (fun w hm => ⟨rfl, hm.pick [] (by kernel_rfl) (by kernel_rfl)⟩)
            · replace h := ifF hc_68 h
              refine jc_skip ?_
              refine jx_then ?_
              refine jc_seq ?_
              refine jc_region ?_
              refine jo_f [(0, 0)] (by kernel_rfl) ?_
              refine jo_end (by kernel_rfl) ?_
              refine jx_then ?_
              refine jc_ret ?_
              obtain rfl := Option.some.inj h
              exact jx_ret [] (.bool true) [] rfl (by kernel_rfl) (by kernel_rfl) (fun w hm => ⟨rfl, hm.pick [] (by kernel_rfl) (by kernel_rfl)⟩)
          · refine p_a 0 [0] (by kernel_rfl) (fun b => by kernel_rfl) (fun b_69 => jkD (fun w h => h.pick [0, 1, 2] (by kernel_rfl) (by kernel_rfl)) ?_)
            obtain ⟨t_6, ht_70, h⟩ := bd h
            refine toD 4 (by kernel_rfl) (p_call 0 20 #[(.agg #[(.int .i16 t_4.fAt), (.int .i8 t_4.fPitch)]), (.agg #[(.bool t_5.fAway), (.int .i8 t_5.fLate), (.int .i8 t_5.fOctave), (.int .i8 t_5.fTrack)])] (by kernel_rfl) (by kernel_rfl) (fun w hm => impl_NoteOf.calls t_4 t_5 w _ ht_70) ?_)
            rintro w v w' hm ⟨rfl, hm'⟩
            refine ⟨_, hm.app hm', jkD (fun w h => h.pick [0, 1, 2] (by kernel_rfl) (by kernel_rfl)) ?_⟩
            clear hm hm'
            refine jd_f [⟨5, 0, 0⟩, ⟨6, 0, 0⟩, ⟨7, 0, 0⟩] 2 (by kernel_rfl) (by kernel_rfl) (fun w h => h.pick [0, 1, 2] (by kernel_rfl) (by kernel_rfl)) (by kernel_rfl) (by kernel_rfl) ?_
            refine toD 9 (by kernel_rfl) (p_s 0 [3] (by kernel_rfl) (by kernel_rfl) (jkD (fun w h => h.pick [0, 1, 2] (by kernel_rfl) (by kernel_rfl)) ?_))
            refine jd_f [⟨10, 0, 0⟩] 0 (by kernel_rfl) (by kernel_rfl) (fun w h => h.pick [0, 1, 2] (by kernel_rfl) (by kernel_rfl)) (by kernel_rfl) (by kernel_rfl) ?_
            refine jd_end (by kernel_rfl) ?_
            refine jx_then ?_
            refine jc_seq ?_
            refine jc_seq ?_
            refine jc_region ?_
            refine jo_f [(3, 0), (2, 0)] (by kernel_rfl) ?_
            obtain ⟨t_7, ht_72, h⟩ := bd h
            refine toO (by kernel_rfl) (p_call 0 21 #[(.agg #[(.int .i16 t_6.1.fAt), (.int .i8 t_6.1.fPitch)]), (.agg #[(.int .i16 t_3.1.fAt), (.int .i8 t_3.1.fPitch)])] (by kernel_rfl) (by kernel_rfl) (fun w hm => laws_eqNote.calls t_6.1 t_3.1 w _ ht_72) ?_)
            rintro w v w' hm ⟨rfl, hm'⟩
            refine ⟨_, hm.app hm', jkO ?_⟩
            clear hm hm'
            refine jo_f [(0, 0), (0, 0), (0, 1), (0, 1), (0, 1), (0, 0)] (by kernel_rfl) ?_
            refine jo_end (by kernel_rfl) ?_
            refine jx_then ?_
            refine jc_cond ((!t_7) || (t_6.2 != t_3.2)) (by kernel_rfl) (fun hc_73 => ?_) (fun hc_73 => ?_)
            · replace h := ifT hc_73 h
              refine jc_seq ?_
              refine jc_region ?_
              refine jo_f [(0, 0)] (by kernel_rfl) ?_
              refine jo_end (by kernel_rfl) ?_
              refine jx_then ?_
              refine jc_ret ?_
              refine jx_thenr ?_
              obtain rfl := Option.some.inj h
              exact jx_ret [] (.bool false) [] rfl (by kernel_rfl) (by kernel_rfl) (fun w hm => ⟨rfl, hm.pick [] (by kernel_rfl) (by kernel_rfl)⟩)
            · replace h := ifF hc_73 h
              refine jc_skip ?_
              refine jx_then ?_
              refine jc_seq ?_
              refine jc_region ?_
              refine jo_f [(0, 0)] (by kernel_rfl) ?_
              refine jo_end (by kernel_rfl) ?_
              refine jx_then ?_
              refine jc_ret ?_
              obtain rfl := Option.some.inj h
              exact jx_ret [] (.bool true) [] rfl (by kernel_rfl) (by kernel_rfl) (fun w hm => ⟨rfl, hm.pick [] (by kernel_rfl) (by kernel_rfl)⟩)
        · refine p_a 0 [0] (by kernel_rfl) (fun b => by kernel_rfl) (fun b_74 => jkD (fun w h => h.pick [0, 1, 2] (by kernel_rfl) (by kernel_rfl)) ?_)
          obtain ⟨t_5, ht_75, h⟩ := bd h
          refine toD 3 (by kernel_rfl) (p_call 0 16 #[(.agg #[(.bool aX1.fAway), (.int .i8 aX1.fLate), (.int .i8 aX1.fOctave), (.int .i8 aX1.fTrack)])] (by kernel_rfl) (by kernel_rfl) (fun w hm => laws_toChoice.calls aX1 w _ ht_75) ?_)
          rintro w v w' hm ⟨rfl, hm'⟩
          refine ⟨_, hm.app hm', jkD (fun w h => h.pick [0, 1, 2] (by kernel_rfl) (by kernel_rfl)) ?_⟩
          clear hm hm'
          obtain ⟨t_6, ht_76, h⟩ := bd h
          refine toD 4 (by kernel_rfl) (p_call 0 20 #[(.agg #[(.int .i16 t_4.fAt), (.int .i8 t_4.fPitch)]), (.agg #[(.bool t_5.fAway), (.int .i8 t_5.fLate), (.int .i8 t_5.fOctave), (.int .i8 t_5.fTrack)])] (by kernel_rfl) (by kernel_rfl) (fun w hm => impl_NoteOf.calls t_4 t_5 w _ ht_76) ?_)
          rintro w v w' hm ⟨rfl, hm'⟩
          refine ⟨_, hm.app hm', jkD (fun w h => h.pick [0, 1, 2] (by kernel_rfl) (by kernel_rfl)) ?_⟩
          clear hm hm'
          refine jd_f [⟨5, 0, 0⟩, ⟨6, 0, 0⟩, ⟨7, 0, 0⟩] 2 (by kernel_rfl) (by kernel_rfl) (fun w h => h.pick [0, 1, 2] (by kernel_rfl) (by kernel_rfl)) (by kernel_rfl) (by kernel_rfl) ?_
          refine toD 9 (by kernel_rfl) (p_s 0 [3] (by kernel_rfl) (by kernel_rfl) (jkD (fun w h => h.pick [0, 1, 2] (by kernel_rfl) (by kernel_rfl)) ?_))
          refine jd_f [⟨10, 0, 0⟩] 0 (by kernel_rfl) (by kernel_rfl) (fun w h => h.pick [0, 1, 2] (by kernel_rfl) (by kernel_rfl)) (by kernel_rfl) (by kernel_rfl) ?_
          refine jd_end (by kernel_rfl) ?_
          refine jx_then ?_
          refine jc_seq ?_
          refine jc_seq ?_
          refine jc_region ?_
          refine jo_f [(3, 0), (2, 0)] (by kernel_rfl) ?_
          obtain ⟨t_7, ht_78, h⟩ := bd h
          refine toO (by kernel_rfl) (p_call 0 21 #[(.agg #[(.int .i16 t_6.1.fAt), (.int .i8 t_6.1.fPitch)]), (.agg #[(.int .i16 t_3.1.fAt), (.int .i8 t_3.1.fPitch)])] (by kernel_rfl) (by kernel_rfl) (fun w hm => laws_eqNote.calls t_6.1 t_3.1 w _ ht_78) ?_)
          rintro w v w' hm ⟨rfl, hm'⟩
          refine ⟨_, hm.app hm', jkO ?_⟩
          clear hm hm'
          refine jo_f [(0, 0), (0, 0), (0, 1), (0, 1), (0, 1), (0, 0)] (by kernel_rfl) ?_
          refine jo_end (by kernel_rfl) ?_
          refine jx_then ?_
          refine jc_cond ((!t_7) || (t_6.2 != t_3.2)) (by kernel_rfl) (fun hc_79 => ?_) (fun hc_79 => ?_)
          · replace h := ifT hc_79 h
            refine jc_seq ?_
            refine jc_region ?_
            refine jo_f [(0, 0)] (by kernel_rfl) ?_
            refine jo_end (by kernel_rfl) ?_
            refine jx_then ?_
            refine jc_ret ?_
            refine jx_thenr ?_
            obtain rfl := Option.some.inj h
            exact jx_ret [] (.bool false) [] rfl (by kernel_rfl) (by kernel_rfl) (fun w hm => ⟨rfl, hm.pick [] (by kernel_rfl) (by kernel_rfl)⟩)
          · replace h := ifF hc_79 h
            refine jc_skip ?_
            refine jx_then ?_
            refine jc_seq ?_
            refine jc_region ?_
            refine jo_f [(0, 0)] (by kernel_rfl) ?_
            refine jo_end (by kernel_rfl) ?_
            refine jx_then ?_
            refine jc_ret ?_
            obtain rfl := Option.some.inj h
            exact jx_ret [] (.bool true) [] rfl (by kernel_rfl) (by kernel_rfl) (fun w hm => ⟨rfl, hm.pick [] (by kernel_rfl) (by kernel_rfl)⟩)
      · refine p_a 0 [0] (by kernel_rfl) (fun b => by kernel_rfl) (fun b_80 => jkD (fun w h => h.pick [0, 1, 2] (by kernel_rfl) (by kernel_rfl)) ?_)
        obtain ⟨t_4, ht_81, h⟩ := bd h
        refine toD 1 (by kernel_rfl) (p_call 0 19 #[(.agg #[(.int .i16 aN0.fAt), (.int .i8 aN0.fPitch)])] (by kernel_rfl) (by kernel_rfl) (fun w hm => laws_toNote.calls aN0 w _ ht_81) ?_)
        rintro w v w' hm ⟨rfl, hm'⟩
        refine ⟨_, hm.app hm', jkD (fun w h => h.pick [0, 1, 2] (by kernel_rfl) (by kernel_rfl)) ?_⟩
        clear hm hm'
        obtain ⟨t_5, ht_82, h⟩ := bd h
        refine toD 3 (by kernel_rfl) (p_call 0 16 #[(.agg #[(.bool aX1.fAway), (.int .i8 aX1.fLate), (.int .i8 aX1.fOctave), (.int .i8 aX1.fTrack)])] (by kernel_rfl) (by kernel_rfl) (fun w hm => laws_toChoice.calls aX1 w _ ht_82) ?_)
        rintro w v w' hm ⟨rfl, hm'⟩
        refine ⟨_, hm.app hm', jkD (fun w h => h.pick [0, 1, 2] (by kernel_rfl) (by kernel_rfl)) ?_⟩
        clear hm hm'
        obtain ⟨t_6, ht_83, h⟩ := bd h
        refine toD 4 (by kernel_rfl) (p_call 0 20 #[(.agg #[(.int .i16 t_4.fAt), (.int .i8 t_4.fPitch)]), (.agg #[(.bool t_5.fAway), (.int .i8 t_5.fLate), (.int .i8 t_5.fOctave), (.int .i8 t_5.fTrack)])] (by kernel_rfl) (by kernel_rfl) (fun w hm => impl_NoteOf.calls t_4 t_5 w _ ht_83) ?_)
        rintro w v w' hm ⟨rfl, hm'⟩
        refine ⟨_, hm.app hm', jkD (fun w h => h.pick [0, 1, 2] (by kernel_rfl) (by kernel_rfl)) ?_⟩
        clear hm hm'
        refine jd_f [⟨5, 0, 0⟩, ⟨6, 0, 0⟩, ⟨7, 0, 0⟩] 2 (by kernel_rfl) (by kernel_rfl) (fun w h => h.pick [0, 1, 2] (by kernel_rfl) (by kernel_rfl)) (by kernel_rfl) (by kernel_rfl) ?_
        refine toD 9 (by kernel_rfl) (p_s 0 [3] (by kernel_rfl) (by kernel_rfl) (jkD (fun w h => h.pick [0, 1, 2] (by kernel_rfl) (by kernel_rfl)) ?_))
        refine jd_f [⟨10, 0, 0⟩] 0 (by kernel_rfl) (by kernel_rfl) (fun w h => h.pick [0, 1, 2] (by kernel_rfl) (by kernel_rfl)) (by kernel_rfl) (by kernel_rfl) ?_
        refine jd_end (by kernel_rfl) ?_
        refine jx_then ?_
        refine jc_seq ?_
        refine jc_seq ?_
        refine jc_region ?_
        refine jo_f [(3, 0), (2, 0)] (by kernel_rfl) ?_
        obtain ⟨t_7, ht_85, h⟩ := bd h
        refine toO (by kernel_rfl) (p_call 0 21 #[(.agg #[(.int .i16 t_6.1.fAt), (.int .i8 t_6.1.fPitch)]), (.agg #[(.int .i16 t_3.1.fAt), (.int .i8 t_3.1.fPitch)])] (by kernel_rfl) (by kernel_rfl) (fun w hm => laws_eqNote.calls t_6.1 t_3.1 w _ ht_85) ?_)
        rintro w v w' hm ⟨rfl, hm'⟩
        refine ⟨_, hm.app hm', jkO ?_⟩
        clear hm hm'
        refine jo_f [(0, 0), (0, 0), (0, 1), (0, 1), (0, 1), (0, 0)] (by kernel_rfl) ?_
        refine jo_end (by kernel_rfl) ?_
        refine jx_then ?_
        refine jc_cond ((!t_7) || (t_6.2 != t_3.2)) (by kernel_rfl) (fun hc_86 => ?_) (fun hc_86 => ?_)
        · replace h := ifT hc_86 h
          refine jc_seq ?_
          refine jc_region ?_
          refine jo_f [(0, 0)] (by kernel_rfl) ?_
          refine jo_end (by kernel_rfl) ?_
          refine jx_then ?_
          refine jc_ret ?_
          refine jx_thenr ?_
          obtain rfl := Option.some.inj h
          exact jx_ret [] (.bool false) [] rfl (by kernel_rfl) (by kernel_rfl) (fun w hm => ⟨rfl, hm.pick [] (by kernel_rfl) (by kernel_rfl)⟩)
        · replace h := ifF hc_86 h
          refine jc_skip ?_
          refine jx_then ?_
          refine jc_seq ?_
          refine jc_region ?_
          refine jo_f [(0, 0)] (by kernel_rfl) ?_
          refine jo_end (by kernel_rfl) ?_
          refine jx_then ?_
          refine jc_ret ?_
          obtain rfl := Option.some.inj h
          exact jx_ret [] (.bool true) [] rfl (by kernel_rfl) (by kernel_rfl) (fun w hm => ⟨rfl, hm.pick [] (by kernel_rfl) (by kernel_rfl)⟩)
  · refine p_a 0 [0] (by kernel_rfl) (fun b => by kernel_rfl) (fun b_87 => jkD (fun w h => h.pick [0, 1] (by kernel_rfl) (by kernel_rfl)) ?_)
    obtain ⟨t_1, ht_88, h⟩ := bd h
    refine toD 1 (by kernel_rfl) (p_call 0 19 #[(.agg #[(.int .i16 aN0.fAt), (.int .i8 aN0.fPitch)])] (by kernel_rfl) (by kernel_rfl) (fun w hm => laws_toNote.calls aN0 w _ ht_88) ?_)
    rintro w v w' hm ⟨rfl, hm'⟩
    refine ⟨_, hm.app hm', jkD (fun w h => h.pick [0, 1] (by kernel_rfl) (by kernel_rfl)) ?_⟩
    clear hm hm'
    obtain ⟨t_2, ht_89, h⟩ := bd h
    refine toD 3 (by kernel_rfl) (p_call 0 16 #[(.agg #[(.bool aX1.fAway), (.int .i8 aX1.fLate), (.int .i8 aX1.fOctave), (.int .i8 aX1.fTrack)])] (by kernel_rfl) (by kernel_rfl) (fun w hm => laws_toChoice.calls aX1 w _ ht_89) ?_)
    rintro w v w' hm ⟨rfl, hm'⟩
    refine ⟨_, hm.app hm', jkD (fun w h => h.pick [0, 1] (by kernel_rfl) (by kernel_rfl)) ?_⟩
    clear hm hm'
    obtain ⟨t_3, ht_90, h⟩ := bd h
    refine toD 4 (by kernel_rfl) (p_call 0 18 #[(.agg #[(.int .i16 t_1.fAt), (.int .i8 t_1.fPitch)]), (.agg #[(.bool t_2.fAway), (.int .i8 t_2.fLate), (.int .i8 t_2.fOctave), (.int .i8 t_2.fTrack)])] (by kernel_rfl) (by kernel_rfl) (fun w hm => spec_NoteOf.calls t_1 t_2 w _ ht_90) ?_)
    rintro w v w' hm ⟨rfl, hm'⟩
    refine ⟨_, hm.app hm', jkD (fun w h => h.pick [0, 1] (by kernel_rfl) (by kernel_rfl)) ?_⟩
    clear hm hm'
    refine jd_f [⟨5, 0, 0⟩, ⟨6, 0, 0⟩, ⟨7, 0, 0⟩] 2 (by kernel_rfl) (by kernel_rfl) (fun w h => h.pick [0, 1] (by kernel_rfl) (by kernel_rfl)) (by kernel_rfl) (by kernel_rfl) ?_
    refine toD 9 (by kernel_rfl) (p_s 0 [2] (by kernel_rfl) (by kernel_rfl) (jkD (fun w h => h.pick [0, 1] (by kernel_rfl) (by kernel_rfl)) ?_))
    refine jd_f [⟨10, 0, 0⟩] 0 (by kernel_rfl) (by kernel_rfl) (fun w h => h.pick [0, 1] (by kernel_rfl) (by kernel_rfl)) (by kernel_rfl) (by kernel_rfl) ?_
    refine jd_end (by kernel_rfl) ?_
    refine jx_then ?_
    refine jc_seq ?_
    refine jc_draw [⟨some b_1, 43, [(.int .i16 aN0.fAt), (.int .i8 aN0.fPitch)]⟩, ⟨some b_2, 37, [(.bool aX1.fAway), (.int .i8 aX1.fLate), (.int .i8 aX1.fOctave), (.int .i8 aX1.fTrack)]⟩, ⟨some b_87, 44, [(.int .i16 t_3.1.fAt), (.int .i8 t_3.1.fPitch)]⟩] 11 (by kernel_rfl) (by kernel_rfl) ?_
    refine jd_f [⟨0, 0, 0⟩, ⟨2, 1, 0⟩] 9 (by kernel_rfl) (by kernel_rfl) (fun w h => h.pick [0, 1, 2] (by kernel_rfl) (by kernel_rfl)) (by kernel_rfl) (by kernel_rfl) ?_
    refine toD2 1 8 (by kernel_rfl) ?_ ?_
    · obtain ⟨t_4, ht_91, h⟩ := bd h
      refine p_call 0 19 #[(.agg #[(.int .i16 aN0.fAt), (.int .i8 aN0.fPitch)])] (by kernel_rfl) (by kernel_rfl) (fun w hm => laws_toNote.calls aN0 w _ ht_91) ?_
      rintro w v w' hm ⟨rfl, hm'⟩
      refine ⟨_, hm.app hm', jkD (fun w h => h.pick [0, 1, 2] (by kernel_rfl) (by kernel_rfl)) ?_⟩
      clear hm hm'
      refine toD2 3 8 (by kernel_rfl) ?_ ?_
      · obtain ⟨t_5, ht_92, h⟩ := bd h
        refine p_call 0 16 #[(.agg #[(.bool aX1.fAway), (.int .i8 aX1.fLate), (.int .i8 aX1.fOctave), (.int .i8 aX1.fTrack)])] (by kernel_rfl) (by kernel_rfl) (fun w hm => laws_toChoice.calls aX1 w _ ht_92) ?_
        rintro w v w' hm ⟨rfl, hm'⟩
        refine ⟨_, hm.app hm', jkD (fun w h => h.pick [0, 1, 2] (by kernel_rfl) (by kernel_rfl)) ?_⟩
        clear hm hm'
        refine toD2 4 8 (by kernel_rfl) ?_ ?_
        · obtain ⟨t_6, ht_93, h⟩ := bd h
          refine p_call 0 20 #[(.agg #[(.int .i16 t_4.fAt), (.int .i8 t_4.fPitch)]), (.agg #[(.bool t_5.fAway), (.int .i8 t_5.fLate), (.int .i8 t_5.fOctave), (.int .i8 t_5.fTrack)])] (by kernel_rfl) (by kernel_rfl) (fun w hm => impl_NoteOf.calls t_4 t_5 w _ ht_93) ?_
          rintro w v w' hm ⟨rfl, hm'⟩
          refine ⟨_, hm.app hm', jkD (fun w h => h.pick [0, 1, 2] (by kernel_rfl) (by kernel_rfl)) ?_⟩
          clear hm hm'
          refine jd_f [⟨5, 0, 0⟩, ⟨6, 0, 0⟩, ⟨7, 0, 0⟩] 3 (by kernel_rfl) (by kernel_rfl) (fun w h => h.pick [0, 1, 2] (by kernel_rfl) (by kernel_rfl)) (by kernel_rfl) (by kernel_rfl) ?_
          refine toD 8 (by kernel_rfl) (p_a 0 [0] (by kernel_rfl) (fun b => by kernel_rfl) (fun b_94 => jkD (fun w h => h.pick [0, 1, 2] (by kernel_rfl) (by kernel_rfl)) ?_))
          refine toD 9 (by kernel_rfl) (p_s 0 [3] (by kernel_rfl) (by kernel_rfl) (jkD (fun w h => h.pick [0, 1, 2] (by kernel_rfl) (by kernel_rfl)) ?_))
          refine jd_f [⟨10, 0, 0⟩] 0 (by kernel_rfl) (by kernel_rfl) (fun w h => h.pick [0, 1, 2] (by kernel_rfl) (by kernel_rfl)) (by kernel_rfl) (by kernel_rfl) ?_
          refine jd_end (by kernel_rfl) ?_
          refine jx_then ?_
          refine jc_seq ?_
          refine jc_seq ?_
          refine jc_region ?_
          refine jo_f [(3, 0), (2, 0)] (by kernel_rfl) ?_
          obtain ⟨t_7, ht_96, h⟩ := bd h
          refine toO (by kernel_rfl) (p_call 0 21 #[(.agg #[(.int .i16 t_6.1.fAt), (.int .i8 t_6.1.fPitch)]), (.agg #[(.int .i16 t_3.1.fAt), (.int .i8 t_3.1.fPitch)])] (by kernel_rfl) (by kernel_rfl) (fun w hm => laws_eqNote.calls t_6.1 t_3.1 w _ ht_96) ?_)
          rintro w v w' hm ⟨rfl, hm'⟩
          refine ⟨_, hm.app hm', jkO ?_⟩
          clear hm hm'
          refine jo_f [(0, 0), (0, 0), (0, 1), (0, 1), (0, 1), (0, 0)] (by kernel_rfl) ?_
          refine jo_end (by kernel_rfl) ?_
          refine jx_then ?_
          refine jc_cond ((!t_7) || (t_6.2 != t_3.2)) (by kernel_rfl) (fun hc_97 => ?_) (fun hc_97 => ?_)
          · replace h := ifT hc_97 h
            refine jc_seq ?_
            refine jc_region ?_
            refine jo_f [(0, 0)] (by kernel_rfl) ?_
            refine jo_end (by kernel_rfl) ?_
            refine jx_then ?_
            refine jc_ret ?_
            refine jx_thenr ?_
            obtain rfl := Option.some.inj h
            exact jx_ret [] (.bool false) [] rfl (by kernel_rfl) (by kernel_rfl) (fun w hm => ⟨rfl, hm.pick [] (by kernel_rfl) (by kernel_rfl)⟩)
          · replace h := ifF hc_97 h
            refine jc_skip ?_
            refine jx_then ?_
            refine jc_seq ?_
            refine jc_region ?_
            refine jo_f [(0, 0)] (by kernel_rfl) ?_
            refine jo_end (by kernel_rfl) ?_
            refine jx_then ?_
            refine jc_ret ?_
            obtain rfl := Option.some.inj h
            exact jx_ret [] (.bool true) [] rfl (by kernel_rfl) (by kernel_rfl) (fun w hm => ⟨rfl, hm.pick [] (by kernel_rfl) (by kernel_rfl)⟩)
        · refine p_a 0 [0] (by kernel_rfl) (fun b => by kernel_rfl) (fun b_98 => jkD (fun w h => h.pick [0, 1, 2] (by kernel_rfl) (by kernel_rfl)) ?_)
          obtain ⟨t_6, ht_99, h⟩ := bd h
          refine toD 4 (by kernel_rfl) (p_call 0 20 #[(.agg #[(.int .i16 t_4.fAt), (.int .i8 t_4.fPitch)]), (.agg #[(.bool t_5.fAway), (.int .i8 t_5.fLate), (.int .i8 t_5.fOctave), (.int .i8 t_5.fTrack)])] (by kernel_rfl) (by kernel_rfl) (fun w hm => impl_NoteOf.calls t_4 t_5 w _ ht_99) ?_)
          rintro w v w' hm ⟨rfl, hm'⟩
          refine ⟨_, hm.app hm', jkD (fun w h => h.pick [0, 1, 2] (by kernel_rfl) (by kernel_rfl)) ?_⟩
          clear hm hm'
          refine jd_f [⟨5, 0, 0⟩, ⟨6, 0, 0⟩, ⟨7, 0, 0⟩] 2 (by kernel_rfl) (by kernel_rfl) (fun w h => h.pick [0, 1, 2] (by kernel_rfl) (by kernel_rfl)) (by kernel_rfl) (by kernel_rfl) ?_
          refine toD 9 (by kernel_rfl) (p_s 0 [3] (by kernel_rfl) (by kernel_rfl) (jkD (fun w h => h.pick [0, 1, 2] (by kernel_rfl) (by kernel_rfl)) ?_))
          refine jd_f [⟨10, 0, 0⟩] 0 (by kernel_rfl) (by kernel_rfl) (fun w h => h.pick [0, 1, 2] (by kernel_rfl) (by kernel_rfl)) (by kernel_rfl) (by kernel_rfl) ?_
          refine jd_end (by kernel_rfl) ?_
          refine jx_then ?_
          refine jc_seq ?_
          refine jc_seq ?_
          refine jc_region ?_
          refine jo_f [(3, 0), (2, 0)] (by kernel_rfl) ?_
          obtain ⟨t_7, ht_101, h⟩ := bd h
          refine toO (by kernel_rfl) (p_call 0 21 #[(.agg #[(.int .i16 t_6.1.fAt), (.int .i8 t_6.1.fPitch)]), (.agg #[(.int .i16 t_3.1.fAt), (.int .i8 t_3.1.fPitch)])] (by kernel_rfl) (by kernel_rfl) (fun w hm => laws_eqNote.calls t_6.1 t_3.1 w _ ht_101) ?_)
          rintro w v w' hm ⟨rfl, hm'⟩
          refine ⟨_, hm.app hm', jkO ?_⟩
          clear hm hm'
          refine jo_f [(0, 0), (0, 0), (0, 1), (0, 1), (0, 1), (0, 0)] (by kernel_rfl) ?_
          refine jo_end (by kernel_rfl) ?_
          refine jx_then ?_
          refine jc_cond ((!t_7) || (t_6.2 != t_3.2)) (by kernel_rfl) (fun hc_102 => ?_) (fun hc_102 => ?_)
          · replace h := ifT hc_102 h
            refine jc_seq ?_
            refine jc_region ?_
            refine jo_f [(0, 0)] (by kernel_rfl) ?_
            refine jo_end (by kernel_rfl) ?_
            refine jx_then ?_
            refine jc_ret ?_
            refine jx_thenr ?_
            obtain rfl := Option.some.inj h
            exact jx_ret [] (.bool false) [] rfl (by kernel_rfl) (by kernel_rfl) (fun w hm => ⟨rfl, hm.pick [] (by kernel_rfl) (by kernel_rfl)⟩)
          · replace h := ifF hc_102 h
            refine jc_skip ?_
            refine jx_then ?_
            refine jc_seq ?_
            refine jc_region ?_
            refine jo_f [(0, 0)] (by kernel_rfl) ?_
            refine jo_end (by kernel_rfl) ?_
            refine jx_then ?_
            refine jc_ret ?_
            obtain rfl := Option.some.inj h
            exact jx_ret [] (.bool true) [] rfl (by kernel_rfl) (by kernel_rfl) (fun w hm => ⟨rfl, hm.pick [] (by kernel_rfl) (by kernel_rfl)⟩)
      · refine p_a 0 [0] (by kernel_rfl) (fun b => by kernel_rfl) (fun b_103 => jkD (fun w h => h.pick [0, 1, 2] (by kernel_rfl) (by kernel_rfl)) ?_)
        obtain ⟨t_5, ht_104, h⟩ := bd h
        refine toD 3 (by kernel_rfl) (p_call 0 16 #[(.agg #[(.bool aX1.fAway), (.int .i8 aX1.fLate), (.int .i8 aX1.fOctave), (.int .i8 aX1.fTrack)])] (by kernel_rfl) (by kernel_rfl) (fun w hm => laws_toChoice.calls aX1 w _ ht_104) ?_)
        rintro w v w' hm ⟨rfl, hm'⟩
        refine ⟨_, hm.app hm', jkD (fun w h => h.pick [0, 1, 2] (by kernel_rfl) (by kernel_rfl)) ?_⟩
        clear hm hm'
        obtain ⟨t_6, ht_105, h⟩ := bd h
        refine toD 4 (by kernel_rfl) (p_call 0 20 #[(.agg #[(.int .i16 t_4.fAt), (.int .i8 t_4.fPitch)]), (.agg #[(.bool t_5.fAway), (.int .i8 t_5.fLate), (.int .i8 t_5.fOctave), (.int .i8 t_5.fTrack)])] (by kernel_rfl) (by kernel_rfl) (fun w hm => impl_NoteOf.calls t_4 t_5 w _ ht_105) ?_)
        rintro w v w' hm ⟨rfl, hm'⟩
        refine ⟨_, hm.app hm', jkD (fun w h => h.pick [0, 1, 2] (by kernel_rfl) (by kernel_rfl)) ?_⟩
        clear hm hm'
        refine jd_f [⟨5, 0, 0⟩, ⟨6, 0, 0⟩, ⟨7, 0, 0⟩] 2 (by kernel_rfl) (by kernel_rfl) (fun w h => h.pick [0, 1, 2] (by kernel_rfl) (by kernel_rfl)) (by kernel_rfl) (by kernel_rfl) ?_
        refine toD 9 (by kernel_rfl) (p_s 0 [3] (by kernel_rfl) (by kernel_rfl) (jkD (fun w h => h.pick [0, 1, 2] (by kernel_rfl) (by kernel_rfl)) ?_))
        refine jd_f [⟨10, 0, 0⟩] 0 (by kernel_rfl) (by kernel_rfl) (fun w h => h.pick [0, 1, 2] (by kernel_rfl) (by kernel_rfl)) (by kernel_rfl) (by kernel_rfl) ?_
        refine jd_end (by kernel_rfl) ?_
        refine jx_then ?_
        refine jc_seq ?_
        refine jc_seq ?_
        refine jc_region ?_
        refine jo_f [(3, 0), (2, 0)] (by kernel_rfl) ?_
        obtain ⟨t_7, ht_107, h⟩ := bd h
        refine toO (by kernel_rfl) (p_call 0 21 #[(.agg #[(.int .i16 t_6.1.fAt), (.int .i8 t_6.1.fPitch)]), (.agg #[(.int .i16 t_3.1.fAt), (.int .i8 t_3.1.fPitch)])] (by kernel_rfl) (by kernel_rfl) (fun w hm => laws_eqNote.calls t_6.1 t_3.1 w _ ht_107) ?_)
        rintro w v w' hm ⟨rfl, hm'⟩
        refine ⟨_, hm.app hm', jkO ?_⟩
        clear hm hm'
        refine jo_f [(0, 0), (0, 0), (0, 1), (0, 1), (0, 1), (0, 0)] (by kernel_rfl) ?_
        refine jo_end (by kernel_rfl) ?_
        refine jx_then ?_
        refine jc_cond ((!t_7) || (t_6.2 != t_3.2)) (by kernel_rfl) (fun hc_108 => ?_) (fun hc_108 => ?_)
        · replace h := ifT hc_108 h
          refine jc_seq ?_
          refine jc_region ?_
          refine jo_f [(0, 0)] (by kernel_rfl) ?_
          refine jo_end (by kernel_rfl) ?_
          refine jx_then ?_
          refine jc_ret ?_
          refine jx_thenr ?_
          obtain rfl := Option.some.inj h
          exact jx_ret [] (.bool false) [] rfl (by kernel_rfl) (by kernel_rfl) (fun w hm => ⟨rfl, hm.pick [] (by kernel_rfl) (by kernel_rfl)⟩)
        · replace h := ifF hc_108 h
          refine jc_skip ?_
          refine jx_then ?_
          refine jc_seq ?_
          refine jc_region ?_
          refine jo_f [(0, 0)] (by kernel_rfl) ?_
          refine jo_end (by kernel_rfl) ?_
          refine jx_then ?_
          refine jc_ret ?_
          obtain rfl := Option.some.inj h
          exact jx_ret [] (.bool true) [] rfl (by kernel_rfl) (by kernel_rfl) (fun w hm => ⟨rfl, hm.pick [] (by kernel_rfl) (by kernel_rfl)⟩)
    · refine p_a 0 [0] (by kernel_rfl) (fun b => by kernel_rfl) (fun b_109 => jkD (fun w h => h.pick [0, 1, 2] (by kernel_rfl) (by kernel_rfl)) ?_)
      obtain ⟨t_4, ht_110, h⟩ := bd h
      refine toD 1 (by kernel_rfl) (p_call 0 19 #[(.agg #[(.int .i16 aN0.fAt), (.int .i8 aN0.fPitch)])] (by kernel_rfl) (by kernel_rfl) (fun w hm => laws_toNote.calls aN0 w _ ht_110) ?_)
      rintro w v w' hm ⟨rfl, hm'⟩
      refine ⟨_, hm.app hm', jkD (fun w h => h.pick [0, 1, 2] (by kernel_rfl) (by kernel_rfl)) ?_⟩
      clear hm hm'
      obtain ⟨t_5, ht_111, h⟩ := bd h
      refine toD 3 (by kernel_rfl) (p_call 0 16 #[(.agg #[(.bool aX1.fAway), (.int .i8 aX1.fLate), (.int .i8 aX1.fOctave), (.int .i8 aX1.fTrack)])] (by kernel_rfl) (by kernel_rfl) (fun w hm => laws_toChoice.calls aX1 w _ ht_111) ?_)
      rintro w v w' hm ⟨rfl, hm'⟩
      refine ⟨_, hm.app hm', jkD (fun w h => h.pick [0, 1, 2] (by kernel_rfl) (by kernel_rfl)) ?_⟩
      clear hm hm'
      obtain ⟨t_6, ht_112, h⟩ := bd h
      refine toD 4 (by kernel_rfl) (p_call 0 20 #[(.agg #[(.int .i16 t_4.fAt), (.int .i8 t_4.fPitch)]), (.agg #[(.bool t_5.fAway), (.int .i8 t_5.fLate), (.int .i8 t_5.fOctave), (.int .i8 t_5.fTrack)])] (by kernel_rfl) (by kernel_rfl) (fun w hm => impl_NoteOf.calls t_4 t_5 w _ ht_112) ?_)
      rintro w v w' hm ⟨rfl, hm'⟩
      refine ⟨_, hm.app hm', jkD (fun w h => h.pick [0, 1, 2] (by kernel_rfl) (by kernel_rfl)) ?_⟩
      clear hm hm'
      refine jd_f [⟨5, 0, 0⟩, ⟨6, 0, 0⟩, ⟨7, 0, 0⟩] 2 (by kernel_rfl) (by kernel_rfl) (fun w h => h.pick [0, 1, 2] (by kernel_rfl) (by kernel_rfl)) (by kernel_rfl) (by kernel_rfl) ?_
      refine toD 9 (by kernel_rfl) (p_s 0 [3] (by kernel_rfl) (by kernel_rfl) (jkD (fun w h => h.pick [0, 1, 2] (by kernel_rfl) (by kernel_rfl)) ?_))
      refine jd_f [⟨10, 0, 0⟩] 0 (by kernel_rfl) (by kernel_rfl) (fun w h => h.pick [0, 1, 2] (by kernel_rfl) (by kernel_rfl)) (by kernel_rfl) (by kernel_rfl) ?_
      refine jd_end (by kernel_rfl) ?_
      refine jx_then ?_
      refine jc_seq ?_
      refine jc_seq ?_
      refine jc_region ?_
      refine jo_f [(3, 0), (2, 0)] (by kernel_rfl) ?_
      obtain ⟨t_7, ht_114, h⟩ := bd h
      refine toO (by kernel_rfl) (p_call 0 21 #[(.agg #[(.int .i16 t_6.1.fAt), (.int .i8 t_6.1.fPitch)]), (.agg #[(.int .i16 t_3.1.fAt), (.int .i8 t_3.1.fPitch)])] (by kernel_rfl) (by kernel_rfl) (fun w hm => laws_eqNote.calls t_6.1 t_3.1 w _ ht_114) ?_)
      rintro w v w' hm ⟨rfl, hm'⟩
      refine ⟨_, hm.app hm', jkO ?_⟩
      clear hm hm'
      refine jo_f [(0, 0), (0, 0), (0, 1), (0, 1), (0, 1), (0, 0)] (by kernel_rfl) ?_
      refine jo_end (by kernel_rfl) ?_
      refine jx_then ?_
      refine jc_cond ((!t_7) || (t_6.2 != t_3.2)) (by kernel_rfl) (fun hc_115 => ?_) (fun hc_115 => ?_)
      · replace h := ifT hc_115 h
        refine jc_seq ?_
        refine jc_region ?_
        refine jo_f [(0, 0)] (by kernel_rfl) ?_
        refine jo_end (by kernel_rfl) ?_
        refine jx_then ?_
        refine jc_ret ?_
        refine jx_thenr ?_
        obtain rfl := Option.some.inj h
        exact jx_ret [] (.bool false) [] rfl (by kernel_rfl) (by kernel_rfl) (fun w hm => ⟨rfl, hm.pick [] (by kernel_rfl) (by kernel_rfl)⟩)
      · replace h := ifF hc_115 h
        refine jc_skip ?_
        refine jx_then ?_
        refine jc_seq ?_
        refine jc_region ?_
        refine jo_f [(0, 0)] (by kernel_rfl) ?_
        refine jo_end (by kernel_rfl) ?_
        refine jx_then ?_
        refine jc_ret ?_
        obtain rfl := Option.some.inj h
        exact jx_ret [] (.bool true) [] rfl (by kernel_rfl) (by kernel_rfl) (fun w hm => ⟨rfl, hm.pick [] (by kernel_rfl) (by kernel_rfl)⟩)

/-! ### laws.szWornPinS -/
noncomputable def laws_szWornPinS (a0 : List GWornPin) (left1 : Int) : Option (Int) := (if (decide ((w64 (left1 - (a0.length : Int))) < 0)) = true then some (-1) else some (w64 (left1 - (a0.length : Int))))
set_option maxRecDepth 100000 in
theorem laws_szWornPinS.calls (a0 : List GWornPin) (left1 : Int) (w : World) (r : Int) (a0_a : Option Addr) (a0_an : Nat) (a0_c : Nat) (a0_h : Rw w a0_a 3 encGWornPin a0) (a0_hn : a0.length = a0_an) (h : laws_szWornPinS a0 left1 = some r) :
    Calls Try.prog 38 #[(.slice a0_a a0_an a0_c), (.int .i64 left1)] w fun e w' => ∃ v, e = .returned v ∧ (v = (.int .i64 r) ∧ Mem w [] [] w') := by
  subst a0_hn
  rw [laws_szWornPinS] at h
  refine enter (args := [(.slice a0_a a0.length a0_c), (.int .i64 left1)]) Try.func38 rfl Try.ntmps38 (by kernel_rfl) (L := []) (W := []) (Mem.start w) ?_
  refine jc_seq ?_
  refine jc_region ?_
  refine jo_f [(0, 0)] (by kernel_rfl) ?_
  refine jo_end (by kernel_rfl) ?_
  refine jx_then ?_
  refine jc_seq ?_
  refine jc_region ?_
  refine jo_f [(0, 0), (0, 0), (0, 0), (0, 0), (0, 0)] (by kernel_rfl) ?_
  refine jo_end (by kernel_rfl) ?_
  refine jx_then ?_
  refine jc_seq ?_
  refine jc_seq ?_
  refine jc_region ?_
  refine jo_f [(0, 0), (0, 0)] (by kernel_rfl) ?_
  refine jo_end (by kernel_rfl) ?_
  refine jx_then ?_
  refine jc_cond (decide ((w64 (left1 - (a0.length : Int))) < 0)) (by kernel_rfl) (fun hc_2 => ?_) (fun hc_2 => ?_)
  · replace h := ifT hc_2 h
    refine jc_seq ?_
    refine jc_region ?_
    refine jo_f [(0, 0)] (by kernel_rfl) ?_
    refine jo_end (by kernel_rfl) ?_
    refine jx_then ?_
    refine jc_ret ?_
    refine jx_thenr ?_
    obtain rfl := Option.some.inj h
    exact jx_ret [] (.int .i64 (-1)) [] rfl (by kernel_rfl) (by kernel_rfl) (fun w hm => ⟨rfl, hm.pick [] (by kernel_rfl) (by kernel_rfl)⟩)
  · replace h := ifF hc_2 h
    refine jc_skip ?_
    refine jx_then ?_
    refine jc_seq ?_
    refine jc_region ?_
    refine jo_f [(0, 0), (0, 0)] (by kernel_rfl) ?_
    refine jo_end (by kernel_rfl) ?_
    refine jx_then ?_
    refine jc_ret ?_
    obtain rfl := Option.some.inj h
    exact jx_ret [] (.int .i64 (w64 (left1 - (a0.length : Int)))) [] rfl (by kernel_rfl) (by kernel_rfl) (fun w hm => ⟨rfl, hm.pick [] (by kernel_rfl) (by kernel_rfl)⟩)

/-! ### laws.szInt64S -/
noncomputable def laws_szInt64S (a0 : List Int) (left1 : Int) : Option (Int) := (if (decide ((w64 (left1 - (a0.length : Int))) < 0)) = true then some (-1) else some (w64 (left1 - (a0.length : Int))))
set_option maxRecDepth 100000 in
theorem laws_szInt64S.calls (a0 : List Int) (left1 : Int) (w : World) (r : Int) (a0_a : Option Addr) (a0_an : Nat) (a0_c : Nat) (a0_h : Rw w a0_a 1 encI64 a0) (a0_hn : a0.length = a0_an) (h : laws_szInt64S a0 left1 = some r) :
    Calls Try.prog 39 #[(.slice a0_a a0_an a0_c), (.int .i64 left1)] w fun e w' => ∃ v, e = .returned v ∧ (v = (.int .i64 r) ∧ Mem w [] [] w') := by
  subst a0_hn
  rw [laws_szInt64S] at h
  refine enter (args := [(.slice a0_a a0.length a0_c), (.int .i64 left1)]) Try.func39 rfl Try.ntmps39 (by kernel_rfl) (L := []) (W := []) (Mem.start w) ?_
  refine jc_seq ?_
  refine jc_region ?_
  refine jo_f [(0, 0)] (by kernel_rfl) ?_
  refine jo_end (by kernel_rfl) ?_
  refine jx_then ?_
  refine jc_seq ?_
  refine jc_region ?_
  refine jo_f [(0, 0), (0, 0), (0, 0), (0, 0), (0, 0)] (by kernel_rfl) ?_
  refine jo_end (by kernel_rfl) ?_
  refine jx_then ?_
  refine jc_seq ?_
  refine jc_seq ?_
  refine jc_region ?_
  refine jo_f [(0, 0), (0, 0)] (by kernel_rfl) ?_
  refine jo_end (by kernel_rfl) ?_
  refine jx_then ?_
  refine jc_cond (decide ((w64 (left1 - (a0.length : Int))) < 0)) (by kernel_rfl) (fun hc_2 => ?_) (fun hc_2 => ?_)
  · replace h := ifT hc_2 h
    refine jc_seq ?_
    refine jc_region ?_
    refine jo_f [(0, 0)] (by kernel_rfl) ?_
    refine jo_end (by kernel_rfl) ?_
    refine jx_then ?_
    refine jc_ret ?_
    refine jx_thenr ?_
    obtain rfl := Option.some.inj h
    exact jx_ret [] (.int .i64 (-1)) [] rfl (by kernel_rfl) (by kernel_rfl) (fun w hm => ⟨rfl, hm.pick [] (by kernel_rfl) (by kernel_rfl)⟩)
  · replace h := ifF hc_2 h
    refine jc_skip ?_
    refine jx_then ?_
    refine jc_seq ?_
    refine jc_region ?_
    refine jo_f [(0, 0), (0, 0)] (by kernel_rfl) ?_
    refine jo_end (by kernel_rfl) ?_
    refine jx_then ?_
    refine jc_ret ?_
    obtain rfl := Option.some.inj h
    exact jx_ret [] (.int .i64 (w64 (left1 - (a0.length : Int)))) [] rfl (by kernel_rfl) (by kernel_rfl) (fun w hm => ⟨rfl, hm.pick [] (by kernel_rfl) (by kernel_rfl)⟩)

/-! ### laws.szWear -/
noncomputable def laws_szWear (a0 : GWear) (left1 : Int) : Option (Int) := (laws_szWornPinS a0.fPins left1).bind fun t_1 => (if (decide (t_1 < 0)) = true then some (-1) else (laws_szInt64S a0.fStrokes t_1).bind fun t_2 => (if (decide (t_2 < 0)) = true then some (-1) else some t_2))
set_option maxRecDepth 100000 in
theorem laws_szWear.calls (a0 : GWear) (left1 : Int) (w : World) (r : Int) (a0_fPins_a : Option Addr) (a0_fPins_an : Nat) (a0_fPins_c : Nat) (a0_fPins_h : Rw w a0_fPins_a 3 encGWornPin a0.fPins) (a0_fPins_hn : a0.fPins.length = a0_fPins_an) (a0_fStrokes_a : Option Addr) (a0_fStrokes_an : Nat) (a0_fStrokes_c : Nat) (a0_fStrokes_h : Rw w a0_fStrokes_a 1 encI64 a0.fStrokes) (a0_fStrokes_hn : a0.fStrokes.length = a0_fStrokes_an) (h : laws_szWear a0 left1 = some r) :
    Calls Try.prog 22 #[(.agg #[(.slice a0_fPins_a a0_fPins_an a0_fPins_c), (.slice a0_fStrokes_a a0_fStrokes_an a0_fStrokes_c)]), (.int .i64 left1)] w fun e w' => ∃ v, e = .returned v ∧ (v = (.int .i64 r) ∧ Mem w [] [] w') := by
  subst a0_fPins_hn a0_fStrokes_hn
  rw [laws_szWear] at h
  refine enter (args := [(.agg #[(.slice a0_fPins_a a0.fPins.length a0_fPins_c), (.slice a0_fStrokes_a a0.fStrokes.length a0_fStrokes_c)]), (.int .i64 left1)]) Try.func22 rfl Try.ntmps22 (by kernel_rfl) (L := []) (W := []) (Mem.start w) ?_
  refine jc_seq ?_
  refine jc_region ?_
  refine toO (by kernel_rfl) (p_a 0 [0] (by kernel_rfl) (fun b => by kernel_rfl) (fun b_1 => jkO ?_))
  refine jo_f [(0, 0)] (by kernel_rfl) ?_
  refine jo_end (by kernel_rfl) ?_
  refine jx_then ?_
  refine jc_seq ?_
  refine jc_region ?_
  refine jo_f [(0, 0), (0, 0), (0, 0)] (by kernel_rfl) ?_
  obtain ⟨t_1, ht_2, h⟩ := bd h
  refine toO (by kernel_rfl) (p_call 0 38 #[(.slice a0_fPins_a a0.fPins.length a0_fPins_c), (.int .i64 left1)] (by kernel_rfl) (by kernel_rfl) (fun w hm => laws_szWornPinS.calls a0.fPins left1 w _ a0_fPins_a a0.fPins.length a0_fPins_c (hm.exRow a0_fPins_h List.not_mem_nil) rfl ht_2) ?_)
  rintro w v w' hm ⟨rfl, hm'⟩
  refine ⟨_, hm.app hm', jkO ?_⟩
  clear hm hm'
  refine jo_f [(0, 0)] (by kernel_rfl) ?_
  refine jo_end (by kernel_rfl) ?_
  refine jx_then ?_
  refine jc_seq ?_
  refine jc_seq ?_
  refine jc_region ?_
  refine jo_f [(0, 0), (0, 0)] (by kernel_rfl) ?_
  refine jo_end (by kernel_rfl) ?_
  refine jx_then ?_
  refine jc_cond (decide (t_1 < 0)) (by kernel_rfl) (fun hc_4 => ?_) (fun hc_4 => ?_)
  · replace h := ifT hc_4 h
    refine jc_seq ?_
    refine jc_region ?_
    refine jo_f [(0, 0)] (by kernel_rfl) ?_
    refine jo_end (by kernel_rfl) ?_
    refine jx_then ?_
    refine jc_ret ?_
    refine jx_thenr ?_
    obtain rfl := Option.some.inj h
    exact jx_ret [] (.int .i64 (-1)) [] rfl (by kernel_rfl) (by kernel_rfl) (fun w hm => ⟨rfl, hm.pick [] (by kernel_rfl) (by kernel_rfl)⟩)
  · replace h := ifF hc_4 h
    refine jc_skip ?_
    refine jx_then ?_
    refine jc_seq ?_
    refine jc_region ?_
    refine jo_f [(0, 0), (0, 0), (0, 0)] (by kernel_rfl) ?_
    obtain ⟨t_2, ht_5, h⟩ := bd h
    refine toO (by kernel_rfl) (p_call 0 39 #[(.slice a0_fStrokes_a a0.fStrokes.length a0_fStrokes_c), (.int .i64 t_1)] (by kernel_rfl) (by kernel_rfl) (fun w hm => laws_szInt64S.calls a0.fStrokes t_1 w _ a0_fStrokes_a a0.fStrokes.length a0_fStrokes_c (hm.exRow a0_fStrokes_h List.not_mem_nil) rfl ht_5) ?_)
    rintro w v w' hm ⟨rfl, hm'⟩
    refine ⟨_, hm.app hm', jkO ?_⟩
    clear hm hm'
    refine jo_f [(0, 0)] (by kernel_rfl) ?_
    refine jo_end (by kernel_rfl) ?_
    refine jx_then ?_
    refine jc_seq ?_
    refine jc_seq ?_
    refine jc_region ?_
    refine jo_f [(0, 0), (0, 0)] (by kernel_rfl) ?_
    refine jo_end (by kernel_rfl) ?_
    refine jx_then ?_
    refine jc_cond (decide (t_2 < 0)) (by kernel_rfl) (fun hc_7 => ?_) (fun hc_7 => ?_)
    · replace h := ifT hc_7 h
      refine jc_seq ?_
      refine jc_region ?_
      refine jo_f [(0, 0)] (by kernel_rfl) ?_
      refine jo_end (by kernel_rfl) ?_
      refine jx_then ?_
      refine jc_ret ?_
      refine jx_thenr ?_
      obtain rfl := Option.some.inj h
      exact jx_ret [] (.int .i64 (-1)) [] rfl (by kernel_rfl) (by kernel_rfl) (fun w hm => ⟨rfl, hm.pick [] (by kernel_rfl) (by kernel_rfl)⟩)
    · replace h := ifF hc_7 h
      refine jc_skip ?_
      refine jx_then ?_
      refine jc_seq ?_
      refine jc_region ?_
      refine jo_f [(0, 0), (0, 0)] (by kernel_rfl) ?_
      refine jo_end (by kernel_rfl) ?_
      refine jx_then ?_
      refine jc_ret ?_
      obtain rfl := Option.some.inj h
      exact jx_ret [] (.int .i64 t_2) [] rfl (by kernel_rfl) (by kernel_rfl) (fun w hm => ⟨rfl, hm.pick [] (by kernel_rfl) (by kernel_rfl)⟩)

/-! ### laws.toWornPin -/
noncomputable def laws_toWornPin (a0 : GWornPin) : Option (GWornPin) := some a0
set_option maxRecDepth 100000 in
theorem laws_toWornPin.calls (a0 : GWornPin) (w : World) (r : GWornPin) (h : laws_toWornPin a0 = some r) :
    Calls Try.prog 56 #[(.agg #[(.int .i8 a0.fStep), (.int .i8 a0.fTrack), (.int .i64 a0.fTurns)])] w fun e w' => ∃ v, e = .returned v ∧ (v = .agg #[(.int .i8 r.fStep), (.int .i8 r.fTrack), (.int .i64 r.fTurns)] ∧ Mem w [] [] w') := by
  rw [laws_toWornPin] at h
  refine enter (args := [(.agg #[(.int .i8 a0.fStep), (.int .i8 a0.fTrack), (.int .i64 a0.fTurns)])]) Try.func56 rfl Try.ntmps56 (by kernel_rfl) (L := []) (W := []) (Mem.start w) ?_
  refine jc_seq ?_
  refine jc_region ?_
  refine toO (by kernel_rfl) (p_a 0 [0] (by kernel_rfl) (fun b => by kernel_rfl) (fun b_1 => jkO ?_))
  refine toO (by kernel_rfl) (p_a 0 [0] (by kernel_rfl) (fun b => by kernel_rfl) (fun b_2 => jkO ?_))
  refine jo_end (by kernel_rfl) ?_
  refine jx_then ?_
  refine jc_seq ?_
  refine jc_region ?_
  refine toO (by kernel_rfl) (p_a 0 [0] (by kernel_rfl) (fun b => by kernel_rfl) (fun b_3 => jkO ?_))
  refine jo_end (by kernel_rfl) ?_
  refine jx_then ?_
  refine jc_seq ?_
  refine jc_region ?_
  refine jo_f [(0, 0), (0, 0), (0, 0)] (by kernel_rfl) ?_
  refine toO (by kernel_rfl) (p_s 0 [2] (by kernel_rfl) (by kernel_rfl) (jkO ?_))
  refine jo_end (by kernel_rfl) ?_
  refine jx_then ?_
  refine jc_seq ?_
  refine jc_region ?_
  refine jo_f [(0, 0), (0, 0), (0, 0)] (by kernel_rfl) ?_
  refine toO (by kernel_rfl) (p_s 0 [2] (by kernel_rfl) (by kernel_rfl) (jkO ?_))
  refine jo_end (by kernel_rfl) ?_
  refine jx_then ?_
  refine jc_seq ?_
  refine jc_region ?_
  refine jo_f [(0, 0), (0, 0), (0, 0)] (by kernel_rfl) ?_
  refine toO (by kernel_rfl) (p_s 0 [2] (by kernel_rfl) (by kernel_rfl) (jkO ?_))
  refine jo_end (by kernel_rfl) ?_
  refine jx_then ?_
  refine jc_seq ?_
  refine jc_region ?_
  refine jo_f [(2, 0)] (by kernel_rfl) ?_
  refine toO (by kernel_rfl) (p_s 0 [1] (by kernel_rfl) (by kernel_rfl) (jkO ?_))
  refine jo_end (by kernel_rfl) ?_
  refine jx_then ?_
  refine jc_ret ?_
  obtain rfl := Option.some.inj h
  exact jx_ret [1] (.agg #[(.int .i8 a0.fStep), (.int .i8 a0.fTrack), (.int .i64 a0.fTurns)]) [(b_2, b_2), (b_2, b_2), (b_2, b_2)] rfl (by kernel_rfl) (by kernel_rfl) (fun w hm => ⟨rfl, hm.pick [] (by kernel_rfl) (by kernel_rfl)⟩)

/-! ### laws.toWornPinS -/
noncomputable def laws_toWornPinS.k_2 (xs_1 : List GWornPin) : Option ((List GWornPin)) := some xs_1
noncomputable def laws_toWornPinS.l_5 (a0 : List GWornPin) : ((List GWornPin) × Int) → Option (((List GWornPin) × Int) ⊕ ((List GWornPin)))
  | (xs_3, i_4) => (if (decide (i_4 < (a0.length : Int))) = true then (ix a0 i_4).bind fun x_7 => (laws_toWornPin x_7).bind fun t_8 => (ix xs_3 i_4).bind fun x_9 => some (.inl ((xs_3.set i_4.toNat t_8), (w64 (i_4 + 1)))) else some (.inr xs_3))
noncomputable def laws_toWornPinS (a0 : List GWornPin) : Option ((List GWornPin)) := (if 0 ≤ (a0.length : Int) ∧ (a0.length : Int) ≤ 8796093022208 then (loop (laws_toWornPinS.l_5 a0) ((List.replicate (a0.length : Int).toNat (⟨0, 0, 0⟩ : GWornPin)), 0)).bind fun t_6 => laws_toWornPinS.k_2 t_6 else none)
set_option maxRecDepth 100000 in
theorem laws_toWornPinS.calls (a0 : List GWornPin) (w : World) (r : (List GWornPin)) (a0_a : Option Addr) (a0_an : Nat) (a0_c : Nat) (a0_h : Rw w a0_a 3 encGWornPin a0) (a0_hn : a0.length = a0_an) (h : laws_toWornPinS a0 = some r) :
    Calls Try.prog 41 #[(.slice a0_a a0_an a0_c)] w fun e w' => ∃ v, e = .returned v ∧ (∃ (o0 : Option Nat) (c0 : Nat) (s0 : List Value) (n0 : Nat), r.length = n0 ∧ (o0 ≠ none → n0 ≤ c0 ∧ s0.length = (c0 - n0) * 3) ∧ (o0 = none → r = [] ∧ c0 = 0) ∧ v = .slice (o0.map fun b => ⟨b, 0, none⟩) n0 c0 ∧ Mem w [] [⟨o0, 74, row encGWornPin r s0⟩] w') := by
  subst a0_hn
  rw [laws_toWornPinS] at h
  refine enter (args := [(.slice a0_a a0.length a0_c)]) Try.func41 rfl Try.ntmps41 (by kernel_rfl) (L := []) (W := []) (Mem.start w) ?_
  refine jc_seq ?_
  refine jc_region ?_
  refine jo_f [(0, 0)] (by kernel_rfl) ?_
  refine jo_end (by kernel_rfl) ?_
  refine jx_then ?_
  refine jc_seq ?_
  refine jc_region ?_
  refine jo_f [(0, 0), (0, 0)] (by kernel_rfl) ?_
  obtain ⟨hg_88, h⟩ := gd h
  refine toO (by kernel_rfl) (p_mk 0 74 (a0.length : Int) 3 16 encGWornPin (⟨0, 0, 0⟩ : GWornPin) (by kernel_rfl) (by kernel_rfl) hg_88.1 (by omega) (by kernel_rfl) (fun b_1 => jkO ?_))
  refine jo_f [(0, 0)] (by kernel_rfl) ?_
  refine jo_end (by kernel_rfl) ?_
  refine jx_then ?_
  refine jc_seq ?_
  refine jc_seq ?_
  refine jc_region ?_
  refine jo_f [(0, 0)] (by kernel_rfl) ?_
  refine jo_end (by kernel_rfl) ?_
  refine jx_then ?_
  refine jc_meet (fun (j : (List GWornPin)) => match j with | xs_1 => laws_toWornPinS.k_2 xs_1 = some r ∧ (xs_1.length = (a0.length : Int).toNat)) (fun (j : (List GWornPin)) => match j with | xs_1 => [(2, [], (.slice none 0 0)), (3, [], (.slice (some ⟨b_1, 0, none⟩) ((a0.length : Int).toNat) ((a0.length : Int).toNat)))]) (fun (j : (List GWornPin)) => match j with | xs_1 => [⟨(some b_1), 74, row encGWornPin xs_1 []⟩]) ?_ ?_
  · refine jc_block ?_
    obtain ⟨t_6, ht_87, hr_79⟩ := bd h
    refine jc_loop (fun (s : (List GWornPin) × Int) (x : Unit) => match s, x with | ⟨xs_3, i_4⟩, _ => (xs_3.length = (a0.length : Int).toNat)) (fun (s : (List GWornPin) × Int) (x : Unit) => match s, x with | ⟨xs_3, i_4⟩, _ => [(0, [], (.slice a0_a a0.length a0_c)), (2, [], (.slice none 0 0)), (3, [], (.slice (some ⟨b_1, 0, none⟩) ((a0.length : Int).toNat) ((a0.length : Int).toNat))), (4, [], (.int .i64 i_4))]) (fun (s : (List GWornPin) × Int) (x : Unit) => match s, x with | ⟨xs_3, i_4⟩, _ => [⟨(some b_1), 74, row encGWornPin xs_3 []⟩]) ht_87 () List.length_replicate (by kernel_rfl) [0] (by kernel_rfl) (by kernel_rfl) ?_
    rintro ⟨xs_3, i_4⟩ _ y_80 hn_78 h
    rw [laws_toWornPinS.l_5] at h
    refine jc_seq ?_
    refine jc_seq ?_
    refine jc_region ?_
    refine jo_f [(0, 0), (0, 0), (0, 0), (0, 0)] (by kernel_rfl) ?_
    refine jo_end (by kernel_rfl) ?_
    refine jx_then ?_
    refine jc_cond (decide (i_4 < (a0.length : Int))) (by kernel_rfl) (fun hc_82 => ?_) (fun hc_82 => ?_)
    · replace h := ifT hc_82 h
      refine jc_skip ?_
      refine jx_then ?_
      refine jc_seq ?_
      refine jc_block ?_
      refine jc_region ?_
      refine jo_f [(0, 0), (0, 0), (0, 0), (0, 0)] (by kernel_rfl) ?_
      obtain ⟨x_7, hx_83, h⟩ := bd h
      refine toO (by kernel_rfl) (p_idx 0 a0_a a0.length i_4 3 (by kernel_rfl) (by kernel_rfl) (ix_some hx_83).1 (ltn hx_83 rfl) (a0_h.sp hx_83) (jkO ?_))
      refine toO (by kernel_rfl) (p_ld 0 (aB a0_a) (aO a0_a + i_4.toNat * 3) true (encGWornPin x_7) (by kernel_rfl) (by kernel_rfl) (by kernel_rfl) (fun w hm => ((hm.exRow a0_h List.not_mem_nil).at hx_83)) (jkO ?_))
      obtain ⟨t_8, ht_84, h⟩ := bd h
      refine toO (by kernel_rfl) (p_call 0 56 #[(.agg #[(.int .i8 x_7.fStep), (.int .i8 x_7.fTrack), (.int .i64 x_7.fTurns)])] (by kernel_rfl) (by kernel_rfl) (fun w hm => laws_toWornPin.calls x_7 w _ ht_84) ?_)
      rintro w v w' hm ⟨rfl, hm'⟩
      refine ⟨_, hm.app hm', jkO ?_⟩
      clear hm hm'
      obtain ⟨x_9, hx_85, h⟩ := bd h
      refine toO (by kernel_rfl) (p_idx 0 (some ⟨b_1, 0, none⟩) ((a0.length : Int).toNat) i_4 3 (by kernel_rfl) (by kernel_rfl) (ix_some hx_85).1 (ltn hx_85 hn_78) rfl (jkO ?_))
      refine toO (by kernel_rfl) (p_str 0 0 b_1 74 encGWornPin xs_3 [] i_4 t_8 3 0 [(.int .i8 t_8.fStep), (.int .i8 t_8.fTrack), (.int .i64 t_8.fTurns)] (by kernel_rfl) (by kernel_rfl) (by kernel_rfl) encGWornPin_len hx_85 (by kernel_rfl) (by kernel_rfl) (jkO ?_))
      refine jo_end (by kernel_rfl) ?_
      refine jx_inn ?_
      refine jx_then ?_
      refine jc_region ?_
      refine jo_f [(0, 0), (0, 0), (0, 0)] (by kernel_rfl) ?_
      refine jo_end (by kernel_rfl) ?_
      exact jx_back ((xs_3.set i_4.toNat t_8), (w64 (i_4 + 1))) () (Option.some.inj h).symm (List.length_set.trans hn_78) [0] (by kernel_rfl) (by kernel_rfl) (by kernel_rfl)
    · replace h := ifF hc_82 h
      refine jc_exit ?_
      refine jx_thenx ?_
      refine jx_leave xs_3 (Option.some.inj h).symm (fun e_86 => ?_)
      subst e_86
      refine jx_ine ?_
      exact jx_meet xs_3 ⟨hr_79, hn_78⟩ (by kernel_rfl) [0] (by kernel_rfl) (by kernel_rfl)
  · rintro xs_1 ⟨h, hn_66⟩
    replace h : laws_toWornPinS.k_2 xs_1 = some r := h
    rw [laws_toWornPinS.k_2] at h
    refine jx_then ?_
    refine jc_seq ?_
    refine jc_region ?_
    refine jo_f [(0, 0), (0, 0)] (by kernel_rfl) ?_
    refine jo_end (by kernel_rfl) ?_
    refine jx_then ?_
    refine jc_ret ?_
    obtain rfl := Option.some.inj h
    exact jx_ret [] (.slice (some ⟨b_1, 0, none⟩) ((a0.length : Int).toNat) ((a0.length : Int).toNat)) [] rfl (by kernel_rfl) (by kernel_rfl) (fun w hm => ⟨(some b_1), ((a0.length : Int).toNat), [], ((a0.length : Int).toNat), hn_66, (fun _ => ⟨Nat.le_refl _, by simp⟩), (fun e => nomatch e), rfl, hm.pick [0] (by kernel_rfl) (by kernel_rfl)⟩)

/-! ### laws.toInt64S -/
noncomputable def laws_toInt64S.k_2 (xs_1 : List Int) : Option ((List Int)) := some xs_1
noncomputable def laws_toInt64S.l_5 (a0 : List Int) : ((List Int) × Int) → Option (((List Int) × Int) ⊕ ((List Int)))
  | (xs_3, i_4) => (if (decide (i_4 < (a0.length : Int))) = true then (ix a0 i_4).bind fun x_7 => (ix xs_3 i_4).bind fun x_8 => some (.inl ((xs_3.set i_4.toNat x_7), (w64 (i_4 + 1)))) else some (.inr xs_3))
noncomputable def laws_toInt64S (a0 : List Int) : Option ((List Int)) := (if 0 ≤ (a0.length : Int) ∧ (a0.length : Int) ≤ 17592186044416 then (loop (laws_toInt64S.l_5 a0) ((List.replicate (a0.length : Int).toNat 0), 0)).bind fun t_6 => laws_toInt64S.k_2 t_6 else none)
set_option maxRecDepth 100000 in
theorem laws_toInt64S.calls (a0 : List Int) (w : World) (r : (List Int)) (a0_a : Option Addr) (a0_an : Nat) (a0_c : Nat) (a0_h : Rw w a0_a 1 encI64 a0) (a0_hn : a0.length = a0_an) (h : laws_toInt64S a0 = some r) :
    Calls Try.prog 42 #[(.slice a0_a a0_an a0_c)] w fun e w' => ∃ v, e = .returned v ∧ (∃ (o0 : Option Nat) (c0 : Nat) (s0 : List Value) (n0 : Nat), r.length = n0 ∧ (o0 ≠ none → n0 ≤ c0 ∧ s0.length = (c0 - n0) * 1) ∧ (o0 = none → r = [] ∧ c0 = 0) ∧ v = .slice (o0.map fun b => ⟨b, 0, none⟩) n0 c0 ∧ Mem w [] [⟨o0, 2, row encI64 r s0⟩] w') := by
  subst a0_hn
  rw [laws_toInt64S] at h
  refine enter (args := [(.slice a0_a a0.length a0_c)]) Try.func42 rfl Try.ntmps42 (by kernel_rfl) (L := []) (W := []) (Mem.start w) ?_
  refine jc_seq ?_
  refine jc_region ?_
  refine jo_f [(0, 0)] (by kernel_rfl) ?_
  refine jo_end (by kernel_rfl) ?_
  refine jx_then ?_
  refine jc_seq ?_
  refine jc_region ?_
  refine jo_f [(0, 0), (0, 0)] (by kernel_rfl) ?_
  obtain ⟨hg_76, h⟩ := gd h
  refine toO (by kernel_rfl) (p_mk 0 2 (a0.length : Int) 1 8 encI64 0 (by kernel_rfl) (by kernel_rfl) hg_76.1 (by omega) (by kernel_rfl) (fun b_1 => jkO ?_))
  refine jo_f [(0, 0)] (by kernel_rfl) ?_
  refine jo_end (by kernel_rfl) ?_
  refine jx_then ?_
  refine jc_seq ?_
  refine jc_seq ?_
  refine jc_region ?_
  refine jo_f [(0, 0)] (by kernel_rfl) ?_
  refine jo_end (by kernel_rfl) ?_
  refine jx_then ?_
  refine jc_meet (fun (j : (List Int)) => match j with | xs_1 => laws_toInt64S.k_2 xs_1 = some r ∧ (xs_1.length = (a0.length : Int).toNat)) (fun (j : (List Int)) => match j with | xs_1 => [(2, [], (.slice none 0 0)), (3, [], (.slice (some ⟨b_1, 0, none⟩) ((a0.length : Int).toNat) ((a0.length : Int).toNat)))]) (fun (j : (List Int)) => match j with | xs_1 => [⟨(some b_1), 2, row encI64 xs_1 []⟩]) ?_ ?_
  · refine jc_block ?_
    obtain ⟨t_6, ht_75, hr_68⟩ := bd h
    refine jc_loop (fun (s : (List Int) × Int) (x : Unit) => match s, x with | ⟨xs_3, i_4⟩, _ => (xs_3.length = (a0.length : Int).toNat)) (fun (s : (List Int) × Int) (x : Unit) => match s, x with | ⟨xs_3, i_4⟩, _ => [(0, [], (.slice a0_a a0.length a0_c)), (2, [], (.slice none 0 0)), (3, [], (.slice (some ⟨b_1, 0, none⟩) ((a0.length : Int).toNat) ((a0.length : Int).toNat))), (4, [], (.int .i64 i_4))]) (fun (s : (List Int) × Int) (x : Unit) => match s, x with | ⟨xs_3, i_4⟩, _ => [⟨(some b_1), 2, row encI64 xs_3 []⟩]) ht_75 () List.length_replicate (by kernel_rfl) [0] (by kernel_rfl) (by kernel_rfl) ?_
    rintro ⟨xs_3, i_4⟩ _ y_69 hn_67 h
    rw [laws_toInt64S.l_5] at h
    refine jc_seq ?_
    refine jc_seq ?_
    refine jc_region ?_
    refine jo_f [(0, 0), (0, 0), (0, 0), (0, 0)] (by kernel_rfl) ?_
    refine jo_end (by kernel_rfl) ?_
    refine jx_then ?_
    refine jc_cond (decide (i_4 < (a0.length : Int))) (by kernel_rfl) (fun hc_71 => ?_) (fun hc_71 => ?_)
    · replace h := ifT hc_71 h
      refine jc_skip ?_
      refine jx_then ?_
      refine jc_seq ?_
      refine jc_block ?_
      refine jc_region ?_
      refine jo_f [(0, 0), (0, 0), (0, 0), (0, 0)] (by kernel_rfl) ?_
      obtain ⟨x_7, hx_72, h⟩ := bd h
      refine toO (by kernel_rfl) (p_idx 0 a0_a a0.length i_4 1 (by kernel_rfl) (by kernel_rfl) (ix_some hx_72).1 (ltn hx_72 rfl) (a0_h.sp hx_72) (jkO ?_))
      refine toO (by kernel_rfl) (p_ld 0 (aB a0_a) (aO a0_a + i_4.toNat * 1) false (encI64 x_7) (by kernel_rfl) (by kernel_rfl) (by kernel_rfl) (fun w hm => ((hm.exRow a0_h List.not_mem_nil).at hx_72)) (jkO ?_))
      obtain ⟨x_8, hx_73, h⟩ := bd h
      refine toO (by kernel_rfl) (p_idx 0 (some ⟨b_1, 0, none⟩) ((a0.length : Int).toNat) i_4 1 (by kernel_rfl) (by kernel_rfl) (ix_some hx_73).1 (ltn hx_73 hn_67) rfl (jkO ?_))
      refine toO (by kernel_rfl) (p_str 0 0 b_1 2 encI64 xs_3 [] i_4 x_7 1 0 [(.int .i64 x_7)] (by kernel_rfl) (by kernel_rfl) (by kernel_rfl) encI64_len hx_73 (by kernel_rfl) (by kernel_rfl) (jkO ?_))
      refine jo_end (by kernel_rfl) ?_
      refine jx_inn ?_
      refine jx_then ?_
      refine jc_region ?_
      refine jo_f [(0, 0), (0, 0), (0, 0)] (by kernel_rfl) ?_
      refine jo_end (by kernel_rfl) ?_
      exact jx_back ((xs_3.set i_4.toNat x_7), (w64 (i_4 + 1))) () (Option.some.inj h).symm (List.length_set.trans hn_67) [0] (by kernel_rfl) (by kernel_rfl) (by kernel_rfl)
    · replace h := ifF hc_71 h
      refine jc_exit ?_
      refine jx_thenx ?_
      refine jx_leave xs_3 (Option.some.inj h).symm (fun e_74 => ?_)
      subst e_74
      refine jx_ine ?_
      exact jx_meet xs_3 ⟨hr_68, hn_67⟩ (by kernel_rfl) [0] (by kernel_rfl) (by kernel_rfl)
  · rintro xs_1 ⟨h, hn_57⟩
    replace h : laws_toInt64S.k_2 xs_1 = some r := h
    rw [laws_toInt64S.k_2] at h
    refine jx_then ?_
    refine jc_seq ?_
    refine jc_region ?_
    refine jo_f [(0, 0), (0, 0)] (by kernel_rfl) ?_
    refine jo_end (by kernel_rfl) ?_
    refine jx_then ?_
    refine jc_ret ?_
    obtain rfl := Option.some.inj h
    exact jx_ret [] (.slice (some ⟨b_1, 0, none⟩) ((a0.length : Int).toNat) ((a0.length : Int).toNat)) [] rfl (by kernel_rfl) (by kernel_rfl) (fun w hm => ⟨(some b_1), ((a0.length : Int).toNat), [], ((a0.length : Int).toNat), hn_57, (fun _ => ⟨Nat.le_refl _, by simp⟩), (fun e => nomatch e), rfl, hm.pick [0] (by kernel_rfl) (by kernel_rfl)⟩)

/-! ### laws.toWear -/
noncomputable def laws_toWear (a0 : GWear) : Option (GWear) := (laws_toWornPinS a0.fPins).bind fun t_1 => (laws_toInt64S a0.fStrokes).bind fun t_2 => some (⟨t_1, t_2⟩ : GWear)
set_option maxRecDepth 100000 in
theorem laws_toWear.calls (a0 : GWear) (w : World) (r : GWear) (a0_fPins_a : Option Addr) (a0_fPins_an : Nat) (a0_fPins_c : Nat) (a0_fPins_h : Rw w a0_fPins_a 3 encGWornPin a0.fPins) (a0_fPins_hn : a0.fPins.length = a0_fPins_an) (a0_fStrokes_a : Option Addr) (a0_fStrokes_an : Nat) (a0_fStrokes_c : Nat) (a0_fStrokes_h : Rw w a0_fStrokes_a 1 encI64 a0.fStrokes) (a0_fStrokes_hn : a0.fStrokes.length = a0_fStrokes_an) (h : laws_toWear a0 = some r) :
    Calls Try.prog 24 #[(.agg #[(.slice a0_fPins_a a0_fPins_an a0_fPins_c), (.slice a0_fStrokes_a a0_fStrokes_an a0_fStrokes_c)])] w fun e w' => ∃ v, e = .returned v ∧ (∃ (o0 : Option Nat) (c0 : Nat) (s0 : List Value) (n0 : Nat), r.fPins.length = n0 ∧ (o0 ≠ none → n0 ≤ c0 ∧ s0.length = (c0 - n0) * 3) ∧ (o0 = none → r.fPins = [] ∧ c0 = 0) ∧ ∃ (o1 : Option Nat) (c1 : Nat) (s1 : List Value) (n1 : Nat), r.fStrokes.length = n1 ∧ (o1 ≠ none → n1 ≤ c1 ∧ s1.length = (c1 - n1) * 1) ∧ (o1 = none → r.fStrokes = [] ∧ c1 = 0) ∧ v = .agg #[.slice (o0.map fun b => ⟨b, 0, none⟩) n0 c0, .slice (o1.map fun b => ⟨b, 0, none⟩) n1 c1] ∧ Mem w [] [⟨o0, 74, row encGWornPin r.fPins s0⟩, ⟨o1, 2, row encI64 r.fStrokes s1⟩] w') := by
  subst a0_fPins_hn a0_fStrokes_hn
  rw [laws_toWear] at h
  refine enter (args := [(.agg #[(.slice a0_fPins_a a0.fPins.length a0_fPins_c), (.slice a0_fStrokes_a a0.fStrokes.length a0_fStrokes_c)])]) Try.func24 rfl Try.ntmps24 (by kernel_rfl) (L := []) (W := []) (Mem.start w) ?_
  refine jc_seq ?_
  refine jc_region ?_
  refine toO (by kernel_rfl) (p_a 0 [0] (by kernel_rfl) (fun b => by kernel_rfl) (fun b_1 => jkO ?_))
  refine toO (by kernel_rfl) (p_a 0 [0] (by kernel_rfl) (fun b => by kernel_rfl) (fun b_2 => jkO ?_))
  refine jo_end (by kernel_rfl) ?_
  refine jx_then ?_
  refine jc_seq ?_
  refine jc_region ?_
  refine toO (by kernel_rfl) (p_a 0 [0] (by kernel_rfl) (fun b => by kernel_rfl) (fun b_3 => jkO ?_))
  refine jo_end (by kernel_rfl) ?_
  refine jx_then ?_
  refine jc_seq ?_
  refine jc_region ?_
  refine jo_f [(0, 0), (0, 0)] (by kernel_rfl) ?_
  obtain ⟨t_1, ht_4, h⟩ := bd h
  refine toO (by kernel_rfl) (p_call 0 41 #[(.slice a0_fPins_a a0.fPins.length a0_fPins_c)] (by kernel_rfl) (by kernel_rfl) (fun w hm => laws_toWornPinS.calls a0.fPins w _ a0_fPins_a a0.fPins.length a0_fPins_c (hm.exRow a0_fPins_h List.not_mem_nil) rfl ht_4) ?_)
  rintro w v w' hm ⟨o_5, cap_6, sp_7, _, rfl, hs_8, ho_9, rfl, hm'⟩
  refine ⟨_, hm.app hm', jkO ?_⟩
  clear hm hm'
  refine jo_f [(0, 0)] (by kernel_rfl) ?_
  refine toO (by kernel_rfl) (p_s 0 [2] (by kernel_rfl) (by kernel_rfl) (jkO ?_))
  refine jo_end (by kernel_rfl) ?_
  refine jx_then ?_
  refine jc_seq ?_
  refine jc_region ?_
  refine jo_f [(0, 0), (0, 0)] (by kernel_rfl) ?_
  obtain ⟨t_2, ht_10, h⟩ := bd h
  refine toO (by kernel_rfl) (p_call 0 42 #[(.slice a0_fStrokes_a a0.fStrokes.length a0_fStrokes_c)] (by kernel_rfl) (by kernel_rfl) (fun w hm => laws_toInt64S.calls a0.fStrokes w _ a0_fStrokes_a a0.fStrokes.length a0_fStrokes_c (hm.exRow a0_fStrokes_h List.not_mem_nil) rfl ht_10) ?_)
  rintro w v w' hm ⟨o_11, cap_12, sp_13, _, rfl, hs_14, ho_15, rfl, hm'⟩
  refine ⟨_, hm.app hm', jkO ?_⟩
  clear hm hm'
  refine jo_f [(0, 0)] (by kernel_rfl) ?_
  refine toO (by kernel_rfl) (p_s 0 [2] (by kernel_rfl) (by kernel_rfl) (jkO ?_))
  refine jo_end (by kernel_rfl) ?_
  refine jx_then ?_
  refine jc_seq ?_
  refine jc_region ?_
  refine jo_f [(2, 0)] (by kernel_rfl) ?_
  refine toO (by kernel_rfl) (p_s 0 [1] (by kernel_rfl) (by kernel_rfl) (jkO ?_))
  refine jo_end (by kernel_rfl) ?_
  refine jx_then ?_
  refine jc_ret ?_
  obtain rfl := Option.some.inj h
  exact jx_ret [1] (.agg #[(.slice (o_5.map fun b => ⟨b, 0, none⟩) t_1.length cap_6), (.slice (o_11.map fun b => ⟨b, 0, none⟩) t_2.length cap_12)]) [(b_2, b_2), (b_2, b_2)] rfl (by kernel_rfl) (by kernel_rfl) (fun w hm => ⟨o_5, cap_6, sp_7, t_1.length, rfl, hs_8, ho_9, o_11, cap_12, sp_13, t_2.length, rfl, hs_14, ho_15, rfl, hm.pick [3, 4] (by kernel_rfl) (by kernel_rfl)⟩)

/-! ### spec.l00Same -/
noncomputable def spec_l00Same.k_1 : Option (Bool) := some true
noncomputable def spec_l00Same.l_3 (a0 : List Int) (b1 : List Int) : Int → Option ((Int) ⊕ (Bool ⊕ Unit))
  | i_2 => (if (decide (i_2 < (a0.length : Int))) = true then (ix a0 i_2).bind fun x_5 => (ix b1 i_2).bind fun x_6 => (if (x_5 != x_6) = true then some (.inr (.inl false)) else some (.inl (w64 (i_2 + 1)))) else some (.inr (.inr ())))
noncomputable def spec_l00Same (a0 : List Int) (b1 : List Int) : Option (Bool) := (if ((a0.length : Int) != (b1.length : Int)) = true then some false else (loop (spec_l00Same.l_3 a0 b1) 0).bind fun t_4 => match t_4 with | .inl p => some p | .inr p => spec_l00Same.k_1)
set_option maxRecDepth 100000 in
theorem spec_l00Same.calls (a0 : List Int) (b1 : List Int) (w : World) (r : Bool) (a0_a : Option Addr) (a0_an : Nat) (a0_c : Nat) (a0_h : Rw w a0_a 1 encI64 a0) (a0_hn : a0.length = a0_an) (b1_a : Option Addr) (b1_an : Nat) (b1_c : Nat) (b1_h : Rw w b1_a 1 encI64 b1) (b1_hn : b1.length = b1_an) (h : spec_l00Same a0 b1 = some r) :
    Calls Try.prog 40 #[(.slice a0_a a0_an a0_c), (.slice b1_a b1_an b1_c)] w fun e w' => ∃ v, e = .returned v ∧ (v = (.bool r) ∧ Mem w [] [] w') := by
  subst a0_hn b1_hn
  rw [spec_l00Same] at h
  refine enter (args := [(.slice a0_a a0.length a0_c), (.slice b1_a b1.length b1_c)]) Try.func40 rfl Try.ntmps40 (by kernel_rfl) (L := []) (W := []) (Mem.start w) ?_
  refine jc_seq ?_
  refine jc_region ?_
  refine jo_f [(0, 0)] (by kernel_rfl) ?_
  refine jo_end (by kernel_rfl) ?_
  refine jx_then ?_
  refine jc_seq ?_
  refine jc_seq ?_
  refine jc_region ?_
  refine jo_f [(0, 0), (0, 0), (0, 0), (0, 0), (0, 0)] (by kernel_rfl) ?_
  refine jo_end (by kernel_rfl) ?_
  refine jx_then ?_
  refine jc_cond ((a0.length : Int) != (b1.length : Int)) (by kernel_rfl) (fun hc_2 => ?_) (fun hc_2 => ?_)
  · replace h := ifT hc_2 h
    refine jc_seq ?_
    refine jc_region ?_
    refine jo_f [(0, 0)] (by kernel_rfl) ?_
    refine jo_end (by kernel_rfl) ?_
    refine jx_then ?_
    refine jc_ret ?_
    refine jx_thenr ?_
    obtain rfl := Option.some.inj h
    exact jx_ret [] (.bool false) [] rfl (by kernel_rfl) (by kernel_rfl) (fun w hm => ⟨rfl, hm.pick [] (by kernel_rfl) (by kernel_rfl)⟩)
  · replace h := ifF hc_2 h
    refine jc_skip ?_
    refine jx_then ?_
    refine jc_seq ?_
    refine jc_seq ?_
    refine jc_region ?_
    refine jo_f [(0, 0)] (by kernel_rfl) ?_
    refine jo_end (by kernel_rfl) ?_
    refine jx_then ?_
    refine jc_meet (fun (_ : Unit) => spec_l00Same.k_1 = some r) (fun (_ : Unit) => [(4, [], (.bool false))]) (fun (_ : Unit) => []) ?_ ?_
    · refine jc_block ?_
      obtain ⟨t_4, ht_42, hr_33⟩ := bd h
      refine jc_loop (fun (s : Int) (x : Unit) => match s, x with | i_2, _ => True) (fun (s : Int) (x : Unit) => match s, x with | i_2, _ => [(0, [], (.slice a0_a a0.length a0_c)), (1, [], (.slice b1_a b1.length b1_c)), (4, [], (.bool false)), (5, [], (.int .i64 i_2))]) (fun (s : Int) (x : Unit) => match s, x with | i_2, _ => []) ht_42 () trivial (by kernel_rfl) [] (by kernel_rfl) (by kernel_rfl) ?_
      rintro i_2 _ y_34 _ h
      rw [spec_l00Same.l_3] at h
      refine jc_seq ?_
      refine jc_seq ?_
      refine jc_region ?_
      refine jo_f [(0, 0), (0, 0), (0, 0), (0, 0)] (by kernel_rfl) ?_
      refine jo_end (by kernel_rfl) ?_
      refine jx_then ?_
      refine jc_cond (decide (i_2 < (a0.length : Int))) (by kernel_rfl) (fun hc_36 => ?_) (fun hc_36 => ?_)
      · replace h := ifT hc_36 h
        refine jc_skip ?_
        refine jx_then ?_
        refine jc_seq ?_
        refine jc_block ?_
        refine jc_seq ?_
        refine jc_draw [] 9 (by kernel_rfl) (by kernel_rfl) ?_
        refine jd_f [⟨0, 0, 0⟩, ⟨1, 0, 0⟩, ⟨4, 0, 0⟩, ⟨5, 0, 0⟩] 5 (by kernel_rfl) (by kernel_rfl) (fun w h => h.pick [] (by kernel_rfl) (by kernel_rfl)) (by kernel_rfl) (by kernel_rfl) ?_
        obtain ⟨x_5, hx_37, h⟩ := bd h
        refine jd_v 2 0 (by kernel_rfl) (fun w h => h.pick [] (by kernel_rfl) (by kernel_rfl)) (by kernel_rfl) (by kernel_rfl) _ (fun w hm => idx_run (a := a0_a) (len := a0.length) (s := 1) (j := i_2) (by kernel_rfl) (ix_some hx_37).1 (ltn hx_37 rfl) (a0_h.sp hx_37)) ?_
        refine jd_v 3 0 (by kernel_rfl) (fun w h => h.pick [] (by kernel_rfl) (by kernel_rfl)) (by kernel_rfl) (by kernel_rfl) _ (fun w hm => ld_run (b := aB a0_a) (off := (aO a0_a + i_2.toNat * 1)) (s := 1) (agg := false) (vs := (encI64 x_5)) (by kernel_rfl) (by kernel_rfl) (.inr rfl) ((hm.exRow a0_h List.not_mem_nil).at hx_37)) ?_
        obtain ⟨x_6, hx_38, h⟩ := bd h
        refine jd_v 6 0 (by kernel_rfl) (fun w h => h.pick [] (by kernel_rfl) (by kernel_rfl)) (by kernel_rfl) (by kernel_rfl) _ (fun w hm => idx_run (a := b1_a) (len := b1.length) (s := 1) (j := i_2) (by kernel_rfl) (ix_some hx_38).1 (ltn hx_38 rfl) (b1_h.sp hx_38)) ?_
        refine jd_v 7 0 (by kernel_rfl) (fun w h => h.pick [] (by kernel_rfl) (by kernel_rfl)) (by kernel_rfl) (by kernel_rfl) _ (fun w hm => ld_run (b := aB b1_a) (off := (aO b1_a + i_2.toNat * 1)) (s := 1) (agg := false) (vs := (encI64 x_6)) (by kernel_rfl) (by kernel_rfl) (.inr rfl) ((hm.exRow b1_h List.not_mem_nil).at hx_38)) ?_
        refine jd_f [⟨8, 0, 0⟩] 0 (by kernel_rfl) (by kernel_rfl) (fun w h => h.pick [] (by kernel_rfl) (by kernel_rfl)) (by kernel_rfl) (by kernel_rfl) ?_
        refine jd_end (by kernel_rfl) ?_
        refine jx_then ?_
        refine jc_cond (x_5 != x_6) (by kernel_rfl) (fun hc_39 => ?_) (fun hc_39 => ?_)
        · replace h := ifT hc_39 h
          refine jc_seq ?_
          refine jc_region ?_
          refine jo_f [(0, 0)] (by kernel_rfl) ?_
          refine jo_end (by kernel_rfl) ?_
          refine jx_then ?_
          refine jc_ret ?_
          refine jx_inr ?_
          refine jx_thenr ?_
          refine jx_leaver (.inl false) (Option.some.inj h).symm (fun e_40 => ?_)
          subst e_40
          refine jx_inr ?_
          refine jx_thenr ?_
          refine jx_thenr ?_
          obtain rfl := Option.some.inj hr_33
          exact jx_ret [] (.bool false) [] rfl (by kernel_rfl) (by kernel_rfl) (fun w hm => ⟨rfl, hm.pick [] (by kernel_rfl) (by kernel_rfl)⟩)
        · replace h := ifF hc_39 h
          refine jc_skip ?_
          refine jx_inn ?_
          refine jx_then ?_
          refine jc_region ?_
          refine jo_f [(0, 0), (0, 0), (0, 0)] (by kernel_rfl) ?_
          refine jo_end (by kernel_rfl) ?_
          exact jx_back (w64 (i_2 + 1)) () (Option.some.inj h).symm trivial [] (by kernel_rfl) (by kernel_rfl) (by kernel_rfl)
      · replace h := ifF hc_36 h
        refine jc_exit ?_
        refine jx_thenx ?_
        refine jx_leave (.inr ()) (Option.some.inj h).symm (fun e_41 => ?_)
        subst e_41
        refine jx_ine ?_
        exact jx_meet () hr_33 (by kernel_rfl) [] (by kernel_rfl) (by kernel_rfl)
    · rintro _ h
      replace h : spec_l00Same.k_1 = some r := h
      rw [spec_l00Same.k_1] at h
      refine jx_then ?_
      refine jc_seq ?_
      refine jc_region ?_
      refine jo_f [(0, 0)] (by kernel_rfl) ?_
      refine jo_end (by kernel_rfl) ?_
      refine jx_then ?_
      refine jc_ret ?_
      obtain rfl := Option.some.inj h
      exact jx_ret [] (.bool true) [] rfl (by kernel_rfl) (by kernel_rfl) (fun w hm => ⟨rfl, hm.pick [] (by kernel_rfl) (by kernel_rfl)⟩)

/-! ### spec.SameWear -/
noncomputable def spec_SameWear.k_1 (a0 : GWear) (b1 : GWear) : Option (Bool) := (spec_l00Same a0.fStrokes b1.fStrokes).bind fun t_2 => some t_2
noncomputable def spec_SameWear.l_4 (a0 : GWear) (b1 : GWear) : Int → Option ((Int) ⊕ (Bool ⊕ Unit))
  | i_3 => (if (decide (i_3 < (a0.fPins.length : Int))) = true then (ix a0.fPins i_3).bind fun x_6 => (ix b1.fPins i_3).bind fun x_7 => (if (!((x_6.fStep == x_7.fStep) && ((x_6.fTrack == x_7.fTrack) && (x_6.fTurns == x_7.fTurns)))) = true then some (.inr (.inl false)) else some (.inl (w64 (i_3 + 1)))) else some (.inr (.inr ())))
noncomputable def spec_SameWear (a0 : GWear) (b1 : GWear) : Option (Bool) := (if (((a0.fPins.length : Int) != (b1.fPins.length : Int)) || ((a0.fStrokes.length : Int) != (b1.fStrokes.length : Int))) = true then some false else (loop (spec_SameWear.l_4 a0 b1) 0).bind fun t_5 => match t_5 with | .inl p => some p | .inr p => spec_SameWear.k_1 a0 b1)
set_option maxRecDepth 100000 in
theorem spec_SameWear.calls (a0 : GWear) (b1 : GWear) (w : World) (r : Bool) (a0_fPins_a : Option Addr) (a0_fPins_an : Nat) (a0_fPins_c : Nat) (a0_fPins_h : Rw w a0_fPins_a 3 encGWornPin a0.fPins) (a0_fPins_hn : a0.fPins.length = a0_fPins_an) (a0_fStrokes_a : Option Addr) (a0_fStrokes_an : Nat) (a0_fStrokes_c : Nat) (a0_fStrokes_h : Rw w a0_fStrokes_a 1 encI64 a0.fStrokes) (a0_fStrokes_hn : a0.fStrokes.length = a0_fStrokes_an) (b1_fPins_a : Option Addr) (b1_fPins_an : Nat) (b1_fPins_c : Nat) (b1_fPins_h : Rw w b1_fPins_a 3 encGWornPin b1.fPins) (b1_fPins_hn : b1.fPins.length = b1_fPins_an) (b1_fStrokes_a : Option Addr) (b1_fStrokes_an : Nat) (b1_fStrokes_c : Nat) (b1_fStrokes_h : Rw w b1_fStrokes_a 1 encI64 b1.fStrokes) (b1_fStrokes_hn : b1.fStrokes.length = b1_fStrokes_an) (h : spec_SameWear a0 b1 = some r) :
    Calls Try.prog 23 #[(.agg #[(.slice a0_fPins_a a0_fPins_an a0_fPins_c), (.slice a0_fStrokes_a a0_fStrokes_an a0_fStrokes_c)]), (.agg #[(.slice b1_fPins_a b1_fPins_an b1_fPins_c), (.slice b1_fStrokes_a b1_fStrokes_an b1_fStrokes_c)])] w fun e w' => ∃ v, e = .returned v ∧ (v = (.bool r) ∧ Mem w [] [] w') := by
  subst a0_fPins_hn a0_fStrokes_hn b1_fPins_hn b1_fStrokes_hn
  rw [spec_SameWear] at h
  refine enter (args := [(.agg #[(.slice a0_fPins_a a0.fPins.length a0_fPins_c), (.slice a0_fStrokes_a a0.fStrokes.length a0_fStrokes_c)]), (.agg #[(.slice b1_fPins_a b1.fPins.length b1_fPins_c), (.slice b1_fStrokes_a b1.fStrokes.length b1_fStrokes_c)])]) Try.func23 rfl Try.ntmps23 (by kernel_rfl) (L := []) (W := []) (Mem.start w) ?_
  refine jc_seq ?_
  refine jc_region ?_
  refine toO (by kernel_rfl) (p_a 0 [0] (by kernel_rfl) (fun b => by kernel_rfl) (fun b_1 => jkO ?_))
  refine toO (by kernel_rfl) (p_a 0 [0] (by kernel_rfl) (fun b => by kernel_rfl) (fun b_2 => jkO ?_))
  refine jo_f [(0, 0)] (by kernel_rfl) ?_
  refine jo_end (by kernel_rfl) ?_
  refine jx_then ?_
  refine jc_seq ?_
  refine jc_seq ?_
  refine jc_region ?_
  refine jo_f [(0, 0), (0, 0), (0, 0), (0, 0), (1, 0), (0, 0), (0, 0), (0, 0), (0, 1), (0, 1), (0, 1), (0, 1), (1, 1), (0, 1), (0, 1), (0, 0)] (by kernel_rfl) ?_
  refine jo_end (by kernel_rfl) ?_
  refine jx_then ?_
  refine jc_cond (((a0.fPins.length : Int) != (b1.fPins.length : Int)) || ((a0.fStrokes.length : Int) != (b1.fStrokes.length : Int))) (by kernel_rfl) (fun hc_4 => ?_) (fun hc_4 => ?_)
  · replace h := ifT hc_4 h
    refine jc_seq ?_
    refine jc_region ?_
    refine jo_f [(0, 0)] (by kernel_rfl) ?_
    refine jo_end (by kernel_rfl) ?_
    refine jx_then ?_
    refine jc_ret ?_
    refine jx_thenr ?_
    obtain rfl := Option.some.inj h
    exact jx_ret [] (.bool false) [] rfl (by kernel_rfl) (by kernel_rfl) (fun w hm => ⟨rfl, hm.pick [] (by kernel_rfl) (by kernel_rfl)⟩)
  · replace h := ifF hc_4 h
    refine jc_skip ?_
    refine jx_then ?_
    refine jc_seq ?_
    refine jc_seq ?_
    refine jc_region ?_
    refine jo_f [(0, 0)] (by kernel_rfl) ?_
    refine jo_end (by kernel_rfl) ?_
    refine jx_then ?_
    refine jc_meet (fun (_ : Unit) => spec_SameWear.k_1 a0 b1 = some r) (fun (_ : Unit) => [(2, [], (.pointer (some ⟨b_1, 0, none⟩))), (3, [], (.pointer (some ⟨b_2, 0, none⟩))), (4, [], (.bool false))]) (fun (_ : Unit) => [⟨some b_1, 58, [(.slice a0_fPins_a a0.fPins.length a0_fPins_c), (.slice a0_fStrokes_a a0.fStrokes.length a0_fStrokes_c)]⟩, ⟨some b_2, 58, [(.slice b1_fPins_a b1.fPins.length b1_fPins_c), (.slice b1_fStrokes_a b1.fStrokes.length b1_fStrokes_c)]⟩]) ?_ ?_
    · refine jc_block ?_
      obtain ⟨t_5, ht_85, hr_76⟩ := bd h
      refine jc_loop (fun (s : Int) (x : Unit) => match s, x with | i_3, _ => True) (fun (s : Int) (x : Unit) => match s, x with | i_3, _ => [(2, [], (.pointer (some ⟨b_1, 0, none⟩))), (3, [], (.pointer (some ⟨b_2, 0, none⟩))), (4, [], (.bool false)), (5, [], (.int .i64 i_3))]) (fun (s : Int) (x : Unit) => match s, x with | i_3, _ => [⟨some b_1, 58, [(.slice a0_fPins_a a0.fPins.length a0_fPins_c), (.slice a0_fStrokes_a a0.fStrokes.length a0_fStrokes_c)]⟩, ⟨some b_2, 58, [(.slice b1_fPins_a b1.fPins.length b1_fPins_c), (.slice b1_fStrokes_a b1.fStrokes.length b1_fStrokes_c)]⟩]) ht_85 () trivial (by kernel_rfl) [0, 1] (by kernel_rfl) (by kernel_rfl) ?_
      rintro i_3 _ y_77 _ h
      rw [spec_SameWear.l_4] at h
      refine jc_seq ?_
      refine jc_seq ?_
      refine jc_region ?_
      refine jo_f [(0, 0), (0, 0), (0, 0), (0, 0), (0, 0)] (by kernel_rfl) ?_
      refine jo_end (by kernel_rfl) ?_
      refine jx_then ?_
      refine jc_cond (decide (i_3 < (a0.fPins.length : Int))) (by kernel_rfl) (fun hc_79 => ?_) (fun hc_79 => ?_)
      · replace h := ifT hc_79 h
        refine jc_skip ?_
        refine jx_then ?_
        refine jc_seq ?_
        refine jc_block ?_
        refine jc_seq ?_
        refine jc_draw [⟨some b_1, 58, [(.slice a0_fPins_a a0.fPins.length a0_fPins_c), (.slice a0_fStrokes_a a0.fStrokes.length a0_fStrokes_c)]⟩, ⟨some b_2, 58, [(.slice b1_fPins_a b1.fPins.length b1_fPins_c), (.slice b1_fStrokes_a b1.fStrokes.length b1_fStrokes_c)]⟩] 11 (by kernel_rfl) (by kernel_rfl) ?_
        refine jd_f [⟨0, 0, 0⟩, ⟨1, 0, 0⟩, ⟨2, 0, 0⟩, ⟨5, 0, 0⟩, ⟨6, 1, 0⟩, ⟨7, 0, 0⟩] 5 (by kernel_rfl) (by kernel_rfl) (fun w h => h.pick [0, 1] (by kernel_rfl) (by kernel_rfl)) (by kernel_rfl) (by kernel_rfl) ?_
        obtain ⟨x_6, hx_80, h⟩ := bd h
        refine jd_v 3 0 (by kernel_rfl) (fun w h => h.pick [0, 1] (by kernel_rfl) (by kernel_rfl)) (by kernel_rfl) (by kernel_rfl) _ (fun w hm => idx_run (a := a0_fPins_a) (len := a0.fPins.length) (s := 3) (j := i_3) (by kernel_rfl) (ix_some hx_80).1 (ltn hx_80 rfl) (a0_fPins_h.sp hx_80)) ?_
        refine jd_v 4 0 (by kernel_rfl) (fun w h => h.pick [0, 1] (by kernel_rfl) (by kernel_rfl)) (by kernel_rfl) (by kernel_rfl) _ (fun w hm => ld_run (b := aB a0_fPins_a) (off := (aO a0_fPins_a + i_3.toNat * 3)) (s := 3) (agg := true) (vs := (encGWornPin x_6)) (by kernel_rfl) (by kernel_rfl) (.inl rfl) ((hm.exRow a0_fPins_h List.not_mem_nil).at hx_80)) ?_
        obtain ⟨x_7, hx_81, h⟩ := bd h
        refine jd_v 8 0 (by kernel_rfl) (fun w h => h.pick [0, 1] (by kernel_rfl) (by kernel_rfl)) (by kernel_rfl) (by kernel_rfl) _ (fun w hm => idx_run (a := b1_fPins_a) (len := b1.fPins.length) (s := 3) (j := i_3) (by kernel_rfl) (ix_some hx_81).1 (ltn hx_81 rfl) (b1_fPins_h.sp hx_81)) ?_
        refine jd_v 9 0 (by kernel_rfl) (fun w h => h.pick [0, 1] (by kernel_rfl) (by kernel_rfl)) (by kernel_rfl) (by kernel_rfl) _ (fun w hm => ld_run (b := aB b1_fPins_a) (off := (aO b1_fPins_a + i_3.toNat * 3)) (s := 3) (agg := true) (vs := (encGWornPin x_7)) (by kernel_rfl) (by kernel_rfl) (.inl rfl) ((hm.exRow b1_fPins_h List.not_mem_nil).at hx_81)) ?_
        refine jd_f [⟨10, 0, 0⟩] 0 (by kernel_rfl) (by kernel_rfl) (fun w h => h.pick [0, 1] (by kernel_rfl) (by kernel_rfl)) (by kernel_rfl) (by kernel_rfl) ?_
        refine jd_end (by kernel_rfl) ?_
        refine jx_then ?_
        refine jc_cond (!((x_6.fStep == x_7.fStep) && ((x_6.fTrack == x_7.fTrack) && (x_6.fTurns == x_7.fTurns)))) (by kernel_rfl) (fun hc_82 => ?_) (fun hc_82 => ?_)
        · replace h := ifT hc_82 h
          refine jc_seq ?_
          refine jc_region ?_
          refine jo_f [(0, 0)] (by kernel_rfl) ?_
          refine jo_end (by kernel_rfl) ?_
          refine jx_then ?_
          refine jc_ret ?_
          refine jx_inr ?_
          refine jx_thenr ?_
          refine jx_leaver (.inl false) (Option.some.inj h).symm (fun e_83 => ?_)
          subst e_83
          refine jx_inr ?_
          refine jx_thenr ?_
          refine jx_thenr ?_
          obtain rfl := Option.some.inj hr_76
          exact jx_ret [] (.bool false) [] rfl (by kernel_rfl) (by kernel_rfl) (fun w hm => ⟨rfl, hm.pick [] (by kernel_rfl) (by kernel_rfl)⟩)
        · replace h := ifF hc_82 h
          refine jc_skip ?_
          refine jx_inn ?_
          refine jx_then ?_
          refine jc_region ?_
          refine jo_f [(0, 0), (0, 0), (0, 0)] (by kernel_rfl) ?_
          refine jo_end (by kernel_rfl) ?_
          exact jx_back (w64 (i_3 + 1)) () (Option.some.inj h).symm trivial [0, 1] (by kernel_rfl) (by kernel_rfl) (by kernel_rfl)
      · replace h := ifF hc_79 h
        refine jc_exit ?_
        refine jx_thenx ?_
        refine jx_leave (.inr ()) (Option.some.inj h).symm (fun e_84 => ?_)
        subst e_84
        refine jx_ine ?_
        exact jx_meet () hr_76 (by kernel_rfl) [0, 1] (by kernel_rfl) (by kernel_rfl)
    · rintro _ h
      replace h : spec_SameWear.k_1 a0 b1 = some r := h
      rw [spec_SameWear.k_1] at h
      refine jx_then ?_
      refine jc_seq ?_
      refine jc_region ?_
      refine jo_f [(0, 0), (0, 0), (0, 0), (1, 0)] (by kernel_rfl) ?_
      obtain ⟨t_2, ht_65, h⟩ := bd h
      refine toO (by kernel_rfl) (p_call 0 40 #[(.slice a0_fStrokes_a a0.fStrokes.length a0_fStrokes_c), (.slice b1_fStrokes_a b1.fStrokes.length b1_fStrokes_c)] (by kernel_rfl) (by kernel_rfl) (fun w hm => spec_l00Same.calls a0.fStrokes b1.fStrokes w _ a0_fStrokes_a a0.fStrokes.length a0_fStrokes_c (hm.exRow a0_fStrokes_h List.not_mem_nil) rfl b1_fStrokes_a b1.fStrokes.length b1_fStrokes_c (hm.exRow b1_fStrokes_h List.not_mem_nil) rfl ht_65) ?_)
      rintro w v w' hm ⟨rfl, hm'⟩
      refine ⟨_, hm.app hm', jkO ?_⟩
      clear hm hm'
      refine jo_f [(0, 0)] (by kernel_rfl) ?_
      refine jo_end (by kernel_rfl) ?_
      refine jx_then ?_
      refine jc_ret ?_
      obtain rfl := Option.some.inj h
      exact jx_ret [] (.bool t_2) [] rfl (by kernel_rfl) (by kernel_rfl) (fun w hm => ⟨rfl, hm.pick [] (by kernel_rfl) (by kernel_rfl)⟩)

/-! ### slices.Equal[[]impl.WornPin,impl.WornPin] -/
noncomputable def slices_Equal_WornPin.k_1 : Option (Bool) := some true
noncomputable def slices_Equal_WornPin.l_3 (s10 : List GWornPin) (s21 : List GWornPin) : Int → Option ((Int) ⊕ (Bool ⊕ Unit))
  | i_2 => (if (decide (i_2 < (s10.length : Int))) = true then (ix s10 i_2).bind fun x_5 => (ix s21 i_2).bind fun x_6 => (if (!((x_5.fStep == x_6.fStep) && ((x_5.fTrack == x_6.fTrack) && (x_5.fTurns == x_6.fTurns)))) = true then some (.inr (.inl false)) else some (.inl (w64 (i_2 + 1)))) else some (.inr (.inr ())))
noncomputable def slices_Equal_WornPin (s10 : List GWornPin) (s21 : List GWornPin) : Option (Bool) := (if ((s10.length : Int) != (s21.length : Int)) = true then some false else (loop (slices_Equal_WornPin.l_3 s10 s21) 0).bind fun t_4 => match t_4 with | .inl p => some p | .inr p => slices_Equal_WornPin.k_1)
set_option maxRecDepth 100000 in
theorem slices_Equal_WornPin.calls (s10 : List GWornPin) (s21 : List GWornPin) (w : World) (r : Bool) (s10_a : Option Addr) (s10_an : Nat) (s10_c : Nat) (s10_h : Rw w s10_a 3 encGWornPin s10) (s10_hn : s10.length = s10_an) (s21_a : Option Addr) (s21_an : Nat) (s21_c : Nat) (s21_h : Rw w s21_a 3 encGWornPin s21) (s21_hn : s21.length = s21_an) (h : slices_Equal_WornPin s10 s21 = some r) :
    Calls Try.prog 43 #[(.slice s10_a s10_an s10_c), (.slice s21_a s21_an s21_c)] w fun e w' => ∃ v, e = .returned v ∧ (v = (.bool r) ∧ Mem w [] [] w') := by
  subst s10_hn s21_hn
  rw [slices_Equal_WornPin] at h
  refine enter (args := [(.slice s10_a s10.length s10_c), (.slice s21_a s21.length s21_c)]) Try.func43 rfl Try.ntmps43 (by kernel_rfl) (L := []) (W := []) (Mem.start w) ?_
  refine jc_seq ?_
  refine jc_region ?_
  refine jo_f [(0, 0)] (by kernel_rfl) ?_
  refine jo_end (by kernel_rfl) ?_
  refine jx_then ?_
  refine jc_seq ?_
  refine jc_seq ?_
  refine jc_region ?_
  refine jo_f [(0, 0), (0, 0), (0, 0), (0, 0), (0, 0)] (by kernel_rfl) ?_
  refine jo_end (by kernel_rfl) ?_
  refine jx_then ?_
  refine jc_cond ((s10.length : Int) != (s21.length : Int)) (by kernel_rfl) (fun hc_2 => ?_) (fun hc_2 => ?_)
  · replace h := ifT hc_2 h
    refine jc_seq ?_
    refine jc_region ?_
    refine jo_f [(0, 0)] (by kernel_rfl) ?_
    refine jo_end (by kernel_rfl) ?_
    refine jx_then ?_
    refine jc_ret ?_
    refine jx_thenr ?_
    obtain rfl := Option.some.inj h
    exact jx_ret [] (.bool false) [] rfl (by kernel_rfl) (by kernel_rfl) (fun w hm => ⟨rfl, hm.pick [] (by kernel_rfl) (by kernel_rfl)⟩)
  · replace h := ifF hc_2 h
    refine jc_skip ?_
    refine jx_then ?_
    refine jc_seq ?_
    refine jc_seq ?_
    refine jc_region ?_
    refine jo_f [(0, 0), (0, 0), (0, 0)] (by kernel_rfl) ?_
    refine jo_end (by kernel_rfl) ?_
    refine jx_then ?_
    refine jc_meet (fun (_ : Unit) => slices_Equal_WornPin.k_1 = some r) (fun (_ : Unit) => [(4, [], (.bool false))]) (fun (_ : Unit) => []) ?_ ?_
    · refine jc_block ?_
      obtain ⟨t_4, ht_42, hr_33⟩ := bd h
      refine jc_loop (fun (s : Int) (x : Unit) => match s, x with | i_2, _ => True) (fun (s : Int) (x : Unit) => match s, x with | i_2, _ => [(0, [], (.slice s10_a s10.length s10_c)), (1, [], (.slice s21_a s21.length s21_c)), (4, [], (.bool false)), (12, [], (.int .i64 (s10.length : Int))), (13, [], (.int .i64 i_2))]) (fun (s : Int) (x : Unit) => match s, x with | i_2, _ => []) ht_42 () trivial (by kernel_rfl) [] (by kernel_rfl) (by kernel_rfl) ?_
      rintro i_2 _ y_34 _ h
      rw [slices_Equal_WornPin.l_3] at h
      refine jc_seq ?_
      refine jc_region ?_
      refine jo_f [(0, 0)] (by kernel_rfl) ?_
      refine jo_end (by kernel_rfl) ?_
      refine jx_then ?_
      refine jc_seq ?_
      refine jc_cond (decide (i_2 < (s10.length : Int))) (by kernel_rfl) (fun hc_36 => ?_) (fun hc_36 => ?_)
      · replace h := ifT hc_36 h
        refine jc_skip ?_
        refine jx_then ?_
        refine jc_seq ?_
        refine jc_block ?_
        refine jc_seq ?_
        refine jc_region ?_
        refine jo_f [(0, 0), (0, 0)] (by kernel_rfl) ?_
        refine jo_end (by kernel_rfl) ?_
        refine jx_then ?_
        refine jc_seq ?_
        refine jc_draw [] 9 (by kernel_rfl) (by kernel_rfl) ?_
        refine jd_f [⟨0, 0, 0⟩, ⟨1, 0, 0⟩, ⟨4, 0, 0⟩, ⟨5, 0, 0⟩] 5 (by kernel_rfl) (by kernel_rfl) (fun w h => h.pick [] (by kernel_rfl) (by kernel_rfl)) (by kernel_rfl) (by kernel_rfl) ?_
        obtain ⟨x_5, hx_37, h⟩ := bd h
        refine jd_v 2 0 (by kernel_rfl) (fun w h => h.pick [] (by kernel_rfl) (by kernel_rfl)) (by kernel_rfl) (by kernel_rfl) _ (fun w hm => idx_run (a := s10_a) (len := s10.length) (s := 3) (j := i_2) (by kernel_rfl) (ix_some hx_37).1 (ltn hx_37 rfl) (s10_h.sp hx_37)) ?_
        refine jd_v 3 0 (by kernel_rfl) (fun w h => h.pick [] (by kernel_rfl) (by kernel_rfl)) (by kernel_rfl) (by kernel_rfl) _ (fun w hm => ld_run (b := aB s10_a) (off := (aO s10_a + i_2.toNat * 3)) (s := 3) (agg := true) (vs := (encGWornPin x_5)) (by kernel_rfl) (by kernel_rfl) (.inl rfl) ((hm.exRow s10_h List.not_mem_nil).at hx_37)) ?_
        obtain ⟨x_6, hx_38, h⟩ := bd h
        refine jd_v 6 0 (by kernel_rfl) (fun w h => h.pick [] (by kernel_rfl) (by kernel_rfl)) (by kernel_rfl) (by kernel_rfl) _ (fun w hm => idx_run (a := s21_a) (len := s21.length) (s := 3) (j := i_2) (by kernel_rfl) (ix_some hx_38).1 (ltn hx_38 rfl) (s21_h.sp hx_38)) ?_
        refine jd_v 7 0 (by kernel_rfl) (fun w h => h.pick [] (by kernel_rfl) (by kernel_rfl)) (by kernel_rfl) (by kernel_rfl) _ (fun w hm => ld_run (b := aB s21_a) (off := (aO s21_a + i_2.toNat * 3)) (s := 3) (agg := true) (vs := (encGWornPin x_6)) (by kernel_rfl) (by kernel_rfl) (.inl rfl) ((hm.exRow s21_h List.not_mem_nil).at hx_38)) ?_
        refine jd_f [⟨8, 0, 0⟩] 0 (by kernel_rfl) (by kernel_rfl) (fun w h => h.pick [] (by kernel_rfl) (by kernel_rfl)) (by kernel_rfl) (by kernel_rfl) ?_
        refine jd_end (by kernel_rfl) ?_
        refine jx_then ?_
        refine jc_cond (!((x_5.fStep == x_6.fStep) && ((x_5.fTrack == x_6.fTrack) && (x_5.fTurns == x_6.fTurns)))) (by kernel_rfl) (fun hc_39 => ?_) (fun hc_39 => ?_)
        · replace h := ifT hc_39 h
          refine jc_seq ?_
          refine jc_region ?_
          refine jo_f [(0, 0)] (by kernel_rfl) ?_
          refine jo_end (by kernel_rfl) ?_
          refine jx_then ?_
          refine jc_ret ?_
          refine jx_inr ?_
          refine jx_thenr ?_
          refine jx_leaver (.inl false) (Option.some.inj h).symm (fun e_40 => ?_)
          subst e_40
          refine jx_inr ?_
          refine jx_thenr ?_
          refine jx_thenr ?_
          obtain rfl := Option.some.inj hr_33
          exact jx_ret [] (.bool false) [] rfl (by kernel_rfl) (by kernel_rfl) (fun w hm => ⟨rfl, hm.pick [] (by kernel_rfl) (by kernel_rfl)⟩)
        · replace h := ifF hc_39 h
          refine jc_skip ?_
          refine jx_inn ?_
          refine jx_then ?_
          refine jc_region ?_
          refine jo_f [(0, 0), (0, 0)] (by kernel_rfl) ?_
          refine jo_end (by kernel_rfl) ?_
          exact jx_back (w64 (i_2 + 1)) () (Option.some.inj h).symm trivial [] (by kernel_rfl) (by kernel_rfl) (by kernel_rfl)
      · replace h := ifF hc_36 h
        refine jc_exit ?_
        refine jx_thenx ?_
        refine jx_leave (.inr ()) (Option.some.inj h).symm (fun e_41 => ?_)
        subst e_41
        refine jx_ine ?_
        exact jx_meet () hr_33 (by kernel_rfl) [] (by kernel_rfl) (by kernel_rfl)
    · rintro _ h
      replace h : slices_Equal_WornPin.k_1 = some r := h
      rw [slices_Equal_WornPin.k_1] at h
      refine jx_then ?_
      refine jc_seq ?_
      refine jc_region ?_
      refine jo_f [(0, 0)] (by kernel_rfl) ?_
      refine jo_end (by kernel_rfl) ?_
      refine jx_then ?_
      refine jc_ret ?_
      obtain rfl := Option.some.inj h
      exact jx_ret [] (.bool true) [] rfl (by kernel_rfl) (by kernel_rfl) (fun w hm => ⟨rfl, hm.pick [] (by kernel_rfl) (by kernel_rfl)⟩)

/-! ### slices.Equal[[]int64,int64] -/
noncomputable def slices_Equal_int64.k_1 : Option (Bool) := some true
noncomputable def slices_Equal_int64.l_3 (s10 : List Int) (s21 : List Int) : Int → Option ((Int) ⊕ (Bool ⊕ Unit))
  | i_2 => (if (decide (i_2 < (s10.length : Int))) = true then (ix s10 i_2).bind fun x_5 => (ix s21 i_2).bind fun x_6 => (if (x_5 != x_6) = true then some (.inr (.inl false)) else some (.inl (w64 (i_2 + 1)))) else some (.inr (.inr ())))
noncomputable def slices_Equal_int64 (s10 : List Int) (s21 : List Int) : Option (Bool) := (if ((s10.length : Int) != (s21.length : Int)) = true then some false else (loop (slices_Equal_int64.l_3 s10 s21) 0).bind fun t_4 => match t_4 with | .inl p => some p | .inr p => slices_Equal_int64.k_1)
set_option maxRecDepth 100000 in
theorem slices_Equal_int64.calls (s10 : List Int) (s21 : List Int) (w : World) (r : Bool) (s10_a : Option Addr) (s10_an : Nat) (s10_c : Nat) (s10_h : Rw w s10_a 1 encI64 s10) (s10_hn : s10.length = s10_an) (s21_a : Option Addr) (s21_an : Nat) (s21_c : Nat) (s21_h : Rw w s21_a 1 encI64 s21) (s21_hn : s21.length = s21_an) (h : slices_Equal_int64 s10 s21 = some r) :
    Calls Try.prog 44 #[(.slice s10_a s10_an s10_c), (.slice s21_a s21_an s21_c)] w fun e w' => ∃ v, e = .returned v ∧ (v = (.bool r) ∧ Mem w [] [] w') := by
  subst s10_hn s21_hn
  rw [slices_Equal_int64] at h
  refine enter (args := [(.slice s10_a s10.length s10_c), (.slice s21_a s21.length s21_c)]) Try.func44 rfl Try.ntmps44 (by kernel_rfl) (L := []) (W := []) (Mem.start w) ?_
  refine jc_seq ?_
  refine jc_region ?_
  refine jo_f [(0, 0)] (by kernel_rfl) ?_
  refine jo_end (by kernel_rfl) ?_
  refine jx_then ?_
  refine jc_seq ?_
  refine jc_seq ?_
  refine jc_region ?_
  refine jo_f [(0, 0), (0, 0), (0, 0), (0, 0), (0, 0)] (by kernel_rfl) ?_
  refine jo_end (by kernel_rfl) ?_
  refine jx_then ?_
  refine jc_cond ((s10.length : Int) != (s21.length : Int)) (by kernel_rfl) (fun hc_2 => ?_) (fun hc_2 => ?_)
  · replace h := ifT hc_2 h
    refine jc_seq ?_
    refine jc_region ?_
    refine jo_f [(0, 0)] (by kernel_rfl) ?_
    refine jo_end (by kernel_rfl) ?_
    refine jx_then ?_
    refine jc_ret ?_
    refine jx_thenr ?_
    obtain rfl := Option.some.inj h
    exact jx_ret [] (.bool false) [] rfl (by kernel_rfl) (by kernel_rfl) (fun w hm => ⟨rfl, hm.pick [] (by kernel_rfl) (by kernel_rfl)⟩)
  · replace h := ifF hc_2 h
    refine jc_skip ?_
    refine jx_then ?_
    refine jc_seq ?_
    refine jc_seq ?_
    refine jc_region ?_
    refine jo_f [(0, 0), (0, 0), (0, 0)] (by kernel_rfl) ?_
    refine jo_end (by kernel_rfl) ?_
    refine jx_then ?_
    refine jc_meet (fun (_ : Unit) => slices_Equal_int64.k_1 = some r) (fun (_ : Unit) => [(4, [], (.bool false))]) (fun (_ : Unit) => []) ?_ ?_
    · refine jc_block ?_
      obtain ⟨t_4, ht_42, hr_33⟩ := bd h
      refine jc_loop (fun (s : Int) (x : Unit) => match s, x with | i_2, _ => True) (fun (s : Int) (x : Unit) => match s, x with | i_2, _ => [(0, [], (.slice s10_a s10.length s10_c)), (1, [], (.slice s21_a s21.length s21_c)), (4, [], (.bool false)), (12, [], (.int .i64 (s10.length : Int))), (13, [], (.int .i64 i_2))]) (fun (s : Int) (x : Unit) => match s, x with | i_2, _ => []) ht_42 () trivial (by kernel_rfl) [] (by kernel_rfl) (by kernel_rfl) ?_
      rintro i_2 _ y_34 _ h
      rw [slices_Equal_int64.l_3] at h
      refine jc_seq ?_
      refine jc_region ?_
      refine jo_f [(0, 0)] (by kernel_rfl) ?_
      refine jo_end (by kernel_rfl) ?_
      refine jx_then ?_
      refine jc_seq ?_
      refine jc_cond (decide (i_2 < (s10.length : Int))) (by kernel_rfl) (fun hc_36 => ?_) (fun hc_36 => ?_)
      · replace h := ifT hc_36 h
        refine jc_skip ?_
        refine jx_then ?_
        refine jc_seq ?_
        refine jc_block ?_
        refine jc_seq ?_
        refine jc_region ?_
        refine jo_f [(0, 0), (0, 0)] (by kernel_rfl) ?_
        refine jo_end (by kernel_rfl) ?_
        refine jx_then ?_
        refine jc_seq ?_
        refine jc_draw [] 9 (by kernel_rfl) (by kernel_rfl) ?_
        refine jd_f [⟨0, 0, 0⟩, ⟨1, 0, 0⟩, ⟨4, 0, 0⟩, ⟨5, 0, 0⟩] 5 (by kernel_rfl) (by kernel_rfl) (fun w h => h.pick [] (by kernel_rfl) (by kernel_rfl)) (by kernel_rfl) (by kernel_rfl) ?_
        obtain ⟨x_5, hx_37, h⟩ := bd h
        refine jd_v 2 0 (by kernel_rfl) (fun w h => h.pick [] (by kernel_rfl) (by kernel_rfl)) (by kernel_rfl) (by kernel_rfl) _ (fun w hm => idx_run (a := s10_a) (len := s10.length) (s := 1) (j := i_2) (by kernel_rfl) (ix_some hx_37).1 (ltn hx_37 rfl) (s10_h.sp hx_37)) ?_
        refine jd_v 3 0 (by kernel_rfl) (fun w h => h.pick [] (by kernel_rfl) (by kernel_rfl)) (by kernel_rfl) (by kernel_rfl) _ (fun w hm => ld_run (b := aB s10_a) (off := (aO s10_a + i_2.toNat * 1)) (s := 1) (agg := false) (vs := (encI64 x_5)) (by kernel_rfl) (by kernel_rfl) (.inr rfl) ((hm.exRow s10_h List.not_mem_nil).at hx_37)) ?_
        obtain ⟨x_6, hx_38, h⟩ := bd h
        refine jd_v 6 0 (by kernel_rfl) (fun w h => h.pick [] (by kernel_rfl) (by kernel_rfl)) (by kernel_rfl) (by kernel_rfl) _ (fun w hm => idx_run (a := s21_a) (len := s21.length) (s := 1) (j := i_2) (by kernel_rfl) (ix_some hx_38).1 (ltn hx_38 rfl) (s21_h.sp hx_38)) ?_
        refine jd_v 7 0 (by kernel_rfl) (fun w h => h.pick [] (by kernel_rfl) (by kernel_rfl)) (by kernel_rfl) (by kernel_rfl) _ (fun w hm => ld_run (b := aB s21_a) (off := (aO s21_a + i_2.toNat * 1)) (s := 1) (agg := false) (vs := (encI64 x_6)) (by kernel_rfl) (by kernel_rfl) (.inr rfl) ((hm.exRow s21_h List.not_mem_nil).at hx_38)) ?_
        refine jd_f [⟨8, 0, 0⟩] 0 (by kernel_rfl) (by kernel_rfl) (fun w h => h.pick [] (by kernel_rfl) (by kernel_rfl)) (by kernel_rfl) (by kernel_rfl) ?_
        refine jd_end (by kernel_rfl) ?_
        refine jx_then ?_
        refine jc_cond (x_5 != x_6) (by kernel_rfl) (fun hc_39 => ?_) (fun hc_39 => ?_)
        · replace h := ifT hc_39 h
          refine jc_seq ?_
          refine jc_region ?_
          refine jo_f [(0, 0)] (by kernel_rfl) ?_
          refine jo_end (by kernel_rfl) ?_
          refine jx_then ?_
          refine jc_ret ?_
          refine jx_inr ?_
          refine jx_thenr ?_
          refine jx_leaver (.inl false) (Option.some.inj h).symm (fun e_40 => ?_)
          subst e_40
          refine jx_inr ?_
          refine jx_thenr ?_
          refine jx_thenr ?_
          obtain rfl := Option.some.inj hr_33
          exact jx_ret [] (.bool false) [] rfl (by kernel_rfl) (by kernel_rfl) (fun w hm => ⟨rfl, hm.pick [] (by kernel_rfl) (by kernel_rfl)⟩)
        · replace h := ifF hc_39 h
          refine jc_skip ?_
          refine jx_inn ?_
          refine jx_then ?_
          refine jc_region ?_
          refine jo_f [(0, 0), (0, 0)] (by kernel_rfl) ?_
          refine jo_end (by kernel_rfl) ?_
          exact jx_back (w64 (i_2 + 1)) () (Option.some.inj h).symm trivial [] (by kernel_rfl) (by kernel_rfl) (by kernel_rfl)
      · replace h := ifF hc_36 h
        refine jc_exit ?_
        refine jx_thenx ?_
        refine jx_leave (.inr ()) (Option.some.inj h).symm (fun e_41 => ?_)
        subst e_41
        refine jx_ine ?_
        exact jx_meet () hr_33 (by kernel_rfl) [] (by kernel_rfl) (by kernel_rfl)
    · rintro _ h
      replace h : slices_Equal_int64.k_1 = some r := h
      rw [slices_Equal_int64.k_1] at h
      refine jx_then ?_
      refine jc_seq ?_
      refine jc_region ?_
      refine jo_f [(0, 0)] (by kernel_rfl) ?_
      refine jo_end (by kernel_rfl) ?_
      refine jx_then ?_
      refine jc_ret ?_
      obtain rfl := Option.some.inj h
      exact jx_ret [] (.bool true) [] rfl (by kernel_rfl) (by kernel_rfl) (fun w hm => ⟨rfl, hm.pick [] (by kernel_rfl) (by kernel_rfl)⟩)

/-! ### impl.SameWear -/
noncomputable def impl_SameWear (a0 : GWear) (b1 : GWear) : Option (Bool) := (slices_Equal_WornPin a0.fPins b1.fPins).bind fun t_1 => (if t_1 = true then (slices_Equal_int64 a0.fStrokes b1.fStrokes).bind fun t_2 => some t_2 else some false)
set_option maxRecDepth 100000 in
theorem impl_SameWear.calls (a0 : GWear) (b1 : GWear) (w : World) (r : Bool) (a0_fPins_a : Option Addr) (a0_fPins_an : Nat) (a0_fPins_c : Nat) (a0_fPins_h : Rw w a0_fPins_a 3 encGWornPin a0.fPins) (a0_fPins_hn : a0.fPins.length = a0_fPins_an) (a0_fStrokes_a : Option Addr) (a0_fStrokes_an : Nat) (a0_fStrokes_c : Nat) (a0_fStrokes_h : Rw w a0_fStrokes_a 1 encI64 a0.fStrokes) (a0_fStrokes_hn : a0.fStrokes.length = a0_fStrokes_an) (b1_fPins_a : Option Addr) (b1_fPins_an : Nat) (b1_fPins_c : Nat) (b1_fPins_h : Rw w b1_fPins_a 3 encGWornPin b1.fPins) (b1_fPins_hn : b1.fPins.length = b1_fPins_an) (b1_fStrokes_a : Option Addr) (b1_fStrokes_an : Nat) (b1_fStrokes_c : Nat) (b1_fStrokes_h : Rw w b1_fStrokes_a 1 encI64 b1.fStrokes) (b1_fStrokes_hn : b1.fStrokes.length = b1_fStrokes_an) (h : impl_SameWear a0 b1 = some r) :
    Calls Try.prog 25 #[(.agg #[(.slice a0_fPins_a a0_fPins_an a0_fPins_c), (.slice a0_fStrokes_a a0_fStrokes_an a0_fStrokes_c)]), (.agg #[(.slice b1_fPins_a b1_fPins_an b1_fPins_c), (.slice b1_fStrokes_a b1_fStrokes_an b1_fStrokes_c)])] w fun e w' => ∃ v, e = .returned v ∧ (v = (.bool r) ∧ Mem w [] [] w') := by
  subst a0_fPins_hn a0_fStrokes_hn b1_fPins_hn b1_fStrokes_hn
  rw [impl_SameWear] at h
  refine enter (args := [(.agg #[(.slice a0_fPins_a a0.fPins.length a0_fPins_c), (.slice a0_fStrokes_a a0.fStrokes.length a0_fStrokes_c)]), (.agg #[(.slice b1_fPins_a b1.fPins.length b1_fPins_c), (.slice b1_fStrokes_a b1.fStrokes.length b1_fStrokes_c)])]) Try.func25 rfl Try.ntmps25 (by kernel_rfl) (L := []) (W := []) (Mem.start w) ?_
  refine jc_seq ?_
  refine jc_region ?_
  refine toO (by kernel_rfl) (p_a 0 [0] (by kernel_rfl) (fun b => by kernel_rfl) (fun b_1 => jkO ?_))
  refine toO (by kernel_rfl) (p_a 0 [0] (by kernel_rfl) (fun b => by kernel_rfl) (fun b_2 => jkO ?_))
  refine jo_f [(0, 0)] (by kernel_rfl) ?_
  refine jo_end (by kernel_rfl) ?_
  refine jx_then ?_
  refine jc_seq ?_
  refine jc_region ?_
  refine jo_f [(0, 0), (0, 0), (0, 0), (1, 0)] (by kernel_rfl) ?_
  obtain ⟨t_1, ht_3, h⟩ := bd h
  refine toO (by kernel_rfl) (p_call 0 43 #[(.slice a0_fPins_a a0.fPins.length a0_fPins_c), (.slice b1_fPins_a b1.fPins.length b1_fPins_c)] (by kernel_rfl) (by kernel_rfl) (fun w hm => slices_Equal_WornPin.calls a0.fPins b1.fPins w _ a0_fPins_a a0.fPins.length a0_fPins_c (hm.exRow a0_fPins_h List.not_mem_nil) rfl b1_fPins_a b1.fPins.length b1_fPins_c (hm.exRow b1_fPins_h List.not_mem_nil) rfl ht_3) ?_)
  rintro w v w' hm ⟨rfl, hm'⟩
  refine ⟨_, hm.app hm', jkO ?_⟩
  clear hm hm'
  refine jo_f [(0, 0), (0, 1), (0, 1), (0, 1), (1, 1)] (by kernel_rfl) ?_
  refine jo_split 10 t_1 (by kernel_rfl) (fun hc_4 => ?_) (fun hc_4 => ?_)
  · replace h := ifT hc_4 h
    obtain ⟨t_2, ht_5, h⟩ := bd h
    refine toO (by kernel_rfl) (p_call 2 44 #[(.slice a0_fStrokes_a a0.fStrokes.length a0_fStrokes_c), (.slice b1_fStrokes_a b1.fStrokes.length b1_fStrokes_c)] (by kernel_rfl) (by kernel_rfl) (fun w hm => slices_Equal_int64.calls a0.fStrokes b1.fStrokes w _ a0_fStrokes_a a0.fStrokes.length a0_fStrokes_c (hm.exRow a0_fStrokes_h List.not_mem_nil) rfl b1_fStrokes_a b1.fStrokes.length b1_fStrokes_c (hm.exRow b1_fStrokes_h List.not_mem_nil) rfl ht_5) ?_)
    rintro w v w' hm ⟨rfl, hm'⟩
    refine ⟨_, hm.app hm', jkO ?_⟩
    clear hm hm'
    refine jo_f [(0, 4), (0, 0)] (by kernel_rfl) ?_
    refine jo_end (by kernel_rfl) ?_
    refine jx_then ?_
    refine jc_ret ?_
    obtain rfl := Option.some.inj h
    exact jx_ret [] (.bool t_2) [] rfl (by kernel_rfl) (by kernel_rfl) (fun w hm => ⟨rfl, hm.pick [] (by kernel_rfl) (by kernel_rfl)⟩)
  · replace h := ifF hc_4 h
    refine jo_f [(0, 3), (0, 5), (0, 0)] (by kernel_rfl) ?_
    refine jo_end (by kernel_rfl) ?_
    refine jx_then ?_
    refine jc_ret ?_
    obtain rfl := Option.some.inj h
    exact jx_ret [] (.bool false) [] rfl (by kernel_rfl) (by kernel_rfl) (fun w hm => ⟨rfl, hm.pick [] (by kernel_rfl) (by kernel_rfl)⟩)

/-! ### laws.eqWornPin -/
noncomputable def laws_eqWornPin (a0 : GWornPin) (b1 : GWornPin) : Option (Bool) := (if (a0.fStep != b1.fStep) = true then some false else (if (a0.fTrack != b1.fTrack) = true then some false else (if (a0.fTurns != b1.fTurns) = true then some false else some true)))
set_option maxRecDepth 100000 in
theorem laws_eqWornPin.calls (a0 : GWornPin) (b1 : GWornPin) (w : World) (r : Bool) (h : laws_eqWornPin a0 b1 = some r) :
    Calls Try.prog 57 #[(.agg #[(.int .i8 a0.fStep), (.int .i8 a0.fTrack), (.int .i64 a0.fTurns)]), (.agg #[(.int .i8 b1.fStep), (.int .i8 b1.fTrack), (.int .i64 b1.fTurns)])] w fun e w' => ∃ v, e = .returned v ∧ (v = (.bool r) ∧ Mem w [] [] w') := by
  rw [laws_eqWornPin] at h
  refine enter (args := [(.agg #[(.int .i8 a0.fStep), (.int .i8 a0.fTrack), (.int .i64 a0.fTurns)]), (.agg #[(.int .i8 b1.fStep), (.int .i8 b1.fTrack), (.int .i64 b1.fTurns)])]) Try.func57 rfl Try.ntmps57 (by kernel_rfl) (L := []) (W := []) (Mem.start w) ?_
  refine jc_seq ?_
  refine jc_region ?_
  refine toO (by kernel_rfl) (p_a 0 [0] (by kernel_rfl) (fun b => by kernel_rfl) (fun b_1 => jkO ?_))
  refine toO (by kernel_rfl) (p_a 0 [0] (by kernel_rfl) (fun b => by kernel_rfl) (fun b_2 => jkO ?_))
  refine jo_f [(0, 0)] (by kernel_rfl) ?_
  refine jo_end (by kernel_rfl) ?_
  refine jx_then ?_
  refine jc_seq ?_
  refine jc_seq ?_
  refine jc_region ?_
  refine jo_f [(0, 0), (0, 0), (0, 0), (1, 0), (0, 0)] (by kernel_rfl) ?_
  refine jo_end (by kernel_rfl) ?_
  refine jx_then ?_
  refine jc_cond (a0.fStep != b1.fStep) (by kernel_rfl) (fun hc_4 => ?_) (fun hc_4 => ?_)
  · replace h := ifT hc_4 h
    refine jc_seq ?_
    refine jc_region ?_
    refine jo_f [(0, 0)] (by kernel_rfl) ?_
    refine jo_end (by kernel_rfl) ?_
    refine jx_then ?_
    refine jc_ret ?_
    refine jx_thenr ?_
    obtain rfl := Option.some.inj h
    exact jx_ret [] (.bool false) [] rfl (by kernel_rfl) (by kernel_rfl) (fun w hm => ⟨rfl, hm.pick [] (by kernel_rfl) (by kernel_rfl)⟩)
  · replace h := ifF hc_4 h
    refine jc_skip ?_
    refine jx_then ?_
    refine jc_seq ?_
    refine jc_seq ?_
    refine jc_region ?_
    refine jo_f [(0, 0), (0, 0), (0, 0), (1, 0), (0, 0)] (by kernel_rfl) ?_
    refine jo_end (by kernel_rfl) ?_
    refine jx_then ?_
    refine jc_cond (a0.fTrack != b1.fTrack) (by kernel_rfl) (fun hc_6 => ?_) (fun hc_6 => ?_)
    · replace h := ifT hc_6 h
      refine jc_seq ?_
      refine jc_region ?_
      refine jo_f [(0, 0)] (by kernel_rfl) ?_
      refine jo_end (by kernel_rfl) ?_
      refine jx_then ?_
      refine jc_ret ?_
      refine jx_thenr ?_
      obtain rfl := Option.some.inj h
      exact jx_ret [] (.bool false) [] rfl (by kernel_rfl) (by kernel_rfl) (fun w hm => ⟨rfl, hm.pick [] (by kernel_rfl) (by kernel_rfl)⟩)
    · replace h := ifF hc_6 h
      refine jc_skip ?_
      refine jx_then ?_
      refine jc_seq ?_
      refine jc_seq ?_
      refine jc_region ?_
      refine jo_f [(0, 0), (0, 0), (0, 0), (1, 0), (0, 0)] (by kernel_rfl) ?_
      refine jo_end (by kernel_rfl) ?_
      refine jx_then ?_
      refine jc_cond (a0.fTurns != b1.fTurns) (by kernel_rfl) (fun hc_7 => ?_) (fun hc_7 => ?_)
      · replace h := ifT hc_7 h
        refine jc_seq ?_
        refine jc_region ?_
        refine jo_f [(0, 0)] (by kernel_rfl) ?_
        refine jo_end (by kernel_rfl) ?_
        refine jx_then ?_
        refine jc_ret ?_
        refine jx_thenr ?_
        obtain rfl := Option.some.inj h
        exact jx_ret [] (.bool false) [] rfl (by kernel_rfl) (by kernel_rfl) (fun w hm => ⟨rfl, hm.pick [] (by kernel_rfl) (by kernel_rfl)⟩)
      · replace h := ifF hc_7 h
        refine jc_skip ?_
        refine jx_then ?_
        refine jc_seq ?_
        refine jc_region ?_
        refine jo_f [(0, 0)] (by kernel_rfl) ?_
        refine jo_end (by kernel_rfl) ?_
        refine jx_then ?_
        refine jc_ret ?_
        obtain rfl := Option.some.inj h
        exact jx_ret [] (.bool true) [] rfl (by kernel_rfl) (by kernel_rfl) (fun w hm => ⟨rfl, hm.pick [] (by kernel_rfl) (by kernel_rfl)⟩)

/-! ### laws.eqWornPinS -/
noncomputable def laws_eqWornPinS.k_1 : Option (Bool) := some true
noncomputable def laws_eqWornPinS.l_3 (a0 : List GWornPin) (b1 : List GWornPin) : Int → Option ((Int) ⊕ (Bool ⊕ Unit))
  | i_2 => (if (decide (i_2 < (a0.length : Int))) = true then (ix a0 i_2).bind fun x_5 => (ix b1 i_2).bind fun x_6 => (laws_eqWornPin x_5 x_6).bind fun t_7 => (if (!t_7) = true then some (.inr (.inl false)) else some (.inl (w64 (i_2 + 1)))) else some (.inr (.inr ())))
noncomputable def laws_eqWornPinS (a0 : List GWornPin) (b1 : List GWornPin) : Option (Bool) := (if ((a0.length : Int) != (b1.length : Int)) = true then some false else (loop (laws_eqWornPinS.l_3 a0 b1) 0).bind fun t_4 => match t_4 with | .inl p => some p | .inr p => laws_eqWornPinS.k_1)
set_option maxRecDepth 100000 in
theorem laws_eqWornPinS.calls (a0 : List GWornPin) (b1 : List GWornPin) (w : World) (r : Bool) (a0_a : Option Addr) (a0_an : Nat) (a0_c : Nat) (a0_h : Rw w a0_a 3 encGWornPin a0) (a0_hn : a0.length = a0_an) (b1_a : Option Addr) (b1_an : Nat) (b1_c : Nat) (b1_h : Rw w b1_a 3 encGWornPin b1) (b1_hn : b1.length = b1_an) (h : laws_eqWornPinS a0 b1 = some r) :
    Calls Try.prog 45 #[(.slice a0_a a0_an a0_c), (.slice b1_a b1_an b1_c)] w fun e w' => ∃ v, e = .returned v ∧ (v = (.bool r) ∧ Mem w [] [] w') := by
  subst a0_hn b1_hn
  rw [laws_eqWornPinS] at h
  refine enter (args := [(.slice a0_a a0.length a0_c), (.slice b1_a b1.length b1_c)]) Try.func45 rfl Try.ntmps45 (by kernel_rfl) (L := []) (W := []) (Mem.start w) ?_
  refine jc_seq ?_
  refine jc_region ?_
  refine jo_f [(0, 0)] (by kernel_rfl) ?_
  refine jo_end (by kernel_rfl) ?_
  refine jx_then ?_
  refine jc_seq ?_
  refine jc_seq ?_
  refine jc_region ?_
  refine jo_f [(0, 0), (0, 0), (0, 0), (0, 0), (0, 0)] (by kernel_rfl) ?_
  refine jo_end (by kernel_rfl) ?_
  refine jx_then ?_
  refine jc_cond ((a0.length : Int) != (b1.length : Int)) (by kernel_rfl) (fun hc_2 => ?_) (fun hc_2 => ?_)
  · replace h := ifT hc_2 h
    refine jc_seq ?_
    refine jc_region ?_
    refine jo_f [(0, 0)] (by kernel_rfl) ?_
    refine jo_end (by kernel_rfl) ?_
    refine jx_then ?_
    refine jc_ret ?_
    refine jx_thenr ?_
    obtain rfl := Option.some.inj h
    exact jx_ret [] (.bool false) [] rfl (by kernel_rfl) (by kernel_rfl) (fun w hm => ⟨rfl, hm.pick [] (by kernel_rfl) (by kernel_rfl)⟩)
  · replace h := ifF hc_2 h
    refine jc_skip ?_
    refine jx_then ?_
    refine jc_seq ?_
    refine jc_seq ?_
    refine jc_region ?_
    refine jo_f [(0, 0)] (by kernel_rfl) ?_
    refine jo_end (by kernel_rfl) ?_
    refine jx_then ?_
    refine jc_meet (fun (_ : Unit) => laws_eqWornPinS.k_1 = some r) (fun (_ : Unit) => [(4, [], (.bool false))]) (fun (_ : Unit) => []) ?_ ?_
    · refine jc_block ?_
      obtain ⟨t_4, ht_48, hr_38⟩ := bd h
      refine jc_loop (fun (s : Int) (x : Unit) => match s, x with | i_2, _ => True) (fun (s : Int) (x : Unit) => match s, x with | i_2, _ => [(0, [], (.slice a0_a a0.length a0_c)), (1, [], (.slice b1_a b1.length b1_c)), (4, [], (.bool false)), (5, [], (.int .i64 i_2))]) (fun (s : Int) (x : Unit) => match s, x with | i_2, _ => []) ht_48 () trivial (by kernel_rfl) [] (by kernel_rfl) (by kernel_rfl) ?_
      rintro i_2 _ y_39 _ h
      rw [laws_eqWornPinS.l_3] at h
      refine jc_seq ?_
      refine jc_seq ?_
      refine jc_region ?_
      refine jo_f [(0, 0), (0, 0), (0, 0), (0, 0)] (by kernel_rfl) ?_
      refine jo_end (by kernel_rfl) ?_
      refine jx_then ?_
      refine jc_cond (decide (i_2 < (a0.length : Int))) (by kernel_rfl) (fun hc_41 => ?_) (fun hc_41 => ?_)
      · replace h := ifT hc_41 h
        refine jc_skip ?_
        refine jx_then ?_
        refine jc_seq ?_
        refine jc_block ?_
        refine jc_seq ?_
        refine jc_draw [] 10 (by kernel_rfl) (by kernel_rfl) ?_
        refine jd_f [⟨0, 0, 0⟩, ⟨1, 0, 0⟩, ⟨4, 0, 0⟩, ⟨5, 0, 0⟩] 6 (by kernel_rfl) (by kernel_rfl) (fun w h => h.pick [] (by kernel_rfl) (by kernel_rfl)) (by kernel_rfl) (by kernel_rfl) ?_
        obtain ⟨x_5, hx_42, h⟩ := bd h
        refine jd_v 2 0 (by kernel_rfl) (fun w h => h.pick [] (by kernel_rfl) (by kernel_rfl)) (by kernel_rfl) (by kernel_rfl) _ (fun w hm => idx_run (a := a0_a) (len := a0.length) (s := 3) (j := i_2) (by kernel_rfl) (ix_some hx_42).1 (ltn hx_42 rfl) (a0_h.sp hx_42)) ?_
        refine jd_v 3 0 (by kernel_rfl) (fun w h => h.pick [] (by kernel_rfl) (by kernel_rfl)) (by kernel_rfl) (by kernel_rfl) _ (fun w hm => ld_run (b := aB a0_a) (off := (aO a0_a + i_2.toNat * 3)) (s := 3) (agg := true) (vs := (encGWornPin x_5)) (by kernel_rfl) (by kernel_rfl) (.inl rfl) ((hm.exRow a0_h List.not_mem_nil).at hx_42)) ?_
        obtain ⟨x_6, hx_43, h⟩ := bd h
        refine jd_v 6 0 (by kernel_rfl) (fun w h => h.pick [] (by kernel_rfl) (by kernel_rfl)) (by kernel_rfl) (by kernel_rfl) _ (fun w hm => idx_run (a := b1_a) (len := b1.length) (s := 3) (j := i_2) (by kernel_rfl) (ix_some hx_43).1 (ltn hx_43 rfl) (b1_h.sp hx_43)) ?_
        refine jd_v 7 0 (by kernel_rfl) (fun w h => h.pick [] (by kernel_rfl) (by kernel_rfl)) (by kernel_rfl) (by kernel_rfl) _ (fun w hm => ld_run (b := aB b1_a) (off := (aO b1_a + i_2.toNat * 3)) (s := 3) (agg := true) (vs := (encGWornPin x_6)) (by kernel_rfl) (by kernel_rfl) (.inl rfl) ((hm.exRow b1_h List.not_mem_nil).at hx_43)) ?_
        obtain ⟨t_7, ht_44, h⟩ := bd h
        refine toD 8 (by kernel_rfl) (p_call 0 57 #[(.agg #[(.int .i8 x_5.fStep), (.int .i8 x_5.fTrack), (.int .i64 x_5.fTurns)]), (.agg #[(.int .i8 x_6.fStep), (.int .i8 x_6.fTrack), (.int .i64 x_6.fTurns)])] (by kernel_rfl) (by kernel_rfl) (fun w hm => laws_eqWornPin.calls x_5 x_6 w _ ht_44) ?_)
        rintro w v w' hm ⟨rfl, hm'⟩
        refine ⟨_, hm.app hm', jkD (fun w h => h.pick [] (by kernel_rfl) (by kernel_rfl)) ?_⟩
        clear hm hm'
        refine jd_f [⟨9, 0, 0⟩] 0 (by kernel_rfl) (by kernel_rfl) (fun w h => h.pick [] (by kernel_rfl) (by kernel_rfl)) (by kernel_rfl) (by kernel_rfl) ?_
        refine jd_end (by kernel_rfl) ?_
        refine jx_then ?_
        refine jc_cond (!t_7) (by kernel_rfl) (fun hc_45 => ?_) (fun hc_45 => ?_)
        · replace h := ifT hc_45 h
          refine jc_seq ?_
          refine jc_region ?_
          refine jo_f [(0, 0)] (by kernel_rfl) ?_
          refine jo_end (by kernel_rfl) ?_
          refine jx_then ?_
          refine jc_ret ?_
          refine jx_inr ?_
          refine jx_thenr ?_
          refine jx_leaver (.inl false) (Option.some.inj h).symm (fun e_46 => ?_)
          subst e_46
          refine jx_inr ?_
          refine jx_thenr ?_
          refine jx_thenr ?_
          obtain rfl := Option.some.inj hr_38
          exact jx_ret [] (.bool false) [] rfl (by kernel_rfl) (by kernel_rfl) (fun w hm => ⟨rfl, hm.pick [] (by kernel_rfl) (by kernel_rfl)⟩)
        · replace h := ifF hc_45 h
          refine jc_skip ?_
          refine jx_inn ?_
          refine jx_then ?_
          refine jc_region ?_
          refine jo_f [(0, 0), (0, 0), (0, 0)] (by kernel_rfl) ?_
          refine jo_end (by kernel_rfl) ?_
          exact jx_back (w64 (i_2 + 1)) () (Option.some.inj h).symm trivial [] (by kernel_rfl) (by kernel_rfl) (by kernel_rfl)
      · replace h := ifF hc_41 h
        refine jc_exit ?_
        refine jx_thenx ?_
        refine jx_leave (.inr ()) (Option.some.inj h).symm (fun e_47 => ?_)
        subst e_47
        refine jx_ine ?_
        exact jx_meet () hr_38 (by kernel_rfl) [] (by kernel_rfl) (by kernel_rfl)
    · rintro _ h
      replace h : laws_eqWornPinS.k_1 = some r := h
      rw [laws_eqWornPinS.k_1] at h
      refine jx_then ?_
      refine jc_seq ?_
      refine jc_region ?_
      refine jo_f [(0, 0)] (by kernel_rfl) ?_
      refine jo_end (by kernel_rfl) ?_
      refine jx_then ?_
      refine jc_ret ?_
      obtain rfl := Option.some.inj h
      exact jx_ret [] (.bool true) [] rfl (by kernel_rfl) (by kernel_rfl) (fun w hm => ⟨rfl, hm.pick [] (by kernel_rfl) (by kernel_rfl)⟩)

/-! ### laws.eqInt64S -/
noncomputable def laws_eqInt64S.k_1 : Option (Bool) := some true
noncomputable def laws_eqInt64S.l_3 (a0 : List Int) (b1 : List Int) : Int → Option ((Int) ⊕ (Bool ⊕ Unit))
  | i_2 => (if (decide (i_2 < (a0.length : Int))) = true then (ix a0 i_2).bind fun x_5 => (ix b1 i_2).bind fun x_6 => (if (x_5 != x_6) = true then some (.inr (.inl false)) else some (.inl (w64 (i_2 + 1)))) else some (.inr (.inr ())))
noncomputable def laws_eqInt64S (a0 : List Int) (b1 : List Int) : Option (Bool) := (if ((a0.length : Int) != (b1.length : Int)) = true then some false else (loop (laws_eqInt64S.l_3 a0 b1) 0).bind fun t_4 => match t_4 with | .inl p => some p | .inr p => laws_eqInt64S.k_1)
set_option maxRecDepth 100000 in
theorem laws_eqInt64S.calls (a0 : List Int) (b1 : List Int) (w : World) (r : Bool) (a0_a : Option Addr) (a0_an : Nat) (a0_c : Nat) (a0_h : Rw w a0_a 1 encI64 a0) (a0_hn : a0.length = a0_an) (b1_a : Option Addr) (b1_an : Nat) (b1_c : Nat) (b1_h : Rw w b1_a 1 encI64 b1) (b1_hn : b1.length = b1_an) (h : laws_eqInt64S a0 b1 = some r) :
    Calls Try.prog 46 #[(.slice a0_a a0_an a0_c), (.slice b1_a b1_an b1_c)] w fun e w' => ∃ v, e = .returned v ∧ (v = (.bool r) ∧ Mem w [] [] w') := by
  subst a0_hn b1_hn
  rw [laws_eqInt64S] at h
  refine enter (args := [(.slice a0_a a0.length a0_c), (.slice b1_a b1.length b1_c)]) Try.func46 rfl Try.ntmps46 (by kernel_rfl) (L := []) (W := []) (Mem.start w) ?_
  refine jc_seq ?_
  refine jc_region ?_
  refine jo_f [(0, 0)] (by kernel_rfl) ?_
  refine jo_end (by kernel_rfl) ?_
  refine jx_then ?_
  refine jc_seq ?_
  refine jc_seq ?_
  refine jc_region ?_
  refine jo_f [(0, 0), (0, 0), (0, 0), (0, 0), (0, 0)] (by kernel_rfl) ?_
  refine jo_end (by kernel_rfl) ?_
  refine jx_then ?_
  refine jc_cond ((a0.length : Int) != (b1.length : Int)) (by kernel_rfl) (fun hc_2 => ?_) (fun hc_2 => ?_)
  · replace h := ifT hc_2 h
    refine jc_seq ?_
    refine jc_region ?_
    refine jo_f [(0, 0)] (by kernel_rfl) ?_
    refine jo_end (by kernel_rfl) ?_
    refine jx_then ?_
    refine jc_ret ?_
    refine jx_thenr ?_
    obtain rfl := Option.some.inj h
    exact jx_ret [] (.bool false) [] rfl (by kernel_rfl) (by kernel_rfl) (fun w hm => ⟨rfl, hm.pick [] (by kernel_rfl) (by kernel_rfl)⟩)
  · replace h := ifF hc_2 h
    refine jc_skip ?_
    refine jx_then ?_
    refine jc_seq ?_
    refine jc_seq ?_
    refine jc_region ?_
    refine jo_f [(0, 0)] (by kernel_rfl) ?_
    refine jo_end (by kernel_rfl) ?_
    refine jx_then ?_
    refine jc_meet (fun (_ : Unit) => laws_eqInt64S.k_1 = some r) (fun (_ : Unit) => [(4, [], (.bool false))]) (fun (_ : Unit) => []) ?_ ?_
    · refine jc_block ?_
      obtain ⟨t_4, ht_42, hr_33⟩ := bd h
      refine jc_loop (fun (s : Int) (x : Unit) => match s, x with | i_2, _ => True) (fun (s : Int) (x : Unit) => match s, x with | i_2, _ => [(0, [], (.slice a0_a a0.length a0_c)), (1, [], (.slice b1_a b1.length b1_c)), (4, [], (.bool false)), (5, [], (.int .i64 i_2))]) (fun (s : Int) (x : Unit) => match s, x with | i_2, _ => []) ht_42 () trivial (by kernel_rfl) [] (by kernel_rfl) (by kernel_rfl) ?_
      rintro i_2 _ y_34 _ h
      rw [laws_eqInt64S.l_3] at h
      refine jc_seq ?_
      refine jc_seq ?_
      refine jc_region ?_
      refine jo_f [(0, 0), (0, 0), (0, 0), (0, 0)] (by kernel_rfl) ?_
      refine jo_end (by kernel_rfl) ?_
      refine jx_then ?_
      refine jc_cond (decide (i_2 < (a0.length : Int))) (by kernel_rfl) (fun hc_36 => ?_) (fun hc_36 => ?_)
      · replace h := ifT hc_36 h
        refine jc_skip ?_
        refine jx_then ?_
        refine jc_seq ?_
        refine jc_block ?_
        refine jc_seq ?_
        refine jc_draw [] 9 (by kernel_rfl) (by kernel_rfl) ?_
        refine jd_f [⟨0, 0, 0⟩, ⟨1, 0, 0⟩, ⟨4, 0, 0⟩, ⟨5, 0, 0⟩] 5 (by kernel_rfl) (by kernel_rfl) (fun w h => h.pick [] (by kernel_rfl) (by kernel_rfl)) (by kernel_rfl) (by kernel_rfl) ?_
        obtain ⟨x_5, hx_37, h⟩ := bd h
        refine jd_v 2 0 (by kernel_rfl) (fun w h => h.pick [] (by kernel_rfl) (by kernel_rfl)) (by kernel_rfl) (by kernel_rfl) _ (fun w hm => idx_run (a := a0_a) (len := a0.length) (s := 1) (j := i_2) (by kernel_rfl) (ix_some hx_37).1 (ltn hx_37 rfl) (a0_h.sp hx_37)) ?_
        refine jd_v 3 0 (by kernel_rfl) (fun w h => h.pick [] (by kernel_rfl) (by kernel_rfl)) (by kernel_rfl) (by kernel_rfl) _ (fun w hm => ld_run (b := aB a0_a) (off := (aO a0_a + i_2.toNat * 1)) (s := 1) (agg := false) (vs := (encI64 x_5)) (by kernel_rfl) (by kernel_rfl) (.inr rfl) ((hm.exRow a0_h List.not_mem_nil).at hx_37)) ?_
        obtain ⟨x_6, hx_38, h⟩ := bd h
        refine jd_v 6 0 (by kernel_rfl) (fun w h => h.pick [] (by kernel_rfl) (by kernel_rfl)) (by kernel_rfl) (by kernel_rfl) _ (fun w hm => idx_run (a := b1_a) (len := b1.length) (s := 1) (j := i_2) (by kernel_rfl) (ix_some hx_38).1 (ltn hx_38 rfl) (b1_h.sp hx_38)) ?_
        refine jd_v 7 0 (by kernel_rfl) (fun w h => h.pick [] (by kernel_rfl) (by kernel_rfl)) (by kernel_rfl) (by kernel_rfl) _ (fun w hm => ld_run (b := aB b1_a) (off := (aO b1_a + i_2.toNat * 1)) (s := 1) (agg := false) (vs := (encI64 x_6)) (by kernel_rfl) (by kernel_rfl) (.inr rfl) ((hm.exRow b1_h List.not_mem_nil).at hx_38)) ?_
        refine jd_f [⟨8, 0, 0⟩] 0 (by kernel_rfl) (by kernel_rfl) (fun w h => h.pick [] (by kernel_rfl) (by kernel_rfl)) (by kernel_rfl) (by kernel_rfl) ?_
        refine jd_end (by kernel_rfl) ?_
        refine jx_then ?_
        refine jc_cond (x_5 != x_6) (by kernel_rfl) (fun hc_39 => ?_) (fun hc_39 => ?_)
        · replace h := ifT hc_39 h
          refine jc_seq ?_
          refine jc_region ?_
          refine jo_f [(0, 0)] (by kernel_rfl) ?_
          refine jo_end (by kernel_rfl) ?_
          refine jx_then ?_
          refine jc_ret ?_
          refine jx_inr ?_
          refine jx_thenr ?_
          refine jx_leaver (.inl false) (Option.some.inj h).symm (fun e_40 => ?_)
          subst e_40
          refine jx_inr ?_
          refine jx_thenr ?_
          refine jx_thenr ?_
          obtain rfl := Option.some.inj hr_33
          exact jx_ret [] (.bool false) [] rfl (by kernel_rfl) (by kernel_rfl) (fun w hm => ⟨rfl, hm.pick [] (by kernel_rfl) (by kernel_rfl)⟩)
        · replace h := ifF hc_39 h
          refine jc_skip ?_
          refine jx_inn ?_
          refine jx_then ?_
          refine jc_region ?_
          refine jo_f [(0, 0), (0, 0), (0, 0)] (by kernel_rfl) ?_
          refine jo_end (by kernel_rfl) ?_
          exact jx_back (w64 (i_2 + 1)) () (Option.some.inj h).symm trivial [] (by kernel_rfl) (by kernel_rfl) (by kernel_rfl)
      · replace h := ifF hc_36 h
        refine jc_exit ?_
        refine jx_thenx ?_
        refine jx_leave (.inr ()) (Option.some.inj h).symm (fun e_41 => ?_)
        subst e_41
        refine jx_ine ?_
        exact jx_meet () hr_33 (by kernel_rfl) [] (by kernel_rfl) (by kernel_rfl)
    · rintro _ h
      replace h : laws_eqInt64S.k_1 = some r := h
      rw [laws_eqInt64S.k_1] at h
      refine jx_then ?_
      refine jc_seq ?_
      refine jc_region ?_
      refine jo_f [(0, 0)] (by kernel_rfl) ?_
      refine jo_end (by kernel_rfl) ?_
      refine jx_then ?_
      refine jc_ret ?_
      obtain rfl := Option.some.inj h
      exact jx_ret [] (.bool true) [] rfl (by kernel_rfl) (by kernel_rfl) (fun w hm => ⟨rfl, hm.pick [] (by kernel_rfl) (by kernel_rfl)⟩)

/-! ### laws.eqWear -/
noncomputable def laws_eqWear (a0 : GWear) (b1 : GWear) : Option (Bool) := (laws_eqWornPinS a0.fPins b1.fPins).bind fun t_1 => (if (!t_1) = true then some false else (laws_eqInt64S a0.fStrokes b1.fStrokes).bind fun t_2 => (if (!t_2) = true then some false else some true))
set_option maxRecDepth 100000 in
theorem laws_eqWear.calls (a0 : GWear) (b1 : GWear) (w : World) (r : Bool) (a0_fPins_a : Option Addr) (a0_fPins_an : Nat) (a0_fPins_c : Nat) (a0_fPins_h : Rw w a0_fPins_a 3 encGWornPin a0.fPins) (a0_fPins_hn : a0.fPins.length = a0_fPins_an) (a0_fStrokes_a : Option Addr) (a0_fStrokes_an : Nat) (a0_fStrokes_c : Nat) (a0_fStrokes_h : Rw w a0_fStrokes_a 1 encI64 a0.fStrokes) (a0_fStrokes_hn : a0.fStrokes.length = a0_fStrokes_an) (b1_fPins_a : Option Addr) (b1_fPins_an : Nat) (b1_fPins_c : Nat) (b1_fPins_h : Rw w b1_fPins_a 3 encGWornPin b1.fPins) (b1_fPins_hn : b1.fPins.length = b1_fPins_an) (b1_fStrokes_a : Option Addr) (b1_fStrokes_an : Nat) (b1_fStrokes_c : Nat) (b1_fStrokes_h : Rw w b1_fStrokes_a 1 encI64 b1.fStrokes) (b1_fStrokes_hn : b1.fStrokes.length = b1_fStrokes_an) (h : laws_eqWear a0 b1 = some r) :
    Calls Try.prog 26 #[(.agg #[(.slice a0_fPins_a a0_fPins_an a0_fPins_c), (.slice a0_fStrokes_a a0_fStrokes_an a0_fStrokes_c)]), (.agg #[(.slice b1_fPins_a b1_fPins_an b1_fPins_c), (.slice b1_fStrokes_a b1_fStrokes_an b1_fStrokes_c)])] w fun e w' => ∃ v, e = .returned v ∧ (v = (.bool r) ∧ Mem w [] [] w') := by
  subst a0_fPins_hn a0_fStrokes_hn b1_fPins_hn b1_fStrokes_hn
  rw [laws_eqWear] at h
  refine enter (args := [(.agg #[(.slice a0_fPins_a a0.fPins.length a0_fPins_c), (.slice a0_fStrokes_a a0.fStrokes.length a0_fStrokes_c)]), (.agg #[(.slice b1_fPins_a b1.fPins.length b1_fPins_c), (.slice b1_fStrokes_a b1.fStrokes.length b1_fStrokes_c)])]) Try.func26 rfl Try.ntmps26 (by kernel_rfl) (L := []) (W := []) (Mem.start w) ?_
  refine jc_seq ?_
  refine jc_region ?_
  refine toO (by kernel_rfl) (p_a 0 [0] (by kernel_rfl) (fun b => by kernel_rfl) (fun b_1 => jkO ?_))
  refine toO (by kernel_rfl) (p_a 0 [0] (by kernel_rfl) (fun b => by kernel_rfl) (fun b_2 => jkO ?_))
  refine jo_f [(0, 0)] (by kernel_rfl) ?_
  refine jo_end (by kernel_rfl) ?_
  refine jx_then ?_
  refine jc_seq ?_
  refine jc_seq ?_
  refine jc_region ?_
  refine jo_f [(0, 0), (0, 0), (0, 0), (1, 0)] (by kernel_rfl) ?_
  obtain ⟨t_1, ht_5, h⟩ := bd h
  refine toO (by kernel_rfl) (p_call 0 45 #[(.slice a0_fPins_a a0.fPins.length a0_fPins_c), (.slice b1_fPins_a b1.fPins.length b1_fPins_c)] (by kernel_rfl) (by kernel_rfl) (fun w hm => laws_eqWornPinS.calls a0.fPins b1.fPins w _ a0_fPins_a a0.fPins.length a0_fPins_c (hm.exRow a0_fPins_h List.not_mem_nil) rfl b1_fPins_a b1.fPins.length b1_fPins_c (hm.exRow b1_fPins_h List.not_mem_nil) rfl ht_5) ?_)
  rintro w v w' hm ⟨rfl, hm'⟩
  refine ⟨_, hm.app hm', jkO ?_⟩
  clear hm hm'
  refine jo_f [(0, 0)] (by kernel_rfl) ?_
  refine jo_end (by kernel_rfl) ?_
  refine jx_then ?_
  refine jc_cond (!t_1) (by kernel_rfl) (fun hc_6 => ?_) (fun hc_6 => ?_)
  · replace h := ifT hc_6 h
    refine jc_seq ?_
    refine jc_region ?_
    refine jo_f [(0, 0)] (by kernel_rfl) ?_
    refine jo_end (by kernel_rfl) ?_
    refine jx_then ?_
    refine jc_ret ?_
    refine jx_thenr ?_
    obtain rfl := Option.some.inj h
    exact jx_ret [] (.bool false) [] rfl (by kernel_rfl) (by kernel_rfl) (fun w hm => ⟨rfl, hm.pick [] (by kernel_rfl) (by kernel_rfl)⟩)
  · replace h := ifF hc_6 h
    refine jc_skip ?_
    refine jx_then ?_
    refine jc_seq ?_
    refine jc_seq ?_
    refine jc_region ?_
    refine jo_f [(0, 0), (0, 0), (0, 0), (1, 0)] (by kernel_rfl) ?_
    obtain ⟨t_2, ht_7, h⟩ := bd h
    refine toO (by kernel_rfl) (p_call 0 46 #[(.slice a0_fStrokes_a a0.fStrokes.length a0_fStrokes_c), (.slice b1_fStrokes_a b1.fStrokes.length b1_fStrokes_c)] (by kernel_rfl) (by kernel_rfl) (fun w hm => laws_eqInt64S.calls a0.fStrokes b1.fStrokes w _ a0_fStrokes_a a0.fStrokes.length a0_fStrokes_c (hm.exRow a0_fStrokes_h List.not_mem_nil) rfl b1_fStrokes_a b1.fStrokes.length b1_fStrokes_c (hm.exRow b1_fStrokes_h List.not_mem_nil) rfl ht_7) ?_)
    rintro w v w' hm ⟨rfl, hm'⟩
    refine ⟨_, hm.app hm', jkO ?_⟩
    clear hm hm'
    refine jo_f [(0, 0)] (by kernel_rfl) ?_
    refine jo_end (by kernel_rfl) ?_
    refine jx_then ?_
    refine jc_cond (!t_2) (by kernel_rfl) (fun hc_8 => ?_) (fun hc_8 => ?_)
    · replace h := ifT hc_8 h
      refine jc_seq ?_
      refine jc_region ?_
      refine jo_f [(0, 0)] (by kernel_rfl) ?_
      refine jo_end (by kernel_rfl) ?_
      refine jx_then ?_
      refine jc_ret ?_
      refine jx_thenr ?_
      obtain rfl := Option.some.inj h
      exact jx_ret [] (.bool false) [] rfl (by kernel_rfl) (by kernel_rfl) (fun w hm => ⟨rfl, hm.pick [] (by kernel_rfl) (by kernel_rfl)⟩)
    · replace h := ifF hc_8 h
      refine jc_skip ?_
      refine jx_then ?_
      refine jc_seq ?_
      refine jc_region ?_
      refine jo_f [(0, 0)] (by kernel_rfl) ?_
      refine jo_end (by kernel_rfl) ?_
      refine jx_then ?_
      refine jc_ret ?_
      obtain rfl := Option.some.inj h
      exact jx_ret [] (.bool true) [] rfl (by kernel_rfl) (by kernel_rfl) (fun w hm => ⟨rfl, hm.pick [] (by kernel_rfl) (by kernel_rfl)⟩)

/-! ### laws.FnExactSameWear -/
noncomputable def laws_FnExactSameWear (aA0 : GWear) (aB1 : GWear) : Option (Bool) := (laws_szWear aA0 1048576).bind fun t_1 => (if (decide (t_1 < 0)) = true then some true else (laws_szWear aB1 t_1).bind fun t_2 => (if (decide (t_2 < 0)) = true then some true else (laws_toWear aA0).bind fun t_3 => (laws_toWear aB1).bind fun t_4 => (spec_SameWear t_3 t_4).bind fun t_5 => (laws_toWear aA0).bind fun t_6 => (laws_toWear aB1).bind fun t_7 => (impl_SameWear t_6 t_7).bind fun t_8 => (if (t_8 != t_5) = true then some false else (laws_toWear aA0).bind fun t_9 => (laws_eqWear t_6 t_9).bind fun t_10 => (if (!t_10) = true then some false else (laws_toWear aB1).bind fun t_11 => (laws_eqWear t_7 t_11).bind fun t_12 => (if (!t_12) = true then some false else some true)))))
set_option maxRecDepth 100000 in
theorem laws_FnExactSameWear.calls (aA0 : GWear) (aB1 : GWear) (w : World) (r : Bool) (aA0_fPins_a : Option Addr) (aA0_fPins_an : Nat) (aA0_fPins_c : Nat) (aA0_fPins_h : Rw w aA0_fPins_a 3 encGWornPin aA0.fPins) (aA0_fPins_hn : aA0.fPins.length = aA0_fPins_an) (aA0_fStrokes_a : Option Addr) (aA0_fStrokes_an : Nat) (aA0_fStrokes_c : Nat) (aA0_fStrokes_h : Rw w aA0_fStrokes_a 1 encI64 aA0.fStrokes) (aA0_fStrokes_hn : aA0.fStrokes.length = aA0_fStrokes_an) (aB1_fPins_a : Option Addr) (aB1_fPins_an : Nat) (aB1_fPins_c : Nat) (aB1_fPins_h : Rw w aB1_fPins_a 3 encGWornPin aB1.fPins) (aB1_fPins_hn : aB1.fPins.length = aB1_fPins_an) (aB1_fStrokes_a : Option Addr) (aB1_fStrokes_an : Nat) (aB1_fStrokes_c : Nat) (aB1_fStrokes_h : Rw w aB1_fStrokes_a 1 encI64 aB1.fStrokes) (aB1_fStrokes_hn : aB1.fStrokes.length = aB1_fStrokes_an) (h : laws_FnExactSameWear aA0 aB1 = some r) :
    Calls Try.prog 7 #[(.agg #[(.slice aA0_fPins_a aA0_fPins_an aA0_fPins_c), (.slice aA0_fStrokes_a aA0_fStrokes_an aA0_fStrokes_c)]), (.agg #[(.slice aB1_fPins_a aB1_fPins_an aB1_fPins_c), (.slice aB1_fStrokes_a aB1_fStrokes_an aB1_fStrokes_c)])] w fun e w' => ∃ v, e = .returned v ∧ (v = (.bool r) ∧ Mem w [] [] w') := by
  subst aA0_fPins_hn aA0_fStrokes_hn aB1_fPins_hn aB1_fStrokes_hn
  rw [laws_FnExactSameWear] at h
  refine enter (args := [(.agg #[(.slice aA0_fPins_a aA0.fPins.length aA0_fPins_c), (.slice aA0_fStrokes_a aA0.fStrokes.length aA0_fStrokes_c)]), (.agg #[(.slice aB1_fPins_a aB1.fPins.length aB1_fPins_c), (.slice aB1_fStrokes_a aB1.fStrokes.length aB1_fStrokes_c)])]) Try.func7 rfl Try.ntmps7 (by kernel_rfl) (L := []) (W := []) (Mem.start w) ?_
  refine jc_seq ?_
  refine jc_region ?_
  refine toO (by kernel_rfl) (p_a 0 [0] (by kernel_rfl) (fun b => by kernel_rfl) (fun b_1 => jkO ?_))
  refine toO (by kernel_rfl) (p_a 0 [0] (by kernel_rfl) (fun b => by kernel_rfl) (fun b_2 => jkO ?_))
  refine jo_f [(0, 0)] (by kernel_rfl) ?_
  refine jo_end (by kernel_rfl) ?_
  refine jx_then ?_
  refine jc_seq ?_
  refine jc_region ?_
  refine jo_f [(0, 0)] (by kernel_rfl) ?_
  refine jo_end (by kernel_rfl) ?_
  refine jx_then ?_
  refine jc_seq ?_
  refine jc_region ?_
  refine jo_f [(0, 0), (0, 0)] (by kernel_rfl) ?_
  obtain ⟨t_1, ht_3, h⟩ := bd h
  refine toO (by kernel_rfl) (p_call 0 22 #[(.agg #[(.slice aA0_fPins_a aA0.fPins.length aA0_fPins_c), (.slice aA0_fStrokes_a aA0.fStrokes.length aA0_fStrokes_c)]), (.int .i64 1048576)] (by kernel_rfl) (by kernel_rfl) (fun w hm => laws_szWear.calls aA0 1048576 w _ aA0_fPins_a aA0.fPins.length aA0_fPins_c (hm.exRow aA0_fPins_h List.not_mem_nil) rfl aA0_fStrokes_a aA0.fStrokes.length aA0_fStrokes_c (hm.exRow aA0_fStrokes_h List.not_mem_nil) rfl ht_3) ?_)
  rintro w v w' hm ⟨rfl, hm'⟩
  refine ⟨_, hm.app hm', jkO ?_⟩
  clear hm hm'
  refine jo_f [(0, 0)] (by kernel_rfl) ?_
  refine jo_end (by kernel_rfl) ?_
  refine jx_then ?_
  refine jc_seq ?_
  refine jc_seq ?_
  refine jc_region ?_
  refine jo_f [(0, 0), (0, 0)] (by kernel_rfl) ?_
  refine jo_end (by kernel_rfl) ?_
  refine jx_then ?_
  refine jc_cond (decide (t_1 < 0)) (by kernel_rfl) (fun hc_5 => ?_) (fun hc_5 => ?_)
  · replace h := ifT hc_5 h
    refine jc_seq ?_
    refine jc_region ?_
    refine jo_f [(0, 0)] (by kernel_rfl) ?_
    refine jo_end (by kernel_rfl) ?_
    refine jx_then ?_
    refine jc_ret ?_
    refine jx_thenr ?_
    obtain rfl := Option.some.inj h
    exact jx_ret [] (.bool true) [] rfl (by kernel_rfl) (by kernel_rfl) (fun w hm => ⟨rfl, hm.pick [] (by kernel_rfl) (by kernel_rfl)⟩)
  · replace h := ifF hc_5 h
    refine jc_skip ?_
    refine jx_then ?_
    refine jc_seq ?_
    refine jc_region ?_
    refine jo_f [(1, 0), (0, 0)] (by kernel_rfl) ?_
    obtain ⟨t_2, ht_6, h⟩ := bd h
    refine toO (by kernel_rfl) (p_call 0 22 #[(.agg #[(.slice aB1_fPins_a aB1.fPins.length aB1_fPins_c), (.slice aB1_fStrokes_a aB1.fStrokes.length aB1_fStrokes_c)]), (.int .i64 t_1)] (by kernel_rfl) (by kernel_rfl) (fun w hm => laws_szWear.calls aB1 t_1 w _ aB1_fPins_a aB1.fPins.length aB1_fPins_c (hm.exRow aB1_fPins_h List.not_mem_nil) rfl aB1_fStrokes_a aB1.fStrokes.length aB1_fStrokes_c (hm.exRow aB1_fStrokes_h List.not_mem_nil) rfl ht_6) ?_)
    rintro w v w' hm ⟨rfl, hm'⟩
    refine ⟨_, hm.app hm', jkO ?_⟩
    clear hm hm'
    refine jo_f [(0, 0)] (by kernel_rfl) ?_
    refine jo_end (by kernel_rfl) ?_
    refine jx_then ?_
    refine jc_seq ?_
    refine jc_seq ?_
    refine jc_region ?_
    refine jo_f [(0, 0), (0, 0)] (by kernel_rfl) ?_
    refine jo_end (by kernel_rfl) ?_
    refine jx_then ?_
    refine jc_cond (decide (t_2 < 0)) (by kernel_rfl) (fun hc_8 => ?_) (fun hc_8 => ?_)
    · replace h := ifT hc_8 h
      refine jc_seq ?_
      refine jc_region ?_
      refine jo_f [(0, 0)] (by kernel_rfl) ?_
      refine jo_end (by kernel_rfl) ?_
      refine jx_then ?_
      refine jc_ret ?_
      refine jx_thenr ?_
      obtain rfl := Option.some.inj h
      exact jx_ret [] (.bool true) [] rfl (by kernel_rfl) (by kernel_rfl) (fun w hm => ⟨rfl, hm.pick [] (by kernel_rfl) (by kernel_rfl)⟩)
    · replace h := ifF hc_8 h
      refine jc_skip ?_
      refine jx_then ?_
      refine jc_seq ?_
      refine jc_draw [⟨some b_1, 53, [(.slice aA0_fPins_a aA0.fPins.length aA0_fPins_c), (.slice aA0_fStrokes_a aA0.fStrokes.length aA0_fStrokes_c)]⟩, ⟨some b_2, 53, [(.slice aB1_fPins_a aB1.fPins.length aB1_fPins_c), (.slice aB1_fStrokes_a aB1.fStrokes.length aB1_fStrokes_c)]⟩] 6 (by kernel_rfl) (by kernel_rfl) ?_
      refine jd_f [⟨0, 0, 0⟩, ⟨2, 1, 0⟩] 4 (by kernel_rfl) (by kernel_rfl) (fun w h => h.pick [0, 1] (by kernel_rfl) (by kernel_rfl)) (by kernel_rfl) (by kernel_rfl) ?_
      obtain ⟨t_3, ht_9, h⟩ := bd h
      refine toD 1 (by kernel_rfl) (p_call 0 24 #[(.agg #[(.slice aA0_fPins_a aA0.fPins.length aA0_fPins_c), (.slice aA0_fStrokes_a aA0.fStrokes.length aA0_fStrokes_c)])] (by kernel_rfl) (by kernel_rfl) (fun w hm => laws_toWear.calls aA0 w _ aA0_fPins_a aA0.fPins.length aA0_fPins_c (hm.exRow aA0_fPins_h List.not_mem_nil) rfl aA0_fStrokes_a aA0.fStrokes.length aA0_fStrokes_c (hm.exRow aA0_fStrokes_h List.not_mem_nil) rfl ht_9) ?_)
      rintro w v w' hm ⟨o_10, cap_11, sp_12, _, rfl, hs_13, ho_14, o_15, cap_16, sp_17, _, rfl, hs_18, ho_19, rfl, hm'⟩
      refine ⟨_, hm.app hm', jkD (fun w h => h.pick [0, 1] (by kernel_rfl) (by kernel_rfl)) ?_⟩
      clear hm hm'
      obtain ⟨t_4, ht_20, h⟩ := bd h
      refine toD 3 (by kernel_rfl) (p_call 0 24 #[(.agg #[(.slice aB1_fPins_a aB1.fPins.length aB1_fPins_c), (.slice aB1_fStrokes_a aB1.fStrokes.length aB1_fStrokes_c)])] (by kernel_rfl) (by kernel_rfl) (fun w hm => laws_toWear.calls aB1 w _ aB1_fPins_a aB1.fPins.length aB1_fPins_c (hm.exRow aB1_fPins_h List.not_mem_nil) rfl aB1_fStrokes_a aB1.fStrokes.length aB1_fStrokes_c (hm.exRow aB1_fStrokes_h List.not_mem_nil) rfl ht_20) ?_)
      rintro w v w' hm ⟨o_21, cap_22, sp_23, _, rfl, hs_24, ho_25, o_26, cap_27, sp_28, _, rfl, hs_29, ho_30, rfl, hm'⟩
      refine ⟨_, hm.app hm', jkD (fun w h => h.pick [0, 1] (by kernel_rfl) (by kernel_rfl)) ?_⟩
      clear hm hm'
      obtain ⟨t_5, ht_31, h⟩ := bd h
      refine toD 4 (by kernel_rfl) (p_call 0 23 #[(.agg #[(.slice (o_10.map fun b => ⟨b, 0, none⟩) t_3.fPins.length cap_11), (.slice (o_15.map fun b => ⟨b, 0, none⟩) t_3.fStrokes.length cap_16)]), (.agg #[(.slice (o_21.map fun b => ⟨b, 0, none⟩) t_4.fPins.length cap_22), (.slice (o_26.map fun b => ⟨b, 0, none⟩) t_4.fStrokes.length cap_27)])] (by kernel_rfl) (by kernel_rfl) (fun w hm => spec_SameWear.calls t_3 t_4 w _ (o_10.map fun b => ⟨b, 0, none⟩) t_3.fPins.length cap_11 (hm.ownRow (hh := 2) (o := o_10) (T := 74) (enc := encGWornPin) (xs := t_3.fPins) (sp := sp_12) (by kernel_rfl) (fun e => (ho_14 e).1) encGWornPin_len) rfl (o_15.map fun b => ⟨b, 0, none⟩) t_3.fStrokes.length cap_16 (hm.ownRow (hh := 3) (o := o_15) (T := 2) (enc := encI64) (xs := t_3.fStrokes) (sp := sp_17) (by kernel_rfl) (fun e => (ho_19 e).1) encI64_len) rfl (o_21.map fun b => ⟨b, 0, none⟩) t_4.fPins.length cap_22 (hm.ownRow (hh := 4) (o := o_21) (T := 74) (enc := encGWornPin) (xs := t_4.fPins) (sp := sp_23) (by kernel_rfl) (fun e => (ho_25 e).1) encGWornPin_len) rfl (o_26.map fun b => ⟨b, 0, none⟩) t_4.fStrokes.length cap_27 (hm.ownRow (hh := 5) (o := o_26) (T := 2) (enc := encI64) (xs := t_4.fStrokes) (sp := sp_28) (by kernel_rfl) (fun e => (ho_30 e).1) encI64_len) rfl ht_31) ?_)
      rintro w v w' hm ⟨rfl, hm'⟩
      refine ⟨_, hm.app hm', jkD (fun w h => h.pick [0, 1] (by kernel_rfl) (by kernel_rfl)) ?_⟩
      clear hm hm'
      refine jd_f [⟨5, 0, 0⟩] 0 (by kernel_rfl) (by kernel_rfl) (fun w h => h.pick [0, 1] (by kernel_rfl) (by kernel_rfl)) (by kernel_rfl) (by kernel_rfl) ?_
      refine jd_end (by kernel_rfl) ?_
      refine jx_then ?_
      refine jc_seq ?_
      refine jc_region ?_
      refine jo_f [(0, 0)] (by kernel_rfl) ?_
      obtain ⟨t_6, ht_32, h⟩ := bd h
      refine toO (by kernel_rfl) (p_call 0 24 #[(.agg #[(.slice aA0_fPins_a aA0.fPins.length aA0_fPins_c), (.slice aA0_fStrokes_a aA0.fStrokes.length aA0_fStrokes_c)])] (by kernel_rfl) (by kernel_rfl) (fun w hm => laws_toWear.calls aA0 w _ aA0_fPins_a aA0.fPins.length aA0_fPins_c (hm.exRow aA0_fPins_h List.not_mem_nil) rfl aA0_fStrokes_a aA0.fStrokes.length aA0_fStrokes_c (hm.exRow aA0_fStrokes_h List.not_mem_nil) rfl ht_32) ?_)
      rintro w v w' hm ⟨o_33, cap_34, sp_35, _, rfl, hs_36, ho_37, o_38, cap_39, sp_40, _, rfl, hs_41, ho_42, rfl, hm'⟩
      refine ⟨_, hm.app hm', jkO ?_⟩
      clear hm hm'
      refine toO (by kernel_rfl) (p_a 0 [0] (by kernel_rfl) (fun b => by kernel_rfl) (fun b_43 => jkO ?_))
      refine toO (by kernel_rfl) (p_s 0 [8] (by kernel_rfl) (by kernel_rfl) (jkO ?_))
      refine jo_end (by kernel_rfl) ?_
      refine jx_then ?_
      refine jc_seq ?_
      refine jc_region ?_
      refine jo_f [(1, 0)] (by kernel_rfl) ?_
      obtain ⟨t_7, ht_44, h⟩ := bd h
      refine toO (by kernel_rfl) (p_call 0 24 #[(.agg #[(.slice aB1_fPins_a aB1.fPins.length aB1_fPins_c), (.slice aB1_fStrokes_a aB1.fStrokes.length aB1_fStrokes_c)])] (by kernel_rfl) (by kernel_rfl) (fun w hm => laws_toWear.calls aB1 w _ aB1_fPins_a aB1.fPins.length aB1_fPins_c (hm.exRow aB1_fPins_h List.not_mem_nil) rfl aB1_fStrokes_a aB1.fStrokes.length aB1_fStrokes_c (hm.exRow aB1_fStrokes_h List.not_mem_nil) rfl ht_44) ?_)
      rintro w v w' hm ⟨o_45, cap_46, sp_47, _, rfl, hs_48, ho_49, o_50, cap_51, sp_52, _, rfl, hs_53, ho_54, rfl, hm'⟩
      refine ⟨_, hm.app hm', jkO ?_⟩
      clear hm hm'
      refine toO (by kernel_rfl) (p_a 0 [0] (by kernel_rfl) (fun b => by kernel_rfl) (fun b_55 => jkO ?_))
      refine toO (by kernel_rfl) (p_s 0 [11] (by kernel_rfl) (by kernel_rfl) (jkO ?_))
      refine jo_end (by kernel_rfl) ?_
      refine jx_then ?_
      refine jc_seq ?_
      refine jc_region ?_
      refine jo_f [(8, 0), (11, 0)] (by kernel_rfl) ?_
      obtain ⟨t_8, ht_56, h⟩ := bd h
      refine toO (by kernel_rfl) (p_call 0 25 #[(.agg #[(.slice (o_33.map fun b => ⟨b, 0, none⟩) t_6.fPins.length cap_34), (.slice (o_38.map fun b => ⟨b, 0, none⟩) t_6.fStrokes.length cap_39)]), (.agg #[(.slice (o_45.map fun b => ⟨b, 0, none⟩) t_7.fPins.length cap_46), (.slice (o_50.map fun b => ⟨b, 0, none⟩) t_7.fStrokes.length cap_51)])] (by kernel_rfl) (by kernel_rfl) (fun w hm => impl_SameWear.calls t_6 t_7 w _ (o_33.map fun b => ⟨b, 0, none⟩) t_6.fPins.length cap_34 (hm.ownRow (hh := 6) (o := o_33) (T := 74) (enc := encGWornPin) (xs := t_6.fPins) (sp := sp_35) (by kernel_rfl) (fun e => (ho_37 e).1) encGWornPin_len) rfl (o_38.map fun b => ⟨b, 0, none⟩) t_6.fStrokes.length cap_39 (hm.ownRow (hh := 7) (o := o_38) (T := 2) (enc := encI64) (xs := t_6.fStrokes) (sp := sp_40) (by kernel_rfl) (fun e => (ho_42 e).1) encI64_len) rfl (o_45.map fun b => ⟨b, 0, none⟩) t_7.fPins.length cap_46 (hm.ownRow (hh := 9) (o := o_45) (T := 74) (enc := encGWornPin) (xs := t_7.fPins) (sp := sp_47) (by kernel_rfl) (fun e => (ho_49 e).1) encGWornPin_len) rfl (o_50.map fun b => ⟨b, 0, none⟩) t_7.fStrokes.length cap_51 (hm.ownRow (hh := 10) (o := o_50) (T := 2) (enc := encI64) (xs := t_7.fStrokes) (sp := sp_52) (by kernel_rfl) (fun e => (ho_54 e).1) encI64_len) rfl ht_56) ?_)
      rintro w v w' hm ⟨rfl, hm'⟩
      refine ⟨_, hm.app hm', jkO ?_⟩
      clear hm hm'
      refine jo_f [(0, 0)] (by kernel_rfl) ?_
      refine jo_end (by kernel_rfl) ?_
      refine jx_then ?_
      refine jc_seq ?_
      refine jc_seq ?_
      refine jc_region ?_
      refine jo_f [(0, 0), (0, 0), (0, 0)] (by kernel_rfl) ?_
      refine jo_end (by kernel_rfl) ?_
      refine jx_then ?_
      refine jc_cond (t_8 != t_5) (by kernel_rfl) (fun hc_58 => ?_) (fun hc_58 => ?_)
      · replace h := ifT hc_58 h
        refine jc_seq ?_
        refine jc_region ?_
        refine jo_f [(0, 0)] (by kernel_rfl) ?_
        refine jo_end (by kernel_rfl) ?_
        refine jx_then ?_
        refine jc_ret ?_
        refine jx_thenr ?_
        obtain rfl := Option.some.inj h
        exact jx_ret [] (.bool false) [] rfl (by kernel_rfl) (by kernel_rfl) (fun w hm => ⟨rfl, hm.pick [] (by kernel_rfl) (by kernel_rfl)⟩)
      · replace h := ifF hc_58 h
        refine jc_skip ?_
        refine jx_then ?_
        refine jc_seq ?_
        refine jc_seq ?_
        refine jc_draw [⟨some b_1, 53, [(.slice aA0_fPins_a aA0.fPins.length aA0_fPins_c), (.slice aA0_fStrokes_a aA0.fStrokes.length aA0_fStrokes_c)]⟩, ⟨some b_2, 53, [(.slice aB1_fPins_a aB1.fPins.length aB1_fPins_c), (.slice aB1_fStrokes_a aB1.fStrokes.length aB1_fStrokes_c)]⟩, ⟨o_10, 74, row encGWornPin t_3.fPins sp_12⟩, ⟨o_15, 2, row encI64 t_3.fStrokes sp_17⟩, ⟨o_21, 74, row encGWornPin t_4.fPins sp_23⟩, ⟨o_26, 2, row encI64 t_4.fStrokes sp_28⟩, ⟨o_33, 74, row encGWornPin t_6.fPins sp_35⟩, ⟨o_38, 2, row encI64 t_6.fStrokes sp_40⟩, ⟨some b_43, 58, [(.slice (o_33.map fun b => ⟨b, 0, none⟩) t_6.fPins.length cap_34), (.slice (o_38.map fun b => ⟨b, 0, none⟩) t_6.fStrokes.length cap_39)]⟩, ⟨o_45, 74, row encGWornPin t_7.fPins sp_47⟩, ⟨o_50, 2, row encI64 t_7.fStrokes sp_52⟩, ⟨some b_55, 58, [(.slice (o_45.map fun b => ⟨b, 0, none⟩) t_7.fPins.length cap_46), (.slice (o_50.map fun b => ⟨b, 0, none⟩) t_7.fStrokes.length cap_51)]⟩] 5 (by kernel_rfl) (by kernel_rfl) ?_
        refine jd_f [⟨0, 8, 0⟩, ⟨1, 0, 0⟩] 3 (by kernel_rfl) (by kernel_rfl) (fun w h => h.pick [0, 1, 2, 3, 4, 5, 6, 7, 8, 9, 10, 11] (by kernel_rfl) (by kernel_rfl)) (by kernel_rfl) (by kernel_rfl) ?_
        obtain ⟨t_9, ht_72, h⟩ := bd h
        refine toD 2 (by kernel_rfl) (p_call 0 24 #[(.agg #[(.slice aA0_fPins_a aA0.fPins.length aA0_fPins_c), (.slice aA0_fStrokes_a aA0.fStrokes.length aA0_fStrokes_c)])] (by kernel_rfl) (by kernel_rfl) (fun w hm => laws_toWear.calls aA0 w _ aA0_fPins_a aA0.fPins.length aA0_fPins_c (hm.exRow aA0_fPins_h List.not_mem_nil) rfl aA0_fStrokes_a aA0.fStrokes.length aA0_fStrokes_c (hm.exRow aA0_fStrokes_h List.not_mem_nil) rfl ht_72) ?_)
        rintro w v w' hm ⟨o_73, cap_74, sp_75, _, rfl, hs_76, ho_77, o_78, cap_79, sp_80, _, rfl, hs_81, ho_82, rfl, hm'⟩
        refine ⟨_, hm.app hm', jkD (fun w h => h.pick [0, 1, 2, 3, 4, 5, 6, 7, 8, 9, 10, 11] (by kernel_rfl) (by kernel_rfl)) ?_⟩
        clear hm hm'
        obtain ⟨t_10, ht_83, h⟩ := bd h
        refine toD 3 (by kernel_rfl) (p_call 0 26 #[(.agg #[(.slice (o_33.map fun b => ⟨b, 0, none⟩) t_6.fPins.length cap_34), (.slice (o_38.map fun b => ⟨b, 0, none⟩) t_6.fStrokes.length cap_39)]), (.agg #[(.slice (o_73.map fun b => ⟨b, 0, none⟩) t_9.fPins.length cap_74), (.slice (o_78.map fun b => ⟨b, 0, none⟩) t_9.fStrokes.length cap_79)])] (by kernel_rfl) (by kernel_rfl) (fun w hm => laws_eqWear.calls t_6 t_9 w _ (o_33.map fun b => ⟨b, 0, none⟩) t_6.fPins.length cap_34 (hm.ownRow (hh := 6) (o := o_33) (T := 74) (enc := encGWornPin) (xs := t_6.fPins) (sp := sp_35) (by kernel_rfl) (fun e => (ho_37 e).1) encGWornPin_len) rfl (o_38.map fun b => ⟨b, 0, none⟩) t_6.fStrokes.length cap_39 (hm.ownRow (hh := 7) (o := o_38) (T := 2) (enc := encI64) (xs := t_6.fStrokes) (sp := sp_40) (by kernel_rfl) (fun e => (ho_42 e).1) encI64_len) rfl (o_73.map fun b => ⟨b, 0, none⟩) t_9.fPins.length cap_74 (hm.ownRow (hh := 12) (o := o_73) (T := 74) (enc := encGWornPin) (xs := t_9.fPins) (sp := sp_75) (by kernel_rfl) (fun e => (ho_77 e).1) encGWornPin_len) rfl (o_78.map fun b => ⟨b, 0, none⟩) t_9.fStrokes.length cap_79 (hm.ownRow (hh := 13) (o := o_78) (T := 2) (enc := encI64) (xs := t_9.fStrokes) (sp := sp_80) (by kernel_rfl) (fun e => (ho_82 e).1) encI64_len) rfl ht_83) ?_)
        rintro w v w' hm ⟨rfl, hm'⟩
        refine ⟨_, hm.app hm', jkD (fun w h => h.pick [0, 1, 2, 3, 4, 5, 6, 7, 8, 9, 10, 11] (by kernel_rfl) (by kernel_rfl)) ?_⟩
        clear hm hm'
        refine jd_f [⟨4, 0, 0⟩] 0 (by kernel_rfl) (by kernel_rfl) (fun w h => h.pick [0, 1, 2, 3, 4, 5, 6, 7, 8, 9, 10, 11] (by kernel_rfl) (by kernel_rfl)) (by kernel_rfl) (by kernel_rfl) ?_
        refine jd_end (by kernel_rfl) ?_
        refine jx_then ?_
        refine jc_cond (!t_10) (by kernel_rfl) (fun hc_84 => ?_) (fun hc_84 => ?_)
        · replace h := ifT hc_84 h
          refine jc_seq ?_
          refine jc_region ?_
          refine jo_f [(0, 0)] (by kernel_rfl) ?_
          refine jo_end (by kernel_rfl) ?_
          refine jx_then ?_
          refine jc_ret ?_
          refine jx_thenr ?_
          obtain rfl := Option.some.inj h
          exact jx_ret [] (.bool false) [] rfl (by kernel_rfl) (by kernel_rfl) (fun w hm => ⟨rfl, hm.pick [] (by kernel_rfl) (by kernel_rfl)⟩)
        · replace h := ifF hc_84 h
          refine jc_skip ?_
          refine jx_then ?_
          refine jc_seq ?_
          refine jc_seq ?_
          refine jc_draw [⟨some b_1, 53, [(.slice aA0_fPins_a aA0.fPins.length aA0_fPins_c), (.slice aA0_fStrokes_a aA0.fStrokes.length aA0_fStrokes_c)]⟩, ⟨some b_2, 53, [(.slice aB1_fPins_a aB1.fPins.length aB1_fPins_c), (.slice aB1_fStrokes_a aB1.fStrokes.length aB1_fStrokes_c)]⟩, ⟨o_10, 74, row encGWornPin t_3.fPins sp_12⟩, ⟨o_15, 2, row encI64 t_3.fStrokes sp_17⟩, ⟨o_21, 74, row encGWornPin t_4.fPins sp_23⟩, ⟨o_26, 2, row encI64 t_4.fStrokes sp_28⟩, ⟨o_33, 74, row encGWornPin t_6.fPins sp_35⟩, ⟨o_38, 2, row encI64 t_6.fStrokes sp_40⟩, ⟨some b_43, 58, [(.slice (o_33.map fun b => ⟨b, 0, none⟩) t_6.fPins.length cap_34), (.slice (o_38.map fun b => ⟨b, 0, none⟩) t_6.fStrokes.length cap_39)]⟩, ⟨o_45, 74, row encGWornPin t_7.fPins sp_47⟩, ⟨o_50, 2, row encI64 t_7.fStrokes sp_52⟩, ⟨some b_55, 58, [(.slice (o_45.map fun b => ⟨b, 0, none⟩) t_7.fPins.length cap_46), (.slice (o_50.map fun b => ⟨b, 0, none⟩) t_7.fStrokes.length cap_51)]⟩, ⟨o_73, 74, row encGWornPin t_9.fPins sp_75⟩, ⟨o_78, 2, row encI64 t_9.fStrokes sp_80⟩] 5 (by kernel_rfl) (by kernel_rfl) ?_
          refine jd_f [⟨0, 11, 0⟩, ⟨1, 1, 0⟩] 3 (by kernel_rfl) (by kernel_rfl) (fun w h => h.pick [0, 1, 2, 3, 4, 5, 6, 7, 8, 9, 10, 11, 12, 13] (by kernel_rfl) (by kernel_rfl)) (by kernel_rfl) (by kernel_rfl) ?_
          obtain ⟨t_11, ht_85, h⟩ := bd h
          refine toD 2 (by kernel_rfl) (p_call 0 24 #[(.agg #[(.slice aB1_fPins_a aB1.fPins.length aB1_fPins_c), (.slice aB1_fStrokes_a aB1.fStrokes.length aB1_fStrokes_c)])] (by kernel_rfl) (by kernel_rfl) (fun w hm => laws_toWear.calls aB1 w _ aB1_fPins_a aB1.fPins.length aB1_fPins_c (hm.exRow aB1_fPins_h List.not_mem_nil) rfl aB1_fStrokes_a aB1.fStrokes.length aB1_fStrokes_c (hm.exRow aB1_fStrokes_h List.not_mem_nil) rfl ht_85) ?_)
          rintro w v w' hm ⟨o_86, cap_87, sp_88, _, rfl, hs_89, ho_90, o_91, cap_92, sp_93, _, rfl, hs_94, ho_95, rfl, hm'⟩
          refine ⟨_, hm.app hm', jkD (fun w h => h.pick [0, 1, 2, 3, 4, 5, 6, 7, 8, 9, 10, 11, 12, 13] (by kernel_rfl) (by kernel_rfl)) ?_⟩
          clear hm hm'
          obtain ⟨t_12, ht_96, h⟩ := bd h
          refine toD 3 (by kernel_rfl) (p_call 0 26 #[(.agg #[(.slice (o_45.map fun b => ⟨b, 0, none⟩) t_7.fPins.length cap_46), (.slice (o_50.map fun b => ⟨b, 0, none⟩) t_7.fStrokes.length cap_51)]), (.agg #[(.slice (o_86.map fun b => ⟨b, 0, none⟩) t_11.fPins.length cap_87), (.slice (o_91.map fun b => ⟨b, 0, none⟩) t_11.fStrokes.length cap_92)])] (by kernel_rfl) (by kernel_rfl) (fun w hm => laws_eqWear.calls t_7 t_11 w _ (o_45.map fun b => ⟨b, 0, none⟩) t_7.fPins.length cap_46 (hm.ownRow (hh := 9) (o := o_45) (T := 74) (enc := encGWornPin) (xs := t_7.fPins) (sp := sp_47) (by kernel_rfl) (fun e => (ho_49 e).1) encGWornPin_len) rfl (o_50.map fun b => ⟨b, 0, none⟩) t_7.fStrokes.length cap_51 (hm.ownRow (hh := 10) (o := o_50) (T := 2) (enc := encI64) (xs := t_7.fStrokes) (sp := sp_52) (by kernel_rfl) (fun e => (ho_54 e).1) encI64_len) rfl (o_86.map fun b => ⟨b, 0, none⟩) t_11.fPins.length cap_87 (hm.ownRow (hh := 14) (o := o_86) (T := 74) (enc := encGWornPin) (xs := t_11.fPins) (sp := sp_88) (by kernel_rfl) (fun e => (ho_90 e).1) encGWornPin_len) rfl (o_91.map fun b => ⟨b, 0, none⟩) t_11.fStrokes.length cap_92 (hm.ownRow (hh := 15) (o := o_91) (T := 2) (enc := encI64) (xs := t_11.fStrokes) (sp := sp_93) (by kernel_rfl) (fun e => (ho_95 e).1) encI64_len) rfl ht_96) ?_)
          rintro w v w' hm ⟨rfl, hm'⟩
          refine ⟨_, hm.app hm', jkD (fun w h => h.pick [0, 1, 2, 3, 4, 5, 6, 7, 8, 9, 10, 11, 12, 13] (by kernel_rfl) (by kernel_rfl)) ?_⟩
          clear hm hm'
          refine jd_f [⟨4, 0, 0⟩] 0 (by kernel_rfl) (by kernel_rfl) (fun w h => h.pick [0, 1, 2, 3, 4, 5, 6, 7, 8, 9, 10, 11, 12, 13] (by kernel_rfl) (by kernel_rfl)) (by kernel_rfl) (by kernel_rfl) ?_
          refine jd_end (by kernel_rfl) ?_
          refine jx_then ?_
          refine jc_cond (!t_12) (by kernel_rfl) (fun hc_97 => ?_) (fun hc_97 => ?_)
          · replace h := ifT hc_97 h
            refine jc_seq ?_
            refine jc_region ?_
            refine jo_f [(0, 0)] (by kernel_rfl) ?_
            refine jo_end (by kernel_rfl) ?_
            refine jx_then ?_
            refine jc_ret ?_
            refine jx_thenr ?_
            obtain rfl := Option.some.inj h
            exact jx_ret [] (.bool false) [] rfl (by kernel_rfl) (by kernel_rfl) (fun w hm => ⟨rfl, hm.pick [] (by kernel_rfl) (by kernel_rfl)⟩)
          · replace h := ifF hc_97 h
            refine jc_skip ?_
            refine jx_then ?_
            refine jc_seq ?_
            refine jc_region ?_
            refine jo_f [(0, 0)] (by kernel_rfl) ?_
            refine jo_end (by kernel_rfl) ?_
            refine jx_then ?_
            refine jc_ret ?_
            obtain rfl := Option.some.inj h
            exact jx_ret [] (.bool true) [] rfl (by kernel_rfl) (by kernel_rfl) (fun w hm => ⟨rfl, hm.pick [] (by kernel_rfl) (by kernel_rfl)⟩)

/-! ### laws.szChoiceS -/
noncomputable def laws_szChoiceS (a0 : List GChoice) (left1 : Int) : Option (Int) := (if (decide ((w64 (left1 - (a0.length : Int))) < 0)) = true then some (-1) else some (w64 (left1 - (a0.length : Int))))
set_option maxRecDepth 100000 in
theorem laws_szChoiceS.calls (a0 : List GChoice) (left1 : Int) (w : World) (r : Int) (a0_a : Option Addr) (a0_an : Nat) (a0_c : Nat) (a0_h : Rw w a0_a 4 encGChoice a0) (a0_hn : a0.length = a0_an) (h : laws_szChoiceS a0 left1 = some r) :
    Calls Try.prog 27 #[(.slice a0_a a0_an a0_c), (.int .i64 left1)] w fun e w' => ∃ v, e = .returned v ∧ (v = (.int .i64 r) ∧ Mem w [] [] w') := by
  subst a0_hn
  rw [laws_szChoiceS] at h
  refine enter (args := [(.slice a0_a a0.length a0_c), (.int .i64 left1)]) Try.func27 rfl Try.ntmps27 (by kernel_rfl) (L := []) (W := []) (Mem.start w) ?_
  refine jc_seq ?_
  refine jc_region ?_
  refine jo_f [(0, 0)] (by kernel_rfl) ?_
  refine jo_end (by kernel_rfl) ?_
  refine jx_then ?_
  refine jc_seq ?_
  refine jc_region ?_
  refine jo_f [(0, 0), (0, 0), (0, 0), (0, 0), (0, 0)] (by kernel_rfl) ?_
  refine jo_end (by kernel_rfl) ?_
  refine jx_then ?_
  refine jc_seq ?_
  refine jc_seq ?_
  refine jc_region ?_
  refine jo_f [(0, 0), (0, 0)] (by kernel_rfl) ?_
  refine jo_end (by kernel_rfl) ?_
  refine jx_then ?_
  refine jc_cond (decide ((w64 (left1 - (a0.length : Int))) < 0)) (by kernel_rfl) (fun hc_2 => ?_) (fun hc_2 => ?_)
  · replace h := ifT hc_2 h
    refine jc_seq ?_
    refine jc_region ?_
    refine jo_f [(0, 0)] (by kernel_rfl) ?_
    refine jo_end (by kernel_rfl) ?_
    refine jx_then ?_
    refine jc_ret ?_
    refine jx_thenr ?_
    obtain rfl := Option.some.inj h
    exact jx_ret [] (.int .i64 (-1)) [] rfl (by kernel_rfl) (by kernel_rfl) (fun w hm => ⟨rfl, hm.pick [] (by kernel_rfl) (by kernel_rfl)⟩)
  · replace h := ifF hc_2 h
    refine jc_skip ?_
    refine jx_then ?_
    refine jc_seq ?_
    refine jc_region ?_
    refine jo_f [(0, 0), (0, 0)] (by kernel_rfl) ?_
    refine jo_end (by kernel_rfl) ?_
    refine jx_then ?_
    refine jc_ret ?_
    obtain rfl := Option.some.inj h
    exact jx_ret [] (.int .i64 (w64 (left1 - (a0.length : Int)))) [] rfl (by kernel_rfl) (by kernel_rfl) (fun w hm => ⟨rfl, hm.pick [] (by kernel_rfl) (by kernel_rfl)⟩)

/-! ### laws.toChoiceS -/
noncomputable def laws_toChoiceS.k_2 (xs_1 : List GChoice) : Option ((List GChoice)) := some xs_1
noncomputable def laws_toChoiceS.l_5 (a0 : List GChoice) : ((List GChoice) × Int) → Option (((List GChoice) × Int) ⊕ ((List GChoice)))
  | (xs_3, i_4) => (if (decide (i_4 < (a0.length : Int))) = true then (ix a0 i_4).bind fun x_7 => (laws_toChoice x_7).bind fun t_8 => (ix xs_3 i_4).bind fun x_9 => some (.inl ((xs_3.set i_4.toNat t_8), (w64 (i_4 + 1)))) else some (.inr xs_3))
noncomputable def laws_toChoiceS (a0 : List GChoice) : Option ((List GChoice)) := (if 0 ≤ (a0.length : Int) ∧ (a0.length : Int) ≤ 35184372088832 then (loop (laws_toChoiceS.l_5 a0) ((List.replicate (a0.length : Int).toNat (⟨false, 0, 0, 0⟩ : GChoice)), 0)).bind fun t_6 => laws_toChoiceS.k_2 t_6 else none)
set_option maxRecDepth 100000 in
theorem laws_toChoiceS.calls (a0 : List GChoice) (w : World) (r : (List GChoice)) (a0_a : Option Addr) (a0_an : Nat) (a0_c : Nat) (a0_h : Rw w a0_a 4 encGChoice a0) (a0_hn : a0.length = a0_an) (h : laws_toChoiceS a0 = some r) :
    Calls Try.prog 29 #[(.slice a0_a a0_an a0_c)] w fun e w' => ∃ v, e = .returned v ∧ (∃ (o0 : Option Nat) (c0 : Nat) (s0 : List Value) (n0 : Nat), r.length = n0 ∧ (o0 ≠ none → n0 ≤ c0 ∧ s0.length = (c0 - n0) * 4) ∧ (o0 = none → r = [] ∧ c0 = 0) ∧ v = .slice (o0.map fun b => ⟨b, 0, none⟩) n0 c0 ∧ Mem w [] [⟨o0, 39, row encGChoice r s0⟩] w') := by
  subst a0_hn
  rw [laws_toChoiceS] at h
  refine enter (args := [(.slice a0_a a0.length a0_c)]) Try.func29 rfl Try.ntmps29 (by kernel_rfl) (L := []) (W := []) (Mem.start w) ?_
  refine jc_seq ?_
  refine jc_region ?_
  refine jo_f [(0, 0)] (by kernel_rfl) ?_
  refine jo_end (by kernel_rfl) ?_
  refine jx_then ?_
  refine jc_seq ?_
  refine jc_region ?_
  refine jo_f [(0, 0), (0, 0)] (by kernel_rfl) ?_
  obtain ⟨hg_88, h⟩ := gd h
  refine toO (by kernel_rfl) (p_mk 0 39 (a0.length : Int) 4 4 encGChoice (⟨false, 0, 0, 0⟩ : GChoice) (by kernel_rfl) (by kernel_rfl) hg_88.1 (by omega) (by kernel_rfl) (fun b_1 => jkO ?_))
  refine jo_f [(0, 0)] (by kernel_rfl) ?_
  refine jo_end (by kernel_rfl) ?_
  refine jx_then ?_
  refine jc_seq ?_
  refine jc_seq ?_
  refine jc_region ?_
  refine jo_f [(0, 0)] (by kernel_rfl) ?_
  refine jo_end (by kernel_rfl) ?_
  refine jx_then ?_
  refine jc_meet (fun (j : (List GChoice)) => match j with | xs_1 => laws_toChoiceS.k_2 xs_1 = some r ∧ (xs_1.length = (a0.length : Int).toNat)) (fun (j : (List GChoice)) => match j with | xs_1 => [(2, [], (.slice none 0 0)), (3, [], (.slice (some ⟨b_1, 0, none⟩) ((a0.length : Int).toNat) ((a0.length : Int).toNat)))]) (fun (j : (List GChoice)) => match j with | xs_1 => [⟨(some b_1), 39, row encGChoice xs_1 []⟩]) ?_ ?_
  · refine jc_block ?_
    obtain ⟨t_6, ht_87, hr_79⟩ := bd h
    refine jc_loop (fun (s : (List GChoice) × Int) (x : Unit) => match s, x with | ⟨xs_3, i_4⟩, _ => (xs_3.length = (a0.length : Int).toNat)) (fun (s : (List GChoice) × Int) (x : Unit) => match s, x with | ⟨xs_3, i_4⟩, _ => [(0, [], (.slice a0_a a0.length a0_c)), (2, [], (.slice none 0 0)), (3, [], (.slice (some ⟨b_1, 0, none⟩) ((a0.length : Int).toNat) ((a0.length : Int).toNat))), (4, [], (.int .i64 i_4))]) (fun (s : (List GChoice) × Int) (x : Unit) => match s, x with | ⟨xs_3, i_4⟩, _ => [⟨(some b_1), 39, row encGChoice xs_3 []⟩]) ht_87 () List.length_replicate (by kernel_rfl) [0] (by kernel_rfl) (by kernel_rfl) ?_
    rintro ⟨xs_3, i_4⟩ _ y_80 hn_78 h
    rw [laws_toChoiceS.l_5] at h
    refine jc_seq ?_
    refine jc_seq ?_
    refine jc_region ?_
    refine jo_f [(0, 0), (0, 0), (0, 0), (0, 0)] (by kernel_rfl) ?_
    refine jo_end (by kernel_rfl) ?_
    refine jx_then ?_
    refine jc_cond (decide (i_4 < (a0.length : Int))) (by kernel_rfl) (fun hc_82 => ?_) (fun hc_82 => ?_)
    · replace h := ifT hc_82 h
      refine jc_skip ?_
      refine jx_then ?_
      refine jc_seq ?_
      refine jc_block ?_
      refine jc_region ?_
      refine jo_f [(0, 0), (0, 0), (0, 0), (0, 0)] (by kernel_rfl) ?_
      obtain ⟨x_7, hx_83, h⟩ := bd h
      refine toO (by kernel_rfl) (p_idx 0 a0_a a0.length i_4 4 (by kernel_rfl) (by kernel_rfl) (ix_some hx_83).1 (ltn hx_83 rfl) (a0_h.sp hx_83) (jkO ?_))
      refine toO (by kernel_rfl) (p_ld 0 (aB a0_a) (aO a0_a + i_4.toNat * 4) true (encGChoice x_7) (by kernel_rfl) (by kernel_rfl) (by kernel_rfl) (fun w hm => ((hm.exRow a0_h List.not_mem_nil).at hx_83)) (jkO ?_))
      obtain ⟨t_8, ht_84, h⟩ := bd h
      refine toO (by kernel_rfl) (p_call 0 16 #[(.agg #[(.bool x_7.fAway), (.int .i8 x_7.fLate), (.int .i8 x_7.fOctave), (.int .i8 x_7.fTrack)])] (by kernel_rfl) (by kernel_rfl) (fun w hm => laws_toChoice.calls x_7 w _ ht_84) ?_)
      rintro w v w' hm ⟨rfl, hm'⟩
      refine ⟨_, hm.app hm', jkO ?_⟩
      clear hm hm'
      obtain ⟨x_9, hx_85, h⟩ := bd h
      refine toO (by kernel_rfl) (p_idx 0 (some ⟨b_1, 0, none⟩) ((a0.length : Int).toNat) i_4 4 (by kernel_rfl) (by kernel_rfl) (ix_some hx_85).1 (ltn hx_85 hn_78) rfl (jkO ?_))
      refine toO (by kernel_rfl) (p_str 0 0 b_1 39 encGChoice xs_3 [] i_4 t_8 4 0 [(.bool t_8.fAway), (.int .i8 t_8.fLate), (.int .i8 t_8.fOctave), (.int .i8 t_8.fTrack)] (by kernel_rfl) (by kernel_rfl) (by kernel_rfl) encGChoice_len hx_85 (by kernel_rfl) (by kernel_rfl) (jkO ?_))
      refine jo_end (by kernel_rfl) ?_
      refine jx_inn ?_
      refine jx_then ?_
      refine jc_region ?_
      refine jo_f [(0, 0), (0, 0), (0, 0)] (by kernel_rfl) ?_
      refine jo_end (by kernel_rfl) ?_
      exact jx_back ((xs_3.set i_4.toNat t_8), (w64 (i_4 + 1))) () (Option.some.inj h).symm (List.length_set.trans hn_78) [0] (by kernel_rfl) (by kernel_rfl) (by kernel_rfl)
    · replace h := ifF hc_82 h
      refine jc_exit ?_
      refine jx_thenx ?_
      refine jx_leave xs_3 (Option.some.inj h).symm (fun e_86 => ?_)
      subst e_86
      refine jx_ine ?_
      exact jx_meet xs_3 ⟨hr_79, hn_78⟩ (by kernel_rfl) [0] (by kernel_rfl) (by kernel_rfl)
  · rintro xs_1 ⟨h, hn_66⟩
    replace h : laws_toChoiceS.k_2 xs_1 = some r := h
    rw [laws_toChoiceS.k_2] at h
    refine jx_then ?_
    refine jc_seq ?_
    refine jc_region ?_
    refine jo_f [(0, 0), (0, 0)] (by kernel_rfl) ?_
    refine jo_end (by kernel_rfl) ?_
    refine jx_then ?_
    refine jc_ret ?_
    obtain rfl := Option.some.inj h
    exact jx_ret [] (.slice (some ⟨b_1, 0, none⟩) ((a0.length : Int).toNat) ((a0.length : Int).toNat)) [] rfl (by kernel_rfl) (by kernel_rfl) (fun w hm => ⟨(some b_1), ((a0.length : Int).toNat), [], ((a0.length : Int).toNat), hn_66, (fun _ => ⟨Nat.le_refl _, by simp⟩), (fun e => nomatch e), rfl, hm.pick [0] (by kernel_rfl) (by kernel_rfl)⟩)

/-! ### spec.l07Choices -/
noncomputable def spec_l07Choices.k_1 : Option (Bool) := some true
noncomputable def spec_l07Choices.l_3 (list0 : List GChoice) : Int → Option ((Int) ⊕ (Bool ⊕ Unit))
  | i_2 => (if (decide (i_2 < (list0.length : Int))) = true then (ix list0 i_2).bind fun x_5 => (spec_l07Choice x_5).bind fun t_6 => (if (!t_6) = true then some (.inr (.inl false)) else some (.inl (w64 (i_2 + 1)))) else some (.inr (.inr ())))
noncomputable def spec_l07Choices (list0 : List GChoice) : Option (Bool) := (loop (spec_l07Choices.l_3 list0) 0).bind fun t_4 => match t_4 with | .inl p => some p | .inr p => spec_l07Choices.k_1
set_option maxRecDepth 100000 in
theorem spec_l07Choices.calls (list0 : List GChoice) (w : World) (r : Bool) (list0_a : Option Addr) (list0_an : Nat) (list0_c : Nat) (list0_h : Rw w list0_a 4 encGChoice list0) (list0_hn : list0.length = list0_an) (h : spec_l07Choices list0 = some r) :
    Calls Try.prog 47 #[(.slice list0_a list0_an list0_c)] w fun e w' => ∃ v, e = .returned v ∧ (v = (.bool r) ∧ Mem w [] [] w') := by
  subst list0_hn
  rw [spec_l07Choices] at h
  refine enter (args := [(.slice list0_a list0.length list0_c)]) Try.func47 rfl Try.ntmps47 (by kernel_rfl) (L := []) (W := []) (Mem.start w) ?_
  refine jc_seq ?_
  refine jc_region ?_
  refine jo_f [(0, 0)] (by kernel_rfl) ?_
  refine jo_end (by kernel_rfl) ?_
  refine jx_then ?_
  refine jc_seq ?_
  refine jc_seq ?_
  refine jc_region ?_
  refine jo_f [(0, 0)] (by kernel_rfl) ?_
  refine jo_end (by kernel_rfl) ?_
  refine jx_then ?_
  refine jc_meet (fun (_ : Unit) => spec_l07Choices.k_1 = some r) (fun (_ : Unit) => [(2, [], (.bool false))]) (fun (_ : Unit) => []) ?_ ?_
  · refine jc_block ?_
    obtain ⟨t_4, ht_40, hr_31⟩ := bd h
    refine jc_loop (fun (s : Int) (x : Unit) => match s, x with | i_2, _ => True) (fun (s : Int) (x : Unit) => match s, x with | i_2, _ => [(0, [], (.slice list0_a list0.length list0_c)), (2, [], (.bool false)), (3, [], (.int .i64 i_2))]) (fun (s : Int) (x : Unit) => match s, x with | i_2, _ => []) ht_40 () trivial (by kernel_rfl) [] (by kernel_rfl) (by kernel_rfl) ?_
    rintro i_2 _ y_32 _ h
    rw [spec_l07Choices.l_3] at h
    refine jc_seq ?_
    refine jc_seq ?_
    refine jc_region ?_
    refine jo_f [(0, 0), (0, 0), (0, 0), (0, 0)] (by kernel_rfl) ?_
    refine jo_end (by kernel_rfl) ?_
    refine jx_then ?_
    refine jc_cond (decide (i_2 < (list0.length : Int))) (by kernel_rfl) (fun hc_34 => ?_) (fun hc_34 => ?_)
    · replace h := ifT hc_34 h
      refine jc_skip ?_
      refine jx_then ?_
      refine jc_seq ?_
      refine jc_block ?_
      refine jc_seq ?_
      refine jc_region ?_
      refine jo_f [(0, 0), (0, 0)] (by kernel_rfl) ?_
      obtain ⟨x_5, hx_35, h⟩ := bd h
      refine toO (by kernel_rfl) (p_idx 0 list0_a list0.length i_2 4 (by kernel_rfl) (by kernel_rfl) (ix_some hx_35).1 (ltn hx_35 rfl) (list0_h.sp hx_35) (jkO ?_))
      refine toO (by kernel_rfl) (p_ld 0 (aB list0_a) (aO list0_a + i_2.toNat * 4) true (encGChoice x_5) (by kernel_rfl) (by kernel_rfl) (by kernel_rfl) (fun w hm => ((hm.exRow list0_h List.not_mem_nil).at hx_35)) (jkO ?_))
      obtain ⟨t_6, ht_36, h⟩ := bd h
      refine toO (by kernel_rfl) (p_call 0 35 #[(.agg #[(.bool x_5.fAway), (.int .i8 x_5.fLate), (.int .i8 x_5.fOctave), (.int .i8 x_5.fTrack)])] (by kernel_rfl) (by kernel_rfl) (fun w hm => spec_l07Choice.calls x_5 w _ ht_36) ?_)
      rintro w v w' hm ⟨rfl, hm'⟩
      refine ⟨_, hm.app hm', jkO ?_⟩
      clear hm hm'
      refine jo_f [(0, 0)] (by kernel_rfl) ?_
      refine jo_end (by kernel_rfl) ?_
      refine jx_then ?_
      refine jc_cond (!t_6) (by kernel_rfl) (fun hc_37 => ?_) (fun hc_37 => ?_)
      · replace h := ifT hc_37 h
        refine jc_seq ?_
        refine jc_region ?_
        refine jo_f [(0, 0)] (by kernel_rfl) ?_
        refine jo_end (by kernel_rfl) ?_
        refine jx_then ?_
        refine jc_ret ?_
        refine jx_inr ?_
        refine jx_thenr ?_
        refine jx_leaver (.inl false) (Option.some.inj h).symm (fun e_38 => ?_)
        subst e_38
        refine jx_inr ?_
        refine jx_thenr ?_
        refine jx_thenr ?_
        obtain rfl := Option.some.inj hr_31
        exact jx_ret [] (.bool false) [] rfl (by kernel_rfl) (by kernel_rfl) (fun w hm => ⟨rfl, hm.pick [] (by kernel_rfl) (by kernel_rfl)⟩)
      · replace h := ifF hc_37 h
        refine jc_skip ?_
        refine jx_inn ?_
        refine jx_then ?_
        refine jc_region ?_
        refine jo_f [(0, 0), (0, 0), (0, 0)] (by kernel_rfl) ?_
        refine jo_end (by kernel_rfl) ?_
        exact jx_back (w64 (i_2 + 1)) () (Option.some.inj h).symm trivial [] (by kernel_rfl) (by kernel_rfl) (by kernel_rfl)
    · replace h := ifF hc_34 h
      refine jc_exit ?_
      refine jx_thenx ?_
      refine jx_leave (.inr ()) (Option.some.inj h).symm (fun e_39 => ?_)
      subst e_39
      refine jx_ine ?_
      exact jx_meet () hr_31 (by kernel_rfl) [] (by kernel_rfl) (by kernel_rfl)
  · rintro _ h
    replace h : spec_l07Choices.k_1 = some r := h
    rw [spec_l07Choices.k_1] at h
    refine jx_then ?_
    refine jc_seq ?_
    refine jc_region ?_
    refine jo_f [(0, 0)] (by kernel_rfl) ?_
    refine jo_end (by kernel_rfl) ?_
    refine jx_then ?_
    refine jc_ret ?_
    obtain rfl := Option.some.inj h
    exact jx_ret [] (.bool true) [] rfl (by kernel_rfl) (by kernel_rfl) (fun w hm => ⟨rfl, hm.pick [] (by kernel_rfl) (by kernel_rfl)⟩)

/-! ### spec.l07Cost -/
noncomputable def spec_l07Cost.k_4 (i_3 : Int) : Option (Int) := some i_3
noncomputable def spec_l07Cost.k_2 (c0 : GCosts) (x1 : GChoice) (i_1 : Int) : Option (Int) := (if (x1.fOctave != 0) = true then spec_l07Cost.k_4 (w64 ((w64 ((w64 c0.fStep) * i_1)) + (w64 c0.fOctave))) else spec_l07Cost.k_4 (w64 ((w64 c0.fStep) * i_1)))
noncomputable def spec_l07Cost (c0 : GCosts) (x1 : GChoice) : Option (Int) := (if x1.fAway = true then some (w64 c0.fAway) else (if (decide ((w64 x1.fLate) < 0)) = true then spec_l07Cost.k_2 c0 x1 (w64 (0 - (w64 x1.fLate))) else spec_l07Cost.k_2 c0 x1 (w64 x1.fLate)))
set_option maxRecDepth 100000 in
theorem spec_l07Cost.calls (c0 : GCosts) (x1 : GChoice) (w : World) (r : Int) (h : spec_l07Cost c0 x1 = some r) :
    Calls Try.prog 48 #[(.agg #[(.int .i16 c0.fAway), (.int .i16 c0.fOctave), (.int .i16 c0.fStep)]), (.agg #[(.bool x1.fAway), (.int .i8 x1.fLate), (.int .i8 x1.fOctave), (.int .i8 x1.fTrack)])] w fun e w' => ∃ v, e = .returned v ∧ (v = (.int .i64 r) ∧ Mem w [] [] w') := by
  rw [spec_l07Cost] at h
  refine enter (args := [(.agg #[(.int .i16 c0.fAway), (.int .i16 c0.fOctave), (.int .i16 c0.fStep)]), (.agg #[(.bool x1.fAway), (.int .i8 x1.fLate), (.int .i8 x1.fOctave), (.int .i8 x1.fTrack)])]) Try.func48 rfl Try.ntmps48 (by kernel_rfl) (L := []) (W := []) (Mem.start w) ?_
  refine jc_seq ?_
  refine jc_region ?_
  refine toO (by kernel_rfl) (p_a 0 [0] (by kernel_rfl) (fun b => by kernel_rfl) (fun b_1 => jkO ?_))
  refine toO (by kernel_rfl) (p_a 0 [0] (by kernel_rfl) (fun b => by kernel_rfl) (fun b_2 => jkO ?_))
  refine jo_f [(0, 0)] (by kernel_rfl) ?_
  refine jo_end (by kernel_rfl) ?_
  refine jx_then ?_
  refine jc_seq ?_
  refine jc_seq ?_
  refine jc_region ?_
  refine jo_f [(0, 0), (1, 0)] (by kernel_rfl) ?_
  refine jo_end (by kernel_rfl) ?_
  refine jx_then ?_
  refine jc_cond x1.fAway (by kernel_rfl) (fun hc_4 => ?_) (fun hc_4 => ?_)
  · replace h := ifT hc_4 h
    refine jc_seq ?_
    refine jc_region ?_
    refine jo_f [(0, 0), (0, 0), (0, 0), (0, 0)] (by kernel_rfl) ?_
    refine jo_end (by kernel_rfl) ?_
    refine jx_then ?_
    refine jc_ret ?_
    refine jx_thenr ?_
    obtain rfl := Option.some.inj h
    exact jx_ret [] (.int .i64 (w64 c0.fAway)) [] rfl (by kernel_rfl) (by kernel_rfl) (fun w hm => ⟨rfl, hm.pick [] (by kernel_rfl) (by kernel_rfl)⟩)
  · replace h := ifF hc_4 h
    refine jc_skip ?_
    refine jx_then ?_
    refine jc_seq ?_
    refine jc_region ?_
    refine jo_f [(0, 0), (1, 0), (0, 0), (0, 0)] (by kernel_rfl) ?_
    refine jo_end (by kernel_rfl) ?_
    refine jx_then ?_
    refine jc_seq ?_
    refine jc_meet (fun (j : Int) => match j with | i_1 => spec_l07Cost.k_2 c0 x1 i_1 = some r) (fun (j : Int) => match j with | i_1 => [(2, [], (.pointer (some ⟨b_1, 0, none⟩))), (3, [], (.pointer (some ⟨b_2, 0, none⟩))), (4, [], (.int .i64 0)), (5, [], (.int .i64 i_1))]) (fun (j : Int) => match j with | i_1 => [⟨some b_1, 32, [(.int .i16 c0.fAway), (.int .i16 c0.fOctave), (.int .i16 c0.fStep)]⟩, ⟨some b_2, 39, [(.bool x1.fAway), (.int .i8 x1.fLate), (.int .i8 x1.fOctave), (.int .i8 x1.fTrack)]⟩]) ?_ ?_
    · refine jc_seq ?_
      refine jc_region ?_
      refine jo_f [(0, 0), (0, 0)] (by kernel_rfl) ?_
      refine jo_end (by kernel_rfl) ?_
      refine jx_then ?_
      refine jc_cond (decide ((w64 x1.fLate) < 0)) (by kernel_rfl) (fun hc_8 => ?_) (fun hc_8 => ?_)
      · replace h := ifT hc_8 h
        refine jc_region ?_
        refine jo_f [(0, 0), (0, 0), (0, 0)] (by kernel_rfl) ?_
        refine jo_end (by kernel_rfl) ?_
        exact jx_meet (w64 (0 - (w64 x1.fLate))) h (by kernel_rfl) [0, 1] (by kernel_rfl) (by kernel_rfl)
      · replace h := ifF hc_8 h
        refine jc_skip ?_
        exact jx_meet (w64 x1.fLate) h (by kernel_rfl) [0, 1] (by kernel_rfl) (by kernel_rfl)
    · rintro i_1 h
      replace h : spec_l07Cost.k_2 c0 x1 i_1 = some r := h
      rw [spec_l07Cost.k_2] at h
      refine jx_then ?_
      refine jc_seq ?_
      refine jc_region ?_
      refine jo_f [(0, 0), (0, 0), (0, 0), (0, 0), (0, 0), (0, 0)] (by kernel_rfl) ?_
      refine jo_end (by kernel_rfl) ?_
      refine jx_then ?_
      refine jc_seq ?_
      refine jc_meet (fun (j : Int) => match j with | i_3 => spec_l07Cost.k_4 i_3 = some r) (fun (j : Int) => match j with | i_3 => [(4, [], (.int .i64 0)), (6, [], (.int .i64 i_3))]) (fun (j : Int) => match j with | i_3 => [⟨some b_1, 32, [(.int .i16 c0.fAway), (.int .i16 c0.fOctave), (.int .i16 c0.fStep)]⟩, ⟨some b_2, 39, [(.bool x1.fAway), (.int .i8 x1.fLate), (.int .i8 x1.fOctave), (.int .i8 x1.fTrack)]⟩]) ?_ ?_
      · refine jc_seq ?_
        refine jc_region ?_
        refine jo_f [(0, 0), (1, 0), (0, 0)] (by kernel_rfl) ?_
        refine jo_end (by kernel_rfl) ?_
        refine jx_then ?_
        refine jc_cond (x1.fOctave != 0) (by kernel_rfl) (fun hc_7 => ?_) (fun hc_7 => ?_)
        · replace h := ifT hc_7 h
          refine jc_region ?_
          refine jo_f [(0, 0), (0, 0), (0, 0), (0, 0), (0, 0), (0, 0)] (by kernel_rfl) ?_
          refine jo_end (by kernel_rfl) ?_
          exact jx_meet (w64 ((w64 ((w64 c0.fStep) * i_1)) + (w64 c0.fOctave))) h (by kernel_rfl) [0, 1] (by kernel_rfl) (by kernel_rfl)
        · replace h := ifF hc_7 h
          refine jc_skip ?_
          exact jx_meet (w64 ((w64 c0.fStep) * i_1)) h (by kernel_rfl) [0, 1] (by kernel_rfl) (by kernel_rfl)
      · rintro i_3 h
        replace h : spec_l07Cost.k_4 i_3 = some r := h
        rw [spec_l07Cost.k_4] at h
        refine jx_then ?_
        refine jc_seq ?_
        refine jc_region ?_
        refine jo_f [(0, 0), (0, 0)] (by kernel_rfl) ?_
        refine jo_end (by kernel_rfl) ?_
        refine jx_then ?_
        refine jc_ret ?_
        obtain rfl := Option.some.inj h
        exact jx_ret [] (.int .i64 i_3) [] rfl (by kernel_rfl) (by kernel_rfl) (fun w hm => ⟨rfl, hm.pick [] (by kernel_rfl) (by kernel_rfl)⟩)
end Go.Proofs.Ytojommdkbolmgaa
