/- Functions of the program that the laws reach: a plain function each, and that the call comes to its answer if the plain function has one. Printed by a program. -/
import Derived.Test.YtfkjghkjimcmdaaGreatT
namespace Go.Proofs.YtfkjghkjimcmdaaGreat
open Eng
set_option linter.unusedVariables false

/-! ### laws.szHammerS -/
noncomputable def laws_szHammerS (a0 : List GHammer) (left1 : Int) : Option (Int) := (if (decide ((w64 (left1 - (a0.length : Int))) < 0)) = true then some (-1) else some (w64 (left1 - (a0.length : Int))))
set_option maxRecDepth 100000 in
theorem laws_szHammerS.calls (a0 : List GHammer) (left1 : Int) (w : World) (r : Int) (a0_a : Option Addr) (a0_an : Nat) (a0_c : Nat) (a0_h : Rw w a0_a 2 encGHammer a0) (a0_hn : a0.length = a0_an) (h : laws_szHammerS a0 left1 = some r) :
    Calls Tryz.prog 38 #[(.slice a0_a a0_an a0_c), (.int .i64 left1)] w fun e w' => ∃ v, e = .returned v ∧ (v = (.int .i64 r) ∧ Mem w [] [] w') := by
  subst a0_hn
  rw [laws_szHammerS] at h
  refine enter (args := [(.slice a0_a a0.length a0_c), (.int .i64 left1)]) Tryz.func38 rfl Tryz.ntmps38 (by kernel_rfl) (L := []) (W := []) (Mem.start w) ?_
  refine jc_seq ?_
  refine jc_region ?_
  refine jo_f [(0, 0)] (by kernel_rfl) ?_
  refine jo_end (by kernel_rfl) ?_
  refine jx_then ?_
  refine jc_seq ?_
  refine jc_region ?_
  refine jo_f [(0, 0), (0, 0), (0, 0), (0, 0), (0, 0)] (by kernel_rfl) ?_
  refine jo_end (by kernel_rfl) ?_
  refine jx_then ?_
  refine jc_seq ?_
  refine jc_seq ?_
  refine jc_region ?_
  refine jo_f [(0, 0), (0, 0)] (by kernel_rfl) ?_
  refine jo_end (by kernel_rfl) ?_
  refine jx_then ?_
  refine jc_cond (decide ((w64 (left1 - (a0.length : Int))) < 0)) (by kernel_rfl) (fun hc_2 => ?_) (fun hc_2 => ?_)
  · replace h := ifT hc_2 h
    refine jc_seq ?_
    refine jc_region ?_
    refine jo_f [(0, 0)] (by kernel_rfl) ?_
    refine jo_end (by kernel_rfl) ?_
    refine jx_then ?_
    refine jc_ret ?_
    refine jx_thenr ?_
    obtain rfl := Option.some.inj h
    exact jx_ret [] (.int .i64 (-1)) [] rfl (by kernel_rfl) (by kernel_rfl) (fun w hm => ⟨rfl, hm.pick [] (by kernel_rfl) (by kernel_rfl)⟩)
  · replace h := ifF hc_2 h
    refine jc_skip ?_
    refine jx_then ?_
    refine jc_seq ?_
    refine jc_region ?_
    refine jo_f [(0, 0), (0, 0)] (by kernel_rfl) ?_
    refine jo_end (by kernel_rfl) ?_
    refine jx_then ?_
    refine jc_ret ?_
    obtain rfl := Option.some.inj h
    exact jx_ret [] (.int .i64 (w64 (left1 - (a0.length : Int)))) [] rfl (by kernel_rfl) (by kernel_rfl) (fun w hm => ⟨rfl, hm.pick [] (by kernel_rfl) (by kernel_rfl)⟩)

/-! ### laws.szFrame -/
noncomputable def laws_szFrame (a0 : GFrame) (left1 : Int) : Option (Int) := (laws_szHammerS a0.fHammers left1).bind fun t_1 => (if (decide (t_1 < 0)) = true then some (-1) else some t_1)
set_option maxRecDepth 100000 in
theorem laws_szFrame.calls (a0 : GFrame) (left1 : Int) (w : World) (r : Int) (a0_fHammers_a : Option Addr) (a0_fHammers_an : Nat) (a0_fHammers_c : Nat) (a0_fHammers_h : Rw w a0_fHammers_a 2 encGHammer a0.fHammers) (a0_fHammers_hn : a0.fHammers.length = a0_fHammers_an) (h : laws_szFrame a0 left1 = some r) :
    Calls Tryz.prog 6 #[(.agg #[(.int .i16 a0.fSteps), (.slice a0_fHammers_a a0_fHammers_an a0_fHammers_c)]), (.int .i64 left1)] w fun e w' => ∃ v, e = .returned v ∧ (v = (.int .i64 r) ∧ Mem w [] [] w') := by
  subst a0_fHammers_hn
  rw [laws_szFrame] at h
  refine enter (args := [(.agg #[(.int .i16 a0.fSteps), (.slice a0_fHammers_a a0.fHammers.length a0_fHammers_c)]), (.int .i64 left1)]) Tryz.func6 rfl Tryz.ntmps6 (by kernel_rfl) (L := []) (W := []) (Mem.start w) ?_
  refine jc_seq ?_
  refine jc_region ?_
  refine toO (by kernel_rfl) (p_a 0 [0] (by kernel_rfl) (fun b => by kernel_rfl) (fun b_1 => jkO ?_))
  refine jo_f [(0, 0)] (by kernel_rfl) ?_
  refine jo_end (by kernel_rfl) ?_
  refine jx_then ?_
  refine jc_seq ?_
  refine jc_region ?_
  refine jo_f [(0, 0), (0, 0), (0, 0)] (by kernel_rfl) ?_
  obtain ⟨t_1, ht_2, h⟩ := bd h
  refine toO (by kernel_rfl) (p_call 0 38 #[(.slice a0_fHammers_a a0.fHammers.length a0_fHammers_c), (.int .i64 left1)] (by kernel_rfl) (by kernel_rfl) (fun w hm => laws_szHammerS.calls a0.fHammers left1 w _ a0_fHammers_a a0.fHammers.length a0_fHammers_c (hm.exRow a0_fHammers_h List.not_mem_nil) rfl ht_2) ?_)
  rintro w v w' hm ⟨rfl, hm'⟩
  refine ⟨_, hm.app hm', jkO ?_⟩
  clear hm hm'
  refine jo_f [(0, 0)] (by kernel_rfl) ?_
  refine jo_end (by kernel_rfl) ?_
  refine jx_then ?_
  refine jc_seq ?_
  refine jc_seq ?_
  refine jc_region ?_
  refine jo_f [(0, 0), (0, 0)] (by kernel_rfl) ?_
  refine jo_end (by kernel_rfl) ?_
  refine jx_then ?_
  refine jc_cond (decide (t_1 < 0)) (by kernel_rfl) (fun hc_4 => ?_) (fun hc_4 => ?_)
  · replace h := ifT hc_4 h
    refine jc_seq ?_
    refine jc_region ?_
    refine jo_f [(0, 0)] (by kernel_rfl) ?_
    refine jo_end (by kernel_rfl) ?_
    refine jx_then ?_
    refine jc_ret ?_
    refine jx_thenr ?_
    obtain rfl := Option.some.inj h
    exact jx_ret [] (.int .i64 (-1)) [] rfl (by kernel_rfl) (by kernel_rfl) (fun w hm => ⟨rfl, hm.pick [] (by kernel_rfl) (by kernel_rfl)⟩)
  · replace h := ifF hc_4 h
    refine jc_skip ?_
    refine jx_then ?_
    refine jc_seq ?_
    refine jc_region ?_
    refine jo_f [(0, 0), (0, 0)] (by kernel_rfl) ?_
    refine jo_end (by kernel_rfl) ?_
    refine jx_then ?_
    refine jc_ret ?_
    obtain rfl := Option.some.inj h
    exact jx_ret [] (.int .i64 t_1) [] rfl (by kernel_rfl) (by kernel_rfl) (fun w hm => ⟨rfl, hm.pick [] (by kernel_rfl) (by kernel_rfl)⟩)

/-! ### laws.szWornPinS -/
noncomputable def laws_szWornPinS (a0 : List GWornPin) (left1 : Int) : Option (Int) := (if (decide ((w64 (left1 - (a0.length : Int))) < 0)) = true then some (-1) else some (w64 (left1 - (a0.length : Int))))
set_option maxRecDepth 100000 in
theorem laws_szWornPinS.calls (a0 : List GWornPin) (left1 : Int) (w : World) (r : Int) (a0_a : Option Addr) (a0_an : Nat) (a0_c : Nat) (a0_h : Rw w a0_a 3 encGWornPin a0) (a0_hn : a0.length = a0_an) (h : laws_szWornPinS a0 left1 = some r) :
    Calls Tryz.prog 39 #[(.slice a0_a a0_an a0_c), (.int .i64 left1)] w fun e w' => ∃ v, e = .returned v ∧ (v = (.int .i64 r) ∧ Mem w [] [] w') := by
  subst a0_hn
  rw [laws_szWornPinS] at h
  refine enter (args := [(.slice a0_a a0.length a0_c), (.int .i64 left1)]) Tryz.func39 rfl Tryz.ntmps39 (by kernel_rfl) (L := []) (W := []) (Mem.start w) ?_
  refine jc_seq ?_
  refine jc_region ?_
  refine jo_f [(0, 0)] (by kernel_rfl) ?_
  refine jo_end (by kernel_rfl) ?_
  refine jx_then ?_
  refine jc_seq ?_
  refine jc_region ?_
  refine jo_f [(0, 0), (0, 0), (0, 0), (0, 0), (0, 0)] (by kernel_rfl) ?_
  refine jo_end (by kernel_rfl) ?_
  refine jx_then ?_
  refine jc_seq ?_
  refine jc_seq ?_
  refine jc_region ?_
  refine jo_f [(0, 0), (0, 0)] (by kernel_rfl) ?_
  refine jo_end (by kernel_rfl) ?_
  refine jx_then ?_
  refine jc_cond (decide ((w64 (left1 - (a0.length : Int))) < 0)) (by kernel_rfl) (fun hc_2 => ?_) (fun hc_2 => ?_)
  · replace h := ifT hc_2 h
    refine jc_seq ?_
    refine jc_region ?_
    refine jo_f [(0, 0)] (by kernel_rfl) ?_
    refine jo_end (by kernel_rfl) ?_
    refine jx_then ?_
    refine jc_ret ?_
    refine jx_thenr ?_
    obtain rfl := Option.some.inj h
    exact jx_ret [] (.int .i64 (-1)) [] rfl (by kernel_rfl) (by kernel_rfl) (fun w hm => ⟨rfl, hm.pick [] (by kernel_rfl) (by kernel_rfl)⟩)
  · replace h := ifF hc_2 h
    refine jc_skip ?_
    refine jx_then ?_
    refine jc_seq ?_
    refine jc_region ?_
    refine jo_f [(0, 0), (0, 0)] (by kernel_rfl) ?_
    refine jo_end (by kernel_rfl) ?_
    refine jx_then ?_
    refine jc_ret ?_
    obtain rfl := Option.some.inj h
    exact jx_ret [] (.int .i64 (w64 (left1 - (a0.length : Int)))) [] rfl (by kernel_rfl) (by kernel_rfl) (fun w hm => ⟨rfl, hm.pick [] (by kernel_rfl) (by kernel_rfl)⟩)

/-! ### laws.szInt64S -/
noncomputable def laws_szInt64S (a0 : List Int) (left1 : Int) : Option (Int) := (if (decide ((w64 (left1 - (a0.length : Int))) < 0)) = true then some (-1) else some (w64 (left1 - (a0.length : Int))))
set_option maxRecDepth 100000 in
theorem laws_szInt64S.calls (a0 : List Int) (left1 : Int) (w : World) (r : Int) (a0_a : Option Addr) (a0_an : Nat) (a0_c : Nat) (a0_h : Rw w a0_a 1 encI64 a0) (a0_hn : a0.length = a0_an) (h : laws_szInt64S a0 left1 = some r) :
    Calls Tryz.prog 40 #[(.slice a0_a a0_an a0_c), (.int .i64 left1)] w fun e w' => ∃ v, e = .returned v ∧ (v = (.int .i64 r) ∧ Mem w [] [] w') := by
  subst a0_hn
  rw [laws_szInt64S] at h
  refine enter (args := [(.slice a0_a a0.length a0_c), (.int .i64 left1)]) Tryz.func40 rfl Tryz.ntmps40 (by kernel_rfl) (L := []) (W := []) (Mem.start w) ?_
  refine jc_seq ?_
  refine jc_region ?_
  refine jo_f [(0, 0)] (by kernel_rfl) ?_
  refine jo_end (by kernel_rfl) ?_
  refine jx_then ?_
  refine jc_seq ?_
  refine jc_region ?_
  refine jo_f [(0, 0), (0, 0), (0, 0), (0, 0), (0, 0)] (by kernel_rfl) ?_
  refine jo_end (by kernel_rfl) ?_
  refine jx_then ?_
  refine jc_seq ?_
  refine jc_seq ?_
  refine jc_region ?_
  refine jo_f [(0, 0), (0, 0)] (by kernel_rfl) ?_
  refine jo_end (by kernel_rfl) ?_
  refine jx_then ?_
  refine jc_cond (decide ((w64 (left1 - (a0.length : Int))) < 0)) (by kernel_rfl) (fun hc_2 => ?_) (fun hc_2 => ?_)
  · replace h := ifT hc_2 h
    refine jc_seq ?_
    refine jc_region ?_
    refine jo_f [(0, 0)] (by kernel_rfl) ?_
    refine jo_end (by kernel_rfl) ?_
    refine jx_then ?_
    refine jc_ret ?_
    refine jx_thenr ?_
    obtain rfl := Option.some.inj h
    exact jx_ret [] (.int .i64 (-1)) [] rfl (by kernel_rfl) (by kernel_rfl) (fun w hm => ⟨rfl, hm.pick [] (by kernel_rfl) (by kernel_rfl)⟩)
  · replace h := ifF hc_2 h
    refine jc_skip ?_
    refine jx_then ?_
    refine jc_seq ?_
    refine jc_region ?_
    refine jo_f [(0, 0), (0, 0)] (by kernel_rfl) ?_
    refine jo_end (by kernel_rfl) ?_
    refine jx_then ?_
    refine jc_ret ?_
    obtain rfl := Option.some.inj h
    exact jx_ret [] (.int .i64 (w64 (left1 - (a0.length : Int)))) [] rfl (by kernel_rfl) (by kernel_rfl) (fun w hm => ⟨rfl, hm.pick [] (by kernel_rfl) (by kernel_rfl)⟩)

/-! ### laws.szWear -/
noncomputable def laws_szWear (a0 : GWear) (left1 : Int) : Option (Int) := (laws_szWornPinS a0.fPins left1).bind fun t_1 => (if (decide (t_1 < 0)) = true then some (-1) else (laws_szInt64S a0.fStrokes t_1).bind fun t_2 => (if (decide (t_2 < 0)) = true then some (-1) else some t_2))
set_option maxRecDepth 100000 in
theorem laws_szWear.calls (a0 : GWear) (left1 : Int) (w : World) (r : Int) (a0_fPins_a : Option Addr) (a0_fPins_an : Nat) (a0_fPins_c : Nat) (a0_fPins_h : Rw w a0_fPins_a 3 encGWornPin a0.fPins) (a0_fPins_hn : a0.fPins.length = a0_fPins_an) (a0_fStrokes_a : Option Addr) (a0_fStrokes_an : Nat) (a0_fStrokes_c : Nat) (a0_fStrokes_h : Rw w a0_fStrokes_a 1 encI64 a0.fStrokes) (a0_fStrokes_hn : a0.fStrokes.length = a0_fStrokes_an) (h : laws_szWear a0 left1 = some r) :
    Calls Tryz.prog 7 #[(.agg #[(.slice a0_fPins_a a0_fPins_an a0_fPins_c), (.slice a0_fStrokes_a a0_fStrokes_an a0_fStrokes_c)]), (.int .i64 left1)] w fun e w' => ∃ v, e = .returned v ∧ (v = (.int .i64 r) ∧ Mem w [] [] w') := by
  subst a0_fPins_hn a0_fStrokes_hn
  rw [laws_szWear] at h
  refine enter (args := [(.agg #[(.slice a0_fPins_a a0.fPins.length a0_fPins_c), (.slice a0_fStrokes_a a0.fStrokes.length a0_fStrokes_c)]), (.int .i64 left1)]) Tryz.func7 rfl Tryz.ntmps7 (by kernel_rfl) (L := []) (W := []) (Mem.start w) ?_
  refine jc_seq ?_
  refine jc_region ?_
  refine toO (by kernel_rfl) (p_a 0 [0] (by kernel_rfl) (fun b => by kernel_rfl) (fun b_1 => jkO ?_))
  refine jo_f [(0, 0)] (by kernel_rfl) ?_
  refine jo_end (by kernel_rfl) ?_
  refine jx_then ?_
  refine jc_seq ?_
  refine jc_region ?_
  refine jo_f [(0, 0), (0, 0), (0, 0)] (by kernel_rfl) ?_
  obtain ⟨t_1, ht_2, h⟩ := bd h
  refine toO (by kernel_rfl) (p_call 0 39 #[(.slice a0_fPins_a a0.fPins.length a0_fPins_c), (.int .i64 left1)] (by kernel_rfl) (by kernel_rfl) (fun w hm => laws_szWornPinS.calls a0.fPins left1 w _ a0_fPins_a a0.fPins.length a0_fPins_c (hm.exRow a0_fPins_h List.not_mem_nil) rfl ht_2) ?_)
  rintro w v w' hm ⟨rfl, hm'⟩
  refine ⟨_, hm.app hm', jkO ?_⟩
  clear hm hm'
  refine jo_f [(0, 0)] (by kernel_rfl) ?_
  refine jo_end (by kernel_rfl) ?_
  refine jx_then ?_
  refine jc_seq ?_
  refine jc_seq ?_
  refine jc_region ?_
  refine jo_f [(0, 0), (0, 0)] (by kernel_rfl) ?_
  refine jo_end (by kernel_rfl) ?_
  refine jx_then ?_
  refine jc_cond (decide (t_1 < 0)) (by kernel_rfl) (fun hc_4 => ?_) (fun hc_4 => ?_)
  · replace h := ifT hc_4 h
    refine jc_seq ?_
    refine jc_region ?_
    refine jo_f [(0, 0)] (by kernel_rfl) ?_
    refine jo_end (by kernel_rfl) ?_
    refine jx_then ?_
    refine jc_ret ?_
    refine jx_thenr ?_
    obtain rfl := Option.some.inj h
    exact jx_ret [] (.int .i64 (-1)) [] rfl (by kernel_rfl) (by kernel_rfl) (fun w hm => ⟨rfl, hm.pick [] (by kernel_rfl) (by kernel_rfl)⟩)
  · replace h := ifF hc_4 h
    refine jc_skip ?_
    refine jx_then ?_
    refine jc_seq ?_
    refine jc_region ?_
    refine jo_f [(0, 0), (0, 0), (0, 0)] (by kernel_rfl) ?_
    obtain ⟨t_2, ht_5, h⟩ := bd h
    refine toO (by kernel_rfl) (p_call 0 40 #[(.slice a0_fStrokes_a a0.fStrokes.length a0_fStrokes_c), (.int .i64 t_1)] (by kernel_rfl) (by kernel_rfl) (fun w hm => laws_szInt64S.calls a0.fStrokes t_1 w _ a0_fStrokes_a a0.fStrokes.length a0_fStrokes_c (hm.exRow a0_fStrokes_h List.not_mem_nil) rfl ht_5) ?_)
    rintro w v w' hm ⟨rfl, hm'⟩
    refine ⟨_, hm.app hm', jkO ?_⟩
    clear hm hm'
    refine jo_f [(0, 0)] (by kernel_rfl) ?_
    refine jo_end (by kernel_rfl) ?_
    refine jx_then ?_
    refine jc_seq ?_
    refine jc_seq ?_
    refine jc_region ?_
    refine jo_f [(0, 0), (0, 0)] (by kernel_rfl) ?_
    refine jo_end (by kernel_rfl) ?_
    refine jx_then ?_
    refine jc_cond (decide (t_2 < 0)) (by kernel_rfl) (fun hc_7 => ?_) (fun hc_7 => ?_)
    · replace h := ifT hc_7 h
      refine jc_seq ?_
      refine jc_region ?_
      refine jo_f [(0, 0)] (by kernel_rfl) ?_
      refine jo_end (by kernel_rfl) ?_
      refine jx_then ?_
      refine jc_ret ?_
      refine jx_thenr ?_
      obtain rfl := Option.some.inj h
      exact jx_ret [] (.int .i64 (-1)) [] rfl (by kernel_rfl) (by kernel_rfl) (fun w hm => ⟨rfl, hm.pick [] (by kernel_rfl) (by kernel_rfl)⟩)
    · replace h := ifF hc_7 h
      refine jc_skip ?_
      refine jx_then ?_
      refine jc_seq ?_
      refine jc_region ?_
      refine jo_f [(0, 0), (0, 0)] (by kernel_rfl) ?_
      refine jo_end (by kernel_rfl) ?_
      refine jx_then ?_
      refine jc_ret ?_
      obtain rfl := Option.some.inj h
      exact jx_ret [] (.int .i64 t_2) [] rfl (by kernel_rfl) (by kernel_rfl) (fun w hm => ⟨rfl, hm.pick [] (by kernel_rfl) (by kernel_rfl)⟩)

/-! ### laws.szActS -/
noncomputable def laws_szActS (a0 : List GAct) (left1 : Int) : Option (Int) := (if (decide ((w64 (left1 - (a0.length : Int))) < 0)) = true then some (-1) else some (w64 (left1 - (a0.length : Int))))
set_option maxRecDepth 100000 in
theorem laws_szActS.calls (a0 : List GAct) (left1 : Int) (w : World) (r : Int) (a0_a : Option Addr) (a0_an : Nat) (a0_c : Nat) (a0_h : Rw w a0_a 5 encGAct a0) (a0_hn : a0.length = a0_an) (h : laws_szActS a0 left1 = some r) :
    Calls Tryz.prog 8 #[(.slice a0_a a0_an a0_c), (.int .i64 left1)] w fun e w' => ∃ v, e = .returned v ∧ (v = (.int .i64 r) ∧ Mem w [] [] w') := by
  subst a0_hn
  rw [laws_szActS] at h
  refine enter (args := [(.slice a0_a a0.length a0_c), (.int .i64 left1)]) Tryz.func8 rfl Tryz.ntmps8 (by kernel_rfl) (L := []) (W := []) (Mem.start w) ?_
  refine jc_seq ?_
  refine jc_region ?_
  refine jo_f [(0, 0)] (by kernel_rfl) ?_
  refine jo_end (by kernel_rfl) ?_
  refine jx_then ?_
  refine jc_seq ?_
  refine jc_region ?_
  refine jo_f [(0, 0), (0, 0), (0, 0), (0, 0), (0, 0)] (by kernel_rfl) ?_
  refine jo_end (by kernel_rfl) ?_
  refine jx_then ?_
  refine jc_seq ?_
  refine jc_seq ?_
  refine jc_region ?_
  refine jo_f [(0, 0), (0, 0)] (by kernel_rfl) ?_
  refine jo_end (by kernel_rfl) ?_
  refine jx_then ?_
  refine jc_cond (decide ((w64 (left1 - (a0.length : Int))) < 0)) (by kernel_rfl) (fun hc_2 => ?_) (fun hc_2 => ?_)
  · replace h := ifT hc_2 h
    refine jc_seq ?_
    refine jc_region ?_
    refine jo_f [(0, 0)] (by kernel_rfl) ?_
    refine jo_end (by kernel_rfl) ?_
    refine jx_then ?_
    refine jc_ret ?_
    refine jx_thenr ?_
    obtain rfl := Option.some.inj h
    exact jx_ret [] (.int .i64 (-1)) [] rfl (by kernel_rfl) (by kernel_rfl) (fun w hm => ⟨rfl, hm.pick [] (by kernel_rfl) (by kernel_rfl)⟩)
  · replace h := ifF hc_2 h
    refine jc_skip ?_
    refine jx_then ?_
    refine jc_seq ?_
    refine jc_region ?_
    refine jo_f [(0, 0), (0, 0)] (by kernel_rfl) ?_
    refine jo_end (by kernel_rfl) ?_
    refine jx_then ?_
    refine jc_ret ?_
    obtain rfl := Option.some.inj h
    exact jx_ret [] (.int .i64 (w64 (left1 - (a0.length : Int)))) [] rfl (by kernel_rfl) (by kernel_rfl) (fun w hm => ⟨rfl, hm.pick [] (by kernel_rfl) (by kernel_rfl)⟩)

/-! ### laws.toHammer -/
noncomputable def laws_toHammer (a0 : GHammer) : Option (GHammer) := some a0
set_option maxRecDepth 100000 in
theorem laws_toHammer.calls (a0 : GHammer) (w : World) (r : GHammer) (h : laws_toHammer a0 = some r) :
    Calls Tryz.prog 88 #[(.agg #[(.int .i8 a0.fPitch), (.int .i8 a0.fReady)])] w fun e w' => ∃ v, e = .returned v ∧ (v = .agg #[(.int .i8 r.fPitch), (.int .i8 r.fReady)] ∧ Mem w [] [] w') := by
  rw [laws_toHammer] at h
  refine enter (args := [(.agg #[(.int .i8 a0.fPitch), (.int .i8 a0.fReady)])]) Tryz.func88 rfl Tryz.ntmps88 (by kernel_rfl) (L := []) (W := []) (Mem.start w) ?_
  refine jc_seq ?_
  refine jc_region ?_
  refine toO (by kernel_rfl) (p_a 0 [0] (by kernel_rfl) (fun b => by kernel_rfl) (fun b_1 => jkO ?_))
  refine toO (by kernel_rfl) (p_a 0 [0] (by kernel_rfl) (fun b => by kernel_rfl) (fun b_2 => jkO ?_))
  refine jo_end (by kernel_rfl) ?_
  refine jx_then ?_
  refine jc_seq ?_
  refine jc_region ?_
  refine toO (by kernel_rfl) (p_a 0 [0] (by kernel_rfl) (fun b => by kernel_rfl) (fun b_3 => jkO ?_))
  refine jo_end (by kernel_rfl) ?_
  refine jx_then ?_
  refine jc_seq ?_
  refine jc_region ?_
  refine jo_f [(0, 0), (0, 0), (0, 0)] (by kernel_rfl) ?_
  refine toO (by kernel_rfl) (p_s 0 [2] (by kernel_rfl) (by kernel_rfl) (jkO ?_))
  refine jo_end (by kernel_rfl) ?_
  refine jx_then ?_
  refine jc_seq ?_
  refine jc_region ?_
  refine jo_f [(0, 0), (0, 0), (0, 0)] (by kernel_rfl) ?_
  refine toO (by kernel_rfl) (p_s 0 [2] (by kernel_rfl) (by kernel_rfl) (jkO ?_))
  refine jo_end (by kernel_rfl) ?_
  refine jx_then ?_
  refine jc_seq ?_
  refine jc_region ?_
  refine jo_f [(2, 0)] (by kernel_rfl) ?_
  refine toO (by kernel_rfl) (p_s 0 [1] (by kernel_rfl) (by kernel_rfl) (jkO ?_))
  refine jo_end (by kernel_rfl) ?_
  refine jx_then ?_
  refine jc_ret ?_
  obtain rfl := Option.some.inj h
  exact jx_ret [1] (.agg #[(.int .i8 a0.fPitch), (.int .i8 a0.fReady)]) [(b_2, b_2), (b_2, b_2)] rfl (by kernel_rfl) (by kernel_rfl) (fun w hm => ⟨rfl, hm.pick [] (by kernel_rfl) (by kernel_rfl)⟩)

/-! ### laws.toHammerS -/
noncomputable def laws_toHammerS.k_2 (xs_1 : List GHammer) : Option ((List GHammer)) := some xs_1
noncomputable def laws_toHammerS.l_5 (a0 : List GHammer) : ((List GHammer) × Int) → Option (((List GHammer) × Int) ⊕ ((List GHammer)))
  | (xs_3, i_4) => (if (decide (i_4 < (a0.length : Int))) = true then (ix a0 i_4).bind fun x_7 => (laws_toHammer x_7).bind fun t_8 => (ix xs_3 i_4).bind fun x_9 => some (.inl ((xs_3.set i_4.toNat t_8), (w64 (i_4 + 1)))) else some (.inr xs_3))
noncomputable def laws_toHammerS (a0 : List GHammer) : Option ((List GHammer)) := (if 0 ≤ (a0.length : Int) ∧ (a0.length : Int) ≤ 70368744177664 then (loop (laws_toHammerS.l_5 a0) ((List.replicate (a0.length : Int).toNat (⟨0, 0⟩ : GHammer)), 0)).bind fun t_6 => laws_toHammerS.k_2 t_6 else none)
set_option maxRecDepth 100000 in
theorem laws_toHammerS.calls (a0 : List GHammer) (w : World) (r : (List GHammer)) (a0_a : Option Addr) (a0_an : Nat) (a0_c : Nat) (a0_h : Rw w a0_a 2 encGHammer a0) (a0_hn : a0.length = a0_an) (h : laws_toHammerS a0 = some r) :
    Calls Tryz.prog 43 #[(.slice a0_a a0_an a0_c)] w fun e w' => ∃ v, e = .returned v ∧ (∃ (o0 : Option Nat) (c0 : Nat) (s0 : List Value) (n0 : Nat), r.length = n0 ∧ (o0 ≠ none → n0 ≤ c0 ∧ s0.length = (c0 - n0) * 2) ∧ (o0 = none → r = [] ∧ c0 = 0) ∧ v = .slice (o0.map fun b => ⟨b, 0, none⟩) n0 c0 ∧ Mem w [] [⟨o0, 137, row encGHammer r s0⟩] w') := by
  subst a0_hn
  rw [laws_toHammerS] at h
  refine enter (args := [(.slice a0_a a0.length a0_c)]) Tryz.func43 rfl Tryz.ntmps43 (by kernel_rfl) (L := []) (W := []) (Mem.start w) ?_
  refine jc_seq ?_
  refine jc_region ?_
  refine jo_f [(0, 0)] (by kernel_rfl) ?_
  refine jo_end (by kernel_rfl) ?_
  refine jx_then ?_
  refine jc_seq ?_
  refine jc_region ?_
  refine jo_f [(0, 0), (0, 0)] (by kernel_rfl) ?_
  obtain ⟨hg_88, h⟩ := gd h
  refine toO (by kernel_rfl) (p_mk 0 137 (a0.length : Int) 2 2 encGHammer (⟨0, 0⟩ : GHammer) (by kernel_rfl) (by kernel_rfl) hg_88.1 (by omega) (by kernel_rfl) (fun b_1 => jkO ?_))
  refine jo_f [(0, 0)] (by kernel_rfl) ?_
  refine jo_end (by kernel_rfl) ?_
  refine jx_then ?_
  refine jc_seq ?_
  refine jc_seq ?_
  refine jc_region ?_
  refine jo_f [(0, 0)] (by kernel_rfl) ?_
  refine jo_end (by kernel_rfl) ?_
  refine jx_then ?_
  refine jc_meet (fun (j : (List GHammer)) => match j with | xs_1 => laws_toHammerS.k_2 xs_1 = some r ∧ (xs_1.length = (a0.length : Int).toNat)) (fun (j : (List GHammer)) => match j with | xs_1 => [(2, [], (.slice none 0 0)), (3, [], (.slice (some ⟨b_1, 0, none⟩) ((a0.length : Int).toNat) ((a0.length : Int).toNat)))]) (fun (j : (List GHammer)) => match j with | xs_1 => [⟨(some b_1), 137, row encGHammer xs_1 []⟩]) ?_ ?_
  · refine jc_block ?_
    obtain ⟨t_6, ht_87, hr_79⟩ := bd h
    refine jc_loop (fun (s : (List GHammer) × Int) (x : Unit) => match s, x with | ⟨xs_3, i_4⟩, _ => (xs_3.length = (a0.length : Int).toNat)) (fun (s : (List GHammer) × Int) (x : Unit) => match s, x with | ⟨xs_3, i_4⟩, _ => [(0, [], (.slice a0_a a0.length a0_c)), (2, [], (.slice none 0 0)), (3, [], (.slice (some ⟨b_1, 0, none⟩) ((a0.length : Int).toNat) ((a0.length : Int).toNat))), (4, [], (.int .i64 i_4))]) (fun (s : (List GHammer) × Int) (x : Unit) => match s, x with | ⟨xs_3, i_4⟩, _ => [⟨(some b_1), 137, row encGHammer xs_3 []⟩]) ht_87 () List.length_replicate (by kernel_rfl) [0] (by kernel_rfl) (by kernel_rfl) ?_
    rintro ⟨xs_3, i_4⟩ _ y_80 hn_78 h
    rw [laws_toHammerS.l_5] at h
    refine jc_seq ?_
    refine jc_seq ?_
    refine jc_region ?_
    refine jo_f [(0, 0), (0, 0), (0, 0), (0, 0)] (by kernel_rfl) ?_
    refine jo_end (by kernel_rfl) ?_
    refine jx_then ?_
    refine jc_cond (decide (i_4 < (a0.length : Int))) (by kernel_rfl) (fun hc_82 => ?_) (fun hc_82 => ?_)
    · replace h := ifT hc_82 h
      refine jc_skip ?_
      refine jx_then ?_
      refine jc_seq ?_
      refine jc_block ?_
      refine jc_region ?_
      refine jo_f [(0, 0), (0, 0), (0, 0), (0, 0)] (by kernel_rfl) ?_
      obtain ⟨x_7, hx_83, h⟩ := bd h
      refine toO (by kernel_rfl) (p_idx 0 a0_a a0.length i_4 2 (by kernel_rfl) (by kernel_rfl) (ix_some hx_83).1 (ltn hx_83 rfl) (a0_h.sp hx_83) (jkO ?_))
      refine toO (by kernel_rfl) (p_ld 0 (aB a0_a) (aO a0_a + i_4.toNat * 2) true (encGHammer x_7) (by kernel_rfl) (by kernel_rfl) (by kernel_rfl) (fun w hm => ((hm.exRow a0_h List.not_mem_nil).at hx_83)) (jkO ?_))
      obtain ⟨t_8, ht_84, h⟩ := bd h
      refine toO (by kernel_rfl) (p_call 0 88 #[(.agg #[(.int .i8 x_7.fPitch), (.int .i8 x_7.fReady)])] (by kernel_rfl) (by kernel_rfl) (fun w hm => laws_toHammer.calls x_7 w _ ht_84) ?_)
      rintro w v w' hm ⟨rfl, hm'⟩
      refine ⟨_, hm.app hm', jkO ?_⟩
      clear hm hm'
      obtain ⟨x_9, hx_85, h⟩ := bd h
      refine toO (by kernel_rfl) (p_idx 0 (some ⟨b_1, 0, none⟩) ((a0.length : Int).toNat) i_4 2 (by kernel_rfl) (by kernel_rfl) (ix_some hx_85).1 (ltn hx_85 hn_78) rfl (jkO ?_))
      refine toO (by kernel_rfl) (p_str 0 0 b_1 137 encGHammer xs_3 [] i_4 t_8 2 0 [(.int .i8 t_8.fPitch), (.int .i8 t_8.fReady)] (by kernel_rfl) (by kernel_rfl) (by kernel_rfl) encGHammer_len hx_85 (by kernel_rfl) (by kernel_rfl) (jkO ?_))
      refine jo_end (by kernel_rfl) ?_
      refine jx_inn ?_
      refine jx_then ?_
      refine jc_region ?_
      refine jo_f [(0, 0), (0, 0), (0, 0)] (by kernel_rfl) ?_
      refine jo_end (by kernel_rfl) ?_
      exact jx_back ((xs_3.set i_4.toNat t_8), (w64 (i_4 + 1))) () (Option.some.inj h).symm (List.length_set.trans hn_78) [0] (by kernel_rfl) (by kernel_rfl) (by kernel_rfl)
    · replace h := ifF hc_82 h
      refine jc_exit ?_
      refine jx_thenx ?_
      refine jx_leave xs_3 (Option.some.inj h).symm (fun e_86 => ?_)
      subst e_86
      refine jx_ine ?_
      exact jx_meet xs_3 ⟨hr_79, hn_78⟩ (by kernel_rfl) [0] (by kernel_rfl) (by kernel_rfl)
  · rintro xs_1 ⟨h, hn_66⟩
    replace h : laws_toHammerS.k_2 xs_1 = some r := h
    rw [laws_toHammerS.k_2] at h
    refine jx_then ?_
    refine jc_seq ?_
    refine jc_region ?_
    refine jo_f [(0, 0), (0, 0)] (by kernel_rfl) ?_
    refine jo_end (by kernel_rfl) ?_
    refine jx_then ?_
    refine jc_ret ?_
    obtain rfl := Option.some.inj h
    exact jx_ret [] (.slice (some ⟨b_1, 0, none⟩) ((a0.length : Int).toNat) ((a0.length : Int).toNat)) [] rfl (by kernel_rfl) (by kernel_rfl) (fun w hm => ⟨(some b_1), ((a0.length : Int).toNat), [], ((a0.length : Int).toNat), hn_66, (fun _ => ⟨Nat.le_refl _, by simp⟩), (fun e => nomatch e), rfl, hm.pick [0] (by kernel_rfl) (by kernel_rfl)⟩)

/-! ### laws.toFrame -/
noncomputable def laws_toFrame (a0 : GFrame) : Option (GFrame) := (laws_toHammerS a0.fHammers).bind fun t_1 => some (⟨a0.fSteps, t_1⟩ : GFrame)
set_option maxRecDepth 100000 in
theorem laws_toFrame.calls (a0 : GFrame) (w : World) (r : GFrame) (a0_fHammers_a : Option Addr) (a0_fHammers_an : Nat) (a0_fHammers_c : Nat) (a0_fHammers_h : Rw w a0_fHammers_a 2 encGHammer a0.fHammers) (a0_fHammers_hn : a0.fHammers.length = a0_fHammers_an) (h : laws_toFrame a0 = some r) :
    Calls Tryz.prog 10 #[(.agg #[(.int .i16 a0.fSteps), (.slice a0_fHammers_a a0_fHammers_an a0_fHammers_c)])] w fun e w' => ∃ v, e = .returned v ∧ (∃ (o0 : Option Nat) (c0 : Nat) (s0 : List Value) (n0 : Nat), r.fHammers.length = n0 ∧ (o0 ≠ none → n0 ≤ c0 ∧ s0.length = (c0 - n0) * 2) ∧ (o0 = none → r.fHammers = [] ∧ c0 = 0) ∧ v = .agg #[(.int .i16 r.fSteps), .slice (o0.map fun b => ⟨b, 0, none⟩) n0 c0] ∧ Mem w [] [⟨o0, 137, row encGHammer r.fHammers s0⟩] w') := by
  subst a0_fHammers_hn
  rw [laws_toFrame] at h
  refine enter (args := [(.agg #[(.int .i16 a0.fSteps), (.slice a0_fHammers_a a0.fHammers.length a0_fHammers_c)])]) Tryz.func10 rfl Tryz.ntmps10 (by kernel_rfl) (L := []) (W := []) (Mem.start w) ?_
  refine jc_seq ?_
  refine jc_region ?_
  refine toO (by kernel_rfl) (p_a 0 [0] (by kernel_rfl) (fun b => by kernel_rfl) (fun b_1 => jkO ?_))
  refine toO (by kernel_rfl) (p_a 0 [0] (by kernel_rfl) (fun b => by kernel_rfl) (fun b_2 => jkO ?_))
  refine jo_end (by kernel_rfl) ?_
  refine jx_then ?_
  refine jc_seq ?_
  refine jc_region ?_
  refine toO (by kernel_rfl) (p_a 0 [0] (by kernel_rfl) (fun b => by kernel_rfl) (fun b_3 => jkO ?_))
  refine jo_end (by kernel_rfl) ?_
  refine jx_then ?_
  refine jc_seq ?_
  refine jc_region ?_
  refine jo_f [(0, 0), (0, 0), (0, 0)] (by kernel_rfl) ?_
  refine toO (by kernel_rfl) (p_s 0 [2] (by kernel_rfl) (by kernel_rfl) (jkO ?_))
  refine jo_end (by kernel_rfl) ?_
  refine jx_then ?_
  refine jc_seq ?_
  refine jc_region ?_
  refine jo_f [(0, 0), (0, 0)] (by kernel_rfl) ?_
  obtain ⟨t_1, ht_4, h⟩ := bd h
  refine toO (by kernel_rfl) (p_call 0 43 #[(.slice a0_fHammers_a a0.fHammers.length a0_fHammers_c)] (by kernel_rfl) (by kernel_rfl) (fun w hm => laws_toHammerS.calls a0.fHammers w _ a0_fHammers_a a0.fHammers.length a0_fHammers_c (hm.exRow a0_fHammers_h List.not_mem_nil) rfl ht_4) ?_)
  rintro w v w' hm ⟨o_5, cap_6, sp_7, _, rfl, hs_8, ho_9, rfl, hm'⟩
  refine ⟨_, hm.app hm', jkO ?_⟩
  clear hm hm'
  refine jo_f [(0, 0)] (by kernel_rfl) ?_
  refine toO (by kernel_rfl) (p_s 0 [2] (by kernel_rfl) (by kernel_rfl) (jkO ?_))
  refine jo_end (by kernel_rfl) ?_
  refine jx_then ?_
  refine jc_seq ?_
  refine jc_region ?_
  refine jo_f [(2, 0)] (by kernel_rfl) ?_
  refine toO (by kernel_rfl) (p_s 0 [1] (by kernel_rfl) (by kernel_rfl) (jkO ?_))
  refine jo_end (by kernel_rfl) ?_
  refine jx_then ?_
  refine jc_ret ?_
  obtain rfl := Option.some.inj h
  exact jx_ret [1] (.agg #[(.int .i16 a0.fSteps), (.slice (o_5.map fun b => ⟨b, 0, none⟩) t_1.length cap_6)]) [(b_2, b_2), (b_2, b_2)] rfl (by kernel_rfl) (by kernel_rfl) (fun w hm => ⟨o_5, cap_6, sp_7, t_1.length, rfl, hs_8, ho_9, rfl, hm.pick [3] (by kernel_rfl) (by kernel_rfl)⟩)

/-! ### laws.toWornPin -/
noncomputable def laws_toWornPin (a0 : GWornPin) : Option (GWornPin) := some a0
set_option maxRecDepth 100000 in
theorem laws_toWornPin.calls (a0 : GWornPin) (w : World) (r : GWornPin) (h : laws_toWornPin a0 = some r) :
    Calls Tryz.prog 89 #[(.agg #[(.int .i8 a0.fStep), (.int .i8 a0.fTrack), (.int .i64 a0.fTurns)])] w fun e w' => ∃ v, e = .returned v ∧ (v = .agg #[(.int .i8 r.fStep), (.int .i8 r.fTrack), (.int .i64 r.fTurns)] ∧ Mem w [] [] w') := by
  rw [laws_toWornPin] at h
  refine enter (args := [(.agg #[(.int .i8 a0.fStep), (.int .i8 a0.fTrack), (.int .i64 a0.fTurns)])]) Tryz.func89 rfl Tryz.ntmps89 (by kernel_rfl) (L := []) (W := []) (Mem.start w) ?_
  refine jc_seq ?_
  refine jc_region ?_
  refine toO (by kernel_rfl) (p_a 0 [0] (by kernel_rfl) (fun b => by kernel_rfl) (fun b_1 => jkO ?_))
  refine toO (by kernel_rfl) (p_a 0 [0] (by kernel_rfl) (fun b => by kernel_rfl) (fun b_2 => jkO ?_))
  refine jo_end (by kernel_rfl) ?_
  refine jx_then ?_
  refine jc_seq ?_
  refine jc_region ?_
  refine toO (by kernel_rfl) (p_a 0 [0] (by kernel_rfl) (fun b => by kernel_rfl) (fun b_3 => jkO ?_))
  refine jo_end (by kernel_rfl) ?_
  refine jx_then ?_
  refine jc_seq ?_
  refine jc_region ?_
  refine jo_f [(0, 0), (0, 0), (0, 0)] (by kernel_rfl) ?_
  refine toO (by kernel_rfl) (p_s 0 [2] (by kernel_rfl) (by kernel_rfl) (jkO ?_))
  refine jo_end (by kernel_rfl) ?_
  refine jx_then ?_
  refine jc_seq ?_
  refine jc_region ?_
  refine jo_f [(0, 0), (0, 0), (0, 0)] (by kernel_rfl) ?_
  refine toO (by kernel_rfl) (p_s 0 [2] (by kernel_rfl) (by kernel_rfl) (jkO ?_))
  refine jo_end (by kernel_rfl) ?_
  refine jx_then ?_
  refine jc_seq ?_
  refine jc_region ?_
  refine jo_f [(0, 0), (0, 0), (0, 0)] (by kernel_rfl) ?_
  refine toO (by kernel_rfl) (p_s 0 [2] (by kernel_rfl) (by kernel_rfl) (jkO ?_))
  refine jo_end (by kernel_rfl) ?_
  refine jx_then ?_
  refine jc_seq ?_
  refine jc_region ?_
  refine jo_f [(2, 0)] (by kernel_rfl) ?_
  refine toO (by kernel_rfl) (p_s 0 [1] (by kernel_rfl) (by kernel_rfl) (jkO ?_))
  refine jo_end (by kernel_rfl) ?_
  refine jx_then ?_
  refine jc_ret ?_
  obtain rfl := Option.some.inj h
  exact jx_ret [1] (.agg #[(.int .i8 a0.fStep), (.int .i8 a0.fTrack), (.int .i64 a0.fTurns)]) [(b_2, b_2), (b_2, b_2), (b_2, b_2)] rfl (by kernel_rfl) (by kernel_rfl) (fun w hm => ⟨rfl, hm.pick [] (by kernel_rfl) (by kernel_rfl)⟩)

/-! ### laws.toWornPinS -/
noncomputable def laws_toWornPinS.k_2 (xs_1 : List GWornPin) : Option ((List GWornPin)) := some xs_1
noncomputable def laws_toWornPinS.l_5 (a0 : List GWornPin) : ((List GWornPin) × Int) → Option (((List GWornPin) × Int) ⊕ ((List GWornPin)))
  | (xs_3, i_4) => (if (decide (i_4 < (a0.length : Int))) = true then (ix a0 i_4).bind fun x_7 => (laws_toWornPin x_7).bind fun t_8 => (ix xs_3 i_4).bind fun x_9 => some (.inl ((xs_3.set i_4.toNat t_8), (w64 (i_4 + 1)))) else some (.inr xs_3))
noncomputable def laws_toWornPinS (a0 : List GWornPin) : Option ((List GWornPin)) := (if 0 ≤ (a0.length : Int) ∧ (a0.length : Int) ≤ 8796093022208 then (loop (laws_toWornPinS.l_5 a0) ((List.replicate (a0.length : Int).toNat (⟨0, 0, 0⟩ : GWornPin)), 0)).bind fun t_6 => laws_toWornPinS.k_2 t_6 else none)
set_option maxRecDepth 100000 in
theorem laws_toWornPinS.calls (a0 : List GWornPin) (w : World) (r : (List GWornPin)) (a0_a : Option Addr) (a0_an : Nat) (a0_c : Nat) (a0_h : Rw w a0_a 3 encGWornPin a0) (a0_hn : a0.length = a0_an) (h : laws_toWornPinS a0 = some r) :
    Calls Tryz.prog 44 #[(.slice a0_a a0_an a0_c)] w fun e w' => ∃ v, e = .returned v ∧ (∃ (o0 : Option Nat) (c0 : Nat) (s0 : List Value) (n0 : Nat), r.length = n0 ∧ (o0 ≠ none → n0 ≤ c0 ∧ s0.length = (c0 - n0) * 3) ∧ (o0 = none → r = [] ∧ c0 = 0) ∧ v = .slice (o0.map fun b => ⟨b, 0, none⟩) n0 c0 ∧ Mem w [] [⟨o0, 75, row encGWornPin r s0⟩] w') := by
  subst a0_hn
  rw [laws_toWornPinS] at h
  refine enter (args := [(.slice a0_a a0.length a0_c)]) Tryz.func44 rfl Tryz.ntmps44 (by kernel_rfl) (L := []) (W := []) (Mem.start w) ?_
  refine jc_seq ?_
  refine jc_region ?_
  refine jo_f [(0, 0)] (by kernel_rfl) ?_
  refine jo_end (by kernel_rfl) ?_
  refine jx_then ?_
  refine jc_seq ?_
  refine jc_region ?_
  refine jo_f [(0, 0), (0, 0)] (by kernel_rfl) ?_
  obtain ⟨hg_88, h⟩ := gd h
  refine toO (by kernel_rfl) (p_mk 0 75 (a0.length : Int) 3 16 encGWornPin (⟨0, 0, 0⟩ : GWornPin) (by kernel_rfl) (by kernel_rfl) hg_88.1 (by omega) (by kernel_rfl) (fun b_1 => jkO ?_))
  refine jo_f [(0, 0)] (by kernel_rfl) ?_
  refine jo_end (by kernel_rfl) ?_
  refine jx_then ?_
  refine jc_seq ?_
  refine jc_seq ?_
  refine jc_region ?_
  refine jo_f [(0, 0)] (by kernel_rfl) ?_
  refine jo_end (by kernel_rfl) ?_
  refine jx_then ?_
  refine jc_meet (fun (j : (List GWornPin)) => match j with | xs_1 => laws_toWornPinS.k_2 xs_1 = some r ∧ (xs_1.length = (a0.length : Int).toNat)) (fun (j : (List GWornPin)) => match j with | xs_1 => [(2, [], (.slice none 0 0)), (3, [], (.slice (some ⟨b_1, 0, none⟩) ((a0.length : Int).toNat) ((a0.length : Int).toNat)))]) (fun (j : (List GWornPin)) => match j with | xs_1 => [⟨(some b_1), 75, row encGWornPin xs_1 []⟩]) ?_ ?_
  · refine jc_block ?_
    obtain ⟨t_6, ht_87, hr_79⟩ := bd h
    refine jc_loop (fun (s : (List GWornPin) × Int) (x : Unit) => match s, x with | ⟨xs_3, i_4⟩, _ => (xs_3.length = (a0.length : Int).toNat)) (fun (s : (List GWornPin) × Int) (x : Unit) => match s, x with | ⟨xs_3, i_4⟩, _ => [(0, [], (.slice a0_a a0.length a0_c)), (2, [], (.slice none 0 0)), (3, [], (.slice (some ⟨b_1, 0, none⟩) ((a0.length : Int).toNat) ((a0.length : Int).toNat))), (4, [], (.int .i64 i_4))]) (fun (s : (List GWornPin) × Int) (x : Unit) => match s, x with | ⟨xs_3, i_4⟩, _ => [⟨(some b_1), 75, row encGWornPin xs_3 []⟩]) ht_87 () List.length_replicate (by kernel_rfl) [0] (by kernel_rfl) (by kernel_rfl) ?_
    rintro ⟨xs_3, i_4⟩ _ y_80 hn_78 h
    rw [laws_toWornPinS.l_5] at h
    refine jc_seq ?_
    refine jc_seq ?_
    refine jc_region ?_
    refine jo_f [(0, 0), (0, 0), (0, 0), (0, 0)] (by kernel_rfl) ?_
    refine jo_end (by kernel_rfl) ?_
    refine jx_then ?_
    refine jc_cond (decide (i_4 < (a0.length : Int))) (by kernel_rfl) (fun hc_82 => ?_) (fun hc_82 => ?_)
    · replace h := ifT hc_82 h
      refine jc_skip ?_
      refine jx_then ?_
      refine jc_seq ?_
      refine jc_block ?_
      refine jc_region ?_
      refine jo_f [(0, 0), (0, 0), (0, 0), (0, 0)] (by kernel_rfl) ?_
      obtain ⟨x_7, hx_83, h⟩ := bd h
      refine toO (by kernel_rfl) (p_idx 0 a0_a a0.length i_4 3 (by kernel_rfl) (by kernel_rfl) (ix_some hx_83).1 (ltn hx_83 rfl) (a0_h.sp hx_83) (jkO ?_))
      refine toO (by kernel_rfl) (p_ld 0 (aB a0_a) (aO a0_a + i_4.toNat * 3) true (encGWornPin x_7) (by kernel_rfl) (by kernel_rfl) (by kernel_rfl) (fun w hm => ((hm.exRow a0_h List.not_mem_nil).at hx_83)) (jkO ?_))
      obtain ⟨t_8, ht_84, h⟩ := bd h
      refine toO (by kernel_rfl) (p_call 0 89 #[(.agg #[(.int .i8 x_7.fStep), (.int .i8 x_7.fTrack), (.int .i64 x_7.fTurns)])] (by kernel_rfl) (by kernel_rfl) (fun w hm => laws_toWornPin.calls x_7 w _ ht_84) ?_)
      rintro w v w' hm ⟨rfl, hm'⟩
      refine ⟨_, hm.app hm', jkO ?_⟩
      clear hm hm'
      obtain ⟨x_9, hx_85, h⟩ := bd h
      refine toO (by kernel_rfl) (p_idx 0 (some ⟨b_1, 0, none⟩) ((a0.length : Int).toNat) i_4 3 (by kernel_rfl) (by kernel_rfl) (ix_some hx_85).1 (ltn hx_85 hn_78) rfl (jkO ?_))
      refine toO (by kernel_rfl) (p_str 0 0 b_1 75 encGWornPin xs_3 [] i_4 t_8 3 0 [(.int .i8 t_8.fStep), (.int .i8 t_8.fTrack), (.int .i64 t_8.fTurns)] (by kernel_rfl) (by kernel_rfl) (by kernel_rfl) encGWornPin_len hx_85 (by kernel_rfl) (by kernel_rfl) (jkO ?_))
      refine jo_end (by kernel_rfl) ?_
      refine jx_inn ?_
      refine jx_then ?_
      refine jc_region ?_
      refine jo_f [(0, 0), (0, 0), (0, 0)] (by kernel_rfl) ?_
      refine jo_end (by kernel_rfl) ?_
      exact jx_back ((xs_3.set i_4.toNat t_8), (w64 (i_4 + 1))) () (Option.some.inj h).symm (List.length_set.trans hn_78) [0] (by kernel_rfl) (by kernel_rfl) (by kernel_rfl)
    · replace h := ifF hc_82 h
      refine jc_exit ?_
      refine jx_thenx ?_
      refine jx_leave xs_3 (Option.some.inj h).symm (fun e_86 => ?_)
      subst e_86
      refine jx_ine ?_
      exact jx_meet xs_3 ⟨hr_79, hn_78⟩ (by kernel_rfl) [0] (by kernel_rfl) (by kernel_rfl)
  · rintro xs_1 ⟨h, hn_66⟩
    replace h : laws_toWornPinS.k_2 xs_1 = some r := h
    rw [laws_toWornPinS.k_2] at h
    refine jx_then ?_
    refine jc_seq ?_
    refine jc_region ?_
    refine jo_f [(0, 0), (0, 0)] (by kernel_rfl) ?_
    refine jo_end (by kernel_rfl) ?_
    refine jx_then ?_
    refine jc_ret ?_
    obtain rfl := Option.some.inj h
    exact jx_ret [] (.slice (some ⟨b_1, 0, none⟩) ((a0.length : Int).toNat) ((a0.length : Int).toNat)) [] rfl (by kernel_rfl) (by kernel_rfl) (fun w hm => ⟨(some b_1), ((a0.length : Int).toNat), [], ((a0.length : Int).toNat), hn_66, (fun _ => ⟨Nat.le_refl _, by simp⟩), (fun e => nomatch e), rfl, hm.pick [0] (by kernel_rfl) (by kernel_rfl)⟩)

/-! ### laws.toInt64S -/
noncomputable def laws_toInt64S.k_2 (xs_1 : List Int) : Option ((List Int)) := some xs_1
noncomputable def laws_toInt64S.l_5 (a0 : List Int) : ((List Int) × Int) → Option (((List Int) × Int) ⊕ ((List Int)))
  | (xs_3, i_4) => (if (decide (i_4 < (a0.length : Int))) = true then (ix a0 i_4).bind fun x_7 => (ix xs_3 i_4).bind fun x_8 => some (.inl ((xs_3.set i_4.toNat x_7), (w64 (i_4 + 1)))) else some (.inr xs_3))
noncomputable def laws_toInt64S (a0 : List Int) : Option ((List Int)) := (if 0 ≤ (a0.length : Int) ∧ (a0.length : Int) ≤ 17592186044416 then (loop (laws_toInt64S.l_5 a0) ((List.replicate (a0.length : Int).toNat 0), 0)).bind fun t_6 => laws_toInt64S.k_2 t_6 else none)
set_option maxRecDepth 100000 in
theorem laws_toInt64S.calls (a0 : List Int) (w : World) (r : (List Int)) (a0_a : Option Addr) (a0_an : Nat) (a0_c : Nat) (a0_h : Rw w a0_a 1 encI64 a0) (a0_hn : a0.length = a0_an) (h : laws_toInt64S a0 = some r) :
    Calls Tryz.prog 45 #[(.slice a0_a a0_an a0_c)] w fun e w' => ∃ v, e = .returned v ∧ (∃ (o0 : Option Nat) (c0 : Nat) (s0 : List Value) (n0 : Nat), r.length = n0 ∧ (o0 ≠ none → n0 ≤ c0 ∧ s0.length = (c0 - n0) * 1) ∧ (o0 = none → r = [] ∧ c0 = 0) ∧ v = .slice (o0.map fun b => ⟨b, 0, none⟩) n0 c0 ∧ Mem w [] [⟨o0, 2, row encI64 r s0⟩] w') := by
  subst a0_hn
  rw [laws_toInt64S] at h
  refine enter (args := [(.slice a0_a a0.length a0_c)]) Tryz.func45 rfl Tryz.ntmps45 (by kernel_rfl) (L := []) (W := []) (Mem.start w) ?_
  refine jc_seq ?_
  refine jc_region ?_
  refine jo_f [(0, 0)] (by kernel_rfl) ?_
  refine jo_end (by kernel_rfl) ?_
  refine jx_then ?_
  refine jc_seq ?_
  refine jc_region ?_
  refine jo_f [(0, 0), (0, 0)] (by kernel_rfl) ?_
  obtain ⟨hg_76, h⟩ := gd h
  refine toO (by kernel_rfl) (p_mk 0 2 (a0.length : Int) 1 8 encI64 0 (by kernel_rfl) (by kernel_rfl) hg_76.1 (by omega) (by kernel_rfl) (fun b_1 => jkO ?_))
  refine jo_f [(0, 0)] (by kernel_rfl) ?_
  refine jo_end (by kernel_rfl) ?_
  refine jx_then ?_
  refine jc_seq ?_
  refine jc_seq ?_
  refine jc_region ?_
  refine jo_f [(0, 0)] (by kernel_rfl) ?_
  refine jo_end (by kernel_rfl) ?_
  refine jx_then ?_
  refine jc_meet (fun (j : (List Int)) => match j with | xs_1 => laws_toInt64S.k_2 xs_1 = some r ∧ (xs_1.length = (a0.length : Int).toNat)) (fun (j : (List Int)) => match j with | xs_1 => [(2, [], (.slice none 0 0)), (3, [], (.slice (some ⟨b_1, 0, none⟩) ((a0.length : Int).toNat) ((a0.length : Int).toNat)))]) (fun (j : (List Int)) => match j with | xs_1 => [⟨(some b_1), 2, row encI64 xs_1 []⟩]) ?_ ?_
  · refine jc_block ?_
    obtain ⟨t_6, ht_75, hr_68⟩ := bd h
    refine jc_loop (fun (s : (List Int) × Int) (x : Unit) => match s, x with | ⟨xs_3, i_4⟩, _ => (xs_3.length = (a0.length : Int).toNat)) (fun (s : (List Int) × Int) (x : Unit) => match s, x with | ⟨xs_3, i_4⟩, _ => [(0, [], (.slice a0_a a0.length a0_c)), (2, [], (.slice none 0 0)), (3, [], (.slice (some ⟨b_1, 0, none⟩) ((a0.length : Int).toNat) ((a0.length : Int).toNat))), (4, [], (.int .i64 i_4))]) (fun (s : (List Int) × Int) (x : Unit) => match s, x with | ⟨xs_3, i_4⟩, _ => [⟨(some b_1), 2, row encI64 xs_3 []⟩]) ht_75 () List.length_replicate (by kernel_rfl) [0] (by kernel_rfl) (by kernel_rfl) ?_
    rintro ⟨xs_3, i_4⟩ _ y_69 hn_67 h
    rw [laws_toInt64S.l_5] at h
    refine jc_seq ?_
    refine jc_seq ?_
    refine jc_region ?_
    refine jo_f [(0, 0), (0, 0), (0, 0), (0, 0)] (by kernel_rfl) ?_
    refine jo_end (by kernel_rfl) ?_
    refine jx_then ?_
    refine jc_cond (decide (i_4 < (a0.length : Int))) (by kernel_rfl) (fun hc_71 => ?_) (fun hc_71 => ?_)
    · replace h := ifT hc_71 h
      refine jc_skip ?_
      refine jx_then ?_
      refine jc_seq ?_
      refine jc_block ?_
      refine jc_region ?_
      refine jo_f [(0, 0), (0, 0), (0, 0), (0, 0)] (by kernel_rfl) ?_
      obtain ⟨x_7, hx_72, h⟩ := bd h
      refine toO (by kernel_rfl) (p_idx 0 a0_a a0.length i_4 1 (by kernel_rfl) (by kernel_rfl) (ix_some hx_72).1 (ltn hx_72 rfl) (a0_h.sp hx_72) (jkO ?_))
      refine toO (by kernel_rfl) (p_ld 0 (aB a0_a) (aO a0_a + i_4.toNat * 1) false (encI64 x_7) (by kernel_rfl) (by kernel_rfl) (by kernel_rfl) (fun w hm => ((hm.exRow a0_h List.not_mem_nil).at hx_72)) (jkO ?_))
      obtain ⟨x_8, hx_73, h⟩ := bd h
      refine toO (by kernel_rfl) (p_idx 0 (some ⟨b_1, 0, none⟩) ((a0.length : Int).toNat) i_4 1 (by kernel_rfl) (by kernel_rfl) (ix_some hx_73).1 (ltn hx_73 hn_67) rfl (jkO ?_))
      refine toO (by kernel_rfl) (p_str 0 0 b_1 2 encI64 xs_3 [] i_4 x_7 1 0 [(.int .i64 x_7)] (by kernel_rfl) (by kernel_rfl) (by kernel_rfl) encI64_len hx_73 (by kernel_rfl) (by kernel_rfl) (jkO ?_))
      refine jo_end (by kernel_rfl) ?_
      refine jx_inn ?_
      refine jx_then ?_
      refine jc_region ?_
      refine jo_f [(0, 0), (0, 0), (0, 0)] (by kernel_rfl) ?_
      refine jo_end (by kernel_rfl) ?_
      exact jx_back ((xs_3.set i_4.toNat x_7), (w64 (i_4 + 1))) () (Option.some.inj h).symm (List.length_set.trans hn_67) [0] (by kernel_rfl) (by kernel_rfl) (by kernel_rfl)
    · replace h := ifF hc_71 h
      refine jc_exit ?_
      refine jx_thenx ?_
      refine jx_leave xs_3 (Option.some.inj h).symm (fun e_74 => ?_)
      subst e_74
      refine jx_ine ?_
      exact jx_meet xs_3 ⟨hr_68, hn_67⟩ (by kernel_rfl) [0] (by kernel_rfl) (by kernel_rfl)
  · rintro xs_1 ⟨h, hn_57⟩
    replace h : laws_toInt64S.k_2 xs_1 = some r := h
    rw [laws_toInt64S.k_2] at h
    refine jx_then ?_
    refine jc_seq ?_
    refine jc_region ?_
    refine jo_f [(0, 0), (0, 0)] (by kernel_rfl) ?_
    refine jo_end (by kernel_rfl) ?_
    refine jx_then ?_
    refine jc_ret ?_
    obtain rfl := Option.some.inj h
    exact jx_ret [] (.slice (some ⟨b_1, 0, none⟩) ((a0.length : Int).toNat) ((a0.length : Int).toNat)) [] rfl (by kernel_rfl) (by kernel_rfl) (fun w hm => ⟨(some b_1), ((a0.length : Int).toNat), [], ((a0.length : Int).toNat), hn_57, (fun _ => ⟨Nat.le_refl _, by simp⟩), (fun e => nomatch e), rfl, hm.pick [0] (by kernel_rfl) (by kernel_rfl)⟩)

/-! ### laws.toWear -/
noncomputable def laws_toWear (a0 : GWear) : Option (GWear) := (laws_toWornPinS a0.fPins).bind fun t_1 => (laws_toInt64S a0.fStrokes).bind fun t_2 => some (⟨t_1, t_2⟩ : GWear)
set_option maxRecDepth 100000 in
theorem laws_toWear.calls (a0 : GWear) (w : World) (r : GWear) (a0_fPins_a : Option Addr) (a0_fPins_an : Nat) (a0_fPins_c : Nat) (a0_fPins_h : Rw w a0_fPins_a 3 encGWornPin a0.fPins) (a0_fPins_hn : a0.fPins.length = a0_fPins_an) (a0_fStrokes_a : Option Addr) (a0_fStrokes_an : Nat) (a0_fStrokes_c : Nat) (a0_fStrokes_h : Rw w a0_fStrokes_a 1 encI64 a0.fStrokes) (a0_fStrokes_hn : a0.fStrokes.length = a0_fStrokes_an) (h : laws_toWear a0 = some r) :
    Calls Tryz.prog 11 #[(.agg #[(.slice a0_fPins_a a0_fPins_an a0_fPins_c), (.slice a0_fStrokes_a a0_fStrokes_an a0_fStrokes_c)])] w fun e w' => ∃ v, e = .returned v ∧ (∃ (o0 : Option Nat) (c0 : Nat) (s0 : List Value) (n0 : Nat), r.fPins.length = n0 ∧ (o0 ≠ none → n0 ≤ c0 ∧ s0.length = (c0 - n0) * 3) ∧ (o0 = none → r.fPins = [] ∧ c0 = 0) ∧ ∃ (o1 : Option Nat) (c1 : Nat) (s1 : List Value) (n1 : Nat), r.fStrokes.length = n1 ∧ (o1 ≠ none → n1 ≤ c1 ∧ s1.length = (c1 - n1) * 1) ∧ (o1 = none → r.fStrokes = [] ∧ c1 = 0) ∧ v = .agg #[.slice (o0.map fun b => ⟨b, 0, none⟩) n0 c0, .slice (o1.map fun b => ⟨b, 0, none⟩) n1 c1] ∧ Mem w [] [⟨o0, 75, row encGWornPin r.fPins s0⟩, ⟨o1, 2, row encI64 r.fStrokes s1⟩] w') := by
  subst a0_fPins_hn a0_fStrokes_hn
  rw [laws_toWear] at h
  refine enter (args := [(.agg #[(.slice a0_fPins_a a0.fPins.length a0_fPins_c), (.slice a0_fStrokes_a a0.fStrokes.length a0_fStrokes_c)])]) Tryz.func11 rfl Tryz.ntmps11 (by kernel_rfl) (L := []) (W := []) (Mem.start w) ?_
  refine jc_seq ?_
  refine jc_region ?_
  refine toO (by kernel_rfl) (p_a 0 [0] (by kernel_rfl) (fun b => by kernel_rfl) (fun b_1 => jkO ?_))
  refine toO (by kernel_rfl) (p_a 0 [0] (by kernel_rfl) (fun b => by kernel_rfl) (fun b_2 => jkO ?_))
  refine jo_end (by kernel_rfl) ?_
  refine jx_then ?_
  refine jc_seq ?_
  refine jc_region ?_
  refine toO (by kernel_rfl) (p_a 0 [0] (by kernel_rfl) (fun b => by kernel_rfl) (fun b_3 => jkO ?_))
  refine jo_end (by kernel_rfl) ?_
  refine jx_then ?_
  refine jc_seq ?_
  refine jc_region ?_
  refine jo_f [(0, 0), (0, 0)] (by kernel_rfl) ?_
  obtain ⟨t_1, ht_4, h⟩ := bd h
  refine toO (by kernel_rfl) (p_call 0 44 #[(.slice a0_fPins_a a0.fPins.length a0_fPins_c)] (by kernel_rfl) (by kernel_rfl) (fun w hm => laws_toWornPinS.calls a0.fPins w _ a0_fPins_a a0.fPins.length a0_fPins_c (hm.exRow a0_fPins_h List.not_mem_nil) rfl ht_4) ?_)
  rintro w v w' hm ⟨o_5, cap_6, sp_7, _, rfl, hs_8, ho_9, rfl, hm'⟩
  refine ⟨_, hm.app hm', jkO ?_⟩
  clear hm hm'
  refine jo_f [(0, 0)] (by kernel_rfl) ?_
  refine toO (by kernel_rfl) (p_s 0 [2] (by kernel_rfl) (by kernel_rfl) (jkO ?_))
  refine jo_end (by kernel_rfl) ?_
  refine jx_then ?_
  refine jc_seq ?_
  refine jc_region ?_
  refine jo_f [(0, 0), (0, 0)] (by kernel_rfl) ?_
  obtain ⟨t_2, ht_10, h⟩ := bd h
  refine toO (by kernel_rfl) (p_call 0 45 #[(.slice a0_fStrokes_a a0.fStrokes.length a0_fStrokes_c)] (by kernel_rfl) (by kernel_rfl) (fun w hm => laws_toInt64S.calls a0.fStrokes w _ a0_fStrokes_a a0.fStrokes.length a0_fStrokes_c (hm.exRow a0_fStrokes_h List.not_mem_nil) rfl ht_10) ?_)
  rintro w v w' hm ⟨o_11, cap_12, sp_13, _, rfl, hs_14, ho_15, rfl, hm'⟩
  refine ⟨_, hm.app hm', jkO ?_⟩
  clear hm hm'
  refine jo_f [(0, 0)] (by kernel_rfl) ?_
  refine toO (by kernel_rfl) (p_s 0 [2] (by kernel_rfl) (by kernel_rfl) (jkO ?_))
  refine jo_end (by kernel_rfl) ?_
  refine jx_then ?_
  refine jc_seq ?_
  refine jc_region ?_
  refine jo_f [(2, 0)] (by kernel_rfl) ?_
  refine toO (by kernel_rfl) (p_s 0 [1] (by kernel_rfl) (by kernel_rfl) (jkO ?_))
  refine jo_end (by kernel_rfl) ?_
  refine jx_then ?_
  refine jc_ret ?_
  obtain rfl := Option.some.inj h
  exact jx_ret [1] (.agg #[(.slice (o_5.map fun b => ⟨b, 0, none⟩) t_1.length cap_6), (.slice (o_11.map fun b => ⟨b, 0, none⟩) t_2.length cap_12)]) [(b_2, b_2), (b_2, b_2)] rfl (by kernel_rfl) (by kernel_rfl) (fun w hm => ⟨o_5, cap_6, sp_7, t_1.length, rfl, hs_8, ho_9, o_11, cap_12, sp_13, t_2.length, rfl, hs_14, ho_15, rfl, hm.pick [3, 4] (by kernel_rfl) (by kernel_rfl)⟩)

/-! ### laws.toLives -/
noncomputable def laws_toLives (a0 : GLives) : Option (GLives) := some a0
set_option maxRecDepth 100000 in
theorem laws_toLives.calls (a0 : GLives) (w : World) (r : GLives) (h : laws_toLives a0 = some r) :
    Calls Tryz.prog 12 #[(.agg #[(.int .i64 a0.fPin), (.int .i64 a0.fHammer)])] w fun e w' => ∃ v, e = .returned v ∧ (v = .agg #[(.int .i64 r.fPin), (.int .i64 r.fHammer)] ∧ Mem w [] [] w') := by
  rw [laws_toLives] at h
  refine enter (args := [(.agg #[(.int .i64 a0.fPin), (.int .i64 a0.fHammer)])]) Tryz.func12 rfl Tryz.ntmps12 (by kernel_rfl) (L := []) (W := []) (Mem.start w) ?_
  refine jc_seq ?_
  refine jc_region ?_
  refine toO (by kernel_rfl) (p_a 0 [0] (by kernel_rfl) (fun b => by kernel_rfl) (fun b_1 => jkO ?_))
  refine toO (by kernel_rfl) (p_a 0 [0] (by kernel_rfl) (fun b => by kernel_rfl) (fun b_2 => jkO ?_))
  refine jo_end (by kernel_rfl) ?_
  refine jx_then ?_
  refine jc_seq ?_
  refine jc_region ?_
  refine toO (by kernel_rfl) (p_a 0 [0] (by kernel_rfl) (fun b => by kernel_rfl) (fun b_3 => jkO ?_))
  refine jo_end (by kernel_rfl) ?_
  refine jx_then ?_
  refine jc_seq ?_
  refine jc_region ?_
  refine jo_f [(0, 0), (0, 0), (0, 0)] (by kernel_rfl) ?_
  refine toO (by kernel_rfl) (p_s 0 [2] (by kernel_rfl) (by kernel_rfl) (jkO ?_))
  refine jo_end (by kernel_rfl) ?_
  refine jx_then ?_
  refine jc_seq ?_
  refine jc_region ?_
  refine jo_f [(0, 0), (0, 0), (0, 0)] (by kernel_rfl) ?_
  refine toO (by kernel_rfl) (p_s 0 [2] (by kernel_rfl) (by kernel_rfl) (jkO ?_))
  refine jo_end (by kernel_rfl) ?_
  refine jx_then ?_
  refine jc_seq ?_
  refine jc_region ?_
  refine jo_f [(2, 0)] (by kernel_rfl) ?_
  refine toO (by kernel_rfl) (p_s 0 [1] (by kernel_rfl) (by kernel_rfl) (jkO ?_))
  refine jo_end (by kernel_rfl) ?_
  refine jx_then ?_
  refine jc_ret ?_
  obtain rfl := Option.some.inj h
  exact jx_ret [1] (.agg #[(.int .i64 a0.fPin), (.int .i64 a0.fHammer)]) [(b_2, b_2), (b_2, b_2)] rfl (by kernel_rfl) (by kernel_rfl) (fun w hm => ⟨rfl, hm.pick [] (by kernel_rfl) (by kernel_rfl)⟩)

/-! ### laws.toAct -/
noncomputable def laws_toAct (a0 : GAct) : Option (GAct) := some a0
set_option maxRecDepth 100000 in
theorem laws_toAct.calls (a0 : GAct) (w : World) (r : GAct) (h : laws_toAct a0 = some r) :
    Calls Tryz.prog 46 #[(.agg #[(.int .i8 a0.fKind), (.int .i64 a0.fA), (.int .i64 a0.fB), (.int .i64 a0.fC), (.int .i64 a0.fD)])] w fun e w' => ∃ v, e = .returned v ∧ (v = .agg #[(.int .i8 r.fKind), (.int .i64 r.fA), (.int .i64 r.fB), (.int .i64 r.fC), (.int .i64 r.fD)] ∧ Mem w [] [] w') := by
  rw [laws_toAct] at h
  refine enter (args := [(.agg #[(.int .i8 a0.fKind), (.int .i64 a0.fA), (.int .i64 a0.fB), (.int .i64 a0.fC), (.int .i64 a0.fD)])]) Tryz.func46 rfl Tryz.ntmps46 (by kernel_rfl) (L := []) (W := []) (Mem.start w) ?_
  refine jc_seq ?_
  refine jc_region ?_
  refine toO (by kernel_rfl) (p_a 0 [0] (by kernel_rfl) (fun b => by kernel_rfl) (fun b_1 => jkO ?_))
  refine toO (by kernel_rfl) (p_a 0 [0] (by kernel_rfl) (fun b => by kernel_rfl) (fun b_2 => jkO ?_))
  refine jo_end (by kernel_rfl) ?_
  refine jx_then ?_
  refine jc_seq ?_
  refine jc_region ?_
  refine toO (by kernel_rfl) (p_a 0 [0] (by kernel_rfl) (fun b => by kernel_rfl) (fun b_3 => jkO ?_))
  refine jo_end (by kernel_rfl) ?_
  refine jx_then ?_
  refine jc_seq ?_
  refine jc_region ?_
  refine jo_f [(0, 0), (0, 0), (0, 0)] (by kernel_rfl) ?_
  refine toO (by kernel_rfl) (p_s 0 [2] (by kernel_rfl) (by kernel_rfl) (jkO ?_))
  refine jo_end (by kernel_rfl) ?_
  refine jx_then ?_
  refine jc_seq ?_
  refine jc_region ?_
  refine jo_f [(0, 0), (0, 0), (0, 0)] (by kernel_rfl) ?_
  refine toO (by kernel_rfl) (p_s 0 [2] (by kernel_rfl) (by kernel_rfl) (jkO ?_))
  refine jo_end (by kernel_rfl) ?_
  refine jx_then ?_
  refine jc_seq ?_
  refine jc_region ?_
  refine jo_f [(0, 0), (0, 0), (0, 0)] (by kernel_rfl) ?_
  refine toO (by kernel_rfl) (p_s 0 [2] (by kernel_rfl) (by kernel_rfl) (jkO ?_))
  refine jo_end (by kernel_rfl) ?_
  refine jx_then ?_
  refine jc_seq ?_
  refine jc_region ?_
  refine jo_f [(0, 0), (0, 0), (0, 0)] (by kernel_rfl) ?_
  refine toO (by kernel_rfl) (p_s 0 [2] (by kernel_rfl) (by kernel_rfl) (jkO ?_))
  refine jo_end (by kernel_rfl) ?_
  refine jx_then ?_
  refine jc_seq ?_
  refine jc_region ?_
  refine jo_f [(0, 0), (0, 0), (0, 0)] (by kernel_rfl) ?_
  refine toO (by kernel_rfl) (p_s 0 [2] (by kernel_rfl) (by kernel_rfl) (jkO ?_))
  refine jo_end (by kernel_rfl) ?_
  refine jx_then ?_
  refine jc_seq ?_
  refine jc_region ?_
  refine jo_f [(2, 0)] (by kernel_rfl) ?_
  refine toO (by kernel_rfl) (p_s 0 [1] (by kernel_rfl) (by kernel_rfl) (jkO ?_))
  refine jo_end (by kernel_rfl) ?_
  refine jx_then ?_
  refine jc_ret ?_
  obtain rfl := Option.some.inj h
  exact jx_ret [1] (.agg #[(.int .i8 a0.fKind), (.int .i64 a0.fA), (.int .i64 a0.fB), (.int .i64 a0.fC), (.int .i64 a0.fD)]) [(b_2, b_2), (b_2, b_2), (b_2, b_2), (b_2, b_2), (b_2, b_2)] rfl (by kernel_rfl) (by kernel_rfl) (fun w hm => ⟨rfl, hm.pick [] (by kernel_rfl) (by kernel_rfl)⟩)

/-! ### laws.toActS -/
noncomputable def laws_toActS.k_2 (xs_1 : List GAct) : Option ((List GAct)) := some xs_1
noncomputable def laws_toActS.l_5 (a0 : List GAct) : ((List GAct) × Int) → Option (((List GAct) × Int) ⊕ ((List GAct)))
  | (xs_3, i_4) => (if (decide (i_4 < (a0.length : Int))) = true then (ix a0 i_4).bind fun x_7 => (laws_toAct x_7).bind fun t_8 => (ix xs_3 i_4).bind fun x_9 => some (.inl ((xs_3.set i_4.toNat t_8), (w64 (i_4 + 1)))) else some (.inr xs_3))
noncomputable def laws_toActS (a0 : List GAct) : Option ((List GAct)) := (if 0 ≤ (a0.length : Int) ∧ (a0.length : Int) ≤ 3518437208883 then (loop (laws_toActS.l_5 a0) ((List.replicate (a0.length : Int).toNat (⟨0, 0, 0, 0, 0⟩ : GAct)), 0)).bind fun t_6 => laws_toActS.k_2 t_6 else none)
set_option maxRecDepth 100000 in
theorem laws_toActS.calls (a0 : List GAct) (w : World) (r : (List GAct)) (a0_a : Option Addr) (a0_an : Nat) (a0_c : Nat) (a0_h : Rw w a0_a 5 encGAct a0) (a0_hn : a0.length = a0_an) (h : laws_toActS a0 = some r) :
    Calls Tryz.prog 13 #[(.slice a0_a a0_an a0_c)] w fun e w' => ∃ v, e = .returned v ∧ (∃ (o0 : Option Nat) (c0 : Nat) (s0 : List Value) (n0 : Nat), r.length = n0 ∧ (o0 ≠ none → n0 ≤ c0 ∧ s0.length = (c0 - n0) * 5) ∧ (o0 = none → r = [] ∧ c0 = 0) ∧ v = .slice (o0.map fun b => ⟨b, 0, none⟩) n0 c0 ∧ Mem w [] [⟨o0, 89, row encGAct r s0⟩] w') := by
  subst a0_hn
  rw [laws_toActS] at h
  refine enter (args := [(.slice a0_a a0.length a0_c)]) Tryz.func13 rfl Tryz.ntmps13 (by kernel_rfl) (L := []) (W := []) (Mem.start w) ?_
  refine jc_seq ?_
  refine jc_region ?_
  refine jo_f [(0, 0)] (by kernel_rfl) ?_
  refine jo_end (by kernel_rfl) ?_
  refine jx_then ?_
  refine jc_seq ?_
  refine jc_region ?_
  refine jo_f [(0, 0), (0, 0)] (by kernel_rfl) ?_
  obtain ⟨hg_88, h⟩ := gd h
  refine toO (by kernel_rfl) (p_mk 0 89 (a0.length : Int) 5 40 encGAct (⟨0, 0, 0, 0, 0⟩ : GAct) (by kernel_rfl) (by kernel_rfl) hg_88.1 (by omega) (by kernel_rfl) (fun b_1 => jkO ?_))
  refine jo_f [(0, 0)] (by kernel_rfl) ?_
  refine jo_end (by kernel_rfl) ?_
  refine jx_then ?_
  refine jc_seq ?_
  refine jc_seq ?_
  refine jc_region ?_
  refine jo_f [(0, 0)] (by kernel_rfl) ?_
  refine jo_end (by kernel_rfl) ?_
  refine jx_then ?_
  refine jc_meet (fun (j : (List GAct)) => match j with | xs_1 => laws_toActS.k_2 xs_1 = some r ∧ (xs_1.length = (a0.length : Int).toNat)) (fun (j : (List GAct)) => match j with | xs_1 => [(2, [], (.slice none 0 0)), (3, [], (.slice (some ⟨b_1, 0, none⟩) ((a0.length : Int).toNat) ((a0.length : Int).toNat)))]) (fun (j : (List GAct)) => match j with | xs_1 => [⟨(some b_1), 89, row encGAct xs_1 []⟩]) ?_ ?_
  · refine jc_block ?_
    obtain ⟨t_6, ht_87, hr_79⟩ := bd h
    refine jc_loop (fun (s : (List GAct) × Int) (x : Unit) => match s, x with | ⟨xs_3, i_4⟩, _ => (xs_3.length = (a0.length : Int).toNat)) (fun (s : (List GAct) × Int) (x : Unit) => match s, x with | ⟨xs_3, i_4⟩, _ => [(0, [], (.slice a0_a a0.length a0_c)), (2, [], (.slice none 0 0)), (3, [], (.slice (some ⟨b_1, 0, none⟩) ((a0.length : Int).toNat) ((a0.length : Int).toNat))), (4, [], (.int .i64 i_4))]) (fun (s : (List GAct) × Int) (x : Unit) => match s, x with | ⟨xs_3, i_4⟩, _ => [⟨(some b_1), 89, row encGAct xs_3 []⟩]) ht_87 () List.length_replicate (by kernel_rfl) [0] (by kernel_rfl) (by kernel_rfl) ?_
    rintro ⟨xs_3, i_4⟩ _ y_80 hn_78 h
    rw [laws_toActS.l_5] at h
    refine jc_seq ?_
    refine jc_seq ?_
    refine jc_region ?_
    refine jo_f [(0, 0), (0, 0), (0, 0), (0, 0)] (by kernel_rfl) ?_
    refine jo_end (by kernel_rfl) ?_
    refine jx_then ?_
    refine jc_cond (decide (i_4 < (a0.length : Int))) (by kernel_rfl) (fun hc_82 => ?_) (fun hc_82 => ?_)
    · replace h := ifT hc_82 h
      refine jc_skip ?_
      refine jx_then ?_
      refine jc_seq ?_
      refine jc_block ?_
      refine jc_region ?_
      refine jo_f [(0, 0), (0, 0), (0, 0), (0, 0)] (by kernel_rfl) ?_
      obtain ⟨x_7, hx_83, h⟩ := bd h
      refine toO (by kernel_rfl) (p_idx 0 a0_a a0.length i_4 5 (by kernel_rfl) (by kernel_rfl) (ix_some hx_83).1 (ltn hx_83 rfl) (a0_h.sp hx_83) (jkO ?_))
      refine toO (by kernel_rfl) (p_ld 0 (aB a0_a) (aO a0_a + i_4.toNat * 5) true (encGAct x_7) (by kernel_rfl) (by kernel_rfl) (by kernel_rfl) (fun w hm => ((hm.exRow a0_h List.not_mem_nil).at hx_83)) (jkO ?_))
      obtain ⟨t_8, ht_84, h⟩ := bd h
      refine toO (by kernel_rfl) (p_call 0 46 #[(.agg #[(.int .i8 x_7.fKind), (.int .i64 x_7.fA), (.int .i64 x_7.fB), (.int .i64 x_7.fC), (.int .i64 x_7.fD)])] (by kernel_rfl) (by kernel_rfl) (fun w hm => laws_toAct.calls x_7 w _ ht_84) ?_)
      rintro w v w' hm ⟨rfl, hm'⟩
      refine ⟨_, hm.app hm', jkO ?_⟩
      clear hm hm'
      obtain ⟨x_9, hx_85, h⟩ := bd h
      refine toO (by kernel_rfl) (p_idx 0 (some ⟨b_1, 0, none⟩) ((a0.length : Int).toNat) i_4 5 (by kernel_rfl) (by kernel_rfl) (ix_some hx_85).1 (ltn hx_85 hn_78) rfl (jkO ?_))
      refine toO (by kernel_rfl) (p_str 0 0 b_1 89 encGAct xs_3 [] i_4 t_8 5 0 [(.int .i8 t_8.fKind), (.int .i64 t_8.fA), (.int .i64 t_8.fB), (.int .i64 t_8.fC), (.int .i64 t_8.fD)] (by kernel_rfl) (by kernel_rfl) (by kernel_rfl) encGAct_len hx_85 (by kernel_rfl) (by kernel_rfl) (jkO ?_))
      refine jo_end (by kernel_rfl) ?_
      refine jx_inn ?_
      refine jx_then ?_
      refine jc_region ?_
      refine jo_f [(0, 0), (0, 0), (0, 0)] (by kernel_rfl) ?_
      refine jo_end (by kernel_rfl) ?_
      exact jx_back ((xs_3.set i_4.toNat t_8), (w64 (i_4 + 1))) () (Option.some.inj h).symm (List.length_set.trans hn_78) [0] (by kernel_rfl) (by kernel_rfl) (by kernel_rfl)
    · replace h := ifF hc_82 h
      refine jc_exit ?_
      refine jx_thenx ?_
      refine jx_leave xs_3 (Option.some.inj h).symm (fun e_86 => ?_)
      subst e_86
      refine jx_ine ?_
      exact jx_meet xs_3 ⟨hr_79, hn_78⟩ (by kernel_rfl) [0] (by kernel_rfl) (by kernel_rfl)
  · rintro xs_1 ⟨h, hn_66⟩
    replace h : laws_toActS.k_2 xs_1 = some r := h
    rw [laws_toActS.k_2] at h
    refine jx_then ?_
    refine jc_seq ?_
    refine jc_region ?_
    refine jo_f [(0, 0), (0, 0)] (by kernel_rfl) ?_
    refine jo_end (by kernel_rfl) ?_
    refine jx_then ?_
    refine jc_ret ?_
    obtain rfl := Option.some.inj h
    exact jx_ret [] (.slice (some ⟨b_1, 0, none⟩) ((a0.length : Int).toNat) ((a0.length : Int).toNat)) [] rfl (by kernel_rfl) (by kernel_rfl) (fun w hm => ⟨(some b_1), ((a0.length : Int).toNat), [], ((a0.length : Int).toNat), hn_66, (fun _ => ⟨Nat.le_refl _, by simp⟩), (fun e => nomatch e), rfl, hm.pick [0] (by kernel_rfl) (by kernel_rfl)⟩)

/-! ### spec.l00In -/
noncomputable def spec_l00In (n0 : Int) (low1 : Int) (high2 : Int) : Option (Bool) := some ((decide (n0 ≥ low1)) && (decide (n0 ≤ high2)))
set_option maxRecDepth 100000 in
theorem spec_l00In.calls (n0 : Int) (low1 : Int) (high2 : Int) (w : World) (r : Bool) (h : spec_l00In n0 low1 high2 = some r) :
    Calls Tryz.prog 77 #[(.int .i64 n0), (.int .i64 low1), (.int .i64 high2)] w fun e w' => ∃ v, e = .returned v ∧ (v = (.bool r) ∧ Mem w [] [] w') := by
  rw [spec_l00In] at h
  refine enter (args := [(.int .i64 n0), (.int .i64 low1), (.int .i64 high2)]) Tryz.func77 rfl Tryz.ntmps77 (by kernel_rfl) (L := []) (W := []) (Mem.start w) ?_
  refine jc_seq ?_
  refine jc_region ?_
  refine jo_f [(0, 0)] (by kernel_rfl) ?_
  refine jo_end (by kernel_rfl) ?_
  refine jx_then ?_
  refine jc_seq ?_
  refine jc_region ?_
  refine jo_f [(0, 0), (0, 0), (0, 0), (0, 0), (0, 1), (0, 1), (0, 1), (0, 0), (0, 0)] (by kernel_rfl) ?_
  refine jo_end (by kernel_rfl) ?_
  refine jx_then ?_
  refine jc_ret ?_
  obtain rfl := Option.some.inj h
  exact jx_ret [] (.bool ((decide (n0 ≥ low1)) && (decide (n0 ≤ high2)))) [] rfl (by kernel_rfl) (by kernel_rfl) (fun w hm => ⟨rfl, hm.pick [] (by kernel_rfl) (by kernel_rfl)⟩)

/-! ### spec.l00Min -/
noncomputable def spec_l00Min (a0 : Int) (b1 : Int) : Option (Int) := (if (decide (a0 < b1)) = true then some a0 else some b1)
set_option maxRecDepth 100000 in
theorem spec_l00Min.calls (a0 : Int) (b1 : Int) (w : World) (r : Int) (h : spec_l00Min a0 b1 = some r) :
    Calls Tryz.prog 135 #[(.int .i64 a0), (.int .i64 b1)] w fun e w' => ∃ v, e = .returned v ∧ (v = (.int .i64 r) ∧ Mem w [] [] w') := by
  rw [spec_l00Min] at h
  refine enter (args := [(.int .i64 a0), (.int .i64 b1)]) Tryz.func135 rfl Tryz.ntmps135 (by kernel_rfl) (L := []) (W := []) (Mem.start w) ?_
  refine jc_seq ?_
  refine jc_region ?_
  refine jo_f [(0, 0)] (by kernel_rfl) ?_
  refine jo_end (by kernel_rfl) ?_
  refine jx_then ?_
  refine jc_seq ?_
  refine jc_seq ?_
  refine jc_region ?_
  refine jo_f [(0, 0), (0, 0), (0, 0)] (by kernel_rfl) ?_
  refine jo_end (by kernel_rfl) ?_
  refine jx_then ?_
  refine jc_cond (decide (a0 < b1)) (by kernel_rfl) (fun hc_2 => ?_) (fun hc_2 => ?_)
  · replace h := ifT hc_2 h
    refine jc_seq ?_
    refine jc_region ?_
    refine jo_f [(0, 0), (0, 0)] (by kernel_rfl) ?_
    refine jo_end (by kernel_rfl) ?_
    refine jx_then ?_
    refine jc_ret ?_
    refine jx_thenr ?_
    obtain rfl := Option.some.inj h
    exact jx_ret [] (.int .i64 a0) [] rfl (by kernel_rfl) (by kernel_rfl) (fun w hm => ⟨rfl, hm.pick [] (by kernel_rfl) (by kernel_rfl)⟩)
  · replace h := ifF hc_2 h
    refine jc_skip ?_
    refine jx_then ?_
    refine jc_seq ?_
    refine jc_region ?_
    refine jo_f [(0, 0), (0, 0)] (by kernel_rfl) ?_
    refine jo_end (by kernel_rfl) ?_
    refine jx_then ?_
    refine jc_ret ?_
    obtain rfl := Option.some.inj h
    exact jx_ret [] (.int .i64 b1) [] rfl (by kernel_rfl) (by kernel_rfl) (fun w hm => ⟨rfl, hm.pick [] (by kernel_rfl) (by kernel_rfl)⟩)

/-! ### spec.l02Frame -/
noncomputable def spec_l02Frame.k_3 : Option (Bool) := some true
noncomputable def spec_l02Frame.k_9 (i_4 : Int) (q_8 : Bool) : Option ((Int) ⊕ (Bool ⊕ Unit)) := (if q_8 = true then some (.inr (.inl false)) else some (.inl (w64 (i_4 + 1))))
noncomputable def spec_l02Frame.l_5 (f0 : GFrame) : Int → Option ((Int) ⊕ (Bool ⊕ Unit))
  | i_4 => (if (decide (i_4 < (f0.fHammers.length : Int))) = true then (ix f0.fHammers i_4).bind fun x_7 => (spec_l00In (w64 x_7.fPitch) 0 47).bind fun t_10 => (if (!t_10) = true then spec_l02Frame.k_9 i_4 true else (spec_l00Min 20 (w64 f0.fSteps)).bind fun t_11 => (spec_l00In (w64 x_7.fReady) 1 t_11).bind fun t_12 => spec_l02Frame.k_9 i_4 (!t_12)) else some (.inr (.inr ())))
noncomputable def spec_l02Frame.k_2 (f0 : GFrame) (q_1 : Bool) : Option (Bool) := (if q_1 = true then some false else (loop (spec_l02Frame.l_5 f0) 0).bind fun t_6 => match t_6 with | .inl p => some p | .inr p => spec_l02Frame.k_3)
noncomputable def spec_l02Frame (f0 : GFrame) : Option (Bool) := (spec_l00In (w64 f0.fSteps) 2 96).bind fun t_13 => (if (!t_13) = true then spec_l02Frame.k_2 f0 true else (spec_l00In (f0.fHammers.length : Int) 1 24).bind fun t_14 => spec_l02Frame.k_2 f0 (!t_14))
set_option maxRecDepth 100000 in
theorem spec_l02Frame.calls (f0 : GFrame) (w : World) (r : Bool) (f0_fHammers_a : Option Addr) (f0_fHammers_an : Nat) (f0_fHammers_c : Nat) (f0_fHammers_h : Rw w f0_fHammers_a 2 encGHammer f0.fHammers) (f0_fHammers_hn : f0.fHammers.length = f0_fHammers_an) (f0_b : Nat) (hm0 : Mem w (bs [some f0_b]) [⟨some f0_b, 43, [(.int .i16 f0.fSteps), (.slice f0_fHammers_a f0_fHammers_an f0_fHammers_c)]⟩] w) (f0_fHammers_ha : f0.fHammers ≠ [] → aB f0_fHammers_a ∉ bs [some f0_b]) (h : spec_l02Frame f0 = some r) :
    Calls Tryz.prog 106 #[(.pointer (some ⟨f0_b, 0, none⟩))] w fun e w' => ∃ v, e = .returned v ∧ (v = (.bool r) ∧ Mem w (bs [some f0_b]) [⟨some f0_b, 43, [(.int .i16 f0.fSteps), (.slice f0_fHammers_a f0_fHammers_an f0_fHammers_c)]⟩] w') := by
  subst f0_fHammers_hn
  rw [spec_l02Frame] at h
  refine enter (args := [(.pointer (some ⟨f0_b, 0, none⟩))]) Tryz.func106 rfl Tryz.ntmps106 (by kernel_rfl) (L := [⟨some f0_b, 43, [(.int .i16 f0.fSteps), (.slice f0_fHammers_a f0.fHammers.length f0_fHammers_c)]⟩]) (W := bs [some f0_b]) hm0 ?_
  refine jc_seq ?_
  refine jc_region ?_
  refine jo_f [(0, 0)] (by kernel_rfl) ?_
  refine jo_end (by kernel_rfl) ?_
  refine jx_then ?_
  refine jc_seq ?_
  refine jc_seq ?_
  refine jc_meet (fun (j : Bool) => match j with | q_1 => spec_l02Frame.k_2 f0 q_1 = some r) (fun (j : Bool) => match j with | q_1 => [(0, [], (.pointer (some ⟨f0_b, 0, none⟩))), (2, [], (.bool false)), (20, [], (.bool q_1))]) (fun (j : Bool) => match j with | q_1 => [⟨some f0_b, 43, [(.int .i16 f0.fSteps), (.slice f0_fHammers_a f0.fHammers.length f0_fHammers_c)]⟩]) ?_ ?_
  · refine jc_region ?_
    refine jo_f [(0, 0), (0, 0), (0, 0), (0, 0), (0, 0)] (by kernel_rfl) ?_
    obtain ⟨t_13, ht_100, h⟩ := bd h
    refine toO (by kernel_rfl) (p_call 0 77 #[(.int .i64 (w64 f0.fSteps)), (.int .i64 2), (.int .i64 96)] (by kernel_rfl) (by kernel_rfl) (fun w hm => spec_l00In.calls (w64 f0.fSteps) 2 96 w _ ht_100) ?_)
    rintro w v w' hm ⟨rfl, hm'⟩
    refine ⟨_, hm.app hm', jkO ?_⟩
    clear hm hm'
    refine jo_f [(0, 0), (0, 0), (0, 1), (0, 1), (0, 1), (0, 1), (0, 1)] (by kernel_rfl) ?_
    refine jo_split 12 (!t_13) (by kernel_rfl) (fun hc_101 => ?_) (fun hc_101 => ?_)
    · replace h := ifT hc_101 h
      refine jo_f [(0, 3), (0, 3), (0, 4)] (by kernel_rfl) ?_
      refine jo_end (by kernel_rfl) ?_
      exact jx_meet true h (by kernel_rfl) [0] (by kernel_rfl) (by kernel_rfl)
    · replace h := ifF hc_101 h
      obtain ⟨t_14, ht_102, h⟩ := bd h
      refine toO (by kernel_rfl) (p_call 2 77 #[(.int .i64 (f0.fHammers.length : Int)), (.int .i64 1), (.int .i64 24)] (by kernel_rfl) (by kernel_rfl) (fun w hm => spec_l00In.calls (f0.fHammers.length : Int) 1 24 w _ ht_102) ?_)
      rintro w v w' hm ⟨rfl, hm'⟩
      refine ⟨_, hm.app hm', jkO ?_⟩
      clear hm hm'
      refine jo_f [(0, 2), (0, 5)] (by kernel_rfl) ?_
      refine jo_end (by kernel_rfl) ?_
      exact jx_meet (!t_14) h (by kernel_rfl) [0] (by kernel_rfl) (by kernel_rfl)
  · rintro q_1 h
    replace h : spec_l02Frame.k_2 f0 q_1 = some r := h
    rw [spec_l02Frame.k_2] at h
    refine jx_then ?_
    refine jc_cond q_1 (by kernel_rfl) (fun hc_11 => ?_) (fun hc_11 => ?_)
    · replace h := ifT hc_11 h
      refine jc_seq ?_
      refine jc_region ?_
      refine jo_f [(0, 0)] (by kernel_rfl) ?_
      refine jo_end (by kernel_rfl) ?_
      refine jx_then ?_
      refine jc_ret ?_
      refine jx_thenr ?_
      obtain rfl := Option.some.inj h
      exact jx_ret [] (.bool false) [] rfl (by kernel_rfl) (by kernel_rfl) (fun w hm => ⟨rfl, hm.pick [0] (by kernel_rfl) (by kernel_rfl)⟩)
    · replace h := ifF hc_11 h
      refine jc_skip ?_
      refine jx_then ?_
      refine jc_seq ?_
      refine jc_seq ?_
      refine jc_region ?_
      refine jo_f [(0, 0)] (by kernel_rfl) ?_
      refine jo_end (by kernel_rfl) ?_
      refine jx_then ?_
      refine jc_meet (fun (_ : Unit) => spec_l02Frame.k_3 = some r) (fun (_ : Unit) => [(2, [], (.bool false))]) (fun (_ : Unit) => [⟨some f0_b, 43, [(.int .i16 f0.fSteps), (.slice f0_fHammers_a f0.fHammers.length f0_fHammers_c)]⟩]) ?_ ?_
      · refine jc_block ?_
        obtain ⟨t_6, ht_99, hr_82⟩ := bd h
        refine jc_loop (fun (s : Int) (x : Unit) => match s, x with | i_4, _ => True) (fun (s : Int) (x : Unit) => match s, x with | i_4, _ => [(0, [], (.pointer (some ⟨f0_b, 0, none⟩))), (2, [], (.bool false)), (3, [], (.int .i64 i_4))]) (fun (s : Int) (x : Unit) => match s, x with | i_4, _ => [⟨some f0_b, 43, [(.int .i16 f0.fSteps), (.slice f0_fHammers_a f0.fHammers.length f0_fHammers_c)]⟩]) ht_99 () trivial (by kernel_rfl) [0] (by kernel_rfl) (by kernel_rfl) ?_
        rintro i_4 _ y_83 _ h
        rw [spec_l02Frame.l_5] at h
        refine jc_seq ?_
        refine jc_seq ?_
        refine jc_region ?_
        refine jo_f [(0, 0), (0, 0), (0, 0), (0, 0), (0, 0), (0, 0), (0, 0)] (by kernel_rfl) ?_
        refine jo_end (by kernel_rfl) ?_
        refine jx_then ?_
        refine jc_cond (decide (i_4 < (f0.fHammers.length : Int))) (by kernel_rfl) (fun hc_85 => ?_) (fun hc_85 => ?_)
        · replace h := ifT hc_85 h
          refine jc_skip ?_
          refine jx_then ?_
          refine jc_seq ?_
          refine jc_block ?_
          refine jc_seq ?_
          refine jc_region ?_
          refine jo_f [(0, 0), (0, 0), (0, 0), (0, 0), (0, 0)] (by kernel_rfl) ?_
          obtain ⟨x_7, hx_86, h⟩ := bd h
          refine toO (by kernel_rfl) (p_idx 0 f0_fHammers_a f0.fHammers.length i_4 2 (by kernel_rfl) (by kernel_rfl) (ix_some hx_86).1 (ltn hx_86 rfl) (f0_fHammers_h.sp hx_86) (jkO ?_))
          refine toO (by kernel_rfl) (p_ld 0 (aB f0_fHammers_a) (aO f0_fHammers_a + i_4.toNat * 2) true (encGHammer x_7) (by kernel_rfl) (by kernel_rfl) (by kernel_rfl) (fun w hm => ((hm.exRowW f0_fHammers_h f0_fHammers_ha).at hx_86)) (jkO ?_))
          refine toO (by kernel_rfl) (p_a 0 [0] (by kernel_rfl) (fun b => by kernel_rfl) (fun b_87 => jkO ?_))
          refine toO (by kernel_rfl) (p_s 0 [1] (by kernel_rfl) (by kernel_rfl) (jkO ?_))
          refine jo_end (by kernel_rfl) ?_
          refine jx_then ?_
          refine jc_seq ?_
          refine jc_meet (fun (j : Bool) => match j with | q_8 => spec_l02Frame.k_9 i_4 q_8 = some y_83) (fun (j : Bool) => match j with | q_8 => [(0, [], (.pointer (some ⟨f0_b, 0, none⟩))), (2, [], (.bool false)), (3, [], (.int .i64 i_4)), (54, [], (.bool q_8))]) (fun (j : Bool) => match j with | q_8 => [⟨some f0_b, 43, [(.int .i16 f0.fSteps), (.slice f0_fHammers_a f0.fHammers.length f0_fHammers_c)]⟩, ⟨some b_87, 137, [(.int .i8 x_7.fPitch), (.int .i8 x_7.fReady)]⟩]) ?_ ?_
          · refine jc_draw [⟨some f0_b, 43, [(.int .i16 f0.fSteps), (.slice f0_fHammers_a f0.fHammers.length f0_fHammers_c)]⟩, ⟨some b_87, 137, [(.int .i8 x_7.fPitch), (.int .i8 x_7.fReady)]⟩] 18 (by kernel_rfl) (by kernel_rfl) ?_
            refine jd_f [⟨0, 0, 0⟩, ⟨1, 1, 0⟩, ⟨2, 0, 0⟩] 15 (by kernel_rfl) (by kernel_rfl) (fun w h => h.pick [0, 1] (by kernel_rfl) (by kernel_rfl)) (by kernel_rfl) (by kernel_rfl) ?_
            obtain ⟨t_10, ht_94, h⟩ := bd h
            refine toD 3 (by kernel_rfl) (p_call 0 77 #[(.int .i64 (w64 x_7.fPitch)), (.int .i64 0), (.int .i64 47)] (by kernel_rfl) (by kernel_rfl) (fun w hm => spec_l00In.calls (w64 x_7.fPitch) 0 47 w _ ht_94) ?_)
            rintro w v w' hm ⟨rfl, hm'⟩
            refine ⟨_, hm.app hm', jkD (fun w h => h.pick [0, 1] (by kernel_rfl) (by kernel_rfl)) ?_⟩
            clear hm hm'
            refine jd_f [⟨4, 0, 0⟩, ⟨5, 0, 0⟩, ⟨6, 0, 1⟩, ⟨7, 1, 1⟩, ⟨8, 0, 1⟩, ⟨9, 0, 1⟩, ⟨10, 0, 1⟩, ⟨11, 0, 1⟩, ⟨12, 0, 1⟩, ⟨13, 0, 1⟩] 4 (by kernel_rfl) (by kernel_rfl) (fun w h => h.pick [0, 1] (by kernel_rfl) (by kernel_rfl)) (by kernel_rfl) (by kernel_rfl) ?_
            refine jd_split 42 (!t_10) (by kernel_rfl) (fun hc_95 => ?_) (fun hc_95 => ?_)
            · replace h := ifT hc_95 h
              refine jd_f [⟨14, 0, 3⟩, ⟨15, 0, 3⟩, ⟨16, 0, 3⟩, ⟨17, 0, 4⟩] 0 (by kernel_rfl) (by kernel_rfl) (fun w h => h.pick [0, 1] (by kernel_rfl) (by kernel_rfl)) (by kernel_rfl) (by kernel_rfl) ?_
              refine jd_end (by kernel_rfl) ?_
              exact jx_meet true h (by kernel_rfl) [0, 1] (by kernel_rfl) (by kernel_rfl)
            · replace h := ifF hc_95 h
              obtain ⟨t_11, ht_96, h⟩ := bd h
              refine toD 14 (by kernel_rfl) (p_call 2 135 #[(.int .i64 20), (.int .i64 (w64 f0.fSteps))] (by kernel_rfl) (by kernel_rfl) (fun w hm => spec_l00Min.calls 20 (w64 f0.fSteps) w _ ht_96) ?_)
              rintro w v w' hm ⟨rfl, hm'⟩
              refine ⟨_, hm.app hm', jkD (fun w h => h.pick [0, 1] (by kernel_rfl) (by kernel_rfl)) ?_⟩
              clear hm hm'
              obtain ⟨t_12, ht_97, h⟩ := bd h
              refine toD 15 (by kernel_rfl) (p_call 2 77 #[(.int .i64 (w64 x_7.fReady)), (.int .i64 1), (.int .i64 t_11)] (by kernel_rfl) (by kernel_rfl) (fun w hm => spec_l00In.calls (w64 x_7.fReady) 1 t_11 w _ ht_97) ?_)
              rintro w v w' hm ⟨rfl, hm'⟩
              refine ⟨_, hm.app hm', jkD (fun w h => h.pick [0, 1] (by kernel_rfl) (by kernel_rfl)) ?_⟩
              clear hm hm'
              refine jd_f [⟨16, 0, 2⟩, ⟨17, 0, 5⟩] 0 (by kernel_rfl) (by kernel_rfl) (fun w h => h.pick [0, 1] (by kernel_rfl) (by kernel_rfl)) (by kernel_rfl) (by kernel_rfl) ?_
              refine jd_end (by kernel_rfl) ?_
              exact jx_meet (!t_12) h (by kernel_rfl) [0, 1] (by kernel_rfl) (by kernel_rfl)
          · rintro q_8 h
            replace h : spec_l02Frame.k_9 i_4 q_8 = some y_83 := h
            rw [spec_l02Frame.k_9] at h
            refine jx_then ?_
            refine jc_cond q_8 (by kernel_rfl) (fun hc_92 => ?_) (fun hc_92 => ?_)
            · replace h := ifT hc_92 h
              refine jc_seq ?_
              refine jc_region ?_
              refine jo_f [(0, 0)] (by kernel_rfl) ?_
              refine jo_end (by kernel_rfl) ?_
              refine jx_then ?_
              refine jc_ret ?_
              refine jx_inr ?_
              refine jx_thenr ?_
              refine jx_leaver (.inl false) (Option.some.inj h).symm (fun e_93 => ?_)
              subst e_93
              refine jx_inr ?_
              refine jx_thenr ?_
              refine jx_thenr ?_
              obtain rfl := Option.some.inj hr_82
              exact jx_ret [] (.bool false) [] rfl (by kernel_rfl) (by kernel_rfl) (fun w hm => ⟨rfl, hm.pick [0] (by kernel_rfl) (by kernel_rfl)⟩)
            · replace h := ifF hc_92 h
              refine jc_skip ?_
              refine jx_inn ?_
              refine jx_then ?_
              refine jc_region ?_
              refine jo_f [(0, 0), (0, 0), (0, 0)] (by kernel_rfl) ?_
              refine jo_end (by kernel_rfl) ?_
              exact jx_back (w64 (i_4 + 1)) () (Option.some.inj h).symm trivial [0] (by kernel_rfl) (by kernel_rfl) (by kernel_rfl)
        · replace h := ifF hc_85 h
          refine jc_exit ?_
          refine jx_thenx ?_
          refine jx_leave (.inr ()) (Option.some.inj h).symm (fun e_98 => ?_)
          subst e_98
          refine jx_ine ?_
          exact jx_meet () hr_82 (by kernel_rfl) [0] (by kernel_rfl) (by kernel_rfl)
      · rintro _ h
        replace h : spec_l02Frame.k_3 = some r := h
        rw [spec_l02Frame.k_3] at h
        refine jx_then ?_
        refine jc_seq ?_
        refine jc_region ?_
        refine jo_f [(0, 0)] (by kernel_rfl) ?_
        refine jo_end (by kernel_rfl) ?_
        refine jx_then ?_
        refine jc_ret ?_
        obtain rfl := Option.some.inj h
        exact jx_ret [] (.bool true) [] rfl (by kernel_rfl) (by kernel_rfl) (fun w hm => ⟨rfl, hm.pick [0] (by kernel_rfl) (by kernel_rfl)⟩)

/-! ### spec.l06Place -/
noncomputable def spec_l06Place (f0 : GFrame) (step1 : Int) (track2 : Int) : Option (Bool) := (spec_l00In step1 0 (w64 ((w64 f0.fSteps) - 1))).bind fun t_1 => (if t_1 = true then (spec_l00In track2 0 (w64 ((f0.fHammers.length : Int) - 1))).bind fun t_2 => some t_2 else some false)
set_option maxRecDepth 100000 in
theorem spec_l06Place.calls (f0 : GFrame) (step1 : Int) (track2 : Int) (w : World) (r : Bool) (f0_fHammers_a : Option Addr) (f0_fHammers_an : Nat) (f0_fHammers_c : Nat) (f0_fHammers_h : Rw w f0_fHammers_a 2 encGHammer f0.fHammers) (f0_fHammers_hn : f0.fHammers.length = f0_fHammers_an) (f0_b : Nat) (hm0 : Mem w (bs [some f0_b]) [⟨some f0_b, 43, [(.int .i16 f0.fSteps), (.slice f0_fHammers_a f0_fHammers_an f0_fHammers_c)]⟩] w) (f0_fHammers_ha : f0.fHammers ≠ [] → aB f0_fHammers_a ∉ bs [some f0_b]) (h : spec_l06Place f0 step1 track2 = some r) :
    Calls Tryz.prog 107 #[(.pointer (some ⟨f0_b, 0, none⟩)), (.int .i64 step1), (.int .i64 track2)] w fun e w' => ∃ v, e = .returned v ∧ (v = (.bool r) ∧ Mem w (bs [some f0_b]) [⟨some f0_b, 43, [(.int .i16 f0.fSteps), (.slice f0_fHammers_a f0_fHammers_an f0_fHammers_c)]⟩] w') := by
  subst f0_fHammers_hn
  rw [spec_l06Place] at h
  refine enter (args := [(.pointer (some ⟨f0_b, 0, none⟩)), (.int .i64 step1), (.int .i64 track2)]) Tryz.func107 rfl Tryz.ntmps107 (by kernel_rfl) (L := [⟨some f0_b, 43, [(.int .i16 f0.fSteps), (.slice f0_fHammers_a f0.fHammers.length f0_fHammers_c)]⟩]) (W := bs [some f0_b]) hm0 ?_
  refine jc_seq ?_
  refine jc_region ?_
  refine jo_f [(0, 0)] (by kernel_rfl) ?_
  refine jo_end (by kernel_rfl) ?_
  refine jx_then ?_
  refine jc_seq ?_
  refine jc_region ?_
  refine jo_f [(0, 0), (0, 0), (0, 0), (0, 0), (0, 0), (0, 0), (0, 0)] (by kernel_rfl) ?_
  obtain ⟨t_1, ht_1, h⟩ := bd h
  refine toO (by kernel_rfl) (p_call 0 77 #[(.int .i64 step1), (.int .i64 0), (.int .i64 (w64 ((w64 f0.fSteps) - 1)))] (by kernel_rfl) (by kernel_rfl) (fun w hm => spec_l00In.calls step1 0 (w64 ((w64 f0.fSteps) - 1)) w _ ht_1) ?_)
  rintro w v w' hm ⟨rfl, hm'⟩
  refine ⟨_, hm.app hm', jkO ?_⟩
  clear hm hm'
  refine jo_f [(0, 0), (0, 1), (0, 1), (0, 1), (0, 1), (0, 1), (0, 1), (0, 1)] (by kernel_rfl) ?_
  refine jo_split 15 t_1 (by kernel_rfl) (fun hc_2 => ?_) (fun hc_2 => ?_)
  · replace h := ifT hc_2 h
    obtain ⟨t_2, ht_3, h⟩ := bd h
    refine toO (by kernel_rfl) (p_call 2 77 #[(.int .i64 track2), (.int .i64 0), (.int .i64 (w64 ((f0.fHammers.length : Int) - 1)))] (by kernel_rfl) (by kernel_rfl) (fun w hm => spec_l00In.calls track2 0 (w64 ((f0.fHammers.length : Int) - 1)) w _ ht_3) ?_)
    rintro w v w' hm ⟨rfl, hm'⟩
    refine ⟨_, hm.app hm', jkO ?_⟩
    clear hm hm'
    refine jo_f [(0, 4), (0, 0)] (by kernel_rfl) ?_
    refine jo_end (by kernel_rfl) ?_
    refine jx_then ?_
    refine jc_ret ?_
    obtain rfl := Option.some.inj h
    exact jx_ret [] (.bool t_2) [] rfl (by kernel_rfl) (by kernel_rfl) (fun w hm => ⟨rfl, hm.pick [0] (by kernel_rfl) (by kernel_rfl)⟩)
  · replace h := ifF hc_2 h
    refine jo_f [(0, 3), (0, 5), (0, 0)] (by kernel_rfl) ?_
    refine jo_end (by kernel_rfl) ?_
    refine jx_then ?_
    refine jc_ret ?_
    obtain rfl := Option.some.inj h
    exact jx_ret [] (.bool false) [] rfl (by kernel_rfl) (by kernel_rfl) (fun w hm => ⟨rfl, hm.pick [0] (by kernel_rfl) (by kernel_rfl)⟩)

/-! ### spec.l06Turns -/
noncomputable def spec_l06Turns (n0 : Int) : Option (Bool) := (spec_l00In n0 0 1000000).bind fun t_1 => some t_1
set_option maxRecDepth 100000 in
theorem spec_l06Turns.calls (n0 : Int) (w : World) (r : Bool) (h : spec_l06Turns n0 = some r) :
    Calls Tryz.prog 71 #[(.int .i64 n0)] w fun e w' => ∃ v, e = .returned v ∧ (v = (.bool r) ∧ Mem w [] [] w') := by
  rw [spec_l06Turns] at h
  refine enter (args := [(.int .i64 n0)]) Tryz.func71 rfl Tryz.ntmps71 (by kernel_rfl) (L := []) (W := []) (Mem.start w) ?_
  refine jc_seq ?_
  refine jc_region ?_
  refine jo_f [(0, 0)] (by kernel_rfl) ?_
  refine jo_end (by kernel_rfl) ?_
  refine jx_then ?_
  refine jc_seq ?_
  refine jc_region ?_
  refine jo_f [(0, 0)] (by kernel_rfl) ?_
  obtain ⟨t_1, ht_1, h⟩ := bd h
  refine toO (by kernel_rfl) (p_call 0 77 #[(.int .i64 n0), (.int .i64 0), (.int .i64 1000000)] (by kernel_rfl) (by kernel_rfl) (fun w hm => spec_l00In.calls n0 0 1000000 w _ ht_1) ?_)
  rintro w v w' hm ⟨rfl, hm'⟩
  refine ⟨_, hm.app hm', jkO ?_⟩
  clear hm hm'
  refine jo_f [(0, 0)] (by kernel_rfl) ?_
  refine jo_end (by kernel_rfl) ?_
  refine jx_then ?_
  refine jc_ret ?_
  obtain rfl := Option.some.inj h
  exact jx_ret [] (.bool t_1) [] rfl (by kernel_rfl) (by kernel_rfl) (fun w hm => ⟨rfl, hm.pick [] (by kernel_rfl) (by kernel_rfl)⟩)

/-! ### spec.l06Before -/
noncomputable def spec_l06Before (a0 : GWornPin) (b1 : GWornPin) : Option (Bool) := (if (decide (a0.fStep < b1.fStep)) = true then some true else some ((a0.fStep == b1.fStep) && (decide (a0.fTrack < b1.fTrack))))
set_option maxRecDepth 100000 in
theorem spec_l06Before.calls (a0 : GWornPin) (b1 : GWornPin) (w : World) (r : Bool) (h : spec_l06Before a0 b1 = some r) :
    Calls Tryz.prog 108 #[(.agg #[(.int .i8 a0.fStep), (.int .i8 a0.fTrack), (.int .i64 a0.fTurns)]), (.agg #[(.int .i8 b1.fStep), (.int .i8 b1.fTrack), (.int .i64 b1.fTurns)])] w fun e w' => ∃ v, e = .returned v ∧ (v = (.bool r) ∧ Mem w [] [] w') := by
  rw [spec_l06Before] at h
  refine enter (args := [(.agg #[(.int .i8 a0.fStep), (.int .i8 a0.fTrack), (.int .i64 a0.fTurns)]), (.agg #[(.int .i8 b1.fStep), (.int .i8 b1.fTrack), (.int .i64 b1.fTurns)])]) Tryz.func108 rfl Tryz.ntmps108 (by kernel_rfl) (L := []) (W := []) (Mem.start w) ?_
  refine jc_seq ?_
  refine jc_region ?_
  refine toO (by kernel_rfl) (p_a 0 [0] (by kernel_rfl) (fun b => by kernel_rfl) (fun b_1 => jkO ?_))
  refine toO (by kernel_rfl) (p_a 0 [0] (by kernel_rfl) (fun b => by kernel_rfl) (fun b_2 => jkO ?_))
  refine jo_f [(0, 0)] (by kernel_rfl) ?_
  refine jo_end (by kernel_rfl) ?_
  refine jx_then ?_
  refine jc_seq ?_
  refine jc_region ?_
  refine jo_f [(0, 0), (0, 0), (0, 0), (1, 0), (0, 0), (0, 0), (0, 1), (0, 1), (0, 1), (1, 1), (0, 1)] (by kernel_rfl) ?_
  refine jo_split 10 (decide (a0.fStep < b1.fStep)) (by kernel_rfl) (fun hc_3 => ?_) (fun hc_3 => ?_)
  · replace h := ifT hc_3 h
    refine jo_f [(0, 3), (0, 3), (0, 3), (0, 3), (0, 3), (0, 3), (0, 3), (0, 4), (0, 0)] (by kernel_rfl) ?_
    refine jo_end (by kernel_rfl) ?_
    refine jx_then ?_
    refine jc_ret ?_
    obtain rfl := Option.some.inj h
    exact jx_ret [] (.bool true) [] rfl (by kernel_rfl) (by kernel_rfl) (fun w hm => ⟨rfl, hm.pick [] (by kernel_rfl) (by kernel_rfl)⟩)
  · replace h := ifF hc_3 h
    refine jo_f [(0, 2), (0, 1), (0, 1), (0, 1), (1, 1), (0, 1), (0, 2), (0, 5), (0, 0)] (by kernel_rfl) ?_
    refine jo_end (by kernel_rfl) ?_
    refine jx_then ?_
    refine jc_ret ?_
    obtain rfl := Option.some.inj h
    exact jx_ret [] (.bool ((a0.fStep == b1.fStep) && (decide (a0.fTrack < b1.fTrack)))) [] rfl (by kernel_rfl) (by kernel_rfl) (fun w hm => ⟨rfl, hm.pick [] (by kernel_rfl) (by kernel_rfl)⟩)

/-! ### spec.l06Ok -/
noncomputable def spec_l06Ok.k_3 : Option (Bool) := some true
noncomputable def spec_l06Ok.l_5 (w1 : GWear) : Int → Option ((Int) ⊕ (Bool ⊕ Unit))
  | i_4 => (if (decide (i_4 < (w1.fStrokes.length : Int))) = true then (ix w1.fStrokes i_4).bind fun x_7 => (spec_l06Turns x_7).bind fun t_8 => (if (!t_8) = true then some (.inr (.inl false)) else some (.inl (w64 (i_4 + 1)))) else some (.inr (.inr ())))
noncomputable def spec_l06Ok.k_2 (w1 : GWear) : Option (Bool) := (loop (spec_l06Ok.l_5 w1) 0).bind fun t_6 => match t_6 with | .inl p => some p | .inr p => spec_l06Ok.k_3
noncomputable def spec_l06Ok.k_14 (i_9 : Int) (q_13 : Bool) : Option ((Int) ⊕ (Bool ⊕ Unit)) := (if q_13 = true then some (.inr (.inl false)) else some (.inl (w64 (i_9 + 1))))
noncomputable def spec_l06Ok.l_10 (f0 : GFrame) (w1 : GWear) : Int → Option ((Int) ⊕ (Bool ⊕ Unit))
  | i_9 => (if (decide (i_9 < (w1.fPins.length : Int))) = true then (ix w1.fPins i_9).bind fun x_12 => (spec_l06Place f0 (w64 x_12.fStep) (w64 x_12.fTrack)).bind fun t_15 => (if (!t_15) = true then spec_l06Ok.k_14 i_9 true else (spec_l06Turns x_12.fTurns).bind fun t_16 => (if (!t_16) = true then spec_l06Ok.k_14 i_9 true else (if (decide (i_9 > 0)) = true then (ix w1.fPins (w64 (i_9 - 1))).bind fun x_17 => (spec_l06Before x_17 x_12).bind fun t_18 => spec_l06Ok.k_14 i_9 (!t_18) else spec_l06Ok.k_14 i_9 false))) else some (.inr (.inr ())))
noncomputable def spec_l06Ok (f0 : GFrame) (w1 : GWear) : Option (Bool) := (spec_l02Frame f0).bind fun t_1 => (if ((!t_1) || ((w1.fStrokes.length : Int) != (f0.fHammers.length : Int))) = true then some false else (loop (spec_l06Ok.l_10 f0 w1) 0).bind fun t_11 => match t_11 with | .inl p => some p | .inr p => spec_l06Ok.k_2 w1)
set_option maxRecDepth 100000 in
theorem spec_l06Ok.calls (f0 : GFrame) (w1 : GWear) (w : World) (r : Bool) (f0_fHammers_a : Option Addr) (f0_fHammers_an : Nat) (f0_fHammers_c : Nat) (f0_fHammers_h : Rw w f0_fHammers_a 2 encGHammer f0.fHammers) (f0_fHammers_hn : f0.fHammers.length = f0_fHammers_an) (w1_fPins_a : Option Addr) (w1_fPins_an : Nat) (w1_fPins_c : Nat) (w1_fPins_h : Rw w w1_fPins_a 3 encGWornPin w1.fPins) (w1_fPins_hn : w1.fPins.length = w1_fPins_an) (w1_fStrokes_a : Option Addr) (w1_fStrokes_an : Nat) (w1_fStrokes_c : Nat) (w1_fStrokes_h : Rw w w1_fStrokes_a 1 encI64 w1.fStrokes) (w1_fStrokes_hn : w1.fStrokes.length = w1_fStrokes_an) (f0_b : Nat) (w1_b : Nat) (hm0 : Mem w (bs [some f0_b, some w1_b]) [⟨some f0_b, 43, [(.int .i16 f0.fSteps), (.slice f0_fHammers_a f0_fHammers_an f0_fHammers_c)]⟩, ⟨some w1_b, 38, [(.slice w1_fPins_a w1_fPins_an w1_fPins_c), (.slice w1_fStrokes_a w1_fStrokes_an w1_fStrokes_c)]⟩] w) (f0_fHammers_ha : f0.fHammers ≠ [] → aB f0_fHammers_a ∉ bs [some f0_b, some w1_b]) (w1_fPins_ha : w1.fPins ≠ [] → aB w1_fPins_a ∉ bs [some f0_b, some w1_b]) (w1_fStrokes_ha : w1.fStrokes ≠ [] → aB w1_fStrokes_a ∉ bs [some f0_b, some w1_b]) (h : spec_l06Ok f0 w1 = some r) :
    Calls Tryz.prog 75 #[(.pointer (some ⟨f0_b, 0, none⟩)), (.pointer (some ⟨w1_b, 0, none⟩))] w fun e w' => ∃ v, e = .returned v ∧ (v = (.bool r) ∧ Mem w (bs [some f0_b, some w1_b]) [⟨some f0_b, 43, [(.int .i16 f0.fSteps), (.slice f0_fHammers_a f0_fHammers_an f0_fHammers_c)]⟩, ⟨some w1_b, 38, [(.slice w1_fPins_a w1_fPins_an w1_fPins_c), (.slice w1_fStrokes_a w1_fStrokes_an w1_fStrokes_c)]⟩] w') := by
  subst f0_fHammers_hn w1_fPins_hn w1_fStrokes_hn
  rw [spec_l06Ok] at h
  refine enter (args := [(.pointer (some ⟨f0_b, 0, none⟩)), (.pointer (some ⟨w1_b, 0, none⟩))]) Tryz.func75 rfl Tryz.ntmps75 (by kernel_rfl) (L := [⟨some f0_b, 43, [(.int .i16 f0.fSteps), (.slice f0_fHammers_a f0.fHammers.length f0_fHammers_c)]⟩, ⟨some w1_b, 38, [(.slice w1_fPins_a w1.fPins.length w1_fPins_c), (.slice w1_fStrokes_a w1.fStrokes.length w1_fStrokes_c)]⟩]) (W := bs [some f0_b, some w1_b]) hm0 ?_
  refine jc_seq ?_
  refine jc_region ?_
  refine jo_f [(0, 0)] (by kernel_rfl) ?_
  refine jo_end (by kernel_rfl) ?_
  refine jx_then ?_
  refine jc_seq ?_
  refine jc_seq ?_
  refine jc_draw [⟨some f0_b, 43, [(.int .i16 f0.fSteps), (.slice f0_fHammers_a f0.fHammers.length f0_fHammers_c)]⟩, ⟨some w1_b, 38, [(.slice w1_fPins_a w1.fPins.length w1_fPins_c), (.slice w1_fStrokes_a w1.fStrokes.length w1_fStrokes_c)]⟩] 16 (by kernel_rfl) (by kernel_rfl) ?_
  refine jd_f [⟨0, 0, 0⟩] 15 (by kernel_rfl) (by kernel_rfl) (fun w h => h.pick [0, 1] (by kernel_rfl) (by kernel_rfl)) (by kernel_rfl) (by kernel_rfl) ?_
  obtain ⟨t_1, ht_5, h⟩ := bd h
  refine toD 1 (by kernel_rfl) (p_call 0 106 #[(.pointer (some ⟨f0_b, 0, none⟩))] (by kernel_rfl) (by kernel_rfl) (fun w hm => spec_l02Frame.calls f0 w _ f0_fHammers_a f0.fHammers.length f0_fHammers_c (hm.exRowW f0_fHammers_h f0_fHammers_ha) rfl f0_b (hm.pass (N := [⟨some f0_b, 43, [(.int .i16 f0.fSteps), (.slice f0_fHammers_a f0.fHammers.length f0_fHammers_c)]⟩]) [0] (by kernel_rfl) (by kernel_rfl)) (hm.exApart (N := [⟨some f0_b, 43, [(.int .i16 f0.fSteps), (.slice f0_fHammers_a f0.fHammers.length f0_fHammers_c)]⟩]) f0_fHammers_h f0_fHammers_ha [0] (by kernel_rfl)) ht_5) ?_)
  rintro w v w' hm ⟨rfl, hm'⟩
  refine ⟨_, hm.appW (ps := [(0, ⟨some f0_b, 43, [(.int .i16 f0.fSteps), (.slice f0_fHammers_a f0.fHammers.length f0_fHammers_c)]⟩)]) (N := []) hm' (by kernel_rfl) (by kernel_rfl), jkD (fun w h => h.pick [0, 1] (by kernel_rfl) (by kernel_rfl)) ?_⟩
  clear hm hm'
  refine jd_f [⟨2, 0, 0⟩, ⟨3, 0, 0⟩, ⟨4, 0, 1⟩, ⟨5, 0, 1⟩, ⟨6, 0, 1⟩, ⟨7, 1, 1⟩, ⟨8, 0, 1⟩, ⟨9, 0, 1⟩, ⟨10, 0, 1⟩, ⟨11, 0, 1⟩, ⟨12, 0, 1⟩, ⟨13, 0, 1⟩, ⟨14, 0, 1⟩, ⟨15, 0, 0⟩] 0 (by kernel_rfl) (by kernel_rfl) (fun w h => h.pick [0, 1] (by kernel_rfl) (by kernel_rfl)) (by kernel_rfl) (by kernel_rfl) ?_
  refine jd_end (by kernel_rfl) ?_
  refine jx_then ?_
  refine jc_cond ((!t_1) || ((w1.fStrokes.length : Int) != (f0.fHammers.length : Int))) (by kernel_rfl) (fun hc_6 => ?_) (fun hc_6 => ?_)
  · replace h := ifT hc_6 h
    refine jc_seq ?_
    refine jc_region ?_
    refine jo_f [(0, 0)] (by kernel_rfl) ?_
    refine jo_end (by kernel_rfl) ?_
    refine jx_then ?_
    refine jc_ret ?_
    refine jx_thenr ?_
    obtain rfl := Option.some.inj h
    exact jx_ret [] (.bool false) [] rfl (by kernel_rfl) (by kernel_rfl) (fun w hm => ⟨rfl, hm.pick [0, 1] (by kernel_rfl) (by kernel_rfl)⟩)
  · replace h := ifF hc_6 h
    refine jc_skip ?_
    refine jx_then ?_
    refine jc_seq ?_
    refine jc_seq ?_
    refine jc_region ?_
    refine jo_f [(0, 0)] (by kernel_rfl) ?_
    refine jo_end (by kernel_rfl) ?_
    refine jx_then ?_
    refine jc_meet (fun (_ : Unit) => spec_l06Ok.k_2 w1 = some r) (fun (_ : Unit) => [(1, [], (.pointer (some ⟨w1_b, 0, none⟩))), (4, [], (.bool false))]) (fun (_ : Unit) => [⟨some f0_b, 43, [(.int .i16 f0.fSteps), (.slice f0_fHammers_a f0.fHammers.length f0_fHammers_c)]⟩, ⟨some w1_b, 38, [(.slice w1_fPins_a w1.fPins.length w1_fPins_c), (.slice w1_fStrokes_a w1.fStrokes.length w1_fStrokes_c)]⟩]) ?_ ?_
    · refine jc_block ?_
      obtain ⟨t_11, ht_294, hr_271⟩ := bd h
      refine jc_loop (fun (s : Int) (x : Unit) => match s, x with | i_9, _ => True) (fun (s : Int) (x : Unit) => match s, x with | i_9, _ => [(0, [], (.pointer (some ⟨f0_b, 0, none⟩))), (1, [], (.pointer (some ⟨w1_b, 0, none⟩))), (4, [], (.bool false)), (5, [], (.int .i64 i_9))]) (fun (s : Int) (x : Unit) => match s, x with | i_9, _ => [⟨some f0_b, 43, [(.int .i16 f0.fSteps), (.slice f0_fHammers_a f0.fHammers.length f0_fHammers_c)]⟩, ⟨some w1_b, 38, [(.slice w1_fPins_a w1.fPins.length w1_fPins_c), (.slice w1_fStrokes_a w1.fStrokes.length w1_fStrokes_c)]⟩]) ht_294 () trivial (by kernel_rfl) [0, 1] (by kernel_rfl) (by kernel_rfl) ?_
      rintro i_9 _ y_272 _ h
      rw [spec_l06Ok.l_10] at h
      refine jc_seq ?_
      refine jc_seq ?_
      refine jc_region ?_
      refine jo_f [(0, 0), (0, 0), (0, 0), (0, 0), (1, 0), (0, 0), (0, 0)] (by kernel_rfl) ?_
      refine jo_end (by kernel_rfl) ?_
      refine jx_then ?_
      refine jc_cond (decide (i_9 < (w1.fPins.length : Int))) (by kernel_rfl) (fun hc_274 => ?_) (fun hc_274 => ?_)
      · replace h := ifT hc_274 h
        refine jc_skip ?_
        refine jx_then ?_
        refine jc_seq ?_
        refine jc_block ?_
        refine jc_seq ?_
        refine jc_region ?_
        refine jo_f [(0, 0), (0, 0), (0, 0), (1, 0), (0, 0)] (by kernel_rfl) ?_
        obtain ⟨x_12, hx_275, h⟩ := bd h
        refine toO (by kernel_rfl) (p_idx 0 w1_fPins_a w1.fPins.length i_9 3 (by kernel_rfl) (by kernel_rfl) (ix_some hx_275).1 (ltn hx_275 rfl) (w1_fPins_h.sp hx_275) (jkO ?_))
        refine toO (by kernel_rfl) (p_ld 0 (aB w1_fPins_a) (aO w1_fPins_a + i_9.toNat * 3) true (encGWornPin x_12) (by kernel_rfl) (by kernel_rfl) (by kernel_rfl) (fun w hm => ((hm.exRowW w1_fPins_h w1_fPins_ha).at hx_275)) (jkO ?_))
        refine toO (by kernel_rfl) (p_a 0 [0] (by kernel_rfl) (fun b => by kernel_rfl) (fun b_276 => jkO ?_))
        refine toO (by kernel_rfl) (p_s 0 [2] (by kernel_rfl) (by kernel_rfl) (jkO ?_))
        refine jo_end (by kernel_rfl) ?_
        refine jx_then ?_
        refine jc_seq ?_
        refine jc_meet (fun (j : Bool) => match j with | q_13 => spec_l06Ok.k_14 i_9 q_13 = some y_272) (fun (j : Bool) => match j with | q_13 => [(0, [], (.pointer (some ⟨f0_b, 0, none⟩))), (1, [], (.pointer (some ⟨w1_b, 0, none⟩))), (4, [], (.bool false)), (5, [], (.int .i64 i_9)), (71, [], (.bool q_13))]) (fun (j : Bool) => match j with | q_13 => [⟨some f0_b, 43, [(.int .i16 f0.fSteps), (.slice f0_fHammers_a f0.fHammers.length f0_fHammers_c)]⟩, ⟨some w1_b, 38, [(.slice w1_fPins_a w1.fPins.length w1_fPins_c), (.slice w1_fStrokes_a w1.fStrokes.length w1_fStrokes_c)]⟩, ⟨some b_276, 75, [(.int .i8 x_12.fStep), (.int .i8 x_12.fTrack), (.int .i64 x_12.fTurns)]⟩]) ?_ ?_
        · refine jc_draw [⟨some f0_b, 43, [(.int .i16 f0.fSteps), (.slice f0_fHammers_a f0.fHammers.length f0_fHammers_c)]⟩, ⟨some w1_b, 38, [(.slice w1_fPins_a w1.fPins.length w1_fPins_c), (.slice w1_fStrokes_a w1.fStrokes.length w1_fStrokes_c)]⟩, ⟨some b_276, 75, [(.int .i8 x_12.fStep), (.int .i8 x_12.fTrack), (.int .i64 x_12.fTurns)]⟩] 32 (by kernel_rfl) (by kernel_rfl) ?_
          refine jd_f [⟨0, 0, 0⟩, ⟨1, 0, 0⟩, ⟨2, 2, 0⟩, ⟨3, 0, 0⟩, ⟨4, 0, 0⟩, ⟨5, 2, 0⟩, ⟨6, 0, 0⟩] 25 (by kernel_rfl) (by kernel_rfl) (fun w h => h.pick [0, 1, 2] (by kernel_rfl) (by kernel_rfl)) (by kernel_rfl) (by kernel_rfl) ?_
          obtain ⟨t_15, ht_286, h⟩ := bd h
          refine toD 7 (by kernel_rfl) (p_call 0 107 #[(.pointer (some ⟨f0_b, 0, none⟩)), (.int .i64 (w64 x_12.fStep)), (.int .i64 (w64 x_12.fTrack))] (by kernel_rfl) (by kernel_rfl) (fun w hm => spec_l06Place.calls f0 (w64 x_12.fStep) (w64 x_12.fTrack) w _ f0_fHammers_a f0.fHammers.length f0_fHammers_c (hm.exRowW f0_fHammers_h f0_fHammers_ha) rfl f0_b (hm.pass (N := [⟨some f0_b, 43, [(.int .i16 f0.fSteps), (.slice f0_fHammers_a f0.fHammers.length f0_fHammers_c)]⟩]) [0] (by kernel_rfl) (by kernel_rfl)) (hm.exApart (N := [⟨some f0_b, 43, [(.int .i16 f0.fSteps), (.slice f0_fHammers_a f0.fHammers.length f0_fHammers_c)]⟩]) f0_fHammers_h f0_fHammers_ha [0] (by kernel_rfl)) ht_286) ?_)
          rintro w v w' hm ⟨rfl, hm'⟩
          refine ⟨_, hm.appW (ps := [(0, ⟨some f0_b, 43, [(.int .i16 f0.fSteps), (.slice f0_fHammers_a f0.fHammers.length f0_fHammers_c)]⟩)]) (N := []) hm' (by kernel_rfl) (by kernel_rfl), jkD (fun w h => h.pick [0, 1, 2] (by kernel_rfl) (by kernel_rfl)) ?_⟩
          clear hm hm'
          refine jd_f [⟨8, 0, 0⟩, ⟨9, 0, 0⟩, ⟨10, 0, 1⟩, ⟨11, 2, 1⟩] 20 (by kernel_rfl) (by kernel_rfl) (fun w h => h.pick [0, 1, 2] (by kernel_rfl) (by kernel_rfl)) (by kernel_rfl) (by kernel_rfl) ?_
          refine jd_split 49 (!t_15) (by kernel_rfl) (fun hc_287 => ?_) (fun hc_287 => ?_)
          · replace h := ifT hc_287 h
            refine jd_f [⟨12, 0, 3⟩, ⟨13, 0, 3⟩, ⟨14, 0, 4⟩, ⟨15, 0, 0⟩, ⟨16, 0, 3⟩, ⟨17, 0, 3⟩, ⟨18, 0, 3⟩, ⟨19, 0, 3⟩, ⟨20, 0, 3⟩, ⟨21, 0, 3⟩, ⟨22, 0, 3⟩, ⟨23, 0, 3⟩, ⟨24, 0, 3⟩, ⟨25, 0, 3⟩, ⟨26, 0, 3⟩, ⟨27, 0, 3⟩, ⟨28, 0, 3⟩, ⟨29, 0, 3⟩, ⟨30, 0, 3⟩, ⟨31, 0, 4⟩] 0 (by kernel_rfl) (by kernel_rfl) (fun w h => h.pick [0, 1, 2] (by kernel_rfl) (by kernel_rfl)) (by kernel_rfl) (by kernel_rfl) ?_
            refine jd_end (by kernel_rfl) ?_
            exact jx_meet true h (by kernel_rfl) [0, 1, 2] (by kernel_rfl) (by kernel_rfl)
          · replace h := ifF hc_287 h
            obtain ⟨t_16, ht_288, h⟩ := bd h
            refine toD 12 (by kernel_rfl) (p_call 2 71 #[(.int .i64 x_12.fTurns)] (by kernel_rfl) (by kernel_rfl) (fun w hm => spec_l06Turns.calls x_12.fTurns w _ ht_288) ?_)
            rintro w v w' hm ⟨rfl, hm'⟩
            refine ⟨_, hm.app hm', jkD (fun w h => h.pick [0, 1, 2] (by kernel_rfl) (by kernel_rfl)) ?_⟩
            clear hm hm'
            refine jd_f [⟨13, 0, 2⟩, ⟨14, 0, 5⟩, ⟨15, 0, 0⟩, ⟨16, 0, 1⟩, ⟨17, 0, 1⟩] 14 (by kernel_rfl) (by kernel_rfl) (fun w h => h.pick [0, 1, 2] (by kernel_rfl) (by kernel_rfl)) (by kernel_rfl) (by kernel_rfl) ?_
            refine jd_split 55 (!t_16) (by kernel_rfl) (fun hc_289 => ?_) (fun hc_289 => ?_)
            · replace h := ifT hc_289 h
              refine jd_f [⟨18, 0, 3⟩, ⟨19, 0, 3⟩, ⟨20, 0, 3⟩, ⟨21, 0, 3⟩, ⟨22, 0, 3⟩, ⟨23, 0, 3⟩, ⟨24, 0, 3⟩, ⟨25, 0, 3⟩, ⟨26, 0, 3⟩, ⟨27, 0, 3⟩, ⟨28, 0, 3⟩, ⟨29, 0, 3⟩, ⟨30, 0, 3⟩, ⟨31, 0, 4⟩] 0 (by kernel_rfl) (by kernel_rfl) (fun w h => h.pick [0, 1, 2] (by kernel_rfl) (by kernel_rfl)) (by kernel_rfl) (by kernel_rfl) ?_
              refine jd_end (by kernel_rfl) ?_
              exact jx_meet true h (by kernel_rfl) [0, 1, 2] (by kernel_rfl) (by kernel_rfl)
            · replace h := ifF hc_289 h
              refine jd_f [⟨18, 0, 2⟩, ⟨19, 0, 1⟩, ⟨20, 0, 1⟩, ⟨21, 0, 1⟩, ⟨22, 1, 1⟩, ⟨23, 0, 1⟩, ⟨24, 0, 1⟩, ⟨27, 2, 1⟩] 6 (by kernel_rfl) (by kernel_rfl) (fun w h => h.pick [0, 1, 2] (by kernel_rfl) (by kernel_rfl)) (by kernel_rfl) (by kernel_rfl) ?_
              refine jd_split 58 (decide (i_9 > 0)) (by kernel_rfl) (fun hc_290 => ?_) (fun hc_290 => ?_)
              · replace h := ifT hc_290 h
                obtain ⟨x_17, hx_291, h⟩ := bd h
                refine jd_v 25 2 (by kernel_rfl) (fun w h => h.pick [0, 1, 2] (by kernel_rfl) (by kernel_rfl)) (by kernel_rfl) (by kernel_rfl) _ (fun w hm => idx_run (a := w1_fPins_a) (len := w1.fPins.length) (s := 3) (j := (w64 (i_9 - 1))) (by kernel_rfl) (ix_some hx_291).1 (ltn hx_291 rfl) (w1_fPins_h.sp hx_291)) ?_
                refine jd_v 26 2 (by kernel_rfl) (fun w h => h.pick [0, 1, 2] (by kernel_rfl) (by kernel_rfl)) (by kernel_rfl) (by kernel_rfl) _ (fun w hm => ld_run (b := aB w1_fPins_a) (off := (aO w1_fPins_a + (w64 (i_9 - 1)).toNat * 3)) (s := 3) (agg := true) (vs := (encGWornPin x_17)) (by kernel_rfl) (by kernel_rfl) (.inl rfl) ((hm.exRowW w1_fPins_h w1_fPins_ha).at hx_291)) ?_
                obtain ⟨t_18, ht_292, h⟩ := bd h
                refine toD 28 (by kernel_rfl) (p_call 2 108 #[(.agg #[(.int .i8 x_17.fStep), (.int .i8 x_17.fTrack), (.int .i64 x_17.fTurns)]), (.agg #[(.int .i8 x_12.fStep), (.int .i8 x_12.fTrack), (.int .i64 x_12.fTurns)])] (by kernel_rfl) (by kernel_rfl) (fun w hm => spec_l06Before.calls x_17 x_12 w _ ht_292) ?_)
                rintro w v w' hm ⟨rfl, hm'⟩
                refine ⟨_, hm.app hm', jkD (fun w h => h.pick [0, 1, 2] (by kernel_rfl) (by kernel_rfl)) ?_⟩
                clear hm hm'
                refine jd_f [⟨29, 0, 2⟩, ⟨30, 0, 4⟩, ⟨31, 0, 5⟩] 0 (by kernel_rfl) (by kernel_rfl) (fun w h => h.pick [0, 1, 2] (by kernel_rfl) (by kernel_rfl)) (by kernel_rfl) (by kernel_rfl) ?_
                refine jd_end (by kernel_rfl) ?_
                exact jx_meet (!t_18) h (by kernel_rfl) [0, 1, 2] (by kernel_rfl) (by kernel_rfl)
              · replace h := ifF hc_290 h
                refine jd_f [⟨25, 0, 3⟩, ⟨26, 0, 3⟩, ⟨28, 0, 3⟩, ⟨29, 0, 3⟩, ⟨30, 0, 5⟩, ⟨31, 0, 5⟩] 0 (by kernel_rfl) (by kernel_rfl) (fun w h => h.pick [0, 1, 2] (by kernel_rfl) (by kernel_rfl)) (by kernel_rfl) (by kernel_rfl) ?_
                refine jd_end (by kernel_rfl) ?_
                exact jx_meet false h (by kernel_rfl) [0, 1, 2] (by kernel_rfl) (by kernel_rfl)
        · rintro q_13 h
          replace h : spec_l06Ok.k_14 i_9 q_13 = some y_272 := h
          rw [spec_l06Ok.k_14] at h
          refine jx_then ?_
          refine jc_cond q_13 (by kernel_rfl) (fun hc_284 => ?_) (fun hc_284 => ?_)
          · replace h := ifT hc_284 h
            refine jc_seq ?_
            refine jc_region ?_
            refine jo_f [(0, 0)] (by kernel_rfl) ?_
            refine jo_end (by kernel_rfl) ?_
            refine jx_then ?_
            refine jc_ret ?_
            refine jx_inr ?_
            refine jx_thenr ?_
            refine jx_leaver (.inl false) (Option.some.inj h).symm (fun e_285 => ?_)
            subst e_285
            refine jx_inr ?_
            refine jx_thenr ?_
            refine jx_thenr ?_
            obtain rfl := Option.some.inj hr_271
            exact jx_ret [] (.bool false) [] rfl (by kernel_rfl) (by kernel_rfl) (fun w hm => ⟨rfl, hm.pick [0, 1] (by kernel_rfl) (by kernel_rfl)⟩)
          · replace h := ifF hc_284 h
            refine jc_skip ?_
            refine jx_inn ?_
            refine jx_then ?_
            refine jc_region ?_
            refine jo_f [(0, 0), (0, 0), (0, 0)] (by kernel_rfl) ?_
            refine jo_end (by kernel_rfl) ?_
            exact jx_back (w64 (i_9 + 1)) () (Option.some.inj h).symm trivial [0, 1] (by kernel_rfl) (by kernel_rfl) (by kernel_rfl)
      · replace h := ifF hc_274 h
        refine jc_exit ?_
        refine jx_thenx ?_
        refine jx_leave (.inr ()) (Option.some.inj h).symm (fun e_293 => ?_)
        subst e_293
        refine jx_ine ?_
        exact jx_meet () hr_271 (by kernel_rfl) [0, 1] (by kernel_rfl) (by kernel_rfl)
    · rintro _ h
      replace h : spec_l06Ok.k_2 w1 = some r := h
      rw [spec_l06Ok.k_2] at h
      refine jx_then ?_
      refine jc_seq ?_
      refine jc_seq ?_
      refine jc_region ?_
      refine jo_f [(0, 0)] (by kernel_rfl) ?_
      refine jo_end (by kernel_rfl) ?_
      refine jx_then ?_
      refine jc_meet (fun (_ : Unit) => spec_l06Ok.k_3 = some r) (fun (_ : Unit) => [(4, [], (.bool false))]) (fun (_ : Unit) => [⟨some f0_b, 43, [(.int .i16 f0.fSteps), (.slice f0_fHammers_a f0.fHammers.length f0_fHammers_c)]⟩, ⟨some w1_b, 38, [(.slice w1_fPins_a w1.fPins.length w1_fPins_c), (.slice w1_fStrokes_a w1.fStrokes.length w1_fStrokes_c)]⟩]) ?_ ?_
      · refine jc_block ?_
        obtain ⟨t_6, ht_232, hr_223⟩ := bd h
        refine jc_loop (fun (s : Int) (x : Unit) => match s, x with | i_4, _ => True) (fun (s : Int) (x : Unit) => match s, x with | i_4, _ => [(1, [], (.pointer (some ⟨w1_b, 0, none⟩))), (4, [], (.bool false)), (7, [], (.int .i64 i_4))]) (fun (s : Int) (x : Unit) => match s, x with | i_4, _ => [⟨some f0_b, 43, [(.int .i16 f0.fSteps), (.slice f0_fHammers_a f0.fHammers.length f0_fHammers_c)]⟩, ⟨some w1_b, 38, [(.slice w1_fPins_a w1.fPins.length w1_fPins_c), (.slice w1_fStrokes_a w1.fStrokes.length w1_fStrokes_c)]⟩]) ht_232 () trivial (by kernel_rfl) [0, 1] (by kernel_rfl) (by kernel_rfl) ?_
        rintro i_4 _ y_224 _ h
        rw [spec_l06Ok.l_5] at h
        refine jc_seq ?_
        refine jc_seq ?_
        refine jc_region ?_
        refine jo_f [(0, 0), (0, 0), (0, 0), (0, 0), (1, 0), (0, 0), (0, 0)] (by kernel_rfl) ?_
        refine jo_end (by kernel_rfl) ?_
        refine jx_then ?_
        refine jc_cond (decide (i_4 < (w1.fStrokes.length : Int))) (by kernel_rfl) (fun hc_226 => ?_) (fun hc_226 => ?_)
        · replace h := ifT hc_226 h
          refine jc_skip ?_
          refine jx_then ?_
          refine jc_seq ?_
          refine jc_block ?_
          refine jc_seq ?_
          refine jc_region ?_
          refine jo_f [(0, 0), (0, 0), (0, 0), (1, 0), (0, 0)] (by kernel_rfl) ?_
          obtain ⟨x_7, hx_227, h⟩ := bd h
          refine toO (by kernel_rfl) (p_idx 0 w1_fStrokes_a w1.fStrokes.length i_4 1 (by kernel_rfl) (by kernel_rfl) (ix_some hx_227).1 (ltn hx_227 rfl) (w1_fStrokes_h.sp hx_227) (jkO ?_))
          refine toO (by kernel_rfl) (p_ld 0 (aB w1_fStrokes_a) (aO w1_fStrokes_a + i_4.toNat * 1) false (encI64 x_7) (by kernel_rfl) (by kernel_rfl) (by kernel_rfl) (fun w hm => ((hm.exRowW w1_fStrokes_h w1_fStrokes_ha).at hx_227)) (jkO ?_))
          obtain ⟨t_8, ht_228, h⟩ := bd h
          refine toO (by kernel_rfl) (p_call 0 71 #[(.int .i64 x_7)] (by kernel_rfl) (by kernel_rfl) (fun w hm => spec_l06Turns.calls x_7 w _ ht_228) ?_)
          rintro w v w' hm ⟨rfl, hm'⟩
          refine ⟨_, hm.app hm', jkO ?_⟩
          clear hm hm'
          refine jo_f [(0, 0)] (by kernel_rfl) ?_
          refine jo_end (by kernel_rfl) ?_
          refine jx_then ?_
          refine jc_cond (!t_8) (by kernel_rfl) (fun hc_229 => ?_) (fun hc_229 => ?_)
          · replace h := ifT hc_229 h
            refine jc_seq ?_
            refine jc_region ?_
            refine jo_f [(0, 0)] (by kernel_rfl) ?_
            refine jo_end (by kernel_rfl) ?_
            refine jx_then ?_
            refine jc_ret ?_
            refine jx_inr ?_
            refine jx_thenr ?_
            refine jx_leaver (.inl false) (Option.some.inj h).symm (fun e_230 => ?_)
            subst e_230
            refine jx_inr ?_
            refine jx_thenr ?_
            refine jx_thenr ?_
            obtain rfl := Option.some.inj hr_223
            exact jx_ret [] (.bool false) [] rfl (by kernel_rfl) (by kernel_rfl) (fun w hm => ⟨rfl, hm.pick [0, 1] (by kernel_rfl) (by kernel_rfl)⟩)
          · replace h := ifF hc_229 h
            refine jc_skip ?_
            refine jx_inn ?_
            refine jx_then ?_
            refine jc_region ?_
            refine jo_f [(0, 0), (0, 0), (0, 0)] (by kernel_rfl) ?_
            refine jo_end (by kernel_rfl) ?_
            exact jx_back (w64 (i_4 + 1)) () (Option.some.inj h).symm trivial [0, 1] (by kernel_rfl) (by kernel_rfl) (by kernel_rfl)
        · replace h := ifF hc_226 h
          refine jc_exit ?_
          refine jx_thenx ?_
          refine jx_leave (.inr ()) (Option.some.inj h).symm (fun e_231 => ?_)
          subst e_231
          refine jx_ine ?_
          exact jx_meet () hr_223 (by kernel_rfl) [0, 1] (by kernel_rfl) (by kernel_rfl)
      · rintro _ h
        replace h : spec_l06Ok.k_3 = some r := h
        rw [spec_l06Ok.k_3] at h
        refine jx_then ?_
        refine jc_seq ?_
        refine jc_region ?_
        refine jo_f [(0, 0)] (by kernel_rfl) ?_
        refine jo_end (by kernel_rfl) ?_
        refine jx_then ?_
        refine jc_ret ?_
        obtain rfl := Option.some.inj h
        exact jx_ret [] (.bool true) [] rfl (by kernel_rfl) (by kernel_rfl) (fun w hm => ⟨rfl, hm.pick [0, 1] (by kernel_rfl) (by kernel_rfl)⟩)

/-! ### spec.l06Lives -/
noncomputable def spec_l06Lives (v0 : GLives) : Option (Bool) := (spec_l00In v0.fPin 1 1000000).bind fun t_1 => (if t_1 = true then (spec_l00In v0.fHammer 1 1000000).bind fun t_2 => some t_2 else some false)
set_option maxRecDepth 100000 in
theorem spec_l06Lives.calls (v0 : GLives) (w : World) (r : Bool) (h : spec_l06Lives v0 = some r) :
    Calls Tryz.prog 76 #[(.agg #[(.int .i64 v0.fPin), (.int .i64 v0.fHammer)])] w fun e w' => ∃ v, e = .returned v ∧ (v = (.bool r) ∧ Mem w [] [] w') := by
  rw [spec_l06Lives] at h
  refine enter (args := [(.agg #[(.int .i64 v0.fPin), (.int .i64 v0.fHammer)])]) Tryz.func76 rfl Tryz.ntmps76 (by kernel_rfl) (L := []) (W := []) (Mem.start w) ?_
  refine jc_seq ?_
  refine jc_region ?_
  refine toO (by kernel_rfl) (p_a 0 [0] (by kernel_rfl) (fun b => by kernel_rfl) (fun b_1 => jkO ?_))
  refine jo_f [(0, 0)] (by kernel_rfl) ?_
  refine jo_end (by kernel_rfl) ?_
  refine jx_then ?_
  refine jc_seq ?_
  refine jc_region ?_
  refine jo_f [(0, 0), (0, 0)] (by kernel_rfl) ?_
  obtain ⟨t_1, ht_2, h⟩ := bd h
  refine toO (by kernel_rfl) (p_call 0 77 #[(.int .i64 v0.fPin), (.int .i64 1), (.int .i64 1000000)] (by kernel_rfl) (by kernel_rfl) (fun w hm => spec_l00In.calls v0.fPin 1 1000000 w _ ht_2) ?_)
  rintro w v w' hm ⟨rfl, hm'⟩
  refine ⟨_, hm.app hm', jkO ?_⟩
  clear hm hm'
  refine jo_f [(0, 0), (0, 1), (0, 1)] (by kernel_rfl) ?_
  refine jo_split 6 t_1 (by kernel_rfl) (fun hc_3 => ?_) (fun hc_3 => ?_)
  · replace h := ifT hc_3 h
    obtain ⟨t_2, ht_4, h⟩ := bd h
    refine toO (by kernel_rfl) (p_call 2 77 #[(.int .i64 v0.fHammer), (.int .i64 1), (.int .i64 1000000)] (by kernel_rfl) (by kernel_rfl) (fun w hm => spec_l00In.calls v0.fHammer 1 1000000 w _ ht_4) ?_)
    rintro w v w' hm ⟨rfl, hm'⟩
    refine ⟨_, hm.app hm', jkO ?_⟩
    clear hm hm'
    refine jo_f [(0, 4), (0, 0)] (by kernel_rfl) ?_
    refine jo_end (by kernel_rfl) ?_
    refine jx_then ?_
    refine jc_ret ?_
    obtain rfl := Option.some.inj h
    exact jx_ret [] (.bool t_2) [] rfl (by kernel_rfl) (by kernel_rfl) (fun w hm => ⟨rfl, hm.pick [] (by kernel_rfl) (by kernel_rfl)⟩)
  · replace h := ifF hc_3 h
    refine jo_f [(0, 3), (0, 5), (0, 0)] (by kernel_rfl) ?_
    refine jo_end (by kernel_rfl) ?_
    refine jx_then ?_
    refine jc_ret ?_
    obtain rfl := Option.some.inj h
    exact jx_ret [] (.bool false) [] rfl (by kernel_rfl) (by kernel_rfl) (fun w hm => ⟨rfl, hm.pick [] (by kernel_rfl) (by kernel_rfl)⟩)

/-! ### spec.l06Lived -/
noncomputable def spec_l06Lived.k_2 (q_1 : Bool) : Option (Int) := (if q_1 = true then some 1 else some 0)
noncomputable def spec_l06Lived (f0 : GFrame) (w1 : GWear) (v2 : GLives) : Option (Int) := (spec_l06Ok f0 w1).bind fun t_3 => (if (!t_3) = true then spec_l06Lived.k_2 true else (spec_l06Lives v2).bind fun t_4 => spec_l06Lived.k_2 (!t_4))
set_option maxRecDepth 100000 in
theorem spec_l06Lived.calls (f0 : GFrame) (w1 : GWear) (v2 : GLives) (w : World) (r : Int) (f0_fHammers_a : Option Addr) (f0_fHammers_an : Nat) (f0_fHammers_c : Nat) (f0_fHammers_h : Rw w f0_fHammers_a 2 encGHammer f0.fHammers) (f0_fHammers_hn : f0.fHammers.length = f0_fHammers_an) (w1_fPins_a : Option Addr) (w1_fPins_an : Nat) (w1_fPins_c : Nat) (w1_fPins_h : Rw w w1_fPins_a 3 encGWornPin w1.fPins) (w1_fPins_hn : w1.fPins.length = w1_fPins_an) (w1_fStrokes_a : Option Addr) (w1_fStrokes_an : Nat) (w1_fStrokes_c : Nat) (w1_fStrokes_h : Rw w w1_fStrokes_a 1 encI64 w1.fStrokes) (w1_fStrokes_hn : w1.fStrokes.length = w1_fStrokes_an) (f0_b : Nat) (w1_b : Nat) (hm0 : Mem w (bs [some f0_b, some w1_b]) [⟨some f0_b, 43, [(.int .i16 f0.fSteps), (.slice f0_fHammers_a f0_fHammers_an f0_fHammers_c)]⟩, ⟨some w1_b, 38, [(.slice w1_fPins_a w1_fPins_an w1_fPins_c), (.slice w1_fStrokes_a w1_fStrokes_an w1_fStrokes_c)]⟩] w) (f0_fHammers_ha : f0.fHammers ≠ [] → aB f0_fHammers_a ∉ bs [some f0_b, some w1_b]) (w1_fPins_ha : w1.fPins ≠ [] → aB w1_fPins_a ∉ bs [some f0_b, some w1_b]) (w1_fStrokes_ha : w1.fStrokes ≠ [] → aB w1_fStrokes_a ∉ bs [some f0_b, some w1_b]) (h : spec_l06Lived f0 w1 v2 = some r) :
    Calls Tryz.prog 70 #[(.pointer (some ⟨f0_b, 0, none⟩)), (.pointer (some ⟨w1_b, 0, none⟩)), (.agg #[(.int .i64 v2.fPin), (.int .i64 v2.fHammer)])] w fun e w' => ∃ v, e = .returned v ∧ (v = (.int .i64 r) ∧ Mem w (bs [some f0_b, some w1_b]) [⟨some f0_b, 43, [(.int .i16 f0.fSteps), (.slice f0_fHammers_a f0_fHammers_an f0_fHammers_c)]⟩, ⟨some w1_b, 38, [(.slice w1_fPins_a w1_fPins_an w1_fPins_c), (.slice w1_fStrokes_a w1_fStrokes_an w1_fStrokes_c)]⟩] w') := by
  subst f0_fHammers_hn w1_fPins_hn w1_fStrokes_hn
  rw [spec_l06Lived] at h
  refine enter (args := [(.pointer (some ⟨f0_b, 0, none⟩)), (.pointer (some ⟨w1_b, 0, none⟩)), (.agg #[(.int .i64 v2.fPin), (.int .i64 v2.fHammer)])]) Tryz.func70 rfl Tryz.ntmps70 (by kernel_rfl) (L := [⟨some f0_b, 43, [(.int .i16 f0.fSteps), (.slice f0_fHammers_a f0.fHammers.length f0_fHammers_c)]⟩, ⟨some w1_b, 38, [(.slice w1_fPins_a w1.fPins.length w1_fPins_c), (.slice w1_fStrokes_a w1.fStrokes.length w1_fStrokes_c)]⟩]) (W := bs [some f0_b, some w1_b]) hm0 ?_
  refine jc_seq ?_
  refine jc_region ?_
  refine toO (by kernel_rfl) (p_a 0 [0] (by kernel_rfl) (fun b => by kernel_rfl) (fun b_1 => jkO ?_))
  refine jo_f [(0, 0)] (by kernel_rfl) ?_
  refine jo_end (by kernel_rfl) ?_
  refine jx_then ?_
  refine jc_seq ?_
  refine jc_seq ?_
  refine jc_meet (fun (j : Bool) => match j with | q_1 => spec_l06Lived.k_2 q_1 = some r) (fun (j : Bool) => match j with | q_1 => [(6, [], (.int .i64 0)), (15, [], (.bool q_1))]) (fun (j : Bool) => match j with | q_1 => [⟨some f0_b, 43, [(.int .i16 f0.fSteps), (.slice f0_fHammers_a f0.fHammers.length f0_fHammers_c)]⟩, ⟨some w1_b, 38, [(.slice w1_fPins_a w1.fPins.length w1_fPins_c), (.slice w1_fStrokes_a w1.fStrokes.length w1_fStrokes_c)]⟩, ⟨some b_1, 46, [(.int .i64 v2.fPin), (.int .i64 v2.fHammer)]⟩]) ?_ ?_
  · refine jc_region ?_
    refine jo_f [(0, 0), (0, 0)] (by kernel_rfl) ?_
    obtain ⟨t_3, ht_6, h⟩ := bd h
    refine toO (by kernel_rfl) (p_call 0 75 #[(.pointer (some ⟨f0_b, 0, none⟩)), (.pointer (some ⟨w1_b, 0, none⟩))] (by kernel_rfl) (by kernel_rfl) (fun w hm => spec_l06Ok.calls f0 w1 w _ f0_fHammers_a f0.fHammers.length f0_fHammers_c (hm.exRowW f0_fHammers_h f0_fHammers_ha) rfl w1_fPins_a w1.fPins.length w1_fPins_c (hm.exRowW w1_fPins_h w1_fPins_ha) rfl w1_fStrokes_a w1.fStrokes.length w1_fStrokes_c (hm.exRowW w1_fStrokes_h w1_fStrokes_ha) rfl f0_b w1_b (hm.pass (N := [⟨some f0_b, 43, [(.int .i16 f0.fSteps), (.slice f0_fHammers_a f0.fHammers.length f0_fHammers_c)]⟩, ⟨some w1_b, 38, [(.slice w1_fPins_a w1.fPins.length w1_fPins_c), (.slice w1_fStrokes_a w1.fStrokes.length w1_fStrokes_c)]⟩]) [0, 1] (by kernel_rfl) (by kernel_rfl)) (hm.exApart (N := [⟨some f0_b, 43, [(.int .i16 f0.fSteps), (.slice f0_fHammers_a f0.fHammers.length f0_fHammers_c)]⟩, ⟨some w1_b, 38, [(.slice w1_fPins_a w1.fPins.length w1_fPins_c), (.slice w1_fStrokes_a w1.fStrokes.length w1_fStrokes_c)]⟩]) f0_fHammers_h f0_fHammers_ha [0, 1] (by kernel_rfl)) (hm.exApart (N := [⟨some f0_b, 43, [(.int .i16 f0.fSteps), (.slice f0_fHammers_a f0.fHammers.length f0_fHammers_c)]⟩, ⟨some w1_b, 38, [(.slice w1_fPins_a w1.fPins.length w1_fPins_c), (.slice w1_fStrokes_a w1.fStrokes.length w1_fStrokes_c)]⟩]) w1_fPins_h w1_fPins_ha [0, 1] (by kernel_rfl)) (hm.exApart (N := [⟨some f0_b, 43, [(.int .i16 f0.fSteps), (.slice f0_fHammers_a f0.fHammers.length f0_fHammers_c)]⟩, ⟨some w1_b, 38, [(.slice w1_fPins_a w1.fPins.length w1_fPins_c), (.slice w1_fStrokes_a w1.fStrokes.length w1_fStrokes_c)]⟩]) w1_fStrokes_h w1_fStrokes_ha [0, 1] (by kernel_rfl)) ht_6) ?_)
    rintro w v w' hm ⟨rfl, hm'⟩
    refine ⟨_, hm.appW (ps := [(0, ⟨some f0_b, 43, [(.int .i16 f0.fSteps), (.slice f0_fHammers_a f0.fHammers.length f0_fHammers_c)]⟩), (1, ⟨some w1_b, 38, [(.slice w1_fPins_a w1.fPins.length w1_fPins_c), (.slice w1_fStrokes_a w1.fStrokes.length w1_fStrokes_c)]⟩)]) (N := []) hm' (by kernel_rfl) (by kernel_rfl), jkO ?_⟩
    clear hm hm'
    refine jo_f [(0, 0), (0, 0), (2, 1)] (by kernel_rfl) ?_
    refine jo_split 11 (!t_3) (by kernel_rfl) (fun hc_7 => ?_) (fun hc_7 => ?_)
    · replace h := ifT hc_7 h
      refine jo_f [(0, 3), (0, 3), (0, 4)] (by kernel_rfl) ?_
      refine jo_end (by kernel_rfl) ?_
      exact jx_meet true h (by kernel_rfl) [0, 1, 2] (by kernel_rfl) (by kernel_rfl)
    · replace h := ifF hc_7 h
      obtain ⟨t_4, ht_8, h⟩ := bd h
      refine toO (by kernel_rfl) (p_call 2 76 #[(.agg #[(.int .i64 v2.fPin), (.int .i64 v2.fHammer)])] (by kernel_rfl) (by kernel_rfl) (fun w hm => spec_l06Lives.calls v2 w _ ht_8) ?_)
      rintro w v w' hm ⟨rfl, hm'⟩
      refine ⟨_, hm.app hm', jkO ?_⟩
      clear hm hm'
      refine jo_f [(0, 2), (0, 5)] (by kernel_rfl) ?_
      refine jo_end (by kernel_rfl) ?_
      exact jx_meet (!t_4) h (by kernel_rfl) [0, 1, 2] (by kernel_rfl) (by kernel_rfl)
  · rintro q_1 h
    replace h : spec_l06Lived.k_2 q_1 = some r := h
    rw [spec_l06Lived.k_2] at h
    refine jx_then ?_
    refine jc_cond q_1 (by kernel_rfl) (fun hc_5 => ?_) (fun hc_5 => ?_)
    · replace h := ifT hc_5 h
      refine jc_seq ?_
      refine jc_region ?_
      refine jo_f [(0, 0)] (by kernel_rfl) ?_
      refine jo_end (by kernel_rfl) ?_
      refine jx_then ?_
      refine jc_ret ?_
      refine jx_thenr ?_
      obtain rfl := Option.some.inj h
      exact jx_ret [] (.int .i64 1) [] rfl (by kernel_rfl) (by kernel_rfl) (fun w hm => ⟨rfl, hm.pick [0, 1] (by kernel_rfl) (by kernel_rfl)⟩)
    · replace h := ifF hc_5 h
      refine jc_skip ?_
      refine jx_then ?_
      refine jc_seq ?_
      refine jc_region ?_
      refine jo_f [(0, 0)] (by kernel_rfl) ?_
      refine jo_end (by kernel_rfl) ?_
      refine jx_then ?_
      refine jc_ret ?_
      obtain rfl := Option.some.inj h
      exact jx_ret [] (.int .i64 0) [] rfl (by kernel_rfl) (by kernel_rfl) (fun w hm => ⟨rfl, hm.pick [0, 1] (by kernel_rfl) (by kernel_rfl)⟩)

/-! ### spec.l06Acts -/
noncomputable def spec_l06Acts.k_3 (i_2 : Int) : Option (Int) := some i_2
noncomputable def spec_l06Acts (f0 : GFrame) (w1 : GWear) (v2 : GLives) (list3 : List GAct) : Option (Int) := (spec_l06Lived f0 w1 v2).bind fun t_1 => (if ((t_1 == 0) && (decide ((list3.length : Int) > 60))) = true then spec_l06Acts.k_3 3 else spec_l06Acts.k_3 t_1)
set_option maxRecDepth 100000 in
theorem spec_l06Acts.calls (f0 : GFrame) (w1 : GWear) (v2 : GLives) (list3 : List GAct) (w : World) (r : Int) (f0_fHammers_a : Option Addr) (f0_fHammers_an : Nat) (f0_fHammers_c : Nat) (f0_fHammers_h : Rw w f0_fHammers_a 2 encGHammer f0.fHammers) (f0_fHammers_hn : f0.fHammers.length = f0_fHammers_an) (w1_fPins_a : Option Addr) (w1_fPins_an : Nat) (w1_fPins_c : Nat) (w1_fPins_h : Rw w w1_fPins_a 3 encGWornPin w1.fPins) (w1_fPins_hn : w1.fPins.length = w1_fPins_an) (w1_fStrokes_a : Option Addr) (w1_fStrokes_an : Nat) (w1_fStrokes_c : Nat) (w1_fStrokes_h : Rw w w1_fStrokes_a 1 encI64 w1.fStrokes) (w1_fStrokes_hn : w1.fStrokes.length = w1_fStrokes_an) (list3_a : Option Addr) (list3_an : Nat) (list3_c : Nat) (list3_h : Rw w list3_a 5 encGAct list3) (list3_hn : list3.length = list3_an) (f0_b : Nat) (w1_b : Nat) (hm0 : Mem w (bs [some f0_b, some w1_b]) [⟨some f0_b, 43, [(.int .i16 f0.fSteps), (.slice f0_fHammers_a f0_fHammers_an f0_fHammers_c)]⟩, ⟨some w1_b, 38, [(.slice w1_fPins_a w1_fPins_an w1_fPins_c), (.slice w1_fStrokes_a w1_fStrokes_an w1_fStrokes_c)]⟩] w) (f0_fHammers_ha : f0.fHammers ≠ [] → aB f0_fHammers_a ∉ bs [some f0_b, some w1_b]) (w1_fPins_ha : w1.fPins ≠ [] → aB w1_fPins_a ∉ bs [some f0_b, some w1_b]) (w1_fStrokes_ha : w1.fStrokes ≠ [] → aB w1_fStrokes_a ∉ bs [some f0_b, some w1_b]) (list3_ha : list3 ≠ [] → aB list3_a ∉ bs [some f0_b, some w1_b]) (h : spec_l06Acts f0 w1 v2 list3 = some r) :
    Calls Tryz.prog 41 #[(.pointer (some ⟨f0_b, 0, none⟩)), (.pointer (some ⟨w1_b, 0, none⟩)), (.agg #[(.int .i64 v2.fPin), (.int .i64 v2.fHammer)]), (.slice list3_a list3_an list3_c)] w fun e w' => ∃ v, e = .returned v ∧ (v = (.int .i64 r) ∧ Mem w (bs [some f0_b, some w1_b]) [⟨some f0_b, 43, [(.int .i16 f0.fSteps), (.slice f0_fHammers_a f0_fHammers_an f0_fHammers_c)]⟩, ⟨some w1_b, 38, [(.slice w1_fPins_a w1_fPins_an w1_fPins_c), (.slice w1_fStrokes_a w1_fStrokes_an w1_fStrokes_c)]⟩] w') := by
  subst f0_fHammers_hn w1_fPins_hn w1_fStrokes_hn list3_hn
  rw [spec_l06Acts] at h
  refine enter (args := [(.pointer (some ⟨f0_b, 0, none⟩)), (.pointer (some ⟨w1_b, 0, none⟩)), (.agg #[(.int .i64 v2.fPin), (.int .i64 v2.fHammer)]), (.slice list3_a list3.length list3_c)]) Tryz.func41 rfl Tryz.ntmps41 (by kernel_rfl) (L := [⟨some f0_b, 43, [(.int .i16 f0.fSteps), (.slice f0_fHammers_a f0.fHammers.length f0_fHammers_c)]⟩, ⟨some w1_b, 38, [(.slice w1_fPins_a w1.fPins.length w1_fPins_c), (.slice w1_fStrokes_a w1.fStrokes.length w1_fStrokes_c)]⟩]) (W := bs [some f0_b, some w1_b]) hm0 ?_
  refine jc_seq ?_
  refine jc_region ?_
  refine toO (by kernel_rfl) (p_a 0 [0] (by kernel_rfl) (fun b => by kernel_rfl) (fun b_1 => jkO ?_))
  refine jo_f [(0, 0)] (by kernel_rfl) ?_
  refine jo_end (by kernel_rfl) ?_
  refine jx_then ?_
  refine jc_seq ?_
  refine jc_region ?_
  refine jo_f [(0, 0), (0, 0), (2, 0)] (by kernel_rfl) ?_
  obtain ⟨t_1, ht_2, h⟩ := bd h
  refine toO (by kernel_rfl) (p_call 0 70 #[(.pointer (some ⟨f0_b, 0, none⟩)), (.pointer (some ⟨w1_b, 0, none⟩)), (.agg #[(.int .i64 v2.fPin), (.int .i64 v2.fHammer)])] (by kernel_rfl) (by kernel_rfl) (fun w hm => spec_l06Lived.calls f0 w1 v2 w _ f0_fHammers_a f0.fHammers.length f0_fHammers_c (hm.exRowW f0_fHammers_h f0_fHammers_ha) rfl w1_fPins_a w1.fPins.length w1_fPins_c (hm.exRowW w1_fPins_h w1_fPins_ha) rfl w1_fStrokes_a w1.fStrokes.length w1_fStrokes_c (hm.exRowW w1_fStrokes_h w1_fStrokes_ha) rfl f0_b w1_b (hm.pass (N := [⟨some f0_b, 43, [(.int .i16 f0.fSteps), (.slice f0_fHammers_a f0.fHammers.length f0_fHammers_c)]⟩, ⟨some w1_b, 38, [(.slice w1_fPins_a w1.fPins.length w1_fPins_c), (.slice w1_fStrokes_a w1.fStrokes.length w1_fStrokes_c)]⟩]) [0, 1] (by kernel_rfl) (by kernel_rfl)) (hm.exApart (N := [⟨some f0_b, 43, [(.int .i16 f0.fSteps), (.slice f0_fHammers_a f0.fHammers.length f0_fHammers_c)]⟩, ⟨some w1_b, 38, [(.slice w1_fPins_a w1.fPins.length w1_fPins_c), (.slice w1_fStrokes_a w1.fStrokes.length w1_fStrokes_c)]⟩]) f0_fHammers_h f0_fHammers_ha [0, 1] (by kernel_rfl)) (hm.exApart (N := [⟨some f0_b, 43, [(.int .i16 f0.fSteps), (.slice f0_fHammers_a f0.fHammers.length f0_fHammers_c)]⟩, ⟨some w1_b, 38, [(.slice w1_fPins_a w1.fPins.length w1_fPins_c), (.slice w1_fStrokes_a w1.fStrokes.length w1_fStrokes_c)]⟩]) w1_fPins_h w1_fPins_ha [0, 1] (by kernel_rfl)) (hm.exApart (N := [⟨some f0_b, 43, [(.int .i16 f0.fSteps), (.slice f0_fHammers_a f0.fHammers.length f0_fHammers_c)]⟩, ⟨some w1_b, 38, [(.slice w1_fPins_a w1.fPins.length w1_fPins_c), (.slice w1_fStrokes_a w1.fStrokes.length w1_fStrokes_c)]⟩]) w1_fStrokes_h w1_fStrokes_ha [0, 1] (by kernel_rfl)) ht_2) ?_)
  rintro w v w' hm ⟨rfl, hm'⟩
  refine ⟨_, hm.appW (ps := [(0, ⟨some f0_b, 43, [(.int .i16 f0.fSteps), (.slice f0_fHammers_a f0.fHammers.length f0_fHammers_c)]⟩), (1, ⟨some w1_b, 38, [(.slice w1_fPins_a w1.fPins.length w1_fPins_c), (.slice w1_fStrokes_a w1.fStrokes.length w1_fStrokes_c)]⟩)]) (N := []) hm' (by kernel_rfl) (by kernel_rfl), jkO ?_⟩
  clear hm hm'
  refine jo_f [(0, 0)] (by kernel_rfl) ?_
  refine jo_end (by kernel_rfl) ?_
  refine jx_then ?_
  refine jc_seq ?_
  refine jc_meet (fun (j : Int) => match j with | i_2 => spec_l06Acts.k_3 i_2 = some r) (fun (j : Int) => match j with | i_2 => [(8, [], (.int .i64 0)), (9, [], (.int .i64 i_2))]) (fun (j : Int) => match j with | i_2 => [⟨some f0_b, 43, [(.int .i16 f0.fSteps), (.slice f0_fHammers_a f0.fHammers.length f0_fHammers_c)]⟩, ⟨some w1_b, 38, [(.slice w1_fPins_a w1.fPins.length w1_fPins_c), (.slice w1_fStrokes_a w1.fStrokes.length w1_fStrokes_c)]⟩, ⟨some b_1, 46, [(.int .i64 v2.fPin), (.int .i64 v2.fHammer)]⟩]) ?_ ?_
  · refine jc_seq ?_
    refine jc_region ?_
    refine jo_f [(0, 0), (0, 0), (0, 0), (0, 1), (0, 1), (0, 1), (0, 0)] (by kernel_rfl) ?_
    refine jo_end (by kernel_rfl) ?_
    refine jx_then ?_
    refine jc_cond ((t_1 == 0) && (decide ((list3.length : Int) > 60))) (by kernel_rfl) (fun hc_4 => ?_) (fun hc_4 => ?_)
    · replace h := ifT hc_4 h
      refine jc_region ?_
      refine jo_f [(0, 0)] (by kernel_rfl) ?_
      refine jo_end (by kernel_rfl) ?_
      exact jx_meet 3 h (by kernel_rfl) [0, 1, 2] (by kernel_rfl) (by kernel_rfl)
    · replace h := ifF hc_4 h
      refine jc_skip ?_
      exact jx_meet t_1 h (by kernel_rfl) [0, 1, 2] (by kernel_rfl) (by kernel_rfl)
  · rintro i_2 h
    replace h : spec_l06Acts.k_3 i_2 = some r := h
    rw [spec_l06Acts.k_3] at h
    refine jx_then ?_
    refine jc_seq ?_
    refine jc_region ?_
    refine jo_f [(0, 0), (0, 0)] (by kernel_rfl) ?_
    refine jo_end (by kernel_rfl) ?_
    refine jx_then ?_
    refine jc_ret ?_
    obtain rfl := Option.some.inj h
    exact jx_ret [] (.int .i64 i_2) [] rfl (by kernel_rfl) (by kernel_rfl) (fun w hm => ⟨rfl, hm.pick [0, 1] (by kernel_rfl) (by kernel_rfl)⟩)

/-! ### spec.l06Copy -/
noncomputable def spec_l06Copy (w0 : GWear) : Option (GWear) := (if ([] : List GWornPin).length + w0.fPins.length ≤ 4294967296 then (if ([] : List Int).length + w0.fStrokes.length ≤ 4294967296 then some (⟨(([] : List GWornPin) ++ w0.fPins), (([] : List Int) ++ w0.fStrokes)⟩ : GWear) else none) else none)
set_option maxRecDepth 100000 in
theorem spec_l06Copy.calls (w0 : GWear) (w : World) (r : GWear) (w0_fPins_a : Option Addr) (w0_fPins_an : Nat) (w0_fPins_c : Nat) (w0_fPins_h : Rw w w0_fPins_a 3 encGWornPin w0.fPins) (w0_fPins_hn : w0.fPins.length = w0_fPins_an) (w0_fStrokes_a : Option Addr) (w0_fStrokes_an : Nat) (w0_fStrokes_c : Nat) (w0_fStrokes_h : Rw w w0_fStrokes_a 1 encI64 w0.fStrokes) (w0_fStrokes_hn : w0.fStrokes.length = w0_fStrokes_an) (w0_b : Nat) (hm0 : Mem w (bs [some w0_b]) [⟨some w0_b, 38, [(.slice w0_fPins_a w0_fPins_an w0_fPins_c), (.slice w0_fStrokes_a w0_fStrokes_an w0_fStrokes_c)]⟩] w) (w0_fPins_ha : w0.fPins ≠ [] → aB w0_fPins_a ∉ bs [some w0_b]) (w0_fStrokes_ha : w0.fStrokes ≠ [] → aB w0_fStrokes_a ∉ bs [some w0_b]) (h : spec_l06Copy w0 = some r) :
    Calls Tryz.prog 85 #[(.pointer (some ⟨w0_b, 0, none⟩))] w fun e w' => ∃ v, e = .returned v ∧ (∃ (o0 : Option Nat) (c0 : Nat) (s0 : List Value) (n0 : Nat), r.fPins.length = n0 ∧ (o0 ≠ none → n0 ≤ c0 ∧ s0.length = (c0 - n0) * 3) ∧ (o0 = none → r.fPins = [] ∧ c0 = 0) ∧ ∃ (o1 : Option Nat) (c1 : Nat) (s1 : List Value) (n1 : Nat), r.fStrokes.length = n1 ∧ (o1 ≠ none → n1 ≤ c1 ∧ s1.length = (c1 - n1) * 1) ∧ (o1 = none → r.fStrokes = [] ∧ c1 = 0) ∧ v = .agg #[.slice (o0.map fun b => ⟨b, 0, none⟩) n0 c0, .slice (o1.map fun b => ⟨b, 0, none⟩) n1 c1] ∧ Mem w (bs [some w0_b]) [⟨some w0_b, 38, [(.slice w0_fPins_a w0_fPins_an w0_fPins_c), (.slice w0_fStrokes_a w0_fStrokes_an w0_fStrokes_c)]⟩, ⟨o0, 75, row encGWornPin r.fPins s0⟩, ⟨o1, 2, row encI64 r.fStrokes s1⟩] w') := by
  subst w0_fPins_hn w0_fStrokes_hn
  rw [spec_l06Copy] at h
  refine enter (args := [(.pointer (some ⟨w0_b, 0, none⟩))]) Tryz.func85 rfl Tryz.ntmps85 (by kernel_rfl) (L := [⟨some w0_b, 38, [(.slice w0_fPins_a w0.fPins.length w0_fPins_c), (.slice w0_fStrokes_a w0.fStrokes.length w0_fStrokes_c)]⟩]) (W := bs [some w0_b]) hm0 ?_
  refine jc_seq ?_
  refine jc_region ?_
  refine toO (by kernel_rfl) (p_a 0 [0] (by kernel_rfl) (fun b => by kernel_rfl) (fun b_1 => jkO ?_))
  refine jo_end (by kernel_rfl) ?_
  refine jx_then ?_
  refine jc_seq ?_
  refine jc_draw [⟨some w0_b, 38, [(.slice w0_fPins_a w0.fPins.length w0_fPins_c), (.slice w0_fStrokes_a w0.fStrokes.length w0_fStrokes_c)]⟩] 14 (by kernel_rfl) (by kernel_rfl) ?_
  refine jd_f [⟨1, 0, 0⟩, ⟨2, 0, 0⟩, ⟨3, 0, 0⟩, ⟨4, 0, 0⟩, ⟨7, 0, 0⟩, ⟨8, 0, 0⟩, ⟨9, 0, 0⟩, ⟨10, 0, 0⟩] 6 (by kernel_rfl) (by kernel_rfl) (fun w h => h.pick [0] (by kernel_rfl) (by kernel_rfl)) (by kernel_rfl) (by kernel_rfl) ?_
  refine toD2 0 6 (by kernel_rfl) ?_ ?_
  · refine p_a 0 [0] (by kernel_rfl) (fun b => by kernel_rfl) (fun b_16 => jkD (fun w h => h.pick [0] (by kernel_rfl) (by kernel_rfl)) ?_)
    refine toD2 5 6 (by kernel_rfl) ?_ ?_
    · obtain ⟨hg_17, h⟩ := gd h
      refine p_apn 0 2 (some b_16) 75 0 w0.fPins.length 0 3 16 w0_fPins_a encGWornPin ([] : List GWornPin) w0.fPins [] (.agg #[(.int .i8 0), (.int .i8 0), (.int .i64 0)]) rfl rfl (by kernel_rfl) (by kernel_rfl) (by kernel_rfl) encGWornPin_len encGWornPin_cell (fun _ => ⟨Nat.le_refl _, by simp⟩) (fun e => nomatch e) (fun w hm => (hm.exRowW w0_fPins_h w0_fPins_ha)) hg_17 (by kernel_rfl) (by kernel_rfl) (fun o_18 cap_19 sp_20 hs_21 ho_22 => jkD (fun w h => h.pick [0] (by kernel_rfl) (by kernel_rfl)) ?_)
      refine toD 6 (by kernel_rfl) (p_a 0 [0] (by kernel_rfl) (fun b => by kernel_rfl) (fun b_23 => jkD (fun w h => h.pick [0] (by kernel_rfl) (by kernel_rfl)) ?_))
      obtain ⟨hg_24, h⟩ := gd h
      refine toD 11 (by kernel_rfl) (p_apn 0 3 (some b_23) 2 0 w0.fStrokes.length 0 1 8 w0_fStrokes_a encI64 ([] : List Int) w0.fStrokes [] (.int .i64 0) rfl rfl (by kernel_rfl) (by kernel_rfl) (by kernel_rfl) encI64_len encI64_cell (fun _ => ⟨Nat.le_refl _, by simp⟩) (fun e => nomatch e) (fun w hm => (hm.exRowW w0_fStrokes_h w0_fStrokes_ha)) hg_24 (by kernel_rfl) (by kernel_rfl) (fun o_25 cap_26 sp_27 hs_28 ho_29 => jkD (fun w h => h.pick [0] (by kernel_rfl) (by kernel_rfl)) ?_))
      refine jd_f [⟨12, 0, 0⟩] 1 (by kernel_rfl) (by kernel_rfl) (fun w h => h.pick [0] (by kernel_rfl) (by kernel_rfl)) (by kernel_rfl) (by kernel_rfl) ?_
      refine toD 13 (by kernel_rfl) (p_s 0 [1] (by kernel_rfl) (by kernel_rfl) (jkD (fun w h => h.pick [0] (by kernel_rfl) (by kernel_rfl)) ?_))
      refine jd_end (by kernel_rfl) ?_
      refine jx_then ?_
      refine jc_ret ?_
      obtain rfl := Option.some.inj h
      exact jx_ret [1] (.agg #[(.slice (o_18.map fun b => ⟨b, 0, none⟩) ((([] : List GWornPin) ++ w0.fPins).length) cap_19), (.slice (o_25.map fun b => ⟨b, 0, none⟩) ((([] : List Int) ++ w0.fStrokes).length) cap_26)]) [(b_1, b_1), (b_1, b_1)] rfl (by kernel_rfl) (by kernel_rfl) (fun w hm => ⟨o_18, cap_19, sp_20, ((([] : List GWornPin) ++ w0.fPins).length), rfl, hs_21, ho_22, o_25, cap_26, sp_27, ((([] : List Int) ++ w0.fStrokes).length), rfl, hs_28, ho_29, rfl, hm.pick [0, 2, 3] (by kernel_rfl) (by kernel_rfl)⟩)
    · refine p_a 0 [0] (by kernel_rfl) (fun b => by kernel_rfl) (fun b_30 => jkD (fun w h => h.pick [0] (by kernel_rfl) (by kernel_rfl)) ?_)
      obtain ⟨hg_31, h⟩ := gd h
      refine toD 5 (by kernel_rfl) (p_apn 0 2 (some b_16) 75 0 w0.fPins.length 0 3 16 w0_fPins_a encGWornPin ([] : List GWornPin) w0.fPins [] (.agg #[(.int .i8 0), (.int .i8 0), (.int .i64 0)]) rfl rfl (by kernel_rfl) (by kernel_rfl) (by kernel_rfl) encGWornPin_len encGWornPin_cell (fun _ => ⟨Nat.le_refl _, by simp⟩) (fun e => nomatch e) (fun w hm => (hm.exRowW w0_fPins_h w0_fPins_ha)) hg_31 (by kernel_rfl) (by kernel_rfl) (fun o_32 cap_33 sp_34 hs_35 ho_36 => jkD (fun w h => h.pick [0] (by kernel_rfl) (by kernel_rfl)) ?_))
      obtain ⟨hg_37, h⟩ := gd h
      refine toD 11 (by kernel_rfl) (p_apn 0 3 (some b_30) 2 0 w0.fStrokes.length 0 1 8 w0_fStrokes_a encI64 ([] : List Int) w0.fStrokes [] (.int .i64 0) rfl rfl (by kernel_rfl) (by kernel_rfl) (by kernel_rfl) encI64_len encI64_cell (fun _ => ⟨Nat.le_refl _, by simp⟩) (fun e => nomatch e) (fun w hm => (hm.exRowW w0_fStrokes_h w0_fStrokes_ha)) hg_37 (by kernel_rfl) (by kernel_rfl) (fun o_38 cap_39 sp_40 hs_41 ho_42 => jkD (fun w h => h.pick [0] (by kernel_rfl) (by kernel_rfl)) ?_))
      refine jd_f [⟨12, 0, 0⟩] 1 (by kernel_rfl) (by kernel_rfl) (fun w h => h.pick [0] (by kernel_rfl) (by kernel_rfl)) (by kernel_rfl) (by kernel_rfl) ?_
      refine toD 13 (by kernel_rfl) (p_s 0 [1] (by kernel_rfl) (by kernel_rfl) (jkD (fun w h => h.pick [0] (by kernel_rfl) (by kernel_rfl)) ?_))
      refine jd_end (by kernel_rfl) ?_
      refine jx_then ?_
      refine jc_ret ?_
      obtain rfl := Option.some.inj h
      exact jx_ret [1] (.agg #[(.slice (o_32.map fun b => ⟨b, 0, none⟩) ((([] : List GWornPin) ++ w0.fPins).length) cap_33), (.slice (o_38.map fun b => ⟨b, 0, none⟩) ((([] : List Int) ++ w0.fStrokes).length) cap_39)]) [(b_1, b_1), (b_1, b_1)] rfl (by kernel_rfl) (by kernel_rfl) (fun w hm => ⟨o_32, cap_33, sp_34, ((([] : List GWornPin) ++ w0.fPins).length), rfl, hs_35, ho_36, o_38, cap_39, sp_40, ((([] : List Int) ++ w0.fStrokes).length), rfl, hs_41, ho_42, rfl, hm.pick [0, 2, 3] (by kernel_rfl) (by kernel_rfl)⟩)
  · refine p_a 0 [0] (by kernel_rfl) (fun b => by kernel_rfl) (fun b_43 => jkD (fun w h => h.pick [0] (by kernel_rfl) (by kernel_rfl)) ?_)
    refine toD 0 (by kernel_rfl) (p_a 0 [0] (by kernel_rfl) (fun b => by kernel_rfl) (fun b_44 => jkD (fun w h => h.pick [0] (by kernel_rfl) (by kernel_rfl)) ?_))
    obtain ⟨hg_45, h⟩ := gd h
    refine toD 5 (by kernel_rfl) (p_apn 0 3 (some b_44) 75 0 w0.fPins.length 0 3 16 w0_fPins_a encGWornPin ([] : List GWornPin) w0.fPins [] (.agg #[(.int .i8 0), (.int .i8 0), (.int .i64 0)]) rfl rfl (by kernel_rfl) (by kernel_rfl) (by kernel_rfl) encGWornPin_len encGWornPin_cell (fun _ => ⟨Nat.le_refl _, by simp⟩) (fun e => nomatch e) (fun w hm => (hm.exRowW w0_fPins_h w0_fPins_ha)) hg_45 (by kernel_rfl) (by kernel_rfl) (fun o_46 cap_47 sp_48 hs_49 ho_50 => jkD (fun w h => h.pick [0] (by kernel_rfl) (by kernel_rfl)) ?_))
    obtain ⟨hg_51, h⟩ := gd h
    refine toD 11 (by kernel_rfl) (p_apn 0 2 (some b_43) 2 0 w0.fStrokes.length 0 1 8 w0_fStrokes_a encI64 ([] : List Int) w0.fStrokes [] (.int .i64 0) rfl rfl (by kernel_rfl) (by kernel_rfl) (by kernel_rfl) encI64_len encI64_cell (fun _ => ⟨Nat.le_refl _, by simp⟩) (fun e => nomatch e) (fun w hm => (hm.exRowW w0_fStrokes_h w0_fStrokes_ha)) hg_51 (by kernel_rfl) (by kernel_rfl) (fun o_52 cap_53 sp_54 hs_55 ho_56 => jkD (fun w h => h.pick [0] (by kernel_rfl) (by kernel_rfl)) ?_))
    refine jd_f [⟨12, 0, 0⟩] 1 (by kernel_rfl) (by kernel_rfl) (fun w h => h.pick [0] (by kernel_rfl) (by kernel_rfl)) (by kernel_rfl) (by kernel_rfl) ?_
    refine toD 13 (by kernel_rfl) (p_s 0 [1] (by kernel_rfl) (by kernel_rfl) (jkD (fun w h => h.pick [0] (by kernel_rfl) (by kernel_rfl)) ?_))
    refine jd_end (by kernel_rfl) ?_
    refine jx_then ?_
    refine jc_ret ?_
    obtain rfl := Option.some.inj h
    exact jx_ret [1] (.agg #[(.slice (o_46.map fun b => ⟨b, 0, none⟩) ((([] : List GWornPin) ++ w0.fPins).length) cap_47), (.slice (o_52.map fun b => ⟨b, 0, none⟩) ((([] : List Int) ++ w0.fStrokes).length) cap_53)]) [(b_1, b_1), (b_1, b_1)] rfl (by kernel_rfl) (by kernel_rfl) (fun w hm => ⟨o_46, cap_47, sp_48, ((([] : List GWornPin) ++ w0.fPins).length), rfl, hs_49, ho_50, o_52, cap_53, sp_54, ((([] : List Int) ++ w0.fStrokes).length), rfl, hs_55, ho_56, rfl, hm.pick [0, 3, 2] (by kernel_rfl) (by kernel_rfl)⟩)

/-! ### spec.l06Each -/
noncomputable def spec_l06Each.k_2 (xs_1 : List Int) : Option ((List Int)) := some xs_1
noncomputable def spec_l06Each.l_5 (w0 : GWear) : ((List Int) × Int) → Option (((List Int) × Int) ⊕ ((List Int)))
  | (xs_3, i_4) => (if (decide (i_4 < (w0.fPins.length : Int))) = true then (ix w0.fPins i_4).bind fun x_7 => (ix xs_3 x_7.fTrack).bind fun x_8 => (ix xs_3 x_7.fTrack).bind fun x_9 => some (.inl ((xs_3.set x_7.fTrack.toNat (w64 (x_8 + 1))), (w64 (i_4 + 1)))) else some (.inr xs_3))
noncomputable def spec_l06Each (w0 : GWear) : Option ((List Int)) := (if 0 ≤ (w0.fStrokes.length : Int) ∧ (w0.fStrokes.length : Int) ≤ 17592186044416 then (loop (spec_l06Each.l_5 w0) ((List.replicate (w0.fStrokes.length : Int).toNat 0), 0)).bind fun t_6 => spec_l06Each.k_2 t_6 else none)
set_option maxRecDepth 100000 in
theorem spec_l06Each.calls (w0 : GWear) (w : World) (r : (List Int)) (w0_fPins_a : Option Addr) (w0_fPins_an : Nat) (w0_fPins_c : Nat) (w0_fPins_h : Rw w w0_fPins_a 3 encGWornPin w0.fPins) (w0_fPins_hn : w0.fPins.length = w0_fPins_an) (w0_fStrokes_a : Option Addr) (w0_fStrokes_an : Nat) (w0_fStrokes_c : Nat) (w0_fStrokes_h : Rw w w0_fStrokes_a 1 encI64 w0.fStrokes) (w0_fStrokes_hn : w0.fStrokes.length = w0_fStrokes_an) (w0_b : Nat) (hm0 : Mem w (bs [some w0_b]) [⟨some w0_b, 38, [(.slice w0_fPins_a w0_fPins_an w0_fPins_c), (.slice w0_fStrokes_a w0_fStrokes_an w0_fStrokes_c)]⟩] w) (w0_fPins_ha : w0.fPins ≠ [] → aB w0_fPins_a ∉ bs [some w0_b]) (w0_fStrokes_ha : w0.fStrokes ≠ [] → aB w0_fStrokes_a ∉ bs [some w0_b]) (h : spec_l06Each w0 = some r) :
    Calls Tryz.prog 105 #[(.pointer (some ⟨w0_b, 0, none⟩))] w fun e w' => ∃ v, e = .returned v ∧ (∃ (o0 : Option Nat) (c0 : Nat) (s0 : List Value) (n0 : Nat), r.length = n0 ∧ (o0 ≠ none → n0 ≤ c0 ∧ s0.length = (c0 - n0) * 1) ∧ (o0 = none → r = [] ∧ c0 = 0) ∧ v = .slice (o0.map fun b => ⟨b, 0, none⟩) n0 c0 ∧ Mem w (bs [some w0_b]) [⟨some w0_b, 38, [(.slice w0_fPins_a w0_fPins_an w0_fPins_c), (.slice w0_fStrokes_a w0_fStrokes_an w0_fStrokes_c)]⟩, ⟨o0, 2, row encI64 r s0⟩] w') := by
  subst w0_fPins_hn w0_fStrokes_hn
  rw [spec_l06Each] at h
  refine enter (args := [(.pointer (some ⟨w0_b, 0, none⟩))]) Tryz.func105 rfl Tryz.ntmps105 (by kernel_rfl) (L := [⟨some w0_b, 38, [(.slice w0_fPins_a w0.fPins.length w0_fPins_c), (.slice w0_fStrokes_a w0.fStrokes.length w0_fStrokes_c)]⟩]) (W := bs [some w0_b]) hm0 ?_
  refine jc_seq ?_
  refine jc_region ?_
  refine jo_f [(0, 0)] (by kernel_rfl) ?_
  refine jo_end (by kernel_rfl) ?_
  refine jx_then ?_
  refine jc_seq ?_
  refine jc_region ?_
  refine jo_f [(0, 0), (0, 0), (0, 0), (0, 0), (0, 0)] (by kernel_rfl) ?_
  obtain ⟨hg_88, h⟩ := gd h
  refine toO (by kernel_rfl) (p_mk 0 2 (w0.fStrokes.length : Int) 1 8 encI64 0 (by kernel_rfl) (by kernel_rfl) hg_88.1 (by omega) (by kernel_rfl) (fun b_1 => jkO ?_))
  refine jo_f [(0, 0)] (by kernel_rfl) ?_
  refine jo_end (by kernel_rfl) ?_
  refine jx_then ?_
  refine jc_seq ?_
  refine jc_seq ?_
  refine jc_region ?_
  refine jo_f [(0, 0)] (by kernel_rfl) ?_
  refine jo_end (by kernel_rfl) ?_
  refine jx_then ?_
  refine jc_meet (fun (j : (List Int)) => match j with | xs_1 => spec_l06Each.k_2 xs_1 = some r ∧ (xs_1.length = (w0.fStrokes.length : Int).toNat)) (fun (j : (List Int)) => match j with | xs_1 => [(2, [], (.slice none 0 0)), (3, [], (.slice (some ⟨b_1, 0, none⟩) ((w0.fStrokes.length : Int).toNat) ((w0.fStrokes.length : Int).toNat)))]) (fun (j : (List Int)) => match j with | xs_1 => [⟨some w0_b, 38, [(.slice w0_fPins_a w0.fPins.length w0_fPins_c), (.slice w0_fStrokes_a w0.fStrokes.length w0_fStrokes_c)]⟩, ⟨(some b_1), 2, row encI64 xs_1 []⟩]) ?_ ?_
  · refine jc_block ?_
    obtain ⟨t_6, ht_87, hr_79⟩ := bd h
    refine jc_loop (fun (s : (List Int) × Int) (x : Unit) => match s, x with | ⟨xs_3, i_4⟩, _ => (xs_3.length = (w0.fStrokes.length : Int).toNat)) (fun (s : (List Int) × Int) (x : Unit) => match s, x with | ⟨xs_3, i_4⟩, _ => [(0, [], (.pointer (some ⟨w0_b, 0, none⟩))), (2, [], (.slice none 0 0)), (3, [], (.slice (some ⟨b_1, 0, none⟩) ((w0.fStrokes.length : Int).toNat) ((w0.fStrokes.length : Int).toNat))), (4, [], (.int .i64 i_4))]) (fun (s : (List Int) × Int) (x : Unit) => match s, x with | ⟨xs_3, i_4⟩, _ => [⟨some w0_b, 38, [(.slice w0_fPins_a w0.fPins.length w0_fPins_c), (.slice w0_fStrokes_a w0.fStrokes.length w0_fStrokes_c)]⟩, ⟨(some b_1), 2, row encI64 xs_3 []⟩]) ht_87 () List.length_replicate (by kernel_rfl) [0, 1] (by kernel_rfl) (by kernel_rfl) ?_
    rintro ⟨xs_3, i_4⟩ _ y_80 hn_78 h
    rw [spec_l06Each.l_5] at h
    refine jc_seq ?_
    refine jc_seq ?_
    refine jc_region ?_
    refine jo_f [(0, 0), (0, 0), (0, 0), (0, 0), (0, 0), (0, 0), (0, 0)] (by kernel_rfl) ?_
    refine jo_end (by kernel_rfl) ?_
    refine jx_then ?_
    refine jc_cond (decide (i_4 < (w0.fPins.length : Int))) (by kernel_rfl) (fun hc_82 => ?_) (fun hc_82 => ?_)
    · replace h := ifT hc_82 h
      refine jc_skip ?_
      refine jx_then ?_
      refine jc_seq ?_
      refine jc_block ?_
      refine jc_region ?_
      refine jo_f [(0, 0), (0, 0), (0, 0), (0, 0), (0, 0), (0, 0)] (by kernel_rfl) ?_
      obtain ⟨x_7, hx_83, h⟩ := bd h
      refine toO (by kernel_rfl) (p_idx 0 w0_fPins_a w0.fPins.length i_4 3 (by kernel_rfl) (by kernel_rfl) (ix_some hx_83).1 (ltn hx_83 rfl) (w0_fPins_h.sp hx_83) (jkO ?_))
      refine jo_f [(0, 0)] (by kernel_rfl) ?_
      refine toO (by kernel_rfl) (p_ld 0 (aB w0_fPins_a) (aO w0_fPins_a + i_4.toNat * 3 + 1) false (((encGWornPin x_7).drop 1).take 1) (by kernel_rfl) (by kernel_rfl) (by kernel_rfl) (fun w hm => (((hm.exRowW w0_fPins_h w0_fPins_ha).at hx_83).sub 1 1)) (jkO ?_))
      obtain ⟨x_8, hx_84, h⟩ := bd h
      refine toO (by kernel_rfl) (p_idx 0 (some ⟨b_1, 0, none⟩) ((w0.fStrokes.length : Int).toNat) x_7.fTrack 1 (by kernel_rfl) (by kernel_rfl) (ix_some hx_84).1 (ltn hx_84 hn_78) rfl (jkO ?_))
      refine toO (by kernel_rfl) (p_ld 0 (aB (some ⟨b_1, 0, none⟩)) (aO (some ⟨b_1, 0, none⟩) + x_7.fTrack.toNat * 1) false (encI64 x_8) (by kernel_rfl) (by kernel_rfl) (by kernel_rfl) (fun w hm => ((hm.ownRow (hh := 1) (o := (some b_1)) (T := 2) (enc := encI64) (xs := xs_3) (sp := []) (by kernel_rfl) (fun e => nomatch e) encI64_len).at hx_84)) (jkO ?_))
      refine jo_f [(0, 0)] (by kernel_rfl) ?_
      obtain ⟨x_9, hx_85, h⟩ := bd h
      refine toO (by kernel_rfl) (p_idx 0 (some ⟨b_1, 0, none⟩) ((w0.fStrokes.length : Int).toNat) x_7.fTrack 1 (by kernel_rfl) (by kernel_rfl) (ix_some hx_85).1 (ltn hx_85 hn_78) rfl (jkO ?_))
      refine toO (by kernel_rfl) (p_str 0 1 b_1 2 encI64 xs_3 [] x_7.fTrack (w64 (x_8 + 1)) 1 0 [(.int .i64 (w64 (x_8 + 1)))] (by kernel_rfl) (by kernel_rfl) (by kernel_rfl) encI64_len hx_85 (by kernel_rfl) (by kernel_rfl) (jkO ?_))
      refine jo_end (by kernel_rfl) ?_
      refine jx_inn ?_
      refine jx_then ?_
      refine jc_region ?_
      refine jo_f [(0, 0), (0, 0), (0, 0)] (by kernel_rfl) ?_
      refine jo_end (by kernel_rfl) ?_
      exact jx_back ((xs_3.set x_7.fTrack.toNat (w64 (x_8 + 1))), (w64 (i_4 + 1))) () (Option.some.inj h).symm (List.length_set.trans hn_78) [0, 1] (by kernel_rfl) (by kernel_rfl) (by kernel_rfl)
    · replace h := ifF hc_82 h
      refine jc_exit ?_
      refine jx_thenx ?_
      refine jx_leave xs_3 (Option.some.inj h).symm (fun e_86 => ?_)
      subst e_86
      refine jx_ine ?_
      exact jx_meet xs_3 ⟨hr_79, hn_78⟩ (by kernel_rfl) [0, 1] (by kernel_rfl) (by kernel_rfl)
  · rintro xs_1 ⟨h, hn_66⟩
    replace h : spec_l06Each.k_2 xs_1 = some r := h
    rw [spec_l06Each.k_2] at h
    refine jx_then ?_
    refine jc_seq ?_
    refine jc_region ?_
    refine jo_f [(0, 0), (0, 0)] (by kernel_rfl) ?_
    refine jo_end (by kernel_rfl) ?_
    refine jx_then ?_
    refine jc_ret ?_
    obtain rfl := Option.some.inj h
    exact jx_ret [] (.slice (some ⟨b_1, 0, none⟩) ((w0.fStrokes.length : Int).toNat) ((w0.fStrokes.length : Int).toNat)) [] rfl (by kernel_rfl) (by kernel_rfl) (fun w hm => ⟨(some b_1), ((w0.fStrokes.length : Int).toNat), [], ((w0.fStrokes.length : Int).toNat), hn_66, (fun _ => ⟨Nat.le_refl _, by simp⟩), (fun e => nomatch e), rfl, hm.pick [0, 1] (by kernel_rfl) (by kernel_rfl)⟩)

/-! ### spec.l06Turned -/
noncomputable def spec_l06Turned.k_8 (xs_3 : List GWornPin) (xs_6 : List Int) (q_7 : Bool) : Option (GWear × Bool) := some ((⟨xs_3, xs_6⟩ : GWear), q_7)
noncomputable def spec_l06Turned.l_12 (turns1 : Int) (t_2 : (List Int)) : ((List Int) × Bool × Int) → Option (((List Int) × Bool × Int) ⊕ (((List Int) × Bool)))
  | (xs_9, q_10, i_11) => (if (decide (i_11 < (t_2.length : Int))) = true then (ix xs_9 i_11).bind fun x_14 => (ix t_2 i_11).bind fun x_15 => (ix xs_9 i_11).bind fun x_16 => (if q_10 = true then (ix (xs_9.set i_11.toNat (w64 (x_14 + (w64 (turns1 * x_15))))) i_11).bind fun x_17 => (spec_l06Turns x_17).bind fun t_18 => some (.inl ((xs_9.set i_11.toNat (w64 (x_14 + (w64 (turns1 * x_15))))), t_18, (w64 (i_11 + 1)))) else some (.inl ((xs_9.set i_11.toNat (w64 (x_14 + (w64 (turns1 * x_15))))), false, (w64 (i_11 + 1))))) else some (.inr (xs_9, q_10)))
noncomputable def spec_l06Turned.k_5 (turns1 : Int) (t_1 : GWear) (t_2 : (List Int)) (xs_3 : List GWornPin) (q_4 : Bool) : Option (GWear × Bool) := (loop (spec_l06Turned.l_12 turns1 t_2) (t_1.fStrokes, q_4, 0)).bind fun t_13 => spec_l06Turned.k_8 xs_3 t_13.1 t_13.2
noncomputable def spec_l06Turned.l_22 (turns1 : Int) (t_1 : GWear) : ((List GWornPin) × Bool × Int) → Option (((List GWornPin) × Bool × Int) ⊕ (((List GWornPin) × Bool)))
  | (xs_19, q_20, i_21) => (if (decide (i_21 < (t_1.fPins.length : Int))) = true then (ix xs_19 i_21).bind fun x_24 => (ix xs_19 i_21).bind fun x_25 => (if q_20 = true then (ix (xs_19.set i_21.toNat (⟨x_25.fStep, x_25.fTrack, (w64 (x_24.fTurns + turns1))⟩ : GWornPin)) i_21).bind fun x_26 => (spec_l06Turns x_26.fTurns).bind fun t_27 => some (.inl ((xs_19.set i_21.toNat (⟨x_25.fStep, x_25.fTrack, (w64 (x_24.fTurns + turns1))⟩ : GWornPin)), t_27, (w64 (i_21 + 1)))) else some (.inl ((xs_19.set i_21.toNat (⟨x_25.fStep, x_25.fTrack, (w64 (x_24.fTurns + turns1))⟩ : GWornPin)), false, (w64 (i_21 + 1))))) else some (.inr (xs_19, q_20)))
noncomputable def spec_l06Turned (w0 : GWear) (turns1 : Int) : Option (GWear × Bool) := (spec_l06Copy w0).bind fun t_1 => (spec_l06Each w0).bind fun t_2 => (loop (spec_l06Turned.l_22 turns1 t_1) (t_1.fPins, true, 0)).bind fun t_23 => spec_l06Turned.k_5 turns1 t_1 t_2 t_23.1 t_23.2
set_option maxRecDepth 100000 in
theorem spec_l06Turned.calls (w0 : GWear) (turns1 : Int) (w : World) (r : GWear × Bool) (w0_fPins_a : Option Addr) (w0_fPins_an : Nat) (w0_fPins_c : Nat) (w0_fPins_h : Rw w w0_fPins_a 3 encGWornPin w0.fPins) (w0_fPins_hn : w0.fPins.length = w0_fPins_an) (w0_fStrokes_a : Option Addr) (w0_fStrokes_an : Nat) (w0_fStrokes_c : Nat) (w0_fStrokes_h : Rw w w0_fStrokes_a 1 encI64 w0.fStrokes) (w0_fStrokes_hn : w0.fStrokes.length = w0_fStrokes_an) (w0_b : Nat) (hm0 : Mem w (bs [some w0_b]) [⟨some w0_b, 38, [(.slice w0_fPins_a w0_fPins_an w0_fPins_c), (.slice w0_fStrokes_a w0_fStrokes_an w0_fStrokes_c)]⟩] w) (w0_fPins_ha : w0.fPins ≠ [] → aB w0_fPins_a ∉ bs [some w0_b]) (w0_fStrokes_ha : w0.fStrokes ≠ [] → aB w0_fStrokes_a ∉ bs [some w0_b]) (h : spec_l06Turned w0 turns1 = some r) :
    Calls Tryz.prog 78 #[(.pointer (some ⟨w0_b, 0, none⟩)), (.int .i64 turns1)] w fun e w' => ∃ v, e = .returned v ∧ (∃ (o0 : Option Nat) (c0 : Nat) (s0 : List Value) (n0 : Nat), r.1.fPins.length = n0 ∧ (o0 ≠ none → n0 ≤ c0 ∧ s0.length = (c0 - n0) * 3) ∧ (o0 = none → r.1.fPins = [] ∧ c0 = 0) ∧ ∃ (o1 : Option Nat) (c1 : Nat) (s1 : List Value) (n1 : Nat), r.1.fStrokes.length = n1 ∧ (o1 ≠ none → n1 ≤ c1 ∧ s1.length = (c1 - n1) * 1) ∧ (o1 = none → r.1.fStrokes = [] ∧ c1 = 0) ∧ v = .tuple #[.agg #[.slice (o0.map fun b => ⟨b, 0, none⟩) n0 c0, .slice (o1.map fun b => ⟨b, 0, none⟩) n1 c1], (.bool r.2)] ∧ Mem w (bs [some w0_b]) [⟨some w0_b, 38, [(.slice w0_fPins_a w0_fPins_an w0_fPins_c), (.slice w0_fStrokes_a w0_fStrokes_an w0_fStrokes_c)]⟩, ⟨o0, 75, row encGWornPin r.1.fPins s0⟩, ⟨o1, 2, row encI64 r.1.fStrokes s1⟩] w') := by
  subst w0_fPins_hn w0_fStrokes_hn
  rw [spec_l06Turned] at h
  refine enter (args := [(.pointer (some ⟨w0_b, 0, none⟩)), (.int .i64 turns1)]) Tryz.func78 rfl Tryz.ntmps78 (by kernel_rfl) (L := [⟨some w0_b, 38, [(.slice w0_fPins_a w0.fPins.length w0_fPins_c), (.slice w0_fStrokes_a w0.fStrokes.length w0_fStrokes_c)]⟩]) (W := bs [some w0_b]) hm0 ?_
  refine jc_seq ?_
  refine jc_region ?_
  refine toO (by kernel_rfl) (p_a 0 [0] (by kernel_rfl) (fun b => by kernel_rfl) (fun b_1 => jkO ?_))
  refine jo_f [(0, 0)] (by kernel_rfl) ?_
  refine jo_end (by kernel_rfl) ?_
  refine jx_then ?_
  refine jc_seq ?_
  refine jc_region ?_
  refine jo_f [(0, 0)] (by kernel_rfl) ?_
  obtain ⟨t_1, ht_2, h⟩ := bd h
  refine toO (by kernel_rfl) (p_call 0 85 #[(.pointer (some ⟨w0_b, 0, none⟩))] (by kernel_rfl) (by kernel_rfl) (fun w hm => spec_l06Copy.calls w0 w _ w0_fPins_a w0.fPins.length w0_fPins_c (hm.exRowW w0_fPins_h w0_fPins_ha) rfl w0_fStrokes_a w0.fStrokes.length w0_fStrokes_c (hm.exRowW w0_fStrokes_h w0_fStrokes_ha) rfl w0_b (hm.pass (N := [⟨some w0_b, 38, [(.slice w0_fPins_a w0.fPins.length w0_fPins_c), (.slice w0_fStrokes_a w0.fStrokes.length w0_fStrokes_c)]⟩]) [0] (by kernel_rfl) (by kernel_rfl)) (hm.exApart (N := [⟨some w0_b, 38, [(.slice w0_fPins_a w0.fPins.length w0_fPins_c), (.slice w0_fStrokes_a w0.fStrokes.length w0_fStrokes_c)]⟩]) w0_fPins_h w0_fPins_ha [0] (by kernel_rfl)) (hm.exApart (N := [⟨some w0_b, 38, [(.slice w0_fPins_a w0.fPins.length w0_fPins_c), (.slice w0_fStrokes_a w0.fStrokes.length w0_fStrokes_c)]⟩]) w0_fStrokes_h w0_fStrokes_ha [0] (by kernel_rfl)) ht_2) ?_)
  rintro w v w' hm ⟨o_3, cap_4, sp_5, _, rfl, hs_6, ho_7, o_8, cap_9, sp_10, _, rfl, hs_11, ho_12, rfl, hm'⟩
  refine ⟨_, hm.appW (ps := [(0, ⟨some w0_b, 38, [(.slice w0_fPins_a w0.fPins.length w0_fPins_c), (.slice w0_fStrokes_a w0.fStrokes.length w0_fStrokes_c)]⟩)]) (N := [⟨o_3, 75, row encGWornPin t_1.fPins sp_5⟩, ⟨o_8, 2, row encI64 t_1.fStrokes sp_10⟩]) hm' (by kernel_rfl) (by kernel_rfl), jkO ?_⟩
  clear hm hm'
  refine toO (by kernel_rfl) (p_a 0 [0] (by kernel_rfl) (fun b => by kernel_rfl) (fun b_13 => jkO ?_))
  refine toO (by kernel_rfl) (p_s 0 [4] (by kernel_rfl) (by kernel_rfl) (jkO ?_))
  refine jo_end (by kernel_rfl) ?_
  refine jx_then ?_
  refine jc_seq ?_
  refine jc_region ?_
  refine jo_f [(0, 0)] (by kernel_rfl) ?_
  obtain ⟨t_2, ht_14, h⟩ := bd h
  refine toO (by kernel_rfl) (p_call 0 105 #[(.pointer (some ⟨w0_b, 0, none⟩))] (by kernel_rfl) (by kernel_rfl) (fun w hm => spec_l06Each.calls w0 w _ w0_fPins_a w0.fPins.length w0_fPins_c (hm.exRowW w0_fPins_h w0_fPins_ha) rfl w0_fStrokes_a w0.fStrokes.length w0_fStrokes_c (hm.exRowW w0_fStrokes_h w0_fStrokes_ha) rfl w0_b (hm.pass (N := [⟨some w0_b, 38, [(.slice w0_fPins_a w0.fPins.length w0_fPins_c), (.slice w0_fStrokes_a w0.fStrokes.length w0_fStrokes_c)]⟩]) [0] (by kernel_rfl) (by kernel_rfl)) (hm.exApart (N := [⟨some w0_b, 38, [(.slice w0_fPins_a w0.fPins.length w0_fPins_c), (.slice w0_fStrokes_a w0.fStrokes.length w0_fStrokes_c)]⟩]) w0_fPins_h w0_fPins_ha [0] (by kernel_rfl)) (hm.exApart (N := [⟨some w0_b, 38, [(.slice w0_fPins_a w0.fPins.length w0_fPins_c), (.slice w0_fStrokes_a w0.fStrokes.length w0_fStrokes_c)]⟩]) w0_fStrokes_h w0_fStrokes_ha [0] (by kernel_rfl)) ht_14) ?_)
  rintro w v w' hm ⟨o_15, cap_16, sp_17, _, rfl, hs_18, ho_19, rfl, hm'⟩
  refine ⟨_, hm.appW (ps := [(0, ⟨some w0_b, 38, [(.slice w0_fPins_a w0.fPins.length w0_fPins_c), (.slice w0_fStrokes_a w0.fStrokes.length w0_fStrokes_c)]⟩)]) (N := [⟨o_15, 2, row encI64 t_2 sp_17⟩]) hm' (by kernel_rfl) (by kernel_rfl), jkO ?_⟩
  clear hm hm'
  refine jo_f [(0, 0)] (by kernel_rfl) ?_
  refine jo_end (by kernel_rfl) ?_
  refine jx_then ?_
  refine jc_seq ?_
  refine jc_region ?_
  refine jo_f [(0, 0)] (by kernel_rfl) ?_
  refine jo_end (by kernel_rfl) ?_
  refine jx_then ?_
  refine jc_seq ?_
  refine jc_seq ?_
  refine jc_region ?_
  refine jo_f [(0, 0)] (by kernel_rfl) ?_
  refine jo_end (by kernel_rfl) ?_
  refine jx_then ?_
  refine jc_meet (fun (j : (List GWornPin) × Bool) => match j with | ⟨xs_3, q_4⟩ => spec_l06Turned.k_5 turns1 t_1 t_2 xs_3 q_4 = some r ∧ (xs_3.length = t_1.fPins.length) ∧ ((o_3 = none → xs_3 = [] ∧ cap_4 = 0))) (fun (j : (List GWornPin) × Bool) => match j with | ⟨xs_3, q_4⟩ => [(1, [], (.int .i64 turns1)), (4, [], (.pointer (some ⟨b_1, 0, none⟩))), (5, [], (.bool false)), (6, [], (.pointer (some ⟨b_13, 0, none⟩))), (7, [], (.slice (o_15.map fun b => ⟨b, 0, none⟩) t_2.length cap_16)), (8, [], (.bool q_4))]) (fun (j : (List GWornPin) × Bool) => match j with | ⟨xs_3, q_4⟩ => [⟨some w0_b, 38, [(.slice w0_fPins_a w0.fPins.length w0_fPins_c), (.slice w0_fStrokes_a w0.fStrokes.length w0_fStrokes_c)]⟩, ⟨some b_1, 38, [(.slice none 0 0), (.slice none 0 0)]⟩, ⟨o_3, 75, row encGWornPin xs_3 sp_5⟩, ⟨o_8, 2, row encI64 t_1.fStrokes sp_10⟩, ⟨some b_13, 38, [(.slice (o_3.map fun b => ⟨b, 0, none⟩) t_1.fPins.length cap_4), (.slice (o_8.map fun b => ⟨b, 0, none⟩) t_1.fStrokes.length cap_9)]⟩, ⟨o_15, 2, row encI64 t_2 sp_17⟩]) ?_ ?_
  · refine jc_block ?_
    obtain ⟨t_23, ht_303, hr_293⟩ := bd h
    refine jc_loop (fun (s : (List GWornPin) × Bool × Int) (x : Unit) => match s, x with | ⟨xs_19, q_20, i_21⟩, _ => (xs_19.length = t_1.fPins.length) ∧ ((o_3 = none → xs_19 = [] ∧ cap_4 = 0))) (fun (s : (List GWornPin) × Bool × Int) (x : Unit) => match s, x with | ⟨xs_19, q_20, i_21⟩, _ => [(1, [], (.int .i64 turns1)), (4, [], (.pointer (some ⟨b_1, 0, none⟩))), (5, [], (.bool false)), (6, [], (.pointer (some ⟨b_13, 0, none⟩))), (7, [], (.slice (o_15.map fun b => ⟨b, 0, none⟩) t_2.length cap_16)), (8, [], (.bool q_20)), (9, [], (.int .i64 i_21))]) (fun (s : (List GWornPin) × Bool × Int) (x : Unit) => match s, x with | ⟨xs_19, q_20, i_21⟩, _ => [⟨some w0_b, 38, [(.slice w0_fPins_a w0.fPins.length w0_fPins_c), (.slice w0_fStrokes_a w0.fStrokes.length w0_fStrokes_c)]⟩, ⟨some b_1, 38, [(.slice none 0 0), (.slice none 0 0)]⟩, ⟨o_3, 75, row encGWornPin xs_19 sp_5⟩, ⟨o_8, 2, row encI64 t_1.fStrokes sp_10⟩, ⟨some b_13, 38, [(.slice (o_3.map fun b => ⟨b, 0, none⟩) t_1.fPins.length cap_4), (.slice (o_8.map fun b => ⟨b, 0, none⟩) t_1.fStrokes.length cap_9)]⟩, ⟨o_15, 2, row encI64 t_2 sp_17⟩]) ht_303 () ⟨rfl, ho_7⟩ (by kernel_rfl) [0, 1, 2, 3, 4, 5] (by kernel_rfl) (by kernel_rfl) ?_
    rintro ⟨xs_19, q_20, i_21⟩ _ y_294 ⟨hn_292, ho_291⟩ h
    rw [spec_l06Turned.l_22] at h
    refine jc_seq ?_
    refine jc_seq ?_
    refine jc_region ?_
    refine jo_f [(0, 0), (0, 0), (4, 0), (0, 0), (0, 0)] (by kernel_rfl) ?_
    refine jo_end (by kernel_rfl) ?_
    refine jx_then ?_
    refine jc_cond (decide (i_21 < (t_1.fPins.length : Int))) (by kernel_rfl) (fun hc_296 => ?_) (fun hc_296 => ?_)
    · replace h := ifT hc_296 h
      refine jc_skip ?_
      refine jx_then ?_
      refine jc_seq ?_
      refine jc_block ?_
      refine jc_seq ?_
      refine jc_region ?_
      refine jo_f [(0, 0), (4, 0), (0, 0)] (by kernel_rfl) ?_
      obtain ⟨x_24, hx_297, h⟩ := bd h
      refine toO (by kernel_rfl) (p_idx 0 (o_3.map fun b => ⟨b, 0, none⟩) t_1.fPins.length i_21 3 (by kernel_rfl) (by kernel_rfl) (ix_some hx_297).1 (ltn hx_297 hn_292) (spo ho_291 hx_297) (jkO ?_))
      refine jo_f [(0, 0)] (by kernel_rfl) ?_
      refine toO (by kernel_rfl) (p_ld 0 (aB (o_3.map fun b => ⟨b, 0, none⟩)) (aO (o_3.map fun b => ⟨b, 0, none⟩) + i_21.toNat * 3 + 2) false (((encGWornPin x_24).drop 2).take 1) (by kernel_rfl) (by kernel_rfl) (by kernel_rfl) (fun w hm => (((hm.ownRow (hh := 2) (o := o_3) (T := 75) (enc := encGWornPin) (xs := xs_19) (sp := sp_5) (by kernel_rfl) (fun e => (ho_291 e).1) encGWornPin_len).at hx_297).sub 2 1)) (jkO ?_))
      refine jo_f [(0, 0), (0, 0)] (by kernel_rfl) ?_
      obtain ⟨x_25, hx_298, h⟩ := bd h
      refine toO (by kernel_rfl) (p_idx 0 (o_3.map fun b => ⟨b, 0, none⟩) t_1.fPins.length i_21 3 (by kernel_rfl) (by kernel_rfl) (ix_some hx_298).1 (ltn hx_298 hn_292) (spo ho_291 hx_298) (jkO ?_))
      refine jo_f [(0, 0)] (by kernel_rfl) ?_
      refine toO (by kernel_rfl) (p_strO 0 2 o_3 75 encGWornPin xs_19 sp_5 i_21 (⟨x_25.fStep, x_25.fTrack, (w64 (x_24.fTurns + turns1))⟩ : GWornPin) 3 2 [(.int .i64 (w64 (x_24.fTurns + turns1)))] (by kernel_rfl) (by kernel_rfl) (by kernel_rfl) (fun e => (ho_291 e).1) encGWornPin_len hx_298 (by kernel_rfl) (by kernel_rfl) (jkO ?_))
      refine jo_end (by kernel_rfl) ?_
      refine jx_then ?_
      refine jc_region ?_
      refine jo_f [(0, 0), (0, 0), (0, 1), (4, 1), (0, 1)] (by kernel_rfl) ?_
      refine jo_split 33 q_20 (by kernel_rfl) (fun hc_299 => ?_) (fun hc_299 => ?_)
      · replace h := ifT hc_299 h
        obtain ⟨x_26, hx_300, h⟩ := bd h
        refine toO (by kernel_rfl) (p_idx 2 (o_3.map fun b => ⟨b, 0, none⟩) t_1.fPins.length i_21 3 (by kernel_rfl) (by kernel_rfl) (ix_some hx_300).1 (ltn hx_300 (List.length_set.trans hn_292)) (spo (set_ho ho_291) hx_300) (jkO ?_))
        refine jo_f [(0, 2)] (by kernel_rfl) ?_
        refine toO (by kernel_rfl) (p_ld 2 (aB (o_3.map fun b => ⟨b, 0, none⟩)) (aO (o_3.map fun b => ⟨b, 0, none⟩) + i_21.toNat * 3 + 2) false (((encGWornPin x_26).drop 2).take 1) (by kernel_rfl) (by kernel_rfl) (by kernel_rfl) (fun w hm => (((hm.ownRow (hh := 2) (o := o_3) (T := 75) (enc := encGWornPin) (xs := (xs_19.set i_21.toNat (⟨x_25.fStep, x_25.fTrack, (w64 (x_24.fTurns + turns1))⟩ : GWornPin))) (sp := sp_5) (by kernel_rfl) (fun e => ((set_ho ho_291) e).1) encGWornPin_len).at hx_300).sub 2 1)) (jkO ?_))
        obtain ⟨t_27, ht_301, h⟩ := bd h
        refine toO (by kernel_rfl) (p_call 2 71 #[(.int .i64 x_26.fTurns)] (by kernel_rfl) (by kernel_rfl) (fun w hm => spec_l06Turns.calls x_26.fTurns w _ ht_301) ?_)
        rintro w v w' hm ⟨rfl, hm'⟩
        refine ⟨_, hm.app hm', jkO ?_⟩
        clear hm hm'
        refine jo_f [(0, 4), (0, 0)] (by kernel_rfl) ?_
        refine jo_end (by kernel_rfl) ?_
        refine jx_inn ?_
        refine jx_then ?_
        refine jc_region ?_
        refine jo_f [(0, 0), (0, 0), (0, 0)] (by kernel_rfl) ?_
        refine jo_end (by kernel_rfl) ?_
        exact jx_back ((xs_19.set i_21.toNat (⟨x_25.fStep, x_25.fTrack, (w64 (x_24.fTurns + turns1))⟩ : GWornPin)), t_27, (w64 (i_21 + 1))) () (Option.some.inj h).symm ⟨(List.length_set.trans hn_292), (set_ho ho_291)⟩ [0, 1, 2, 3, 4, 5] (by kernel_rfl) (by kernel_rfl) (by kernel_rfl)
      · replace h := ifF hc_299 h
        refine jo_f [(0, 3), (0, 3), (0, 3), (0, 3), (0, 5), (0, 0)] (by kernel_rfl) ?_
        refine jo_end (by kernel_rfl) ?_
        refine jx_inn ?_
        refine jx_then ?_
        refine jc_region ?_
        refine jo_f [(0, 0), (0, 0), (0, 0)] (by kernel_rfl) ?_
        refine jo_end (by kernel_rfl) ?_
        exact jx_back ((xs_19.set i_21.toNat (⟨x_25.fStep, x_25.fTrack, (w64 (x_24.fTurns + turns1))⟩ : GWornPin)), false, (w64 (i_21 + 1))) () (Option.some.inj h).symm ⟨(List.length_set.trans hn_292), (set_ho ho_291)⟩ [0, 1, 2, 3, 4, 5] (by kernel_rfl) (by kernel_rfl) (by kernel_rfl)
    · replace h := ifF hc_296 h
      refine jc_exit ?_
      refine jx_thenx ?_
      refine jx_leave (xs_19, q_20) (Option.some.inj h).symm (fun e_302 => ?_)
      subst e_302
      refine jx_ine ?_
      exact jx_meet ⟨xs_19, q_20⟩ ⟨hr_293, hn_292, ho_291⟩ (by kernel_rfl) [0, 1, 2, 3, 4, 5] (by kernel_rfl) (by kernel_rfl)
  · rintro ⟨xs_3, q_4⟩ ⟨h, hn_107, ho_106⟩
    replace h : spec_l06Turned.k_5 turns1 t_1 t_2 xs_3 q_4 = some r := h
    rw [spec_l06Turned.k_5] at h
    refine jx_then ?_
    refine jc_seq ?_
    refine jc_seq ?_
    refine jc_region ?_
    refine jo_f [(0, 0)] (by kernel_rfl) ?_
    refine jo_end (by kernel_rfl) ?_
    refine jx_then ?_
    refine jc_meet (fun (j : (List Int) × Bool) => match j with | ⟨xs_6, q_7⟩ => spec_l06Turned.k_8 xs_3 xs_6 q_7 = some r ∧ (xs_6.length = t_1.fStrokes.length) ∧ ((o_8 = none → xs_6 = [] ∧ cap_9 = 0))) (fun (j : (List Int) × Bool) => match j with | ⟨xs_6, q_7⟩ => [(4, [], (.pointer (some ⟨b_1, 0, none⟩))), (5, [], (.bool false)), (6, [], (.pointer (some ⟨b_13, 0, none⟩))), (8, [], (.bool q_7))]) (fun (j : (List Int) × Bool) => match j with | ⟨xs_6, q_7⟩ => [⟨some w0_b, 38, [(.slice w0_fPins_a w0.fPins.length w0_fPins_c), (.slice w0_fStrokes_a w0.fStrokes.length w0_fStrokes_c)]⟩, ⟨some b_1, 38, [(.slice none 0 0), (.slice none 0 0)]⟩, ⟨o_3, 75, row encGWornPin xs_3 sp_5⟩, ⟨o_8, 2, row encI64 xs_6 sp_10⟩, ⟨some b_13, 38, [(.slice (o_3.map fun b => ⟨b, 0, none⟩) t_1.fPins.length cap_4), (.slice (o_8.map fun b => ⟨b, 0, none⟩) t_1.fStrokes.length cap_9)]⟩, ⟨o_15, 2, row encI64 t_2 sp_17⟩]) ?_ ?_
    · refine jc_block ?_
      obtain ⟨t_13, ht_275, hr_261⟩ := bd h
      refine jc_loop (fun (s : (List Int) × Bool × Int) (x : Unit) => match s, x with | ⟨xs_9, q_10, i_11⟩, _ => (xs_9.length = t_1.fStrokes.length) ∧ ((o_8 = none → xs_9 = [] ∧ cap_9 = 0))) (fun (s : (List Int) × Bool × Int) (x : Unit) => match s, x with | ⟨xs_9, q_10, i_11⟩, _ => [(1, [], (.int .i64 turns1)), (4, [], (.pointer (some ⟨b_1, 0, none⟩))), (5, [], (.bool false)), (6, [], (.pointer (some ⟨b_13, 0, none⟩))), (7, [], (.slice (o_15.map fun b => ⟨b, 0, none⟩) t_2.length cap_16)), (8, [], (.bool q_10)), (10, [], (.int .i64 i_11))]) (fun (s : (List Int) × Bool × Int) (x : Unit) => match s, x with | ⟨xs_9, q_10, i_11⟩, _ => [⟨some w0_b, 38, [(.slice w0_fPins_a w0.fPins.length w0_fPins_c), (.slice w0_fStrokes_a w0.fStrokes.length w0_fStrokes_c)]⟩, ⟨some b_1, 38, [(.slice none 0 0), (.slice none 0 0)]⟩, ⟨o_3, 75, row encGWornPin xs_3 sp_5⟩, ⟨o_8, 2, row encI64 xs_9 sp_10⟩, ⟨some b_13, 38, [(.slice (o_3.map fun b => ⟨b, 0, none⟩) t_1.fPins.length cap_4), (.slice (o_8.map fun b => ⟨b, 0, none⟩) t_1.fStrokes.length cap_9)]⟩, ⟨o_15, 2, row encI64 t_2 sp_17⟩]) ht_275 () ⟨rfl, ho_12⟩ (by kernel_rfl) [0, 1, 2, 3, 4, 5] (by kernel_rfl) (by kernel_rfl) ?_
      rintro ⟨xs_9, q_10, i_11⟩ _ y_262 ⟨hn_260, ho_259⟩ h
      rw [spec_l06Turned.l_12] at h
      refine jc_seq ?_
      refine jc_seq ?_
      refine jc_region ?_
      refine jo_f [(0, 0), (0, 0), (0, 0), (0, 0)] (by kernel_rfl) ?_
      refine jo_end (by kernel_rfl) ?_
      refine jx_then ?_
      refine jc_cond (decide (i_11 < (t_2.length : Int))) (by kernel_rfl) (fun hc_264 => ?_) (fun hc_264 => ?_)
      · replace h := ifT hc_264 h
        refine jc_skip ?_
        refine jx_then ?_
        refine jc_seq ?_
        refine jc_block ?_
        refine jc_seq ?_
        refine jc_draw [⟨some w0_b, 38, [(.slice w0_fPins_a w0.fPins.length w0_fPins_c), (.slice w0_fStrokes_a w0.fStrokes.length w0_fStrokes_c)]⟩, ⟨some b_1, 38, [(.slice none 0 0), (.slice none 0 0)]⟩, ⟨o_3, 75, row encGWornPin xs_3 sp_5⟩, ⟨some b_13, 38, [(.slice (o_3.map fun b => ⟨b, 0, none⟩) t_1.fPins.length cap_4), (.slice (o_8.map fun b => ⟨b, 0, none⟩) t_1.fStrokes.length cap_9)]⟩, ⟨o_15, 2, row encI64 t_2 sp_17⟩] 14 (by kernel_rfl) (by kernel_rfl) ?_
        refine jd_f [⟨0, 0, 0⟩, ⟨1, 3, 0⟩, ⟨2, 0, 0⟩, ⟨5, 0, 0⟩, ⟨6, 0, 0⟩, ⟨7, 0, 0⟩] 8 (by kernel_rfl) (by kernel_rfl) (fun w h => h.pick [0, 1, 2, 4, 5] (by kernel_rfl) (by kernel_rfl)) (by kernel_rfl) (by kernel_rfl) ?_
        obtain ⟨x_14, hx_268, h⟩ := bd h
        refine jd_v 3 0 (by kernel_rfl) (fun w h => h.pick [0, 1, 2, 4, 5] (by kernel_rfl) (by kernel_rfl)) (by kernel_rfl) (by kernel_rfl) _ (fun w hm => idx_run (a := (o_8.map fun b => ⟨b, 0, none⟩)) (len := t_1.fStrokes.length) (s := 1) (j := i_11) (by kernel_rfl) (ix_some hx_268).1 (ltn hx_268 hn_260) (spo ho_259 hx_268)) ?_
        obtain ⟨x_15, hx_269, h⟩ := bd h
        refine jd_v 8 0 (by kernel_rfl) (fun w h => h.pick [0, 1, 2, 4, 5] (by kernel_rfl) (by kernel_rfl)) (by kernel_rfl) (by kernel_rfl) _ (fun w hm => idx_run (a := (o_15.map fun b => ⟨b, 0, none⟩)) (len := t_2.length) (s := 1) (j := i_11) (by kernel_rfl) (ix_some hx_269).1 (ltn hx_269 rfl) (spo ho_19 hx_269)) ?_
        refine jd_v 9 0 (by kernel_rfl) (fun w h => h.pick [0, 1, 2, 4, 5] (by kernel_rfl) (by kernel_rfl)) (by kernel_rfl) (by kernel_rfl) _ (fun w hm => ld_run (b := aB (o_15.map fun b => ⟨b, 0, none⟩)) (off := (aO (o_15.map fun b => ⟨b, 0, none⟩) + i_11.toNat * 1)) (s := 1) (agg := false) (vs := (encI64 x_15)) (by kernel_rfl) (by kernel_rfl) (.inr rfl) ((hm.ownRow (hh := 4) (o := o_15) (T := 2) (enc := encI64) (xs := t_2) (sp := sp_17) (by kernel_rfl) (fun e => (ho_19 e).1) encI64_len).at hx_269)) ?_
        refine jd_f [⟨10, 0, 0⟩] 4 (by kernel_rfl) (by kernel_rfl) (fun w h => h.pick [0, 1, 2, 4, 5] (by kernel_rfl) (by kernel_rfl)) (by kernel_rfl) (by kernel_rfl) ?_
        refine toD 4 (by kernel_rfl) (p_ld 0 (aB (o_8.map fun b => ⟨b, 0, none⟩)) (aO (o_8.map fun b => ⟨b, 0, none⟩) + i_11.toNat * 1) false (encI64 x_14) (by kernel_rfl) (by kernel_rfl) (by kernel_rfl) (fun w hm => ((hm.ownRow (hh := 3) (o := o_8) (T := 2) (enc := encI64) (xs := xs_9) (sp := sp_10) (by kernel_rfl) (fun e => (ho_259 e).1) encI64_len).at hx_268)) (jkD (fun w h => h.pick [0, 1, 2, 4, 5] (by kernel_rfl) (by kernel_rfl)) ?_))
        refine jd_f [⟨11, 0, 0⟩] 2 (by kernel_rfl) (by kernel_rfl) (fun w h => h.pick [0, 1, 2, 4, 5] (by kernel_rfl) (by kernel_rfl)) (by kernel_rfl) (by kernel_rfl) ?_
        obtain ⟨x_16, hx_270, h⟩ := bd h
        refine jd_v 12 0 (by kernel_rfl) (fun w h => h.pick [0, 1, 2, 4, 5] (by kernel_rfl) (by kernel_rfl)) (by kernel_rfl) (by kernel_rfl) _ (fun w hm => idx_run (a := (o_8.map fun b => ⟨b, 0, none⟩)) (len := t_1.fStrokes.length) (s := 1) (j := i_11) (by kernel_rfl) (ix_some hx_270).1 (ltn hx_270 hn_260) (spo ho_259 hx_270)) ?_
        refine toD 13 (by kernel_rfl) (p_strO 0 3 o_8 2 encI64 xs_9 sp_10 i_11 (w64 (x_14 + (w64 (turns1 * x_15)))) 1 0 [(.int .i64 (w64 (x_14 + (w64 (turns1 * x_15)))))] (by kernel_rfl) (by kernel_rfl) (by kernel_rfl) (fun e => (ho_259 e).1) encI64_len hx_270 (by kernel_rfl) (by kernel_rfl) (jkD (fun w h => h.pick [0, 1, 2, 4, 5] (by kernel_rfl) (by kernel_rfl)) ?_))
        refine jd_end (by kernel_rfl) ?_
        refine jx_then ?_
        refine jc_region ?_
        refine jo_f [(0, 0), (0, 0), (0, 1), (4, 1), (0, 1)] (by kernel_rfl) ?_
        refine jo_split 62 q_10 (by kernel_rfl) (fun hc_271 => ?_) (fun hc_271 => ?_)
        · replace h := ifT hc_271 h
          obtain ⟨x_17, hx_272, h⟩ := bd h
          refine toO (by kernel_rfl) (p_idx 2 (o_8.map fun b => ⟨b, 0, none⟩) t_1.fStrokes.length i_11 1 (by kernel_rfl) (by kernel_rfl) (ix_some hx_272).1 (ltn hx_272 (List.length_set.trans hn_260)) (spo (set_ho ho_259) hx_272) (jkO ?_))
          refine toO (by kernel_rfl) (p_ld 2 (aB (o_8.map fun b => ⟨b, 0, none⟩)) (aO (o_8.map fun b => ⟨b, 0, none⟩) + i_11.toNat * 1) false (encI64 x_17) (by kernel_rfl) (by kernel_rfl) (by kernel_rfl) (fun w hm => ((hm.ownRow (hh := 3) (o := o_8) (T := 2) (enc := encI64) (xs := (xs_9.set i_11.toNat (w64 (x_14 + (w64 (turns1 * x_15)))))) (sp := sp_10) (by kernel_rfl) (fun e => ((set_ho ho_259) e).1) encI64_len).at hx_272)) (jkO ?_))
          obtain ⟨t_18, ht_273, h⟩ := bd h
          refine toO (by kernel_rfl) (p_call 2 71 #[(.int .i64 x_17)] (by kernel_rfl) (by kernel_rfl) (fun w hm => spec_l06Turns.calls x_17 w _ ht_273) ?_)
          rintro w v w' hm ⟨rfl, hm'⟩
          refine ⟨_, hm.app hm', jkO ?_⟩
          clear hm hm'
          refine jo_f [(0, 4), (0, 0)] (by kernel_rfl) ?_
          refine jo_end (by kernel_rfl) ?_
          refine jx_inn ?_
          refine jx_then ?_
          refine jc_region ?_
          refine jo_f [(0, 0), (0, 0), (0, 0)] (by kernel_rfl) ?_
          refine jo_end (by kernel_rfl) ?_
          exact jx_back ((xs_9.set i_11.toNat (w64 (x_14 + (w64 (turns1 * x_15))))), t_18, (w64 (i_11 + 1))) () (Option.some.inj h).symm ⟨(List.length_set.trans hn_260), (set_ho ho_259)⟩ [0, 1, 2, 3, 4, 5] (by kernel_rfl) (by kernel_rfl) (by kernel_rfl)
        · replace h := ifF hc_271 h
          refine jo_f [(0, 3), (0, 3), (0, 3), (0, 5), (0, 0)] (by kernel_rfl) ?_
          refine jo_end (by kernel_rfl) ?_
          refine jx_inn ?_
          refine jx_then ?_
          refine jc_region ?_
          refine jo_f [(0, 0), (0, 0), (0, 0)] (by kernel_rfl) ?_
          refine jo_end (by kernel_rfl) ?_
          exact jx_back ((xs_9.set i_11.toNat (w64 (x_14 + (w64 (turns1 * x_15))))), false, (w64 (i_11 + 1))) () (Option.some.inj h).symm ⟨(List.length_set.trans hn_260), (set_ho ho_259)⟩ [0, 1, 2, 3, 4, 5] (by kernel_rfl) (by kernel_rfl) (by kernel_rfl)
      · replace h := ifF hc_264 h
        refine jc_exit ?_
        refine jx_thenx ?_
        refine jx_leave (xs_9, q_10) (Option.some.inj h).symm (fun e_274 => ?_)
        subst e_274
        refine jx_ine ?_
        exact jx_meet ⟨xs_9, q_10⟩ ⟨hr_261, hn_260, ho_259⟩ (by kernel_rfl) [0, 1, 2, 3, 4, 5] (by kernel_rfl) (by kernel_rfl)
    · rintro ⟨xs_6, q_7⟩ ⟨h, hn_234, ho_233⟩
      replace h : spec_l06Turned.k_8 xs_3 xs_6 q_7 = some r := h
      rw [spec_l06Turned.k_8] at h
      refine jx_then ?_
      refine jc_seq ?_
      refine jc_region ?_
      refine jo_f [(4, 0), (0, 0)] (by kernel_rfl) ?_
      refine toO (by kernel_rfl) (p_s 0 [1] (by kernel_rfl) (by kernel_rfl) (jkO ?_))
      refine jo_f [(0, 0)] (by kernel_rfl) ?_
      refine jo_end (by kernel_rfl) ?_
      refine jx_then ?_
      refine jc_ret ?_
      obtain rfl := Option.some.inj h
      exact jx_ret [1] (.tuple #[(.agg #[(.slice (o_3.map fun b => ⟨b, 0, none⟩) t_1.fPins.length cap_4), (.slice (o_8.map fun b => ⟨b, 0, none⟩) t_1.fStrokes.length cap_9)]), (.bool q_7)]) [(b_1, b_1), (b_1, b_1)] rfl (by kernel_rfl) (by kernel_rfl) (fun w hm => ⟨o_3, cap_4, sp_5, t_1.fPins.length, hn_107, hs_6, ho_106, o_8, cap_9, sp_10, t_1.fStrokes.length, hn_234, hs_11, ho_233, rfl, hm.pick [0, 2, 3] (by kernel_rfl) (by kernel_rfl)⟩)

/-! ### spec.TurnWear -/
noncomputable def spec_TurnWear (f0 : GFrame) (w1 : GWear) (turns2 : Int) : Option (GWear × Int) := (spec_l06Ok f0 w1).bind fun t_1 => (if (!t_1) = true then some ((⟨[], []⟩ : GWear), 1) else (spec_l06Turns turns2).bind fun t_2 => (if (!t_2) = true then some ((⟨[], []⟩ : GWear), 2) else (spec_l06Turned w1 turns2).bind fun t_3 => (if (!t_3.2) = true then some ((⟨[], []⟩ : GWear), 3) else some (t_3.1, 0))))
set_option maxRecDepth 100000 in
theorem spec_TurnWear.calls (f0 : GFrame) (w1 : GWear) (turns2 : Int) (w : World) (r : GWear × Int) (f0_fHammers_a : Option Addr) (f0_fHammers_an : Nat) (f0_fHammers_c : Nat) (f0_fHammers_h : Rw w f0_fHammers_a 2 encGHammer f0.fHammers) (f0_fHammers_hn : f0.fHammers.length = f0_fHammers_an) (w1_fPins_a : Option Addr) (w1_fPins_an : Nat) (w1_fPins_c : Nat) (w1_fPins_h : Rw w w1_fPins_a 3 encGWornPin w1.fPins) (w1_fPins_hn : w1.fPins.length = w1_fPins_an) (w1_fStrokes_a : Option Addr) (w1_fStrokes_an : Nat) (w1_fStrokes_c : Nat) (w1_fStrokes_h : Rw w w1_fStrokes_a 1 encI64 w1.fStrokes) (w1_fStrokes_hn : w1.fStrokes.length = w1_fStrokes_an) (h : spec_TurnWear f0 w1 turns2 = some r) :
    Calls Tryz.prog 33 #[(.agg #[(.int .i16 f0.fSteps), (.slice f0_fHammers_a f0_fHammers_an f0_fHammers_c)]), (.agg #[(.slice w1_fPins_a w1_fPins_an w1_fPins_c), (.slice w1_fStrokes_a w1_fStrokes_an w1_fStrokes_c)]), (.int .i64 turns2)] w fun e w' => ∃ v, e = .returned v ∧ (∃ (o0 : Option Nat) (c0 : Nat) (s0 : List Value) (n0 : Nat), r.1.fPins.length = n0 ∧ (o0 ≠ none → n0 ≤ c0 ∧ s0.length = (c0 - n0) * 3) ∧ (o0 = none → r.1.fPins = [] ∧ c0 = 0) ∧ ∃ (o1 : Option Nat) (c1 : Nat) (s1 : List Value) (n1 : Nat), r.1.fStrokes.length = n1 ∧ (o1 ≠ none → n1 ≤ c1 ∧ s1.length = (c1 - n1) * 1) ∧ (o1 = none → r.1.fStrokes = [] ∧ c1 = 0) ∧ v = .tuple #[.agg #[.slice (o0.map fun b => ⟨b, 0, none⟩) n0 c0, .slice (o1.map fun b => ⟨b, 0, none⟩) n1 c1], (.int .i64 r.2)] ∧ Mem w [] [⟨o0, 75, row encGWornPin r.1.fPins s0⟩, ⟨o1, 2, row encI64 r.1.fStrokes s1⟩] w') := by
  subst f0_fHammers_hn w1_fPins_hn w1_fStrokes_hn
  rw [spec_TurnWear] at h
  refine enter (args := [(.agg #[(.int .i16 f0.fSteps), (.slice f0_fHammers_a f0.fHammers.length f0_fHammers_c)]), (.agg #[(.slice w1_fPins_a w1.fPins.length w1_fPins_c), (.slice w1_fStrokes_a w1.fStrokes.length w1_fStrokes_c)]), (.int .i64 turns2)]) Tryz.func33 rfl Tryz.ntmps33 (by kernel_rfl) (L := []) (W := []) (Mem.start w) ?_
  refine jc_seq ?_
  refine jc_region ?_
  refine toO (by kernel_rfl) (p_a 0 [0] (by kernel_rfl) (fun b => by kernel_rfl) (fun b_1 => jkO ?_))
  refine toO (by kernel_rfl) (p_a 0 [0] (by kernel_rfl) (fun b => by kernel_rfl) (fun b_2 => jkO ?_))
  refine toO (by kernel_rfl) (p_a 0 [0] (by kernel_rfl) (fun b => by kernel_rfl) (fun b_3 => jkO ?_))
  refine jo_f [(0, 0)] (by kernel_rfl) ?_
  refine jo_end (by kernel_rfl) ?_
  refine jx_then ?_
  refine jc_seq ?_
  refine jc_seq ?_
  refine jc_region ?_
  obtain ⟨t_1, ht_6, h⟩ := bd h
  refine toO (by kernel_rfl) (p_call 0 75 #[(.pointer (some ⟨b_1, 0, none⟩)), (.pointer (some ⟨b_2, 0, none⟩))] (by kernel_rfl) (by kernel_rfl) (fun w hm => spec_l06Ok.calls f0 w1 w _ f0_fHammers_a f0.fHammers.length f0_fHammers_c (hm.exRow f0_fHammers_h List.not_mem_nil) rfl w1_fPins_a w1.fPins.length w1_fPins_c (hm.exRow w1_fPins_h List.not_mem_nil) rfl w1_fStrokes_a w1.fStrokes.length w1_fStrokes_c (hm.exRow w1_fStrokes_h List.not_mem_nil) rfl b_1 b_2 (hm.pass (N := [⟨some b_1, 43, [(.int .i16 f0.fSteps), (.slice f0_fHammers_a f0.fHammers.length f0_fHammers_c)]⟩, ⟨some b_2, 38, [(.slice w1_fPins_a w1.fPins.length w1_fPins_c), (.slice w1_fStrokes_a w1.fStrokes.length w1_fStrokes_c)]⟩]) [0, 1] (by kernel_rfl) (by kernel_rfl)) (hm.exApart (N := [⟨some b_1, 43, [(.int .i16 f0.fSteps), (.slice f0_fHammers_a f0.fHammers.length f0_fHammers_c)]⟩, ⟨some b_2, 38, [(.slice w1_fPins_a w1.fPins.length w1_fPins_c), (.slice w1_fStrokes_a w1.fStrokes.length w1_fStrokes_c)]⟩]) f0_fHammers_h (fun _ => List.not_mem_nil) [0, 1] (by kernel_rfl)) (hm.exApart (N := [⟨some b_1, 43, [(.int .i16 f0.fSteps), (.slice f0_fHammers_a f0.fHammers.length f0_fHammers_c)]⟩, ⟨some b_2, 38, [(.slice w1_fPins_a w1.fPins.length w1_fPins_c), (.slice w1_fStrokes_a w1.fStrokes.length w1_fStrokes_c)]⟩]) w1_fPins_h (fun _ => List.not_mem_nil) [0, 1] (by kernel_rfl)) (hm.exApart (N := [⟨some b_1, 43, [(.int .i16 f0.fSteps), (.slice f0_fHammers_a f0.fHammers.length f0_fHammers_c)]⟩, ⟨some b_2, 38, [(.slice w1_fPins_a w1.fPins.length w1_fPins_c), (.slice w1_fStrokes_a w1.fStrokes.length w1_fStrokes_c)]⟩]) w1_fStrokes_h (fun _ => List.not_mem_nil) [0, 1] (by kernel_rfl)) ht_6) ?_)
  rintro w v w' hm ⟨rfl, hm'⟩
  refine ⟨_, hm.appW (ps := [(0, ⟨some b_1, 43, [(.int .i16 f0.fSteps), (.slice f0_fHammers_a f0.fHammers.length f0_fHammers_c)]⟩), (1, ⟨some b_2, 38, [(.slice w1_fPins_a w1.fPins.length w1_fPins_c), (.slice w1_fStrokes_a w1.fStrokes.length w1_fStrokes_c)]⟩)]) (N := []) hm' (by kernel_rfl) (by kernel_rfl), jkO ?_⟩
  clear hm hm'
  refine jo_f [(0, 0)] (by kernel_rfl) ?_
  refine jo_end (by kernel_rfl) ?_
  refine jx_then ?_
  refine jc_cond (!t_1) (by kernel_rfl) (fun hc_7 => ?_) (fun hc_7 => ?_)
  · replace h := ifT hc_7 h
    refine jc_seq ?_
    refine jc_region ?_
    refine jo_f [(0, 0)] (by kernel_rfl) ?_
    refine toO (by kernel_rfl) (p_s 0 [2] (by kernel_rfl) (by kernel_rfl) (jkO ?_))
    refine jo_f [(0, 0)] (by kernel_rfl) ?_
    refine jo_end (by kernel_rfl) ?_
    refine jx_then ?_
    refine jc_ret ?_
    refine jx_thenr ?_
    obtain rfl := Option.some.inj h
    refine jx_ghost 75 encGWornPin ?_
    refine jx_ghost 2 encI64 ?_
    exact jx_ret [2] (.tuple #[(.agg #[(.slice none 0 0), (.slice none 0 0)]), (.int .i64 1)]) [(b_3, b_3), (b_3, b_3)] rfl (by kernel_rfl) (by kernel_rfl) (fun w hm => ⟨none, 0, [], 0, rfl, (fun e => absurd rfl e), (fun _ => ⟨rfl, rfl⟩), none, 0, [], 0, rfl, (fun e => absurd rfl e), (fun _ => ⟨rfl, rfl⟩), rfl, hm.pick [3, 4] (by kernel_rfl) (by kernel_rfl)⟩)
  · replace h := ifF hc_7 h
    refine jc_skip ?_
    refine jx_then ?_
    refine jc_seq ?_
    refine jc_seq ?_
    refine jc_region ?_
    refine jo_f [(0, 0)] (by kernel_rfl) ?_
    obtain ⟨t_2, ht_10, h⟩ := bd h
    refine toO (by kernel_rfl) (p_call 0 71 #[(.int .i64 turns2)] (by kernel_rfl) (by kernel_rfl) (fun w hm => spec_l06Turns.calls turns2 w _ ht_10) ?_)
    rintro w v w' hm ⟨rfl, hm'⟩
    refine ⟨_, hm.app hm', jkO ?_⟩
    clear hm hm'
    refine jo_f [(0, 0)] (by kernel_rfl) ?_
    refine jo_end (by kernel_rfl) ?_
    refine jx_then ?_
    refine jc_cond (!t_2) (by kernel_rfl) (fun hc_11 => ?_) (fun hc_11 => ?_)
    · replace h := ifT hc_11 h
      refine jc_seq ?_
      refine jc_region ?_
      refine jo_f [(0, 0)] (by kernel_rfl) ?_
      refine toO (by kernel_rfl) (p_s 0 [2] (by kernel_rfl) (by kernel_rfl) (jkO ?_))
      refine jo_f [(0, 0)] (by kernel_rfl) ?_
      refine jo_end (by kernel_rfl) ?_
      refine jx_then ?_
      refine jc_ret ?_
      refine jx_thenr ?_
      obtain rfl := Option.some.inj h
      refine jx_ghost 75 encGWornPin ?_
      refine jx_ghost 2 encI64 ?_
      exact jx_ret [2] (.tuple #[(.agg #[(.slice none 0 0), (.slice none 0 0)]), (.int .i64 2)]) [(b_3, b_3), (b_3, b_3)] rfl (by kernel_rfl) (by kernel_rfl) (fun w hm => ⟨none, 0, [], 0, rfl, (fun e => absurd rfl e), (fun _ => ⟨rfl, rfl⟩), none, 0, [], 0, rfl, (fun e => absurd rfl e), (fun _ => ⟨rfl, rfl⟩), rfl, hm.pick [3, 4] (by kernel_rfl) (by kernel_rfl)⟩)
    · replace h := ifF hc_11 h
      refine jc_skip ?_
      refine jx_then ?_
      refine jc_seq ?_
      refine jc_region ?_
      refine jo_f [(0, 0)] (by kernel_rfl) ?_
      obtain ⟨t_3, ht_12, h⟩ := bd h
      refine toO (by kernel_rfl) (p_call 0 78 #[(.pointer (some ⟨b_2, 0, none⟩)), (.int .i64 turns2)] (by kernel_rfl) (by kernel_rfl) (fun w hm => spec_l06Turned.calls w1 turns2 w _ w1_fPins_a w1.fPins.length w1_fPins_c (hm.exRow w1_fPins_h List.not_mem_nil) rfl w1_fStrokes_a w1.fStrokes.length w1_fStrokes_c (hm.exRow w1_fStrokes_h List.not_mem_nil) rfl b_2 (hm.pass (N := [⟨some b_2, 38, [(.slice w1_fPins_a w1.fPins.length w1_fPins_c), (.slice w1_fStrokes_a w1.fStrokes.length w1_fStrokes_c)]⟩]) [1] (by kernel_rfl) (by kernel_rfl)) (hm.exApart (N := [⟨some b_2, 38, [(.slice w1_fPins_a w1.fPins.length w1_fPins_c), (.slice w1_fStrokes_a w1.fStrokes.length w1_fStrokes_c)]⟩]) w1_fPins_h (fun _ => List.not_mem_nil) [1] (by kernel_rfl)) (hm.exApart (N := [⟨some b_2, 38, [(.slice w1_fPins_a w1.fPins.length w1_fPins_c), (.slice w1_fStrokes_a w1.fStrokes.length w1_fStrokes_c)]⟩]) w1_fStrokes_h (fun _ => List.not_mem_nil) [1] (by kernel_rfl)) ht_12) ?_)
      rintro w v w' hm ⟨o_13, cap_14, sp_15, _, rfl, hs_16, ho_17, o_18, cap_19, sp_20, _, rfl, hs_21, ho_22, rfl, hm'⟩
      refine ⟨_, hm.appW (ps := [(1, ⟨some b_2, 38, [(.slice w1_fPins_a w1.fPins.length w1_fPins_c), (.slice w1_fStrokes_a w1.fStrokes.length w1_fStrokes_c)]⟩)]) (N := [⟨o_13, 75, row encGWornPin t_3.1.fPins sp_15⟩, ⟨o_18, 2, row encI64 t_3.1.fStrokes sp_20⟩]) hm' (by kernel_rfl) (by kernel_rfl), jkO ?_⟩
      clear hm hm'
      refine jo_f [(0, 0), (0, 0), (0, 0)] (by kernel_rfl) ?_
      refine toO (by kernel_rfl) (p_a 0 [0] (by kernel_rfl) (fun b => by kernel_rfl) (fun b_23 => jkO ?_))
      refine toO (by kernel_rfl) (p_s 0 [5] (by kernel_rfl) (by kernel_rfl) (jkO ?_))
      refine jo_f [(0, 0)] (by kernel_rfl) ?_
      refine jo_end (by kernel_rfl) ?_
      refine jx_then ?_
      refine jc_seq ?_
      refine jc_seq ?_
      refine jc_region ?_
      refine jo_f [(0, 0), (0, 0)] (by kernel_rfl) ?_
      refine jo_end (by kernel_rfl) ?_
      refine jx_then ?_
      refine jc_cond (!t_3.2) (by kernel_rfl) (fun hc_25 => ?_) (fun hc_25 => ?_)
      · replace h := ifT hc_25 h
        refine jc_seq ?_
        refine jc_region ?_
        refine jo_f [(0, 0)] (by kernel_rfl) ?_
        refine toO (by kernel_rfl) (p_s 0 [2] (by kernel_rfl) (by kernel_rfl) (jkO ?_))
        refine jo_f [(0, 0)] (by kernel_rfl) ?_
        refine jo_end (by kernel_rfl) ?_
        refine jx_then ?_
        refine jc_ret ?_
        refine jx_thenr ?_
        obtain rfl := Option.some.inj h
        refine jx_ghost 75 encGWornPin ?_
        refine jx_ghost 2 encI64 ?_
        exact jx_ret [2] (.tuple #[(.agg #[(.slice none 0 0), (.slice none 0 0)]), (.int .i64 3)]) [(b_3, b_3), (b_3, b_3)] rfl (by kernel_rfl) (by kernel_rfl) (fun w hm => ⟨none, 0, [], 0, rfl, (fun e => absurd rfl e), (fun _ => ⟨rfl, rfl⟩), none, 0, [], 0, rfl, (fun e => absurd rfl e), (fun _ => ⟨rfl, rfl⟩), rfl, hm.pick [6, 7] (by kernel_rfl) (by kernel_rfl)⟩)
      · replace h := ifF hc_25 h
        refine jc_skip ?_
        refine jx_then ?_
        refine jc_seq ?_
        refine jc_region ?_
        refine jo_f [(5, 0)] (by kernel_rfl) ?_
        refine toO (by kernel_rfl) (p_s 0 [2] (by kernel_rfl) (by kernel_rfl) (jkO ?_))
        refine jo_f [(0, 0)] (by kernel_rfl) ?_
        refine jo_end (by kernel_rfl) ?_
        refine jx_then ?_
        refine jc_ret ?_
        obtain rfl := Option.some.inj h
        exact jx_ret [2] (.tuple #[(.agg #[(.slice (o_13.map fun b => ⟨b, 0, none⟩) t_3.1.fPins.length cap_14), (.slice (o_18.map fun b => ⟨b, 0, none⟩) t_3.1.fStrokes.length cap_19)]), (.int .i64 0)]) [(b_3, b_3), (b_3, b_3)] rfl (by kernel_rfl) (by kernel_rfl) (fun w hm => ⟨o_13, cap_14, sp_15, t_3.1.fPins.length, rfl, hs_16, ho_17, o_18, cap_19, sp_20, t_3.1.fStrokes.length, rfl, hs_21, ho_22, rfl, hm.pick [3, 4] (by kernel_rfl) (by kernel_rfl)⟩)

/-! ### spec.NewHammer -/
noncomputable def spec_NewHammer (f0 : GFrame) (w1 : GWear) (track2 : Int) : Option (GWear × Int) := (spec_l06Ok f0 w1).bind fun t_1 => (if (!t_1) = true then some ((⟨[], []⟩ : GWear), 1) else (spec_l00In track2 0 (w64 ((f0.fHammers.length : Int) - 1))).bind fun t_2 => (if (!t_2) = true then some ((⟨[], []⟩ : GWear), 2) else (spec_l06Copy w1).bind fun t_3 => (ix t_3.fStrokes track2).bind fun x_4 => some ((⟨t_3.fPins, (t_3.fStrokes.set track2.toNat 0)⟩ : GWear), 0)))
set_option maxRecDepth 100000 in
theorem spec_NewHammer.calls (f0 : GFrame) (w1 : GWear) (track2 : Int) (w : World) (r : GWear × Int) (f0_fHammers_a : Option Addr) (f0_fHammers_an : Nat) (f0_fHammers_c : Nat) (f0_fHammers_h : Rw w f0_fHammers_a 2 encGHammer f0.fHammers) (f0_fHammers_hn : f0.fHammers.length = f0_fHammers_an) (w1_fPins_a : Option Addr) (w1_fPins_an : Nat) (w1_fPins_c : Nat) (w1_fPins_h : Rw w w1_fPins_a 3 encGWornPin w1.fPins) (w1_fPins_hn : w1.fPins.length = w1_fPins_an) (w1_fStrokes_a : Option Addr) (w1_fStrokes_an : Nat) (w1_fStrokes_c : Nat) (w1_fStrokes_h : Rw w w1_fStrokes_a 1 encI64 w1.fStrokes) (w1_fStrokes_hn : w1.fStrokes.length = w1_fStrokes_an) (h : spec_NewHammer f0 w1 track2 = some r) :
    Calls Tryz.prog 119 #[(.agg #[(.int .i16 f0.fSteps), (.slice f0_fHammers_a f0_fHammers_an f0_fHammers_c)]), (.agg #[(.slice w1_fPins_a w1_fPins_an w1_fPins_c), (.slice w1_fStrokes_a w1_fStrokes_an w1_fStrokes_c)]), (.int .i64 track2)] w fun e w' => ∃ v, e = .returned v ∧ (∃ (o0 : Option Nat) (c0 : Nat) (s0 : List Value) (n0 : Nat), r.1.fPins.length = n0 ∧ (o0 ≠ none → n0 ≤ c0 ∧ s0.length = (c0 - n0) * 3) ∧ (o0 = none → r.1.fPins = [] ∧ c0 = 0) ∧ ∃ (o1 : Option Nat) (c1 : Nat) (s1 : List Value) (n1 : Nat), r.1.fStrokes.length = n1 ∧ (o1 ≠ none → n1 ≤ c1 ∧ s1.length = (c1 - n1) * 1) ∧ (o1 = none → r.1.fStrokes = [] ∧ c1 = 0) ∧ v = .tuple #[.agg #[.slice (o0.map fun b => ⟨b, 0, none⟩) n0 c0, .slice (o1.map fun b => ⟨b, 0, none⟩) n1 c1], (.int .i64 r.2)] ∧ Mem w [] [⟨o0, 75, row encGWornPin r.1.fPins s0⟩, ⟨o1, 2, row encI64 r.1.fStrokes s1⟩] w') := by
  subst f0_fHammers_hn w1_fPins_hn w1_fStrokes_hn
  rw [spec_NewHammer] at h
  refine enter (args := [(.agg #[(.int .i16 f0.fSteps), (.slice f0_fHammers_a f0.fHammers.length f0_fHammers_c)]), (.agg #[(.slice w1_fPins_a w1.fPins.length w1_fPins_c), (.slice w1_fStrokes_a w1.fStrokes.length w1_fStrokes_c)]), (.int .i64 track2)]) Tryz.func119 rfl Tryz.ntmps119 (by kernel_rfl) (L := []) (W := []) (Mem.start w) ?_
  refine jc_seq ?_
  refine jc_region ?_
  refine toO (by kernel_rfl) (p_a 0 [0] (by kernel_rfl) (fun b => by kernel_rfl) (fun b_1 => jkO ?_))
  refine toO (by kernel_rfl) (p_a 0 [0] (by kernel_rfl) (fun b => by kernel_rfl) (fun b_2 => jkO ?_))
  refine toO (by kernel_rfl) (p_a 0 [0] (by kernel_rfl) (fun b => by kernel_rfl) (fun b_3 => jkO ?_))
  refine jo_f [(0, 0)] (by kernel_rfl) ?_
  refine jo_end (by kernel_rfl) ?_
  refine jx_then ?_
  refine jc_seq ?_
  refine jc_seq ?_
  refine jc_region ?_
  obtain ⟨t_1, ht_6, h⟩ := bd h
  refine toO (by kernel_rfl) (p_call 0 75 #[(.pointer (some ⟨b_1, 0, none⟩)), (.pointer (some ⟨b_2, 0, none⟩))] (by kernel_rfl) (by kernel_rfl) (fun w hm => spec_l06Ok.calls f0 w1 w _ f0_fHammers_a f0.fHammers.length f0_fHammers_c (hm.exRow f0_fHammers_h List.not_mem_nil) rfl w1_fPins_a w1.fPins.length w1_fPins_c (hm.exRow w1_fPins_h List.not_mem_nil) rfl w1_fStrokes_a w1.fStrokes.length w1_fStrokes_c (hm.exRow w1_fStrokes_h List.not_mem_nil) rfl b_1 b_2 (hm.pass (N := [⟨some b_1, 43, [(.int .i16 f0.fSteps), (.slice f0_fHammers_a f0.fHammers.length f0_fHammers_c)]⟩, ⟨some b_2, 38, [(.slice w1_fPins_a w1.fPins.length w1_fPins_c), (.slice w1_fStrokes_a w1.fStrokes.length w1_fStrokes_c)]⟩]) [0, 1] (by kernel_rfl) (by kernel_rfl)) (hm.exApart (N := [⟨some b_1, 43, [(.int .i16 f0.fSteps), (.slice f0_fHammers_a f0.fHammers.length f0_fHammers_c)]⟩, ⟨some b_2, 38, [(.slice w1_fPins_a w1.fPins.length w1_fPins_c), (.slice w1_fStrokes_a w1.fStrokes.length w1_fStrokes_c)]⟩]) f0_fHammers_h (fun _ => List.not_mem_nil) [0, 1] (by kernel_rfl)) (hm.exApart (N := [⟨some b_1, 43, [(.int .i16 f0.fSteps), (.slice f0_fHammers_a f0.fHammers.length f0_fHammers_c)]⟩, ⟨some b_2, 38, [(.slice w1_fPins_a w1.fPins.length w1_fPins_c), (.slice w1_fStrokes_a w1.fStrokes.length w1_fStrokes_c)]⟩]) w1_fPins_h (fun _ => List.not_mem_nil) [0, 1] (by kernel_rfl)) (hm.exApart (N := [⟨some b_1, 43, [(.int .i16 f0.fSteps), (.slice f0_fHammers_a f0.fHammers.length f0_fHammers_c)]⟩, ⟨some b_2, 38, [(.slice w1_fPins_a w1.fPins.length w1_fPins_c), (.slice w1_fStrokes_a w1.fStrokes.length w1_fStrokes_c)]⟩]) w1_fStrokes_h (fun _ => List.not_mem_nil) [0, 1] (by kernel_rfl)) ht_6) ?_)
  rintro w v w' hm ⟨rfl, hm'⟩
  refine ⟨_, hm.appW (ps := [(0, ⟨some b_1, 43, [(.int .i16 f0.fSteps), (.slice f0_fHammers_a f0.fHammers.length f0_fHammers_c)]⟩), (1, ⟨some b_2, 38, [(.slice w1_fPins_a w1.fPins.length w1_fPins_c), (.slice w1_fStrokes_a w1.fStrokes.length w1_fStrokes_c)]⟩)]) (N := []) hm' (by kernel_rfl) (by kernel_rfl), jkO ?_⟩
  clear hm hm'
  refine jo_f [(0, 0)] (by kernel_rfl) ?_
  refine jo_end (by kernel_rfl) ?_
  refine jx_then ?_
  refine jc_cond (!t_1) (by kernel_rfl) (fun hc_7 => ?_) (fun hc_7 => ?_)
  · replace h := ifT hc_7 h
    refine jc_seq ?_
    refine jc_region ?_
    refine jo_f [(0, 0)] (by kernel_rfl) ?_
    refine toO (by kernel_rfl) (p_s 0 [2] (by kernel_rfl) (by kernel_rfl) (jkO ?_))
    refine jo_f [(0, 0)] (by kernel_rfl) ?_
    refine jo_end (by kernel_rfl) ?_
    refine jx_then ?_
    refine jc_ret ?_
    refine jx_thenr ?_
    obtain rfl := Option.some.inj h
    refine jx_ghost 75 encGWornPin ?_
    refine jx_ghost 2 encI64 ?_
    exact jx_ret [2] (.tuple #[(.agg #[(.slice none 0 0), (.slice none 0 0)]), (.int .i64 1)]) [(b_3, b_3), (b_3, b_3)] rfl (by kernel_rfl) (by kernel_rfl) (fun w hm => ⟨none, 0, [], 0, rfl, (fun e => absurd rfl e), (fun _ => ⟨rfl, rfl⟩), none, 0, [], 0, rfl, (fun e => absurd rfl e), (fun _ => ⟨rfl, rfl⟩), rfl, hm.pick [3, 4] (by kernel_rfl) (by kernel_rfl)⟩)
  · replace h := ifF hc_7 h
    refine jc_skip ?_
    refine jx_then ?_
    refine jc_seq ?_
    refine jc_seq ?_
    refine jc_region ?_
    refine jo_f [(0, 0), (0, 0), (0, 0), (0, 0), (0, 0)] (by kernel_rfl) ?_
    obtain ⟨t_2, ht_10, h⟩ := bd h
    refine toO (by kernel_rfl) (p_call 0 77 #[(.int .i64 track2), (.int .i64 0), (.int .i64 (w64 ((f0.fHammers.length : Int) - 1)))] (by kernel_rfl) (by kernel_rfl) (fun w hm => spec_l00In.calls track2 0 (w64 ((f0.fHammers.length : Int) - 1)) w _ ht_10) ?_)
    rintro w v w' hm ⟨rfl, hm'⟩
    refine ⟨_, hm.app hm', jkO ?_⟩
    clear hm hm'
    refine jo_f [(0, 0)] (by kernel_rfl) ?_
    refine jo_end (by kernel_rfl) ?_
    refine jx_then ?_
    refine jc_cond (!t_2) (by kernel_rfl) (fun hc_11 => ?_) (fun hc_11 => ?_)
    · replace h := ifT hc_11 h
      refine jc_seq ?_
      refine jc_region ?_
      refine jo_f [(0, 0)] (by kernel_rfl) ?_
      refine toO (by kernel_rfl) (p_s 0 [2] (by kernel_rfl) (by kernel_rfl) (jkO ?_))
      refine jo_f [(0, 0)] (by kernel_rfl) ?_
      refine jo_end (by kernel_rfl) ?_
      refine jx_then ?_
      refine jc_ret ?_
      refine jx_thenr ?_
      obtain rfl := Option.some.inj h
      refine jx_ghost 75 encGWornPin ?_
      refine jx_ghost 2 encI64 ?_
      exact jx_ret [2] (.tuple #[(.agg #[(.slice none 0 0), (.slice none 0 0)]), (.int .i64 2)]) [(b_3, b_3), (b_3, b_3)] rfl (by kernel_rfl) (by kernel_rfl) (fun w hm => ⟨none, 0, [], 0, rfl, (fun e => absurd rfl e), (fun _ => ⟨rfl, rfl⟩), none, 0, [], 0, rfl, (fun e => absurd rfl e), (fun _ => ⟨rfl, rfl⟩), rfl, hm.pick [3, 4] (by kernel_rfl) (by kernel_rfl)⟩)
    · replace h := ifF hc_11 h
      refine jc_skip ?_
      refine jx_then ?_
      refine jc_seq ?_
      refine jc_region ?_
      obtain ⟨t_3, ht_12, h⟩ := bd h
      refine toO (by kernel_rfl) (p_call 0 85 #[(.pointer (some ⟨b_2, 0, none⟩))] (by kernel_rfl) (by kernel_rfl) (fun w hm => spec_l06Copy.calls w1 w _ w1_fPins_a w1.fPins.length w1_fPins_c (hm.exRow w1_fPins_h List.not_mem_nil) rfl w1_fStrokes_a w1.fStrokes.length w1_fStrokes_c (hm.exRow w1_fStrokes_h List.not_mem_nil) rfl b_2 (hm.pass (N := [⟨some b_2, 38, [(.slice w1_fPins_a w1.fPins.length w1_fPins_c), (.slice w1_fStrokes_a w1.fStrokes.length w1_fStrokes_c)]⟩]) [1] (by kernel_rfl) (by kernel_rfl)) (hm.exApart (N := [⟨some b_2, 38, [(.slice w1_fPins_a w1.fPins.length w1_fPins_c), (.slice w1_fStrokes_a w1.fStrokes.length w1_fStrokes_c)]⟩]) w1_fPins_h (fun _ => List.not_mem_nil) [1] (by kernel_rfl)) (hm.exApart (N := [⟨some b_2, 38, [(.slice w1_fPins_a w1.fPins.length w1_fPins_c), (.slice w1_fStrokes_a w1.fStrokes.length w1_fStrokes_c)]⟩]) w1_fStrokes_h (fun _ => List.not_mem_nil) [1] (by kernel_rfl)) ht_12) ?_)
      rintro w v w' hm ⟨o_13, cap_14, sp_15, _, rfl, hs_16, ho_17, o_18, cap_19, sp_20, _, rfl, hs_21, ho_22, rfl, hm'⟩
      refine ⟨_, hm.appW (ps := [(1, ⟨some b_2, 38, [(.slice w1_fPins_a w1.fPins.length w1_fPins_c), (.slice w1_fStrokes_a w1.fStrokes.length w1_fStrokes_c)]⟩)]) (N := [⟨o_13, 75, row encGWornPin t_3.fPins sp_15⟩, ⟨o_18, 2, row encI64 t_3.fStrokes sp_20⟩]) hm' (by kernel_rfl) (by kernel_rfl), jkO ?_⟩
      clear hm hm'
      refine toO (by kernel_rfl) (p_a 0 [0] (by kernel_rfl) (fun b => by kernel_rfl) (fun b_23 => jkO ?_))
      refine toO (by kernel_rfl) (p_s 0 [5] (by kernel_rfl) (by kernel_rfl) (jkO ?_))
      refine jo_end (by kernel_rfl) ?_
      refine jx_then ?_
      refine jc_seq ?_
      refine jc_region ?_
      refine jo_f [(0, 0), (5, 0), (0, 0)] (by kernel_rfl) ?_
      obtain ⟨x_4, hx_24, h⟩ := bd h
      refine toO (by kernel_rfl) (p_idx 0 (o_18.map fun b => ⟨b, 0, none⟩) t_3.fStrokes.length track2 1 (by kernel_rfl) (by kernel_rfl) (ix_some hx_24).1 (ltn hx_24 rfl) (spo ho_22 hx_24) (jkO ?_))
      refine toO (by kernel_rfl) (p_strO 0 4 o_18 2 encI64 t_3.fStrokes sp_20 track2 0 1 0 [(.int .i64 0)] (by kernel_rfl) (by kernel_rfl) (by kernel_rfl) (fun e => (ho_22 e).1) encI64_len hx_24 (by kernel_rfl) (by kernel_rfl) (jkO ?_))
      refine jo_end (by kernel_rfl) ?_
      refine jx_then ?_
      refine jc_seq ?_
      refine jc_region ?_
      refine jo_f [(5, 0)] (by kernel_rfl) ?_
      refine toO (by kernel_rfl) (p_s 0 [2] (by kernel_rfl) (by kernel_rfl) (jkO ?_))
      refine jo_f [(0, 0)] (by kernel_rfl) ?_
      refine jo_end (by kernel_rfl) ?_
      refine jx_then ?_
      refine jc_ret ?_
      obtain rfl := Option.some.inj h
      exact jx_ret [2] (.tuple #[(.agg #[(.slice (o_13.map fun b => ⟨b, 0, none⟩) t_3.fPins.length cap_14), (.slice (o_18.map fun b => ⟨b, 0, none⟩) t_3.fStrokes.length cap_19)]), (.int .i64 0)]) [(b_3, b_3), (b_3, b_3)] rfl (by kernel_rfl) (by kernel_rfl) (fun w hm => ⟨o_13, cap_14, sp_15, t_3.fPins.length, rfl, hs_16, ho_17, o_18, cap_19, sp_20, t_3.fStrokes.length, (List.length_set.trans rfl), hs_21, (set_ho ho_22), rfl, hm.pick [3, 4] (by kernel_rfl) (by kernel_rfl)⟩)

/-! ### spec.l06Find -/
noncomputable def spec_l06Find.k_1 : Option (Int) := some (-1)
noncomputable def spec_l06Find.k_6 (i_2 : Int) (q_5 : Bool) : Option ((Int) ⊕ (Int ⊕ Unit)) := (if q_5 = true then some (.inr (.inl i_2)) else some (.inl (w64 (i_2 + 1))))
noncomputable def spec_l06Find.l_3 (w0 : GWear) (step1 : Int) (track2 : Int) : Int → Option ((Int) ⊕ (Int ⊕ Unit))
  | i_2 => (if (decide (i_2 < (w0.fPins.length : Int))) = true then (ix w0.fPins i_2).bind fun x_7 => (if ((w64 x_7.fStep) == step1) = true then (ix w0.fPins i_2).bind fun x_8 => spec_l06Find.k_6 i_2 ((w64 x_8.fTrack) == track2) else spec_l06Find.k_6 i_2 false) else some (.inr (.inr ())))
noncomputable def spec_l06Find (w0 : GWear) (step1 : Int) (track2 : Int) : Option (Int) := (loop (spec_l06Find.l_3 w0 step1 track2) 0).bind fun t_4 => match t_4 with | .inl p => some p | .inr p => spec_l06Find.k_1
set_option maxRecDepth 100000 in
theorem spec_l06Find.calls (w0 : GWear) (step1 : Int) (track2 : Int) (w : World) (r : Int) (w0_fPins_a : Option Addr) (w0_fPins_an : Nat) (w0_fPins_c : Nat) (w0_fPins_h : Rw w w0_fPins_a 3 encGWornPin w0.fPins) (w0_fPins_hn : w0.fPins.length = w0_fPins_an) (w0_fStrokes_a : Option Addr) (w0_fStrokes_an : Nat) (w0_fStrokes_c : Nat) (w0_fStrokes_h : Rw w w0_fStrokes_a 1 encI64 w0.fStrokes) (w0_fStrokes_hn : w0.fStrokes.length = w0_fStrokes_an) (w0_b : Nat) (hm0 : Mem w (bs [some w0_b]) [⟨some w0_b, 38, [(.slice w0_fPins_a w0_fPins_an w0_fPins_c), (.slice w0_fStrokes_a w0_fStrokes_an w0_fStrokes_c)]⟩] w) (w0_fPins_ha : w0.fPins ≠ [] → aB w0_fPins_a ∉ bs [some w0_b]) (w0_fStrokes_ha : w0.fStrokes ≠ [] → aB w0_fStrokes_a ∉ bs [some w0_b]) (h : spec_l06Find w0 step1 track2 = some r) :
    Calls Tryz.prog 142 #[(.pointer (some ⟨w0_b, 0, none⟩)), (.int .i64 step1), (.int .i64 track2)] w fun e w' => ∃ v, e = .returned v ∧ (v = (.int .i64 r) ∧ Mem w (bs [some w0_b]) [⟨some w0_b, 38, [(.slice w0_fPins_a w0_fPins_an w0_fPins_c), (.slice w0_fStrokes_a w0_fStrokes_an w0_fStrokes_c)]⟩] w') := by
  subst w0_fPins_hn w0_fStrokes_hn
  rw [spec_l06Find] at h
  refine enter (args := [(.pointer (some ⟨w0_b, 0, none⟩)), (.int .i64 step1), (.int .i64 track2)]) Tryz.func142 rfl Tryz.ntmps142 (by kernel_rfl) (L := [⟨some w0_b, 38, [(.slice w0_fPins_a w0.fPins.length w0_fPins_c), (.slice w0_fStrokes_a w0.fStrokes.length w0_fStrokes_c)]⟩]) (W := bs [some w0_b]) hm0 ?_
  refine jc_seq ?_
  refine jc_region ?_
  refine jo_f [(0, 0)] (by kernel_rfl) ?_
  refine jo_end (by kernel_rfl) ?_
  refine jx_then ?_
  refine jc_seq ?_
  refine jc_seq ?_
  refine jc_region ?_
  refine jo_f [(0, 0)] (by kernel_rfl) ?_
  refine jo_end (by kernel_rfl) ?_
  refine jx_then ?_
  refine jc_meet (fun (_ : Unit) => spec_l06Find.k_1 = some r) (fun (_ : Unit) => [(6, [], (.int .i64 0))]) (fun (_ : Unit) => [⟨some w0_b, 38, [(.slice w0_fPins_a w0.fPins.length w0_fPins_c), (.slice w0_fStrokes_a w0.fStrokes.length w0_fStrokes_c)]⟩]) ?_ ?_
  · refine jc_block ?_
    obtain ⟨t_4, ht_64, hr_51⟩ := bd h
    refine jc_loop (fun (s : Int) (x : Unit) => match s, x with | i_2, _ => True) (fun (s : Int) (x : Unit) => match s, x with | i_2, _ => [(0, [], (.pointer (some ⟨w0_b, 0, none⟩))), (1, [], (.int .i64 step1)), (2, [], (.int .i64 track2)), (6, [], (.int .i64 0)), (7, [], (.int .i64 i_2))]) (fun (s : Int) (x : Unit) => match s, x with | i_2, _ => [⟨some w0_b, 38, [(.slice w0_fPins_a w0.fPins.length w0_fPins_c), (.slice w0_fStrokes_a w0.fStrokes.length w0_fStrokes_c)]⟩]) ht_64 () trivial (by kernel_rfl) [0] (by kernel_rfl) (by kernel_rfl) ?_
    rintro i_2 _ y_52 _ h
    rw [spec_l06Find.l_3] at h
    refine jc_seq ?_
    refine jc_seq ?_
    refine jc_region ?_
    refine jo_f [(0, 0), (0, 0), (0, 0), (0, 0), (0, 0), (0, 0), (0, 0)] (by kernel_rfl) ?_
    refine jo_end (by kernel_rfl) ?_
    refine jx_then ?_
    refine jc_cond (decide (i_2 < (w0.fPins.length : Int))) (by kernel_rfl) (fun hc_54 => ?_) (fun hc_54 => ?_)
    · replace h := ifT hc_54 h
      refine jc_skip ?_
      refine jx_then ?_
      refine jc_seq ?_
      refine jc_block ?_
      refine jc_seq ?_
      refine jc_meet (fun (j : Bool) => match j with | q_5 => spec_l06Find.k_6 i_2 q_5 = some y_52) (fun (j : Bool) => match j with | q_5 => [(0, [], (.pointer (some ⟨w0_b, 0, none⟩))), (1, [], (.int .i64 step1)), (2, [], (.int .i64 track2)), (6, [], (.int .i64 0)), (7, [], (.int .i64 i_2)), (40, [], (.bool q_5))]) (fun (j : Bool) => match j with | q_5 => [⟨some w0_b, 38, [(.slice w0_fPins_a w0.fPins.length w0_fPins_c), (.slice w0_fStrokes_a w0.fStrokes.length w0_fStrokes_c)]⟩]) ?_ ?_
      · refine jc_region ?_
        refine jo_f [(0, 0), (0, 0), (0, 0), (0, 0), (0, 0)] (by kernel_rfl) ?_
        obtain ⟨x_7, hx_60, h⟩ := bd h
        refine toO (by kernel_rfl) (p_idx 0 w0_fPins_a w0.fPins.length i_2 3 (by kernel_rfl) (by kernel_rfl) (ix_some hx_60).1 (ltn hx_60 rfl) (w0_fPins_h.sp hx_60) (jkO ?_))
        refine jo_f [(0, 0)] (by kernel_rfl) ?_
        refine toO (by kernel_rfl) (p_ld 0 (aB w0_fPins_a) (aO w0_fPins_a + i_2.toNat * 3) false (((encGWornPin x_7).drop 0).take 1) (by kernel_rfl) (by kernel_rfl) (by kernel_rfl) (fun w hm => (((hm.exRowW w0_fPins_h w0_fPins_ha).at hx_60).sub 0 1)) (jkO ?_))
        refine jo_f [(0, 0), (0, 0), (0, 0), (0, 0), (0, 1), (0, 1), (0, 1), (0, 1), (0, 1)] (by kernel_rfl) ?_
        refine jo_split 28 ((w64 x_7.fStep) == step1) (by kernel_rfl) (fun hc_61 => ?_) (fun hc_61 => ?_)
        · replace h := ifT hc_61 h
          obtain ⟨x_8, hx_62, h⟩ := bd h
          refine toO (by kernel_rfl) (p_idx 2 w0_fPins_a w0.fPins.length i_2 3 (by kernel_rfl) (by kernel_rfl) (ix_some hx_62).1 (ltn hx_62 rfl) (w0_fPins_h.sp hx_62) (jkO ?_))
          refine jo_f [(0, 2)] (by kernel_rfl) ?_
          refine toO (by kernel_rfl) (p_ld 2 (aB w0_fPins_a) (aO w0_fPins_a + i_2.toNat * 3 + 1) false (((encGWornPin x_8).drop 1).take 1) (by kernel_rfl) (by kernel_rfl) (by kernel_rfl) (fun w hm => (((hm.exRowW w0_fPins_h w0_fPins_ha).at hx_62).sub 1 1)) (jkO ?_))
          refine jo_f [(0, 2), (0, 2), (0, 2), (0, 4)] (by kernel_rfl) ?_
          refine jo_end (by kernel_rfl) ?_
          exact jx_meet ((w64 x_8.fTrack) == track2) h (by kernel_rfl) [0] (by kernel_rfl) (by kernel_rfl)
        · replace h := ifF hc_61 h
          refine jo_f [(0, 3), (0, 3), (0, 3), (0, 3), (0, 3), (0, 3), (0, 5)] (by kernel_rfl) ?_
          refine jo_end (by kernel_rfl) ?_
          exact jx_meet false h (by kernel_rfl) [0] (by kernel_rfl) (by kernel_rfl)
      · rintro q_5 h
        replace h : spec_l06Find.k_6 i_2 q_5 = some y_52 := h
        rw [spec_l06Find.k_6] at h
        refine jx_then ?_
        refine jc_cond q_5 (by kernel_rfl) (fun hc_58 => ?_) (fun hc_58 => ?_)
        · replace h := ifT hc_58 h
          refine jc_seq ?_
          refine jc_region ?_
          refine jo_f [(0, 0), (0, 0)] (by kernel_rfl) ?_
          refine jo_end (by kernel_rfl) ?_
          refine jx_then ?_
          refine jc_ret ?_
          refine jx_inr ?_
          refine jx_thenr ?_
          refine jx_leaver (.inl i_2) (Option.some.inj h).symm (fun e_59 => ?_)
          subst e_59
          refine jx_inr ?_
          refine jx_thenr ?_
          refine jx_thenr ?_
          obtain rfl := Option.some.inj hr_51
          exact jx_ret [] (.int .i64 i_2) [] rfl (by kernel_rfl) (by kernel_rfl) (fun w hm => ⟨rfl, hm.pick [0] (by kernel_rfl) (by kernel_rfl)⟩)
        · replace h := ifF hc_58 h
          refine jc_skip ?_
          refine jx_inn ?_
          refine jx_then ?_
          refine jc_region ?_
          refine jo_f [(0, 0), (0, 0), (0, 0)] (by kernel_rfl) ?_
          refine jo_end (by kernel_rfl) ?_
          exact jx_back (w64 (i_2 + 1)) () (Option.some.inj h).symm trivial [0] (by kernel_rfl) (by kernel_rfl) (by kernel_rfl)
    · replace h := ifF hc_54 h
      refine jc_exit ?_
      refine jx_thenx ?_
      refine jx_leave (.inr ()) (Option.some.inj h).symm (fun e_63 => ?_)
      subst e_63
      refine jx_ine ?_
      exact jx_meet () hr_51 (by kernel_rfl) [0] (by kernel_rfl) (by kernel_rfl)
  · rintro _ h
    replace h : spec_l06Find.k_1 = some r := h
    rw [spec_l06Find.k_1] at h
    refine jx_then ?_
    refine jc_seq ?_
    refine jc_region ?_
    refine jo_f [(0, 0)] (by kernel_rfl) ?_
    refine jo_end (by kernel_rfl) ?_
    refine jx_then ?_
    refine jc_ret ?_
    obtain rfl := Option.some.inj h
    exact jx_ret [] (.int .i64 (-1)) [] rfl (by kernel_rfl) (by kernel_rfl) (fun w hm => ⟨rfl, hm.pick [0] (by kernel_rfl) (by kernel_rfl)⟩)

/-! ### spec.l06Put -/
noncomputable def spec_l06Put.k_2 (pins0 : List GWornPin) (x1 : GWornPin) (i_1 : Int) : Option ((List GWornPin)) := (if 0 ≤ i_1 ∧ i_1 ≤ (pins0.length : Int) then (if [x1].length + (pins0.drop i_1.toNat).length ≤ 4294967296 then (if 0 ≤ i_1 ∧ i_1 ≤ (pins0.length : Int) then (if ([] : List GWornPin).length + (pins0.take i_1.toNat).length ≤ 4294967296 then (if (([] : List GWornPin) ++ (pins0.take i_1.toNat)).length + ([x1] ++ (pins0.drop i_1.toNat)).length ≤ 4294967296 then some ((([] : List GWornPin) ++ (pins0.take i_1.toNat)) ++ ([x1] ++ (pins0.drop i_1.toNat))) else none) else none) else none) else none) else none)
noncomputable def spec_l06Put.l_4 (pins0 : List GWornPin) (x1 : GWornPin) : Int → Option ((Int) ⊕ (Int))
  | i_3 => (if (decide (i_3 < (pins0.length : Int))) = true then (ix pins0 i_3).bind fun x_6 => (spec_l06Before x_6 x1).bind fun t_7 => (if t_7 = true then some (.inl (w64 (i_3 + 1))) else some (.inr i_3)) else some (.inr i_3))
noncomputable def spec_l06Put (pins0 : List GWornPin) (x1 : GWornPin) : Option ((List GWornPin)) := (loop (spec_l06Put.l_4 pins0 x1) 0).bind fun t_5 => spec_l06Put.k_2 pins0 x1 t_5
set_option maxRecDepth 100000 in
theorem spec_l06Put.calls (pins0 : List GWornPin) (x1 : GWornPin) (w : World) (r : (List GWornPin)) (pins0_o : Option Nat) (pins0_on : Nat) (pins0_c : Nat) (pins0_sp : List Value) (pins0_hn : pins0.length = pins0_on) (pins0_hs : pins0_o ≠ none → pins0_on ≤ pins0_c ∧ pins0_sp.length = (pins0_c - pins0_on) * 3) (pins0_ho : pins0_o = none → pins0 = [] ∧ pins0_c = 0) (hm0 : Mem w (bs [pins0_o]) [⟨pins0_o, 75, row encGWornPin pins0 pins0_sp⟩] w) (h : spec_l06Put pins0 x1 = some r) :
    Calls Tryz.prog 143 #[(.slice (pins0_o.map fun b => ⟨b, 0, none⟩) pins0_on pins0_c), (.agg #[(.int .i8 x1.fStep), (.int .i8 x1.fTrack), (.int .i64 x1.fTurns)])] w fun e w' => ∃ v, e = .returned v ∧ (∃ (o0 : Option Nat) (c0 : Nat) (s0 : List Value) (n0 : Nat), r.length = n0 ∧ (o0 ≠ none → n0 ≤ c0 ∧ s0.length = (c0 - n0) * 3) ∧ (o0 = none → r = [] ∧ c0 = 0) ∧ v = .slice (o0.map fun b => ⟨b, 0, none⟩) n0 c0 ∧ Mem w (bs [pins0_o]) [⟨pins0_o, 75, row encGWornPin pins0 pins0_sp⟩, ⟨o0, 75, row encGWornPin r s0⟩] w') := by
  subst pins0_hn
  rw [spec_l06Put] at h
  refine enter (args := [(.slice (pins0_o.map fun b => ⟨b, 0, none⟩) pins0.length pins0_c), (.agg #[(.int .i8 x1.fStep), (.int .i8 x1.fTrack), (.int .i64 x1.fTurns)])]) Tryz.func143 rfl Tryz.ntmps143 (by kernel_rfl) (L := [⟨pins0_o, 75, row encGWornPin pins0 pins0_sp⟩]) (W := bs [pins0_o]) hm0 ?_
  refine jc_seq ?_
  refine jc_region ?_
  refine toO (by kernel_rfl) (p_a 0 [0] (by kernel_rfl) (fun b => by kernel_rfl) (fun b_1 => jkO ?_))
  refine jo_f [(0, 0)] (by kernel_rfl) ?_
  refine jo_end (by kernel_rfl) ?_
  refine jx_then ?_
  refine jc_seq ?_
  refine jc_region ?_
  refine jo_f [(0, 0)] (by kernel_rfl) ?_
  refine jo_end (by kernel_rfl) ?_
  refine jx_then ?_
  refine jc_seq ?_
  refine jc_meet (fun (j : Int) => match j with | i_1 => spec_l06Put.k_2 pins0 x1 i_1 = some r) (fun (j : Int) => match j with | i_1 => [(0, [], (.slice (pins0_o.map fun b => ⟨b, 0, none⟩) pins0.length pins0_c)), (3, [], (.pointer (some ⟨b_1, 0, none⟩))), (4, [], (.slice none 0 0)), (5, [], (.int .i64 i_1))]) (fun (j : Int) => match j with | i_1 => [⟨pins0_o, 75, row encGWornPin pins0 pins0_sp⟩, ⟨some b_1, 75, [(.int .i8 x1.fStep), (.int .i8 x1.fTrack), (.int .i64 x1.fTurns)]⟩]) ?_ ?_
  · refine jc_block ?_
    obtain ⟨t_5, ht_93, hr_79⟩ := bd h
    refine jc_loop (fun (s : Int) (x : Unit) => match s, x with | i_3, _ => True) (fun (s : Int) (x : Unit) => match s, x with | i_3, _ => [(0, [], (.slice (pins0_o.map fun b => ⟨b, 0, none⟩) pins0.length pins0_c)), (3, [], (.pointer (some ⟨b_1, 0, none⟩))), (4, [], (.slice none 0 0)), (5, [], (.int .i64 i_3))]) (fun (s : Int) (x : Unit) => match s, x with | i_3, _ => [⟨pins0_o, 75, row encGWornPin pins0 pins0_sp⟩, ⟨some b_1, 75, [(.int .i8 x1.fStep), (.int .i8 x1.fTrack), (.int .i64 x1.fTurns)]⟩]) ht_93 () trivial (by kernel_rfl) [0, 1] (by kernel_rfl) (by kernel_rfl) ?_
    rintro i_3 _ y_80 _ h
    rw [spec_l06Put.l_4] at h
    refine jc_seq ?_
    refine jc_seq ?_
    refine jc_draw [⟨pins0_o, 75, row encGWornPin pins0 pins0_sp⟩, ⟨some b_1, 75, [(.int .i8 x1.fStep), (.int .i8 x1.fTrack), (.int .i64 x1.fTurns)]⟩] 12 (by kernel_rfl) (by kernel_rfl) ?_
    refine jd_f [⟨0, 0, 0⟩, ⟨1, 0, 0⟩, ⟨2, 0, 0⟩, ⟨3, 0, 0⟩, ⟨4, 0, 0⟩, ⟨5, 0, 1⟩, ⟨6, 0, 1⟩, ⟨9, 1, 1⟩] 4 (by kernel_rfl) (by kernel_rfl) (fun w h => h.pick [0, 1] (by kernel_rfl) (by kernel_rfl)) (by kernel_rfl) (by kernel_rfl) ?_
    refine jd_split 11 (decide (i_3 < (pins0.length : Int))) (by kernel_rfl) (fun hc_86 => ?_) (fun hc_86 => ?_)
    · replace h := ifT hc_86 h
      obtain ⟨x_6, hx_87, h⟩ := bd h
      refine jd_v 7 2 (by kernel_rfl) (fun w h => h.pick [0, 1] (by kernel_rfl) (by kernel_rfl)) (by kernel_rfl) (by kernel_rfl) _ (fun w hm => idx_run (a := (pins0_o.map fun b => ⟨b, 0, none⟩)) (len := pins0.length) (s := 3) (j := i_3) (by kernel_rfl) (ix_some hx_87).1 (ltn hx_87 rfl) (spo pins0_ho hx_87)) ?_
      refine jd_v 8 2 (by kernel_rfl) (fun w h => h.pick [0, 1] (by kernel_rfl) (by kernel_rfl)) (by kernel_rfl) (by kernel_rfl) _ (fun w hm => ld_run (b := aB (pins0_o.map fun b => ⟨b, 0, none⟩)) (off := (aO (pins0_o.map fun b => ⟨b, 0, none⟩) + i_3.toNat * 3)) (s := 3) (agg := true) (vs := (encGWornPin x_6)) (by kernel_rfl) (by kernel_rfl) (.inl rfl) ((hm.ownRow (hh := 0) (o := pins0_o) (T := 75) (enc := encGWornPin) (xs := pins0) (sp := pins0_sp) (by kernel_rfl) (fun e => (pins0_ho e).1) encGWornPin_len).at hx_87)) ?_
      obtain ⟨t_7, ht_88, h⟩ := bd h
      refine toD 10 (by kernel_rfl) (p_call 2 108 #[(.agg #[(.int .i8 x_6.fStep), (.int .i8 x_6.fTrack), (.int .i64 x_6.fTurns)]), (.agg #[(.int .i8 x1.fStep), (.int .i8 x1.fTrack), (.int .i64 x1.fTurns)])] (by kernel_rfl) (by kernel_rfl) (fun w hm => spec_l06Before.calls x_6 x1 w _ ht_88) ?_)
      rintro w v w' hm ⟨rfl, hm'⟩
      refine ⟨_, hm.app hm', jkD (fun w h => h.pick [0, 1] (by kernel_rfl) (by kernel_rfl)) ?_⟩
      clear hm hm'
      refine jd_f [⟨11, 0, 4⟩] 0 (by kernel_rfl) (by kernel_rfl) (fun w h => h.pick [0, 1] (by kernel_rfl) (by kernel_rfl)) (by kernel_rfl) (by kernel_rfl) ?_
      refine jd_end (by kernel_rfl) ?_
      refine jx_then ?_
      refine jc_cond t_7 (by kernel_rfl) (fun hc_89 => ?_) (fun hc_89 => ?_)
      · replace h := ifT hc_89 h
        refine jc_skip ?_
        refine jx_then ?_
        refine jc_block ?_
        refine jc_region ?_
        refine jo_f [(0, 0), (0, 0), (0, 0)] (by kernel_rfl) ?_
        refine jo_end (by kernel_rfl) ?_
        refine jx_inn ?_
        exact jx_back (w64 (i_3 + 1)) () (Option.some.inj h).symm trivial [0, 1] (by kernel_rfl) (by kernel_rfl) (by kernel_rfl)
      · replace h := ifF hc_89 h
        refine jc_exit ?_
        refine jx_thenx ?_
        refine jx_leave i_3 (Option.some.inj h).symm (fun e_90 => ?_)
        subst e_90
        refine jx_ine ?_
        exact jx_meet i_3 hr_79 (by kernel_rfl) [0, 1] (by kernel_rfl) (by kernel_rfl)
    · replace h := ifF hc_86 h
      refine jd_f [⟨7, 0, 3⟩, ⟨8, 0, 3⟩, ⟨10, 0, 3⟩, ⟨11, 0, 5⟩] 0 (by kernel_rfl) (by kernel_rfl) (fun w h => h.pick [0, 1] (by kernel_rfl) (by kernel_rfl)) (by kernel_rfl) (by kernel_rfl) ?_
      refine jd_end (by kernel_rfl) ?_
      refine jx_then ?_
      refine jc_cond false (by kernel_rfl) (fun hc_91 => nomatch hc_91) (fun hc_91 => ?_)
      refine jc_exit ?_
      refine jx_thenx ?_
      refine jx_leave i_3 (Option.some.inj h).symm (fun e_92 => ?_)
      subst e_92
      refine jx_ine ?_
      exact jx_meet i_3 hr_79 (by kernel_rfl) [0, 1] (by kernel_rfl) (by kernel_rfl)
  · rintro i_1 h
    replace h : spec_l06Put.k_2 pins0 x1 i_1 = some r := h
    rw [spec_l06Put.k_2] at h
    refine jx_then ?_
    refine jc_seq ?_
    refine jc_draw [⟨pins0_o, 75, row encGWornPin pins0 pins0_sp⟩, ⟨some b_1, 75, [(.int .i8 x1.fStep), (.int .i8 x1.fTrack), (.int .i64 x1.fTurns)]⟩] 7 (by kernel_rfl) (by kernel_rfl) ?_
    refine jd_f [⟨0, 1, 0⟩, ⟨2, 0, 0⟩, ⟨3, 0, 0⟩] 4 (by kernel_rfl) (by kernel_rfl) (fun w h => h.pick [0, 1] (by kernel_rfl) (by kernel_rfl)) (by kernel_rfl) (by kernel_rfl) ?_
    obtain ⟨hg_37, h⟩ := gd h
    refine jd_v 4 0 (by kernel_rfl) (fun w h => h.pick [0, 1] (by kernel_rfl) (by kernel_rfl)) (by kernel_rfl) (by kernel_rfl) _ (fun w hm => slL_run (a := (pins0_o.map fun b => ⟨b, 0, none⟩)) (len := pins0.length) (cap := pins0_c) (size := 3) (l := i_1) (by kernel_rfl) hg_37.1 (Int.le_trans hg_37.2 (Int.ofNat_le.2 (Nat.le_of_eq rfl)))) ?_
    refine toD 1 (by kernel_rfl) (p_a 0 [0] (by kernel_rfl) (fun b => by kernel_rfl) (fun b_38 => jkD (fun w h => h.pick [0, 1] (by kernel_rfl) (by kernel_rfl)) ?_))
    obtain ⟨hg_39, h⟩ := gd h
    refine toD 5 (by kernel_rfl) (p_apn 0 2 (some b_38) 75 1 (pins0.length - i_1.toNat) 1 3 16 (pa (pins0_o.map fun b => ⟨b, 0, none⟩) i_1.toNat pins0_c 3) encGWornPin [x1] (pins0.drop i_1.toNat) [] (.agg #[(.int .i8 0), (.int .i8 0), (.int .i64 0)]) rfl (tl_len rfl i_1) (by kernel_rfl) (by kernel_rfl) (by kernel_rfl) encGWornPin_len encGWornPin_cell (fun _ => ⟨Nat.le_refl _, by simp⟩) (fun e => nomatch e) (fun w hm => ((hm.ownRow (hh := 0) (o := pins0_o) (T := 75) (enc := encGWornPin) (xs := pins0) (sp := pins0_sp) (by kernel_rfl) (fun e => (pins0_ho e).1) encGWornPin_len).tl i_1.toNat pins0_c (cap_le rfl pins0_hs pins0_ho))) hg_39 (by kernel_rfl) (by kernel_rfl) (fun o_40 cap_41 sp_42 hs_43 ho_44 => jkD (fun w h => h.pick [0, 1] (by kernel_rfl) (by kernel_rfl)) ?_))
    refine jd_f [⟨6, 0, 0⟩] 0 (by kernel_rfl) (by kernel_rfl) (fun w h => h.pick [0, 1] (by kernel_rfl) (by kernel_rfl)) (by kernel_rfl) (by kernel_rfl) ?_
    refine jd_end (by kernel_rfl) ?_
    refine jx_then ?_
    refine jc_seq ?_
    refine jc_region ?_
    refine toO (by kernel_rfl) (p_a 0 [0] (by kernel_rfl) (fun b => by kernel_rfl) (fun b_45 => jkO ?_))
    refine jo_f [(0, 0), (0, 0)] (by kernel_rfl) ?_
    obtain ⟨hg_46, h⟩ := gd h
    refine toO (by kernel_rfl) (p_slH 0 (pins0_o.map fun b => ⟨b, 0, none⟩) pins0.length pins0_c 3 i_1 (by kernel_rfl) (by kernel_rfl) hg_46.1 (Int.le_trans hg_46.2 (Int.ofNat_le.2 (cap_le rfl pins0_hs pins0_ho))) (jkO ?_))
    obtain ⟨hg_47, h⟩ := gd h
    refine toO (by kernel_rfl) (p_apn 0 3 (some b_45) 75 0 i_1.toNat 0 3 16 (pins0_o.map fun b => ⟨b, 0, none⟩) encGWornPin ([] : List GWornPin) (pins0.take i_1.toNat) [] (.agg #[(.int .i8 0), (.int .i8 0), (.int .i64 0)]) rfl (hd_len hg_46) (by kernel_rfl) (by kernel_rfl) (by kernel_rfl) encGWornPin_len encGWornPin_cell (fun _ => ⟨Nat.le_refl _, by simp⟩) (fun e => nomatch e) (fun w hm => ((hm.ownRow (hh := 0) (o := pins0_o) (T := 75) (enc := encGWornPin) (xs := pins0) (sp := pins0_sp) (by kernel_rfl) (fun e => (pins0_ho e).1) encGWornPin_len).hd i_1.toNat)) hg_47 (by kernel_rfl) (by kernel_rfl) (fun o_48 cap_49 sp_50 hs_51 ho_52 => jkO ?_))
    refine jo_f [(0, 0)] (by kernel_rfl) ?_
    obtain ⟨hg_53, h⟩ := gd h
    refine toO (by kernel_rfl) (p_apn 0 3 o_48 75 ((([] : List GWornPin) ++ (pins0.take i_1.toNat)).length) (([x1] ++ (pins0.drop i_1.toNat)).length) cap_49 3 16 (o_40.map fun b => ⟨b, 0, none⟩) encGWornPin (([] : List GWornPin) ++ (pins0.take i_1.toNat)) ([x1] ++ (pins0.drop i_1.toNat)) sp_50 (.agg #[(.int .i8 0), (.int .i8 0), (.int .i64 0)]) rfl rfl (by kernel_rfl) (by kernel_rfl) (by kernel_rfl) encGWornPin_len encGWornPin_cell hs_51 ho_52 (fun w hm => (hm.ownRow (hh := 2) (o := o_40) (T := 75) (enc := encGWornPin) (xs := ([x1] ++ (pins0.drop i_1.toNat))) (sp := sp_42) (by kernel_rfl) (fun e => (ho_44 e).1) encGWornPin_len)) hg_53 (by kernel_rfl) (by kernel_rfl) (fun o_54 cap_55 sp_56 hs_57 ho_58 => jkO ?_))
    refine jo_f [(0, 0)] (by kernel_rfl) ?_
    refine jo_end (by kernel_rfl) ?_
    refine jx_then ?_
    refine jc_ret ?_
    obtain rfl := Option.some.inj h
    exact jx_ret [] (.slice (o_54.map fun b => ⟨b, 0, none⟩) (((([] : List GWornPin) ++ (pins0.take i_1.toNat)) ++ ([x1] ++ (pins0.drop i_1.toNat))).length) cap_55) [] rfl (by kernel_rfl) (by kernel_rfl) (fun w hm => ⟨o_54, cap_55, sp_56, (((([] : List GWornPin) ++ (pins0.take i_1.toNat)) ++ ([x1] ++ (pins0.drop i_1.toNat))).length), rfl, hs_57, ho_58, rfl, hm.pick [0, 3] (by kernel_rfl) (by kernel_rfl)⟩)

/-! ### spec.NewPin -/
noncomputable def spec_NewPin (f0 : GFrame) (w1 : GWear) (step2 : Int) (track3 : Int) : Option (GWear × Int) := (spec_l06Ok f0 w1).bind fun t_1 => (if (!t_1) = true then some ((⟨[], []⟩ : GWear), 1) else (spec_l06Place f0 step2 track3).bind fun t_2 => (if (!t_2) = true then some ((⟨[], []⟩ : GWear), 2) else (spec_l06Copy w1).bind fun t_3 => (spec_l06Find w1 step2 track3).bind fun t_4 => (if (decide (t_4 ≥ 0)) = true then (ix t_3.fPins t_4).bind fun x_5 => some ((⟨(t_3.fPins.set t_4.toNat (⟨x_5.fStep, x_5.fTrack, 0⟩ : GWornPin)), t_3.fStrokes⟩ : GWear), 0) else (spec_l06Put t_3.fPins (⟨(w8 step2), (w8 track3), 0⟩ : GWornPin)).bind fun t_6 => some ((⟨t_6, t_3.fStrokes⟩ : GWear), 0))))
set_option maxRecDepth 100000 in
theorem spec_NewPin.calls (f0 : GFrame) (w1 : GWear) (step2 : Int) (track3 : Int) (w : World) (r : GWear × Int) (f0_fHammers_a : Option Addr) (f0_fHammers_an : Nat) (f0_fHammers_c : Nat) (f0_fHammers_h : Rw w f0_fHammers_a 2 encGHammer f0.fHammers) (f0_fHammers_hn : f0.fHammers.length = f0_fHammers_an) (w1_fPins_a : Option Addr) (w1_fPins_an : Nat) (w1_fPins_c : Nat) (w1_fPins_h : Rw w w1_fPins_a 3 encGWornPin w1.fPins) (w1_fPins_hn : w1.fPins.length = w1_fPins_an) (w1_fStrokes_a : Option Addr) (w1_fStrokes_an : Nat) (w1_fStrokes_c : Nat) (w1_fStrokes_h : Rw w w1_fStrokes_a 1 encI64 w1.fStrokes) (w1_fStrokes_hn : w1.fStrokes.length = w1_fStrokes_an) (h : spec_NewPin f0 w1 step2 track3 = some r) :
    Calls Tryz.prog 120 #[(.agg #[(.int .i16 f0.fSteps), (.slice f0_fHammers_a f0_fHammers_an f0_fHammers_c)]), (.agg #[(.slice w1_fPins_a w1_fPins_an w1_fPins_c), (.slice w1_fStrokes_a w1_fStrokes_an w1_fStrokes_c)]), (.int .i64 step2), (.int .i64 track3)] w fun e w' => ∃ v, e = .returned v ∧ (∃ (o0 : Option Nat) (c0 : Nat) (s0 : List Value) (n0 : Nat), r.1.fPins.length = n0 ∧ (o0 ≠ none → n0 ≤ c0 ∧ s0.length = (c0 - n0) * 3) ∧ (o0 = none → r.1.fPins = [] ∧ c0 = 0) ∧ ∃ (o1 : Option Nat) (c1 : Nat) (s1 : List Value) (n1 : Nat), r.1.fStrokes.length = n1 ∧ (o1 ≠ none → n1 ≤ c1 ∧ s1.length = (c1 - n1) * 1) ∧ (o1 = none → r.1.fStrokes = [] ∧ c1 = 0) ∧ v = .tuple #[.agg #[.slice (o0.map fun b => ⟨b, 0, none⟩) n0 c0, .slice (o1.map fun b => ⟨b, 0, none⟩) n1 c1], (.int .i64 r.2)] ∧ Mem w [] [⟨o0, 75, row encGWornPin r.1.fPins s0⟩, ⟨o1, 2, row encI64 r.1.fStrokes s1⟩] w') := by
  subst f0_fHammers_hn w1_fPins_hn w1_fStrokes_hn
  rw [spec_NewPin] at h
  refine enter (args := [(.agg #[(.int .i16 f0.fSteps), (.slice f0_fHammers_a f0.fHammers.length f0_fHammers_c)]), (.agg #[(.slice w1_fPins_a w1.fPins.length w1_fPins_c), (.slice w1_fStrokes_a w1.fStrokes.length w1_fStrokes_c)]), (.int .i64 step2), (.int .i64 track3)]) Tryz.func120 rfl Tryz.ntmps120 (by kernel_rfl) (L := []) (W := []) (Mem.start w) ?_
  refine jc_seq ?_
  refine jc_region ?_
  refine toO (by kernel_rfl) (p_a 0 [0] (by kernel_rfl) (fun b => by kernel_rfl) (fun b_1 => jkO ?_))
  refine toO (by kernel_rfl) (p_a 0 [0] (by kernel_rfl) (fun b => by kernel_rfl) (fun b_2 => jkO ?_))
  refine toO (by kernel_rfl) (p_a 0 [0] (by kernel_rfl) (fun b => by kernel_rfl) (fun b_3 => jkO ?_))
  refine jo_f [(0, 0)] (by kernel_rfl) ?_
  refine jo_end (by kernel_rfl) ?_
  refine jx_then ?_
  refine jc_seq ?_
  refine jc_seq ?_
  refine jc_region ?_
  obtain ⟨t_1, ht_6, h⟩ := bd h
  refine toO (by kernel_rfl) (p_call 0 75 #[(.pointer (some ⟨b_1, 0, none⟩)), (.pointer (some ⟨b_2, 0, none⟩))] (by kernel_rfl) (by kernel_rfl) (fun w hm => spec_l06Ok.calls f0 w1 w _ f0_fHammers_a f0.fHammers.length f0_fHammers_c (hm.exRow f0_fHammers_h List.not_mem_nil) rfl w1_fPins_a w1.fPins.length w1_fPins_c (hm.exRow w1_fPins_h List.not_mem_nil) rfl w1_fStrokes_a w1.fStrokes.length w1_fStrokes_c (hm.exRow w1_fStrokes_h List.not_mem_nil) rfl b_1 b_2 (hm.pass (N := [⟨some b_1, 43, [(.int .i16 f0.fSteps), (.slice f0_fHammers_a f0.fHammers.length f0_fHammers_c)]⟩, ⟨some b_2, 38, [(.slice w1_fPins_a w1.fPins.length w1_fPins_c), (.slice w1_fStrokes_a w1.fStrokes.length w1_fStrokes_c)]⟩]) [0, 1] (by kernel_rfl) (by kernel_rfl)) (hm.exApart (N := [⟨some b_1, 43, [(.int .i16 f0.fSteps), (.slice f0_fHammers_a f0.fHammers.length f0_fHammers_c)]⟩, ⟨some b_2, 38, [(.slice w1_fPins_a w1.fPins.length w1_fPins_c), (.slice w1_fStrokes_a w1.fStrokes.length w1_fStrokes_c)]⟩]) f0_fHammers_h (fun _ => List.not_mem_nil) [0, 1] (by kernel_rfl)) (hm.exApart (N := [⟨some b_1, 43, [(.int .i16 f0.fSteps), (.slice f0_fHammers_a f0.fHammers.length f0_fHammers_c)]⟩, ⟨some b_2, 38, [(.slice w1_fPins_a w1.fPins.length w1_fPins_c), (.slice w1_fStrokes_a w1.fStrokes.length w1_fStrokes_c)]⟩]) w1_fPins_h (fun _ => List.not_mem_nil) [0, 1] (by kernel_rfl)) (hm.exApart (N := [⟨some b_1, 43, [(.int .i16 f0.fSteps), (.slice f0_fHammers_a f0.fHammers.length f0_fHammers_c)]⟩, ⟨some b_2, 38, [(.slice w1_fPins_a w1.fPins.length w1_fPins_c), (.slice w1_fStrokes_a w1.fStrokes.length w1_fStrokes_c)]⟩]) w1_fStrokes_h (fun _ => List.not_mem_nil) [0, 1] (by kernel_rfl)) ht_6) ?_)
  rintro w v w' hm ⟨rfl, hm'⟩
  refine ⟨_, hm.appW (ps := [(0, ⟨some b_1, 43, [(.int .i16 f0.fSteps), (.slice f0_fHammers_a f0.fHammers.length f0_fHammers_c)]⟩), (1, ⟨some b_2, 38, [(.slice w1_fPins_a w1.fPins.length w1_fPins_c), (.slice w1_fStrokes_a w1.fStrokes.length w1_fStrokes_c)]⟩)]) (N := []) hm' (by kernel_rfl) (by kernel_rfl), jkO ?_⟩
  clear hm hm'
  refine jo_f [(0, 0)] (by kernel_rfl) ?_
  refine jo_end (by kernel_rfl) ?_
  refine jx_then ?_
  refine jc_cond (!t_1) (by kernel_rfl) (fun hc_7 => ?_) (fun hc_7 => ?_)
  · replace h := ifT hc_7 h
    refine jc_seq ?_
    refine jc_region ?_
    refine jo_f [(0, 0)] (by kernel_rfl) ?_
    refine toO (by kernel_rfl) (p_s 0 [2] (by kernel_rfl) (by kernel_rfl) (jkO ?_))
    refine jo_f [(0, 0)] (by kernel_rfl) ?_
    refine jo_end (by kernel_rfl) ?_
    refine jx_then ?_
    refine jc_ret ?_
    refine jx_thenr ?_
    obtain rfl := Option.some.inj h
    refine jx_ghost 75 encGWornPin ?_
    refine jx_ghost 2 encI64 ?_
    exact jx_ret [2] (.tuple #[(.agg #[(.slice none 0 0), (.slice none 0 0)]), (.int .i64 1)]) [(b_3, b_3), (b_3, b_3)] rfl (by kernel_rfl) (by kernel_rfl) (fun w hm => ⟨none, 0, [], 0, rfl, (fun e => absurd rfl e), (fun _ => ⟨rfl, rfl⟩), none, 0, [], 0, rfl, (fun e => absurd rfl e), (fun _ => ⟨rfl, rfl⟩), rfl, hm.pick [3, 4] (by kernel_rfl) (by kernel_rfl)⟩)
  · replace h := ifF hc_7 h
    refine jc_skip ?_
    refine jx_then ?_
    refine jc_seq ?_
    refine jc_seq ?_
    refine jc_region ?_
    refine jo_f [(0, 0), (0, 0)] (by kernel_rfl) ?_
    obtain ⟨t_2, ht_10, h⟩ := bd h
    refine toO (by kernel_rfl) (p_call 0 107 #[(.pointer (some ⟨b_1, 0, none⟩)), (.int .i64 step2), (.int .i64 track3)] (by kernel_rfl) (by kernel_rfl) (fun w hm => spec_l06Place.calls f0 step2 track3 w _ f0_fHammers_a f0.fHammers.length f0_fHammers_c (hm.exRow f0_fHammers_h List.not_mem_nil) rfl b_1 (hm.pass (N := [⟨some b_1, 43, [(.int .i16 f0.fSteps), (.slice f0_fHammers_a f0.fHammers.length f0_fHammers_c)]⟩]) [0] (by kernel_rfl) (by kernel_rfl)) (hm.exApart (N := [⟨some b_1, 43, [(.int .i16 f0.fSteps), (.slice f0_fHammers_a f0.fHammers.length f0_fHammers_c)]⟩]) f0_fHammers_h (fun _ => List.not_mem_nil) [0] (by kernel_rfl)) ht_10) ?_)
    rintro w v w' hm ⟨rfl, hm'⟩
    refine ⟨_, hm.appW (ps := [(0, ⟨some b_1, 43, [(.int .i16 f0.fSteps), (.slice f0_fHammers_a f0.fHammers.length f0_fHammers_c)]⟩)]) (N := []) hm' (by kernel_rfl) (by kernel_rfl), jkO ?_⟩
    clear hm hm'
    refine jo_f [(0, 0)] (by kernel_rfl) ?_
    refine jo_end (by kernel_rfl) ?_
    refine jx_then ?_
    refine jc_cond (!t_2) (by kernel_rfl) (fun hc_11 => ?_) (fun hc_11 => ?_)
    · replace h := ifT hc_11 h
      refine jc_seq ?_
      refine jc_region ?_
      refine jo_f [(0, 0)] (by kernel_rfl) ?_
      refine toO (by kernel_rfl) (p_s 0 [2] (by kernel_rfl) (by kernel_rfl) (jkO ?_))
      refine jo_f [(0, 0)] (by kernel_rfl) ?_
      refine jo_end (by kernel_rfl) ?_
      refine jx_then ?_
      refine jc_ret ?_
      refine jx_thenr ?_
      obtain rfl := Option.some.inj h
      refine jx_ghost 75 encGWornPin ?_
      refine jx_ghost 2 encI64 ?_
      exact jx_ret [2] (.tuple #[(.agg #[(.slice none 0 0), (.slice none 0 0)]), (.int .i64 2)]) [(b_3, b_3), (b_3, b_3)] rfl (by kernel_rfl) (by kernel_rfl) (fun w hm => ⟨none, 0, [], 0, rfl, (fun e => absurd rfl e), (fun _ => ⟨rfl, rfl⟩), none, 0, [], 0, rfl, (fun e => absurd rfl e), (fun _ => ⟨rfl, rfl⟩), rfl, hm.pick [3, 4] (by kernel_rfl) (by kernel_rfl)⟩)
    · replace h := ifF hc_11 h
      refine jc_skip ?_
      refine jx_then ?_
      refine jc_seq ?_
      refine jc_region ?_
      obtain ⟨t_3, ht_12, h⟩ := bd h
      refine toO (by kernel_rfl) (p_call 0 85 #[(.pointer (some ⟨b_2, 0, none⟩))] (by kernel_rfl) (by kernel_rfl) (fun w hm => spec_l06Copy.calls w1 w _ w1_fPins_a w1.fPins.length w1_fPins_c (hm.exRow w1_fPins_h List.not_mem_nil) rfl w1_fStrokes_a w1.fStrokes.length w1_fStrokes_c (hm.exRow w1_fStrokes_h List.not_mem_nil) rfl b_2 (hm.pass (N := [⟨some b_2, 38, [(.slice w1_fPins_a w1.fPins.length w1_fPins_c), (.slice w1_fStrokes_a w1.fStrokes.length w1_fStrokes_c)]⟩]) [1] (by kernel_rfl) (by kernel_rfl)) (hm.exApart (N := [⟨some b_2, 38, [(.slice w1_fPins_a w1.fPins.length w1_fPins_c), (.slice w1_fStrokes_a w1.fStrokes.length w1_fStrokes_c)]⟩]) w1_fPins_h (fun _ => List.not_mem_nil) [1] (by kernel_rfl)) (hm.exApart (N := [⟨some b_2, 38, [(.slice w1_fPins_a w1.fPins.length w1_fPins_c), (.slice w1_fStrokes_a w1.fStrokes.length w1_fStrokes_c)]⟩]) w1_fStrokes_h (fun _ => List.not_mem_nil) [1] (by kernel_rfl)) ht_12) ?_)
      rintro w v w' hm ⟨o_13, cap_14, sp_15, _, rfl, hs_16, ho_17, o_18, cap_19, sp_20, _, rfl, hs_21, ho_22, rfl, hm'⟩
      refine ⟨_, hm.appW (ps := [(1, ⟨some b_2, 38, [(.slice w1_fPins_a w1.fPins.length w1_fPins_c), (.slice w1_fStrokes_a w1.fStrokes.length w1_fStrokes_c)]⟩)]) (N := [⟨o_13, 75, row encGWornPin t_3.fPins sp_15⟩, ⟨o_18, 2, row encI64 t_3.fStrokes sp_20⟩]) hm' (by kernel_rfl) (by kernel_rfl), jkO ?_⟩
      clear hm hm'
      refine toO (by kernel_rfl) (p_a 0 [0] (by kernel_rfl) (fun b => by kernel_rfl) (fun b_23 => jkO ?_))
      refine toO (by kernel_rfl) (p_s 0 [5] (by kernel_rfl) (by kernel_rfl) (jkO ?_))
      refine jo_end (by kernel_rfl) ?_
      refine jx_then ?_
      refine jc_seq ?_
      refine jc_seq ?_
      refine jc_region ?_
      refine jo_f [(0, 0), (0, 0)] (by kernel_rfl) ?_
      obtain ⟨t_4, ht_27, h⟩ := bd h
      refine toO (by kernel_rfl) (p_call 0 142 #[(.pointer (some ⟨b_2, 0, none⟩)), (.int .i64 step2), (.int .i64 track3)] (by kernel_rfl) (by kernel_rfl) (fun w hm => spec_l06Find.calls w1 step2 track3 w _ w1_fPins_a w1.fPins.length w1_fPins_c (hm.exRow w1_fPins_h List.not_mem_nil) rfl w1_fStrokes_a w1.fStrokes.length w1_fStrokes_c (hm.exRow w1_fStrokes_h List.not_mem_nil) rfl b_2 (hm.pass (N := [⟨some b_2, 38, [(.slice w1_fPins_a w1.fPins.length w1_fPins_c), (.slice w1_fStrokes_a w1.fStrokes.length w1_fStrokes_c)]⟩]) [1] (by kernel_rfl) (by kernel_rfl)) (hm.exApart (N := [⟨some b_2, 38, [(.slice w1_fPins_a w1.fPins.length w1_fPins_c), (.slice w1_fStrokes_a w1.fStrokes.length w1_fStrokes_c)]⟩]) w1_fPins_h (fun _ => List.not_mem_nil) [1] (by kernel_rfl)) (hm.exApart (N := [⟨some b_2, 38, [(.slice w1_fPins_a w1.fPins.length w1_fPins_c), (.slice w1_fStrokes_a w1.fStrokes.length w1_fStrokes_c)]⟩]) w1_fStrokes_h (fun _ => List.not_mem_nil) [1] (by kernel_rfl)) ht_27) ?_)
      rintro w v w' hm ⟨rfl, hm'⟩
      refine ⟨_, hm.appW (ps := [(1, ⟨some b_2, 38, [(.slice w1_fPins_a w1.fPins.length w1_fPins_c), (.slice w1_fStrokes_a w1.fStrokes.length w1_fStrokes_c)]⟩)]) (N := []) hm' (by kernel_rfl) (by kernel_rfl), jkO ?_⟩
      clear hm hm'
      refine jo_f [(0, 0)] (by kernel_rfl) ?_
      refine jo_end (by kernel_rfl) ?_
      refine jx_then ?_
      refine jc_seq ?_
      refine jc_region ?_
      refine jo_f [(0, 0), (0, 0)] (by kernel_rfl) ?_
      refine jo_end (by kernel_rfl) ?_
      refine jx_then ?_
      refine jc_cond (decide (t_4 ≥ 0)) (by kernel_rfl) (fun hc_28 => ?_) (fun hc_28 => ?_)
      · replace h := ifT hc_28 h
        refine jc_seq ?_
        refine jc_region ?_
        refine jo_f [(0, 0), (5, 0), (0, 0)] (by kernel_rfl) ?_
        obtain ⟨x_5, hx_29, h⟩ := bd h
        refine toO (by kernel_rfl) (p_idx 0 (o_13.map fun b => ⟨b, 0, none⟩) t_3.fPins.length t_4 3 (by kernel_rfl) (by kernel_rfl) (ix_some hx_29).1 (ltn hx_29 rfl) (spo ho_17 hx_29) (jkO ?_))
        refine jo_f [(0, 0)] (by kernel_rfl) ?_
        refine toO (by kernel_rfl) (p_strO 0 3 o_13 75 encGWornPin t_3.fPins sp_15 t_4 (⟨x_5.fStep, x_5.fTrack, 0⟩ : GWornPin) 3 2 [(.int .i64 0)] (by kernel_rfl) (by kernel_rfl) (by kernel_rfl) (fun e => (ho_17 e).1) encGWornPin_len hx_29 (by kernel_rfl) (by kernel_rfl) (jkO ?_))
        refine jo_end (by kernel_rfl) ?_
        refine jx_then ?_
        refine jc_seq ?_
        refine jc_region ?_
        refine jo_f [(5, 0)] (by kernel_rfl) ?_
        refine toO (by kernel_rfl) (p_s 0 [2] (by kernel_rfl) (by kernel_rfl) (jkO ?_))
        refine jo_f [(0, 0)] (by kernel_rfl) ?_
        refine jo_end (by kernel_rfl) ?_
        refine jx_then ?_
        refine jc_ret ?_
        refine jx_thenr ?_
        obtain rfl := Option.some.inj h
        exact jx_ret [2] (.tuple #[(.agg #[(.slice (o_13.map fun b => ⟨b, 0, none⟩) t_3.fPins.length cap_14), (.slice (o_18.map fun b => ⟨b, 0, none⟩) t_3.fStrokes.length cap_19)]), (.int .i64 0)]) [(b_3, b_3), (b_3, b_3)] rfl (by kernel_rfl) (by kernel_rfl) (fun w hm => ⟨o_13, cap_14, sp_15, t_3.fPins.length, (List.length_set.trans rfl), hs_16, (set_ho ho_17), o_18, cap_19, sp_20, t_3.fStrokes.length, rfl, hs_21, ho_22, rfl, hm.pick [3, 4] (by kernel_rfl) (by kernel_rfl)⟩)
      · replace h := ifF hc_28 h
        refine jc_skip ?_
        refine jx_then ?_
        refine jc_seq ?_
        refine jc_region ?_
        refine jo_f [(0, 0), (5, 0), (0, 0), (0, 0), (0, 0), (0, 0), (0, 0)] (by kernel_rfl) ?_
        obtain ⟨t_6, ht_30, h⟩ := bd h
        refine toO (by kernel_rfl) (p_call 0 143 #[(.slice (o_13.map fun b => ⟨b, 0, none⟩) t_3.fPins.length cap_14), (.agg #[(.int .i8 (w8 step2)), (.int .i8 (w8 track3)), (.int .i64 0)])] (by kernel_rfl) (by kernel_rfl) (fun w hm => spec_l06Put.calls t_3.fPins (⟨(w8 step2), (w8 track3), 0⟩ : GWornPin) w _ o_13 t_3.fPins.length cap_14 sp_15 rfl hs_16 ho_17 (hm.pass (N := [⟨o_13, 75, row encGWornPin t_3.fPins sp_15⟩]) [3] (by kernel_rfl) (by kernel_rfl)) ht_30) ?_)
        rintro w v w' hm ⟨o_31, cap_32, sp_33, _, rfl, hs_34, ho_35, rfl, hm'⟩
        refine ⟨_, hm.appW (ps := [(3, ⟨o_13, 75, row encGWornPin t_3.fPins sp_15⟩)]) (N := [⟨o_31, 75, row encGWornPin t_6 sp_33⟩]) hm' (by kernel_rfl) (by kernel_rfl), jkO ?_⟩
        clear hm hm'
        refine jo_f [(0, 0)] (by kernel_rfl) ?_
        refine toO (by kernel_rfl) (p_s 0 [5] (by kernel_rfl) (by kernel_rfl) (jkO ?_))
        refine jo_end (by kernel_rfl) ?_
        refine jx_then ?_
        refine jc_seq ?_
        refine jc_region ?_
        refine jo_f [(5, 0)] (by kernel_rfl) ?_
        refine toO (by kernel_rfl) (p_s 0 [2] (by kernel_rfl) (by kernel_rfl) (jkO ?_))
        refine jo_f [(0, 0)] (by kernel_rfl) ?_
        refine jo_end (by kernel_rfl) ?_
        refine jx_then ?_
        refine jc_ret ?_
        obtain rfl := Option.some.inj h
        exact jx_ret [2] (.tuple #[(.agg #[(.slice (o_31.map fun b => ⟨b, 0, none⟩) t_6.length cap_32), (.slice (o_18.map fun b => ⟨b, 0, none⟩) t_3.fStrokes.length cap_19)]), (.int .i64 0)]) [(b_3, b_3), (b_3, b_3)] rfl (by kernel_rfl) (by kernel_rfl) (fun w hm => ⟨o_31, cap_32, sp_33, t_6.length, rfl, hs_34, ho_35, o_18, cap_19, sp_20, t_3.fStrokes.length, rfl, hs_21, ho_22, rfl, hm.pick [6, 4] (by kernel_rfl) (by kernel_rfl)⟩)
end Go.Proofs.YtfkjghkjimcmdaaGreat
