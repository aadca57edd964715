/- Functions of the program that the laws reach: a plain function each, and that the call comes to its answer if the plain function has one. Printed by a program. -/
import Derived.Test.YtdnkjgmncfhejaaT
import Derived.Test.YtdnkjgmncfhejaaM0
import Derived.Test.YtdnkjgmncfhejaaM7
import Derived.Test.YtdnkjgmncfhejaaM8
import Derived.Test.YtdnkjgmncfhejaaM10
namespace Go.Proofs.Ytdnkjgmncfhejaa
open Eng
set_option linter.unusedVariables false

/-! ### laws.toLives -/
noncomputable def laws_toLives (a0 : GLives) : Option (GLives) := some a0
set_option maxRecDepth 100000 in
theorem laws_toLives.calls (a0 : GLives) (w : World) (r : GLives) (h : laws_toLives a0 = some r) :
    Calls Try.prog 56 #[(.agg #[(.int .i64 a0.fPin), (.int .i64 a0.fHammer)])] w fun e w' => ∃ v, e = .returned v ∧ (v = .agg #[(.int .i64 r.fPin), (.int .i64 r.fHammer)] ∧ Mem w [] [] w') := by
  rw [laws_toLives] at h
  refine enter (args := [(.agg #[(.int .i64 a0.fPin), (.int .i64 a0.fHammer)])]) Try.func56 rfl Try.ntmps56 (by kernel_rfl) (L := []) (W := []) (Mem.start w) ?_
  refine jc_seq ?_
  refine jc_region ?_
  refine toO (by kernel_rfl) (p_a 0 [0] (by kernel_rfl) (fun b => by kernel_rfl) (fun b_1 => jkO ?_))
  refine toO (by kernel_rfl) (p_a 0 [0] (by kernel_rfl) (fun b => by kernel_rfl) (fun b_2 => jkO ?_))
  refine jo_end (by kernel_rfl) ?_
  refine jx_then ?_
  refine jc_seq ?_
  refine jc_region ?_
  refine toO (by kernel_rfl) (p_a 0 [0] (by kernel_rfl) (fun b => by kernel_rfl) (fun b_3 => jkO ?_))
  refine jo_end (by kernel_rfl) ?_
  refine jx_then ?_
  refine jc_seq ?_
  refine jc_region ?_
  refine jo_f [(0, 0), (0, 0), (0, 0)] (by kernel_rfl) ?_
  refine toO (by kernel_rfl) (p_s 0 [2] (by kernel_rfl) (by kernel_rfl) (jkO ?_))
  refine jo_end (by kernel_rfl) ?_
  refine jx_then ?_
  refine jc_seq ?_
  refine jc_region ?_
  refine jo_f [(0, 0), (0, 0), (0, 0)] (by kernel_rfl) ?_
  refine toO (by kernel_rfl) (p_s 0 [2] (by kernel_rfl) (by kernel_rfl) (jkO ?_))
  refine jo_end (by kernel_rfl) ?_
  refine jx_then ?_
  refine jc_seq ?_
  refine jc_region ?_
  refine jo_f [(2, 0)] (by kernel_rfl) ?_
  refine toO (by kernel_rfl) (p_s 0 [1] (by kernel_rfl) (by kernel_rfl) (jkO ?_))
  refine jo_end (by kernel_rfl) ?_
  refine jx_then ?_
  refine jc_ret ?_
  obtain rfl := Option.some.inj h
  exact jx_ret [1] (.agg #[(.int .i64 a0.fPin), (.int .i64 a0.fHammer)]) [(b_2, b_2), (b_2, b_2)] rfl (by kernel_rfl) (by kernel_rfl) (fun w hm => ⟨rfl, hm.pick [] (by kernel_rfl) (by kernel_rfl)⟩)

/-! ### spec.l06Lives -/
noncomputable def spec_l06Lives (v0 : GLives) : Option (Bool) := (spec_l00In v0.fPin 1 1000000).bind fun t_1 => (if t_1 = true then (spec_l00In v0.fHammer 1 1000000).bind fun t_2 => some t_2 else some false)
set_option maxRecDepth 100000 in
theorem spec_l06Lives.calls (v0 : GLives) (w : World) (r : Bool) (h : spec_l06Lives v0 = some r) :
    Calls Try.prog 169 #[(.agg #[(.int .i64 v0.fPin), (.int .i64 v0.fHammer)])] w fun e w' => ∃ v, e = .returned v ∧ (v = (.bool r) ∧ Mem w [] [] w') := by
  rw [spec_l06Lives] at h
  refine enter (args := [(.agg #[(.int .i64 v0.fPin), (.int .i64 v0.fHammer)])]) Try.func169 rfl Try.ntmps169 (by kernel_rfl) (L := []) (W := []) (Mem.start w) ?_
  refine jc_seq ?_
  refine jc_region ?_
  refine toO (by kernel_rfl) (p_a 0 [0] (by kernel_rfl) (fun b => by kernel_rfl) (fun b_1 => jkO ?_))
  refine jo_f [(0, 0)] (by kernel_rfl) ?_
  refine jo_end (by kernel_rfl) ?_
  refine jx_then ?_
  refine jc_seq ?_
  refine jc_region ?_
  refine jo_f [(0, 0), (0, 0)] (by kernel_rfl) ?_
  obtain ⟨t_1, ht_2, h⟩ := bd h
  refine toO (by kernel_rfl) (p_call 0 104 #[(.int .i64 v0.fPin), (.int .i64 1), (.int .i64 1000000)] (by kernel_rfl) (by kernel_rfl) (fun w hm => spec_l00In.calls v0.fPin 1 1000000 w _ ht_2) ?_)
  rintro w v w' hm ⟨rfl, hm'⟩
  refine ⟨_, hm.app hm', jkO ?_⟩
  clear hm hm'
  refine jo_f [(0, 0), (0, 1), (0, 1)] (by kernel_rfl) ?_
  refine jo_split 6 t_1 (by kernel_rfl) (fun hc_3 => ?_) (fun hc_3 => ?_)
  · replace h := ifT hc_3 h
    obtain ⟨t_2, ht_4, h⟩ := bd h
    refine toO (by kernel_rfl) (p_call 2 104 #[(.int .i64 v0.fHammer), (.int .i64 1), (.int .i64 1000000)] (by kernel_rfl) (by kernel_rfl) (fun w hm => spec_l00In.calls v0.fHammer 1 1000000 w _ ht_4) ?_)
    rintro w v w' hm ⟨rfl, hm'⟩
    refine ⟨_, hm.app hm', jkO ?_⟩
    clear hm hm'
    refine jo_f [(0, 4), (0, 0)] (by kernel_rfl) ?_
    refine jo_end (by kernel_rfl) ?_
    refine jx_then ?_
    refine jc_ret ?_
    obtain rfl := Option.some.inj h
    exact jx_ret [] (.bool t_2) [] rfl (by kernel_rfl) (by kernel_rfl) (fun w hm => ⟨rfl, hm.pick [] (by kernel_rfl) (by kernel_rfl)⟩)
  · replace h := ifF hc_3 h
    refine jo_f [(0, 3), (0, 5), (0, 0)] (by kernel_rfl) ?_
    refine jo_end (by kernel_rfl) ?_
    refine jx_then ?_
    refine jc_ret ?_
    obtain rfl := Option.some.inj h
    exact jx_ret [] (.bool false) [] rfl (by kernel_rfl) (by kernel_rfl) (fun w hm => ⟨rfl, hm.pick [] (by kernel_rfl) (by kernel_rfl)⟩)

/-! ### spec.l06Lived -/
noncomputable def spec_l06Lived.k_2 (q_1 : Bool) : Option (Int) := (if q_1 = true then some 1 else some 0)
noncomputable def spec_l06Lived (f0 : GFrame) (w1 : GWear) (v2 : GLives) : Option (Int) := (spec_l06Ok f0 w1).bind fun t_3 => (if (!t_3) = true then spec_l06Lived.k_2 true else (spec_l06Lives v2).bind fun t_4 => spec_l06Lived.k_2 (!t_4))
set_option maxRecDepth 100000 in
theorem spec_l06Lived.calls (f0 : GFrame) (w1 : GWear) (v2 : GLives) (w : World) (r : Int) (f0_fHammers_a : Option Addr) (f0_fHammers_an : Nat) (f0_fHammers_c : Nat) (f0_fHammers_h : Rw w f0_fHammers_a 2 encGHammer f0.fHammers) (f0_fHammers_hn : f0.fHammers.length = f0_fHammers_an) (w1_fPins_a : Option Addr) (w1_fPins_an : Nat) (w1_fPins_c : Nat) (w1_fPins_h : Rw w w1_fPins_a 3 encGWornPin w1.fPins) (w1_fPins_hn : w1.fPins.length = w1_fPins_an) (w1_fStrokes_a : Option Addr) (w1_fStrokes_an : Nat) (w1_fStrokes_c : Nat) (w1_fStrokes_h : Rw w w1_fStrokes_a 1 encI64 w1.fStrokes) (w1_fStrokes_hn : w1.fStrokes.length = w1_fStrokes_an) (f0_b : Nat) (w1_b : Nat) (hm0 : Mem w (bs [some f0_b, some w1_b]) [⟨some f0_b, 35, [(.int .i16 f0.fSteps), (.slice f0_fHammers_a f0_fHammers_an f0_fHammers_c)]⟩, ⟨some w1_b, 52, [(.slice w1_fPins_a w1_fPins_an w1_fPins_c), (.slice w1_fStrokes_a w1_fStrokes_an w1_fStrokes_c)]⟩] w) (f0_fHammers_ha : f0.fHammers ≠ [] → aB f0_fHammers_a ∉ bs [some f0_b, some w1_b]) (w1_fPins_ha : w1.fPins ≠ [] → aB w1_fPins_a ∉ bs [some f0_b, some w1_b]) (w1_fStrokes_ha : w1.fStrokes ≠ [] → aB w1_fStrokes_a ∉ bs [some f0_b, some w1_b]) (h : spec_l06Lived f0 w1 v2 = some r) :
    Calls Try.prog 118 #[(.pointer (some ⟨f0_b, 0, none⟩)), (.pointer (some ⟨w1_b, 0, none⟩)), (.agg #[(.int .i64 v2.fPin), (.int .i64 v2.fHammer)])] w fun e w' => ∃ v, e = .returned v ∧ (v = (.int .i64 r) ∧ Mem w (bs [some f0_b, some w1_b]) [⟨some f0_b, 35, [(.int .i16 f0.fSteps), (.slice f0_fHammers_a f0_fHammers_an f0_fHammers_c)]⟩, ⟨some w1_b, 52, [(.slice w1_fPins_a w1_fPins_an w1_fPins_c), (.slice w1_fStrokes_a w1_fStrokes_an w1_fStrokes_c)]⟩] w') := by
  subst f0_fHammers_hn w1_fPins_hn w1_fStrokes_hn
  rw [spec_l06Lived] at h
  refine enter (args := [(.pointer (some ⟨f0_b, 0, none⟩)), (.pointer (some ⟨w1_b, 0, none⟩)), (.agg #[(.int .i64 v2.fPin), (.int .i64 v2.fHammer)])]) Try.func118 rfl Try.ntmps118 (by kernel_rfl) (L := [⟨some f0_b, 35, [(.int .i16 f0.fSteps), (.slice f0_fHammers_a f0.fHammers.length f0_fHammers_c)]⟩, ⟨some w1_b, 52, [(.slice w1_fPins_a w1.fPins.length w1_fPins_c), (.slice w1_fStrokes_a w1.fStrokes.length w1_fStrokes_c)]⟩]) (W := bs [some f0_b, some w1_b]) hm0 ?_
  refine jc_seq ?_
  refine jc_region ?_
  refine toO (by kernel_rfl) (p_a 0 [0] (by kernel_rfl) (fun b => by kernel_rfl) (fun b_1 => jkO ?_))
  refine jo_f [(0, 0)] (by kernel_rfl) ?_
  refine jo_end (by kernel_rfl) ?_
  refine jx_then ?_
  refine jc_seq ?_
  refine jc_seq ?_
  refine jc_meet (fun (j : Bool) => match j with | q_1 => spec_l06Lived.k_2 q_1 = some r) (fun (j : Bool) => match j with | q_1 => [(6, [], (.int .i64 0)), (15, [], (.bool q_1))]) (fun (j : Bool) => match j with | q_1 => [⟨some f0_b, 35, [(.int .i16 f0.fSteps), (.slice f0_fHammers_a f0.fHammers.length f0_fHammers_c)]⟩, ⟨some w1_b, 52, [(.slice w1_fPins_a w1.fPins.length w1_fPins_c), (.slice w1_fStrokes_a w1.fStrokes.length w1_fStrokes_c)]⟩, ⟨some b_1, 94, [(.int .i64 v2.fPin), (.int .i64 v2.fHammer)]⟩]) ?_ ?_
  · refine jc_region ?_
    refine jo_f [(0, 0), (0, 0)] (by kernel_rfl) ?_
    obtain ⟨t_3, ht_6, h⟩ := bd h
    refine toO (by kernel_rfl) (p_call 0 80 #[(.pointer (some ⟨f0_b, 0, none⟩)), (.pointer (some ⟨w1_b, 0, none⟩))] (by kernel_rfl) (by kernel_rfl) (fun w hm => spec_l06Ok.calls f0 w1 w _ f0_fHammers_a f0.fHammers.length f0_fHammers_c (hm.exRowW f0_fHammers_h f0_fHammers_ha) rfl w1_fPins_a w1.fPins.length w1_fPins_c (hm.exRowW w1_fPins_h w1_fPins_ha) rfl w1_fStrokes_a w1.fStrokes.length w1_fStrokes_c (hm.exRowW w1_fStrokes_h w1_fStrokes_ha) rfl f0_b w1_b (hm.pass (N := [⟨some f0_b, 35, [(.int .i16 f0.fSteps), (.slice f0_fHammers_a f0.fHammers.length f0_fHammers_c)]⟩, ⟨some w1_b, 52, [(.slice w1_fPins_a w1.fPins.length w1_fPins_c), (.slice w1_fStrokes_a w1.fStrokes.length w1_fStrokes_c)]⟩]) [0, 1] (by kernel_rfl) (by kernel_rfl)) (hm.exApart (N := [⟨some f0_b, 35, [(.int .i16 f0.fSteps), (.slice f0_fHammers_a f0.fHammers.length f0_fHammers_c)]⟩, ⟨some w1_b, 52, [(.slice w1_fPins_a w1.fPins.length w1_fPins_c), (.slice w1_fStrokes_a w1.fStrokes.length w1_fStrokes_c)]⟩]) f0_fHammers_h f0_fHammers_ha [0, 1] (by kernel_rfl)) (hm.exApart (N := [⟨some f0_b, 35, [(.int .i16 f0.fSteps), (.slice f0_fHammers_a f0.fHammers.length f0_fHammers_c)]⟩, ⟨some w1_b, 52, [(.slice w1_fPins_a w1.fPins.length w1_fPins_c), (.slice w1_fStrokes_a w1.fStrokes.length w1_fStrokes_c)]⟩]) w1_fPins_h w1_fPins_ha [0, 1] (by kernel_rfl)) (hm.exApart (N := [⟨some f0_b, 35, [(.int .i16 f0.fSteps), (.slice f0_fHammers_a f0.fHammers.length f0_fHammers_c)]⟩, ⟨some w1_b, 52, [(.slice w1_fPins_a w1.fPins.length w1_fPins_c), (.slice w1_fStrokes_a w1.fStrokes.length w1_fStrokes_c)]⟩]) w1_fStrokes_h w1_fStrokes_ha [0, 1] (by kernel_rfl)) ht_6) ?_)
    rintro w v w' hm ⟨rfl, hm'⟩
    refine ⟨_, hm.appW (ps := [(0, ⟨some f0_b, 35, [(.int .i16 f0.fSteps), (.slice f0_fHammers_a f0.fHammers.length f0_fHammers_c)]⟩), (1, ⟨some w1_b, 52, [(.slice w1_fPins_a w1.fPins.length w1_fPins_c), (.slice w1_fStrokes_a w1.fStrokes.length w1_fStrokes_c)]⟩)]) (N := []) hm' (by kernel_rfl) (by kernel_rfl), jkO ?_⟩
    clear hm hm'
    refine jo_f [(0, 0), (0, 0), (2, 1)] (by kernel_rfl) ?_
    refine jo_split 11 (!t_3) (by kernel_rfl) (fun hc_7 => ?_) (fun hc_7 => ?_)
    · replace h := ifT hc_7 h
      refine jo_f [(0, 3), (0, 3), (0, 4)] (by kernel_rfl) ?_
      refine jo_end (by kernel_rfl) ?_
      exact jx_meet true h (by kernel_rfl) [0, 1, 2] (by kernel_rfl) (by kernel_rfl)
    · replace h := ifF hc_7 h
      obtain ⟨t_4, ht_8, h⟩ := bd h
      refine toO (by kernel_rfl) (p_call 2 169 #[(.agg #[(.int .i64 v2.fPin), (.int .i64 v2.fHammer)])] (by kernel_rfl) (by kernel_rfl) (fun w hm => spec_l06Lives.calls v2 w _ ht_8) ?_)
      rintro w v w' hm ⟨rfl, hm'⟩
      refine ⟨_, hm.app hm', jkO ?_⟩
      clear hm hm'
      refine jo_f [(0, 2), (0, 5)] (by kernel_rfl) ?_
      refine jo_end (by kernel_rfl) ?_
      exact jx_meet (!t_4) h (by kernel_rfl) [0, 1, 2] (by kernel_rfl) (by kernel_rfl)
  · rintro q_1 h
    replace h : spec_l06Lived.k_2 q_1 = some r := h
    rw [spec_l06Lived.k_2] at h
    refine jx_then ?_
    refine jc_cond q_1 (by kernel_rfl) (fun hc_5 => ?_) (fun hc_5 => ?_)
    · replace h := ifT hc_5 h
      refine jc_seq ?_
      refine jc_region ?_
      refine jo_f [(0, 0)] (by kernel_rfl) ?_
      refine jo_end (by kernel_rfl) ?_
      refine jx_then ?_
      refine jc_ret ?_
      refine jx_thenr ?_
      obtain rfl := Option.some.inj h
      exact jx_ret [] (.int .i64 1) [] rfl (by kernel_rfl) (by kernel_rfl) (fun w hm => ⟨rfl, hm.pick [0, 1] (by kernel_rfl) (by kernel_rfl)⟩)
    · replace h := ifF hc_5 h
      refine jc_skip ?_
      refine jx_then ?_
      refine jc_seq ?_
      refine jc_region ?_
      refine jo_f [(0, 0)] (by kernel_rfl) ?_
      refine jo_end (by kernel_rfl) ?_
      refine jx_then ?_
      refine jc_ret ?_
      obtain rfl := Option.some.inj h
      exact jx_ret [] (.int .i64 0) [] rfl (by kernel_rfl) (by kernel_rfl) (fun w hm => ⟨rfl, hm.pick [0, 1] (by kernel_rfl) (by kernel_rfl)⟩)

/-! ### spec.l06Worn -/
noncomputable def spec_l06Worn.k_4 (xs_1 : List GWornPin) (xs_3 : List Int) : Option ((List GWornPin) × (List Int)) := some (xs_1, xs_3)
noncomputable def spec_l06Worn.l_7 (w0 : GWear) (v1 : GLives) : ((List Int) × Int) → Option (((List Int) × Int) ⊕ ((List Int)))
  | (xs_5, i_6) => (if (decide (i_6 < (w0.fStrokes.length : Int))) = true then (ix w0.fStrokes i_6).bind fun x_9 => (if (decide (x_9 > v1.fHammer)) = true then (if xs_5.length + [i_6].length ≤ 4294967296 then some (.inl ((xs_5 ++ [i_6]), (w64 (i_6 + 1)))) else none) else some (.inl (xs_5, (w64 (i_6 + 1))))) else some (.inr xs_5))
noncomputable def spec_l06Worn.k_2 (w0 : GWear) (v1 : GLives) (xs_1 : List GWornPin) : Option ((List GWornPin) × (List Int)) := (loop (spec_l06Worn.l_7 w0 v1) (([] : List Int), 0)).bind fun t_8 => spec_l06Worn.k_4 xs_1 t_8
noncomputable def spec_l06Worn.l_12 (w0 : GWear) (v1 : GLives) : ((List GWornPin) × Int) → Option (((List GWornPin) × Int) ⊕ ((List GWornPin)))
  | (xs_10, i_11) => (if (decide (i_11 < (w0.fPins.length : Int))) = true then (ix w0.fPins i_11).bind fun x_14 => (if (decide (x_14.fTurns > v1.fPin)) = true then (ix w0.fPins i_11).bind fun x_15 => (if xs_10.length + [x_15].length ≤ 4294967296 then some (.inl ((xs_10 ++ [x_15]), (w64 (i_11 + 1)))) else none) else some (.inl (xs_10, (w64 (i_11 + 1))))) else some (.inr xs_10))
noncomputable def spec_l06Worn (w0 : GWear) (v1 : GLives) : Option ((List GWornPin) × (List Int)) := (loop (spec_l06Worn.l_12 w0 v1) (([] : List GWornPin), 0)).bind fun t_13 => spec_l06Worn.k_2 w0 v1 t_13
set_option maxRecDepth 100000 in
theorem spec_l06Worn.calls (w0 : GWear) (v1 : GLives) (w : World) (r : (List GWornPin) × (List Int)) (w0_fPins_a : Option Addr) (w0_fPins_an : Nat) (w0_fPins_c : Nat) (w0_fPins_h : Rw w w0_fPins_a 3 encGWornPin w0.fPins) (w0_fPins_hn : w0.fPins.length = w0_fPins_an) (w0_fStrokes_a : Option Addr) (w0_fStrokes_an : Nat) (w0_fStrokes_c : Nat) (w0_fStrokes_h : Rw w w0_fStrokes_a 1 encI64 w0.fStrokes) (w0_fStrokes_hn : w0.fStrokes.length = w0_fStrokes_an) (w0_b : Nat) (hm0 : Mem w (bs [some w0_b]) [⟨some w0_b, 52, [(.slice w0_fPins_a w0_fPins_an w0_fPins_c), (.slice w0_fStrokes_a w0_fStrokes_an w0_fStrokes_c)]⟩] w) (w0_fPins_ha : w0.fPins ≠ [] → aB w0_fPins_a ∉ bs [some w0_b]) (w0_fStrokes_ha : w0.fStrokes ≠ [] → aB w0_fStrokes_a ∉ bs [some w0_b]) (h : spec_l06Worn w0 v1 = some r) :
    Calls Try.prog 125 #[(.pointer (some ⟨w0_b, 0, none⟩)), (.agg #[(.int .i64 v1.fPin), (.int .i64 v1.fHammer)])] w fun e w' => ∃ v, e = .returned v ∧ (∃ (o0 : Option Nat) (c0 : Nat) (s0 : List Value) (n0 : Nat), r.1.length = n0 ∧ (o0 ≠ none → n0 ≤ c0 ∧ s0.length = (c0 - n0) * 3) ∧ (o0 = none → r.1 = [] ∧ c0 = 0) ∧ ∃ (o1 : Option Nat) (c1 : Nat) (s1 : List Value) (n1 : Nat), r.2.length = n1 ∧ (o1 ≠ none → n1 ≤ c1 ∧ s1.length = (c1 - n1) * 1) ∧ (o1 = none → r.2 = [] ∧ c1 = 0) ∧ v = .tuple #[.slice (o0.map fun b => ⟨b, 0, none⟩) n0 c0, .slice (o1.map fun b => ⟨b, 0, none⟩) n1 c1] ∧ Mem w (bs [some w0_b]) [⟨some w0_b, 52, [(.slice w0_fPins_a w0_fPins_an w0_fPins_c), (.slice w0_fStrokes_a w0_fStrokes_an w0_fStrokes_c)]⟩, ⟨o0, 124, row encGWornPin r.1 s0⟩, ⟨o1, 2, row encI64 r.2 s1⟩] w') := by
  subst w0_fPins_hn w0_fStrokes_hn
  rw [spec_l06Worn] at h
  refine enter (args := [(.pointer (some ⟨w0_b, 0, none⟩)), (.agg #[(.int .i64 v1.fPin), (.int .i64 v1.fHammer)])]) Try.func125 rfl Try.ntmps125 (by kernel_rfl) (L := [⟨some w0_b, 52, [(.slice w0_fPins_a w0.fPins.length w0_fPins_c), (.slice w0_fStrokes_a w0.fStrokes.length w0_fStrokes_c)]⟩]) (W := bs [some w0_b]) hm0 ?_
  refine jc_seq ?_
  refine jc_region ?_
  refine toO (by kernel_rfl) (p_a 0 [0] (by kernel_rfl) (fun b => by kernel_rfl) (fun b_1 => jkO ?_))
  refine jo_f [(0, 0), (0, 0)] (by kernel_rfl) ?_
  refine jo_end (by kernel_rfl) ?_
  refine jx_then ?_
  refine jc_seq ?_
  refine jc_region ?_
  refine toO (by kernel_rfl) (p_a 0 [0] (by kernel_rfl) (fun b => by kernel_rfl) (fun b_2 => jkO ?_))
  refine jo_f [(0, 0)] (by kernel_rfl) ?_
  refine jo_end (by kernel_rfl) ?_
  refine jx_then ?_
  refine jc_seq ?_
  refine jc_region ?_
  refine toO (by kernel_rfl) (p_a 0 [0] (by kernel_rfl) (fun b => by kernel_rfl) (fun b_3 => jkO ?_))
  refine jo_f [(0, 0)] (by kernel_rfl) ?_
  refine jo_end (by kernel_rfl) ?_
  refine jx_then ?_
  refine jc_seq ?_
  refine jc_seq ?_
  refine jc_region ?_
  refine jo_f [(0, 0)] (by kernel_rfl) ?_
  refine jo_end (by kernel_rfl) ?_
  refine jx_then ?_
  refine jc_meet (fun (j : (List GWornPin) × (Option Nat) × Nat × (List Value) × Nat) => match j with | ⟨xs_1, o_166, cap_167, sp_168, n_169⟩ => spec_l06Worn.k_2 w0 v1 xs_1 = some r ∧ (xs_1.length = n_169) ∧ ((o_166 ≠ none → n_169 ≤ cap_167 ∧ sp_168.length = (cap_167 - n_169) * 3)) ∧ ((o_166 = none → xs_1 = [] ∧ cap_167 = 0))) (fun (j : (List GWornPin) × (Option Nat) × Nat × (List Value) × Nat) => match j with | ⟨xs_1, o_166, cap_167, sp_168, n_169⟩ => [(0, [], (.pointer (some ⟨w0_b, 0, none⟩))), (3, [], (.pointer (some ⟨b_1, 0, none⟩))), (4, [], (.slice none 0 0)), (5, [], (.slice none 0 0)), (6, [], (.slice (o_166.map fun b => ⟨b, 0, none⟩) n_169 cap_167)), (7, [], (.slice (some ⟨b_3, 0, none⟩) 0 0))]) (fun (j : (List GWornPin) × (Option Nat) × Nat × (List Value) × Nat) => match j with | ⟨xs_1, o_166, cap_167, sp_168, n_169⟩ => [⟨some w0_b, 52, [(.slice w0_fPins_a w0.fPins.length w0_fPins_c), (.slice w0_fStrokes_a w0.fStrokes.length w0_fStrokes_c)]⟩, ⟨some b_1, 94, [(.int .i64 v1.fPin), (.int .i64 v1.fHammer)]⟩, ⟨o_166, 124, row encGWornPin xs_1 sp_168⟩, ⟨(some b_3), 2, row encI64 ([] : List Int) []⟩]) ?_ ?_
  · refine jc_block ?_
    obtain ⟨t_13, ht_431, hr_416⟩ := bd h
    refine jc_loop (fun (s : (List GWornPin) × Int) (x : (Option Nat) × Nat × (List Value) × Nat) => match s, x with | ⟨xs_10, i_11⟩, ⟨o_410, cap_411, sp_412, n_413⟩ => (xs_10.length = n_413) ∧ ((o_410 ≠ none → n_413 ≤ cap_411 ∧ sp_412.length = (cap_411 - n_413) * 3)) ∧ ((o_410 = none → xs_10 = [] ∧ cap_411 = 0))) (fun (s : (List GWornPin) × Int) (x : (Option Nat) × Nat × (List Value) × Nat) => match s, x with | ⟨xs_10, i_11⟩, ⟨o_410, cap_411, sp_412, n_413⟩ => [(0, [], (.pointer (some ⟨w0_b, 0, none⟩))), (3, [], (.pointer (some ⟨b_1, 0, none⟩))), (4, [], (.slice none 0 0)), (5, [], (.slice none 0 0)), (6, [], (.slice (o_410.map fun b => ⟨b, 0, none⟩) n_413 cap_411)), (7, [], (.slice (some ⟨b_3, 0, none⟩) 0 0)), (8, [], (.int .i64 i_11))]) (fun (s : (List GWornPin) × Int) (x : (Option Nat) × Nat × (List Value) × Nat) => match s, x with | ⟨xs_10, i_11⟩, ⟨o_410, cap_411, sp_412, n_413⟩ => [⟨some w0_b, 52, [(.slice w0_fPins_a w0.fPins.length w0_fPins_c), (.slice w0_fStrokes_a w0.fStrokes.length w0_fStrokes_c)]⟩, ⟨some b_1, 94, [(.int .i64 v1.fPin), (.int .i64 v1.fHammer)]⟩, ⟨o_410, 124, row encGWornPin xs_10 sp_412⟩, ⟨(some b_3), 2, row encI64 ([] : List Int) []⟩]) ht_431 ⟨(some b_2), 0, [], 0⟩ ⟨rfl, (fun _ => ⟨Nat.le_refl _, by simp⟩), (fun e => nomatch e)⟩ (by kernel_rfl) [0, 1, 2, 3] (by kernel_rfl) (by kernel_rfl) ?_
    rintro ⟨xs_10, i_11⟩ ⟨o_410, cap_411, sp_412, n_413⟩ y_417 ⟨rfl, hs_414, ho_415⟩ h
    rw [spec_l06Worn.l_12] at h
    refine jc_seq ?_
    refine jc_seq ?_
    refine jc_region ?_
    refine jo_f [(0, 0), (0, 0), (0, 0), (0, 0), (0, 0), (0, 0), (0, 0)] (by kernel_rfl) ?_
    refine jo_end (by kernel_rfl) ?_
    refine jx_then ?_
    refine jc_cond (decide (i_11 < (w0.fPins.length : Int))) (by kernel_rfl) (fun hc_419 => ?_) (fun hc_419 => ?_)
    · replace h := ifT hc_419 h
      refine jc_skip ?_
      refine jx_then ?_
      refine jc_seq ?_
      refine jc_block ?_
      refine jc_seq ?_
      refine jc_draw [⟨some w0_b, 52, [(.slice w0_fPins_a w0.fPins.length w0_fPins_c), (.slice w0_fStrokes_a w0.fStrokes.length w0_fStrokes_c)]⟩, ⟨some b_1, 94, [(.int .i64 v1.fPin), (.int .i64 v1.fHammer)]⟩, ⟨o_410, 124, row encGWornPin xs_10 sp_412⟩, ⟨(some b_3), 2, row encI64 ([] : List Int) []⟩] 11 (by kernel_rfl) (by kernel_rfl) ?_
      refine jd_f [⟨0, 0, 0⟩, ⟨1, 0, 0⟩, ⟨2, 0, 0⟩, ⟨3, 0, 0⟩, ⟨4, 0, 0⟩, ⟨8, 0, 0⟩, ⟨9, 1, 0⟩] 4 (by kernel_rfl) (by kernel_rfl) (fun w h => h.pick [0, 1, 2, 3] (by kernel_rfl) (by kernel_rfl)) (by kernel_rfl) (by kernel_rfl) ?_
      obtain ⟨x_14, hx_420, h⟩ := bd h
      refine jd_v 5 0 (by kernel_rfl) (fun w h => h.pick [0, 1, 2, 3] (by kernel_rfl) (by kernel_rfl)) (by kernel_rfl) (by kernel_rfl) _ (fun w hm => idx_run (a := w0_fPins_a) (len := w0.fPins.length) (s := 3) (j := i_11) (by kernel_rfl) (ix_some hx_420).1 (ltn hx_420 rfl) (w0_fPins_h.sp hx_420)) ?_
      refine jd_f [⟨6, 0, 0⟩] 2 (by kernel_rfl) (by kernel_rfl) (fun w h => h.pick [0, 1, 2, 3] (by kernel_rfl) (by kernel_rfl)) (by kernel_rfl) (by kernel_rfl) ?_
      refine jd_v 7 0 (by kernel_rfl) (fun w h => h.pick [0, 1, 2, 3] (by kernel_rfl) (by kernel_rfl)) (by kernel_rfl) (by kernel_rfl) _ (fun w hm => ld_run (b := aB w0_fPins_a) (off := (aO w0_fPins_a + i_11.toNat * 3 + 2)) (s := 1) (agg := false) (vs := (((encGWornPin x_14).drop 2).take 1)) (by kernel_rfl) (by kernel_rfl) (.inr rfl) (((hm.exRowW w0_fPins_h w0_fPins_ha).at hx_420).sub 2 1)) ?_
      refine jd_f [⟨10, 0, 0⟩] 0 (by kernel_rfl) (by kernel_rfl) (fun w h => h.pick [0, 1, 2, 3] (by kernel_rfl) (by kernel_rfl)) (by kernel_rfl) (by kernel_rfl) ?_
      refine jd_end (by kernel_rfl) ?_
      refine jx_then ?_
      refine jc_cond (decide (x_14.fTurns > v1.fPin)) (by kernel_rfl) (fun hc_421 => ?_) (fun hc_421 => ?_)
      · replace h := ifT hc_421 h
        refine jc_region ?_
        refine jo_f [(0, 0), (0, 0), (0, 0), (0, 0), (0, 0), (0, 0)] (by kernel_rfl) ?_
        obtain ⟨x_15, hx_422, h⟩ := bd h
        refine toO (by kernel_rfl) (p_idx 0 w0_fPins_a w0.fPins.length i_11 3 (by kernel_rfl) (by kernel_rfl) (ix_some hx_422).1 (ltn hx_422 rfl) (w0_fPins_h.sp hx_422) (jkO ?_))
        refine toO (by kernel_rfl) (p_ld 0 (aB w0_fPins_a) (aO w0_fPins_a + i_11.toNat * 3) true (encGWornPin x_15) (by kernel_rfl) (by kernel_rfl) (by kernel_rfl) (fun w hm => ((hm.exRowW w0_fPins_h w0_fPins_ha).at hx_422)) (jkO ?_))
        refine toO (by kernel_rfl) (p_a 0 [0] (by kernel_rfl) (fun b => by kernel_rfl) (fun b_423 => jkO ?_))
        obtain ⟨hg_424, h⟩ := gd h
        refine toO (by kernel_rfl) (p_apn 0 2 o_410 124 xs_10.length 1 cap_411 3 16 (some ⟨b_423, 0, none⟩) encGWornPin xs_10 [x_15] sp_412 (.agg #[(.int .i8 0), (.int .i8 0), (.int .i64 0)]) rfl rfl (by kernel_rfl) (by kernel_rfl) (by kernel_rfl) encGWornPin_len encGWornPin_cell hs_414 ho_415 (fun w hm => (hm.ownRow (hh := 4) (o := (some b_423)) (T := 124) (enc := encGWornPin) (xs := [x_15]) (sp := []) (by kernel_rfl) (fun e => nomatch e) encGWornPin_len)) hg_424 (by kernel_rfl) (by kernel_rfl) (fun o_425 cap_426 sp_427 hs_428 ho_429 => jkO ?_))
        refine jo_f [(0, 0)] (by kernel_rfl) ?_
        refine jo_end (by kernel_rfl) ?_
        refine jx_inn ?_
        refine jx_then ?_
        refine jc_region ?_
        refine jo_f [(0, 0), (0, 0), (0, 0)] (by kernel_rfl) ?_
        refine jo_end (by kernel_rfl) ?_
        exact jx_back ((xs_10 ++ [x_15]), (w64 (i_11 + 1))) ⟨o_425, cap_426, sp_427, (xs_10 ++ [x_15]).length⟩ (Option.some.inj h).symm ⟨rfl, hs_428, ho_429⟩ [0, 1, 2, 3] (by kernel_rfl) (by kernel_rfl) (by kernel_rfl)
      · replace h := ifF hc_421 h
        refine jc_skip ?_
        refine jx_inn ?_
        refine jx_then ?_
        refine jc_region ?_
        refine jo_f [(0, 0), (0, 0), (0, 0)] (by kernel_rfl) ?_
        refine jo_end (by kernel_rfl) ?_
        exact jx_back (xs_10, (w64 (i_11 + 1))) ⟨o_410, cap_411, sp_412, xs_10.length⟩ (Option.some.inj h).symm ⟨rfl, hs_414, ho_415⟩ [0, 1, 2, 3] (by kernel_rfl) (by kernel_rfl) (by kernel_rfl)
    · replace h := ifF hc_419 h
      refine jc_exit ?_
      refine jx_thenx ?_
      refine jx_leave xs_10 (Option.some.inj h).symm (fun e_430 => ?_)
      subst e_430
      refine jx_ine ?_
      exact jx_meet ⟨xs_10, o_410, cap_411, sp_412, xs_10.length⟩ ⟨hr_416, rfl, hs_414, ho_415⟩ (by kernel_rfl) [0, 1, 2, 3] (by kernel_rfl) (by kernel_rfl)
  · rintro ⟨xs_1, o_166, cap_167, sp_168, n_169⟩ ⟨h, rfl, hs_170, ho_171⟩
    replace h : spec_l06Worn.k_2 w0 v1 xs_1 = some r := h
    rw [spec_l06Worn.k_2] at h
    refine jx_then ?_
    refine jc_seq ?_
    refine jc_seq ?_
    refine jc_region ?_
    refine jo_f [(0, 0)] (by kernel_rfl) ?_
    refine jo_end (by kernel_rfl) ?_
    refine jx_then ?_
    refine jc_meet (fun (j : (List Int) × (Option Nat) × Nat × (List Value) × Nat) => match j with | ⟨xs_3, o_325, cap_326, sp_327, n_328⟩ => spec_l06Worn.k_4 xs_1 xs_3 = some r ∧ (xs_3.length = n_328) ∧ ((o_325 ≠ none → n_328 ≤ cap_326 ∧ sp_327.length = (cap_326 - n_328) * 1)) ∧ ((o_325 = none → xs_3 = [] ∧ cap_326 = 0))) (fun (j : (List Int) × (Option Nat) × Nat × (List Value) × Nat) => match j with | ⟨xs_3, o_325, cap_326, sp_327, n_328⟩ => [(4, [], (.slice none 0 0)), (5, [], (.slice none 0 0)), (6, [], (.slice (o_166.map fun b => ⟨b, 0, none⟩) xs_1.length cap_167)), (7, [], (.slice (o_325.map fun b => ⟨b, 0, none⟩) n_328 cap_326))]) (fun (j : (List Int) × (Option Nat) × Nat × (List Value) × Nat) => match j with | ⟨xs_3, o_325, cap_326, sp_327, n_328⟩ => [⟨some w0_b, 52, [(.slice w0_fPins_a w0.fPins.length w0_fPins_c), (.slice w0_fStrokes_a w0.fStrokes.length w0_fStrokes_c)]⟩, ⟨some b_1, 94, [(.int .i64 v1.fPin), (.int .i64 v1.fHammer)]⟩, ⟨o_166, 124, row encGWornPin xs_1 sp_168⟩, ⟨o_325, 2, row encI64 xs_3 sp_327⟩]) ?_ ?_
    · refine jc_block ?_
      obtain ⟨t_8, ht_379, hr_365⟩ := bd h
      refine jc_loop (fun (s : (List Int) × Int) (x : (Option Nat) × Nat × (List Value) × Nat) => match s, x with | ⟨xs_5, i_6⟩, ⟨o_359, cap_360, sp_361, n_362⟩ => (xs_5.length = n_362) ∧ ((o_359 ≠ none → n_362 ≤ cap_360 ∧ sp_361.length = (cap_360 - n_362) * 1)) ∧ ((o_359 = none → xs_5 = [] ∧ cap_360 = 0))) (fun (s : (List Int) × Int) (x : (Option Nat) × Nat × (List Value) × Nat) => match s, x with | ⟨xs_5, i_6⟩, ⟨o_359, cap_360, sp_361, n_362⟩ => [(0, [], (.pointer (some ⟨w0_b, 0, none⟩))), (3, [], (.pointer (some ⟨b_1, 0, none⟩))), (4, [], (.slice none 0 0)), (5, [], (.slice none 0 0)), (6, [], (.slice (o_166.map fun b => ⟨b, 0, none⟩) xs_1.length cap_167)), (7, [], (.slice (o_359.map fun b => ⟨b, 0, none⟩) n_362 cap_360)), (9, [], (.int .i64 i_6))]) (fun (s : (List Int) × Int) (x : (Option Nat) × Nat × (List Value) × Nat) => match s, x with | ⟨xs_5, i_6⟩, ⟨o_359, cap_360, sp_361, n_362⟩ => [⟨some w0_b, 52, [(.slice w0_fPins_a w0.fPins.length w0_fPins_c), (.slice w0_fStrokes_a w0.fStrokes.length w0_fStrokes_c)]⟩, ⟨some b_1, 94, [(.int .i64 v1.fPin), (.int .i64 v1.fHammer)]⟩, ⟨o_166, 124, row encGWornPin xs_1 sp_168⟩, ⟨o_359, 2, row encI64 xs_5 sp_361⟩]) ht_379 ⟨(some b_3), 0, [], 0⟩ ⟨rfl, (fun _ => ⟨Nat.le_refl _, by simp⟩), (fun e => nomatch e)⟩ (by kernel_rfl) [0, 1, 2, 3] (by kernel_rfl) (by kernel_rfl) ?_
      rintro ⟨xs_5, i_6⟩ ⟨o_359, cap_360, sp_361, n_362⟩ y_366 ⟨rfl, hs_363, ho_364⟩ h
      rw [spec_l06Worn.l_7] at h
      refine jc_seq ?_
      refine jc_seq ?_
      refine jc_region ?_
      refine jo_f [(0, 0), (0, 0), (0, 0), (0, 0), (0, 0), (0, 0), (0, 0)] (by kernel_rfl) ?_
      refine jo_end (by kernel_rfl) ?_
      refine jx_then ?_
      refine jc_cond (decide (i_6 < (w0.fStrokes.length : Int))) (by kernel_rfl) (fun hc_368 => ?_) (fun hc_368 => ?_)
      · replace h := ifT hc_368 h
        refine jc_skip ?_
        refine jx_then ?_
        refine jc_seq ?_
        refine jc_block ?_
        refine jc_seq ?_
        refine jc_draw [⟨some w0_b, 52, [(.slice w0_fPins_a w0.fPins.length w0_fPins_c), (.slice w0_fStrokes_a w0.fStrokes.length w0_fStrokes_c)]⟩, ⟨some b_1, 94, [(.int .i64 v1.fPin), (.int .i64 v1.fHammer)]⟩, ⟨o_166, 124, row encGWornPin xs_1 sp_168⟩, ⟨o_359, 2, row encI64 xs_5 sp_361⟩] 10 (by kernel_rfl) (by kernel_rfl) ?_
        refine jd_f [⟨0, 0, 0⟩, ⟨1, 0, 0⟩, ⟨2, 0, 0⟩, ⟨3, 0, 0⟩, ⟨4, 0, 0⟩, ⟨7, 0, 0⟩, ⟨8, 1, 0⟩] 3 (by kernel_rfl) (by kernel_rfl) (fun w h => h.pick [0, 1, 2, 3] (by kernel_rfl) (by kernel_rfl)) (by kernel_rfl) (by kernel_rfl) ?_
        obtain ⟨x_9, hx_369, h⟩ := bd h
        refine jd_v 5 0 (by kernel_rfl) (fun w h => h.pick [0, 1, 2, 3] (by kernel_rfl) (by kernel_rfl)) (by kernel_rfl) (by kernel_rfl) _ (fun w hm => idx_run (a := w0_fStrokes_a) (len := w0.fStrokes.length) (s := 1) (j := i_6) (by kernel_rfl) (ix_some hx_369).1 (ltn hx_369 rfl) (w0_fStrokes_h.sp hx_369)) ?_
        refine jd_v 6 0 (by kernel_rfl) (fun w h => h.pick [0, 1, 2, 3] (by kernel_rfl) (by kernel_rfl)) (by kernel_rfl) (by kernel_rfl) _ (fun w hm => ld_run (b := aB w0_fStrokes_a) (off := (aO w0_fStrokes_a + i_6.toNat * 1)) (s := 1) (agg := false) (vs := (encI64 x_9)) (by kernel_rfl) (by kernel_rfl) (.inr rfl) ((hm.exRowW w0_fStrokes_h w0_fStrokes_ha).at hx_369)) ?_
        refine jd_f [⟨9, 0, 0⟩] 0 (by kernel_rfl) (by kernel_rfl) (fun w h => h.pick [0, 1, 2, 3] (by kernel_rfl) (by kernel_rfl)) (by kernel_rfl) (by kernel_rfl) ?_
        refine jd_end (by kernel_rfl) ?_
        refine jx_then ?_
        refine jc_cond (decide (x_9 > v1.fHammer)) (by kernel_rfl) (fun hc_370 => ?_) (fun hc_370 => ?_)
        · replace h := ifT hc_370 h
          refine jc_region ?_
          refine jo_f [(0, 0), (0, 0)] (by kernel_rfl) ?_
          refine toO (by kernel_rfl) (p_a 0 [0] (by kernel_rfl) (fun b => by kernel_rfl) (fun b_371 => jkO ?_))
          obtain ⟨hg_372, h⟩ := gd h
          refine toO (by kernel_rfl) (p_apn 0 3 o_359 2 xs_5.length 1 cap_360 1 8 (some ⟨b_371, 0, none⟩) encI64 xs_5 [i_6] sp_361 (.int .i64 0) rfl rfl (by kernel_rfl) (by kernel_rfl) (by kernel_rfl) encI64_len encI64_cell hs_363 ho_364 (fun w hm => (hm.ownRow (hh := 4) (o := (some b_371)) (T := 2) (enc := encI64) (xs := [i_6]) (sp := []) (by kernel_rfl) (fun e => nomatch e) encI64_len)) hg_372 (by kernel_rfl) (by kernel_rfl) (fun o_373 cap_374 sp_375 hs_376 ho_377 => jkO ?_))
          refine jo_f [(0, 0)] (by kernel_rfl) ?_
          refine jo_end (by kernel_rfl) ?_
          refine jx_inn ?_
          refine jx_then ?_
          refine jc_region ?_
          refine jo_f [(0, 0), (0, 0), (0, 0)] (by kernel_rfl) ?_
          refine jo_end (by kernel_rfl) ?_
          exact jx_back ((xs_5 ++ [i_6]), (w64 (i_6 + 1))) ⟨o_373, cap_374, sp_375, (xs_5 ++ [i_6]).length⟩ (Option.some.inj h).symm ⟨rfl, hs_376, ho_377⟩ [0, 1, 2, 3] (by kernel_rfl) (by kernel_rfl) (by kernel_rfl)
        · replace h := ifF hc_370 h
          refine jc_skip ?_
          refine jx_inn ?_
          refine jx_then ?_
          refine jc_region ?_
          refine jo_f [(0, 0), (0, 0), (0, 0)] (by kernel_rfl) ?_
          refine jo_end (by kernel_rfl) ?_
          exact jx_back (xs_5, (w64 (i_6 + 1))) ⟨o_359, cap_360, sp_361, xs_5.length⟩ (Option.some.inj h).symm ⟨rfl, hs_363, ho_364⟩ [0, 1, 2, 3] (by kernel_rfl) (by kernel_rfl) (by kernel_rfl)
      · replace h := ifF hc_368 h
        refine jc_exit ?_
        refine jx_thenx ?_
        refine jx_leave xs_5 (Option.some.inj h).symm (fun e_378 => ?_)
        subst e_378
        refine jx_ine ?_
        exact jx_meet ⟨xs_5, o_359, cap_360, sp_361, xs_5.length⟩ ⟨hr_365, rfl, hs_363, ho_364⟩ (by kernel_rfl) [0, 1, 2, 3] (by kernel_rfl) (by kernel_rfl)
    · rintro ⟨xs_3, o_325, cap_326, sp_327, n_328⟩ ⟨h, rfl, hs_329, ho_330⟩
      replace h : spec_l06Worn.k_4 xs_1 xs_3 = some r := h
      rw [spec_l06Worn.k_4] at h
      refine jx_then ?_
      refine jc_seq ?_
      refine jc_region ?_
      refine jo_f [(0, 0), (0, 0), (0, 0), (0, 0)] (by kernel_rfl) ?_
      refine jo_end (by kernel_rfl) ?_
      refine jx_then ?_
      refine jc_ret ?_
      obtain rfl := Option.some.inj h
      exact jx_ret [] (.tuple #[(.slice (o_166.map fun b => ⟨b, 0, none⟩) xs_1.length cap_167), (.slice (o_325.map fun b => ⟨b, 0, none⟩) xs_3.length cap_326)]) [] rfl (by kernel_rfl) (by kernel_rfl) (fun w hm => ⟨o_166, cap_167, sp_168, xs_1.length, rfl, hs_170, ho_171, o_325, cap_326, sp_327, xs_3.length, rfl, hs_329, ho_330, rfl, hm.pick [0, 2, 3] (by kernel_rfl) (by kernel_rfl)⟩)

/-! ### (impl.Wear).parts -/
noncomputable def impl_Wear_parts.k_6 (xs_5 : List Gpart) : Option ((List Gpart)) := some xs_5
noncomputable def impl_Wear_parts.l_9 (w0 : GWear) (v2 : GLives) (t_4 : (List Int)) : ((List Gpart) × Int) → Option (((List Gpart) × Int) ⊕ ((List Gpart)))
  | (xs_7, i_8) => (if (decide (i_8 < (t_4.length : Int))) = true then (ix t_4 i_8).bind fun x_11 => (ix w0.fStrokes i_8).bind fun x_12 => (if xs_7.length + [(⟨x_12, x_11, v2.fHammer, (-1), i_8⟩ : Gpart)].length ≤ 4294967296 then some (.inl ((xs_7 ++ [(⟨x_12, x_11, v2.fHammer, (-1), i_8⟩ : Gpart)]), (w64 (i_8 + 1)))) else none) else some (.inr xs_7))
noncomputable def impl_Wear_parts.k_2 (w0 : GWear) (f1 : GFrame) (v2 : GLives) (xs_1 : List Gpart) : Option ((List Gpart)) := (impl_Wear_drum w0).bind fun t_3 => (impl_Frame_byTrack f1 t_3).bind fun t_4 => (loop (impl_Wear_parts.l_9 w0 v2 t_4) (xs_1, 0)).bind fun t_10 => impl_Wear_parts.k_6 t_10
noncomputable def impl_Wear_parts.l_15 (w0 : GWear) (v2 : GLives) : ((List Gpart) × Int) → Option (((List Gpart) × Int) ⊕ ((List Gpart)))
  | (xs_13, i_14) => (if (decide (i_14 < (w0.fPins.length : Int))) = true then (ix w0.fPins i_14).bind fun x_17 => (if xs_13.length + [(⟨x_17.fTurns, 1, v2.fPin, (w64 x_17.fStep), (w64 x_17.fTrack)⟩ : Gpart)].length ≤ 4294967296 then some (.inl ((xs_13 ++ [(⟨x_17.fTurns, 1, v2.fPin, (w64 x_17.fStep), (w64 x_17.fTrack)⟩ : Gpart)]), (w64 (i_14 + 1)))) else none) else some (.inr xs_13))
noncomputable def impl_Wear_parts (w0 : GWear) (f1 : GFrame) (v2 : GLives) : Option ((List Gpart)) := (loop (impl_Wear_parts.l_15 w0 v2) (([] : List Gpart), 0)).bind fun t_16 => impl_Wear_parts.k_2 w0 f1 v2 t_16
set_option maxRecDepth 100000 in
theorem impl_Wear_parts.calls (w0 : GWear) (f1 : GFrame) (v2 : GLives) (w : World) (r : (List Gpart)) (w0_fPins_a : Option Addr) (w0_fPins_an : Nat) (w0_fPins_c : Nat) (w0_fPins_h : Rw w w0_fPins_a 3 encGWornPin w0.fPins) (w0_fPins_hn : w0.fPins.length = w0_fPins_an) (w0_fStrokes_a : Option Addr) (w0_fStrokes_an : Nat) (w0_fStrokes_c : Nat) (w0_fStrokes_h : Rw w w0_fStrokes_a 1 encI64 w0.fStrokes) (w0_fStrokes_hn : w0.fStrokes.length = w0_fStrokes_an) (f1_fHammers_a : Option Addr) (f1_fHammers_an : Nat) (f1_fHammers_c : Nat) (f1_fHammers_h : Rw w f1_fHammers_a 2 encGHammer f1.fHammers) (f1_fHammers_hn : f1.fHammers.length = f1_fHammers_an) (h : impl_Wear_parts w0 f1 v2 = some r) :
    Calls Try.prog 126 #[(.agg #[(.slice w0_fPins_a w0_fPins_an w0_fPins_c), (.slice w0_fStrokes_a w0_fStrokes_an w0_fStrokes_c)]), (.agg #[(.int .i16 f1.fSteps), (.slice f1_fHammers_a f1_fHammers_an f1_fHammers_c)]), (.agg #[(.int .i64 v2.fPin), (.int .i64 v2.fHammer)])] w fun e w' => ∃ v, e = .returned v ∧ (∃ (o0 : Option Nat) (c0 : Nat) (s0 : List Value) (n0 : Nat), r.length = n0 ∧ (o0 ≠ none → n0 ≤ c0 ∧ s0.length = (c0 - n0) * 5) ∧ (o0 = none → r = [] ∧ c0 = 0) ∧ v = .slice (o0.map fun b => ⟨b, 0, none⟩) n0 c0 ∧ Mem w [] [⟨o0, 162, row encGpart r s0⟩] w') := by
  subst w0_fPins_hn w0_fStrokes_hn f1_fHammers_hn
  rw [impl_Wear_parts] at h
  refine enter (args := [(.agg #[(.slice w0_fPins_a w0.fPins.length w0_fPins_c), (.slice w0_fStrokes_a w0.fStrokes.length w0_fStrokes_c)]), (.agg #[(.int .i16 f1.fSteps), (.slice f1_fHammers_a f1.fHammers.length f1_fHammers_c)]), (.agg #[(.int .i64 v2.fPin), (.int .i64 v2.fHammer)])]) Try.func126 rfl Try.ntmps126 (by kernel_rfl) (L := []) (W := []) (Mem.start w) ?_
  refine jc_seq ?_
  refine jc_region ?_
  refine toO (by kernel_rfl) (p_a 0 [0] (by kernel_rfl) (fun b => by kernel_rfl) (fun b_1 => jkO ?_))
  refine toO (by kernel_rfl) (p_a 0 [0] (by kernel_rfl) (fun b => by kernel_rfl) (fun b_2 => jkO ?_))
  refine toO (by kernel_rfl) (p_a 0 [0] (by kernel_rfl) (fun b => by kernel_rfl) (fun b_3 => jkO ?_))
  refine jo_f [(0, 0)] (by kernel_rfl) ?_
  refine jo_end (by kernel_rfl) ?_
  refine jx_then ?_
  refine jc_seq ?_
  refine jc_region ?_
  refine toO (by kernel_rfl) (p_a 0 [0] (by kernel_rfl) (fun b => by kernel_rfl) (fun b_4 => jkO ?_))
  refine jo_f [(0, 0)] (by kernel_rfl) ?_
  refine jo_end (by kernel_rfl) ?_
  refine jx_then ?_
  refine jc_seq ?_
  refine jc_seq ?_
  refine jc_region ?_
  refine jo_f [(0, 0), (0, 0), (0, 0), (0, 0)] (by kernel_rfl) ?_
  refine jo_end (by kernel_rfl) ?_
  refine jx_then ?_
  refine jc_meet (fun (j : (List Gpart) × (Option Nat) × Nat × (List Value) × Nat) => match j with | ⟨xs_1, o_158, cap_159, sp_160, n_161⟩ => impl_Wear_parts.k_2 w0 f1 v2 xs_1 = some r ∧ (xs_1.length = n_161) ∧ ((o_158 ≠ none → n_161 ≤ cap_159 ∧ sp_160.length = (cap_159 - n_161) * 5)) ∧ ((o_158 = none → xs_1 = [] ∧ cap_159 = 0))) (fun (j : (List Gpart) × (Option Nat) × Nat × (List Value) × Nat) => match j with | ⟨xs_1, o_158, cap_159, sp_160, n_161⟩ => [(3, [], (.pointer (some ⟨b_1, 0, none⟩))), (4, [], (.pointer (some ⟨b_2, 0, none⟩))), (5, [], (.pointer (some ⟨b_3, 0, none⟩))), (6, [], (.slice none 0 0)), (7, [], (.slice (o_158.map fun b => ⟨b, 0, none⟩) n_161 cap_159))]) (fun (j : (List Gpart) × (Option Nat) × Nat × (List Value) × Nat) => match j with | ⟨xs_1, o_158, cap_159, sp_160, n_161⟩ => [⟨some b_1, 52, [(.slice w0_fPins_a w0.fPins.length w0_fPins_c), (.slice w0_fStrokes_a w0.fStrokes.length w0_fStrokes_c)]⟩, ⟨some b_2, 35, [(.int .i16 f1.fSteps), (.slice f1_fHammers_a f1.fHammers.length f1_fHammers_c)]⟩, ⟨some b_3, 94, [(.int .i64 v2.fPin), (.int .i64 v2.fHammer)]⟩, ⟨o_158, 162, row encGpart xs_1 sp_160⟩]) ?_ ?_
  · refine jc_block ?_
    obtain ⟨t_16, ht_472, hr_458⟩ := bd h
    refine jc_loop (fun (s : (List Gpart) × Int) (x : (Option Nat) × Nat × (List Value) × Nat) => match s, x with | ⟨xs_13, i_14⟩, ⟨o_452, cap_453, sp_454, n_455⟩ => (xs_13.length = n_455) ∧ ((o_452 ≠ none → n_455 ≤ cap_453 ∧ sp_454.length = (cap_453 - n_455) * 5)) ∧ ((o_452 = none → xs_13 = [] ∧ cap_453 = 0))) (fun (s : (List Gpart) × Int) (x : (Option Nat) × Nat × (List Value) × Nat) => match s, x with | ⟨xs_13, i_14⟩, ⟨o_452, cap_453, sp_454, n_455⟩ => [(3, [], (.pointer (some ⟨b_1, 0, none⟩))), (4, [], (.pointer (some ⟨b_2, 0, none⟩))), (5, [], (.pointer (some ⟨b_3, 0, none⟩))), (6, [], (.slice none 0 0)), (7, [], (.slice (o_452.map fun b => ⟨b, 0, none⟩) n_455 cap_453)), (14, [], (.slice w0_fPins_a w0.fPins.length w0_fPins_c)), (15, [], (.int .i64 (w0.fPins.length : Int))), (16, [], (.int .i64 i_14))]) (fun (s : (List Gpart) × Int) (x : (Option Nat) × Nat × (List Value) × Nat) => match s, x with | ⟨xs_13, i_14⟩, ⟨o_452, cap_453, sp_454, n_455⟩ => [⟨some b_1, 52, [(.slice w0_fPins_a w0.fPins.length w0_fPins_c), (.slice w0_fStrokes_a w0.fStrokes.length w0_fStrokes_c)]⟩, ⟨some b_2, 35, [(.int .i16 f1.fSteps), (.slice f1_fHammers_a f1.fHammers.length f1_fHammers_c)]⟩, ⟨some b_3, 94, [(.int .i64 v2.fPin), (.int .i64 v2.fHammer)]⟩, ⟨o_452, 162, row encGpart xs_13 sp_454⟩]) ht_472 ⟨(some b_4), 0, [], 0⟩ ⟨rfl, (fun _ => ⟨Nat.le_refl _, by simp⟩), (fun e => nomatch e)⟩ (by kernel_rfl) [0, 1, 2, 3] (by kernel_rfl) (by kernel_rfl) ?_
    rintro ⟨xs_13, i_14⟩ ⟨o_452, cap_453, sp_454, n_455⟩ y_459 ⟨rfl, hs_456, ho_457⟩ h
    rw [impl_Wear_parts.l_15] at h
    refine jc_seq ?_
    refine jc_region ?_
    refine jo_f [(0, 0)] (by kernel_rfl) ?_
    refine jo_end (by kernel_rfl) ?_
    refine jx_then ?_
    refine jc_seq ?_
    refine jc_cond (decide (i_14 < (w0.fPins.length : Int))) (by kernel_rfl) (fun hc_461 => ?_) (fun hc_461 => ?_)
    · replace h := ifT hc_461 h
      refine jc_skip ?_
      refine jx_then ?_
      refine jc_seq ?_
      refine jc_block ?_
      refine jc_seq ?_
      refine jc_region ?_
      obtain ⟨x_17, hx_462, h⟩ := bd h
      refine toO (by kernel_rfl) (p_idx 0 w0_fPins_a w0.fPins.length i_14 3 (by kernel_rfl) (by kernel_rfl) (ix_some hx_462).1 (ltn hx_462 rfl) (w0_fPins_h.sp hx_462) (jkO ?_))
      refine toO (by kernel_rfl) (p_ld 0 (aB w0_fPins_a) (aO w0_fPins_a + i_14.toNat * 3) true (encGWornPin x_17) (by kernel_rfl) (by kernel_rfl) (by kernel_rfl) (fun w hm => ((hm.exRow w0_fPins_h List.not_mem_nil).at hx_462)) (jkO ?_))
      refine toO (by kernel_rfl) (p_a 0 [0] (by kernel_rfl) (fun b => by kernel_rfl) (fun b_463 => jkO ?_))
      refine toO (by kernel_rfl) (p_s 0 [4] (by kernel_rfl) (by kernel_rfl) (jkO ?_))
      refine jo_end (by kernel_rfl) ?_
      refine jx_then ?_
      refine jc_region ?_
      refine jo_f [(0, 0), (0, 0), (4, 0), (0, 0), (2, 0), (0, 0), (4, 0), (0, 0), (0, 0), (4, 0), (0, 0), (0, 0)] (by kernel_rfl) ?_
      refine toO (by kernel_rfl) (p_a 0 [0] (by kernel_rfl) (fun b => by kernel_rfl) (fun b_464 => jkO ?_))
      obtain ⟨hg_465, h⟩ := gd h
      refine toO (by kernel_rfl) (p_apn 0 3 o_452 162 xs_13.length 1 cap_453 5 40 (some ⟨b_464, 0, none⟩) encGpart xs_13 [(⟨x_17.fTurns, 1, v2.fPin, (w64 x_17.fStep), (w64 x_17.fTrack)⟩ : Gpart)] sp_454 (.agg #[(.int .i64 0), (.int .i64 0), (.int .i64 0), (.int .i64 0), (.int .i64 0)]) rfl rfl (by kernel_rfl) (by kernel_rfl) (by kernel_rfl) encGpart_len encGpart_cell hs_456 ho_457 (fun w hm => (hm.ownRow (hh := 5) (o := (some b_464)) (T := 162) (enc := encGpart) (xs := [(⟨x_17.fTurns, 1, v2.fPin, (w64 x_17.fStep), (w64 x_17.fTrack)⟩ : Gpart)]) (sp := []) (by kernel_rfl) (fun e => nomatch e) encGpart_len)) hg_465 (by kernel_rfl) (by kernel_rfl) (fun o_466 cap_467 sp_468 hs_469 ho_470 => jkO ?_))
      refine jo_f [(0, 0)] (by kernel_rfl) ?_
      refine jo_end (by kernel_rfl) ?_
      refine jx_inn ?_
      refine jx_then ?_
      refine jc_region ?_
      refine jo_f [(0, 0), (0, 0)] (by kernel_rfl) ?_
      refine jo_end (by kernel_rfl) ?_
      exact jx_back ((xs_13 ++ [(⟨x_17.fTurns, 1, v2.fPin, (w64 x_17.fStep), (w64 x_17.fTrack)⟩ : Gpart)]), (w64 (i_14 + 1))) ⟨o_466, cap_467, sp_468, (xs_13 ++ [(⟨x_17.fTurns, 1, v2.fPin, (w64 x_17.fStep), (w64 x_17.fTrack)⟩ : Gpart)]).length⟩ (Option.some.inj h).symm ⟨rfl, hs_469, ho_470⟩ [0, 1, 2, 3] (by kernel_rfl) (by kernel_rfl) (by kernel_rfl)
    · replace h := ifF hc_461 h
      refine jc_exit ?_
      refine jx_thenx ?_
      refine jx_leave xs_13 (Option.some.inj h).symm (fun e_471 => ?_)
      subst e_471
      refine jx_ine ?_
      exact jx_meet ⟨xs_13, o_452, cap_453, sp_454, xs_13.length⟩ ⟨hr_458, rfl, hs_456, ho_457⟩ (by kernel_rfl) [0, 1, 2, 3] (by kernel_rfl) (by kernel_rfl)
  · rintro ⟨xs_1, o_158, cap_159, sp_160, n_161⟩ ⟨h, rfl, hs_162, ho_163⟩
    replace h : impl_Wear_parts.k_2 w0 f1 v2 xs_1 = some r := h
    rw [impl_Wear_parts.k_2] at h
    refine jx_then ?_
    refine jc_seq ?_
    refine jc_seq ?_
    refine jc_draw [⟨some b_1, 52, [(.slice w0_fPins_a w0.fPins.length w0_fPins_c), (.slice w0_fStrokes_a w0.fStrokes.length w0_fStrokes_c)]⟩, ⟨some b_2, 35, [(.int .i16 f1.fSteps), (.slice f1_fHammers_a f1.fHammers.length f1_fHammers_c)]⟩, ⟨some b_3, 94, [(.int .i64 v2.fPin), (.int .i64 v2.fHammer)]⟩, ⟨o_158, 162, row encGpart xs_1 sp_160⟩] 6 (by kernel_rfl) (by kernel_rfl) ?_
    refine jd_f [⟨0, 1, 0⟩, ⟨1, 0, 0⟩, ⟨5, 0, 0⟩] 3 (by kernel_rfl) (by kernel_rfl) (fun w h => h.pick [0, 1, 2, 3] (by kernel_rfl) (by kernel_rfl)) (by kernel_rfl) (by kernel_rfl) ?_
    obtain ⟨t_3, ht_301, h⟩ := bd h
    refine toD 2 (by kernel_rfl) (p_call 0 102 #[(.agg #[(.slice w0_fPins_a w0.fPins.length w0_fPins_c), (.slice w0_fStrokes_a w0.fStrokes.length w0_fStrokes_c)])] (by kernel_rfl) (by kernel_rfl) (fun w hm => impl_Wear_drum.calls w0 w _ w0_fPins_a w0.fPins.length w0_fPins_c (hm.exRow w0_fPins_h List.not_mem_nil) rfl w0_fStrokes_a w0.fStrokes.length w0_fStrokes_c (hm.exRow w0_fStrokes_h List.not_mem_nil) rfl ht_301) ?_)
    rintro w v w' hm ⟨rfl, hm'⟩
    refine ⟨_, hm.app hm', jkD (fun w h => h.pick [0, 1, 2, 3] (by kernel_rfl) (by kernel_rfl)) ?_⟩
    clear hm hm'
    obtain ⟨t_4, ht_302, h⟩ := bd h
    refine toD 3 (by kernel_rfl) (p_call 0 93 #[(.agg #[(.int .i16 f1.fSteps), (.slice f1_fHammers_a f1.fHammers.length f1_fHammers_c)]), (.agg (row encU32 t_3.1 []).toArray)] (by kernel_rfl) (by kernel_rfl) (fun w hm => impl_Frame_byTrack.calls f1 t_3 w _ f1_fHammers_a f1.fHammers.length f1_fHammers_c (hm.exRow f1_fHammers_h List.not_mem_nil) rfl ht_302) ?_)
    rintro w v w' hm ⟨o_303, cap_304, sp_305, _, rfl, hs_306, ho_307, rfl, hm'⟩
    refine ⟨_, hm.app hm', jkD (fun w h => h.pick [0, 1, 2, 3] (by kernel_rfl) (by kernel_rfl)) ?_⟩
    clear hm hm'
    refine jd_f [⟨4, 0, 0⟩] 0 (by kernel_rfl) (by kernel_rfl) (fun w h => h.pick [0, 1, 2, 3] (by kernel_rfl) (by kernel_rfl)) (by kernel_rfl) (by kernel_rfl) ?_
    refine jd_end (by kernel_rfl) ?_
    refine jx_then ?_
    refine jc_meet (fun (j : (List Gpart) × (Option Nat) × Nat × (List Value) × Nat) => match j with | ⟨xs_5, o_363, cap_364, sp_365, n_366⟩ => impl_Wear_parts.k_6 xs_5 = some r ∧ (xs_5.length = n_366) ∧ ((o_363 ≠ none → n_366 ≤ cap_364 ∧ sp_365.length = (cap_364 - n_366) * 5)) ∧ ((o_363 = none → xs_5 = [] ∧ cap_364 = 0))) (fun (j : (List Gpart) × (Option Nat) × Nat × (List Value) × Nat) => match j with | ⟨xs_5, o_363, cap_364, sp_365, n_366⟩ => [(6, [], (.slice none 0 0)), (7, [], (.slice (o_363.map fun b => ⟨b, 0, none⟩) n_366 cap_364))]) (fun (j : (List Gpart) × (Option Nat) × Nat × (List Value) × Nat) => match j with | ⟨xs_5, o_363, cap_364, sp_365, n_366⟩ => [⟨some b_1, 52, [(.slice w0_fPins_a w0.fPins.length w0_fPins_c), (.slice w0_fStrokes_a w0.fStrokes.length w0_fStrokes_c)]⟩, ⟨some b_2, 35, [(.int .i16 f1.fSteps), (.slice f1_fHammers_a f1.fHammers.length f1_fHammers_c)]⟩, ⟨some b_3, 94, [(.int .i64 v2.fPin), (.int .i64 v2.fHammer)]⟩, ⟨o_363, 162, row encGpart xs_5 sp_365⟩, ⟨o_303, 2, row encI64 t_4 sp_305⟩]) ?_ ?_
    · refine jc_block ?_
      obtain ⟨t_10, ht_423, hr_407⟩ := bd h
      refine jc_loop (fun (s : (List Gpart) × Int) (x : (Option Nat) × Nat × (List Value) × Nat) => match s, x with | ⟨xs_7, i_8⟩, ⟨o_401, cap_402, sp_403, n_404⟩ => (xs_7.length = n_404) ∧ ((o_401 ≠ none → n_404 ≤ cap_402 ∧ sp_403.length = (cap_402 - n_404) * 5)) ∧ ((o_401 = none → xs_7 = [] ∧ cap_402 = 0))) (fun (s : (List Gpart) × Int) (x : (Option Nat) × Nat × (List Value) × Nat) => match s, x with | ⟨xs_7, i_8⟩, ⟨o_401, cap_402, sp_403, n_404⟩ => [(3, [], (.pointer (some ⟨b_1, 0, none⟩))), (5, [], (.pointer (some ⟨b_3, 0, none⟩))), (6, [], (.slice none 0 0)), (7, [], (.slice (o_401.map fun b => ⟨b, 0, none⟩) n_404 cap_402)), (38, [], (.slice (o_303.map fun b => ⟨b, 0, none⟩) t_4.length cap_304)), (39, [], (.int .i64 (t_4.length : Int))), (40, [], (.int .i64 i_8))]) (fun (s : (List Gpart) × Int) (x : (Option Nat) × Nat × (List Value) × Nat) => match s, x with | ⟨xs_7, i_8⟩, ⟨o_401, cap_402, sp_403, n_404⟩ => [⟨some b_1, 52, [(.slice w0_fPins_a w0.fPins.length w0_fPins_c), (.slice w0_fStrokes_a w0.fStrokes.length w0_fStrokes_c)]⟩, ⟨some b_2, 35, [(.int .i16 f1.fSteps), (.slice f1_fHammers_a f1.fHammers.length f1_fHammers_c)]⟩, ⟨some b_3, 94, [(.int .i64 v2.fPin), (.int .i64 v2.fHammer)]⟩, ⟨o_401, 162, row encGpart xs_7 sp_403⟩, ⟨o_303, 2, row encI64 t_4 sp_305⟩]) ht_423 ⟨o_158, cap_159, sp_160, xs_1.length⟩ ⟨rfl, hs_162, ho_163⟩ (by kernel_rfl) [0, 1, 2, 3, 4] (by kernel_rfl) (by kernel_rfl) ?_
      rintro ⟨xs_7, i_8⟩ ⟨o_401, cap_402, sp_403, n_404⟩ y_408 ⟨rfl, hs_405, ho_406⟩ h
      rw [impl_Wear_parts.l_9] at h
      refine jc_seq ?_
      refine jc_region ?_
      refine jo_f [(0, 0)] (by kernel_rfl) ?_
      refine jo_end (by kernel_rfl) ?_
      refine jx_then ?_
      refine jc_seq ?_
      refine jc_cond (decide (i_8 < (t_4.length : Int))) (by kernel_rfl) (fun hc_410 => ?_) (fun hc_410 => ?_)
      · replace h := ifT hc_410 h
        refine jc_skip ?_
        refine jx_then ?_
        refine jc_seq ?_
        refine jc_block ?_
        refine jc_seq ?_
        refine jc_region ?_
        refine jo_f [(0, 0)] (by kernel_rfl) ?_
        obtain ⟨x_11, hx_411, h⟩ := bd h
        refine toO (by kernel_rfl) (p_idx 0 (o_303.map fun b => ⟨b, 0, none⟩) t_4.length i_8 1 (by kernel_rfl) (by kernel_rfl) (ix_some hx_411).1 (ltn hx_411 rfl) (spo ho_307 hx_411) (jkO ?_))
        refine toO (by kernel_rfl) (p_ld 0 (aB (o_303.map fun b => ⟨b, 0, none⟩)) (aO (o_303.map fun b => ⟨b, 0, none⟩) + i_8.toNat * 1) false (encI64 x_11) (by kernel_rfl) (by kernel_rfl) (by kernel_rfl) (fun w hm => ((hm.ownRow (hh := 4) (o := o_303) (T := 2) (enc := encI64) (xs := t_4) (sp := sp_305) (by kernel_rfl) (fun e => (ho_307 e).1) encI64_len).at hx_411)) (jkO ?_))
        refine jo_f [(0, 0), (0, 0)] (by kernel_rfl) ?_
        refine jo_end (by kernel_rfl) ?_
        refine jx_then ?_
        refine jc_draw [⟨some b_1, 52, [(.slice w0_fPins_a w0.fPins.length w0_fPins_c), (.slice w0_fStrokes_a w0.fStrokes.length w0_fStrokes_c)]⟩, ⟨some b_2, 35, [(.int .i16 f1.fSteps), (.slice f1_fHammers_a f1.fHammers.length f1_fHammers_c)]⟩, ⟨some b_3, 94, [(.int .i64 v2.fPin), (.int .i64 v2.fHammer)]⟩, ⟨o_303, 2, row encI64 t_4 sp_305⟩] 14 (by kernel_rfl) (by kernel_rfl) ?_
        refine jd_f [⟨0, 0, 0⟩, ⟨1, 0, 0⟩, ⟨2, 0, 0⟩, ⟨3, 0, 0⟩, ⟨6, 0, 0⟩, ⟨7, 0, 0⟩, ⟨8, 2, 0⟩, ⟨9, 0, 0⟩] 6 (by kernel_rfl) (by kernel_rfl) (fun w h => h.pick [0, 1, 2, 4] (by kernel_rfl) (by kernel_rfl)) (by kernel_rfl) (by kernel_rfl) ?_
        obtain ⟨x_12, hx_414, h⟩ := bd h
        refine jd_v 4 0 (by kernel_rfl) (fun w h => h.pick [0, 1, 2, 4] (by kernel_rfl) (by kernel_rfl)) (by kernel_rfl) (by kernel_rfl) _ (fun w hm => idx_run (a := w0_fStrokes_a) (len := w0.fStrokes.length) (s := 1) (j := i_8) (by kernel_rfl) (ix_some hx_414).1 (ltn hx_414 rfl) (w0_fStrokes_h.sp hx_414)) ?_
        refine jd_v 5 0 (by kernel_rfl) (fun w h => h.pick [0, 1, 2, 4] (by kernel_rfl) (by kernel_rfl)) (by kernel_rfl) (by kernel_rfl) _ (fun w hm => ld_run (b := aB w0_fStrokes_a) (off := (aO w0_fStrokes_a + i_8.toNat * 1)) (s := 1) (agg := false) (vs := (encI64 x_12)) (by kernel_rfl) (by kernel_rfl) (.inr rfl) ((hm.exRow w0_fStrokes_h List.not_mem_nil).at hx_414)) ?_
        refine jd_f [⟨10, 0, 0⟩] 3 (by kernel_rfl) (by kernel_rfl) (fun w h => h.pick [0, 1, 2, 4] (by kernel_rfl) (by kernel_rfl)) (by kernel_rfl) (by kernel_rfl) ?_
        refine toD 11 (by kernel_rfl) (p_a 0 [0] (by kernel_rfl) (fun b => by kernel_rfl) (fun b_415 => jkD (fun w h => h.pick [0, 1, 2, 4] (by kernel_rfl) (by kernel_rfl)) ?_))
        obtain ⟨hg_416, h⟩ := gd h
        refine toD 12 (by kernel_rfl) (p_apn 0 3 o_401 162 xs_7.length 1 cap_402 5 40 (some ⟨b_415, 0, none⟩) encGpart xs_7 [(⟨x_12, x_11, v2.fHammer, (-1), i_8⟩ : Gpart)] sp_403 (.agg #[(.int .i64 0), (.int .i64 0), (.int .i64 0), (.int .i64 0), (.int .i64 0)]) rfl rfl (by kernel_rfl) (by kernel_rfl) (by kernel_rfl) encGpart_len encGpart_cell hs_405 ho_406 (fun w hm => (hm.ownRow (hh := 5) (o := (some b_415)) (T := 162) (enc := encGpart) (xs := [(⟨x_12, x_11, v2.fHammer, (-1), i_8⟩ : Gpart)]) (sp := []) (by kernel_rfl) (fun e => nomatch e) encGpart_len)) hg_416 (by kernel_rfl) (by kernel_rfl) (fun o_417 cap_418 sp_419 hs_420 ho_421 => jkD (fun w h => h.pick [0, 1, 2, 4] (by kernel_rfl) (by kernel_rfl)) ?_))
        refine jd_f [⟨13, 0, 0⟩] 0 (by kernel_rfl) (by kernel_rfl) (fun w h => h.pick [0, 1, 2, 4] (by kernel_rfl) (by kernel_rfl)) (by kernel_rfl) (by kernel_rfl) ?_
        refine jd_end (by kernel_rfl) ?_
        refine jx_inn ?_
        refine jx_then ?_
        refine jc_region ?_
        refine jo_f [(0, 0), (0, 0)] (by kernel_rfl) ?_
        refine jo_end (by kernel_rfl) ?_
        exact jx_back ((xs_7 ++ [(⟨x_12, x_11, v2.fHammer, (-1), i_8⟩ : Gpart)]), (w64 (i_8 + 1))) ⟨o_417, cap_418, sp_419, (xs_7 ++ [(⟨x_12, x_11, v2.fHammer, (-1), i_8⟩ : Gpart)]).length⟩ (Option.some.inj h).symm ⟨rfl, hs_420, ho_421⟩ [0, 1, 2, 3, 4] (by kernel_rfl) (by kernel_rfl) (by kernel_rfl)
      · replace h := ifF hc_410 h
        refine jc_exit ?_
        refine jx_thenx ?_
        refine jx_leave xs_7 (Option.some.inj h).symm (fun e_422 => ?_)
        subst e_422
        refine jx_ine ?_
        exact jx_meet ⟨xs_7, o_401, cap_402, sp_403, xs_7.length⟩ ⟨hr_407, rfl, hs_405, ho_406⟩ (by kernel_rfl) [0, 1, 2, 3, 4] (by kernel_rfl) (by kernel_rfl)
    · rintro ⟨xs_5, o_363, cap_364, sp_365, n_366⟩ ⟨h, rfl, hs_367, ho_368⟩
      replace h : impl_Wear_parts.k_6 xs_5 = some r := h
      rw [impl_Wear_parts.k_6] at h
      refine jx_then ?_
      refine jc_seq ?_
      refine jc_region ?_
      refine jo_f [(0, 0), (0, 0)] (by kernel_rfl) ?_
      refine jo_end (by kernel_rfl) ?_
      refine jx_then ?_
      refine jc_ret ?_
      obtain rfl := Option.some.inj h
      exact jx_ret [] (.slice (o_363.map fun b => ⟨b, 0, none⟩) xs_5.length cap_364) [] rfl (by kernel_rfl) (by kernel_rfl) (fun w hm => ⟨o_363, cap_364, sp_365, xs_5.length, rfl, hs_367, ho_368, rfl, hm.pick [3] (by kernel_rfl) (by kernel_rfl)⟩)

/-! ### (impl.part).isWorn -/
noncomputable def impl_part_isWorn (p0 : Gpart) : Option (Bool) := some (decide (p0.fmade > p0.flife))
set_option maxRecDepth 100000 in
theorem impl_part_isWorn.calls (p0 : Gpart) (w : World) (r : Bool) (h : impl_part_isWorn p0 = some r) :
    Calls Try.prog 127 #[(.agg #[(.int .i64 p0.fmade), (.int .i64 p0.feach), (.int .i64 p0.flife), (.int .i64 p0.fstep), (.int .i64 p0.ftrack)])] w fun e w' => ∃ v, e = .returned v ∧ (v = (.bool r) ∧ Mem w [] [] w') := by
  rw [impl_part_isWorn] at h
  refine enter (args := [(.agg #[(.int .i64 p0.fmade), (.int .i64 p0.feach), (.int .i64 p0.flife), (.int .i64 p0.fstep), (.int .i64 p0.ftrack)])]) Try.func127 rfl Try.ntmps127 (by kernel_rfl) (L := []) (W := []) (Mem.start w) ?_
  refine jc_seq ?_
  refine jc_region ?_
  refine toO (by kernel_rfl) (p_a 0 [0] (by kernel_rfl) (fun b => by kernel_rfl) (fun b_1 => jkO ?_))
  refine jo_f [(0, 0)] (by kernel_rfl) ?_
  refine jo_end (by kernel_rfl) ?_
  refine jx_then ?_
  refine jc_seq ?_
  refine jc_region ?_
  refine jo_f [(0, 0), (0, 0), (0, 0), (0, 0), (0, 0), (0, 0)] (by kernel_rfl) ?_
  refine jo_end (by kernel_rfl) ?_
  refine jx_then ?_
  refine jc_ret ?_
  obtain rfl := Option.some.inj h
  exact jx_ret [] (.bool (decide (p0.fmade > p0.flife))) [] rfl (by kernel_rfl) (by kernel_rfl) (fun w hm => ⟨rfl, hm.pick [] (by kernel_rfl) (by kernel_rfl)⟩)
end Go.Proofs.Ytdnkjgmncfhejaa
