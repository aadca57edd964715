/- Functions of the program that the laws reach: a plain function each, and that the call comes to its answer if the plain function has one. Printed by a program. -/
import Derived.Test.YtilackblefjgdaaT
import Derived.Test.YtilackblefjgdaaM0
import Derived.Test.YtilackblefjgdaaM1
import Derived.Test.YtilackblefjgdaaM6
namespace Go.Proofs.Ytilackblefjgdaa
open Eng
set_option linter.unusedVariables false

/-! ### laws.toCosts -/
noncomputable def laws_toCosts (a0 : GCosts) : Option (GCosts) := some a0
set_option maxRecDepth 100000 in
theorem laws_toCosts.calls (a0 : GCosts) (w : World) (r : GCosts) (h : laws_toCosts a0 = some r) :
    Calls Try.prog 43 #[(.agg #[(.int .i16 a0.fAway), (.int .i16 a0.fOctave), (.int .i16 a0.fStep)])] w fun e w' => ∃ v, e = .returned v ∧ (v = .agg #[(.int .i16 r.fAway), (.int .i16 r.fOctave), (.int .i16 r.fStep)] ∧ Mem w [] [] w') := by
  rw [laws_toCosts] at h
  refine enter (args := [(.agg #[(.int .i16 a0.fAway), (.int .i16 a0.fOctave), (.int .i16 a0.fStep)])]) Try.func43 rfl Try.ntmps43 (by kernel_rfl) (L := []) (W := []) (Mem.start w) ?_
  refine jc_seq ?_
  refine jc_region ?_
  refine toO (by kernel_rfl) (p_a 0 [0] (by kernel_rfl) (fun b => by kernel_rfl) (fun b_1 => jkO ?_))
  refine toO (by kernel_rfl) (p_a 0 [0] (by kernel_rfl) (fun b => by kernel_rfl) (fun b_2 => jkO ?_))
  refine jo_end (by kernel_rfl) ?_
  refine jx_then ?_
  refine jc_seq ?_
  refine jc_region ?_
  refine toO (by kernel_rfl) (p_a 0 [0] (by kernel_rfl) (fun b => by kernel_rfl) (fun b_3 => jkO ?_))
  refine jo_end (by kernel_rfl) ?_
  refine jx_then ?_
  refine jc_seq ?_
  refine jc_region ?_
  refine jo_f [(0, 0), (0, 0), (0, 0)] (by kernel_rfl) ?_
  refine toO (by kernel_rfl) (p_s 0 [2] (by kernel_rfl) (by kernel_rfl) (jkO ?_))
  refine jo_end (by kernel_rfl) ?_
  refine jx_then ?_
  refine jc_seq ?_
  refine jc_region ?_
  refine jo_f [(0, 0), (0, 0), (0, 0)] (by kernel_rfl) ?_
  refine toO (by kernel_rfl) (p_s 0 [2] (by kernel_rfl) (by kernel_rfl) (jkO ?_))
  refine jo_end (by kernel_rfl) ?_
  refine jx_then ?_
  refine jc_seq ?_
  refine jc_region ?_
  refine jo_f [(0, 0), (0, 0), (0, 0)] (by kernel_rfl) ?_
  refine toO (by kernel_rfl) (p_s 0 [2] (by kernel_rfl) (by kernel_rfl) (jkO ?_))
  refine jo_end (by kernel_rfl) ?_
  refine jx_then ?_
  refine jc_seq ?_
  refine jc_region ?_
  refine jo_f [(2, 0)] (by kernel_rfl) ?_
  refine toO (by kernel_rfl) (p_s 0 [1] (by kernel_rfl) (by kernel_rfl) (jkO ?_))
  refine jo_end (by kernel_rfl) ?_
  refine jx_then ?_
  refine jc_ret ?_
  obtain rfl := Option.some.inj h
  exact jx_ret [1] (.agg #[(.int .i16 a0.fAway), (.int .i16 a0.fOctave), (.int .i16 a0.fStep)]) [(b_2, b_2), (b_2, b_2), (b_2, b_2)] rfl (by kernel_rfl) (by kernel_rfl) (fun w hm => ⟨rfl, hm.pick [] (by kernel_rfl) (by kernel_rfl)⟩)

/-! ### spec.l07Costs -/
noncomputable def spec_l07Costs (c0 : GCosts) : Option (Bool) := (spec_l00In (w64 c0.fAway) 0 1000).bind fun t_1 => (if t_1 = true then (spec_l00In (w64 c0.fOctave) 0 1000).bind fun t_2 => (if t_2 = true then (spec_l00In (w64 c0.fStep) 0 1000).bind fun t_3 => some t_3 else some false) else some false)
set_option maxRecDepth 100000 in
theorem spec_l07Costs.calls (c0 : GCosts) (w : World) (r : Bool) (h : spec_l07Costs c0 = some r) :
    Calls Try.prog 146 #[(.agg #[(.int .i16 c0.fAway), (.int .i16 c0.fOctave), (.int .i16 c0.fStep)])] w fun e w' => ∃ v, e = .returned v ∧ (v = (.bool r) ∧ Mem w [] [] w') := by
  rw [spec_l07Costs] at h
  refine enter (args := [(.agg #[(.int .i16 c0.fAway), (.int .i16 c0.fOctave), (.int .i16 c0.fStep)])]) Try.func146 rfl Try.ntmps146 (by kernel_rfl) (L := []) (W := []) (Mem.start w) ?_
  refine jc_seq ?_
  refine jc_region ?_
  refine toO (by kernel_rfl) (p_a 0 [0] (by kernel_rfl) (fun b => by kernel_rfl) (fun b_1 => jkO ?_))
  refine jo_f [(0, 0)] (by kernel_rfl) ?_
  refine jo_end (by kernel_rfl) ?_
  refine jx_then ?_
  refine jc_seq ?_
  refine jc_region ?_
  refine jo_f [(0, 0), (0, 0), (0, 0)] (by kernel_rfl) ?_
  obtain ⟨t_1, ht_2, h⟩ := bd h
  refine toO (by kernel_rfl) (p_call 0 90 #[(.int .i64 (w64 c0.fAway)), (.int .i64 0), (.int .i64 1000)] (by kernel_rfl) (by kernel_rfl) (fun w hm => spec_l00In.calls (w64 c0.fAway) 0 1000 w _ ht_2) ?_)
  rintro w v w' hm ⟨rfl, hm'⟩
  refine ⟨_, hm.app hm', jkO ?_⟩
  clear hm hm'
  refine jo_f [(0, 0), (0, 1), (0, 1), (0, 1)] (by kernel_rfl) ?_
  refine jo_split 7 t_1 (by kernel_rfl) (fun hc_3 => ?_) (fun hc_3 => ?_)
  · replace h := ifT hc_3 h
    obtain ⟨t_2, ht_4, h⟩ := bd h
    refine toO (by kernel_rfl) (p_call 2 90 #[(.int .i64 (w64 c0.fOctave)), (.int .i64 0), (.int .i64 1000)] (by kernel_rfl) (by kernel_rfl) (fun w hm => spec_l00In.calls (w64 c0.fOctave) 0 1000 w _ ht_4) ?_)
    rintro w v w' hm ⟨rfl, hm'⟩
    refine ⟨_, hm.app hm', jkO ?_⟩
    clear hm hm'
    refine jo_f [(0, 4), (0, 0), (0, 1), (0, 1), (0, 1)] (by kernel_rfl) ?_
    refine jo_split 13 t_2 (by kernel_rfl) (fun hc_5 => ?_) (fun hc_5 => ?_)
    · replace h := ifT hc_5 h
      obtain ⟨t_3, ht_6, h⟩ := bd h
      refine toO (by kernel_rfl) (p_call 2 90 #[(.int .i64 (w64 c0.fStep)), (.int .i64 0), (.int .i64 1000)] (by kernel_rfl) (by kernel_rfl) (fun w hm => spec_l00In.calls (w64 c0.fStep) 0 1000 w _ ht_6) ?_)
      rintro w v w' hm ⟨rfl, hm'⟩
      refine ⟨_, hm.app hm', jkO ?_⟩
      clear hm hm'
      refine jo_f [(0, 4), (0, 0)] (by kernel_rfl) ?_
      refine jo_end (by kernel_rfl) ?_
      refine jx_then ?_
      refine jc_ret ?_
      obtain rfl := Option.some.inj h
      exact jx_ret [] (.bool t_3) [] rfl (by kernel_rfl) (by kernel_rfl) (fun w hm => ⟨rfl, hm.pick [] (by kernel_rfl) (by kernel_rfl)⟩)
    · replace h := ifF hc_5 h
      refine jo_f [(0, 3), (0, 5), (0, 0)] (by kernel_rfl) ?_
      refine jo_end (by kernel_rfl) ?_
      refine jx_then ?_
      refine jc_ret ?_
      obtain rfl := Option.some.inj h
      exact jx_ret [] (.bool false) [] rfl (by kernel_rfl) (by kernel_rfl) (fun w hm => ⟨rfl, hm.pick [] (by kernel_rfl) (by kernel_rfl)⟩)
  · replace h := ifF hc_3 h
    refine jo_f [(0, 3), (0, 5), (0, 0), (0, 3), (0, 3), (0, 3), (0, 3), (0, 5), (0, 0)] (by kernel_rfl) ?_
    refine jo_end (by kernel_rfl) ?_
    refine jx_then ?_
    refine jc_ret ?_
    obtain rfl := Option.some.inj h
    exact jx_ret [] (.bool false) [] rfl (by kernel_rfl) (by kernel_rfl) (fun w hm => ⟨rfl, hm.pick [] (by kernel_rfl) (by kernel_rfl)⟩)

/-! ### spec.l07Given -/
noncomputable def spec_l07Given.k_2 (q_1 : Bool) : Option (Int) := (if q_1 = true then some 1 else some 0)
noncomputable def spec_l07Given (f0 : GFrame) (t1 : List GNote) (c2 : GCosts) : Option (Int) := (spec_l02Frame f0).bind fun t_3 => (if (!t_3) = true then spec_l07Given.k_2 true else (spec_l01Ok t1).bind fun t_4 => (if (!t_4) = true then spec_l07Given.k_2 true else (spec_l07Costs c2).bind fun t_5 => spec_l07Given.k_2 (!t_5)))
set_option maxRecDepth 100000 in
theorem spec_l07Given.calls (f0 : GFrame) (t1 : List GNote) (c2 : GCosts) (w : World) (r : Int) (f0_fHammers_a : Option Addr) (f0_fHammers_an : Nat) (f0_fHammers_c : Nat) (f0_fHammers_h : Rw w f0_fHammers_a 2 encGHammer f0.fHammers) (f0_fHammers_hn : f0.fHammers.length = f0_fHammers_an) (t1_a : Option Addr) (t1_an : Nat) (t1_c : Nat) (t1_h : Rw w t1_a 2 encGNote t1) (t1_hn : t1.length = t1_an) (f0_b : Nat) (hm0 : Mem w (bs [some f0_b]) [⟨some f0_b, 38, [(.int .i16 f0.fSteps), (.slice f0_fHammers_a f0_fHammers_an f0_fHammers_c)]⟩] w) (f0_fHammers_ha : f0.fHammers ≠ [] → aB f0_fHammers_a ∉ bs [some f0_b]) (t1_ha : t1 ≠ [] → aB t1_a ∉ bs [some f0_b]) (h : spec_l07Given f0 t1 c2 = some r) :
    Calls Try.prog 94 #[(.pointer (some ⟨f0_b, 0, none⟩)), (.slice t1_a t1_an t1_c), (.agg #[(.int .i16 c2.fAway), (.int .i16 c2.fOctave), (.int .i16 c2.fStep)])] w fun e w' => ∃ v, e = .returned v ∧ (v = (.int .i64 r) ∧ Mem w (bs [some f0_b]) [⟨some f0_b, 38, [(.int .i16 f0.fSteps), (.slice f0_fHammers_a f0_fHammers_an f0_fHammers_c)]⟩] w') := by
  subst f0_fHammers_hn t1_hn
  rw [spec_l07Given] at h
  refine enter (args := [(.pointer (some ⟨f0_b, 0, none⟩)), (.slice t1_a t1.length t1_c), (.agg #[(.int .i16 c2.fAway), (.int .i16 c2.fOctave), (.int .i16 c2.fStep)])]) Try.func94 rfl Try.ntmps94 (by kernel_rfl) (L := [⟨some f0_b, 38, [(.int .i16 f0.fSteps), (.slice f0_fHammers_a f0.fHammers.length f0_fHammers_c)]⟩]) (W := bs [some f0_b]) hm0 ?_
  refine jc_seq ?_
  refine jc_region ?_
  refine toO (by kernel_rfl) (p_a 0 [0] (by kernel_rfl) (fun b => by kernel_rfl) (fun b_1 => jkO ?_))
  refine jo_f [(0, 0)] (by kernel_rfl) ?_
  refine jo_end (by kernel_rfl) ?_
  refine jx_then ?_
  refine jc_seq ?_
  refine jc_seq ?_
  refine jc_meet (fun (j : Bool) => match j with | q_1 => spec_l07Given.k_2 q_1 = some r) (fun (j : Bool) => match j with | q_1 => [(6, [], (.int .i64 0)), (19, [], (.bool q_1))]) (fun (j : Bool) => match j with | q_1 => [⟨some f0_b, 38, [(.int .i16 f0.fSteps), (.slice f0_fHammers_a f0.fHammers.length f0_fHammers_c)]⟩, ⟨some b_1, 82, [(.int .i16 c2.fAway), (.int .i16 c2.fOctave), (.int .i16 c2.fStep)]⟩]) ?_ ?_
  · refine jc_region ?_
    refine jo_f [(0, 0)] (by kernel_rfl) ?_
    obtain ⟨t_3, ht_8, h⟩ := bd h
    refine toO (by kernel_rfl) (p_call 0 140 #[(.pointer (some ⟨f0_b, 0, none⟩))] (by kernel_rfl) (by kernel_rfl) (fun w hm => spec_l02Frame.calls f0 w _ f0_fHammers_a f0.fHammers.length f0_fHammers_c (hm.exRowW f0_fHammers_h f0_fHammers_ha) rfl f0_b (hm.pass (N := [⟨some f0_b, 38, [(.int .i16 f0.fSteps), (.slice f0_fHammers_a f0.fHammers.length f0_fHammers_c)]⟩]) [0] (by kernel_rfl) (by kernel_rfl)) (hm.exApart (N := [⟨some f0_b, 38, [(.int .i16 f0.fSteps), (.slice f0_fHammers_a f0.fHammers.length f0_fHammers_c)]⟩]) f0_fHammers_h f0_fHammers_ha [0] (by kernel_rfl)) ht_8) ?_)
    rintro w v w' hm ⟨rfl, hm'⟩
    refine ⟨_, hm.appW (ps := [(0, ⟨some f0_b, 38, [(.int .i16 f0.fSteps), (.slice f0_fHammers_a f0.fHammers.length f0_fHammers_c)]⟩)]) (N := []) hm' (by kernel_rfl) (by kernel_rfl), jkO ?_⟩
    clear hm hm'
    refine jo_f [(0, 0), (0, 0), (0, 1)] (by kernel_rfl) ?_
    refine jo_split 10 (!t_3) (by kernel_rfl) (fun hc_9 => ?_) (fun hc_9 => ?_)
    · replace h := ifT hc_9 h
      refine jo_f [(0, 3), (0, 3), (0, 4), (0, 0), (0, 3), (0, 3), (0, 3), (0, 4)] (by kernel_rfl) ?_
      refine jo_end (by kernel_rfl) ?_
      exact jx_meet true h (by kernel_rfl) [0, 1] (by kernel_rfl) (by kernel_rfl)
    · replace h := ifF hc_9 h
      obtain ⟨t_4, ht_10, h⟩ := bd h
      refine toO (by kernel_rfl) (p_call 2 141 #[(.slice t1_a t1.length t1_c)] (by kernel_rfl) (by kernel_rfl) (fun w hm => spec_l01Ok.calls t1 w _ t1_a t1.length t1_c (hm.exRowW t1_h t1_ha) rfl ht_10) ?_)
      rintro w v w' hm ⟨rfl, hm'⟩
      refine ⟨_, hm.app hm', jkO ?_⟩
      clear hm hm'
      refine jo_f [(0, 2), (0, 5), (0, 0), (1, 1)] (by kernel_rfl) ?_
      refine jo_split 15 (!t_4) (by kernel_rfl) (fun hc_11 => ?_) (fun hc_11 => ?_)
      · replace h := ifT hc_11 h
        refine jo_f [(0, 3), (0, 3), (0, 4)] (by kernel_rfl) ?_
        refine jo_end (by kernel_rfl) ?_
        exact jx_meet true h (by kernel_rfl) [0, 1] (by kernel_rfl) (by kernel_rfl)
      · replace h := ifF hc_11 h
        obtain ⟨t_5, ht_12, h⟩ := bd h
        refine toO (by kernel_rfl) (p_call 2 146 #[(.agg #[(.int .i16 c2.fAway), (.int .i16 c2.fOctave), (.int .i16 c2.fStep)])] (by kernel_rfl) (by kernel_rfl) (fun w hm => spec_l07Costs.calls c2 w _ ht_12) ?_)
        rintro w v w' hm ⟨rfl, hm'⟩
        refine ⟨_, hm.app hm', jkO ?_⟩
        clear hm hm'
        refine jo_f [(0, 2), (0, 5)] (by kernel_rfl) ?_
        refine jo_end (by kernel_rfl) ?_
        exact jx_meet (!t_5) h (by kernel_rfl) [0, 1] (by kernel_rfl) (by kernel_rfl)
  · rintro q_1 h
    replace h : spec_l07Given.k_2 q_1 = some r := h
    rw [spec_l07Given.k_2] at h
    refine jx_then ?_
    refine jc_cond q_1 (by kernel_rfl) (fun hc_7 => ?_) (fun hc_7 => ?_)
    · replace h := ifT hc_7 h
      refine jc_seq ?_
      refine jc_region ?_
      refine jo_f [(0, 0)] (by kernel_rfl) ?_
      refine jo_end (by kernel_rfl) ?_
      refine jx_then ?_
      refine jc_ret ?_
      refine jx_thenr ?_
      obtain rfl := Option.some.inj h
      exact jx_ret [] (.int .i64 1) [] rfl (by kernel_rfl) (by kernel_rfl) (fun w hm => ⟨rfl, hm.pick [0] (by kernel_rfl) (by kernel_rfl)⟩)
    · replace h := ifF hc_7 h
      refine jc_skip ?_
      refine jx_then ?_
      refine jc_seq ?_
      refine jc_region ?_
      refine jo_f [(0, 0)] (by kernel_rfl) ?_
      refine jo_end (by kernel_rfl) ?_
      refine jx_then ?_
      refine jc_ret ?_
      obtain rfl := Option.some.inj h
      exact jx_ret [] (.int .i64 0) [] rfl (by kernel_rfl) (by kernel_rfl) (fun w hm => ⟨rfl, hm.pick [0] (by kernel_rfl) (by kernel_rfl)⟩)

/-! ### spec.l07Cost -/
noncomputable def spec_l07Cost.k_4 (i_3 : Int) : Option (Int) := some i_3
noncomputable def spec_l07Cost.k_2 (c0 : GCosts) (x1 : GChoice) (i_1 : Int) : Option (Int) := (if (x1.fOctave != 0) = true then spec_l07Cost.k_4 (w64 ((w64 ((w64 c0.fStep) * i_1)) + (w64 c0.fOctave))) else spec_l07Cost.k_4 (w64 ((w64 c0.fStep) * i_1)))
noncomputable def spec_l07Cost (c0 : GCosts) (x1 : GChoice) : Option (Int) := (if x1.fAway = true then some (w64 c0.fAway) else (if (decide ((w64 x1.fLate) < 0)) = true then spec_l07Cost.k_2 c0 x1 (w64 (0 - (w64 x1.fLate))) else spec_l07Cost.k_2 c0 x1 (w64 x1.fLate)))
set_option maxRecDepth 100000 in
theorem spec_l07Cost.calls (c0 : GCosts) (x1 : GChoice) (w : World) (r : Int) (h : spec_l07Cost c0 x1 = some r) :
    Calls Try.prog 97 #[(.agg #[(.int .i16 c0.fAway), (.int .i16 c0.fOctave), (.int .i16 c0.fStep)]), (.agg #[(.bool x1.fAway), (.int .i8 x1.fLate), (.int .i8 x1.fOctave), (.int .i8 x1.fTrack)])] w fun e w' => ∃ v, e = .returned v ∧ (v = (.int .i64 r) ∧ Mem w [] [] w') := by
  rw [spec_l07Cost] at h
  refine enter (args := [(.agg #[(.int .i16 c0.fAway), (.int .i16 c0.fOctave), (.int .i16 c0.fStep)]), (.agg #[(.bool x1.fAway), (.int .i8 x1.fLate), (.int .i8 x1.fOctave), (.int .i8 x1.fTrack)])]) Try.func97 rfl Try.ntmps97 (by kernel_rfl) (L := []) (W := []) (Mem.start w) ?_
  refine jc_seq ?_
  refine jc_region ?_
  refine toO (by kernel_rfl) (p_a 0 [0] (by kernel_rfl) (fun b => by kernel_rfl) (fun b_1 => jkO ?_))
  refine toO (by kernel_rfl) (p_a 0 [0] (by kernel_rfl) (fun b => by kernel_rfl) (fun b_2 => jkO ?_))
  refine jo_f [(0, 0)] (by kernel_rfl) ?_
  refine jo_end (by kernel_rfl) ?_
  refine jx_then ?_
  refine jc_seq ?_
  refine jc_seq ?_
  refine jc_region ?_
  refine jo_f [(0, 0), (1, 0)] (by kernel_rfl) ?_
  refine jo_end (by kernel_rfl) ?_
  refine jx_then ?_
  refine jc_cond x1.fAway (by kernel_rfl) (fun hc_4 => ?_) (fun hc_4 => ?_)
  · replace h := ifT hc_4 h
    refine jc_seq ?_
    refine jc_region ?_
    refine jo_f [(0, 0), (0, 0), (0, 0), (0, 0)] (by kernel_rfl) ?_
    refine jo_end (by kernel_rfl) ?_
    refine jx_then ?_
    refine jc_ret ?_
    refine jx_thenr ?_
    obtain rfl := Option.some.inj h
    exact jx_ret [] (.int .i64 (w64 c0.fAway)) [] rfl (by kernel_rfl) (by kernel_rfl) (fun w hm => ⟨rfl, hm.pick [] (by kernel_rfl) (by kernel_rfl)⟩)
  · replace h := ifF hc_4 h
    refine jc_skip ?_
    refine jx_then ?_
    refine jc_seq ?_
    refine jc_region ?_
    refine jo_f [(0, 0), (1, 0), (0, 0), (0, 0)] (by kernel_rfl) ?_
    refine jo_end (by kernel_rfl) ?_
    refine jx_then ?_
    refine jc_seq ?_
    refine jc_meet (fun (j : Int) => match j with | i_1 => spec_l07Cost.k_2 c0 x1 i_1 = some r) (fun (j : Int) => match j with | i_1 => [(2, [], (.pointer (some ⟨b_1, 0, none⟩))), (3, [], (.pointer (some ⟨b_2, 0, none⟩))), (4, [], (.int .i64 0)), (5, [], (.int .i64 i_1))]) (fun (j : Int) => match j with | i_1 => [⟨some b_1, 82, [(.int .i16 c0.fAway), (.int .i16 c0.fOctave), (.int .i16 c0.fStep)]⟩, ⟨some b_2, 130, [(.bool x1.fAway), (.int .i8 x1.fLate), (.int .i8 x1.fOctave), (.int .i8 x1.fTrack)]⟩]) ?_ ?_
    · refine jc_seq ?_
      refine jc_region ?_
      refine jo_f [(0, 0), (0, 0)] (by kernel_rfl) ?_
      refine jo_end (by kernel_rfl) ?_
      refine jx_then ?_
      refine jc_cond (decide ((w64 x1.fLate) < 0)) (by kernel_rfl) (fun hc_8 => ?_) (fun hc_8 => ?_)
      · replace h := ifT hc_8 h
        refine jc_region ?_
        refine jo_f [(0, 0), (0, 0), (0, 0)] (by kernel_rfl) ?_
        refine jo_end (by kernel_rfl) ?_
        exact jx_meet (w64 (0 - (w64 x1.fLate))) h (by kernel_rfl) [0, 1] (by kernel_rfl) (by kernel_rfl)
      · replace h := ifF hc_8 h
        refine jc_skip ?_
        exact jx_meet (w64 x1.fLate) h (by kernel_rfl) [0, 1] (by kernel_rfl) (by kernel_rfl)
    · rintro i_1 h
      replace h : spec_l07Cost.k_2 c0 x1 i_1 = some r := h
      rw [spec_l07Cost.k_2] at h
      refine jx_then ?_
      refine jc_seq ?_
      refine jc_region ?_
      refine jo_f [(0, 0), (0, 0), (0, 0), (0, 0), (0, 0), (0, 0)] (by kernel_rfl) ?_
      refine jo_end (by kernel_rfl) ?_
      refine jx_then ?_
      refine jc_seq ?_
      refine jc_meet (fun (j : Int) => match j with | i_3 => spec_l07Cost.k_4 i_3 = some r) (fun (j : Int) => match j with | i_3 => [(4, [], (.int .i64 0)), (6, [], (.int .i64 i_3))]) (fun (j : Int) => match j with | i_3 => [⟨some b_1, 82, [(.int .i16 c0.fAway), (.int .i16 c0.fOctave), (.int .i16 c0.fStep)]⟩, ⟨some b_2, 130, [(.bool x1.fAway), (.int .i8 x1.fLate), (.int .i8 x1.fOctave), (.int .i8 x1.fTrack)]⟩]) ?_ ?_
      · refine jc_seq ?_
        refine jc_region ?_
        refine jo_f [(0, 0), (1, 0), (0, 0)] (by kernel_rfl) ?_
        refine jo_end (by kernel_rfl) ?_
        refine jx_then ?_
        refine jc_cond (x1.fOctave != 0) (by kernel_rfl) (fun hc_7 => ?_) (fun hc_7 => ?_)
        · replace h := ifT hc_7 h
          refine jc_region ?_
          refine jo_f [(0, 0), (0, 0), (0, 0), (0, 0), (0, 0), (0, 0)] (by kernel_rfl) ?_
          refine jo_end (by kernel_rfl) ?_
          exact jx_meet (w64 ((w64 ((w64 c0.fStep) * i_1)) + (w64 c0.fOctave))) h (by kernel_rfl) [0, 1] (by kernel_rfl) (by kernel_rfl)
        · replace h := ifF hc_7 h
          refine jc_skip ?_
          exact jx_meet (w64 ((w64 c0.fStep) * i_1)) h (by kernel_rfl) [0, 1] (by kernel_rfl) (by kernel_rfl)
      · rintro i_3 h
        replace h : spec_l07Cost.k_4 i_3 = some r := h
        rw [spec_l07Cost.k_4] at h
        refine jx_then ?_
        refine jc_seq ?_
        refine jc_region ?_
        refine jo_f [(0, 0), (0, 0)] (by kernel_rfl) ?_
        refine jo_end (by kernel_rfl) ?_
        refine jx_then ?_
        refine jc_ret ?_
        obtain rfl := Option.some.inj h
        exact jx_ret [] (.int .i64 i_3) [] rfl (by kernel_rfl) (by kernel_rfl) (fun w hm => ⟨rfl, hm.pick [] (by kernel_rfl) (by kernel_rfl)⟩)

/-! ### spec.Greedy -/
noncomputable def spec_Greedy.k_4 (xs_2 : List GChoice) (a_3 : Arr 96 Int) : Option ((List GChoice) × Int) := some (xs_2, 0)
noncomputable def spec_Greedy.k_13 (f0 : GFrame) (t1 : List GNote) (xs_5 : List GChoice) (a_6 : Arr 96 Int) (i_7 : Int) (t_11 : (List GChoice)) (i_12 : Int) : Option (((List GChoice) × (Arr 96 Int) × Int) ⊕ (((List GChoice) × (Arr 96 Int)))) := (ix t1 i_7).bind fun x_14 => (ix t_11 i_12).bind fun x_15 => (spec_l07Put f0 a_6 x_14 x_15).bind fun t_16 => (ix t_11 i_12).bind fun x_17 => (if xs_5.length + [x_17].length ≤ 4294967296 then some (.inl ((xs_5 ++ [x_17]), t_16.2, (w64 (i_7 + 1)))) else none)
noncomputable def spec_Greedy.k_24 (i_18 : Int) (i_19 : Int) (a_22 : Arr 96 Int) (q_23 : Bool) : Option ((Int × Int) ⊕ (Int)) := (if q_23 = true then some (.inl (i_19, (w64 (i_19 + 1)))) else some (.inl (i_18, (w64 (i_19 + 1)))))
noncomputable def spec_Greedy.l_20 (f0 : GFrame) (t1 : List GNote) (c2 : GCosts) (a_6 : Arr 96 Int) (i_7 : Int) (t_11 : (List GChoice)) : (Int × Int) → Option ((Int × Int) ⊕ (Int))
  | (i_18, i_19) => (if (decide (i_19 < (t_11.length : Int))) = true then (ix t1 i_7).bind fun x_25 => (ix t_11 i_19).bind fun x_26 => (spec_l07Put f0 a_6 x_25 x_26).bind fun t_27 => (if t_27.1 = true then (if (decide (i_18 < 0)) = true then spec_Greedy.k_24 i_18 i_19 t_27.2 true else (ix t_11 i_19).bind fun x_28 => (ix t_11 i_18).bind fun x_29 => (spec_l07Cost c2 x_28).bind fun t_30 => (spec_l07Cost c2 x_29).bind fun t_31 => spec_Greedy.k_24 i_18 i_19 t_27.2 (decide (t_30 < t_31))) else spec_Greedy.k_24 i_18 i_19 t_27.2 false) else some (.inr i_18))
noncomputable def spec_Greedy.l_8 (f0 : GFrame) (t1 : List GNote) (c2 : GCosts) : ((List GChoice) × (Arr 96 Int) × Int) → Option (((List GChoice) × (Arr 96 Int) × Int) ⊕ (((List GChoice) × (Arr 96 Int))))
  | (xs_5, a_6, i_7) => (if (decide (i_7 < (t1.length : Int))) = true then (ix t1 i_7).bind fun x_10 => (spec_l07For f0 x_10).bind fun t_11 => (loop (spec_Greedy.l_20 f0 t1 c2 a_6 i_7 t_11) ((-1), 0)).bind fun t_21 => spec_Greedy.k_13 f0 t1 xs_5 a_6 i_7 t_11 t_21 else some (.inr (xs_5, a_6)))
noncomputable def spec_Greedy (f0 : GFrame) (t1 : List GNote) (c2 : GCosts) : Option ((List GChoice) × Int) := (spec_l07Given f0 t1 c2).bind fun t_1 => (if (t_1 != 0) = true then some (([] : List GChoice), t_1) else (loop (spec_Greedy.l_8 f0 t1 c2) (([] : List GChoice), (Arr.rep 96 0), 0)).bind fun t_9 => spec_Greedy.k_4 t_9.1 t_9.2)
set_option maxRecDepth 100000 in
set_option maxHeartbeats 8000000 in
theorem spec_Greedy.calls (f0 : GFrame) (t1 : List GNote) (c2 : GCosts) (w : World) (r : (List GChoice) × Int) (f0_fHammers_a : Option Addr) (f0_fHammers_an : Nat) (f0_fHammers_c : Nat) (f0_fHammers_h : Rw w f0_fHammers_a 2 encGHammer f0.fHammers) (f0_fHammers_hn : f0.fHammers.length = f0_fHammers_an) (t1_a : Option Addr) (t1_an : Nat) (t1_c : Nat) (t1_h : Rw w t1_a 2 encGNote t1) (t1_hn : t1.length = t1_an) (h : spec_Greedy f0 t1 c2 = some r) :
    Calls Try.prog 42 #[(.agg #[(.int .i16 f0.fSteps), (.slice f0_fHammers_a f0_fHammers_an f0_fHammers_c)]), (.slice t1_a t1_an t1_c), (.agg #[(.int .i16 c2.fAway), (.int .i16 c2.fOctave), (.int .i16 c2.fStep)])] w fun e w' => ∃ v, e = .returned v ∧ (∃ (o0 : Option Nat) (c0 : Nat) (s0 : List Value) (n0 : Nat), r.1.length = n0 ∧ (o0 ≠ none → n0 ≤ c0 ∧ s0.length = (c0 - n0) * 4) ∧ (o0 = none → r.1 = [] ∧ c0 = 0) ∧ v = .tuple #[.slice (o0.map fun b => ⟨b, 0, none⟩) n0 c0, (.int .i64 r.2)] ∧ Mem w [] [⟨o0, 130, row encGChoice r.1 s0⟩] w') := by
  subst f0_fHammers_hn t1_hn
  rw [spec_Greedy] at h
  refine enter (args := [(.agg #[(.int .i16 f0.fSteps), (.slice f0_fHammers_a f0.fHammers.length f0_fHammers_c)]), (.slice t1_a t1.length t1_c), (.agg #[(.int .i16 c2.fAway), (.int .i16 c2.fOctave), (.int .i16 c2.fStep)])]) Try.func42 rfl Try.ntmps42 (by kernel_rfl) (L := []) (W := []) (Mem.start w) ?_
  refine jc_seq ?_
  refine jc_region ?_
  refine toO (by kernel_rfl) (p_a 0 [0] (by kernel_rfl) (fun b => by kernel_rfl) (fun b_1 => jkO ?_))
  refine toO (by kernel_rfl) (p_a 0 [0] (by kernel_rfl) (fun b => by kernel_rfl) (fun b_2 => jkO ?_))
  refine jo_f [(0, 0), (0, 0)] (by kernel_rfl) ?_
  refine jo_end (by kernel_rfl) ?_
  refine jx_then ?_
  refine jc_seq ?_
  refine jc_seq ?_
  refine jc_region ?_
  refine jo_f [(0, 0), (1, 0)] (by kernel_rfl) ?_
  obtain ⟨t_1, ht_6, h⟩ := bd h
  refine toO (by kernel_rfl) (p_call 0 94 #[(.pointer (some ⟨b_1, 0, none⟩)), (.slice t1_a t1.length t1_c), (.agg #[(.int .i16 c2.fAway), (.int .i16 c2.fOctave), (.int .i16 c2.fStep)])] (by kernel_rfl) (by kernel_rfl) (fun w hm => spec_l07Given.calls f0 t1 c2 w _ f0_fHammers_a f0.fHammers.length f0_fHammers_c (hm.exRow f0_fHammers_h List.not_mem_nil) rfl t1_a t1.length t1_c (hm.exRow t1_h List.not_mem_nil) rfl b_1 (hm.pass (N := [⟨some b_1, 38, [(.int .i16 f0.fSteps), (.slice f0_fHammers_a f0.fHammers.length f0_fHammers_c)]⟩]) [0] (by kernel_rfl) (by kernel_rfl)) (hm.exApart (N := [⟨some b_1, 38, [(.int .i16 f0.fSteps), (.slice f0_fHammers_a f0.fHammers.length f0_fHammers_c)]⟩]) f0_fHammers_h (fun _ => List.not_mem_nil) [0] (by kernel_rfl)) (hm.exApart (N := [⟨some b_1, 38, [(.int .i16 f0.fSteps), (.slice f0_fHammers_a f0.fHammers.length f0_fHammers_c)]⟩]) t1_h (fun _ => List.not_mem_nil) [0] (by kernel_rfl)) ht_6) ?_)
  rintro w v w' hm ⟨rfl, hm'⟩
  refine ⟨_, hm.appW (ps := [(0, ⟨some b_1, 38, [(.int .i16 f0.fSteps), (.slice f0_fHammers_a f0.fHammers.length f0_fHammers_c)]⟩)]) (N := []) hm' (by kernel_rfl) (by kernel_rfl), jkO ?_⟩
  clear hm hm'
  refine jo_f [(0, 0)] (by kernel_rfl) ?_
  refine jo_end (by kernel_rfl) ?_
  refine jx_then ?_
  refine jc_seq ?_
  refine jc_region ?_
  refine jo_f [(0, 0), (0, 0)] (by kernel_rfl) ?_
  refine jo_end (by kernel_rfl) ?_
  refine jx_then ?_
  refine jc_cond (t_1 != 0) (by kernel_rfl) (fun hc_7 => ?_) (fun hc_7 => ?_)
  · replace h := ifT hc_7 h
    refine jc_seq ?_
    refine jc_region ?_
    refine toO (by kernel_rfl) (p_a 0 [0] (by kernel_rfl) (fun b => by kernel_rfl) (fun b_8 => jkO ?_))
    refine jo_f [(0, 0), (0, 0), (0, 0)] (by kernel_rfl) ?_
    refine jo_end (by kernel_rfl) ?_
    refine jx_then ?_
    refine jc_ret ?_
    refine jx_thenr ?_
    obtain rfl := Option.some.inj h
    exact jx_ret [] (.tuple #[(.slice (some ⟨b_8, 0, none⟩) 0 0), (.int .i64 t_1)]) [] rfl (by kernel_rfl) (by kernel_rfl) (fun w hm => ⟨(some b_8), 0, [], 0, rfl, (fun _ => ⟨Nat.le_refl _, by simp⟩), (fun e => nomatch e), rfl, hm.pick [2] (by kernel_rfl) (by kernel_rfl)⟩)
  · replace h := ifF hc_7 h
    refine jc_skip ?_
    refine jx_then ?_
    refine jc_seq ?_
    refine jc_region ?_
    refine toO (by kernel_rfl) (p_a 0 [0] (by kernel_rfl) (fun b => by kernel_rfl) (fun b_9 => jkO ?_))
    refine jo_f [(0, 0)] (by kernel_rfl) ?_
    refine jo_end (by kernel_rfl) ?_
    refine jx_then ?_
    refine jc_seq ?_
    refine jc_region ?_
    refine jo_f [(0, 0)] (by kernel_rfl) ?_
    refine toO (by kernel_rfl) (p_a 0 [0] (by kernel_rfl) (fun b => by kernel_rfl) (fun b_10 => jkO ?_))
    refine toO (by kernel_rfl) (p_sA 0 3 b_10 96 1 67 encU32 (Arr.rep 96 0) (Arr.rep 96 0) (by kernel_rfl) (by kernel_rfl) (by kernel_rfl) encU32_len encU32_cell (by kernel_rfl) (jkO ?_))
    refine jo_end (by kernel_rfl) ?_
    refine jx_then ?_
    refine jc_seq ?_
    refine jc_seq ?_
    refine jc_region ?_
    refine jo_f [(0, 0)] (by kernel_rfl) ?_
    refine jo_end (by kernel_rfl) ?_
    refine jx_then ?_
    refine jc_meet (fun (j : (List GChoice) × (Arr 96 Int) × (Option Nat) × Nat × (List Value) × Nat) => match j with | ⟨xs_2, a_3, o_3215, cap_3216, sp_3217, n_3218⟩ => spec_Greedy.k_4 xs_2 a_3 = some r ∧ (xs_2.length = n_3218) ∧ ((o_3215 ≠ none → n_3218 ≤ cap_3216 ∧ sp_3217.length = (cap_3216 - n_3218) * 4)) ∧ ((o_3215 = none → xs_2 = [] ∧ cap_3216 = 0))) (fun (j : (List GChoice) × (Arr 96 Int) × (Option Nat) × Nat × (List Value) × Nat) => match j with | ⟨xs_2, a_3, o_3215, cap_3216, sp_3217, n_3218⟩ => [(6, [], (.slice none 0 0)), (7, [], (.int .i64 0)), (9, [], (.slice (o_3215.map fun b => ⟨b, 0, none⟩) n_3218 cap_3216))]) (fun (j : (List GChoice) × (Arr 96 Int) × (Option Nat) × Nat × (List Value) × Nat) => match j with | ⟨xs_2, a_3, o_3215, cap_3216, sp_3217, n_3218⟩ => [⟨some b_1, 38, [(.int .i16 f0.fSteps), (.slice f0_fHammers_a f0.fHammers.length f0_fHammers_c)]⟩, ⟨some b_2, 82, [(.int .i16 c2.fAway), (.int .i16 c2.fOctave), (.int .i16 c2.fStep)]⟩, ⟨o_3215, 130, row encGChoice xs_2 sp_3217⟩, ⟨(some b_10), 67, row encU32 a_3.1 []⟩]) ?_ ?_
    · refine jc_block ?_
      obtain ⟨t_9, ht_4286, hr_3933⟩ := bd h
      refine jc_loop (fun (s : (List GChoice) × (Arr 96 Int) × Int) (x : (Option Nat) × Nat × (List Value) × Nat) => match s, x with | ⟨xs_5, a_6, i_7⟩, ⟨o_3927, cap_3928, sp_3929, n_3930⟩ => (xs_5.length = n_3930) ∧ ((o_3927 ≠ none → n_3930 ≤ cap_3928 ∧ sp_3929.length = (cap_3928 - n_3930) * 4)) ∧ ((o_3927 = none → xs_5 = [] ∧ cap_3928 = 0))) (fun (s : (List GChoice) × (Arr 96 Int) × Int) (x : (Option Nat) × Nat × (List Value) × Nat) => match s, x with | ⟨xs_5, a_6, i_7⟩, ⟨o_3927, cap_3928, sp_3929, n_3930⟩ => [(1, [], (.slice t1_a t1.length t1_c)), (3, [], (.pointer (some ⟨b_1, 0, none⟩))), (5, [], (.pointer (some ⟨b_2, 0, none⟩))), (6, [], (.slice none 0 0)), (7, [], (.int .i64 0)), (9, [], (.slice (o_3927.map fun b => ⟨b, 0, none⟩) n_3930 cap_3928)), (10, [], (.pointer (some ⟨b_10, 0, none⟩))), (11, [], (.int .i64 i_7))]) (fun (s : (List GChoice) × (Arr 96 Int) × Int) (x : (Option Nat) × Nat × (List Value) × Nat) => match s, x with | ⟨xs_5, a_6, i_7⟩, ⟨o_3927, cap_3928, sp_3929, n_3930⟩ => [⟨some b_1, 38, [(.int .i16 f0.fSteps), (.slice f0_fHammers_a f0.fHammers.length f0_fHammers_c)]⟩, ⟨some b_2, 82, [(.int .i16 c2.fAway), (.int .i16 c2.fOctave), (.int .i16 c2.fStep)]⟩, ⟨o_3927, 130, row encGChoice xs_5 sp_3929⟩, ⟨(some b_10), 67, row encU32 a_6.1 []⟩]) ht_4286 ⟨(some b_9), 0, [], 0⟩ ⟨rfl, (fun _ => ⟨Nat.le_refl _, by simp⟩), (fun e => nomatch e)⟩ (by kernel_rfl) [0, 1, 2, 3] (by kernel_rfl) (by kernel_rfl) ?_
      rintro ⟨xs_5, a_6, i_7⟩ ⟨o_3927, cap_3928, sp_3929, n_3930⟩ y_3934 ⟨rfl, hs_3931, ho_3932⟩ h
      rw [spec_Greedy.l_8] at h
      refine jc_seq ?_
      refine jc_seq ?_
      refine jc_region ?_
      refine jo_f [(0, 0), (0, 0), (0, 0), (0, 0)] (by kernel_rfl) ?_
      refine jo_end (by kernel_rfl) ?_
      refine jx_then ?_
      refine jc_cond (decide (i_7 < (t1.length : Int))) (by kernel_rfl) (fun hc_3936 => ?_) (fun hc_3936 => ?_)
      · replace h := ifT hc_3936 h
        refine jc_skip ?_
        refine jx_then ?_
        refine jc_seq ?_
        refine jc_block ?_
        refine jc_seq ?_
        refine jc_region ?_
        refine jo_f [(0, 0), (0, 0)] (by kernel_rfl) ?_
        obtain ⟨x_10, hx_3937, h⟩ := bd h
        refine toO (by kernel_rfl) (p_idx 0 t1_a t1.length i_7 2 (by kernel_rfl) (by kernel_rfl) (ix_some hx_3937).1 (ltn hx_3937 rfl) (t1_h.sp hx_3937) (jkO ?_))
        refine toO (by kernel_rfl) (p_ld 0 (aB t1_a) (aO t1_a + i_7.toNat * 2) true (encGNote x_10) (by kernel_rfl) (by kernel_rfl) (by kernel_rfl) (fun w hm => ((hm.exRow t1_h List.not_mem_nil).at hx_3937)) (jkO ?_))
        obtain ⟨t_11, ht_3938, h⟩ := bd h
        refine toO (by kernel_rfl) (p_call 0 95 #[(.pointer (some ⟨b_1, 0, none⟩)), (.agg #[(.int .i16 x_10.fAt), (.int .i8 x_10.fPitch)])] (by kernel_rfl) (by kernel_rfl) (fun w hm => spec_l07For.calls f0 x_10 w _ f0_fHammers_a f0.fHammers.length f0_fHammers_c (hm.exRow f0_fHammers_h List.not_mem_nil) rfl b_1 (hm.pass (N := [⟨some b_1, 38, [(.int .i16 f0.fSteps), (.slice f0_fHammers_a f0.fHammers.length f0_fHammers_c)]⟩]) [0] (by kernel_rfl) (by kernel_rfl)) (hm.exApart (N := [⟨some b_1, 38, [(.int .i16 f0.fSteps), (.slice f0_fHammers_a f0.fHammers.length f0_fHammers_c)]⟩]) f0_fHammers_h (fun _ => List.not_mem_nil) [0] (by kernel_rfl)) ht_3938) ?_)
        rintro w v w' hm ⟨o_3939, cap_3940, sp_3941, _, rfl, hs_3942, ho_3943, rfl, hm'⟩
        refine ⟨_, hm.appW (ps := [(0, ⟨some b_1, 38, [(.int .i16 f0.fSteps), (.slice f0_fHammers_a f0.fHammers.length f0_fHammers_c)]⟩)]) (N := [⟨o_3939, 130, row encGChoice t_11 sp_3941⟩]) hm' (by kernel_rfl) (by kernel_rfl), jkO ?_⟩
        clear hm hm'
        refine jo_f [(0, 0)] (by kernel_rfl) ?_
        refine jo_end (by kernel_rfl) ?_
        refine jx_then ?_
        refine jc_seq ?_
        refine jc_region ?_
        refine jo_f [(0, 0)] (by kernel_rfl) ?_
        refine jo_end (by kernel_rfl) ?_
        refine jx_then ?_
        refine jc_seq ?_
        refine jc_seq ?_
        refine jc_region ?_
        refine jo_f [(0, 0)] (by kernel_rfl) ?_
        refine jo_end (by kernel_rfl) ?_
        refine jx_then ?_
        refine jc_meet (fun (j : Int) => match j with | i_12 => spec_Greedy.k_13 f0 t1 xs_5 a_6 i_7 t_11 i_12 = some y_3934) (fun (j : Int) => match j with | i_12 => [(1, [], (.slice t1_a t1.length t1_c)), (3, [], (.pointer (some ⟨b_1, 0, none⟩))), (5, [], (.pointer (some ⟨b_2, 0, none⟩))), (6, [], (.slice none 0 0)), (7, [], (.int .i64 0)), (9, [], (.slice (o_3927.map fun b => ⟨b, 0, none⟩) xs_5.length cap_3928)), (10, [], (.pointer (some ⟨b_10, 0, none⟩))), (11, [], (.int .i64 i_7)), (12, [], (.slice (o_3939.map fun b => ⟨b, 0, none⟩) t_11.length cap_3940)), (13, [], (.int .i64 i_12))]) (fun (j : Int) => match j with | i_12 => [⟨some b_1, 38, [(.int .i16 f0.fSteps), (.slice f0_fHammers_a f0.fHammers.length f0_fHammers_c)]⟩, ⟨some b_2, 82, [(.int .i16 c2.fAway), (.int .i16 c2.fOctave), (.int .i16 c2.fStep)]⟩, ⟨o_3927, 130, row encGChoice xs_5 sp_3929⟩, ⟨(some b_10), 67, row encU32 a_6.1 []⟩, ⟨o_3939, 130, row encGChoice t_11 sp_3941⟩]) ?_ ?_
        · refine jc_block ?_
          obtain ⟨t_21, ht_4284, hr_4255⟩ := bd h
          refine jc_loop (fun (s : Int × Int) (x : Unit) => match s, x with | ⟨i_18, i_19⟩, _ => True) (fun (s : Int × Int) (x : Unit) => match s, x with | ⟨i_18, i_19⟩, _ => [(1, [], (.slice t1_a t1.length t1_c)), (3, [], (.pointer (some ⟨b_1, 0, none⟩))), (5, [], (.pointer (some ⟨b_2, 0, none⟩))), (6, [], (.slice none 0 0)), (7, [], (.int .i64 0)), (9, [], (.slice (o_3927.map fun b => ⟨b, 0, none⟩) xs_5.length cap_3928)), (10, [], (.pointer (some ⟨b_10, 0, none⟩))), (11, [], (.int .i64 i_7)), (12, [], (.slice (o_3939.map fun b => ⟨b, 0, none⟩) t_11.length cap_3940)), (13, [], (.int .i64 i_18)), (14, [], (.int .i64 i_19))]) (fun (s : Int × Int) (x : Unit) => match s, x with | ⟨i_18, i_19⟩, _ => [⟨some b_1, 38, [(.int .i16 f0.fSteps), (.slice f0_fHammers_a f0.fHammers.length f0_fHammers_c)]⟩, ⟨some b_2, 82, [(.int .i16 c2.fAway), (.int .i16 c2.fOctave), (.int .i16 c2.fStep)]⟩, ⟨o_3927, 130, row encGChoice xs_5 sp_3929⟩, ⟨(some b_10), 67, row encU32 a_6.1 []⟩, ⟨o_3939, 130, row encGChoice t_11 sp_3941⟩]) ht_4284 () trivial (by kernel_rfl) [0, 1, 2, 3, 4] (by kernel_rfl) (by kernel_rfl) ?_
          rintro ⟨i_18, i_19⟩ _ y_4256 _ h
          rw [spec_Greedy.l_20] at h
          refine jc_seq ?_
          refine jc_seq ?_
          refine jc_region ?_
          refine jo_f [(0, 0), (0, 0), (0, 0), (0, 0)] (by kernel_rfl) ?_
          refine jo_end (by kernel_rfl) ?_
          refine jx_then ?_
          refine jc_cond (decide (i_19 < (t_11.length : Int))) (by kernel_rfl) (fun hc_4258 => ?_) (fun hc_4258 => ?_)
          · replace h := ifT hc_4258 h
            refine jc_skip ?_
            refine jx_then ?_
            refine jc_seq ?_
            refine jc_block ?_
            refine jc_seq ?_
            refine jc_region ?_
            refine toO (by kernel_rfl) (p_ldA 0 3 b_10 96 1 67 encU32 a_6 (by kernel_rfl) (by kernel_rfl) (by kernel_rfl) encU32_len (by kernel_rfl) (jkO ?_))
            refine toO (by kernel_rfl) (p_a 0 [0] (by kernel_rfl) (fun b => by kernel_rfl) (fun b_4259 => jkO ?_))
            refine toO (by kernel_rfl) (p_sA 0 5 b_4259 96 1 67 encU32 (Arr.rep 96 0) a_6 (by kernel_rfl) (by kernel_rfl) (by kernel_rfl) encU32_len encU32_cell (by kernel_rfl) (jkO ?_))
            refine jo_end (by kernel_rfl) ?_
            refine jx_then ?_
            refine jc_seq ?_
            refine jc_meet (fun (j : (Arr 96 Int) × Bool) => match j with | ⟨a_22, q_23⟩ => spec_Greedy.k_24 i_18 i_19 a_22 q_23 = some y_4256) (fun (j : (Arr 96 Int) × Bool) => match j with | ⟨a_22, q_23⟩ => [(1, [], (.slice t1_a t1.length t1_c)), (3, [], (.pointer (some ⟨b_1, 0, none⟩))), (5, [], (.pointer (some ⟨b_2, 0, none⟩))), (6, [], (.slice none 0 0)), (7, [], (.int .i64 0)), (9, [], (.slice (o_3927.map fun b => ⟨b, 0, none⟩) xs_5.length cap_3928)), (10, [], (.pointer (some ⟨b_10, 0, none⟩))), (11, [], (.int .i64 i_7)), (12, [], (.slice (o_3939.map fun b => ⟨b, 0, none⟩) t_11.length cap_3940)), (13, [], (.int .i64 i_18)), (14, [], (.int .i64 i_19)), (70, [], (.bool q_23))]) (fun (j : (Arr 96 Int) × Bool) => match j with | ⟨a_22, q_23⟩ => [⟨some b_1, 38, [(.int .i16 f0.fSteps), (.slice f0_fHammers_a f0.fHammers.length f0_fHammers_c)]⟩, ⟨some b_2, 82, [(.int .i16 c2.fAway), (.int .i16 c2.fOctave), (.int .i16 c2.fStep)]⟩, ⟨o_3927, 130, row encGChoice xs_5 sp_3929⟩, ⟨(some b_10), 67, row encU32 a_6.1 []⟩, ⟨o_3939, 130, row encGChoice t_11 sp_3941⟩, ⟨(some b_4259), 67, row encU32 a_22.1 []⟩]) ?_ ?_
            · refine jc_draw [⟨some b_1, 38, [(.int .i16 f0.fSteps), (.slice f0_fHammers_a f0.fHammers.length f0_fHammers_c)]⟩, ⟨some b_2, 82, [(.int .i16 c2.fAway), (.int .i16 c2.fOctave), (.int .i16 c2.fStep)]⟩, ⟨o_3927, 130, row encGChoice xs_5 sp_3929⟩, ⟨(some b_10), 67, row encU32 a_6.1 []⟩, ⟨o_3939, 130, row encGChoice t_11 sp_3941⟩] 28 (by kernel_rfl) (by kernel_rfl) ?_
              refine jd_f [⟨0, 0, 0⟩, ⟨1, 0, 0⟩, ⟨4, 0, 0⟩, ⟨5, 0, 0⟩] 24 (by kernel_rfl) (by kernel_rfl) (fun w h => h.pick [0, 1, 2, 3, 4] (by kernel_rfl) (by kernel_rfl)) (by kernel_rfl) (by kernel_rfl) ?_
              obtain ⟨x_25, hx_4274, h⟩ := bd h
              refine jd_v 2 0 (by kernel_rfl) (fun w h => h.pick [0, 1, 2, 3, 4] (by kernel_rfl) (by kernel_rfl)) (by kernel_rfl) (by kernel_rfl) _ (fun w hm => idx_run (a := t1_a) (len := t1.length) (s := 2) (j := i_7) (by kernel_rfl) (ix_some hx_4274).1 (ltn hx_4274 rfl) (t1_h.sp hx_4274)) ?_
              refine jd_v 3 0 (by kernel_rfl) (fun w h => h.pick [0, 1, 2, 3, 4] (by kernel_rfl) (by kernel_rfl)) (by kernel_rfl) (by kernel_rfl) _ (fun w hm => ld_run (b := aB t1_a) (off := (aO t1_a + i_7.toNat * 2)) (s := 2) (agg := true) (vs := (encGNote x_25)) (by kernel_rfl) (by kernel_rfl) (.inl rfl) ((hm.exRow t1_h List.not_mem_nil).at hx_4274)) ?_
              obtain ⟨x_26, hx_4275, h⟩ := bd h
              refine jd_v 6 0 (by kernel_rfl) (fun w h => h.pick [0, 1, 2, 3, 4] (by kernel_rfl) (by kernel_rfl)) (by kernel_rfl) (by kernel_rfl) _ (fun w hm => idx_run (a := (o_3939.map fun b => ⟨b, 0, none⟩)) (len := t_11.length) (s := 4) (j := i_19) (by kernel_rfl) (ix_some hx_4275).1 (ltn hx_4275 rfl) (spo ho_3943 hx_4275)) ?_
              refine jd_v 7 0 (by kernel_rfl) (fun w h => h.pick [0, 1, 2, 3, 4] (by kernel_rfl) (by kernel_rfl)) (by kernel_rfl) (by kernel_rfl) _ (fun w hm => ld_run (b := aB (o_3939.map fun b => ⟨b, 0, none⟩)) (off := (aO (o_3939.map fun b => ⟨b, 0, none⟩) + i_19.toNat * 4)) (s := 4) (agg := true) (vs := (encGChoice x_26)) (by kernel_rfl) (by kernel_rfl) (.inl rfl) ((hm.ownRow (hh := 4) (o := o_3939) (T := 130) (enc := encGChoice) (xs := t_11) (sp := sp_3941) (by kernel_rfl) (fun e => (ho_3943 e).1) encGChoice_len).at hx_4275)) ?_
              obtain ⟨t_27, ht_4276, h⟩ := bd h
              refine toD 8 (by kernel_rfl) (p_call 0 96 #[(.pointer (some ⟨b_1, 0, none⟩)), (.pointer (some ⟨b_4259, 0, none⟩)), (.agg #[(.int .i16 x_25.fAt), (.int .i8 x_25.fPitch)]), (.agg #[(.bool x_26.fAway), (.int .i8 x_26.fLate), (.int .i8 x_26.fOctave), (.int .i8 x_26.fTrack)])] (by kernel_rfl) (by kernel_rfl) (fun w hm => spec_l07Put.calls f0 a_6 x_25 x_26 w _ f0_fHammers_a f0.fHammers.length f0_fHammers_c (hm.exRow f0_fHammers_h List.not_mem_nil) rfl b_1 b_4259 (hm.pass (N := [⟨some b_1, 38, [(.int .i16 f0.fSteps), (.slice f0_fHammers_a f0.fHammers.length f0_fHammers_c)]⟩, ⟨(some b_4259), 67, row encU32 a_6.1 []⟩]) [0, 5] (by kernel_rfl) (by kernel_rfl)) (hm.exApart (N := [⟨some b_1, 38, [(.int .i16 f0.fSteps), (.slice f0_fHammers_a f0.fHammers.length f0_fHammers_c)]⟩, ⟨(some b_4259), 67, row encU32 a_6.1 []⟩]) f0_fHammers_h (fun _ => List.not_mem_nil) [0, 5] (by kernel_rfl)) ht_4276) ?_)
              rintro w v w' hm ⟨rfl, hm'⟩
              refine ⟨_, hm.appW (ps := [(0, ⟨some b_1, 38, [(.int .i16 f0.fSteps), (.slice f0_fHammers_a f0.fHammers.length f0_fHammers_c)]⟩), (5, ⟨(some b_4259), 67, row encU32 t_27.2.1 []⟩)]) (N := []) hm' (by kernel_rfl) (by kernel_rfl), jkD (fun w h => h.pick [0, 1, 2, 3, 4] (by kernel_rfl) (by kernel_rfl)) ?_⟩
              clear hm hm'
              refine jd_f [⟨9, 0, 0⟩, ⟨10, 0, 1⟩, ⟨11, 0, 1⟩] 16 (by kernel_rfl) (by kernel_rfl) (fun w h => h.pick [0, 1, 2, 3, 4] (by kernel_rfl) (by kernel_rfl)) (by kernel_rfl) (by kernel_rfl) ?_
              refine jd_split 52 t_27.1 (by kernel_rfl) (fun hc_4277 => ?_) (fun hc_4277 => ?_)
              · replace h := ifT hc_4277 h
                refine jd_f [⟨12, 0, 2⟩, ⟨13, 1, 1⟩, ⟨14, 0, 1⟩, ⟨15, 0, 1⟩, ⟨19, 1, 1⟩, ⟨20, 0, 1⟩, ⟨21, 0, 1⟩] 9 (by kernel_rfl) (by kernel_rfl) (fun w h => h.pick [0, 1, 2, 3, 4] (by kernel_rfl) (by kernel_rfl)) (by kernel_rfl) (by kernel_rfl) ?_
                refine jd_split 55 (decide (i_18 < 0)) (by kernel_rfl) (fun hc_4278 => ?_) (fun hc_4278 => ?_)
                · replace h := ifT hc_4278 h
                  refine jd_f [⟨16, 0, 3⟩, ⟨17, 0, 3⟩, ⟨18, 0, 3⟩, ⟨22, 0, 3⟩, ⟨23, 0, 3⟩, ⟨24, 0, 3⟩, ⟨25, 0, 3⟩, ⟨26, 0, 4⟩, ⟨27, 0, 4⟩] 0 (by kernel_rfl) (by kernel_rfl) (fun w h => h.pick [0, 1, 2, 3, 4] (by kernel_rfl) (by kernel_rfl)) (by kernel_rfl) (by kernel_rfl) ?_
                  refine jd_end (by kernel_rfl) ?_
                  exact jx_meet ⟨t_27.2, true⟩ h (by kernel_rfl) [0, 1, 2, 3, 4, 5] (by kernel_rfl) (by kernel_rfl)
                · replace h := ifF hc_4278 h
                  obtain ⟨x_28, hx_4279, h⟩ := bd h
                  refine jd_v 16 2 (by kernel_rfl) (fun w h => h.pick [0, 1, 2, 3, 4] (by kernel_rfl) (by kernel_rfl)) (by kernel_rfl) (by kernel_rfl) _ (fun w hm => idx_run (a := (o_3939.map fun b => ⟨b, 0, none⟩)) (len := t_11.length) (s := 4) (j := i_19) (by kernel_rfl) (ix_some hx_4279).1 (ltn hx_4279 rfl) (spo ho_3943 hx_4279)) ?_
                  refine jd_v 17 2 (by kernel_rfl) (fun w h => h.pick [0, 1, 2, 3, 4] (by kernel_rfl) (by kernel_rfl)) (by kernel_rfl) (by kernel_rfl) _ (fun w hm => ld_run (b := aB (o_3939.map fun b => ⟨b, 0, none⟩)) (off := (aO (o_3939.map fun b => ⟨b, 0, none⟩) + i_19.toNat * 4)) (s := 4) (agg := true) (vs := (encGChoice x_28)) (by kernel_rfl) (by kernel_rfl) (.inl rfl) ((hm.ownRow (hh := 4) (o := o_3939) (T := 130) (enc := encGChoice) (xs := t_11) (sp := sp_3941) (by kernel_rfl) (fun e => (ho_3943 e).1) encGChoice_len).at hx_4279)) ?_
                  obtain ⟨x_29, hx_4280, h⟩ := bd h
                  refine jd_v 22 2 (by kernel_rfl) (fun w h => h.pick [0, 1, 2, 3, 4] (by kernel_rfl) (by kernel_rfl)) (by kernel_rfl) (by kernel_rfl) _ (fun w hm => idx_run (a := (o_3939.map fun b => ⟨b, 0, none⟩)) (len := t_11.length) (s := 4) (j := i_18) (by kernel_rfl) (ix_some hx_4280).1 (ltn hx_4280 rfl) (spo ho_3943 hx_4280)) ?_
                  refine jd_v 23 2 (by kernel_rfl) (fun w h => h.pick [0, 1, 2, 3, 4] (by kernel_rfl) (by kernel_rfl)) (by kernel_rfl) (by kernel_rfl) _ (fun w hm => ld_run (b := aB (o_3939.map fun b => ⟨b, 0, none⟩)) (off := (aO (o_3939.map fun b => ⟨b, 0, none⟩) + i_18.toNat * 4)) (s := 4) (agg := true) (vs := (encGChoice x_29)) (by kernel_rfl) (by kernel_rfl) (.inl rfl) ((hm.ownRow (hh := 4) (o := o_3939) (T := 130) (enc := encGChoice) (xs := t_11) (sp := sp_3941) (by kernel_rfl) (fun e => (ho_3943 e).1) encGChoice_len).at hx_4280)) ?_
                  obtain ⟨t_30, ht_4281, h⟩ := bd h
                  refine toD 18 (by kernel_rfl) (p_call 2 97 #[(.agg #[(.int .i16 c2.fAway), (.int .i16 c2.fOctave), (.int .i16 c2.fStep)]), (.agg #[(.bool x_28.fAway), (.int .i8 x_28.fLate), (.int .i8 x_28.fOctave), (.int .i8 x_28.fTrack)])] (by kernel_rfl) (by kernel_rfl) (fun w hm => spec_l07Cost.calls c2 x_28 w _ ht_4281) ?_)
                  rintro w v w' hm ⟨rfl, hm'⟩
                  refine ⟨_, hm.app hm', jkD (fun w h => h.pick [0, 1, 2, 3, 4] (by kernel_rfl) (by kernel_rfl)) ?_⟩
                  clear hm hm'
                  obtain ⟨t_31, ht_4282, h⟩ := bd h
                  refine toD 24 (by kernel_rfl) (p_call 2 97 #[(.agg #[(.int .i16 c2.fAway), (.int .i16 c2.fOctave), (.int .i16 c2.fStep)]), (.agg #[(.bool x_29.fAway), (.int .i8 x_29.fLate), (.int .i8 x_29.fOctave), (.int .i8 x_29.fTrack)])] (by kernel_rfl) (by kernel_rfl) (fun w hm => spec_l07Cost.calls c2 x_29 w _ ht_4282) ?_)
                  rintro w v w' hm ⟨rfl, hm'⟩
                  refine ⟨_, hm.app hm', jkD (fun w h => h.pick [0, 1, 2, 3, 4] (by kernel_rfl) (by kernel_rfl)) ?_⟩
                  clear hm hm'
                  refine jd_f [⟨25, 0, 2⟩, ⟨26, 0, 5⟩, ⟨27, 0, 4⟩] 0 (by kernel_rfl) (by kernel_rfl) (fun w h => h.pick [0, 1, 2, 3, 4] (by kernel_rfl) (by kernel_rfl)) (by kernel_rfl) (by kernel_rfl) ?_
                  refine jd_end (by kernel_rfl) ?_
                  exact jx_meet ⟨t_27.2, (decide (t_30 < t_31))⟩ h (by kernel_rfl) [0, 1, 2, 3, 4, 5] (by kernel_rfl) (by kernel_rfl)
              · replace h := ifF hc_4277 h
                refine jd_f [⟨12, 0, 3⟩, ⟨13, 0, 3⟩, ⟨14, 0, 3⟩, ⟨15, 0, 3⟩, ⟨16, 0, 3⟩, ⟨17, 0, 3⟩, ⟨18, 0, 3⟩, ⟨19, 0, 3⟩, ⟨20, 0, 3⟩, ⟨21, 0, 3⟩, ⟨22, 0, 3⟩, ⟨23, 0, 3⟩, ⟨24, 0, 3⟩, ⟨25, 0, 3⟩, ⟨26, 0, 3⟩, ⟨27, 0, 5⟩] 0 (by kernel_rfl) (by kernel_rfl) (fun w h => h.pick [0, 1, 2, 3, 4] (by kernel_rfl) (by kernel_rfl)) (by kernel_rfl) (by kernel_rfl) ?_
                refine jd_end (by kernel_rfl) ?_
                exact jx_meet ⟨t_27.2, false⟩ h (by kernel_rfl) [0, 1, 2, 3, 4, 5] (by kernel_rfl) (by kernel_rfl)
            · rintro ⟨a_22, q_23⟩ h
              replace h : spec_Greedy.k_24 i_18 i_19 a_22 q_23 = some y_4256 := h
              rw [spec_Greedy.k_24] at h
              refine jx_then ?_
              refine jc_cond q_23 (by kernel_rfl) (fun hc_4271 => ?_) (fun hc_4271 => ?_)
              · replace h := ifT hc_4271 h
                refine jc_region ?_
                refine jo_f [(0, 0), (0, 0)] (by kernel_rfl) ?_
                refine jo_end (by kernel_rfl) ?_
                refine jx_inn ?_
                refine jx_then ?_
                refine jc_region ?_
                refine jo_f [(0, 0), (0, 0), (0, 0)] (by kernel_rfl) ?_
                refine jo_end (by kernel_rfl) ?_
                exact jx_back (i_19, (w64 (i_19 + 1))) () (Option.some.inj h).symm trivial [0, 1, 2, 3, 4] (by kernel_rfl) (by kernel_rfl) (by kernel_rfl)
              · replace h := ifF hc_4271 h
                refine jc_skip ?_
                refine jx_inn ?_
                refine jx_then ?_
                refine jc_region ?_
                refine jo_f [(0, 0), (0, 0), (0, 0)] (by kernel_rfl) ?_
                refine jo_end (by kernel_rfl) ?_
                exact jx_back (i_18, (w64 (i_19 + 1))) () (Option.some.inj h).symm trivial [0, 1, 2, 3, 4] (by kernel_rfl) (by kernel_rfl) (by kernel_rfl)
          · replace h := ifF hc_4258 h
            refine jc_exit ?_
            refine jx_thenx ?_
            refine jx_leave i_18 (Option.some.inj h).symm (fun e_4283 => ?_)
            subst e_4283
            refine jx_ine ?_
            exact jx_meet i_18 hr_4255 (by kernel_rfl) [0, 1, 2, 3, 4] (by kernel_rfl) (by kernel_rfl)
        · rintro i_12 h
          replace h : spec_Greedy.k_13 f0 t1 xs_5 a_6 i_7 t_11 i_12 = some y_3934 := h
          rw [spec_Greedy.k_13] at h
          refine jx_then ?_
          refine jc_seq ?_
          refine jc_draw [⟨some b_1, 38, [(.int .i16 f0.fSteps), (.slice f0_fHammers_a f0.fHammers.length f0_fHammers_c)]⟩, ⟨some b_2, 82, [(.int .i16 c2.fAway), (.int .i16 c2.fOctave), (.int .i16 c2.fStep)]⟩, ⟨o_3927, 130, row encGChoice xs_5 sp_3929⟩, ⟨o_3939, 130, row encGChoice t_11 sp_3941⟩] 9 (by kernel_rfl) (by kernel_rfl) ?_
          refine jd_f [⟨0, 0, 0⟩, ⟨1, 0, 0⟩, ⟨4, 0, 0⟩, ⟨5, 0, 0⟩] 5 (by kernel_rfl) (by kernel_rfl) (fun w h => h.pick [0, 1, 2, 4] (by kernel_rfl) (by kernel_rfl)) (by kernel_rfl) (by kernel_rfl) ?_
          obtain ⟨x_14, hx_4192, h⟩ := bd h
          refine jd_v 2 0 (by kernel_rfl) (fun w h => h.pick [0, 1, 2, 4] (by kernel_rfl) (by kernel_rfl)) (by kernel_rfl) (by kernel_rfl) _ (fun w hm => idx_run (a := t1_a) (len := t1.length) (s := 2) (j := i_7) (by kernel_rfl) (ix_some hx_4192).1 (ltn hx_4192 rfl) (t1_h.sp hx_4192)) ?_
          refine jd_v 3 0 (by kernel_rfl) (fun w h => h.pick [0, 1, 2, 4] (by kernel_rfl) (by kernel_rfl)) (by kernel_rfl) (by kernel_rfl) _ (fun w hm => ld_run (b := aB t1_a) (off := (aO t1_a + i_7.toNat * 2)) (s := 2) (agg := true) (vs := (encGNote x_14)) (by kernel_rfl) (by kernel_rfl) (.inl rfl) ((hm.exRow t1_h List.not_mem_nil).at hx_4192)) ?_
          obtain ⟨x_15, hx_4193, h⟩ := bd h
          refine jd_v 6 0 (by kernel_rfl) (fun w h => h.pick [0, 1, 2, 4] (by kernel_rfl) (by kernel_rfl)) (by kernel_rfl) (by kernel_rfl) _ (fun w hm => idx_run (a := (o_3939.map fun b => ⟨b, 0, none⟩)) (len := t_11.length) (s := 4) (j := i_12) (by kernel_rfl) (ix_some hx_4193).1 (ltn hx_4193 rfl) (spo ho_3943 hx_4193)) ?_
          refine jd_v 7 0 (by kernel_rfl) (fun w h => h.pick [0, 1, 2, 4] (by kernel_rfl) (by kernel_rfl)) (by kernel_rfl) (by kernel_rfl) _ (fun w hm => ld_run (b := aB (o_3939.map fun b => ⟨b, 0, none⟩)) (off := (aO (o_3939.map fun b => ⟨b, 0, none⟩) + i_12.toNat * 4)) (s := 4) (agg := true) (vs := (encGChoice x_15)) (by kernel_rfl) (by kernel_rfl) (.inl rfl) ((hm.ownRow (hh := 3) (o := o_3939) (T := 130) (enc := encGChoice) (xs := t_11) (sp := sp_3941) (by kernel_rfl) (fun e => (ho_3943 e).1) encGChoice_len).at hx_4193)) ?_
          obtain ⟨t_16, ht_4194, h⟩ := bd h
          refine toD 8 (by kernel_rfl) (p_call 0 96 #[(.pointer (some ⟨b_1, 0, none⟩)), (.pointer (some ⟨b_10, 0, none⟩)), (.agg #[(.int .i16 x_14.fAt), (.int .i8 x_14.fPitch)]), (.agg #[(.bool x_15.fAway), (.int .i8 x_15.fLate), (.int .i8 x_15.fOctave), (.int .i8 x_15.fTrack)])] (by kernel_rfl) (by kernel_rfl) (fun w hm => spec_l07Put.calls f0 a_6 x_14 x_15 w _ f0_fHammers_a f0.fHammers.length f0_fHammers_c (hm.exRow f0_fHammers_h List.not_mem_nil) rfl b_1 b_10 (hm.pass (N := [⟨some b_1, 38, [(.int .i16 f0.fSteps), (.slice f0_fHammers_a f0.fHammers.length f0_fHammers_c)]⟩, ⟨(some b_10), 67, row encU32 a_6.1 []⟩]) [0, 3] (by kernel_rfl) (by kernel_rfl)) (hm.exApart (N := [⟨some b_1, 38, [(.int .i16 f0.fSteps), (.slice f0_fHammers_a f0.fHammers.length f0_fHammers_c)]⟩, ⟨(some b_10), 67, row encU32 a_6.1 []⟩]) f0_fHammers_h (fun _ => List.not_mem_nil) [0, 3] (by kernel_rfl)) ht_4194) ?_)
          rintro w v w' hm ⟨rfl, hm'⟩
          refine ⟨_, hm.appW (ps := [(0, ⟨some b_1, 38, [(.int .i16 f0.fSteps), (.slice f0_fHammers_a f0.fHammers.length f0_fHammers_c)]⟩), (3, ⟨(some b_10), 67, row encU32 t_16.2.1 []⟩)]) (N := []) hm' (by kernel_rfl) (by kernel_rfl), jkD (fun w h => h.pick [0, 1, 2, 4] (by kernel_rfl) (by kernel_rfl)) ?_⟩
          clear hm hm'
          refine jd_end (by kernel_rfl) ?_
          refine jx_then ?_
          refine jc_region ?_
          refine jo_f [(0, 0), (0, 0), (0, 0)] (by kernel_rfl) ?_
          obtain ⟨x_17, hx_4195, h⟩ := bd h
          refine toO (by kernel_rfl) (p_idx 0 (o_3939.map fun b => ⟨b, 0, none⟩) t_11.length i_12 4 (by kernel_rfl) (by kernel_rfl) (ix_some hx_4195).1 (ltn hx_4195 rfl) (spo ho_3943 hx_4195) (jkO ?_))
          refine toO (by kernel_rfl) (p_ld 0 (aB (o_3939.map fun b => ⟨b, 0, none⟩)) (aO (o_3939.map fun b => ⟨b, 0, none⟩) + i_12.toNat * 4) true (encGChoice x_17) (by kernel_rfl) (by kernel_rfl) (by kernel_rfl) (fun w hm => ((hm.ownRow (hh := 4) (o := o_3939) (T := 130) (enc := encGChoice) (xs := t_11) (sp := sp_3941) (by kernel_rfl) (fun e => (ho_3943 e).1) encGChoice_len).at hx_4195)) (jkO ?_))
          refine toO (by kernel_rfl) (p_a 0 [0] (by kernel_rfl) (fun b => by kernel_rfl) (fun b_4196 => jkO ?_))
          obtain ⟨hg_4197, h⟩ := gd h
          refine toO (by kernel_rfl) (p_apn 0 2 o_3927 130 xs_5.length 1 cap_3928 4 4 (some ⟨b_4196, 0, none⟩) encGChoice xs_5 [x_17] sp_3929 (.agg #[(.bool false), (.int .i8 0), (.int .i8 0), (.int .i8 0)]) rfl rfl (by kernel_rfl) (by kernel_rfl) (by kernel_rfl) encGChoice_len encGChoice_cell hs_3931 ho_3932 (fun w hm => (hm.ownRow (hh := 5) (o := (some b_4196)) (T := 130) (enc := encGChoice) (xs := [x_17]) (sp := []) (by kernel_rfl) (fun e => nomatch e) encGChoice_len)) hg_4197 (by kernel_rfl) (by kernel_rfl) (fun o_4198 cap_4199 sp_4200 hs_4201 ho_4202 => jkO ?_))
          refine jo_f [(0, 0)] (by kernel_rfl) ?_
          refine jo_end (by kernel_rfl) ?_
          refine jx_inn ?_
          refine jx_then ?_
          refine jc_region ?_
          refine jo_f [(0, 0), (0, 0), (0, 0)] (by kernel_rfl) ?_
          refine jo_end (by kernel_rfl) ?_
          exact jx_back ((xs_5 ++ [x_17]), t_16.2, (w64 (i_7 + 1))) ⟨o_4198, cap_4199, sp_4200, (xs_5 ++ [x_17]).length⟩ (Option.some.inj h).symm ⟨rfl, hs_4201, ho_4202⟩ [0, 1, 2, 3] (by kernel_rfl) (by kernel_rfl) (by kernel_rfl)
      · replace h := ifF hc_3936 h
        refine jc_exit ?_
        refine jx_thenx ?_
        refine jx_leave (xs_5, a_6) (Option.some.inj h).symm (fun e_4285 => ?_)
        subst e_4285
        refine jx_ine ?_
        exact jx_meet ⟨xs_5, a_6, o_3927, cap_3928, sp_3929, xs_5.length⟩ ⟨hr_3933, rfl, hs_3931, ho_3932⟩ (by kernel_rfl) [0, 1, 2, 3] (by kernel_rfl) (by kernel_rfl)
    · rintro ⟨xs_2, a_3, o_3215, cap_3216, sp_3217, n_3218⟩ ⟨h, rfl, hs_3219, ho_3220⟩
      replace h : spec_Greedy.k_4 xs_2 a_3 = some r := h
      rw [spec_Greedy.k_4] at h
      refine jx_then ?_
      refine jc_seq ?_
      refine jc_region ?_
      refine jo_f [(0, 0), (0, 0), (0, 0)] (by kernel_rfl) ?_
      refine jo_end (by kernel_rfl) ?_
      refine jx_then ?_
      refine jc_ret ?_
      obtain rfl := Option.some.inj h
      exact jx_ret [] (.tuple #[(.slice (o_3215.map fun b => ⟨b, 0, none⟩) xs_2.length cap_3216), (.int .i64 0)]) [] rfl (by kernel_rfl) (by kernel_rfl) (fun w hm => ⟨o_3215, cap_3216, sp_3217, xs_2.length, rfl, hs_3219, ho_3220, rfl, hm.pick [2] (by kernel_rfl) (by kernel_rfl)⟩)

/-! ### impl.ValidCosts -/
noncomputable def impl_ValidCosts (c0 : GCosts) : Option (Bool) := (impl_within (w64 c0.fAway) 0 1000).bind fun t_1 => (if t_1 = true then (impl_within (w64 c0.fOctave) 0 1000).bind fun t_2 => (if t_2 = true then (impl_within (w64 c0.fStep) 0 1000).bind fun t_3 => some t_3 else some false) else some false)
set_option maxRecDepth 100000 in
theorem impl_ValidCosts.calls (c0 : GCosts) (w : World) (r : Bool) (h : impl_ValidCosts c0 = some r) :
    Calls Try.prog 149 #[(.agg #[(.int .i16 c0.fAway), (.int .i16 c0.fOctave), (.int .i16 c0.fStep)])] w fun e w' => ∃ v, e = .returned v ∧ (v = (.bool r) ∧ Mem w [] [] w') := by
  rw [impl_ValidCosts] at h
  refine enter (args := [(.agg #[(.int .i16 c0.fAway), (.int .i16 c0.fOctave), (.int .i16 c0.fStep)])]) Try.func149 rfl Try.ntmps149 (by kernel_rfl) (L := []) (W := []) (Mem.start w) ?_
  refine jc_seq ?_
  refine jc_region ?_
  refine toO (by kernel_rfl) (p_a 0 [0] (by kernel_rfl) (fun b => by kernel_rfl) (fun b_1 => jkO ?_))
  refine jo_f [(0, 0)] (by kernel_rfl) ?_
  refine jo_end (by kernel_rfl) ?_
  refine jx_then ?_
  refine jc_seq ?_
  refine jc_region ?_
  refine jo_f [(0, 0), (0, 0), (0, 0)] (by kernel_rfl) ?_
  obtain ⟨t_1, ht_2, h⟩ := bd h
  refine toO (by kernel_rfl) (p_call 0 91 #[(.int .i64 (w64 c0.fAway)), (.int .i64 0), (.int .i64 1000)] (by kernel_rfl) (by kernel_rfl) (fun w hm => impl_within.calls (w64 c0.fAway) 0 1000 w _ ht_2) ?_)
  rintro w v w' hm ⟨rfl, hm'⟩
  refine ⟨_, hm.app hm', jkO ?_⟩
  clear hm hm'
  refine jo_f [(0, 0), (0, 1), (0, 1), (0, 1)] (by kernel_rfl) ?_
  refine jo_split 7 t_1 (by kernel_rfl) (fun hc_3 => ?_) (fun hc_3 => ?_)
  · replace h := ifT hc_3 h
    obtain ⟨t_2, ht_4, h⟩ := bd h
    refine toO (by kernel_rfl) (p_call 2 91 #[(.int .i64 (w64 c0.fOctave)), (.int .i64 0), (.int .i64 1000)] (by kernel_rfl) (by kernel_rfl) (fun w hm => impl_within.calls (w64 c0.fOctave) 0 1000 w _ ht_4) ?_)
    rintro w v w' hm ⟨rfl, hm'⟩
    refine ⟨_, hm.app hm', jkO ?_⟩
    clear hm hm'
    refine jo_f [(0, 4), (0, 0), (0, 1), (0, 1), (0, 1)] (by kernel_rfl) ?_
    refine jo_split 13 t_2 (by kernel_rfl) (fun hc_5 => ?_) (fun hc_5 => ?_)
    · replace h := ifT hc_5 h
      obtain ⟨t_3, ht_6, h⟩ := bd h
      refine toO (by kernel_rfl) (p_call 2 91 #[(.int .i64 (w64 c0.fStep)), (.int .i64 0), (.int .i64 1000)] (by kernel_rfl) (by kernel_rfl) (fun w hm => impl_within.calls (w64 c0.fStep) 0 1000 w _ ht_6) ?_)
      rintro w v w' hm ⟨rfl, hm'⟩
      refine ⟨_, hm.app hm', jkO ?_⟩
      clear hm hm'
      refine jo_f [(0, 4), (0, 0)] (by kernel_rfl) ?_
      refine jo_end (by kernel_rfl) ?_
      refine jx_then ?_
      refine jc_ret ?_
      obtain rfl := Option.some.inj h
      exact jx_ret [] (.bool t_3) [] rfl (by kernel_rfl) (by kernel_rfl) (fun w hm => ⟨rfl, hm.pick [] (by kernel_rfl) (by kernel_rfl)⟩)
    · replace h := ifF hc_5 h
      refine jo_f [(0, 3), (0, 5), (0, 0)] (by kernel_rfl) ?_
      refine jo_end (by kernel_rfl) ?_
      refine jx_then ?_
      refine jc_ret ?_
      obtain rfl := Option.some.inj h
      exact jx_ret [] (.bool false) [] rfl (by kernel_rfl) (by kernel_rfl) (fun w hm => ⟨rfl, hm.pick [] (by kernel_rfl) (by kernel_rfl)⟩)
  · replace h := ifF hc_3 h
    refine jo_f [(0, 3), (0, 5), (0, 0), (0, 3), (0, 3), (0, 3), (0, 3), (0, 5), (0, 0)] (by kernel_rfl) ?_
    refine jo_end (by kernel_rfl) ?_
    refine jx_then ?_
    refine jc_ret ?_
    obtain rfl := Option.some.inj h
    exact jx_ret [] (.bool false) [] rfl (by kernel_rfl) (by kernel_rfl) (fun w hm => ⟨rfl, hm.pick [] (by kernel_rfl) (by kernel_rfl)⟩)

/-! ### impl.arrangeCode -/
noncomputable def impl_arrangeCode (f0 : GFrame) (t1 : List GNote) (c2 : GCosts) : Option (Int) := (impl_tuneFrameCode f0 t1 []).bind fun t_1 => (impl_ValidCosts c2).bind fun t_2 => (impl_unless t_2 1).bind fun t_3 => (impl_firstOf [t_1, t_3]).bind fun t_4 => some t_4
set_option maxRecDepth 100000 in
theorem impl_arrangeCode.calls (f0 : GFrame) (t1 : List GNote) (c2 : GCosts) (w : World) (r : Int) (f0_fHammers_a : Option Addr) (f0_fHammers_an : Nat) (f0_fHammers_c : Nat) (f0_fHammers_h : Rw w f0_fHammers_a 2 encGHammer f0.fHammers) (f0_fHammers_hn : f0.fHammers.length = f0_fHammers_an) (t1_a : Option Addr) (t1_an : Nat) (t1_c : Nat) (t1_h : Rw w t1_a 2 encGNote t1) (t1_hn : t1.length = t1_an) (h : impl_arrangeCode f0 t1 c2 = some r) :
    Calls Try.prog 98 #[(.agg #[(.int .i16 f0.fSteps), (.slice f0_fHammers_a f0_fHammers_an f0_fHammers_c)]), (.slice t1_a t1_an t1_c), (.agg #[(.int .i16 c2.fAway), (.int .i16 c2.fOctave), (.int .i16 c2.fStep)])] w fun e w' => ∃ v, e = .returned v ∧ (v = (.int .i64 r) ∧ Mem w [] [] w') := by
  subst f0_fHammers_hn t1_hn
  rw [impl_arrangeCode] at h
  refine enter (args := [(.agg #[(.int .i16 f0.fSteps), (.slice f0_fHammers_a f0.fHammers.length f0_fHammers_c)]), (.slice t1_a t1.length t1_c), (.agg #[(.int .i16 c2.fAway), (.int .i16 c2.fOctave), (.int .i16 c2.fStep)])]) Try.func98 rfl Try.ntmps98 (by kernel_rfl) (L := []) (W := []) (Mem.start w) ?_
  refine jc_seq ?_
  refine jc_region ?_
  refine toO (by kernel_rfl) (p_a 0 [0] (by kernel_rfl) (fun b => by kernel_rfl) (fun b_1 => jkO ?_))
  refine toO (by kernel_rfl) (p_a 0 [0] (by kernel_rfl) (fun b => by kernel_rfl) (fun b_2 => jkO ?_))
  refine jo_f [(0, 0)] (by kernel_rfl) ?_
  refine jo_end (by kernel_rfl) ?_
  refine jx_then ?_
  refine jc_seq ?_
  refine jc_draw [⟨some b_1, 38, [(.int .i16 f0.fSteps), (.slice f0_fHammers_a f0.fHammers.length f0_fHammers_c)]⟩, ⟨some b_2, 82, [(.int .i16 c2.fAway), (.int .i16 c2.fOctave), (.int .i16 c2.fStep)]⟩] 9 (by kernel_rfl) (by kernel_rfl) ?_
  refine jd_f [⟨0, 0, 0⟩, ⟨1, 0, 0⟩, ⟨3, 1, 0⟩] 6 (by kernel_rfl) (by kernel_rfl) (fun w h => h.pick [0, 1] (by kernel_rfl) (by kernel_rfl)) (by kernel_rfl) (by kernel_rfl) ?_
  obtain ⟨t_1, ht_3, h⟩ := bd h
  refine toD 2 (by kernel_rfl) (p_call 0 143 #[(.agg #[(.int .i16 f0.fSteps), (.slice f0_fHammers_a f0.fHammers.length f0_fHammers_c)]), (.slice t1_a t1.length t1_c), (.slice none 0 0)] (by kernel_rfl) (by kernel_rfl) (fun w hm => impl_tuneFrameCode.calls f0 t1 [] w _ f0_fHammers_a f0.fHammers.length f0_fHammers_c (hm.exRow f0_fHammers_h List.not_mem_nil) rfl t1_a t1.length t1_c (hm.exRow t1_h List.not_mem_nil) rfl none 0 0 Rw.nil rfl ht_3) ?_)
  rintro w v w' hm ⟨rfl, hm'⟩
  refine ⟨_, hm.app hm', jkD (fun w h => h.pick [0, 1] (by kernel_rfl) (by kernel_rfl)) ?_⟩
  clear hm hm'
  obtain ⟨t_2, ht_4, h⟩ := bd h
  refine toD 4 (by kernel_rfl) (p_call 0 149 #[(.agg #[(.int .i16 c2.fAway), (.int .i16 c2.fOctave), (.int .i16 c2.fStep)])] (by kernel_rfl) (by kernel_rfl) (fun w hm => impl_ValidCosts.calls c2 w _ ht_4) ?_)
  rintro w v w' hm ⟨rfl, hm'⟩
  refine ⟨_, hm.app hm', jkD (fun w h => h.pick [0, 1] (by kernel_rfl) (by kernel_rfl)) ?_⟩
  clear hm hm'
  obtain ⟨t_3, ht_5, h⟩ := bd h
  refine toD 5 (by kernel_rfl) (p_call 0 71 #[(.bool t_2), (.int .i64 1)] (by kernel_rfl) (by kernel_rfl) (fun w hm => impl_unless.calls t_2 1 w _ ht_5) ?_)
  rintro w v w' hm ⟨rfl, hm'⟩
  refine ⟨_, hm.app hm', jkD (fun w h => h.pick [0, 1] (by kernel_rfl) (by kernel_rfl)) ?_⟩
  clear hm hm'
  refine toD 6 (by kernel_rfl) (p_a 0 [0] (by kernel_rfl) (fun b => by kernel_rfl) (fun b_6 => jkD (fun w h => h.pick [0, 1] (by kernel_rfl) (by kernel_rfl)) ?_))
  obtain ⟨t_4, ht_7, h⟩ := bd h
  refine toD 7 (by kernel_rfl) (p_call 0 69 #[(.slice (some ⟨b_6, 0, none⟩) 2 2)] (by kernel_rfl) (by kernel_rfl) (fun w hm => impl_firstOf.calls [t_1, t_3] w _ (some ⟨b_6, 0, none⟩) 2 2 (hm.ownRow (hh := 2) (o := (some b_6)) (T := 2) (enc := encI64) (xs := [t_1, t_3]) (sp := []) (by kernel_rfl) (fun e => nomatch e) encI64_len) rfl ht_7) ?_)
  rintro w v w' hm ⟨rfl, hm'⟩
  refine ⟨_, hm.app hm', jkD (fun w h => h.pick [0, 1] (by kernel_rfl) (by kernel_rfl)) ?_⟩
  clear hm hm'
  refine jd_f [⟨8, 0, 0⟩] 0 (by kernel_rfl) (by kernel_rfl) (fun w h => h.pick [0, 1] (by kernel_rfl) (by kernel_rfl)) (by kernel_rfl) (by kernel_rfl) ?_
  refine jd_end (by kernel_rfl) ?_
  refine jx_then ?_
  refine jc_ret ?_
  obtain rfl := Option.some.inj h
  exact jx_ret [] (.int .i64 t_4) [] rfl (by kernel_rfl) (by kernel_rfl) (fun w hm => ⟨rfl, hm.pick [] (by kernel_rfl) (by kernel_rfl)⟩)

/-! ### impl.Greedy$1 -/
noncomputable def impl_Greedy_1 (x0 : GChoice) (p1 : GFrame) (p2 : Arr 96 Int) (p3 : GNote) : Option (Bool) := (impl_Frame_canPut p1 p2 p3 x0).bind fun t_1 => some (!t_1)
set_option maxRecDepth 100000 in
theorem impl_Greedy_1.calls (x0 : GChoice) (p1 : GFrame) (p2 : Arr 96 Int) (p3 : GNote) (w : World) (r : Bool) (p1_fHammers_a : Option Addr) (p1_fHammers_an : Nat) (p1_fHammers_c : Nat) (p1_fHammers_h : Rw w p1_fHammers_a 2 encGHammer p1.fHammers) (p1_fHammers_hn : p1.fHammers.length = p1_fHammers_an) (p1_b : Nat) (p2_b : Nat) (p3_b : Nat) (hm0 : Mem w (bs [some p1_b, some p2_b, some p3_b]) [⟨some p1_b, 38, [(.int .i16 p1.fSteps), (.slice p1_fHammers_a p1_fHammers_an p1_fHammers_c)]⟩, ⟨(some p2_b), 67, row encU32 p2.1 []⟩, ⟨some p3_b, 126, [(.int .i16 p3.fAt), (.int .i8 p3.fPitch)]⟩] w) (p1_fHammers_ha : p1.fHammers ≠ [] → aB p1_fHammers_a ∉ bs [some p1_b, some p2_b, some p3_b]) (h : impl_Greedy_1 x0 p1 p2 p3 = some r) :
    Calls Try.prog 101 #[(.agg #[(.bool x0.fAway), (.int .i8 x0.fLate), (.int .i8 x0.fOctave), (.int .i8 x0.fTrack)]), (.pointer (some ⟨p1_b, 0, none⟩)), (.pointer (some ⟨p2_b, 0, none⟩)), (.pointer (some ⟨p3_b, 0, none⟩))] w fun e w' => ∃ v, e = .returned v ∧ (v = (.bool r) ∧ Mem w (bs [some p1_b, some p2_b, some p3_b]) [⟨some p1_b, 38, [(.int .i16 p1.fSteps), (.slice p1_fHammers_a p1_fHammers_an p1_fHammers_c)]⟩, ⟨(some p2_b), 67, row encU32 p2.1 []⟩, ⟨some p3_b, 126, [(.int .i16 p3.fAt), (.int .i8 p3.fPitch)]⟩] w') := by
  subst p1_fHammers_hn
  rw [impl_Greedy_1] at h
  refine enter (args := [(.agg #[(.bool x0.fAway), (.int .i8 x0.fLate), (.int .i8 x0.fOctave), (.int .i8 x0.fTrack)]), (.pointer (some ⟨p1_b, 0, none⟩)), (.pointer (some ⟨p2_b, 0, none⟩)), (.pointer (some ⟨p3_b, 0, none⟩))]) Try.func101 rfl Try.ntmps101 (by kernel_rfl) (L := [⟨some p1_b, 38, [(.int .i16 p1.fSteps), (.slice p1_fHammers_a p1.fHammers.length p1_fHammers_c)]⟩, ⟨(some p2_b), 67, row encU32 p2.1 []⟩, ⟨some p3_b, 126, [(.int .i16 p3.fAt), (.int .i8 p3.fPitch)]⟩]) (W := bs [some p1_b, some p2_b, some p3_b]) hm0 ?_
  refine jc_seq ?_
  refine jc_region ?_
  refine toO (by kernel_rfl) (p_a 0 [0] (by kernel_rfl) (fun b => by kernel_rfl) (fun b_1 => jkO ?_))
  refine jo_f [(0, 0)] (by kernel_rfl) ?_
  refine jo_end (by kernel_rfl) ?_
  refine jx_then ?_
  refine jc_seq ?_
  refine jc_region ?_
  refine jo_f [(0, 0), (2, 0), (3, 0)] (by kernel_rfl) ?_
  obtain ⟨t_1, ht_2, h⟩ := bd h
  refine toO (by kernel_rfl) (p_call 0 102 #[(.agg #[(.int .i16 p1.fSteps), (.slice p1_fHammers_a p1.fHammers.length p1_fHammers_c)]), (.pointer (some ⟨p2_b, 0, none⟩)), (.agg #[(.int .i16 p3.fAt), (.int .i8 p3.fPitch)]), (.agg #[(.bool x0.fAway), (.int .i8 x0.fLate), (.int .i8 x0.fOctave), (.int .i8 x0.fTrack)])] (by kernel_rfl) (by kernel_rfl) (fun w hm => impl_Frame_canPut.calls p1 p2 p3 x0 w _ p1_fHammers_a p1.fHammers.length p1_fHammers_c (hm.exRowW p1_fHammers_h p1_fHammers_ha) rfl p2_b (hm.pass (N := [⟨(some p2_b), 67, row encU32 p2.1 []⟩]) [1] (by kernel_rfl) (by kernel_rfl)) (hm.exApart (N := [⟨(some p2_b), 67, row encU32 p2.1 []⟩]) p1_fHammers_h p1_fHammers_ha [1] (by kernel_rfl)) ht_2) ?_)
  rintro w v w' hm ⟨rfl, hm'⟩
  refine ⟨_, hm.appW (ps := [(1, ⟨(some p2_b), 67, row encU32 p2.1 []⟩)]) (N := []) hm' (by kernel_rfl) (by kernel_rfl), jkO ?_⟩
  clear hm hm'
  refine jo_f [(0, 0), (0, 0)] (by kernel_rfl) ?_
  refine jo_end (by kernel_rfl) ?_
  refine jx_then ?_
  refine jc_ret ?_
  obtain rfl := Option.some.inj h
  exact jx_ret [] (.bool (!t_1)) [] rfl (by kernel_rfl) (by kernel_rfl) (fun w hm => ⟨rfl, hm.pick [0, 1, 2] (by kernel_rfl) (by kernel_rfl)⟩)

/-! ### slices.IndexFunc[[]impl.Choice,impl.Choice] -/
noncomputable def slices_IndexFunc_Choice_at_impl_Greedy_1.k_1 : Option (Int) := some (-1)
noncomputable def slices_IndexFunc_Choice_at_impl_Greedy_1.l_3 (s0 : List GChoice) (g1c0 : GFrame) (g1c1 : Arr 96 Int) (g1c2 : GNote) : Int → Option ((Int) ⊕ (Int ⊕ Unit))
  | i_2 => (if (decide (i_2 < (s0.length : Int))) = true then (ix s0 i_2).bind fun x_5 => (impl_Greedy_1 x_5 g1c0 g1c1 g1c2).bind fun t_6 => (if t_6 = true then some (.inr (.inl i_2)) else some (.inl (w64 (i_2 + 1)))) else some (.inr (.inr ())))
noncomputable def slices_IndexFunc_Choice_at_impl_Greedy_1 (s0 : List GChoice) (g1c0 : GFrame) (g1c1 : Arr 96 Int) (g1c2 : GNote) : Option (Int) := (loop (slices_IndexFunc_Choice_at_impl_Greedy_1.l_3 s0 g1c0 g1c1 g1c2) 0).bind fun t_4 => match t_4 with | .inl p => some p | .inr p => slices_IndexFunc_Choice_at_impl_Greedy_1.k_1
set_option maxRecDepth 100000 in
theorem slices_IndexFunc_Choice_at_impl_Greedy_1.calls (s0 : List GChoice) (g1c0 : GFrame) (g1c1 : Arr 96 Int) (g1c2 : GNote) (w : World) (r : Int) (s0_a : Option Addr) (s0_an : Nat) (s0_c : Nat) (s0_h : Rw w s0_a 4 encGChoice s0) (s0_hn : s0.length = s0_an) (g1c0_fHammers_a : Option Addr) (g1c0_fHammers_an : Nat) (g1c0_fHammers_c : Nat) (g1c0_fHammers_h : Rw w g1c0_fHammers_a 2 encGHammer g1c0.fHammers) (g1c0_fHammers_hn : g1c0.fHammers.length = g1c0_fHammers_an) (g1c0_b : Nat) (g1c1_b : Nat) (g1c2_b : Nat) (hm0 : Mem w (bs [some g1c0_b, some g1c1_b, some g1c2_b]) [⟨some g1c0_b, 38, [(.int .i16 g1c0.fSteps), (.slice g1c0_fHammers_a g1c0_fHammers_an g1c0_fHammers_c)]⟩, ⟨(some g1c1_b), 67, row encU32 g1c1.1 []⟩, ⟨some g1c2_b, 126, [(.int .i16 g1c2.fAt), (.int .i8 g1c2.fPitch)]⟩] w) (s0_ha : s0 ≠ [] → aB s0_a ∉ bs [some g1c0_b, some g1c1_b, some g1c2_b]) (g1c0_fHammers_ha : g1c0.fHammers ≠ [] → aB g1c0_fHammers_a ∉ bs [some g1c0_b, some g1c1_b, some g1c2_b]) (h : slices_IndexFunc_Choice_at_impl_Greedy_1 s0 g1c0 g1c1 g1c2 = some r) :
    Calls Try.prog 150 #[(.slice s0_a s0_an s0_c), (.func (.func 101) #[] #[(.pointer (some ⟨g1c0_b, 0, none⟩)), (.pointer (some ⟨g1c1_b, 0, none⟩)), (.pointer (some ⟨g1c2_b, 0, none⟩))])] w fun e w' => ∃ v, e = .returned v ∧ (v = (.int .i64 r) ∧ Mem w (bs [some g1c0_b, some g1c1_b, some g1c2_b]) [⟨some g1c0_b, 38, [(.int .i16 g1c0.fSteps), (.slice g1c0_fHammers_a g1c0_fHammers_an g1c0_fHammers_c)]⟩, ⟨(some g1c1_b), 67, row encU32 g1c1.1 []⟩, ⟨some g1c2_b, 126, [(.int .i16 g1c2.fAt), (.int .i8 g1c2.fPitch)]⟩] w') := by
  subst s0_hn g1c0_fHammers_hn
  rw [slices_IndexFunc_Choice_at_impl_Greedy_1] at h
  refine enter (args := [(.slice s0_a s0.length s0_c), (.func (.func 101) #[] #[(.pointer (some ⟨g1c0_b, 0, none⟩)), (.pointer (some ⟨g1c1_b, 0, none⟩)), (.pointer (some ⟨g1c2_b, 0, none⟩))])]) Try.func150 rfl Try.ntmps150 (by kernel_rfl) (L := [⟨some g1c0_b, 38, [(.int .i16 g1c0.fSteps), (.slice g1c0_fHammers_a g1c0.fHammers.length g1c0_fHammers_c)]⟩, ⟨(some g1c1_b), 67, row encU32 g1c1.1 []⟩, ⟨some g1c2_b, 126, [(.int .i16 g1c2.fAt), (.int .i8 g1c2.fPitch)]⟩]) (W := bs [some g1c0_b, some g1c1_b, some g1c2_b]) hm0 ?_
  refine jc_seq ?_
  refine jc_region ?_
  refine jo_f [(0, 0)] (by kernel_rfl) ?_
  refine jo_end (by kernel_rfl) ?_
  refine jx_then ?_
  refine jc_seq ?_
  refine jc_seq ?_
  refine jc_region ?_
  refine jo_f [(0, 0), (0, 0), (0, 0)] (by kernel_rfl) ?_
  refine jo_end (by kernel_rfl) ?_
  refine jx_then ?_
  refine jc_meet (fun (_ : Unit) => slices_IndexFunc_Choice_at_impl_Greedy_1.k_1 = some r) (fun (_ : Unit) => [(4, [], (.int .i64 0))]) (fun (_ : Unit) => [⟨some g1c0_b, 38, [(.int .i16 g1c0.fSteps), (.slice g1c0_fHammers_a g1c0.fHammers.length g1c0_fHammers_c)]⟩, ⟨(some g1c1_b), 67, row encU32 g1c1.1 []⟩, ⟨some g1c2_b, 126, [(.int .i16 g1c2.fAt), (.int .i8 g1c2.fPitch)]⟩]) ?_ ?_
  · refine jc_block ?_
    obtain ⟨t_4, ht_40, hr_31⟩ := bd h
    refine jc_loop (fun (s : Int) (x : Unit) => match s, x with | i_2, _ => True) (fun (s : Int) (x : Unit) => match s, x with | i_2, _ => [(0, [], (.slice s0_a s0.length s0_c)), (1, [], (.func (.func 101) #[] #[(.pointer (some ⟨g1c0_b, 0, none⟩)), (.pointer (some ⟨g1c1_b, 0, none⟩)), (.pointer (some ⟨g1c2_b, 0, none⟩))])), (4, [], (.int .i64 0)), (7, [], (.int .i64 (s0.length : Int))), (8, [], (.int .i64 i_2))]) (fun (s : Int) (x : Unit) => match s, x with | i_2, _ => [⟨some g1c0_b, 38, [(.int .i16 g1c0.fSteps), (.slice g1c0_fHammers_a g1c0.fHammers.length g1c0_fHammers_c)]⟩, ⟨(some g1c1_b), 67, row encU32 g1c1.1 []⟩, ⟨some g1c2_b, 126, [(.int .i16 g1c2.fAt), (.int .i8 g1c2.fPitch)]⟩]) ht_40 () trivial (by kernel_rfl) [0, 1, 2] (by kernel_rfl) (by kernel_rfl) ?_
    rintro i_2 _ y_32 _ h
    rw [slices_IndexFunc_Choice_at_impl_Greedy_1.l_3] at h
    refine jc_seq ?_
    refine jc_region ?_
    refine jo_f [(0, 0)] (by kernel_rfl) ?_
    refine jo_end (by kernel_rfl) ?_
    refine jx_then ?_
    refine jc_seq ?_
    refine jc_cond (decide (i_2 < (s0.length : Int))) (by kernel_rfl) (fun hc_34 => ?_) (fun hc_34 => ?_)
    · replace h := ifT hc_34 h
      refine jc_skip ?_
      refine jx_then ?_
      refine jc_seq ?_
      refine jc_block ?_
      refine jc_seq ?_
      refine jc_region ?_
      refine jo_f [(0, 0), (0, 0)] (by kernel_rfl) ?_
      refine jo_end (by kernel_rfl) ?_
      refine jx_then ?_
      refine jc_seq ?_
      refine jc_region ?_
      refine jo_f [(0, 0), (0, 0), (0, 0)] (by kernel_rfl) ?_
      obtain ⟨x_5, hx_35, h⟩ := bd h
      refine toO (by kernel_rfl) (p_idx 0 s0_a s0.length i_2 4 (by kernel_rfl) (by kernel_rfl) (ix_some hx_35).1 (ltn hx_35 rfl) (s0_h.sp hx_35) (jkO ?_))
      refine toO (by kernel_rfl) (p_ld 0 (aB s0_a) (aO s0_a + i_2.toNat * 4) true (encGChoice x_5) (by kernel_rfl) (by kernel_rfl) (by kernel_rfl) (fun w hm => ((hm.exRowW s0_h s0_ha).at hx_35)) (jkO ?_))
      obtain ⟨t_6, ht_36, h⟩ := bd h
      refine toO (by kernel_rfl) (p_call 0 101 #[(.agg #[(.bool x_5.fAway), (.int .i8 x_5.fLate), (.int .i8 x_5.fOctave), (.int .i8 x_5.fTrack)]), (.pointer (some ⟨g1c0_b, 0, none⟩)), (.pointer (some ⟨g1c1_b, 0, none⟩)), (.pointer (some ⟨g1c2_b, 0, none⟩))] (by kernel_rfl) (by kernel_rfl) (fun w hm => impl_Greedy_1.calls x_5 g1c0 g1c1 g1c2 w _ g1c0_fHammers_a g1c0.fHammers.length g1c0_fHammers_c (hm.exRowW g1c0_fHammers_h g1c0_fHammers_ha) rfl g1c0_b g1c1_b g1c2_b (hm.pass (N := [⟨some g1c0_b, 38, [(.int .i16 g1c0.fSteps), (.slice g1c0_fHammers_a g1c0.fHammers.length g1c0_fHammers_c)]⟩, ⟨(some g1c1_b), 67, row encU32 g1c1.1 []⟩, ⟨some g1c2_b, 126, [(.int .i16 g1c2.fAt), (.int .i8 g1c2.fPitch)]⟩]) [0, 1, 2] (by kernel_rfl) (by kernel_rfl)) (hm.exApart (N := [⟨some g1c0_b, 38, [(.int .i16 g1c0.fSteps), (.slice g1c0_fHammers_a g1c0.fHammers.length g1c0_fHammers_c)]⟩, ⟨(some g1c1_b), 67, row encU32 g1c1.1 []⟩, ⟨some g1c2_b, 126, [(.int .i16 g1c2.fAt), (.int .i8 g1c2.fPitch)]⟩]) g1c0_fHammers_h g1c0_fHammers_ha [0, 1, 2] (by kernel_rfl)) ht_36) ?_)
      rintro w v w' hm ⟨rfl, hm'⟩
      refine ⟨_, hm.appW (ps := [(0, ⟨some g1c0_b, 38, [(.int .i16 g1c0.fSteps), (.slice g1c0_fHammers_a g1c0.fHammers.length g1c0_fHammers_c)]⟩), (1, ⟨(some g1c1_b), 67, row encU32 g1c1.1 []⟩), (2, ⟨some g1c2_b, 126, [(.int .i16 g1c2.fAt), (.int .i8 g1c2.fPitch)]⟩)]) (N := []) hm' (by kernel_rfl) (by kernel_rfl), jkO ?_⟩
      clear hm hm'
      refine jo_end (by kernel_rfl) ?_
      refine jx_then ?_
      refine jc_cond t_6 (by kernel_rfl) (fun hc_37 => ?_) (fun hc_37 => ?_)
      · replace h := ifT hc_37 h
        refine jc_seq ?_
        refine jc_region ?_
        refine jo_f [(0, 0), (0, 0)] (by kernel_rfl) ?_
        refine jo_end (by kernel_rfl) ?_
        refine jx_then ?_
        refine jc_ret ?_
        refine jx_inr ?_
        refine jx_thenr ?_
        refine jx_leaver (.inl i_2) (Option.some.inj h).symm (fun e_38 => ?_)
        subst e_38
        refine jx_inr ?_
        refine jx_thenr ?_
        refine jx_thenr ?_
        obtain rfl := Option.some.inj hr_31
        exact jx_ret [] (.int .i64 i_2) [] rfl (by kernel_rfl) (by kernel_rfl) (fun w hm => ⟨rfl, hm.pick [0, 1, 2] (by kernel_rfl) (by kernel_rfl)⟩)
      · replace h := ifF hc_37 h
        refine jc_skip ?_
        refine jx_inn ?_
        refine jx_then ?_
        refine jc_region ?_
        refine jo_f [(0, 0), (0, 0)] (by kernel_rfl) ?_
        refine jo_end (by kernel_rfl) ?_
        exact jx_back (w64 (i_2 + 1)) () (Option.some.inj h).symm trivial [0, 1, 2] (by kernel_rfl) (by kernel_rfl) (by kernel_rfl)
    · replace h := ifF hc_34 h
      refine jc_exit ?_
      refine jx_thenx ?_
      refine jx_leave (.inr ()) (Option.some.inj h).symm (fun e_39 => ?_)
      subst e_39
      refine jx_ine ?_
      exact jx_meet () hr_31 (by kernel_rfl) [0, 1, 2] (by kernel_rfl) (by kernel_rfl)
  · rintro _ h
    replace h : slices_IndexFunc_Choice_at_impl_Greedy_1.k_1 = some r := h
    rw [slices_IndexFunc_Choice_at_impl_Greedy_1.k_1] at h
    refine jx_then ?_
    refine jc_seq ?_
    refine jc_region ?_
    refine jo_f [(0, 0)] (by kernel_rfl) ?_
    refine jo_end (by kernel_rfl) ?_
    refine jx_then ?_
    refine jc_ret ?_
    obtain rfl := Option.some.inj h
    exact jx_ret [] (.int .i64 (-1)) [] rfl (by kernel_rfl) (by kernel_rfl) (fun w hm => ⟨rfl, hm.pick [0, 1, 2] (by kernel_rfl) (by kernel_rfl)⟩)

/-! ### slices.DeleteFunc[[]impl.Choice,impl.Choice] -/
noncomputable def slices_DeleteFunc_Choice_at_impl_Greedy_1.k_4 (xs_2 : List GChoice) (i_3 : Int) : Option ((List GChoice)) := (if 0 ≤ i_3 ∧ i_3 ≤ (xs_2.length : Int) then some (xs_2.take i_3.toNat) else none)
noncomputable def slices_DeleteFunc_Choice_at_impl_Greedy_1.l_8 (s0 : List GChoice) (g1c0 : GFrame) (g1c1 : Arr 96 Int) (g1c2 : GNote) : ((List GChoice) × Int × Int) → Option (((List GChoice) × Int × Int) ⊕ (((List GChoice) × Int)))
  | (xs_5, i_6, i_7) => (if (decide (i_7 < (s0.length : Int))) = true then (ix xs_5 i_7).bind fun x_10 => (impl_Greedy_1 x_10 g1c0 g1c1 g1c2).bind fun t_11 => (if (!t_11) = true then (ix xs_5 i_6).bind fun x_12 => some (.inl ((xs_5.set i_6.toNat x_10), (w64 (i_6 + 1)), (w64 (i_7 + 1)))) else some (.inl (xs_5, i_6, (w64 (i_7 + 1))))) else some (.inr (xs_5, i_6)))
noncomputable def slices_DeleteFunc_Choice_at_impl_Greedy_1 (s0 : List GChoice) (g1c0 : GFrame) (g1c1 : Arr 96 Int) (g1c2 : GNote) : Option ((List GChoice)) := (slices_IndexFunc_Choice_at_impl_Greedy_1 s0 g1c0 g1c1 g1c2).bind fun t_1 => (if (t_1 == (-1)) = true then some s0 else (loop (slices_DeleteFunc_Choice_at_impl_Greedy_1.l_8 s0 g1c0 g1c1 g1c2) (s0, t_1, (w64 (t_1 + 1)))).bind fun t_9 => slices_DeleteFunc_Choice_at_impl_Greedy_1.k_4 t_9.1 t_9.2)
set_option maxRecDepth 100000 in
theorem slices_DeleteFunc_Choice_at_impl_Greedy_1.calls (s0 : List GChoice) (g1c0 : GFrame) (g1c1 : Arr 96 Int) (g1c2 : GNote) (w : World) (r : (List GChoice)) (g1c0_fHammers_a : Option Addr) (g1c0_fHammers_an : Nat) (g1c0_fHammers_c : Nat) (g1c0_fHammers_h : Rw w g1c0_fHammers_a 2 encGHammer g1c0.fHammers) (g1c0_fHammers_hn : g1c0.fHammers.length = g1c0_fHammers_an) (s0_o : Option Nat) (s0_on : Nat) (s0_c : Nat) (s0_sp : List Value) (s0_hn : s0.length = s0_on) (s0_hs : s0_o ≠ none → s0_on ≤ s0_c ∧ s0_sp.length = (s0_c - s0_on) * 4) (s0_ho : s0_o = none → s0 = [] ∧ s0_c = 0) (g1c0_b : Nat) (g1c1_b : Nat) (g1c2_b : Nat) (hm0 : Mem w (bs [s0_o, some g1c0_b, some g1c1_b, some g1c2_b]) [⟨s0_o, 130, row encGChoice s0 s0_sp⟩, ⟨some g1c0_b, 38, [(.int .i16 g1c0.fSteps), (.slice g1c0_fHammers_a g1c0_fHammers_an g1c0_fHammers_c)]⟩, ⟨(some g1c1_b), 67, row encU32 g1c1.1 []⟩, ⟨some g1c2_b, 126, [(.int .i16 g1c2.fAt), (.int .i8 g1c2.fPitch)]⟩] w) (g1c0_fHammers_ha : g1c0.fHammers ≠ [] → aB g1c0_fHammers_a ∉ bs [s0_o, some g1c0_b, some g1c1_b, some g1c2_b]) (h : slices_DeleteFunc_Choice_at_impl_Greedy_1 s0 g1c0 g1c1 g1c2 = some r) :
    Calls Try.prog 99 #[(.slice (s0_o.map fun b => ⟨b, 0, none⟩) s0_on s0_c), (.func (.func 101) #[] #[(.pointer (some ⟨g1c0_b, 0, none⟩)), (.pointer (some ⟨g1c1_b, 0, none⟩)), (.pointer (some ⟨g1c2_b, 0, none⟩))])] w fun e w' => ∃ v, e = .returned v ∧ (∃ (o0 : Option Nat) (c0 : Nat) (s0 : List Value) (n0 : Nat), r.length = n0 ∧ (o0 ≠ none → n0 ≤ c0 ∧ s0.length = (c0 - n0) * 4) ∧ (o0 = none → r = [] ∧ c0 = 0) ∧ v = .slice (o0.map fun b => ⟨b, 0, none⟩) n0 c0 ∧ Mem w (bs [s0_o, some g1c0_b, some g1c1_b, some g1c2_b]) [⟨some g1c0_b, 38, [(.int .i16 g1c0.fSteps), (.slice g1c0_fHammers_a g1c0_fHammers_an g1c0_fHammers_c)]⟩, ⟨(some g1c1_b), 67, row encU32 g1c1.1 []⟩, ⟨some g1c2_b, 126, [(.int .i16 g1c2.fAt), (.int .i8 g1c2.fPitch)]⟩, ⟨o0, 130, row encGChoice r s0⟩] w') := by
  subst g1c0_fHammers_hn s0_hn
  rw [slices_DeleteFunc_Choice_at_impl_Greedy_1] at h
  refine enter (args := [(.slice (s0_o.map fun b => ⟨b, 0, none⟩) s0.length s0_c), (.func (.func 101) #[] #[(.pointer (some ⟨g1c0_b, 0, none⟩)), (.pointer (some ⟨g1c1_b, 0, none⟩)), (.pointer (some ⟨g1c2_b, 0, none⟩))])]) Try.func99 rfl Try.ntmps99 (by kernel_rfl) (L := [⟨s0_o, 130, row encGChoice s0 s0_sp⟩, ⟨some g1c0_b, 38, [(.int .i16 g1c0.fSteps), (.slice g1c0_fHammers_a g1c0.fHammers.length g1c0_fHammers_c)]⟩, ⟨(some g1c1_b), 67, row encU32 g1c1.1 []⟩, ⟨some g1c2_b, 126, [(.int .i16 g1c2.fAt), (.int .i8 g1c2.fPitch)]⟩]) (W := bs [s0_o, some g1c0_b, some g1c1_b, some g1c2_b]) hm0 ?_
  refine jc_seq ?_
  refine jc_region ?_
  refine jo_f [(0, 0)] (by kernel_rfl) ?_
  refine jo_end (by kernel_rfl) ?_
  refine jx_then ?_
  refine jc_seq ?_
  refine jc_region ?_
  refine jo_f [(0, 0), (0, 0)] (by kernel_rfl) ?_
  obtain ⟨t_1, ht_1, h⟩ := bd h
  refine toO (by kernel_rfl) (p_call 0 150 #[(.slice (s0_o.map fun b => ⟨b, 0, none⟩) s0.length s0_c), (.func (.func 101) #[] #[(.pointer (some ⟨g1c0_b, 0, none⟩)), (.pointer (some ⟨g1c1_b, 0, none⟩)), (.pointer (some ⟨g1c2_b, 0, none⟩))])] (by kernel_rfl) (by kernel_rfl) (fun w hm => slices_IndexFunc_Choice_at_impl_Greedy_1.calls s0 g1c0 g1c1 g1c2 w _ (s0_o.map fun b => ⟨b, 0, none⟩) s0.length s0_c (hm.ownRow (hh := 0) (o := s0_o) (T := 130) (enc := encGChoice) (xs := s0) (sp := s0_sp) (by kernel_rfl) (fun e => (s0_ho e).1) encGChoice_len) rfl g1c0_fHammers_a g1c0.fHammers.length g1c0_fHammers_c (hm.exRowW g1c0_fHammers_h g1c0_fHammers_ha) rfl g1c0_b g1c1_b g1c2_b (hm.pass (N := [⟨some g1c0_b, 38, [(.int .i16 g1c0.fSteps), (.slice g1c0_fHammers_a g1c0.fHammers.length g1c0_fHammers_c)]⟩, ⟨(some g1c1_b), 67, row encU32 g1c1.1 []⟩, ⟨some g1c2_b, 126, [(.int .i16 g1c2.fAt), (.int .i8 g1c2.fPitch)]⟩]) [1, 2, 3] (by kernel_rfl) (by kernel_rfl)) (hm.ownApart (S := GChoice) (N := [⟨some g1c0_b, 38, [(.int .i16 g1c0.fSteps), (.slice g1c0_fHammers_a g1c0.fHammers.length g1c0_fHammers_c)]⟩, ⟨(some g1c1_b), 67, row encU32 g1c1.1 []⟩, ⟨some g1c2_b, 126, [(.int .i16 g1c2.fAt), (.int .i8 g1c2.fPitch)]⟩]) (hh := 0) (o := s0_o) (T := 130) (cs := row encGChoice s0 s0_sp) (xs := s0) (by kernel_rfl) (fun e => (s0_ho e).1) [1, 2, 3] (by kernel_rfl) (by kernel_rfl)) (hm.exApart (N := [⟨some g1c0_b, 38, [(.int .i16 g1c0.fSteps), (.slice g1c0_fHammers_a g1c0.fHammers.length g1c0_fHammers_c)]⟩, ⟨(some g1c1_b), 67, row encU32 g1c1.1 []⟩, ⟨some g1c2_b, 126, [(.int .i16 g1c2.fAt), (.int .i8 g1c2.fPitch)]⟩]) g1c0_fHammers_h g1c0_fHammers_ha [1, 2, 3] (by kernel_rfl)) ht_1) ?_)
  rintro w v w' hm ⟨rfl, hm'⟩
  refine ⟨_, hm.appW (ps := [(1, ⟨some g1c0_b, 38, [(.int .i16 g1c0.fSteps), (.slice g1c0_fHammers_a g1c0.fHammers.length g1c0_fHammers_c)]⟩), (2, ⟨(some g1c1_b), 67, row encU32 g1c1.1 []⟩), (3, ⟨some g1c2_b, 126, [(.int .i16 g1c2.fAt), (.int .i8 g1c2.fPitch)]⟩)]) (N := []) hm' (by kernel_rfl) (by kernel_rfl), jkO ?_⟩
  clear hm hm'
  refine jo_f [(0, 0)] (by kernel_rfl) ?_
  refine jo_end (by kernel_rfl) ?_
  refine jx_then ?_
  refine jc_seq ?_
  refine jc_seq ?_
  refine jc_region ?_
  refine jo_f [(0, 0), (0, 0)] (by kernel_rfl) ?_
  refine jo_end (by kernel_rfl) ?_
  refine jx_then ?_
  refine jc_cond (t_1 == (-1)) (by kernel_rfl) (fun hc_3 => ?_) (fun hc_3 => ?_)
  · replace h := ifT hc_3 h
    refine jc_seq ?_
    refine jc_region ?_
    refine jo_f [(0, 0), (0, 0)] (by kernel_rfl) ?_
    refine jo_end (by kernel_rfl) ?_
    refine jx_then ?_
    refine jc_ret ?_
    refine jx_thenr ?_
    obtain rfl := Option.some.inj h
    exact jx_ret [] (.slice (s0_o.map fun b => ⟨b, 0, none⟩) s0.length s0_c) [] rfl (by kernel_rfl) (by kernel_rfl) (fun w hm => ⟨s0_o, s0_c, s0_sp, s0.length, rfl, s0_hs, s0_ho, rfl, hm.pick [1, 2, 3, 0] (by kernel_rfl) (by kernel_rfl)⟩)
  · replace h := ifF hc_3 h
    refine jc_skip ?_
    refine jx_then ?_
    refine jc_seq ?_
    refine jc_seq ?_
    refine jc_region ?_
    refine jo_f [(0, 0), (0, 0), (0, 0)] (by kernel_rfl) ?_
    refine jo_end (by kernel_rfl) ?_
    refine jx_then ?_
    refine jc_meet (fun (j : (List GChoice) × Int) => match j with | ⟨xs_2, i_3⟩ => slices_DeleteFunc_Choice_at_impl_Greedy_1.k_4 xs_2 i_3 = some r ∧ (xs_2.length = s0.length) ∧ ((s0_o = none → xs_2 = [] ∧ s0_c = 0))) (fun (j : (List GChoice) × Int) => match j with | ⟨xs_2, i_3⟩ => [(0, [], (.slice (s0_o.map fun b => ⟨b, 0, none⟩) s0.length s0_c)), (4, [], (.slice none 0 0)), (5, [], (.int .i64 i_3))]) (fun (j : (List GChoice) × Int) => match j with | ⟨xs_2, i_3⟩ => [⟨s0_o, 130, row encGChoice xs_2 s0_sp⟩, ⟨some g1c0_b, 38, [(.int .i16 g1c0.fSteps), (.slice g1c0_fHammers_a g1c0.fHammers.length g1c0_fHammers_c)]⟩, ⟨(some g1c1_b), 67, row encU32 g1c1.1 []⟩, ⟨some g1c2_b, 126, [(.int .i16 g1c2.fAt), (.int .i8 g1c2.fPitch)]⟩]) ?_ ?_
    · refine jc_block ?_
      obtain ⟨t_9, ht_127, hr_117⟩ := bd h
      refine jc_loop (fun (s : (List GChoice) × Int × Int) (x : Unit) => match s, x with | ⟨xs_5, i_6, i_7⟩, _ => (xs_5.length = s0.length) ∧ ((s0_o = none → xs_5 = [] ∧ s0_c = 0))) (fun (s : (List GChoice) × Int × Int) (x : Unit) => match s, x with | ⟨xs_5, i_6, i_7⟩, _ => [(0, [], (.slice (s0_o.map fun b => ⟨b, 0, none⟩) s0.length s0_c)), (1, [], (.func (.func 101) #[] #[(.pointer (some ⟨g1c0_b, 0, none⟩)), (.pointer (some ⟨g1c1_b, 0, none⟩)), (.pointer (some ⟨g1c2_b, 0, none⟩))])), (4, [], (.slice none 0 0)), (5, [], (.int .i64 i_6)), (6, [], (.int .i64 i_7))]) (fun (s : (List GChoice) × Int × Int) (x : Unit) => match s, x with | ⟨xs_5, i_6, i_7⟩, _ => [⟨s0_o, 130, row encGChoice xs_5 s0_sp⟩, ⟨some g1c0_b, 38, [(.int .i16 g1c0.fSteps), (.slice g1c0_fHammers_a g1c0.fHammers.length g1c0_fHammers_c)]⟩, ⟨(some g1c1_b), 67, row encU32 g1c1.1 []⟩, ⟨some g1c2_b, 126, [(.int .i16 g1c2.fAt), (.int .i8 g1c2.fPitch)]⟩]) ht_127 () ⟨rfl, s0_ho⟩ (by kernel_rfl) [0, 1, 2, 3] (by kernel_rfl) (by kernel_rfl) ?_
      rintro ⟨xs_5, i_6, i_7⟩ _ y_118 ⟨hn_116, ho_115⟩ h
      rw [slices_DeleteFunc_Choice_at_impl_Greedy_1.l_8] at h
      refine jc_seq ?_
      refine jc_seq ?_
      refine jc_region ?_
      refine jo_f [(0, 0), (0, 0), (0, 0), (0, 0)] (by kernel_rfl) ?_
      refine jo_end (by kernel_rfl) ?_
      refine jx_then ?_
      refine jc_cond (decide (i_7 < (s0.length : Int))) (by kernel_rfl) (fun hc_120 => ?_) (fun hc_120 => ?_)
      · replace h := ifT hc_120 h
        refine jc_skip ?_
        refine jx_then ?_
        refine jc_seq ?_
        refine jc_block ?_
        refine jc_seq ?_
        refine jc_region ?_
        refine jo_f [(0, 0), (0, 0)] (by kernel_rfl) ?_
        obtain ⟨x_10, hx_121, h⟩ := bd h
        refine toO (by kernel_rfl) (p_idx 0 (s0_o.map fun b => ⟨b, 0, none⟩) s0.length i_7 4 (by kernel_rfl) (by kernel_rfl) (ix_some hx_121).1 (ltn hx_121 hn_116) (spo ho_115 hx_121) (jkO ?_))
        refine toO (by kernel_rfl) (p_ld 0 (aB (s0_o.map fun b => ⟨b, 0, none⟩)) (aO (s0_o.map fun b => ⟨b, 0, none⟩) + i_7.toNat * 4) true (encGChoice x_10) (by kernel_rfl) (by kernel_rfl) (by kernel_rfl) (fun w hm => ((hm.ownRow (hh := 0) (o := s0_o) (T := 130) (enc := encGChoice) (xs := xs_5) (sp := s0_sp) (by kernel_rfl) (fun e => (ho_115 e).1) encGChoice_len).at hx_121)) (jkO ?_))
        refine toO (by kernel_rfl) (p_a 0 [0] (by kernel_rfl) (fun b => by kernel_rfl) (fun b_122 => jkO ?_))
        refine toO (by kernel_rfl) (p_s 0 [4] (by kernel_rfl) (by kernel_rfl) (jkO ?_))
        refine jo_end (by kernel_rfl) ?_
        refine jx_then ?_
        refine jc_seq ?_
        refine jc_region ?_
        refine jo_f [(0, 0), (4, 0)] (by kernel_rfl) ?_
        obtain ⟨t_11, ht_123, h⟩ := bd h
        refine toO (by kernel_rfl) (p_call 0 101 #[(.agg #[(.bool x_10.fAway), (.int .i8 x_10.fLate), (.int .i8 x_10.fOctave), (.int .i8 x_10.fTrack)]), (.pointer (some ⟨g1c0_b, 0, none⟩)), (.pointer (some ⟨g1c1_b, 0, none⟩)), (.pointer (some ⟨g1c2_b, 0, none⟩))] (by kernel_rfl) (by kernel_rfl) (fun w hm => impl_Greedy_1.calls x_10 g1c0 g1c1 g1c2 w _ g1c0_fHammers_a g1c0.fHammers.length g1c0_fHammers_c (hm.exRowW g1c0_fHammers_h g1c0_fHammers_ha) rfl g1c0_b g1c1_b g1c2_b (hm.pass (N := [⟨some g1c0_b, 38, [(.int .i16 g1c0.fSteps), (.slice g1c0_fHammers_a g1c0.fHammers.length g1c0_fHammers_c)]⟩, ⟨(some g1c1_b), 67, row encU32 g1c1.1 []⟩, ⟨some g1c2_b, 126, [(.int .i16 g1c2.fAt), (.int .i8 g1c2.fPitch)]⟩]) [1, 2, 3] (by kernel_rfl) (by kernel_rfl)) (hm.exApart (N := [⟨some g1c0_b, 38, [(.int .i16 g1c0.fSteps), (.slice g1c0_fHammers_a g1c0.fHammers.length g1c0_fHammers_c)]⟩, ⟨(some g1c1_b), 67, row encU32 g1c1.1 []⟩, ⟨some g1c2_b, 126, [(.int .i16 g1c2.fAt), (.int .i8 g1c2.fPitch)]⟩]) g1c0_fHammers_h g1c0_fHammers_ha [1, 2, 3] (by kernel_rfl)) ht_123) ?_)
        rintro w v w' hm ⟨rfl, hm'⟩
        refine ⟨_, hm.appW (ps := [(1, ⟨some g1c0_b, 38, [(.int .i16 g1c0.fSteps), (.slice g1c0_fHammers_a g1c0.fHammers.length g1c0_fHammers_c)]⟩), (2, ⟨(some g1c1_b), 67, row encU32 g1c1.1 []⟩), (3, ⟨some g1c2_b, 126, [(.int .i16 g1c2.fAt), (.int .i8 g1c2.fPitch)]⟩)]) (N := []) hm' (by kernel_rfl) (by kernel_rfl), jkO ?_⟩
        clear hm hm'
        refine jo_f [(0, 0)] (by kernel_rfl) ?_
        refine jo_end (by kernel_rfl) ?_
        refine jx_then ?_
        refine jc_cond (!t_11) (by kernel_rfl) (fun hc_124 => ?_) (fun hc_124 => ?_)
        · replace h := ifT hc_124 h
          refine jc_seq ?_
          refine jc_region ?_
          refine jo_f [(0, 0), (0, 0), (4, 0)] (by kernel_rfl) ?_
          obtain ⟨x_12, hx_125, h⟩ := bd h
          refine toO (by kernel_rfl) (p_idx 0 (s0_o.map fun b => ⟨b, 0, none⟩) s0.length i_6 4 (by kernel_rfl) (by kernel_rfl) (ix_some hx_125).1 (ltn hx_125 hn_116) (spo ho_115 hx_125) (jkO ?_))
          refine toO (by kernel_rfl) (p_strO 0 0 s0_o 130 encGChoice xs_5 s0_sp i_6 x_10 4 0 [(.bool x_10.fAway), (.int .i8 x_10.fLate), (.int .i8 x_10.fOctave), (.int .i8 x_10.fTrack)] (by kernel_rfl) (by kernel_rfl) (by kernel_rfl) (fun e => (ho_115 e).1) encGChoice_len hx_125 (by kernel_rfl) (by kernel_rfl) (jkO ?_))
          refine jo_end (by kernel_rfl) ?_
          refine jx_then ?_
          refine jc_region ?_
          refine jo_f [(0, 0), (0, 0), (0, 0)] (by kernel_rfl) ?_
          refine jo_end (by kernel_rfl) ?_
          refine jx_inn ?_
          refine jx_then ?_
          refine jc_region ?_
          refine jo_f [(0, 0), (0, 0), (0, 0)] (by kernel_rfl) ?_
          refine jo_end (by kernel_rfl) ?_
          exact jx_back ((xs_5.set i_6.toNat x_10), (w64 (i_6 + 1)), (w64 (i_7 + 1))) () (Option.some.inj h).symm ⟨(List.length_set.trans hn_116), (set_ho ho_115)⟩ [0, 1, 2, 3] (by kernel_rfl) (by kernel_rfl) (by kernel_rfl)
        · replace h := ifF hc_124 h
          refine jc_skip ?_
          refine jx_inn ?_
          refine jx_then ?_
          refine jc_region ?_
          refine jo_f [(0, 0), (0, 0), (0, 0)] (by kernel_rfl) ?_
          refine jo_end (by kernel_rfl) ?_
          exact jx_back (xs_5, i_6, (w64 (i_7 + 1))) () (Option.some.inj h).symm ⟨hn_116, ho_115⟩ [0, 1, 2, 3] (by kernel_rfl) (by kernel_rfl) (by kernel_rfl)
      · replace h := ifF hc_120 h
        refine jc_exit ?_
        refine jx_thenx ?_
        refine jx_leave (xs_5, i_6) (Option.some.inj h).symm (fun e_126 => ?_)
        subst e_126
        refine jx_ine ?_
        exact jx_meet ⟨xs_5, i_6⟩ ⟨hr_117, hn_116, ho_115⟩ (by kernel_rfl) [0, 1, 2, 3] (by kernel_rfl) (by kernel_rfl)
    · rintro ⟨xs_2, i_3⟩ ⟨h, hn_94, ho_93⟩
      replace h : slices_DeleteFunc_Choice_at_impl_Greedy_1.k_4 xs_2 i_3 = some r := h
      rw [slices_DeleteFunc_Choice_at_impl_Greedy_1.k_4] at h
      refine jx_then ?_
      refine jc_seq ?_
      refine jc_region ?_
      refine jo_f [(0, 0), (0, 0)] (by kernel_rfl) ?_
      obtain ⟨hg_95, h⟩ := gd h
      refine toO (by kernel_rfl) (p_slL 0 (s0_o.map fun b => ⟨b, 0, none⟩) s0.length s0_c 4 i_3 (by kernel_rfl) (by kernel_rfl) hg_95.1 (Int.le_trans hg_95.2 (Int.ofNat_le.2 (Nat.le_of_eq hn_94))) (jkO ?_))
      refine toO (by kernel_rfl) (jp_cut (hh := 0) (o := s0_o) (T := 130) (enc := encGChoice) (xs := xs_2) (sp := s0_sp) i_3.toNat (by kernel_rfl) (p_clr 0 0 s0_o 130 i_3.toNat i_3.toNat (s0.length - i_3.toNat) s0_c 4 [(.bool false), (.int .i8 0), (.int .i8 0), (.int .i8 0)] encGChoice (xs_2.take i_3.toNat) ((xs_2.drop i_3.toNat).flatMap encGChoice ++ s0_sp) (hd_len hg_95) rfl (by kernel_rfl) (by kernel_rfl) (by kernel_rfl) encGChoice_len (by kernel_rfl) (cut_hs encGChoice_len (show i_3.toNat ≤ xs_2.length by have := hg_95; omega) hn_94 s0_hs) (cut_ho i_3.toNat ho_93) (by have := (cap_le hn_94 s0_hs ho_93); have : xs_2.length = s0.length := hn_94; omega) (fun sp_96 hl_97 => jkO ?_)))
      refine jo_end (by kernel_rfl) ?_
      refine jx_then ?_
      refine jc_seq ?_
      refine jc_region ?_
      refine jo_f [(0, 0), (0, 0)] (by kernel_rfl) ?_
      refine toO (by kernel_rfl) (p_slH 0 (s0_o.map fun b => ⟨b, 0, none⟩) s0.length s0_c 4 i_3 (by kernel_rfl) (by kernel_rfl) hg_95.1 (by have h1 := (cap_le (hd_len hg_95) (fun e => ⟨((cut_hs encGChoice_len (show i_3.toNat ≤ xs_2.length by have := hg_95; omega) hn_94 s0_hs) e).1, hl_97.trans ((cut_hs encGChoice_len (show i_3.toNat ≤ xs_2.length by have := hg_95; omega) hn_94 s0_hs) e).2⟩) (cut_ho i_3.toNat ho_93)); have h2 := (hd_len hg_95); omega) (jkO ?_))
      refine jo_f [(0, 0)] (by kernel_rfl) ?_
      refine jo_end (by kernel_rfl) ?_
      refine jx_then ?_
      refine jc_ret ?_
      obtain rfl := Option.some.inj h
      exact jx_ret [] (.slice (s0_o.map fun b => ⟨b, 0, none⟩) i_3.toNat s0_c) [] rfl (by kernel_rfl) (by kernel_rfl) (fun w hm => ⟨s0_o, s0_c, sp_96, i_3.toNat, (hd_len hg_95), (fun e => ⟨((cut_hs encGChoice_len (show i_3.toNat ≤ xs_2.length by have := hg_95; omega) hn_94 s0_hs) e).1, hl_97.trans ((cut_hs encGChoice_len (show i_3.toNat ≤ xs_2.length by have := hg_95; omega) hn_94 s0_hs) e).2⟩), (cut_ho i_3.toNat ho_93), rfl, hm.pick [1, 2, 3, 0] (by kernel_rfl) (by kernel_rfl)⟩)

/-! ### (impl.Costs).of -/
noncomputable def impl_Costs_of (c0 : GCosts) (x1 : GChoice) : Option (Int) := (if x1.fAway = true then some (w64 c0.fAway) else (impl_bit (x1.fOctave != 0)).bind fun t_1 => some (w64 ((w64 ((w64 c0.fStep) * (w64 (if (w8 (0 - x1.fLate)) > x1.fLate then (w8 (0 - x1.fLate)) else x1.fLate)))) + (w64 ((w64 c0.fOctave) * t_1)))))
set_option maxRecDepth 100000 in
theorem impl_Costs_of.calls (c0 : GCosts) (x1 : GChoice) (w : World) (r : Int) (h : impl_Costs_of c0 x1 = some r) :
    Calls Try.prog 106 #[(.agg #[(.int .i16 c0.fAway), (.int .i16 c0.fOctave), (.int .i16 c0.fStep)]), (.agg #[(.bool x1.fAway), (.int .i8 x1.fLate), (.int .i8 x1.fOctave), (.int .i8 x1.fTrack)])] w fun e w' => ∃ v, e = .returned v ∧ (v = (.int .i64 r) ∧ Mem w [] [] w') := by
  rw [impl_Costs_of] at h
  refine enter (args := [(.agg #[(.int .i16 c0.fAway), (.int .i16 c0.fOctave), (.int .i16 c0.fStep)]), (.agg #[(.bool x1.fAway), (.int .i8 x1.fLate), (.int .i8 x1.fOctave), (.int .i8 x1.fTrack)])]) Try.func106 rfl Try.ntmps106 (by kernel_rfl) (L := []) (W := []) (Mem.start w) ?_
  refine jc_seq ?_
  refine jc_region ?_
  refine toO (by kernel_rfl) (p_a 0 [0] (by kernel_rfl) (fun b => by kernel_rfl) (fun b_1 => jkO ?_))
  refine toO (by kernel_rfl) (p_a 0 [0] (by kernel_rfl) (fun b => by kernel_rfl) (fun b_2 => jkO ?_))
  refine jo_f [(0, 0)] (by kernel_rfl) ?_
  refine jo_end (by kernel_rfl) ?_
  refine jx_then ?_
  refine jc_seq ?_
  refine jc_seq ?_
  refine jc_region ?_
  refine jo_f [(0, 0), (1, 0)] (by kernel_rfl) ?_
  refine jo_end (by kernel_rfl) ?_
  refine jx_then ?_
  refine jc_cond x1.fAway (by kernel_rfl) (fun hc_4 => ?_) (fun hc_4 => ?_)
  · replace h := ifT hc_4 h
    refine jc_seq ?_
    refine jc_region ?_
    refine jo_f [(0, 0), (0, 0), (0, 0), (0, 0)] (by kernel_rfl) ?_
    refine jo_end (by kernel_rfl) ?_
    refine jx_then ?_
    refine jc_ret ?_
    refine jx_thenr ?_
    obtain rfl := Option.some.inj h
    exact jx_ret [] (.int .i64 (w64 c0.fAway)) [] rfl (by kernel_rfl) (by kernel_rfl) (fun w hm => ⟨rfl, hm.pick [] (by kernel_rfl) (by kernel_rfl)⟩)
  · replace h := ifF hc_4 h
    refine jc_skip ?_
    refine jx_then ?_
    refine jc_seq ?_
    refine jc_region ?_
    refine jo_f [(0, 0), (1, 0), (0, 0), (1, 0), (0, 0), (0, 0), (0, 0), (0, 0)] (by kernel_rfl) ?_
    refine jo_end (by kernel_rfl) ?_
    refine jx_then ?_
    refine jc_seq ?_
    refine jc_draw [⟨some b_1, 82, [(.int .i16 c0.fAway), (.int .i16 c0.fOctave), (.int .i16 c0.fStep)]⟩, ⟨some b_2, 130, [(.bool x1.fAway), (.int .i8 x1.fLate), (.int .i8 x1.fOctave), (.int .i8 x1.fTrack)]⟩] 15 (by kernel_rfl) (by kernel_rfl) ?_
    refine jd_f [⟨0, 0, 0⟩, ⟨1, 0, 0⟩, ⟨2, 0, 0⟩, ⟨3, 0, 0⟩, ⟨4, 0, 0⟩, ⟨5, 0, 0⟩, ⟨6, 0, 0⟩, ⟨7, 0, 0⟩, ⟨8, 0, 0⟩, ⟨9, 1, 0⟩, ⟨10, 0, 0⟩] 4 (by kernel_rfl) (by kernel_rfl) (fun w h => h.pick [0, 1] (by kernel_rfl) (by kernel_rfl)) (by kernel_rfl) (by kernel_rfl) ?_
    obtain ⟨t_1, ht_5, h⟩ := bd h
    refine toD 11 (by kernel_rfl) (p_call 0 87 #[(.bool (x1.fOctave != 0))] (by kernel_rfl) (by kernel_rfl) (fun w hm => impl_bit.calls (x1.fOctave != 0) w _ ht_5) ?_)
    rintro w v w' hm ⟨rfl, hm'⟩
    refine ⟨_, hm.app hm', jkD (fun w h => h.pick [0, 1] (by kernel_rfl) (by kernel_rfl)) ?_⟩
    clear hm hm'
    refine jd_f [⟨12, 0, 0⟩, ⟨13, 0, 0⟩, ⟨14, 0, 0⟩] 0 (by kernel_rfl) (by kernel_rfl) (fun w h => h.pick [0, 1] (by kernel_rfl) (by kernel_rfl)) (by kernel_rfl) (by kernel_rfl) ?_
    refine jd_end (by kernel_rfl) ?_
    refine jx_then ?_
    refine jc_ret ?_
    obtain rfl := Option.some.inj h
    exact jx_ret [] (.int .i64 (w64 ((w64 ((w64 c0.fStep) * (w64 (if (w8 (0 - x1.fLate)) > x1.fLate then (w8 (0 - x1.fLate)) else x1.fLate)))) + (w64 ((w64 c0.fOctave) * t_1))))) [] rfl (by kernel_rfl) (by kernel_rfl) (fun w hm => ⟨rfl, hm.pick [] (by kernel_rfl) (by kernel_rfl)⟩)

/-! ### cmp.isNaN[int64] -/
noncomputable def cmp_isNaN_int64 (x0 : Int) : Option (Bool) := some (x0 != x0)
set_option maxRecDepth 100000 in
theorem cmp_isNaN_int64.calls (x0 : Int) (w : World) (r : Bool) (h : cmp_isNaN_int64 x0 = some r) :
    Calls Try.prog 153 #[(.int .i64 x0)] w fun e w' => ∃ v, e = .returned v ∧ (v = (.bool r) ∧ Mem w [] [] w') := by
  rw [cmp_isNaN_int64] at h
  refine enter (args := [(.int .i64 x0)]) Try.func153 rfl Try.ntmps153 (by kernel_rfl) (L := []) (W := []) (Mem.start w) ?_
  refine jc_seq ?_
  refine jc_region ?_
  refine jo_f [(0, 0)] (by kernel_rfl) ?_
  refine jo_end (by kernel_rfl) ?_
  refine jx_then ?_
  refine jc_seq ?_
  refine jc_region ?_
  refine jo_f [(0, 0), (0, 0), (0, 0), (0, 0)] (by kernel_rfl) ?_
  refine jo_end (by kernel_rfl) ?_
  refine jx_then ?_
  refine jc_ret ?_
  obtain rfl := Option.some.inj h
  exact jx_ret [] (.bool (x0 != x0)) [] rfl (by kernel_rfl) (by kernel_rfl) (fun w hm => ⟨rfl, hm.pick [] (by kernel_rfl) (by kernel_rfl)⟩)

/-! ### cmp.Compare[int64] -/
noncomputable def cmp_Compare_int64 (x0 : Int) (y1 : Int) : Option (Int) := (cmp_isNaN_int64 x0).bind fun t_1 => (cmp_isNaN_int64 y1).bind fun t_2 => (if t_1 = true then (if t_2 = true then some 0 else some (-1)) else (if t_2 = true then some 1 else (if (decide (x0 < y1)) = true then some (-1) else (if (decide (x0 > y1)) = true then some 1 else some 0))))
set_option maxRecDepth 100000 in
theorem cmp_Compare_int64.calls (x0 : Int) (y1 : Int) (w : World) (r : Int) (h : cmp_Compare_int64 x0 y1 = some r) :
    Calls Try.prog 105 #[(.int .i64 x0), (.int .i64 y1)] w fun e w' => ∃ v, e = .returned v ∧ (v = (.int .i64 r) ∧ Mem w [] [] w') := by
  rw [cmp_Compare_int64] at h
  refine enter (args := [(.int .i64 x0), (.int .i64 y1)]) Try.func105 rfl Try.ntmps105 (by kernel_rfl) (L := []) (W := []) (Mem.start w) ?_
  refine jc_seq ?_
  refine jc_region ?_
  refine jo_f [(0, 0)] (by kernel_rfl) ?_
  refine jo_end (by kernel_rfl) ?_
  refine jx_then ?_
  refine jc_seq ?_
  refine jc_region ?_
  refine jo_f [(0, 0)] (by kernel_rfl) ?_
  obtain ⟨t_1, ht_1, h⟩ := bd h
  refine toO (by kernel_rfl) (p_call 0 153 #[(.int .i64 x0)] (by kernel_rfl) (by kernel_rfl) (fun w hm => cmp_isNaN_int64.calls x0 w _ ht_1) ?_)
  rintro w v w' hm ⟨rfl, hm'⟩
  refine ⟨_, hm.app hm', jkO ?_⟩
  clear hm hm'
  refine jo_f [(0, 0)] (by kernel_rfl) ?_
  refine jo_end (by kernel_rfl) ?_
  refine jx_then ?_
  refine jc_seq ?_
  refine jc_region ?_
  refine jo_f [(0, 0)] (by kernel_rfl) ?_
  obtain ⟨t_2, ht_2, h⟩ := bd h
  refine toO (by kernel_rfl) (p_call 0 153 #[(.int .i64 y1)] (by kernel_rfl) (by kernel_rfl) (fun w hm => cmp_isNaN_int64.calls y1 w _ ht_2) ?_)
  rintro w v w' hm ⟨rfl, hm'⟩
  refine ⟨_, hm.app hm', jkO ?_⟩
  clear hm hm'
  refine jo_f [(0, 0)] (by kernel_rfl) ?_
  refine jo_end (by kernel_rfl) ?_
  refine jx_then ?_
  refine jc_seq ?_
  refine jc_seq ?_
  refine jc_region ?_
  refine jo_f [(0, 0)] (by kernel_rfl) ?_
  refine jo_end (by kernel_rfl) ?_
  refine jx_then ?_
  refine jc_cond t_1 (by kernel_rfl) (fun hc_5 => ?_) (fun hc_5 => ?_)
  · replace h := ifT hc_5 h
    refine jc_seq ?_
    refine jc_seq ?_
    refine jc_region ?_
    refine jo_f [(0, 0)] (by kernel_rfl) ?_
    refine jo_end (by kernel_rfl) ?_
    refine jx_then ?_
    refine jc_cond t_2 (by kernel_rfl) (fun hc_6 => ?_) (fun hc_6 => ?_)
    · replace h := ifT hc_6 h
      refine jc_seq ?_
      refine jc_region ?_
      refine jo_f [(0, 0)] (by kernel_rfl) ?_
      refine jo_end (by kernel_rfl) ?_
      refine jx_then ?_
      refine jc_ret ?_
      refine jx_thenr ?_
      refine jx_thenr ?_
      obtain rfl := Option.some.inj h
      exact jx_ret [] (.int .i64 0) [] rfl (by kernel_rfl) (by kernel_rfl) (fun w hm => ⟨rfl, hm.pick [] (by kernel_rfl) (by kernel_rfl)⟩)
    · replace h := ifF hc_6 h
      refine jc_skip ?_
      refine jx_then ?_
      refine jc_seq ?_
      refine jc_region ?_
      refine jo_f [(0, 0)] (by kernel_rfl) ?_
      refine jo_end (by kernel_rfl) ?_
      refine jx_then ?_
      refine jc_ret ?_
      refine jx_thenr ?_
      obtain rfl := Option.some.inj h
      exact jx_ret [] (.int .i64 (-1)) [] rfl (by kernel_rfl) (by kernel_rfl) (fun w hm => ⟨rfl, hm.pick [] (by kernel_rfl) (by kernel_rfl)⟩)
  · replace h := ifF hc_5 h
    refine jc_skip ?_
    refine jx_then ?_
    refine jc_seq ?_
    refine jc_seq ?_
    refine jc_region ?_
    refine jo_f [(0, 0)] (by kernel_rfl) ?_
    refine jo_end (by kernel_rfl) ?_
    refine jx_then ?_
    refine jc_cond t_2 (by kernel_rfl) (fun hc_8 => ?_) (fun hc_8 => ?_)
    · replace h := ifT hc_8 h
      refine jc_seq ?_
      refine jc_region ?_
      refine jo_f [(0, 0)] (by kernel_rfl) ?_
      refine jo_end (by kernel_rfl) ?_
      refine jx_then ?_
      refine jc_ret ?_
      refine jx_thenr ?_
      obtain rfl := Option.some.inj h
      exact jx_ret [] (.int .i64 1) [] rfl (by kernel_rfl) (by kernel_rfl) (fun w hm => ⟨rfl, hm.pick [] (by kernel_rfl) (by kernel_rfl)⟩)
    · replace h := ifF hc_8 h
      refine jc_skip ?_
      refine jx_then ?_
      refine jc_seq ?_
      refine jc_seq ?_
      refine jc_region ?_
      refine jo_f [(0, 0), (0, 0), (0, 0)] (by kernel_rfl) ?_
      refine jo_end (by kernel_rfl) ?_
      refine jx_then ?_
      refine jc_cond (decide (x0 < y1)) (by kernel_rfl) (fun hc_10 => ?_) (fun hc_10 => ?_)
      · replace h := ifT hc_10 h
        refine jc_seq ?_
        refine jc_region ?_
        refine jo_f [(0, 0)] (by kernel_rfl) ?_
        refine jo_end (by kernel_rfl) ?_
        refine jx_then ?_
        refine jc_ret ?_
        refine jx_thenr ?_
        obtain rfl := Option.some.inj h
        exact jx_ret [] (.int .i64 (-1)) [] rfl (by kernel_rfl) (by kernel_rfl) (fun w hm => ⟨rfl, hm.pick [] (by kernel_rfl) (by kernel_rfl)⟩)
      · replace h := ifF hc_10 h
        refine jc_skip ?_
        refine jx_then ?_
        refine jc_seq ?_
        refine jc_seq ?_
        refine jc_region ?_
        refine jo_f [(0, 0), (0, 0), (0, 0)] (by kernel_rfl) ?_
        refine jo_end (by kernel_rfl) ?_
        refine jx_then ?_
        refine jc_cond (decide (x0 > y1)) (by kernel_rfl) (fun hc_11 => ?_) (fun hc_11 => ?_)
        · replace h := ifT hc_11 h
          refine jc_seq ?_
          refine jc_region ?_
          refine jo_f [(0, 0)] (by kernel_rfl) ?_
          refine jo_end (by kernel_rfl) ?_
          refine jx_then ?_
          refine jc_ret ?_
          refine jx_thenr ?_
          obtain rfl := Option.some.inj h
          exact jx_ret [] (.int .i64 1) [] rfl (by kernel_rfl) (by kernel_rfl) (fun w hm => ⟨rfl, hm.pick [] (by kernel_rfl) (by kernel_rfl)⟩)
        · replace h := ifF hc_11 h
          refine jc_skip ?_
          refine jx_then ?_
          refine jc_seq ?_
          refine jc_region ?_
          refine jo_f [(0, 0)] (by kernel_rfl) ?_
          refine jo_end (by kernel_rfl) ?_
          refine jx_then ?_
          refine jc_ret ?_
          obtain rfl := Option.some.inj h
          exact jx_ret [] (.int .i64 0) [] rfl (by kernel_rfl) (by kernel_rfl) (fun w hm => ⟨rfl, hm.pick [] (by kernel_rfl) (by kernel_rfl)⟩)

/-! ### impl.Greedy$2 -/
noncomputable def impl_Greedy_2 (a0 : GChoice) (b1 : GChoice) (p2 : GCosts) : Option (Int) := (impl_Costs_of p2 a0).bind fun t_1 => (impl_Costs_of p2 b1).bind fun t_2 => (cmp_Compare_int64 t_1 t_2).bind fun t_3 => some t_3
set_option maxRecDepth 100000 in
theorem impl_Greedy_2.calls (a0 : GChoice) (b1 : GChoice) (p2 : GCosts) (w : World) (r : Int) (p2_b : Nat) (hm0 : Mem w (bs [some p2_b]) [⟨some p2_b, 82, [(.int .i16 p2.fAway), (.int .i16 p2.fOctave), (.int .i16 p2.fStep)]⟩] w) (h : impl_Greedy_2 a0 b1 p2 = some r) :
    Calls Try.prog 104 #[(.agg #[(.bool a0.fAway), (.int .i8 a0.fLate), (.int .i8 a0.fOctave), (.int .i8 a0.fTrack)]), (.agg #[(.bool b1.fAway), (.int .i8 b1.fLate), (.int .i8 b1.fOctave), (.int .i8 b1.fTrack)]), (.pointer (some ⟨p2_b, 0, none⟩))] w fun e w' => ∃ v, e = .returned v ∧ (v = (.int .i64 r) ∧ Mem w (bs [some p2_b]) [⟨some p2_b, 82, [(.int .i16 p2.fAway), (.int .i16 p2.fOctave), (.int .i16 p2.fStep)]⟩] w') := by
  rw [impl_Greedy_2] at h
  refine enter (args := [(.agg #[(.bool a0.fAway), (.int .i8 a0.fLate), (.int .i8 a0.fOctave), (.int .i8 a0.fTrack)]), (.agg #[(.bool b1.fAway), (.int .i8 b1.fLate), (.int .i8 b1.fOctave), (.int .i8 b1.fTrack)]), (.pointer (some ⟨p2_b, 0, none⟩))]) Try.func104 rfl Try.ntmps104 (by kernel_rfl) (L := [⟨some p2_b, 82, [(.int .i16 p2.fAway), (.int .i16 p2.fOctave), (.int .i16 p2.fStep)]⟩]) (W := bs [some p2_b]) hm0 ?_
  refine jc_seq ?_
  refine jc_region ?_
  refine toO (by kernel_rfl) (p_a 0 [0] (by kernel_rfl) (fun b => by kernel_rfl) (fun b_1 => jkO ?_))
  refine toO (by kernel_rfl) (p_a 0 [0] (by kernel_rfl) (fun b => by kernel_rfl) (fun b_2 => jkO ?_))
  refine jo_f [(0, 0)] (by kernel_rfl) ?_
  refine jo_end (by kernel_rfl) ?_
  refine jx_then ?_
  refine jc_seq ?_
  refine jc_draw [⟨some p2_b, 82, [(.int .i16 p2.fAway), (.int .i16 p2.fOctave), (.int .i16 p2.fStep)]⟩, ⟨some b_1, 130, [(.bool a0.fAway), (.int .i8 a0.fLate), (.int .i8 a0.fOctave), (.int .i8 a0.fTrack)]⟩, ⟨some b_2, 130, [(.bool b1.fAway), (.int .i8 b1.fLate), (.int .i8 b1.fOctave), (.int .i8 b1.fTrack)]⟩] 8 (by kernel_rfl) (by kernel_rfl) ?_
  refine jd_f [⟨0, 0, 0⟩, ⟨1, 1, 0⟩, ⟨3, 0, 0⟩, ⟨4, 2, 0⟩] 4 (by kernel_rfl) (by kernel_rfl) (fun w h => h.pick [0, 1, 2] (by kernel_rfl) (by kernel_rfl)) (by kernel_rfl) (by kernel_rfl) ?_
  obtain ⟨t_1, ht_3, h⟩ := bd h
  refine toD 2 (by kernel_rfl) (p_call 0 106 #[(.agg #[(.int .i16 p2.fAway), (.int .i16 p2.fOctave), (.int .i16 p2.fStep)]), (.agg #[(.bool a0.fAway), (.int .i8 a0.fLate), (.int .i8 a0.fOctave), (.int .i8 a0.fTrack)])] (by kernel_rfl) (by kernel_rfl) (fun w hm => impl_Costs_of.calls p2 a0 w _ ht_3) ?_)
  rintro w v w' hm ⟨rfl, hm'⟩
  refine ⟨_, hm.app hm', jkD (fun w h => h.pick [0, 1, 2] (by kernel_rfl) (by kernel_rfl)) ?_⟩
  clear hm hm'
  obtain ⟨t_2, ht_4, h⟩ := bd h
  refine toD 5 (by kernel_rfl) (p_call 0 106 #[(.agg #[(.int .i16 p2.fAway), (.int .i16 p2.fOctave), (.int .i16 p2.fStep)]), (.agg #[(.bool b1.fAway), (.int .i8 b1.fLate), (.int .i8 b1.fOctave), (.int .i8 b1.fTrack)])] (by kernel_rfl) (by kernel_rfl) (fun w hm => impl_Costs_of.calls p2 b1 w _ ht_4) ?_)
  rintro w v w' hm ⟨rfl, hm'⟩
  refine ⟨_, hm.app hm', jkD (fun w h => h.pick [0, 1, 2] (by kernel_rfl) (by kernel_rfl)) ?_⟩
  clear hm hm'
  obtain ⟨t_3, ht_5, h⟩ := bd h
  refine toD 6 (by kernel_rfl) (p_call 0 105 #[(.int .i64 t_1), (.int .i64 t_2)] (by kernel_rfl) (by kernel_rfl) (fun w hm => cmp_Compare_int64.calls t_1 t_2 w _ ht_5) ?_)
  rintro w v w' hm ⟨rfl, hm'⟩
  refine ⟨_, hm.app hm', jkD (fun w h => h.pick [0, 1, 2] (by kernel_rfl) (by kernel_rfl)) ?_⟩
  clear hm hm'
  refine jd_f [⟨7, 0, 0⟩] 0 (by kernel_rfl) (by kernel_rfl) (fun w h => h.pick [0, 1, 2] (by kernel_rfl) (by kernel_rfl)) (by kernel_rfl) (by kernel_rfl) ?_
  refine jd_end (by kernel_rfl) ?_
  refine jx_then ?_
  refine jc_ret ?_
  obtain rfl := Option.some.inj h
  exact jx_ret [] (.int .i64 t_3) [] rfl (by kernel_rfl) (by kernel_rfl) (fun w hm => ⟨rfl, hm.pick [0] (by kernel_rfl) (by kernel_rfl)⟩)

/-! ### slices.MinFunc[[]impl.Choice,impl.Choice] -/
noncomputable def slices_MinFunc_Choice_at_impl_Greedy_2.k_6 (q_2 : Bool) (i_3 : Int) (i_4 : Int) (i_5 : Int) : Option (GChoice) := some (⟨q_2, i_3, i_4, i_5⟩ : GChoice)
noncomputable def slices_MinFunc_Choice_at_impl_Greedy_2.l_12 (x0 : List GChoice) (g1c0 : GCosts) : (Bool × Int × Int × Int × Int) → Option ((Bool × Int × Int × Int × Int) ⊕ ((Bool × Int × Int × Int)))
  | (q_7, i_8, i_9, i_10, i_11) => (if (decide (i_11 < (x0.length : Int))) = true then (ix x0 i_11).bind fun x_14 => (impl_Greedy_2 x_14 (⟨q_7, i_8, i_9, i_10⟩ : GChoice) g1c0).bind fun t_15 => (if (decide (t_15 < 0)) = true then (ix x0 i_11).bind fun x_16 => some (.inl (x_16.fAway, x_16.fLate, x_16.fOctave, x_16.fTrack, (w64 (i_11 + 1)))) else some (.inl (q_7, i_8, i_9, i_10, (w64 (i_11 + 1))))) else some (.inr (q_7, i_8, i_9, i_10)))
noncomputable def slices_MinFunc_Choice_at_impl_Greedy_2 (x0 : List GChoice) (g1c0 : GCosts) : Option (GChoice) := (if (decide ((x0.length : Int) < 1)) = true then none else (ix x0 0).bind fun x_1 => (loop (slices_MinFunc_Choice_at_impl_Greedy_2.l_12 x0 g1c0) (x_1.fAway, x_1.fLate, x_1.fOctave, x_1.fTrack, 1)).bind fun t_13 => slices_MinFunc_Choice_at_impl_Greedy_2.k_6 t_13.1 t_13.2.1 t_13.2.2.1 t_13.2.2.2)
set_option maxRecDepth 100000 in
theorem slices_MinFunc_Choice_at_impl_Greedy_2.calls (x0 : List GChoice) (g1c0 : GCosts) (w : World) (r : GChoice) (x0_a : Option Addr) (x0_an : Nat) (x0_c : Nat) (x0_h : Rw w x0_a 4 encGChoice x0) (x0_hn : x0.length = x0_an) (g1c0_b : Nat) (hm0 : Mem w (bs [some g1c0_b]) [⟨some g1c0_b, 82, [(.int .i16 g1c0.fAway), (.int .i16 g1c0.fOctave), (.int .i16 g1c0.fStep)]⟩] w) (x0_ha : x0 ≠ [] → aB x0_a ∉ bs [some g1c0_b]) (h : slices_MinFunc_Choice_at_impl_Greedy_2 x0 g1c0 = some r) :
    Calls Try.prog 103 #[(.slice x0_a x0_an x0_c), (.func (.func 104) #[] #[(.pointer (some ⟨g1c0_b, 0, none⟩))])] w fun e w' => ∃ v, e = .returned v ∧ (v = .agg #[(.bool r.fAway), (.int .i8 r.fLate), (.int .i8 r.fOctave), (.int .i8 r.fTrack)] ∧ Mem w (bs [some g1c0_b]) [⟨some g1c0_b, 82, [(.int .i16 g1c0.fAway), (.int .i16 g1c0.fOctave), (.int .i16 g1c0.fStep)]⟩] w') := by
  subst x0_hn
  rw [slices_MinFunc_Choice_at_impl_Greedy_2] at h
  refine enter (args := [(.slice x0_a x0.length x0_c), (.func (.func 104) #[] #[(.pointer (some ⟨g1c0_b, 0, none⟩))])]) Try.func103 rfl Try.ntmps103 (by kernel_rfl) (L := [⟨some g1c0_b, 82, [(.int .i16 g1c0.fAway), (.int .i16 g1c0.fOctave), (.int .i16 g1c0.fStep)]⟩]) (W := bs [some g1c0_b]) hm0 ?_
  refine jc_seq ?_
  refine jc_region ?_
  refine toO (by kernel_rfl) (p_a 0 [0] (by kernel_rfl) (fun b => by kernel_rfl) (fun b_1 => jkO ?_))
  refine jo_end (by kernel_rfl) ?_
  refine jx_then ?_
  refine jc_seq ?_
  refine jc_seq ?_
  refine jc_region ?_
  refine jo_f [(0, 0), (0, 0), (0, 0)] (by kernel_rfl) ?_
  refine jo_end (by kernel_rfl) ?_
  refine jx_then ?_
  refine jc_cond (decide ((x0.length : Int) < 1)) (by kernel_rfl) (fun hc_3 => ?_) (fun hc_3 => ?_)
  · replace h := ifT hc_3 h
    refine jc_region ?_
    cases h
  · replace h := ifF hc_3 h
    refine jc_skip ?_
    refine jx_then ?_
    refine jc_seq ?_
    refine jc_region ?_
    refine jo_f [(0, 0)] (by kernel_rfl) ?_
    obtain ⟨x_1, hx_4, h⟩ := bd h
    refine toO (by kernel_rfl) (p_idx 0 x0_a x0.length 0 4 (by kernel_rfl) (by kernel_rfl) (ix_some hx_4).1 (ltn hx_4 rfl) (x0_h.sp hx_4) (jkO ?_))
    refine toO (by kernel_rfl) (p_ld 0 (aB x0_a) (aO x0_a + (0 : Int).toNat * 4) true (encGChoice x_1) (by kernel_rfl) (by kernel_rfl) (by kernel_rfl) (fun w hm => ((hm.exRowW x0_h x0_ha).at hx_4)) (jkO ?_))
    refine toO (by kernel_rfl) (p_a 0 [0] (by kernel_rfl) (fun b => by kernel_rfl) (fun b_5 => jkO ?_))
    refine toO (by kernel_rfl) (p_s 0 [2] (by kernel_rfl) (by kernel_rfl) (jkO ?_))
    refine jo_end (by kernel_rfl) ?_
    refine jx_then ?_
    refine jc_seq ?_
    refine jc_seq ?_
    refine jc_region ?_
    refine jo_f [(0, 0)] (by kernel_rfl) ?_
    refine jo_end (by kernel_rfl) ?_
    refine jx_then ?_
    refine jc_meet (fun (j : Bool × Int × Int × Int) => match j with | ⟨q_2, i_3, i_4, i_5⟩ => slices_MinFunc_Choice_at_impl_Greedy_2.k_6 q_2 i_3 i_4 i_5 = some r) (fun (j : Bool × Int × Int × Int) => match j with | ⟨q_2, i_3, i_4, i_5⟩ => [(4, [], (.pointer (some ⟨b_1, 0, none⟩))), (5, [], (.pointer (some ⟨b_5, 0, none⟩)))]) (fun (j : Bool × Int × Int × Int) => match j with | ⟨q_2, i_3, i_4, i_5⟩ => [⟨some g1c0_b, 82, [(.int .i16 g1c0.fAway), (.int .i16 g1c0.fOctave), (.int .i16 g1c0.fStep)]⟩, ⟨some b_1, 130, [(.bool false), (.int .i8 0), (.int .i8 0), (.int .i8 0)]⟩, ⟨some b_5, 130, [(.bool q_2), (.int .i8 i_3), (.int .i8 i_4), (.int .i8 i_5)]⟩]) ?_ ?_
    · refine jc_block ?_
      obtain ⟨t_13, ht_93, hr_84⟩ := bd h
      refine jc_loop (fun (s : Bool × Int × Int × Int × Int) (x : Unit) => match s, x with | ⟨q_7, i_8, i_9, i_10, i_11⟩, _ => True) (fun (s : Bool × Int × Int × Int × Int) (x : Unit) => match s, x with | ⟨q_7, i_8, i_9, i_10, i_11⟩, _ => [(0, [], (.slice x0_a x0.length x0_c)), (1, [], (.func (.func 104) #[] #[(.pointer (some ⟨g1c0_b, 0, none⟩))])), (4, [], (.pointer (some ⟨b_1, 0, none⟩))), (5, [], (.pointer (some ⟨b_5, 0, none⟩))), (6, [], (.int .i64 i_11))]) (fun (s : Bool × Int × Int × Int × Int) (x : Unit) => match s, x with | ⟨q_7, i_8, i_9, i_10, i_11⟩, _ => [⟨some g1c0_b, 82, [(.int .i16 g1c0.fAway), (.int .i16 g1c0.fOctave), (.int .i16 g1c0.fStep)]⟩, ⟨some b_1, 130, [(.bool false), (.int .i8 0), (.int .i8 0), (.int .i8 0)]⟩, ⟨some b_5, 130, [(.bool q_7), (.int .i8 i_8), (.int .i8 i_9), (.int .i8 i_10)]⟩]) ht_93 () trivial (by kernel_rfl) [0, 1, 2] (by kernel_rfl) (by kernel_rfl) ?_
      rintro ⟨q_7, i_8, i_9, i_10, i_11⟩ _ y_85 _ h
      rw [slices_MinFunc_Choice_at_impl_Greedy_2.l_12] at h
      refine jc_seq ?_
      refine jc_seq ?_
      refine jc_region ?_
      refine jo_f [(0, 0), (0, 0), (0, 0), (0, 0)] (by kernel_rfl) ?_
      refine jo_end (by kernel_rfl) ?_
      refine jx_then ?_
      refine jc_cond (decide (i_11 < (x0.length : Int))) (by kernel_rfl) (fun hc_87 => ?_) (fun hc_87 => ?_)
      · replace h := ifT hc_87 h
        refine jc_skip ?_
        refine jx_then ?_
        refine jc_seq ?_
        refine jc_block ?_
        refine jc_seq ?_
        refine jc_draw [⟨some g1c0_b, 82, [(.int .i16 g1c0.fAway), (.int .i16 g1c0.fOctave), (.int .i16 g1c0.fStep)]⟩, ⟨some b_1, 130, [(.bool false), (.int .i8 0), (.int .i8 0), (.int .i8 0)]⟩, ⟨some b_5, 130, [(.bool q_7), (.int .i8 i_8), (.int .i8 i_9), (.int .i8 i_10)]⟩] 8 (by kernel_rfl) (by kernel_rfl) ?_
        refine jd_f [⟨0, 0, 0⟩, ⟨1, 0, 0⟩, ⟨2, 0, 0⟩, ⟨5, 2, 0⟩] 4 (by kernel_rfl) (by kernel_rfl) (fun w h => h.pick [0, 1, 2] (by kernel_rfl) (by kernel_rfl)) (by kernel_rfl) (by kernel_rfl) ?_
        obtain ⟨x_14, hx_88, h⟩ := bd h
        refine jd_v 3 0 (by kernel_rfl) (fun w h => h.pick [0, 1, 2] (by kernel_rfl) (by kernel_rfl)) (by kernel_rfl) (by kernel_rfl) _ (fun w hm => idx_run (a := x0_a) (len := x0.length) (s := 4) (j := i_11) (by kernel_rfl) (ix_some hx_88).1 (ltn hx_88 rfl) (x0_h.sp hx_88)) ?_
        refine jd_v 4 0 (by kernel_rfl) (fun w h => h.pick [0, 1, 2] (by kernel_rfl) (by kernel_rfl)) (by kernel_rfl) (by kernel_rfl) _ (fun w hm => ld_run (b := aB x0_a) (off := (aO x0_a + i_11.toNat * 4)) (s := 4) (agg := true) (vs := (encGChoice x_14)) (by kernel_rfl) (by kernel_rfl) (.inl rfl) ((hm.exRowW x0_h x0_ha).at hx_88)) ?_
        obtain ⟨t_15, ht_89, h⟩ := bd h
        refine toD 6 (by kernel_rfl) (p_call 0 104 #[(.agg #[(.bool x_14.fAway), (.int .i8 x_14.fLate), (.int .i8 x_14.fOctave), (.int .i8 x_14.fTrack)]), (.agg #[(.bool q_7), (.int .i8 i_8), (.int .i8 i_9), (.int .i8 i_10)]), (.pointer (some ⟨g1c0_b, 0, none⟩))] (by kernel_rfl) (by kernel_rfl) (fun w hm => impl_Greedy_2.calls x_14 (⟨q_7, i_8, i_9, i_10⟩ : GChoice) g1c0 w _ g1c0_b (hm.pass (N := [⟨some g1c0_b, 82, [(.int .i16 g1c0.fAway), (.int .i16 g1c0.fOctave), (.int .i16 g1c0.fStep)]⟩]) [0] (by kernel_rfl) (by kernel_rfl)) ht_89) ?_)
        rintro w v w' hm ⟨rfl, hm'⟩
        refine ⟨_, hm.appW (ps := [(0, ⟨some g1c0_b, 82, [(.int .i16 g1c0.fAway), (.int .i16 g1c0.fOctave), (.int .i16 g1c0.fStep)]⟩)]) (N := []) hm' (by kernel_rfl) (by kernel_rfl), jkD (fun w h => h.pick [0, 1, 2] (by kernel_rfl) (by kernel_rfl)) ?_⟩
        clear hm hm'
        refine jd_f [⟨7, 0, 0⟩] 0 (by kernel_rfl) (by kernel_rfl) (fun w h => h.pick [0, 1, 2] (by kernel_rfl) (by kernel_rfl)) (by kernel_rfl) (by kernel_rfl) ?_
        refine jd_end (by kernel_rfl) ?_
        refine jx_then ?_
        refine jc_cond (decide (t_15 < 0)) (by kernel_rfl) (fun hc_90 => ?_) (fun hc_90 => ?_)
        · replace h := ifT hc_90 h
          refine jc_region ?_
          refine jo_f [(0, 0), (0, 0)] (by kernel_rfl) ?_
          obtain ⟨x_16, hx_91, h⟩ := bd h
          refine toO (by kernel_rfl) (p_idx 0 x0_a x0.length i_11 4 (by kernel_rfl) (by kernel_rfl) (ix_some hx_91).1 (ltn hx_91 rfl) (x0_h.sp hx_91) (jkO ?_))
          refine toO (by kernel_rfl) (p_ld 0 (aB x0_a) (aO x0_a + i_11.toNat * 4) true (encGChoice x_16) (by kernel_rfl) (by kernel_rfl) (by kernel_rfl) (fun w hm => ((hm.exRowW x0_h x0_ha).at hx_91)) (jkO ?_))
          refine toO (by kernel_rfl) (p_s 0 [2] (by kernel_rfl) (by kernel_rfl) (jkO ?_))
          refine jo_end (by kernel_rfl) ?_
          refine jx_inn ?_
          refine jx_then ?_
          refine jc_region ?_
          refine jo_f [(0, 0), (0, 0), (0, 0)] (by kernel_rfl) ?_
          refine jo_end (by kernel_rfl) ?_
          exact jx_back (x_16.fAway, x_16.fLate, x_16.fOctave, x_16.fTrack, (w64 (i_11 + 1))) () (Option.some.inj h).symm trivial [0, 1, 2] (by kernel_rfl) (by kernel_rfl) (by kernel_rfl)
        · replace h := ifF hc_90 h
          refine jc_skip ?_
          refine jx_inn ?_
          refine jx_then ?_
          refine jc_region ?_
          refine jo_f [(0, 0), (0, 0), (0, 0)] (by kernel_rfl) ?_
          refine jo_end (by kernel_rfl) ?_
          exact jx_back (q_7, i_8, i_9, i_10, (w64 (i_11 + 1))) () (Option.some.inj h).symm trivial [0, 1, 2] (by kernel_rfl) (by kernel_rfl) (by kernel_rfl)
      · replace h := ifF hc_87 h
        refine jc_exit ?_
        refine jx_thenx ?_
        refine jx_leave (q_7, i_8, i_9, i_10) (Option.some.inj h).symm (fun e_92 => ?_)
        subst e_92
        refine jx_ine ?_
        exact jx_meet ⟨q_7, i_8, i_9, i_10⟩ hr_84 (by kernel_rfl) [0, 1, 2] (by kernel_rfl) (by kernel_rfl)
    · rintro ⟨q_2, i_3, i_4, i_5⟩ h
      replace h : slices_MinFunc_Choice_at_impl_Greedy_2.k_6 q_2 i_3 i_4 i_5 = some r := h
      rw [slices_MinFunc_Choice_at_impl_Greedy_2.k_6] at h
      refine jx_then ?_
      refine jc_seq ?_
      refine jc_region ?_
      refine jo_f [(2, 0)] (by kernel_rfl) ?_
      refine toO (by kernel_rfl) (p_s 0 [1] (by kernel_rfl) (by kernel_rfl) (jkO ?_))
      refine jo_end (by kernel_rfl) ?_
      refine jx_then ?_
      refine jc_ret ?_
      obtain rfl := Option.some.inj h
      exact jx_ret [1] (.agg #[(.bool q_2), (.int .i8 i_3), (.int .i8 i_4), (.int .i8 i_5)]) [(b_1, b_1), (b_1, b_1), (b_1, b_1), (b_1, b_1)] rfl (by kernel_rfl) (by kernel_rfl) (fun w hm => ⟨rfl, hm.pick [0] (by kernel_rfl) (by kernel_rfl)⟩)

/-! ### impl.Greedy -/
noncomputable def impl_Greedy.k_4 (xs_2 : List GChoice) (a_3 : Arr 96 Int) : Option ((List GChoice) × Int) := some (xs_2, 0)
noncomputable def impl_Greedy.l_8 (f0 : GFrame) (t1 : List GNote) (c2 : GCosts) : ((List GChoice) × (Arr 96 Int) × Int) → Option (((List GChoice) × (Arr 96 Int) × Int) ⊕ (((List GChoice) × (Arr 96 Int))))
  | (xs_5, a_6, i_7) => (if (decide (i_7 < (t1.length : Int))) = true then (ix t1 i_7).bind fun x_10 => (impl_Frame_choices f0 x_10).bind fun t_11 => (slices_DeleteFunc_Choice_at_impl_Greedy_1 t_11 f0 a_6 x_10).bind fun t_12 => (slices_MinFunc_Choice_at_impl_Greedy_2 t_12 c2).bind fun t_13 => (impl_Drum_puts a_6 x_10 t_13).bind fun t_14 => (if xs_5.length + [t_13].length ≤ 4294967296 then some (.inl ((xs_5 ++ [t_13]), t_14, (w64 (i_7 + 1)))) else none) else some (.inr (xs_5, a_6)))
noncomputable def impl_Greedy (f0 : GFrame) (t1 : List GNote) (c2 : GCosts) : Option ((List GChoice) × Int) := (impl_arrangeCode f0 t1 c2).bind fun t_1 => (if (t_1 != 0) = true then some ([], t_1) else (loop (impl_Greedy.l_8 f0 t1 c2) (([] : List GChoice), (Arr.rep 96 0), 0)).bind fun t_9 => impl_Greedy.k_4 t_9.1 t_9.2)
set_option maxRecDepth 100000 in
theorem impl_Greedy.calls (f0 : GFrame) (t1 : List GNote) (c2 : GCosts) (w : World) (r : (List GChoice) × Int) (f0_fHammers_a : Option Addr) (f0_fHammers_an : Nat) (f0_fHammers_c : Nat) (f0_fHammers_h : Rw w f0_fHammers_a 2 encGHammer f0.fHammers) (f0_fHammers_hn : f0.fHammers.length = f0_fHammers_an) (t1_a : Option Addr) (t1_an : Nat) (t1_c : Nat) (t1_h : Rw w t1_a 2 encGNote t1) (t1_hn : t1.length = t1_an) (h : impl_Greedy f0 t1 c2 = some r) :
    Calls Try.prog 44 #[(.agg #[(.int .i16 f0.fSteps), (.slice f0_fHammers_a f0_fHammers_an f0_fHammers_c)]), (.slice t1_a t1_an t1_c), (.agg #[(.int .i16 c2.fAway), (.int .i16 c2.fOctave), (.int .i16 c2.fStep)])] w fun e w' => ∃ v, e = .returned v ∧ (∃ (o0 : Option Nat) (c0 : Nat) (s0 : List Value) (n0 : Nat), r.1.length = n0 ∧ (o0 ≠ none → n0 ≤ c0 ∧ s0.length = (c0 - n0) * 4) ∧ (o0 = none → r.1 = [] ∧ c0 = 0) ∧ v = .tuple #[.slice (o0.map fun b => ⟨b, 0, none⟩) n0 c0, (.int .i64 r.2)] ∧ Mem w [] [⟨o0, 130, row encGChoice r.1 s0⟩] w') := by
  subst f0_fHammers_hn t1_hn
  rw [impl_Greedy] at h
  refine enter (args := [(.agg #[(.int .i16 f0.fSteps), (.slice f0_fHammers_a f0.fHammers.length f0_fHammers_c)]), (.slice t1_a t1.length t1_c), (.agg #[(.int .i16 c2.fAway), (.int .i16 c2.fOctave), (.int .i16 c2.fStep)])]) Try.func44 rfl Try.ntmps44 (by kernel_rfl) (L := []) (W := []) (Mem.start w) ?_
  refine jc_seq ?_
  refine jc_region ?_
  refine toO (by kernel_rfl) (p_a 0 [0] (by kernel_rfl) (fun b => by kernel_rfl) (fun b_1 => jkO ?_))
  refine toO (by kernel_rfl) (p_a 0 [0] (by kernel_rfl) (fun b => by kernel_rfl) (fun b_2 => jkO ?_))
  refine jo_f [(0, 0), (0, 0)] (by kernel_rfl) ?_
  refine jo_end (by kernel_rfl) ?_
  refine jx_then ?_
  refine jc_seq ?_
  refine jc_seq ?_
  refine jc_region ?_
  refine jo_f [(0, 0), (0, 0), (1, 0)] (by kernel_rfl) ?_
  obtain ⟨t_1, ht_5, h⟩ := bd h
  refine toO (by kernel_rfl) (p_call 0 98 #[(.agg #[(.int .i16 f0.fSteps), (.slice f0_fHammers_a f0.fHammers.length f0_fHammers_c)]), (.slice t1_a t1.length t1_c), (.agg #[(.int .i16 c2.fAway), (.int .i16 c2.fOctave), (.int .i16 c2.fStep)])] (by kernel_rfl) (by kernel_rfl) (fun w hm => impl_arrangeCode.calls f0 t1 c2 w _ f0_fHammers_a f0.fHammers.length f0_fHammers_c (hm.exRow f0_fHammers_h List.not_mem_nil) rfl t1_a t1.length t1_c (hm.exRow t1_h List.not_mem_nil) rfl ht_5) ?_)
  rintro w v w' hm ⟨rfl, hm'⟩
  refine ⟨_, hm.app hm', jkO ?_⟩
  clear hm hm'
  refine jo_f [(0, 0)] (by kernel_rfl) ?_
  refine jo_end (by kernel_rfl) ?_
  refine jx_then ?_
  refine jc_seq ?_
  refine jc_region ?_
  refine jo_f [(0, 0), (0, 0)] (by kernel_rfl) ?_
  refine jo_end (by kernel_rfl) ?_
  refine jx_then ?_
  refine jc_cond (t_1 != 0) (by kernel_rfl) (fun hc_6 => ?_) (fun hc_6 => ?_)
  · replace h := ifT hc_6 h
    refine jc_seq ?_
    refine jc_region ?_
    refine jo_f [(0, 0), (0, 0), (0, 0)] (by kernel_rfl) ?_
    refine jo_end (by kernel_rfl) ?_
    refine jx_then ?_
    refine jc_ret ?_
    refine jx_thenr ?_
    obtain rfl := Option.some.inj h
    refine jx_ghost 130 encGChoice ?_
    exact jx_ret [] (.tuple #[(.slice none 0 0), (.int .i64 t_1)]) [] rfl (by kernel_rfl) (by kernel_rfl) (fun w hm => ⟨none, 0, [], 0, rfl, (fun e => absurd rfl e), (fun _ => ⟨rfl, rfl⟩), rfl, hm.pick [2] (by kernel_rfl) (by kernel_rfl)⟩)
  · replace h := ifF hc_6 h
    refine jc_skip ?_
    refine jx_then ?_
    refine jc_seq ?_
    refine jc_region ?_
    refine jo_f [(0, 0)] (by kernel_rfl) ?_
    refine toO (by kernel_rfl) (p_a 0 [0] (by kernel_rfl) (fun b => by kernel_rfl) (fun b_7 => jkO ?_))
    refine toO (by kernel_rfl) (p_a 0 [0] (by kernel_rfl) (fun b => by kernel_rfl) (fun b_8 => jkO ?_))
    refine toO (by kernel_rfl) (p_sA 0 3 b_8 96 1 67 encU32 (Arr.rep 96 0) (Arr.rep 96 0) (by kernel_rfl) (by kernel_rfl) (by kernel_rfl) encU32_len encU32_cell (by kernel_rfl) (jkO ?_))
    refine jo_f [(0, 0)] (by kernel_rfl) ?_
    refine jo_end (by kernel_rfl) ?_
    refine jx_then ?_
    refine jc_seq ?_
    refine jc_seq ?_
    refine jc_region ?_
    refine jo_f [(0, 0), (0, 0), (0, 0)] (by kernel_rfl) ?_
    refine jo_end (by kernel_rfl) ?_
    refine jx_then ?_
    refine jc_meet (fun (j : (List GChoice) × (Arr 96 Int) × (Option Nat) × Nat × (List Value) × Nat) => match j with | ⟨xs_2, a_3, o_297, cap_298, sp_299, n_300⟩ => impl_Greedy.k_4 xs_2 a_3 = some r ∧ (xs_2.length = n_300) ∧ ((o_297 ≠ none → n_300 ≤ cap_298 ∧ sp_299.length = (cap_298 - n_300) * 4)) ∧ ((o_297 = none → xs_2 = [] ∧ cap_298 = 0))) (fun (j : (List GChoice) × (Arr 96 Int) × (Option Nat) × Nat × (List Value) × Nat) => match j with | ⟨xs_2, a_3, o_297, cap_298, sp_299, n_300⟩ => [(6, [], (.slice none 0 0)), (7, [], (.int .i64 0)), (10, [], (.slice (o_297.map fun b => ⟨b, 0, none⟩) n_300 cap_298))]) (fun (j : (List GChoice) × (Arr 96 Int) × (Option Nat) × Nat × (List Value) × Nat) => match j with | ⟨xs_2, a_3, o_297, cap_298, sp_299, n_300⟩ => [⟨some b_1, 38, [(.int .i16 f0.fSteps), (.slice f0_fHammers_a f0.fHammers.length f0_fHammers_c)]⟩, ⟨some b_2, 82, [(.int .i16 c2.fAway), (.int .i16 c2.fOctave), (.int .i16 c2.fStep)]⟩, ⟨o_297, 130, row encGChoice xs_2 sp_299⟩, ⟨(some b_8), 67, row encU32 a_3.1 []⟩]) ?_ ?_
    · refine jc_block ?_
      obtain ⟨t_9, ht_396, hr_367⟩ := bd h
      refine jc_loop (fun (s : (List GChoice) × (Arr 96 Int) × Int) (x : (Option Nat) × Nat × (List Value) × Nat) => match s, x with | ⟨xs_5, a_6, i_7⟩, ⟨o_361, cap_362, sp_363, n_364⟩ => (xs_5.length = n_364) ∧ ((o_361 ≠ none → n_364 ≤ cap_362 ∧ sp_363.length = (cap_362 - n_364) * 4)) ∧ ((o_361 = none → xs_5 = [] ∧ cap_362 = 0))) (fun (s : (List GChoice) × (Arr 96 Int) × Int) (x : (Option Nat) × Nat × (List Value) × Nat) => match s, x with | ⟨xs_5, a_6, i_7⟩, ⟨o_361, cap_362, sp_363, n_364⟩ => [(3, [], (.pointer (some ⟨b_1, 0, none⟩))), (5, [], (.pointer (some ⟨b_2, 0, none⟩))), (6, [], (.slice none 0 0)), (7, [], (.int .i64 0)), (9, [], (.pointer (some ⟨b_8, 0, none⟩))), (10, [], (.slice (o_361.map fun b => ⟨b, 0, none⟩) n_364 cap_362)), (24, [], (.slice t1_a t1.length t1_c)), (25, [], (.int .i64 (t1.length : Int))), (26, [], (.int .i64 i_7))]) (fun (s : (List GChoice) × (Arr 96 Int) × Int) (x : (Option Nat) × Nat × (List Value) × Nat) => match s, x with | ⟨xs_5, a_6, i_7⟩, ⟨o_361, cap_362, sp_363, n_364⟩ => [⟨some b_1, 38, [(.int .i16 f0.fSteps), (.slice f0_fHammers_a f0.fHammers.length f0_fHammers_c)]⟩, ⟨some b_2, 82, [(.int .i16 c2.fAway), (.int .i16 c2.fOctave), (.int .i16 c2.fStep)]⟩, ⟨o_361, 130, row encGChoice xs_5 sp_363⟩, ⟨(some b_8), 67, row encU32 a_6.1 []⟩]) ht_396 ⟨(some b_7), 0, [], 0⟩ ⟨rfl, (fun _ => ⟨Nat.le_refl _, by simp⟩), (fun e => nomatch e)⟩ (by kernel_rfl) [0, 1, 2, 3] (by kernel_rfl) (by kernel_rfl) ?_
      rintro ⟨xs_5, a_6, i_7⟩ ⟨o_361, cap_362, sp_363, n_364⟩ y_368 ⟨rfl, hs_365, ho_366⟩ h
      rw [impl_Greedy.l_8] at h
      refine jc_seq ?_
      refine jc_region ?_
      refine jo_f [(0, 0)] (by kernel_rfl) ?_
      refine jo_end (by kernel_rfl) ?_
      refine jx_then ?_
      refine jc_seq ?_
      refine jc_cond (decide (i_7 < (t1.length : Int))) (by kernel_rfl) (fun hc_370 => ?_) (fun hc_370 => ?_)
      · replace h := ifT hc_370 h
        refine jc_skip ?_
        refine jx_then ?_
        refine jc_seq ?_
        refine jc_block ?_
        refine jc_seq ?_
        refine jc_region ?_
        obtain ⟨x_10, hx_371, h⟩ := bd h
        refine toO (by kernel_rfl) (p_idx 0 t1_a t1.length i_7 2 (by kernel_rfl) (by kernel_rfl) (ix_some hx_371).1 (ltn hx_371 rfl) (t1_h.sp hx_371) (jkO ?_))
        refine toO (by kernel_rfl) (p_ld 0 (aB t1_a) (aO t1_a + i_7.toNat * 2) true (encGNote x_10) (by kernel_rfl) (by kernel_rfl) (by kernel_rfl) (fun w hm => ((hm.exRow t1_h List.not_mem_nil).at hx_371)) (jkO ?_))
        refine toO (by kernel_rfl) (p_a 0 [0] (by kernel_rfl) (fun b => by kernel_rfl) (fun b_372 => jkO ?_))
        refine toO (by kernel_rfl) (p_s 0 [4] (by kernel_rfl) (by kernel_rfl) (jkO ?_))
        refine jo_end (by kernel_rfl) ?_
        refine jx_then ?_
        refine jc_seq ?_
        refine jc_region ?_
        refine jo_f [(0, 0), (4, 0)] (by kernel_rfl) ?_
        obtain ⟨t_11, ht_373, h⟩ := bd h
        refine toO (by kernel_rfl) (p_call 0 100 #[(.agg #[(.int .i16 f0.fSteps), (.slice f0_fHammers_a f0.fHammers.length f0_fHammers_c)]), (.agg #[(.int .i16 x_10.fAt), (.int .i8 x_10.fPitch)])] (by kernel_rfl) (by kernel_rfl) (fun w hm => impl_Frame_choices.calls f0 x_10 w _ f0_fHammers_a f0.fHammers.length f0_fHammers_c (hm.exRow f0_fHammers_h List.not_mem_nil) rfl ht_373) ?_)
        rintro w v w' hm ⟨o_374, cap_375, sp_376, _, rfl, hs_377, ho_378, rfl, hm'⟩
        refine ⟨_, hm.app hm', jkO ?_⟩
        clear hm hm'
        refine jo_f [(0, 0)] (by kernel_rfl) ?_
        obtain ⟨t_12, ht_379, h⟩ := bd h
        refine toO (by kernel_rfl) (p_call 0 99 #[(.slice (o_374.map fun b => ⟨b, 0, none⟩) t_11.length cap_375), (.func (.func 101) #[] #[(.pointer (some ⟨b_1, 0, none⟩)), (.pointer (some ⟨b_8, 0, none⟩)), (.pointer (some ⟨b_372, 0, none⟩))])] (by kernel_rfl) (by kernel_rfl) (fun w hm => slices_DeleteFunc_Choice_at_impl_Greedy_1.calls t_11 f0 a_6 x_10 w _ f0_fHammers_a f0.fHammers.length f0_fHammers_c (hm.exRow f0_fHammers_h List.not_mem_nil) rfl o_374 t_11.length cap_375 sp_376 rfl hs_377 ho_378 b_1 b_8 b_372 (hm.pass (N := [⟨o_374, 130, row encGChoice t_11 sp_376⟩, ⟨some b_1, 38, [(.int .i16 f0.fSteps), (.slice f0_fHammers_a f0.fHammers.length f0_fHammers_c)]⟩, ⟨(some b_8), 67, row encU32 a_6.1 []⟩, ⟨some b_372, 126, [(.int .i16 x_10.fAt), (.int .i8 x_10.fPitch)]⟩]) [5, 0, 3, 4] (by kernel_rfl) (by kernel_rfl)) (hm.exApart (N := [⟨o_374, 130, row encGChoice t_11 sp_376⟩, ⟨some b_1, 38, [(.int .i16 f0.fSteps), (.slice f0_fHammers_a f0.fHammers.length f0_fHammers_c)]⟩, ⟨(some b_8), 67, row encU32 a_6.1 []⟩, ⟨some b_372, 126, [(.int .i16 x_10.fAt), (.int .i8 x_10.fPitch)]⟩]) f0_fHammers_h (fun _ => List.not_mem_nil) [5, 0, 3, 4] (by kernel_rfl)) ht_379) ?_)
        rintro w v w' hm ⟨o_380, cap_381, sp_382, _, rfl, hs_383, ho_384, rfl, hm'⟩
        refine ⟨_, hm.appP (ps := [(0, ⟨some b_1, 38, [(.int .i16 f0.fSteps), (.slice f0_fHammers_a f0.fHammers.length f0_fHammers_c)]⟩), (3, ⟨(some b_8), 67, row encU32 a_6.1 []⟩), (4, ⟨some b_372, 126, [(.int .i16 x_10.fAt), (.int .i8 x_10.fPitch)]⟩)]) (ds := [5]) (N := [⟨o_380, 130, row encGChoice t_12 sp_382⟩]) hm' [3, 0, 1, 2] (by kernel_rfl) (by kernel_rfl) (by kernel_rfl), jkO ?_⟩
        clear hm hm'
        refine jo_f [(0, 0)] (by kernel_rfl) ?_
        refine jo_end (by kernel_rfl) ?_
        refine jx_then ?_
        refine jc_seq ?_
        refine jc_region ?_
        refine jo_f [(0, 0), (0, 0)] (by kernel_rfl) ?_
        obtain ⟨t_13, ht_385, h⟩ := bd h
        refine toO (by kernel_rfl) (p_call 0 103 #[(.slice (o_380.map fun b => ⟨b, 0, none⟩) t_12.length cap_381), (.func (.func 104) #[] #[(.pointer (some ⟨b_2, 0, none⟩))])] (by kernel_rfl) (by kernel_rfl) (fun w hm => slices_MinFunc_Choice_at_impl_Greedy_2.calls t_12 c2 w _ (o_380.map fun b => ⟨b, 0, none⟩) t_12.length cap_381 (hm.ownRow (hh := 6) (o := o_380) (T := 130) (enc := encGChoice) (xs := t_12) (sp := sp_382) (by kernel_rfl) (fun e => (ho_384 e).1) encGChoice_len) rfl b_2 (hm.pass (N := [⟨some b_2, 82, [(.int .i16 c2.fAway), (.int .i16 c2.fOctave), (.int .i16 c2.fStep)]⟩]) [1] (by kernel_rfl) (by kernel_rfl)) (hm.ownApart (S := GChoice) (N := [⟨some b_2, 82, [(.int .i16 c2.fAway), (.int .i16 c2.fOctave), (.int .i16 c2.fStep)]⟩]) (hh := 6) (o := o_380) (T := 130) (cs := row encGChoice t_12 sp_382) (xs := t_12) (by kernel_rfl) (fun e => (ho_384 e).1) [1] (by kernel_rfl) (by kernel_rfl)) ht_385) ?_)
        rintro w v w' hm ⟨rfl, hm'⟩
        refine ⟨_, hm.appW (ps := [(1, ⟨some b_2, 82, [(.int .i16 c2.fAway), (.int .i16 c2.fOctave), (.int .i16 c2.fStep)]⟩)]) (N := []) hm' (by kernel_rfl) (by kernel_rfl), jkO ?_⟩
        clear hm hm'
        refine toO (by kernel_rfl) (p_a 0 [0] (by kernel_rfl) (fun b => by kernel_rfl) (fun b_386 => jkO ?_))
        refine toO (by kernel_rfl) (p_s 0 [7] (by kernel_rfl) (by kernel_rfl) (jkO ?_))
        refine jo_end (by kernel_rfl) ?_
        refine jx_then ?_
        refine jc_seq ?_
        refine jc_region ?_
        refine jo_f [(4, 0), (7, 0)] (by kernel_rfl) ?_
        obtain ⟨t_14, ht_387, h⟩ := bd h
        refine toO (by kernel_rfl) (p_call 0 107 #[(.pointer (some ⟨b_8, 0, none⟩)), (.agg #[(.int .i16 x_10.fAt), (.int .i8 x_10.fPitch)]), (.agg #[(.bool t_13.fAway), (.int .i8 t_13.fLate), (.int .i8 t_13.fOctave), (.int .i8 t_13.fTrack)])] (by kernel_rfl) (by kernel_rfl) (fun w hm => impl_Drum_puts.calls a_6 x_10 t_13 w _ b_8 (hm.pass (N := [⟨(some b_8), 67, row encU32 a_6.1 []⟩]) [3] (by kernel_rfl) (by kernel_rfl)) ht_387) ?_)
        rintro w v w' hm ⟨rfl, hm'⟩
        refine ⟨_, hm.appW (ps := [(3, ⟨(some b_8), 67, row encU32 t_14.1 []⟩)]) (N := []) hm' (by kernel_rfl) (by kernel_rfl), jkO ?_⟩
        clear hm hm'
        refine jo_end (by kernel_rfl) ?_
        refine jx_then ?_
        refine jc_region ?_
        refine jo_f [(0, 0), (7, 0)] (by kernel_rfl) ?_
        refine toO (by kernel_rfl) (p_a 0 [0] (by kernel_rfl) (fun b => by kernel_rfl) (fun b_388 => jkO ?_))
        obtain ⟨hg_389, h⟩ := gd h
        refine toO (by kernel_rfl) (p_apn 0 2 o_361 130 xs_5.length 1 cap_362 4 4 (some ⟨b_388, 0, none⟩) encGChoice xs_5 [t_13] sp_363 (.agg #[(.bool false), (.int .i8 0), (.int .i8 0), (.int .i8 0)]) rfl rfl (by kernel_rfl) (by kernel_rfl) (by kernel_rfl) encGChoice_len encGChoice_cell hs_365 ho_366 (fun w hm => (hm.ownRow (hh := 8) (o := (some b_388)) (T := 130) (enc := encGChoice) (xs := [t_13]) (sp := []) (by kernel_rfl) (fun e => nomatch e) encGChoice_len)) hg_389 (by kernel_rfl) (by kernel_rfl) (fun o_390 cap_391 sp_392 hs_393 ho_394 => jkO ?_))
        refine jo_f [(0, 0)] (by kernel_rfl) ?_
        refine jo_end (by kernel_rfl) ?_
        refine jx_inn ?_
        refine jx_then ?_
        refine jc_region ?_
        refine jo_f [(0, 0), (0, 0)] (by kernel_rfl) ?_
        refine jo_end (by kernel_rfl) ?_
        exact jx_back ((xs_5 ++ [t_13]), t_14, (w64 (i_7 + 1))) ⟨o_390, cap_391, sp_392, (xs_5 ++ [t_13]).length⟩ (Option.some.inj h).symm ⟨rfl, hs_393, ho_394⟩ [0, 1, 2, 3] (by kernel_rfl) (by kernel_rfl) (by kernel_rfl)
      · replace h := ifF hc_370 h
        refine jc_exit ?_
        refine jx_thenx ?_
        refine jx_leave (xs_5, a_6) (Option.some.inj h).symm (fun e_395 => ?_)
        subst e_395
        refine jx_ine ?_
        exact jx_meet ⟨xs_5, a_6, o_361, cap_362, sp_363, xs_5.length⟩ ⟨hr_367, rfl, hs_365, ho_366⟩ (by kernel_rfl) [0, 1, 2, 3] (by kernel_rfl) (by kernel_rfl)
    · rintro ⟨xs_2, a_3, o_297, cap_298, sp_299, n_300⟩ ⟨h, rfl, hs_301, ho_302⟩
      replace h : impl_Greedy.k_4 xs_2 a_3 = some r := h
      rw [impl_Greedy.k_4] at h
      refine jx_then ?_
      refine jc_seq ?_
      refine jc_region ?_
      refine jo_f [(0, 0), (0, 0), (0, 0)] (by kernel_rfl) ?_
      refine jo_end (by kernel_rfl) ?_
      refine jx_then ?_
      refine jc_ret ?_
      obtain rfl := Option.some.inj h
      exact jx_ret [] (.tuple #[(.slice (o_297.map fun b => ⟨b, 0, none⟩) xs_2.length cap_298), (.int .i64 0)]) [] rfl (by kernel_rfl) (by kernel_rfl) (fun w hm => ⟨o_297, cap_298, sp_299, xs_2.length, rfl, hs_301, ho_302, rfl, hm.pick [2] (by kernel_rfl) (by kernel_rfl)⟩)

/-! ### laws.markHammerS -/
noncomputable def laws_markHammerS.k_3 (xs_1 : List GHammer) (i_2 : Int) : Option (Int × (List GHammer)) := some (i_2, xs_1)
noncomputable def laws_markHammerS.l_7 (a0 : List GHammer) : ((List GHammer) × Int × Int) → Option (((List GHammer) × Int × Int) ⊕ (((List GHammer) × Int)))
  | (xs_4, i_5, i_6) => (if (decide (i_6 < (a0.length : Int))) = true then (ix xs_4 i_6).bind fun x_9 => (ix (xs_4.set i_6.toNat (⟨(w8 i_5), x_9.fReady⟩ : GHammer)) i_6).bind fun x_10 => some (.inl (((xs_4.set i_6.toNat (⟨(w8 i_5), x_9.fReady⟩ : GHammer)).set i_6.toNat (⟨x_10.fPitch, (w8 (w64 (i_5 + 1)))⟩ : GHammer)), (w64 ((w64 (i_5 + 1)) + 1)), (w64 (i_6 + 1)))) else some (.inr (xs_4, i_5)))
noncomputable def laws_markHammerS (a0 : List GHammer) (k1 : Int) : Option (Int × (List GHammer)) := (loop (laws_markHammerS.l_7 a0) (a0, k1, 0)).bind fun t_8 => laws_markHammerS.k_3 t_8.1 t_8.2
set_option maxRecDepth 100000 in
theorem laws_markHammerS.calls (a0 : List GHammer) (k1 : Int) (w : World) (r : Int × (List GHammer)) (a0_o : Option Nat) (a0_on : Nat) (a0_c : Nat) (a0_sp : List Value) (a0_hn : a0.length = a0_on) (a0_hs : a0_o ≠ none → a0_on ≤ a0_c ∧ a0_sp.length = (a0_c - a0_on) * 2) (a0_ho : a0_o = none → a0 = [] ∧ a0_c = 0) (hm0 : Mem w (bs [a0_o]) [⟨a0_o, 178, row encGHammer a0 a0_sp⟩] w) (h : laws_markHammerS a0 k1 = some r) :
    Calls Try.prog 108 #[(.slice (a0_o.map fun b => ⟨b, 0, none⟩) a0_on a0_c), (.int .i64 k1)] w fun e w' => ∃ v, e = .returned v ∧ (r.2.length = a0_on ∧ (a0_o = none → r.2 = [] ∧ a0_c = 0) ∧ v = (.int .i64 r.1) ∧ Mem w (bs [a0_o]) [⟨a0_o, 178, row encGHammer r.2 a0_sp⟩] w') := by
  subst a0_hn
  rw [laws_markHammerS] at h
  refine enter (args := [(.slice (a0_o.map fun b => ⟨b, 0, none⟩) a0.length a0_c), (.int .i64 k1)]) Try.func108 rfl Try.ntmps108 (by kernel_rfl) (L := [⟨a0_o, 178, row encGHammer a0 a0_sp⟩]) (W := bs [a0_o]) hm0 ?_
  refine jc_seq ?_
  refine jc_region ?_
  refine jo_f [(0, 0)] (by kernel_rfl) ?_
  refine jo_end (by kernel_rfl) ?_
  refine jx_then ?_
  refine jc_seq ?_
  refine jc_seq ?_
  refine jc_region ?_
  refine jo_f [(0, 0)] (by kernel_rfl) ?_
  refine jo_end (by kernel_rfl) ?_
  refine jx_then ?_
  refine jc_meet (fun (j : (List GHammer) × Int) => match j with | ⟨xs_1, i_2⟩ => laws_markHammerS.k_3 xs_1 i_2 = some r ∧ (xs_1.length = a0.length) ∧ ((a0_o = none → xs_1 = [] ∧ a0_c = 0))) (fun (j : (List GHammer) × Int) => match j with | ⟨xs_1, i_2⟩ => [(1, [], (.int .i64 i_2)), (4, [], (.int .i64 0))]) (fun (j : (List GHammer) × Int) => match j with | ⟨xs_1, i_2⟩ => [⟨a0_o, 178, row encGHammer xs_1 a0_sp⟩]) ?_ ?_
  · refine jc_block ?_
    obtain ⟨t_8, ht_84, hr_77⟩ := bd h
    refine jc_loop (fun (s : (List GHammer) × Int × Int) (x : Unit) => match s, x with | ⟨xs_4, i_5, i_6⟩, _ => (xs_4.length = a0.length) ∧ ((a0_o = none → xs_4 = [] ∧ a0_c = 0))) (fun (s : (List GHammer) × Int × Int) (x : Unit) => match s, x with | ⟨xs_4, i_5, i_6⟩, _ => [(0, [], (.slice (a0_o.map fun b => ⟨b, 0, none⟩) a0.length a0_c)), (1, [], (.int .i64 i_5)), (4, [], (.int .i64 0)), (5, [], (.int .i64 i_6))]) (fun (s : (List GHammer) × Int × Int) (x : Unit) => match s, x with | ⟨xs_4, i_5, i_6⟩, _ => [⟨a0_o, 178, row encGHammer xs_4 a0_sp⟩]) ht_84 () ⟨rfl, a0_ho⟩ (by kernel_rfl) [0] (by kernel_rfl) (by kernel_rfl) ?_
    rintro ⟨xs_4, i_5, i_6⟩ _ y_78 ⟨hn_76, ho_75⟩ h
    rw [laws_markHammerS.l_7] at h
    refine jc_seq ?_
    refine jc_seq ?_
    refine jc_region ?_
    refine jo_f [(0, 0), (0, 0), (0, 0), (0, 0)] (by kernel_rfl) ?_
    refine jo_end (by kernel_rfl) ?_
    refine jx_then ?_
    refine jc_cond (decide (i_6 < (a0.length : Int))) (by kernel_rfl) (fun hc_80 => ?_) (fun hc_80 => ?_)
    · replace h := ifT hc_80 h
      refine jc_skip ?_
      refine jx_then ?_
      refine jc_seq ?_
      refine jc_block ?_
      refine jc_seq ?_
      refine jc_region ?_
      refine jo_f [(0, 0), (0, 0), (0, 0), (0, 0)] (by kernel_rfl) ?_
      obtain ⟨x_9, hx_81, h⟩ := bd h
      refine toO (by kernel_rfl) (p_idx 0 (a0_o.map fun b => ⟨b, 0, none⟩) a0.length i_6 2 (by kernel_rfl) (by kernel_rfl) (ix_some hx_81).1 (ltn hx_81 hn_76) (spo ho_75 hx_81) (jkO ?_))
      refine jo_f [(0, 0)] (by kernel_rfl) ?_
      refine toO (by kernel_rfl) (p_strO 0 0 a0_o 178 encGHammer xs_4 a0_sp i_6 (⟨(w8 i_5), x_9.fReady⟩ : GHammer) 2 0 [(.int .i8 (w8 i_5))] (by kernel_rfl) (by kernel_rfl) (by kernel_rfl) (fun e => (ho_75 e).1) encGHammer_len hx_81 (by kernel_rfl) (by kernel_rfl) (jkO ?_))
      refine jo_end (by kernel_rfl) ?_
      refine jx_then ?_
      refine jc_seq ?_
      refine jc_region ?_
      refine jo_f [(0, 0), (0, 0), (0, 0)] (by kernel_rfl) ?_
      refine jo_end (by kernel_rfl) ?_
      refine jx_then ?_
      refine jc_seq ?_
      refine jc_region ?_
      refine jo_f [(0, 0), (0, 0), (0, 0), (0, 0)] (by kernel_rfl) ?_
      obtain ⟨x_10, hx_82, h⟩ := bd h
      refine toO (by kernel_rfl) (p_idx 0 (a0_o.map fun b => ⟨b, 0, none⟩) a0.length i_6 2 (by kernel_rfl) (by kernel_rfl) (ix_some hx_82).1 (ltn hx_82 (List.length_set.trans hn_76)) (spo (set_ho ho_75) hx_82) (jkO ?_))
      refine jo_f [(0, 0)] (by kernel_rfl) ?_
      refine toO (by kernel_rfl) (p_strO 0 0 a0_o 178 encGHammer (xs_4.set i_6.toNat (⟨(w8 i_5), x_9.fReady⟩ : GHammer)) a0_sp i_6 (⟨x_10.fPitch, (w8 (w64 (i_5 + 1)))⟩ : GHammer) 2 1 [(.int .i8 (w8 (w64 (i_5 + 1))))] (by kernel_rfl) (by kernel_rfl) (by kernel_rfl) (fun e => ((set_ho ho_75) e).1) encGHammer_len hx_82 (by kernel_rfl) (by kernel_rfl) (jkO ?_))
      refine jo_end (by kernel_rfl) ?_
      refine jx_then ?_
      refine jc_region ?_
      refine jo_f [(0, 0), (0, 0), (0, 0)] (by kernel_rfl) ?_
      refine jo_end (by kernel_rfl) ?_
      refine jx_inn ?_
      refine jx_then ?_
      refine jc_region ?_
      refine jo_f [(0, 0), (0, 0), (0, 0)] (by kernel_rfl) ?_
      refine jo_end (by kernel_rfl) ?_
      exact jx_back (((xs_4.set i_6.toNat (⟨(w8 i_5), x_9.fReady⟩ : GHammer)).set i_6.toNat (⟨x_10.fPitch, (w8 (w64 (i_5 + 1)))⟩ : GHammer)), (w64 ((w64 (i_5 + 1)) + 1)), (w64 (i_6 + 1))) () (Option.some.inj h).symm ⟨(List.length_set.trans (List.length_set.trans hn_76)), (set_ho (set_ho ho_75))⟩ [0] (by kernel_rfl) (by kernel_rfl) (by kernel_rfl)
    · replace h := ifF hc_80 h
      refine jc_exit ?_
      refine jx_thenx ?_
      refine jx_leave (xs_4, i_5) (Option.some.inj h).symm (fun e_83 => ?_)
      subst e_83
      refine jx_ine ?_
      exact jx_meet ⟨xs_4, i_5⟩ ⟨hr_77, hn_76, ho_75⟩ (by kernel_rfl) [0] (by kernel_rfl) (by kernel_rfl)
  · rintro ⟨xs_1, i_2⟩ ⟨h, hn_64, ho_63⟩
    replace h : laws_markHammerS.k_3 xs_1 i_2 = some r := h
    rw [laws_markHammerS.k_3] at h
    refine jx_then ?_
    refine jc_seq ?_
    refine jc_region ?_
    refine jo_f [(0, 0), (0, 0)] (by kernel_rfl) ?_
    refine jo_end (by kernel_rfl) ?_
    refine jx_then ?_
    refine jc_ret ?_
    obtain rfl := Option.some.inj h
    exact jx_ret [] (.int .i64 i_2) [] rfl (by kernel_rfl) (by kernel_rfl) (fun w hm => ⟨hn_64, ho_63, rfl, hm.pick [0] (by kernel_rfl) (by kernel_rfl)⟩)

/-! ### laws.markFrame -/
noncomputable def laws_markFrame (a0 : GFrame) (k1 : Int) : Option (Int × (List GHammer)) := (laws_markHammerS a0.fHammers k1).bind fun t_1 => some (t_1.1, t_1.2)
set_option maxRecDepth 100000 in
theorem laws_markFrame.calls (a0 : GFrame) (k1 : Int) (w : World) (r : Int × (List GHammer)) (a0_fHammers_o : Option Nat) (a0_fHammers_on : Nat) (a0_fHammers_c : Nat) (a0_fHammers_sp : List Value) (a0_fHammers_hn : a0.fHammers.length = a0_fHammers_on) (a0_fHammers_hs : a0_fHammers_o ≠ none → a0_fHammers_on ≤ a0_fHammers_c ∧ a0_fHammers_sp.length = (a0_fHammers_c - a0_fHammers_on) * 2) (a0_fHammers_ho : a0_fHammers_o = none → a0.fHammers = [] ∧ a0_fHammers_c = 0) (hm0 : Mem w (bs [a0_fHammers_o]) [⟨a0_fHammers_o, 178, row encGHammer a0.fHammers a0_fHammers_sp⟩] w) (h : laws_markFrame a0 k1 = some r) :
    Calls Try.prog 45 #[(.agg #[(.int .i16 a0.fSteps), (.slice (a0_fHammers_o.map fun b => ⟨b, 0, none⟩) a0_fHammers_on a0_fHammers_c)]), (.int .i64 k1)] w fun e w' => ∃ v, e = .returned v ∧ (r.2.length = a0_fHammers_on ∧ (a0_fHammers_o = none → r.2 = [] ∧ a0_fHammers_c = 0) ∧ v = (.int .i64 r.1) ∧ Mem w (bs [a0_fHammers_o]) [⟨a0_fHammers_o, 178, row encGHammer r.2 a0_fHammers_sp⟩] w') := by
  subst a0_fHammers_hn
  rw [laws_markFrame] at h
  refine enter (args := [(.agg #[(.int .i16 a0.fSteps), (.slice (a0_fHammers_o.map fun b => ⟨b, 0, none⟩) a0.fHammers.length a0_fHammers_c)]), (.int .i64 k1)]) Try.func45 rfl Try.ntmps45 (by kernel_rfl) (L := [⟨a0_fHammers_o, 178, row encGHammer a0.fHammers a0_fHammers_sp⟩]) (W := bs [a0_fHammers_o]) hm0 ?_
  refine jc_seq ?_
  refine jc_region ?_
  refine toO (by kernel_rfl) (p_a 0 [0] (by kernel_rfl) (fun b => by kernel_rfl) (fun b_1 => jkO ?_))
  refine jo_f [(0, 0)] (by kernel_rfl) ?_
  refine jo_end (by kernel_rfl) ?_
  refine jx_then ?_
  refine jc_seq ?_
  refine jc_region ?_
  refine jo_f [(0, 0), (1, 0), (0, 0)] (by kernel_rfl) ?_
  obtain ⟨t_1, ht_2, h⟩ := bd h
  refine toO (by kernel_rfl) (p_call 0 108 #[(.slice (a0_fHammers_o.map fun b => ⟨b, 0, none⟩) a0.fHammers.length a0_fHammers_c), (.int .i64 k1)] (by kernel_rfl) (by kernel_rfl) (fun w hm => laws_markHammerS.calls a0.fHammers k1 w _ a0_fHammers_o a0.fHammers.length a0_fHammers_c a0_fHammers_sp rfl a0_fHammers_hs a0_fHammers_ho (hm.pass (N := [⟨a0_fHammers_o, 178, row encGHammer a0.fHammers a0_fHammers_sp⟩]) [0] (by kernel_rfl) (by kernel_rfl)) ht_2) ?_)
  rintro w v w' hm ⟨hn_3, ho_4, rfl, hm'⟩
  refine ⟨_, hm.appW (ps := [(0, ⟨a0_fHammers_o, 178, row encGHammer t_1.2 a0_fHammers_sp⟩)]) (N := []) hm' (by kernel_rfl) (by kernel_rfl), jkO ?_⟩
  clear hm hm'
  refine jo_f [(0, 0)] (by kernel_rfl) ?_
  refine jo_end (by kernel_rfl) ?_
  refine jx_then ?_
  refine jc_seq ?_
  refine jc_region ?_
  refine jo_f [(0, 0), (0, 0)] (by kernel_rfl) ?_
  refine jo_end (by kernel_rfl) ?_
  refine jx_then ?_
  refine jc_ret ?_
  obtain rfl := Option.some.inj h
  exact jx_ret [] (.int .i64 t_1.1) [] rfl (by kernel_rfl) (by kernel_rfl) (fun w hm => ⟨hn_3, ho_4, rfl, hm.pick [0] (by kernel_rfl) (by kernel_rfl)⟩)

/-! ### laws.markTune -/
noncomputable def laws_markTune.k_3 (xs_1 : List GNote) (i_2 : Int) : Option (Int × (List GNote)) := some (i_2, xs_1)
noncomputable def laws_markTune.l_7 (a0 : List GNote) : ((List GNote) × Int × Int) → Option (((List GNote) × Int × Int) ⊕ (((List GNote) × Int)))
  | (xs_4, i_5, i_6) => (if (decide (i_6 < (a0.length : Int))) = true then (ix xs_4 i_6).bind fun x_9 => (ix (xs_4.set i_6.toNat (⟨(w16 i_5), x_9.fPitch⟩ : GNote)) i_6).bind fun x_10 => some (.inl (((xs_4.set i_6.toNat (⟨(w16 i_5), x_9.fPitch⟩ : GNote)).set i_6.toNat (⟨x_10.fAt, (w8 (w64 (i_5 + 1)))⟩ : GNote)), (w64 ((w64 (i_5 + 1)) + 1)), (w64 (i_6 + 1)))) else some (.inr (xs_4, i_5)))
noncomputable def laws_markTune (a0 : List GNote) (k1 : Int) : Option (Int × (List GNote)) := (loop (laws_markTune.l_7 a0) (a0, k1, 0)).bind fun t_8 => laws_markTune.k_3 t_8.1 t_8.2
set_option maxRecDepth 100000 in
theorem laws_markTune.calls (a0 : List GNote) (k1 : Int) (w : World) (r : Int × (List GNote)) (a0_o : Option Nat) (a0_on : Nat) (a0_c : Nat) (a0_sp : List Value) (a0_hn : a0.length = a0_on) (a0_hs : a0_o ≠ none → a0_on ≤ a0_c ∧ a0_sp.length = (a0_c - a0_on) * 2) (a0_ho : a0_o = none → a0 = [] ∧ a0_c = 0) (hm0 : Mem w (bs [a0_o]) [⟨a0_o, 126, row encGNote a0 a0_sp⟩] w) (h : laws_markTune a0 k1 = some r) :
    Calls Try.prog 46 #[(.slice (a0_o.map fun b => ⟨b, 0, none⟩) a0_on a0_c), (.int .i64 k1)] w fun e w' => ∃ v, e = .returned v ∧ (r.2.length = a0_on ∧ (a0_o = none → r.2 = [] ∧ a0_c = 0) ∧ v = (.int .i64 r.1) ∧ Mem w (bs [a0_o]) [⟨a0_o, 126, row encGNote r.2 a0_sp⟩] w') := by
  subst a0_hn
  rw [laws_markTune] at h
  refine enter (args := [(.slice (a0_o.map fun b => ⟨b, 0, none⟩) a0.length a0_c), (.int .i64 k1)]) Try.func46 rfl Try.ntmps46 (by kernel_rfl) (L := [⟨a0_o, 126, row encGNote a0 a0_sp⟩]) (W := bs [a0_o]) hm0 ?_
  refine jc_seq ?_
  refine jc_region ?_
  refine jo_f [(0, 0)] (by kernel_rfl) ?_
  refine jo_end (by kernel_rfl) ?_
  refine jx_then ?_
  refine jc_seq ?_
  refine jc_seq ?_
  refine jc_region ?_
  refine jo_f [(0, 0)] (by kernel_rfl) ?_
  refine jo_end (by kernel_rfl) ?_
  refine jx_then ?_
  refine jc_meet (fun (j : (List GNote) × Int) => match j with | ⟨xs_1, i_2⟩ => laws_markTune.k_3 xs_1 i_2 = some r ∧ (xs_1.length = a0.length) ∧ ((a0_o = none → xs_1 = [] ∧ a0_c = 0))) (fun (j : (List GNote) × Int) => match j with | ⟨xs_1, i_2⟩ => [(1, [], (.int .i64 i_2)), (4, [], (.int .i64 0))]) (fun (j : (List GNote) × Int) => match j with | ⟨xs_1, i_2⟩ => [⟨a0_o, 126, row encGNote xs_1 a0_sp⟩]) ?_ ?_
  · refine jc_block ?_
    obtain ⟨t_8, ht_84, hr_77⟩ := bd h
    refine jc_loop (fun (s : (List GNote) × Int × Int) (x : Unit) => match s, x with | ⟨xs_4, i_5, i_6⟩, _ => (xs_4.length = a0.length) ∧ ((a0_o = none → xs_4 = [] ∧ a0_c = 0))) (fun (s : (List GNote) × Int × Int) (x : Unit) => match s, x with | ⟨xs_4, i_5, i_6⟩, _ => [(0, [], (.slice (a0_o.map fun b => ⟨b, 0, none⟩) a0.length a0_c)), (1, [], (.int .i64 i_5)), (4, [], (.int .i64 0)), (5, [], (.int .i64 i_6))]) (fun (s : (List GNote) × Int × Int) (x : Unit) => match s, x with | ⟨xs_4, i_5, i_6⟩, _ => [⟨a0_o, 126, row encGNote xs_4 a0_sp⟩]) ht_84 () ⟨rfl, a0_ho⟩ (by kernel_rfl) [0] (by kernel_rfl) (by kernel_rfl) ?_
    rintro ⟨xs_4, i_5, i_6⟩ _ y_78 ⟨hn_76, ho_75⟩ h
    rw [laws_markTune.l_7] at h
    refine jc_seq ?_
    refine jc_seq ?_
    refine jc_region ?_
    refine jo_f [(0, 0), (0, 0), (0, 0), (0, 0)] (by kernel_rfl) ?_
    refine jo_end (by kernel_rfl) ?_
    refine jx_then ?_
    refine jc_cond (decide (i_6 < (a0.length : Int))) (by kernel_rfl) (fun hc_80 => ?_) (fun hc_80 => ?_)
    · replace h := ifT hc_80 h
      refine jc_skip ?_
      refine jx_then ?_
      refine jc_seq ?_
      refine jc_block ?_
      refine jc_seq ?_
      refine jc_region ?_
      refine jo_f [(0, 0), (0, 0), (0, 0), (0, 0)] (by kernel_rfl) ?_
      obtain ⟨x_9, hx_81, h⟩ := bd h
      refine toO (by kernel_rfl) (p_idx 0 (a0_o.map fun b => ⟨b, 0, none⟩) a0.length i_6 2 (by kernel_rfl) (by kernel_rfl) (ix_some hx_81).1 (ltn hx_81 hn_76) (spo ho_75 hx_81) (jkO ?_))
      refine jo_f [(0, 0)] (by kernel_rfl) ?_
      refine toO (by kernel_rfl) (p_strO 0 0 a0_o 126 encGNote xs_4 a0_sp i_6 (⟨(w16 i_5), x_9.fPitch⟩ : GNote) 2 0 [(.int .i16 (w16 i_5))] (by kernel_rfl) (by kernel_rfl) (by kernel_rfl) (fun e => (ho_75 e).1) encGNote_len hx_81 (by kernel_rfl) (by kernel_rfl) (jkO ?_))
      refine jo_end (by kernel_rfl) ?_
      refine jx_then ?_
      refine jc_seq ?_
      refine jc_region ?_
      refine jo_f [(0, 0), (0, 0), (0, 0)] (by kernel_rfl) ?_
      refine jo_end (by kernel_rfl) ?_
      refine jx_then ?_
      refine jc_seq ?_
      refine jc_region ?_
      refine jo_f [(0, 0), (0, 0), (0, 0), (0, 0)] (by kernel_rfl) ?_
      obtain ⟨x_10, hx_82, h⟩ := bd h
      refine toO (by kernel_rfl) (p_idx 0 (a0_o.map fun b => ⟨b, 0, none⟩) a0.length i_6 2 (by kernel_rfl) (by kernel_rfl) (ix_some hx_82).1 (ltn hx_82 (List.length_set.trans hn_76)) (spo (set_ho ho_75) hx_82) (jkO ?_))
      refine jo_f [(0, 0)] (by kernel_rfl) ?_
      refine toO (by kernel_rfl) (p_strO 0 0 a0_o 126 encGNote (xs_4.set i_6.toNat (⟨(w16 i_5), x_9.fPitch⟩ : GNote)) a0_sp i_6 (⟨x_10.fAt, (w8 (w64 (i_5 + 1)))⟩ : GNote) 2 1 [(.int .i8 (w8 (w64 (i_5 + 1))))] (by kernel_rfl) (by kernel_rfl) (by kernel_rfl) (fun e => ((set_ho ho_75) e).1) encGNote_len hx_82 (by kernel_rfl) (by kernel_rfl) (jkO ?_))
      refine jo_end (by kernel_rfl) ?_
      refine jx_then ?_
      refine jc_region ?_
      refine jo_f [(0, 0), (0, 0), (0, 0)] (by kernel_rfl) ?_
      refine jo_end (by kernel_rfl) ?_
      refine jx_inn ?_
      refine jx_then ?_
      refine jc_region ?_
      refine jo_f [(0, 0), (0, 0), (0, 0)] (by kernel_rfl) ?_
      refine jo_end (by kernel_rfl) ?_
      exact jx_back (((xs_4.set i_6.toNat (⟨(w16 i_5), x_9.fPitch⟩ : GNote)).set i_6.toNat (⟨x_10.fAt, (w8 (w64 (i_5 + 1)))⟩ : GNote)), (w64 ((w64 (i_5 + 1)) + 1)), (w64 (i_6 + 1))) () (Option.some.inj h).symm ⟨(List.length_set.trans (List.length_set.trans hn_76)), (set_ho (set_ho ho_75))⟩ [0] (by kernel_rfl) (by kernel_rfl) (by kernel_rfl)
    · replace h := ifF hc_80 h
      refine jc_exit ?_
      refine jx_thenx ?_
      refine jx_leave (xs_4, i_5) (Option.some.inj h).symm (fun e_83 => ?_)
      subst e_83
      refine jx_ine ?_
      exact jx_meet ⟨xs_4, i_5⟩ ⟨hr_77, hn_76, ho_75⟩ (by kernel_rfl) [0] (by kernel_rfl) (by kernel_rfl)
  · rintro ⟨xs_1, i_2⟩ ⟨h, hn_64, ho_63⟩
    replace h : laws_markTune.k_3 xs_1 i_2 = some r := h
    rw [laws_markTune.k_3] at h
    refine jx_then ?_
    refine jc_seq ?_
    refine jc_region ?_
    refine jo_f [(0, 0), (0, 0)] (by kernel_rfl) ?_
    refine jo_end (by kernel_rfl) ?_
    refine jx_then ?_
    refine jc_ret ?_
    obtain rfl := Option.some.inj h
    exact jx_ret [] (.int .i64 i_2) [] rfl (by kernel_rfl) (by kernel_rfl) (fun w hm => ⟨hn_64, ho_63, rfl, hm.pick [0] (by kernel_rfl) (by kernel_rfl)⟩)

/-! ### laws.markChoiceS -/
noncomputable def laws_markChoiceS.k_3 (xs_1 : List GChoice) (i_2 : Int) : Option (Int × (List GChoice)) := some (i_2, xs_1)
noncomputable def laws_markChoiceS.l_7 (a0 : List GChoice) : ((List GChoice) × Int × Int) → Option (((List GChoice) × Int × Int) ⊕ (((List GChoice) × Int)))
  | (xs_4, i_5, i_6) => (if (decide (i_6 < (a0.length : Int))) = true then (ix xs_4 i_6).bind fun x_9 => (ix (xs_4.set i_6.toNat (⟨((Int.tmod i_5 3) == 0), x_9.fLate, x_9.fOctave, x_9.fTrack⟩ : GChoice)) i_6).bind fun x_10 => (ix ((xs_4.set i_6.toNat (⟨((Int.tmod i_5 3) == 0), x_9.fLate, x_9.fOctave, x_9.fTrack⟩ : GChoice)).set i_6.toNat (⟨x_10.fAway, (w8 (w64 (i_5 + 1))), x_10.fOctave, x_10.fTrack⟩ : GChoice)) i_6).bind fun x_11 => (ix (((xs_4.set i_6.toNat (⟨((Int.tmod i_5 3) == 0), x_9.fLate, x_9.fOctave, x_9.fTrack⟩ : GChoice)).set i_6.toNat (⟨x_10.fAway, (w8 (w64 (i_5 + 1))), x_10.fOctave, x_10.fTrack⟩ : GChoice)).set i_6.toNat (⟨x_11.fAway, x_11.fLate, (w8 (w64 ((w64 (i_5 + 1)) + 1))), x_11.fTrack⟩ : GChoice)) i_6).bind fun x_12 => some (.inl (((((xs_4.set i_6.toNat (⟨((Int.tmod i_5 3) == 0), x_9.fLate, x_9.fOctave, x_9.fTrack⟩ : GChoice)).set i_6.toNat (⟨x_10.fAway, (w8 (w64 (i_5 + 1))), x_10.fOctave, x_10.fTrack⟩ : GChoice)).set i_6.toNat (⟨x_11.fAway, x_11.fLate, (w8 (w64 ((w64 (i_5 + 1)) + 1))), x_11.fTrack⟩ : GChoice)).set i_6.toNat (⟨x_12.fAway, x_12.fLate, x_12.fOctave, (w8 (w64 ((w64 ((w64 (i_5 + 1)) + 1)) + 1)))⟩ : GChoice)), (w64 ((w64 ((w64 ((w64 (i_5 + 1)) + 1)) + 1)) + 1)), (w64 (i_6 + 1)))) else some (.inr (xs_4, i_5)))
noncomputable def laws_markChoiceS (a0 : List GChoice) (k1 : Int) : Option (Int × (List GChoice)) := (loop (laws_markChoiceS.l_7 a0) (a0, k1, 0)).bind fun t_8 => laws_markChoiceS.k_3 t_8.1 t_8.2
set_option maxRecDepth 100000 in
theorem laws_markChoiceS.calls (a0 : List GChoice) (k1 : Int) (w : World) (r : Int × (List GChoice)) (a0_o : Option Nat) (a0_on : Nat) (a0_c : Nat) (a0_sp : List Value) (a0_hn : a0.length = a0_on) (a0_hs : a0_o ≠ none → a0_on ≤ a0_c ∧ a0_sp.length = (a0_c - a0_on) * 4) (a0_ho : a0_o = none → a0 = [] ∧ a0_c = 0) (hm0 : Mem w (bs [a0_o]) [⟨a0_o, 130, row encGChoice a0 a0_sp⟩] w) (h : laws_markChoiceS a0 k1 = some r) :
    Calls Try.prog 47 #[(.slice (a0_o.map fun b => ⟨b, 0, none⟩) a0_on a0_c), (.int .i64 k1)] w fun e w' => ∃ v, e = .returned v ∧ (r.2.length = a0_on ∧ (a0_o = none → r.2 = [] ∧ a0_c = 0) ∧ v = (.int .i64 r.1) ∧ Mem w (bs [a0_o]) [⟨a0_o, 130, row encGChoice r.2 a0_sp⟩] w') := by
  subst a0_hn
  rw [laws_markChoiceS] at h
  refine enter (args := [(.slice (a0_o.map fun b => ⟨b, 0, none⟩) a0.length a0_c), (.int .i64 k1)]) Try.func47 rfl Try.ntmps47 (by kernel_rfl) (L := [⟨a0_o, 130, row encGChoice a0 a0_sp⟩]) (W := bs [a0_o]) hm0 ?_
  refine jc_seq ?_
  refine jc_region ?_
  refine jo_f [(0, 0)] (by kernel_rfl) ?_
  refine jo_end (by kernel_rfl) ?_
  refine jx_then ?_
  refine jc_seq ?_
  refine jc_seq ?_
  refine jc_region ?_
  refine jo_f [(0, 0)] (by kernel_rfl) ?_
  refine jo_end (by kernel_rfl) ?_
  refine jx_then ?_
  refine jc_meet (fun (j : (List GChoice) × Int) => match j with | ⟨xs_1, i_2⟩ => laws_markChoiceS.k_3 xs_1 i_2 = some r ∧ (xs_1.length = a0.length) ∧ ((a0_o = none → xs_1 = [] ∧ a0_c = 0))) (fun (j : (List GChoice) × Int) => match j with | ⟨xs_1, i_2⟩ => [(1, [], (.int .i64 i_2)), (4, [], (.int .i64 0))]) (fun (j : (List GChoice) × Int) => match j with | ⟨xs_1, i_2⟩ => [⟨a0_o, 130, row encGChoice xs_1 a0_sp⟩]) ?_ ?_
  · refine jc_block ?_
    obtain ⟨t_8, ht_108, hr_99⟩ := bd h
    refine jc_loop (fun (s : (List GChoice) × Int × Int) (x : Unit) => match s, x with | ⟨xs_4, i_5, i_6⟩, _ => (xs_4.length = a0.length) ∧ ((a0_o = none → xs_4 = [] ∧ a0_c = 0))) (fun (s : (List GChoice) × Int × Int) (x : Unit) => match s, x with | ⟨xs_4, i_5, i_6⟩, _ => [(0, [], (.slice (a0_o.map fun b => ⟨b, 0, none⟩) a0.length a0_c)), (1, [], (.int .i64 i_5)), (4, [], (.int .i64 0)), (5, [], (.int .i64 i_6))]) (fun (s : (List GChoice) × Int × Int) (x : Unit) => match s, x with | ⟨xs_4, i_5, i_6⟩, _ => [⟨a0_o, 130, row encGChoice xs_4 a0_sp⟩]) ht_108 () ⟨rfl, a0_ho⟩ (by kernel_rfl) [0] (by kernel_rfl) (by kernel_rfl) ?_
    rintro ⟨xs_4, i_5, i_6⟩ _ y_100 ⟨hn_98, ho_97⟩ h
    rw [laws_markChoiceS.l_7] at h
    refine jc_seq ?_
    refine jc_seq ?_
    refine jc_region ?_
    refine jo_f [(0, 0), (0, 0), (0, 0), (0, 0)] (by kernel_rfl) ?_
    refine jo_end (by kernel_rfl) ?_
    refine jx_then ?_
    refine jc_cond (decide (i_6 < (a0.length : Int))) (by kernel_rfl) (fun hc_102 => ?_) (fun hc_102 => ?_)
    · replace h := ifT hc_102 h
      refine jc_skip ?_
      refine jx_then ?_
      refine jc_seq ?_
      refine jc_block ?_
      refine jc_seq ?_
      refine jc_region ?_
      refine jo_f [(0, 0), (0, 0), (0, 0), (0, 0), (0, 0)] (by kernel_rfl) ?_
      obtain ⟨x_9, hx_103, h⟩ := bd h
      refine toO (by kernel_rfl) (p_idx 0 (a0_o.map fun b => ⟨b, 0, none⟩) a0.length i_6 4 (by kernel_rfl) (by kernel_rfl) (ix_some hx_103).1 (ltn hx_103 hn_98) (spo ho_97 hx_103) (jkO ?_))
      refine jo_f [(0, 0)] (by kernel_rfl) ?_
      refine toO (by kernel_rfl) (p_strO 0 0 a0_o 130 encGChoice xs_4 a0_sp i_6 (⟨((Int.tmod i_5 3) == 0), x_9.fLate, x_9.fOctave, x_9.fTrack⟩ : GChoice) 4 0 [(.bool ((Int.tmod i_5 3) == 0))] (by kernel_rfl) (by kernel_rfl) (by kernel_rfl) (fun e => (ho_97 e).1) encGChoice_len hx_103 (by kernel_rfl) (by kernel_rfl) (jkO ?_))
      refine jo_end (by kernel_rfl) ?_
      refine jx_then ?_
      refine jc_seq ?_
      refine jc_region ?_
      refine jo_f [(0, 0), (0, 0), (0, 0)] (by kernel_rfl) ?_
      refine jo_end (by kernel_rfl) ?_
      refine jx_then ?_
      refine jc_seq ?_
      refine jc_region ?_
      refine jo_f [(0, 0), (0, 0), (0, 0), (0, 0)] (by kernel_rfl) ?_
      obtain ⟨x_10, hx_104, h⟩ := bd h
      refine toO (by kernel_rfl) (p_idx 0 (a0_o.map fun b => ⟨b, 0, none⟩) a0.length i_6 4 (by kernel_rfl) (by kernel_rfl) (ix_some hx_104).1 (ltn hx_104 (List.length_set.trans hn_98)) (spo (set_ho ho_97) hx_104) (jkO ?_))
      refine jo_f [(0, 0)] (by kernel_rfl) ?_
      refine toO (by kernel_rfl) (p_strO 0 0 a0_o 130 encGChoice (xs_4.set i_6.toNat (⟨((Int.tmod i_5 3) == 0), x_9.fLate, x_9.fOctave, x_9.fTrack⟩ : GChoice)) a0_sp i_6 (⟨x_10.fAway, (w8 (w64 (i_5 + 1))), x_10.fOctave, x_10.fTrack⟩ : GChoice) 4 1 [(.int .i8 (w8 (w64 (i_5 + 1))))] (by kernel_rfl) (by kernel_rfl) (by kernel_rfl) (fun e => ((set_ho ho_97) e).1) encGChoice_len hx_104 (by kernel_rfl) (by kernel_rfl) (jkO ?_))
      refine jo_end (by kernel_rfl) ?_
      refine jx_then ?_
      refine jc_seq ?_
      refine jc_region ?_
      refine jo_f [(0, 0), (0, 0), (0, 0)] (by kernel_rfl) ?_
      refine jo_end (by kernel_rfl) ?_
      refine jx_then ?_
      refine jc_seq ?_
      refine jc_region ?_
      refine jo_f [(0, 0), (0, 0), (0, 0), (0, 0)] (by kernel_rfl) ?_
      obtain ⟨x_11, hx_105, h⟩ := bd h
      refine toO (by kernel_rfl) (p_idx 0 (a0_o.map fun b => ⟨b, 0, none⟩) a0.length i_6 4 (by kernel_rfl) (by kernel_rfl) (ix_some hx_105).1 (ltn hx_105 (List.length_set.trans (List.length_set.trans hn_98))) (spo (set_ho (set_ho ho_97)) hx_105) (jkO ?_))
      refine jo_f [(0, 0)] (by kernel_rfl) ?_
      refine toO (by kernel_rfl) (p_strO 0 0 a0_o 130 encGChoice ((xs_4.set i_6.toNat (⟨((Int.tmod i_5 3) == 0), x_9.fLate, x_9.fOctave, x_9.fTrack⟩ : GChoice)).set i_6.toNat (⟨x_10.fAway, (w8 (w64 (i_5 + 1))), x_10.fOctave, x_10.fTrack⟩ : GChoice)) a0_sp i_6 (⟨x_11.fAway, x_11.fLate, (w8 (w64 ((w64 (i_5 + 1)) + 1))), x_11.fTrack⟩ : GChoice) 4 2 [(.int .i8 (w8 (w64 ((w64 (i_5 + 1)) + 1))))] (by kernel_rfl) (by kernel_rfl) (by kernel_rfl) (fun e => ((set_ho (set_ho ho_97)) e).1) encGChoice_len hx_105 (by kernel_rfl) (by kernel_rfl) (jkO ?_))
      refine jo_end (by kernel_rfl) ?_
      refine jx_then ?_
      refine jc_seq ?_
      refine jc_region ?_
      refine jo_f [(0, 0), (0, 0), (0, 0)] (by kernel_rfl) ?_
      refine jo_end (by kernel_rfl) ?_
      refine jx_then ?_
      refine jc_seq ?_
      refine jc_region ?_
      refine jo_f [(0, 0), (0, 0), (0, 0), (0, 0)] (by kernel_rfl) ?_
      obtain ⟨x_12, hx_106, h⟩ := bd h
      refine toO (by kernel_rfl) (p_idx 0 (a0_o.map fun b => ⟨b, 0, none⟩) a0.length i_6 4 (by kernel_rfl) (by kernel_rfl) (ix_some hx_106).1 (ltn hx_106 (List.length_set.trans (List.length_set.trans (List.length_set.trans hn_98)))) (spo (set_ho (set_ho (set_ho ho_97))) hx_106) (jkO ?_))
      refine jo_f [(0, 0)] (by kernel_rfl) ?_
      refine toO (by kernel_rfl) (p_strO 0 0 a0_o 130 encGChoice (((xs_4.set i_6.toNat (⟨((Int.tmod i_5 3) == 0), x_9.fLate, x_9.fOctave, x_9.fTrack⟩ : GChoice)).set i_6.toNat (⟨x_10.fAway, (w8 (w64 (i_5 + 1))), x_10.fOctave, x_10.fTrack⟩ : GChoice)).set i_6.toNat (⟨x_11.fAway, x_11.fLate, (w8 (w64 ((w64 (i_5 + 1)) + 1))), x_11.fTrack⟩ : GChoice)) a0_sp i_6 (⟨x_12.fAway, x_12.fLate, x_12.fOctave, (w8 (w64 ((w64 ((w64 (i_5 + 1)) + 1)) + 1)))⟩ : GChoice) 4 3 [(.int .i8 (w8 (w64 ((w64 ((w64 (i_5 + 1)) + 1)) + 1))))] (by kernel_rfl) (by kernel_rfl) (by kernel_rfl) (fun e => ((set_ho (set_ho (set_ho ho_97))) e).1) encGChoice_len hx_106 (by kernel_rfl) (by kernel_rfl) (jkO ?_))
      refine jo_end (by kernel_rfl) ?_
      refine jx_then ?_
      refine jc_region ?_
      refine jo_f [(0, 0), (0, 0), (0, 0)] (by kernel_rfl) ?_
      refine jo_end (by kernel_rfl) ?_
      refine jx_inn ?_
      refine jx_then ?_
      refine jc_region ?_
      refine jo_f [(0, 0), (0, 0), (0, 0)] (by kernel_rfl) ?_
      refine jo_end (by kernel_rfl) ?_
      exact jx_back (((((xs_4.set i_6.toNat (⟨((Int.tmod i_5 3) == 0), x_9.fLate, x_9.fOctave, x_9.fTrack⟩ : GChoice)).set i_6.toNat (⟨x_10.fAway, (w8 (w64 (i_5 + 1))), x_10.fOctave, x_10.fTrack⟩ : GChoice)).set i_6.toNat (⟨x_11.fAway, x_11.fLate, (w8 (w64 ((w64 (i_5 + 1)) + 1))), x_11.fTrack⟩ : GChoice)).set i_6.toNat (⟨x_12.fAway, x_12.fLate, x_12.fOctave, (w8 (w64 ((w64 ((w64 (i_5 + 1)) + 1)) + 1)))⟩ : GChoice)), (w64 ((w64 ((w64 ((w64 (i_5 + 1)) + 1)) + 1)) + 1)), (w64 (i_6 + 1))) () (Option.some.inj h).symm ⟨(List.length_set.trans (List.length_set.trans (List.length_set.trans (List.length_set.trans hn_98)))), (set_ho (set_ho (set_ho (set_ho ho_97))))⟩ [0] (by kernel_rfl) (by kernel_rfl) (by kernel_rfl)
    · replace h := ifF hc_102 h
      refine jc_exit ?_
      refine jx_thenx ?_
      refine jx_leave (xs_4, i_5) (Option.some.inj h).symm (fun e_107 => ?_)
      subst e_107
      refine jx_ine ?_
      exact jx_meet ⟨xs_4, i_5⟩ ⟨hr_99, hn_98, ho_97⟩ (by kernel_rfl) [0] (by kernel_rfl) (by kernel_rfl)
  · rintro ⟨xs_1, i_2⟩ ⟨h, hn_82, ho_81⟩
    replace h : laws_markChoiceS.k_3 xs_1 i_2 = some r := h
    rw [laws_markChoiceS.k_3] at h
    refine jx_then ?_
    refine jc_seq ?_
    refine jc_region ?_
    refine jo_f [(0, 0), (0, 0)] (by kernel_rfl) ?_
    refine jo_end (by kernel_rfl) ?_
    refine jx_then ?_
    refine jc_ret ?_
    obtain rfl := Option.some.inj h
    exact jx_ret [] (.int .i64 i_2) [] rfl (by kernel_rfl) (by kernel_rfl) (fun w hm => ⟨hn_82, ho_81, rfl, hm.pick [0] (by kernel_rfl) (by kernel_rfl)⟩)

/-! ### laws.heldChoiceS -/
noncomputable def laws_heldChoiceS.k_2 (i_1 : Int) : Option (Int) := some i_1
noncomputable def laws_heldChoiceS.l_5 (a0 : List GChoice) : (Int × Int) → Option ((Int × Int) ⊕ (Int ⊕ Int))
  | (i_3, i_4) => (if (decide (i_4 < (a0.length : Int))) = true then (ix a0 i_4).bind fun x_7 => (if (x_7.fAway != ((Int.tmod i_3 3) == 0)) = true then some (.inr (.inl (-1))) else (ix a0 i_4).bind fun x_8 => (if (x_8.fLate != (w8 (w64 (i_3 + 1)))) = true then some (.inr (.inl (-1))) else (ix a0 i_4).bind fun x_9 => (if (x_9.fOctave != (w8 (w64 ((w64 (i_3 + 1)) + 1)))) = true then some (.inr (.inl (-1))) else (ix a0 i_4).bind fun x_10 => (if (x_10.fTrack != (w8 (w64 ((w64 ((w64 (i_3 + 1)) + 1)) + 1)))) = true then some (.inr (.inl (-1))) else some (.inl ((w64 ((w64 ((w64 ((w64 (i_3 + 1)) + 1)) + 1)) + 1)), (w64 (i_4 + 1)))))))) else some (.inr (.inr i_3)))
noncomputable def laws_heldChoiceS (a0 : List GChoice) (k1 : Int) : Option (Int) := (loop (laws_heldChoiceS.l_5 a0) (k1, 0)).bind fun t_6 => match t_6 with | .inl p => some p | .inr p => laws_heldChoiceS.k_2 p
set_option maxRecDepth 100000 in
theorem laws_heldChoiceS.calls (a0 : List GChoice) (k1 : Int) (w : World) (r : Int) (a0_a : Option Addr) (a0_an : Nat) (a0_c : Nat) (a0_h : Rw w a0_a 4 encGChoice a0) (a0_hn : a0.length = a0_an) (h : laws_heldChoiceS a0 k1 = some r) :
    Calls Try.prog 48 #[(.slice a0_a a0_an a0_c), (.int .i64 k1)] w fun e w' => ∃ v, e = .returned v ∧ (v = (.int .i64 r) ∧ Mem w [] [] w') := by
  subst a0_hn
  rw [laws_heldChoiceS] at h
  refine enter (args := [(.slice a0_a a0.length a0_c), (.int .i64 k1)]) Try.func48 rfl Try.ntmps48 (by kernel_rfl) (L := []) (W := []) (Mem.start w) ?_
  refine jc_seq ?_
  refine jc_region ?_
  refine jo_f [(0, 0)] (by kernel_rfl) ?_
  refine jo_end (by kernel_rfl) ?_
  refine jx_then ?_
  refine jc_seq ?_
  refine jc_seq ?_
  refine jc_region ?_
  refine jo_f [(0, 0)] (by kernel_rfl) ?_
  refine jo_end (by kernel_rfl) ?_
  refine jx_then ?_
  refine jc_meet (fun (j : Int) => match j with | i_1 => laws_heldChoiceS.k_2 i_1 = some r) (fun (j : Int) => match j with | i_1 => [(1, [], (.int .i64 i_1)), (4, [], (.int .i64 0))]) (fun (j : Int) => match j with | i_1 => []) ?_ ?_
  · refine jc_block ?_
    obtain ⟨t_6, ht_224, hr_201⟩ := bd h
    refine jc_loop (fun (s : Int × Int) (x : Unit) => match s, x with | ⟨i_3, i_4⟩, _ => True) (fun (s : Int × Int) (x : Unit) => match s, x with | ⟨i_3, i_4⟩, _ => [(0, [], (.slice a0_a a0.length a0_c)), (1, [], (.int .i64 i_3)), (4, [], (.int .i64 0)), (5, [], (.int .i64 i_4))]) (fun (s : Int × Int) (x : Unit) => match s, x with | ⟨i_3, i_4⟩, _ => []) ht_224 () trivial (by kernel_rfl) [] (by kernel_rfl) (by kernel_rfl) ?_
    rintro ⟨i_3, i_4⟩ _ y_202 _ h
    rw [laws_heldChoiceS.l_5] at h
    refine jc_seq ?_
    refine jc_seq ?_
    refine jc_region ?_
    refine jo_f [(0, 0), (0, 0), (0, 0), (0, 0)] (by kernel_rfl) ?_
    refine jo_end (by kernel_rfl) ?_
    refine jx_then ?_
    refine jc_cond (decide (i_4 < (a0.length : Int))) (by kernel_rfl) (fun hc_204 => ?_) (fun hc_204 => ?_)
    · replace h := ifT hc_204 h
      refine jc_skip ?_
      refine jx_then ?_
      refine jc_seq ?_
      refine jc_block ?_
      refine jc_seq ?_
      refine jc_seq ?_
      refine jc_region ?_
      refine jo_f [(0, 0), (0, 0)] (by kernel_rfl) ?_
      obtain ⟨x_7, hx_207, h⟩ := bd h
      refine toO (by kernel_rfl) (p_idx 0 a0_a a0.length i_4 4 (by kernel_rfl) (by kernel_rfl) (ix_some hx_207).1 (ltn hx_207 rfl) (a0_h.sp hx_207) (jkO ?_))
      refine jo_f [(0, 0)] (by kernel_rfl) ?_
      refine toO (by kernel_rfl) (p_ld 0 (aB a0_a) (aO a0_a + i_4.toNat * 4) false (((encGChoice x_7).drop 0).take 1) (by kernel_rfl) (by kernel_rfl) (by kernel_rfl) (fun w hm => (((hm.exRow a0_h List.not_mem_nil).at hx_207).sub 0 1)) (jkO ?_))
      refine jo_f [(0, 0), (0, 0), (0, 0), (0, 0)] (by kernel_rfl) ?_
      refine jo_end (by kernel_rfl) ?_
      refine jx_then ?_
      refine jc_cond (x_7.fAway != ((Int.tmod i_3 3) == 0)) (by kernel_rfl) (fun hc_208 => ?_) (fun hc_208 => ?_)
      · replace h := ifT hc_208 h
        refine jc_seq ?_
        refine jc_region ?_
        refine jo_f [(0, 0)] (by kernel_rfl) ?_
        refine jo_end (by kernel_rfl) ?_
        refine jx_then ?_
        refine jc_ret ?_
        refine jx_thenr ?_
        refine jx_inr ?_
        refine jx_thenr ?_
        refine jx_leaver (.inl (-1)) (Option.some.inj h).symm (fun e_209 => ?_)
        subst e_209
        refine jx_inr ?_
        refine jx_thenr ?_
        refine jx_thenr ?_
        obtain rfl := Option.some.inj hr_201
        exact jx_ret [] (.int .i64 (-1)) [] rfl (by kernel_rfl) (by kernel_rfl) (fun w hm => ⟨rfl, hm.pick [] (by kernel_rfl) (by kernel_rfl)⟩)
      · replace h := ifF hc_208 h
        refine jc_skip ?_
        refine jx_then ?_
        refine jc_seq ?_
        refine jc_region ?_
        refine jo_f [(0, 0), (0, 0), (0, 0)] (by kernel_rfl) ?_
        refine jo_end (by kernel_rfl) ?_
        refine jx_then ?_
        refine jc_seq ?_
        refine jc_seq ?_
        refine jc_region ?_
        refine jo_f [(0, 0), (0, 0)] (by kernel_rfl) ?_
        obtain ⟨x_8, hx_212, h⟩ := bd h
        refine toO (by kernel_rfl) (p_idx 0 a0_a a0.length i_4 4 (by kernel_rfl) (by kernel_rfl) (ix_some hx_212).1 (ltn hx_212 rfl) (a0_h.sp hx_212) (jkO ?_))
        refine jo_f [(0, 0)] (by kernel_rfl) ?_
        refine toO (by kernel_rfl) (p_ld 0 (aB a0_a) (aO a0_a + i_4.toNat * 4 + 1) false (((encGChoice x_8).drop 1).take 1) (by kernel_rfl) (by kernel_rfl) (by kernel_rfl) (fun w hm => (((hm.exRow a0_h List.not_mem_nil).at hx_212).sub 1 1)) (jkO ?_))
        refine jo_f [(0, 0), (0, 0), (0, 0)] (by kernel_rfl) ?_
        refine jo_end (by kernel_rfl) ?_
        refine jx_then ?_
        refine jc_cond (x_8.fLate != (w8 (w64 (i_3 + 1)))) (by kernel_rfl) (fun hc_213 => ?_) (fun hc_213 => ?_)
        · replace h := ifT hc_213 h
          refine jc_seq ?_
          refine jc_region ?_
          refine jo_f [(0, 0)] (by kernel_rfl) ?_
          refine jo_end (by kernel_rfl) ?_
          refine jx_then ?_
          refine jc_ret ?_
          refine jx_thenr ?_
          refine jx_inr ?_
          refine jx_thenr ?_
          refine jx_leaver (.inl (-1)) (Option.some.inj h).symm (fun e_214 => ?_)
          subst e_214
          refine jx_inr ?_
          refine jx_thenr ?_
          refine jx_thenr ?_
          obtain rfl := Option.some.inj hr_201
          exact jx_ret [] (.int .i64 (-1)) [] rfl (by kernel_rfl) (by kernel_rfl) (fun w hm => ⟨rfl, hm.pick [] (by kernel_rfl) (by kernel_rfl)⟩)
        · replace h := ifF hc_213 h
          refine jc_skip ?_
          refine jx_then ?_
          refine jc_seq ?_
          refine jc_region ?_
          refine jo_f [(0, 0), (0, 0), (0, 0)] (by kernel_rfl) ?_
          refine jo_end (by kernel_rfl) ?_
          refine jx_then ?_
          refine jc_seq ?_
          refine jc_seq ?_
          refine jc_region ?_
          refine jo_f [(0, 0), (0, 0)] (by kernel_rfl) ?_
          obtain ⟨x_9, hx_217, h⟩ := bd h
          refine toO (by kernel_rfl) (p_idx 0 a0_a a0.length i_4 4 (by kernel_rfl) (by kernel_rfl) (ix_some hx_217).1 (ltn hx_217 rfl) (a0_h.sp hx_217) (jkO ?_))
          refine jo_f [(0, 0)] (by kernel_rfl) ?_
          refine toO (by kernel_rfl) (p_ld 0 (aB a0_a) (aO a0_a + i_4.toNat * 4 + 2) false (((encGChoice x_9).drop 2).take 1) (by kernel_rfl) (by kernel_rfl) (by kernel_rfl) (fun w hm => (((hm.exRow a0_h List.not_mem_nil).at hx_217).sub 2 1)) (jkO ?_))
          refine jo_f [(0, 0), (0, 0), (0, 0)] (by kernel_rfl) ?_
          refine jo_end (by kernel_rfl) ?_
          refine jx_then ?_
          refine jc_cond (x_9.fOctave != (w8 (w64 ((w64 (i_3 + 1)) + 1)))) (by kernel_rfl) (fun hc_218 => ?_) (fun hc_218 => ?_)
          · replace h := ifT hc_218 h
            refine jc_seq ?_
            refine jc_region ?_
            refine jo_f [(0, 0)] (by kernel_rfl) ?_
            refine jo_end (by kernel_rfl) ?_
            refine jx_then ?_
            refine jc_ret ?_
            refine jx_thenr ?_
            refine jx_inr ?_
            refine jx_thenr ?_
            refine jx_leaver (.inl (-1)) (Option.some.inj h).symm (fun e_219 => ?_)
            subst e_219
            refine jx_inr ?_
            refine jx_thenr ?_
            refine jx_thenr ?_
            obtain rfl := Option.some.inj hr_201
            exact jx_ret [] (.int .i64 (-1)) [] rfl (by kernel_rfl) (by kernel_rfl) (fun w hm => ⟨rfl, hm.pick [] (by kernel_rfl) (by kernel_rfl)⟩)
          · replace h := ifF hc_218 h
            refine jc_skip ?_
            refine jx_then ?_
            refine jc_seq ?_
            refine jc_region ?_
            refine jo_f [(0, 0), (0, 0), (0, 0)] (by kernel_rfl) ?_
            refine jo_end (by kernel_rfl) ?_
            refine jx_then ?_
            refine jc_seq ?_
            refine jc_seq ?_
            refine jc_region ?_
            refine jo_f [(0, 0), (0, 0)] (by kernel_rfl) ?_
            obtain ⟨x_10, hx_220, h⟩ := bd h
            refine toO (by kernel_rfl) (p_idx 0 a0_a a0.length i_4 4 (by kernel_rfl) (by kernel_rfl) (ix_some hx_220).1 (ltn hx_220 rfl) (a0_h.sp hx_220) (jkO ?_))
            refine jo_f [(0, 0)] (by kernel_rfl) ?_
            refine toO (by kernel_rfl) (p_ld 0 (aB a0_a) (aO a0_a + i_4.toNat * 4 + 3) false (((encGChoice x_10).drop 3).take 1) (by kernel_rfl) (by kernel_rfl) (by kernel_rfl) (fun w hm => (((hm.exRow a0_h List.not_mem_nil).at hx_220).sub 3 1)) (jkO ?_))
            refine jo_f [(0, 0), (0, 0), (0, 0)] (by kernel_rfl) ?_
            refine jo_end (by kernel_rfl) ?_
            refine jx_then ?_
            refine jc_cond (x_10.fTrack != (w8 (w64 ((w64 ((w64 (i_3 + 1)) + 1)) + 1)))) (by kernel_rfl) (fun hc_221 => ?_) (fun hc_221 => ?_)
            · replace h := ifT hc_221 h
              refine jc_seq ?_
              refine jc_region ?_
              refine jo_f [(0, 0)] (by kernel_rfl) ?_
              refine jo_end (by kernel_rfl) ?_
              refine jx_then ?_
              refine jc_ret ?_
              refine jx_thenr ?_
              refine jx_inr ?_
              refine jx_thenr ?_
              refine jx_leaver (.inl (-1)) (Option.some.inj h).symm (fun e_222 => ?_)
              subst e_222
              refine jx_inr ?_
              refine jx_thenr ?_
              refine jx_thenr ?_
              obtain rfl := Option.some.inj hr_201
              exact jx_ret [] (.int .i64 (-1)) [] rfl (by kernel_rfl) (by kernel_rfl) (fun w hm => ⟨rfl, hm.pick [] (by kernel_rfl) (by kernel_rfl)⟩)
            · replace h := ifF hc_221 h
              refine jc_skip ?_
              refine jx_then ?_
              refine jc_region ?_
              refine jo_f [(0, 0), (0, 0), (0, 0)] (by kernel_rfl) ?_
              refine jo_end (by kernel_rfl) ?_
              refine jx_inn ?_
              refine jx_then ?_
              refine jc_region ?_
              refine jo_f [(0, 0), (0, 0), (0, 0)] (by kernel_rfl) ?_
              refine jo_end (by kernel_rfl) ?_
              exact jx_back ((w64 ((w64 ((w64 ((w64 (i_3 + 1)) + 1)) + 1)) + 1)), (w64 (i_4 + 1))) () (Option.some.inj h).symm trivial [] (by kernel_rfl) (by kernel_rfl) (by kernel_rfl)
    · replace h := ifF hc_204 h
      refine jc_exit ?_
      refine jx_thenx ?_
      refine jx_leave (.inr i_3) (Option.some.inj h).symm (fun e_223 => ?_)
      subst e_223
      refine jx_ine ?_
      exact jx_meet i_3 hr_201 (by kernel_rfl) [] (by kernel_rfl) (by kernel_rfl)
  · rintro i_1 h
    replace h : laws_heldChoiceS.k_2 i_1 = some r := h
    rw [laws_heldChoiceS.k_2] at h
    refine jx_then ?_
    refine jc_seq ?_
    refine jc_region ?_
    refine jo_f [(0, 0), (0, 0)] (by kernel_rfl) ?_
    refine jo_end (by kernel_rfl) ?_
    refine jx_then ?_
    refine jc_ret ?_
    obtain rfl := Option.some.inj h
    exact jx_ret [] (.int .i64 i_1) [] rfl (by kernel_rfl) (by kernel_rfl) (fun w hm => ⟨rfl, hm.pick [] (by kernel_rfl) (by kernel_rfl)⟩)

/-! ### laws.FnExactGreedy -/
noncomputable def laws_FnExactGreedy.k_19 (aF0 : GFrame) (aT1 : List GNote) (aC2 : GCosts) (t_6 : (List GChoice) × Int) (t_10 : (List GChoice) × Int) (q_18 : Bool) : Option (Bool) := (if q_18 = true then some false else (laws_markChoiceS t_10.1 1).bind fun t_20 => (laws_heldChoiceS t_20.2 1).bind fun t_21 => (if (decide (t_21 < 0)) = true then some false else (if (t_21 != t_20.1) = true then some false else (laws_toFrame aF0).bind fun t_22 => (laws_toTune aT1).bind fun t_23 => (laws_toCosts aC2).bind fun t_24 => (impl_Greedy t_22 t_23 t_24).bind fun t_25 => (laws_eqChoiceS t_25.1 t_6.1).bind fun t_26 => (if ((!t_26) || (t_25.2 != t_6.2)) = true then some false else (laws_heldChoiceS t_20.2 1).bind fun t_27 => (if (decide (t_27 < 0)) = true then some false else (if (t_27 != t_20.1) = true then some false else some true))))))
noncomputable def laws_FnExactGreedy (aF0 : GFrame) (aT1 : List GNote) (aC2 : GCosts) : Option (Bool) := (laws_szFrame aF0 1048576).bind fun t_1 => (if (decide (t_1 < 0)) = true then some true else (laws_szTune aT1 t_1).bind fun t_2 => (if (decide (t_2 < 0)) = true then some true else (laws_toFrame aF0).bind fun t_3 => (laws_toTune aT1).bind fun t_4 => (laws_toCosts aC2).bind fun t_5 => (spec_Greedy t_3 t_4 t_5).bind fun t_6 => (laws_toFrame aF0).bind fun t_7 => (laws_toTune aT1).bind fun t_8 => (laws_toCosts aC2).bind fun t_9 => (impl_Greedy t_7 t_8 t_9).bind fun t_10 => (laws_eqChoiceS t_10.1 t_6.1).bind fun t_11 => (if ((!t_11) || (t_10.2 != t_6.2)) = true then some false else (laws_toFrame aF0).bind fun t_12 => (laws_eqFrame t_7 t_12).bind fun t_13 => (if (!t_13) = true then some false else (laws_toTune aT1).bind fun t_14 => (laws_eqTune t_8 t_14).bind fun t_15 => (if (!t_15) = true then some false else (laws_markFrame t_7 1).bind fun t_16 => (laws_markTune t_8 t_16.1).bind fun t_17 => (if (decide (t_17.1 < 0)) = true then laws_FnExactGreedy.k_19 aF0 aT1 aC2 t_6 t_10 true else (laws_eqChoiceS t_10.1 t_6.1).bind fun t_28 => laws_FnExactGreedy.k_19 aF0 aT1 aC2 t_6 t_10 ((!t_28) || (t_10.2 != t_6.2))))))))
set_option maxRecDepth 100000 in
set_option maxHeartbeats 8000000 in
theorem laws_FnExactGreedy.calls (aF0 : GFrame) (aT1 : List GNote) (aC2 : GCosts) (w : World) (r : Bool) (aF0_fHammers_a : Option Addr) (aF0_fHammers_an : Nat) (aF0_fHammers_c : Nat) (aF0_fHammers_h : Rw w aF0_fHammers_a 2 encGHammer aF0.fHammers) (aF0_fHammers_hn : aF0.fHammers.length = aF0_fHammers_an) (aT1_a : Option Addr) (aT1_an : Nat) (aT1_c : Nat) (aT1_h : Rw w aT1_a 2 encGNote aT1) (aT1_hn : aT1.length = aT1_an) (h : laws_FnExactGreedy aF0 aT1 aC2 = some r) :
    Calls Try.prog 9 #[(.agg #[(.int .i16 aF0.fSteps), (.slice aF0_fHammers_a aF0_fHammers_an aF0_fHammers_c)]), (.slice aT1_a aT1_an aT1_c), (.agg #[(.int .i16 aC2.fAway), (.int .i16 aC2.fOctave), (.int .i16 aC2.fStep)])] w fun e w' => ∃ v, e = .returned v ∧ (v = (.bool r) ∧ Mem w [] [] w') := by
  subst aF0_fHammers_hn aT1_hn
  rw [laws_FnExactGreedy] at h
  refine enter (args := [(.agg #[(.int .i16 aF0.fSteps), (.slice aF0_fHammers_a aF0.fHammers.length aF0_fHammers_c)]), (.slice aT1_a aT1.length aT1_c), (.agg #[(.int .i16 aC2.fAway), (.int .i16 aC2.fOctave), (.int .i16 aC2.fStep)])]) Try.func9 rfl Try.ntmps9 (by kernel_rfl) (L := []) (W := []) (Mem.start w) ?_
  refine jc_seq ?_
  refine jc_region ?_
  refine toO (by kernel_rfl) (p_a 0 [0] (by kernel_rfl) (fun b => by kernel_rfl) (fun b_1 => jkO ?_))
  refine toO (by kernel_rfl) (p_a 0 [0] (by kernel_rfl) (fun b => by kernel_rfl) (fun b_2 => jkO ?_))
  refine jo_f [(0, 0)] (by kernel_rfl) ?_
  refine jo_end (by kernel_rfl) ?_
  refine jx_then ?_
  refine jc_seq ?_
  refine jc_region ?_
  refine jo_f [(0, 0)] (by kernel_rfl) ?_
  refine jo_end (by kernel_rfl) ?_
  refine jx_then ?_
  refine jc_seq ?_
  refine jc_region ?_
  refine jo_f [(0, 0), (0, 0)] (by kernel_rfl) ?_
  obtain ⟨t_1, ht_3, h⟩ := bd h
  refine toO (by kernel_rfl) (p_call 0 13 #[(.agg #[(.int .i16 aF0.fSteps), (.slice aF0_fHammers_a aF0.fHammers.length aF0_fHammers_c)]), (.int .i64 1048576)] (by kernel_rfl) (by kernel_rfl) (fun w hm => laws_szFrame.calls aF0 1048576 w _ aF0_fHammers_a aF0.fHammers.length aF0_fHammers_c (hm.exRow aF0_fHammers_h List.not_mem_nil) rfl ht_3) ?_)
  rintro w v w' hm ⟨rfl, hm'⟩
  refine ⟨_, hm.app hm', jkO ?_⟩
  clear hm hm'
  refine jo_f [(0, 0)] (by kernel_rfl) ?_
  refine jo_end (by kernel_rfl) ?_
  refine jx_then ?_
  refine jc_seq ?_
  refine jc_seq ?_
  refine jc_region ?_
  refine jo_f [(0, 0), (0, 0)] (by kernel_rfl) ?_
  refine jo_end (by kernel_rfl) ?_
  refine jx_then ?_
  refine jc_cond (decide (t_1 < 0)) (by kernel_rfl) (fun hc_5 => ?_) (fun hc_5 => ?_)
  · replace h := ifT hc_5 h
    refine jc_seq ?_
    refine jc_region ?_
    refine jo_f [(0, 0)] (by kernel_rfl) ?_
    refine jo_end (by kernel_rfl) ?_
    refine jx_then ?_
    refine jc_ret ?_
    refine jx_thenr ?_
    obtain rfl := Option.some.inj h
    exact jx_ret [] (.bool true) [] rfl (by kernel_rfl) (by kernel_rfl) (fun w hm => ⟨rfl, hm.pick [] (by kernel_rfl) (by kernel_rfl)⟩)
  · replace h := ifF hc_5 h
    refine jc_skip ?_
    refine jx_then ?_
    refine jc_seq ?_
    refine jc_region ?_
    refine jo_f [(0, 0), (0, 0)] (by kernel_rfl) ?_
    obtain ⟨t_2, ht_6, h⟩ := bd h
    refine toO (by kernel_rfl) (p_call 0 22 #[(.slice aT1_a aT1.length aT1_c), (.int .i64 t_1)] (by kernel_rfl) (by kernel_rfl) (fun w hm => laws_szTune.calls aT1 t_1 w _ aT1_a aT1.length aT1_c (hm.exRow aT1_h List.not_mem_nil) rfl ht_6) ?_)
    rintro w v w' hm ⟨rfl, hm'⟩
    refine ⟨_, hm.app hm', jkO ?_⟩
    clear hm hm'
    refine jo_f [(0, 0)] (by kernel_rfl) ?_
    refine jo_end (by kernel_rfl) ?_
    refine jx_then ?_
    refine jc_seq ?_
    refine jc_seq ?_
    refine jc_region ?_
    refine jo_f [(0, 0), (0, 0)] (by kernel_rfl) ?_
    refine jo_end (by kernel_rfl) ?_
    refine jx_then ?_
    refine jc_cond (decide (t_2 < 0)) (by kernel_rfl) (fun hc_8 => ?_) (fun hc_8 => ?_)
    · replace h := ifT hc_8 h
      refine jc_seq ?_
      refine jc_region ?_
      refine jo_f [(0, 0)] (by kernel_rfl) ?_
      refine jo_end (by kernel_rfl) ?_
      refine jx_then ?_
      refine jc_ret ?_
      refine jx_thenr ?_
      obtain rfl := Option.some.inj h
      exact jx_ret [] (.bool true) [] rfl (by kernel_rfl) (by kernel_rfl) (fun w hm => ⟨rfl, hm.pick [] (by kernel_rfl) (by kernel_rfl)⟩)
    · replace h := ifF hc_8 h
      refine jc_skip ?_
      refine jx_then ?_
      refine jc_seq ?_
      refine jc_draw [⟨some b_1, 25, [(.int .i16 aF0.fSteps), (.slice aF0_fHammers_a aF0.fHammers.length aF0_fHammers_c)]⟩, ⟨some b_2, 79, [(.int .i16 aC2.fAway), (.int .i16 aC2.fOctave), (.int .i16 aC2.fStep)]⟩] 12 (by kernel_rfl) (by kernel_rfl) ?_
      refine jd_f [⟨0, 0, 0⟩, ⟨2, 0, 0⟩, ⟨4, 1, 0⟩] 9 (by kernel_rfl) (by kernel_rfl) (fun w h => h.pick [0, 1] (by kernel_rfl) (by kernel_rfl)) (by kernel_rfl) (by kernel_rfl) ?_
      obtain ⟨t_3, ht_28, h⟩ := bd h
      refine toD 1 (by kernel_rfl) (p_call 0 16 #[(.agg #[(.int .i16 aF0.fSteps), (.slice aF0_fHammers_a aF0.fHammers.length aF0_fHammers_c)])] (by kernel_rfl) (by kernel_rfl) (fun w hm => laws_toFrame.calls aF0 w _ aF0_fHammers_a aF0.fHammers.length aF0_fHammers_c (hm.exRow aF0_fHammers_h List.not_mem_nil) rfl ht_28) ?_)
      rintro w v w' hm ⟨o_29, cap_30, sp_31, _, rfl, hs_32, ho_33, rfl, hm'⟩
      refine ⟨_, hm.app hm', jkD (fun w h => h.pick [0, 1] (by kernel_rfl) (by kernel_rfl)) ?_⟩
      clear hm hm'
      obtain ⟨t_4, ht_34, h⟩ := bd h
      refine toD 3 (by kernel_rfl) (p_call 0 25 #[(.slice aT1_a aT1.length aT1_c)] (by kernel_rfl) (by kernel_rfl) (fun w hm => laws_toTune.calls aT1 w _ aT1_a aT1.length aT1_c (hm.exRow aT1_h List.not_mem_nil) rfl ht_34) ?_)
      rintro w v w' hm ⟨o_35, cap_36, sp_37, _, rfl, hs_38, ho_39, rfl, hm'⟩
      refine ⟨_, hm.app hm', jkD (fun w h => h.pick [0, 1] (by kernel_rfl) (by kernel_rfl)) ?_⟩
      clear hm hm'
      obtain ⟨t_5, ht_40, h⟩ := bd h
      refine toD 5 (by kernel_rfl) (p_call 0 43 #[(.agg #[(.int .i16 aC2.fAway), (.int .i16 aC2.fOctave), (.int .i16 aC2.fStep)])] (by kernel_rfl) (by kernel_rfl) (fun w hm => laws_toCosts.calls aC2 w _ ht_40) ?_)
      rintro w v w' hm ⟨rfl, hm'⟩
      refine ⟨_, hm.app hm', jkD (fun w h => h.pick [0, 1] (by kernel_rfl) (by kernel_rfl)) ?_⟩
      clear hm hm'
      obtain ⟨t_6, ht_41, h⟩ := bd h
      refine toD 6 (by kernel_rfl) (p_call 0 42 #[(.agg #[(.int .i16 t_3.fSteps), (.slice (o_29.map fun b => ⟨b, 0, none⟩) t_3.fHammers.length cap_30)]), (.slice (o_35.map fun b => ⟨b, 0, none⟩) t_4.length cap_36), (.agg #[(.int .i16 t_5.fAway), (.int .i16 t_5.fOctave), (.int .i16 t_5.fStep)])] (by kernel_rfl) (by kernel_rfl) (fun w hm => spec_Greedy.calls t_3 t_4 t_5 w _ (o_29.map fun b => ⟨b, 0, none⟩) t_3.fHammers.length cap_30 (hm.ownRow (hh := 2) (o := o_29) (T := 178) (enc := encGHammer) (xs := t_3.fHammers) (sp := sp_31) (by kernel_rfl) (fun e => (ho_33 e).1) encGHammer_len) rfl (o_35.map fun b => ⟨b, 0, none⟩) t_4.length cap_36 (hm.ownRow (hh := 3) (o := o_35) (T := 126) (enc := encGNote) (xs := t_4) (sp := sp_37) (by kernel_rfl) (fun e => (ho_39 e).1) encGNote_len) rfl ht_41) ?_)
      rintro w v w' hm ⟨o_42, cap_43, sp_44, _, rfl, hs_45, ho_46, rfl, hm'⟩
      refine ⟨_, hm.app hm', jkD (fun w h => h.pick [0, 1] (by kernel_rfl) (by kernel_rfl)) ?_⟩
      clear hm hm'
      refine jd_f [⟨7, 0, 0⟩, ⟨8, 0, 0⟩, ⟨9, 0, 0⟩, ⟨10, 0, 0⟩, ⟨11, 0, 0⟩] 0 (by kernel_rfl) (by kernel_rfl) (fun w h => h.pick [0, 1] (by kernel_rfl) (by kernel_rfl)) (by kernel_rfl) (by kernel_rfl) ?_
      refine jd_end (by kernel_rfl) ?_
      refine jx_then ?_
      refine jc_seq ?_
      refine jc_region ?_
      refine jo_f [(0, 0)] (by kernel_rfl) ?_
      obtain ⟨t_7, ht_47, h⟩ := bd h
      refine toO (by kernel_rfl) (p_call 0 16 #[(.agg #[(.int .i16 aF0.fSteps), (.slice aF0_fHammers_a aF0.fHammers.length aF0_fHammers_c)])] (by kernel_rfl) (by kernel_rfl) (fun w hm => laws_toFrame.calls aF0 w _ aF0_fHammers_a aF0.fHammers.length aF0_fHammers_c (hm.exRow aF0_fHammers_h List.not_mem_nil) rfl ht_47) ?_)
      rintro w v w' hm ⟨o_48, cap_49, sp_50, _, rfl, hs_51, ho_52, rfl, hm'⟩
      refine ⟨_, hm.app hm', jkO ?_⟩
      clear hm hm'
      refine toO (by kernel_rfl) (p_a 0 [0] (by kernel_rfl) (fun b => by kernel_rfl) (fun b_53 => jkO ?_))
      refine toO (by kernel_rfl) (p_s 0 [6] (by kernel_rfl) (by kernel_rfl) (jkO ?_))
      refine jo_end (by kernel_rfl) ?_
      refine jx_then ?_
      refine jc_seq ?_
      refine jc_region ?_
      refine jo_f [(0, 0)] (by kernel_rfl) ?_
      obtain ⟨t_8, ht_54, h⟩ := bd h
      refine toO (by kernel_rfl) (p_call 0 25 #[(.slice aT1_a aT1.length aT1_c)] (by kernel_rfl) (by kernel_rfl) (fun w hm => laws_toTune.calls aT1 w _ aT1_a aT1.length aT1_c (hm.exRow aT1_h List.not_mem_nil) rfl ht_54) ?_)
      rintro w v w' hm ⟨o_55, cap_56, sp_57, _, rfl, hs_58, ho_59, rfl, hm'⟩
      refine ⟨_, hm.app hm', jkO ?_⟩
      clear hm hm'
      refine jo_f [(0, 0)] (by kernel_rfl) ?_
      refine jo_end (by kernel_rfl) ?_
      refine jx_then ?_
      refine jc_seq ?_
      refine jc_draw [⟨some b_1, 25, [(.int .i16 aF0.fSteps), (.slice aF0_fHammers_a aF0.fHammers.length aF0_fHammers_c)]⟩, ⟨some b_2, 79, [(.int .i16 aC2.fAway), (.int .i16 aC2.fOctave), (.int .i16 aC2.fStep)]⟩, ⟨o_29, 178, row encGHammer t_3.fHammers sp_31⟩, ⟨o_35, 126, row encGNote t_4 sp_37⟩, ⟨o_42, 130, row encGChoice t_6.1 sp_44⟩, ⟨o_48, 178, row encGHammer t_7.fHammers sp_50⟩, ⟨some b_53, 38, [(.int .i16 t_7.fSteps), (.slice (o_48.map fun b => ⟨b, 0, none⟩) t_7.fHammers.length cap_49)]⟩, ⟨o_55, 126, row encGNote t_8 sp_57⟩] 10 (by kernel_rfl) (by kernel_rfl) ?_
      refine jd_f [⟨0, 6, 0⟩, ⟨1, 0, 0⟩, ⟨2, 1, 0⟩] 7 (by kernel_rfl) (by kernel_rfl) (fun w h => h.pick [0, 1, 2, 3, 4, 5, 6, 7] (by kernel_rfl) (by kernel_rfl)) (by kernel_rfl) (by kernel_rfl) ?_
      obtain ⟨t_9, ht_67, h⟩ := bd h
      refine toD 3 (by kernel_rfl) (p_call 0 43 #[(.agg #[(.int .i16 aC2.fAway), (.int .i16 aC2.fOctave), (.int .i16 aC2.fStep)])] (by kernel_rfl) (by kernel_rfl) (fun w hm => laws_toCosts.calls aC2 w _ ht_67) ?_)
      rintro w v w' hm ⟨rfl, hm'⟩
      refine ⟨_, hm.app hm', jkD (fun w h => h.pick [0, 1, 2, 3, 4, 5, 6, 7] (by kernel_rfl) (by kernel_rfl)) ?_⟩
      clear hm hm'
      obtain ⟨t_10, ht_68, h⟩ := bd h
      refine toD 4 (by kernel_rfl) (p_call 0 44 #[(.agg #[(.int .i16 t_7.fSteps), (.slice (o_48.map fun b => ⟨b, 0, none⟩) t_7.fHammers.length cap_49)]), (.slice (o_55.map fun b => ⟨b, 0, none⟩) t_8.length cap_56), (.agg #[(.int .i16 t_9.fAway), (.int .i16 t_9.fOctave), (.int .i16 t_9.fStep)])] (by kernel_rfl) (by kernel_rfl) (fun w hm => impl_Greedy.calls t_7 t_8 t_9 w _ (o_48.map fun b => ⟨b, 0, none⟩) t_7.fHammers.length cap_49 (hm.ownRow (hh := 5) (o := o_48) (T := 178) (enc := encGHammer) (xs := t_7.fHammers) (sp := sp_50) (by kernel_rfl) (fun e => (ho_52 e).1) encGHammer_len) rfl (o_55.map fun b => ⟨b, 0, none⟩) t_8.length cap_56 (hm.ownRow (hh := 7) (o := o_55) (T := 126) (enc := encGNote) (xs := t_8) (sp := sp_57) (by kernel_rfl) (fun e => (ho_59 e).1) encGNote_len) rfl ht_68) ?_)
      rintro w v w' hm ⟨o_69, cap_70, sp_71, _, rfl, hs_72, ho_73, rfl, hm'⟩
      refine ⟨_, hm.app hm', jkD (fun w h => h.pick [0, 1, 2, 3, 4, 5, 6, 7] (by kernel_rfl) (by kernel_rfl)) ?_⟩
      clear hm hm'
      refine jd_f [⟨5, 0, 0⟩, ⟨6, 0, 0⟩, ⟨7, 0, 0⟩, ⟨8, 0, 0⟩, ⟨9, 0, 0⟩] 0 (by kernel_rfl) (by kernel_rfl) (fun w h => h.pick [0, 1, 2, 3, 4, 5, 6, 7] (by kernel_rfl) (by kernel_rfl)) (by kernel_rfl) (by kernel_rfl) ?_
      refine jd_end (by kernel_rfl) ?_
      refine jx_then ?_
      refine jc_seq ?_
      refine jc_seq ?_
      refine jc_region ?_
      refine jo_f [(0, 0), (0, 0)] (by kernel_rfl) ?_
      obtain ⟨t_11, ht_78, h⟩ := bd h
      refine toO (by kernel_rfl) (p_call 0 29 #[(.slice (o_69.map fun b => ⟨b, 0, none⟩) t_10.1.length cap_70), (.slice (o_42.map fun b => ⟨b, 0, none⟩) t_6.1.length cap_43)] (by kernel_rfl) (by kernel_rfl) (fun w hm => laws_eqChoiceS.calls t_10.1 t_6.1 w _ (o_69.map fun b => ⟨b, 0, none⟩) t_10.1.length cap_70 (hm.ownRow (hh := 8) (o := o_69) (T := 130) (enc := encGChoice) (xs := t_10.1) (sp := sp_71) (by kernel_rfl) (fun e => (ho_73 e).1) encGChoice_len) rfl (o_42.map fun b => ⟨b, 0, none⟩) t_6.1.length cap_43 (hm.ownRow (hh := 4) (o := o_42) (T := 130) (enc := encGChoice) (xs := t_6.1) (sp := sp_44) (by kernel_rfl) (fun e => (ho_46 e).1) encGChoice_len) rfl ht_78) ?_)
      rintro w v w' hm ⟨rfl, hm'⟩
      refine ⟨_, hm.app hm', jkO ?_⟩
      clear hm hm'
      refine jo_f [(0, 0), (0, 0), (0, 1), (0, 1), (0, 1), (0, 0)] (by kernel_rfl) ?_
      refine jo_end (by kernel_rfl) ?_
      refine jx_then ?_
      refine jc_cond ((!t_11) || (t_10.2 != t_6.2)) (by kernel_rfl) (fun hc_79 => ?_) (fun hc_79 => ?_)
      · replace h := ifT hc_79 h
        refine jc_seq ?_
        refine jc_region ?_
        refine jo_f [(0, 0)] (by kernel_rfl) ?_
        refine jo_end (by kernel_rfl) ?_
        refine jx_then ?_
        refine jc_ret ?_
        refine jx_thenr ?_
        obtain rfl := Option.some.inj h
        exact jx_ret [] (.bool false) [] rfl (by kernel_rfl) (by kernel_rfl) (fun w hm => ⟨rfl, hm.pick [] (by kernel_rfl) (by kernel_rfl)⟩)
      · replace h := ifF hc_79 h
        refine jc_skip ?_
        refine jx_then ?_
        refine jc_seq ?_
        refine jc_seq ?_
        refine jc_draw [⟨some b_1, 25, [(.int .i16 aF0.fSteps), (.slice aF0_fHammers_a aF0.fHammers.length aF0_fHammers_c)]⟩, ⟨some b_2, 79, [(.int .i16 aC2.fAway), (.int .i16 aC2.fOctave), (.int .i16 aC2.fStep)]⟩, ⟨o_29, 178, row encGHammer t_3.fHammers sp_31⟩, ⟨o_35, 126, row encGNote t_4 sp_37⟩, ⟨o_42, 130, row encGChoice t_6.1 sp_44⟩, ⟨some b_53, 38, [(.int .i16 t_7.fSteps), (.slice (o_48.map fun b => ⟨b, 0, none⟩) t_7.fHammers.length cap_49)]⟩] 5 (by kernel_rfl) (by kernel_rfl) ?_
        refine jd_f [⟨0, 5, 0⟩, ⟨1, 0, 0⟩] 3 (by kernel_rfl) (by kernel_rfl) (fun w h => h.pick [0, 1, 2, 3, 4, 6] (by kernel_rfl) (by kernel_rfl)) (by kernel_rfl) (by kernel_rfl) ?_
        obtain ⟨t_12, ht_191, h⟩ := bd h
        refine toD 2 (by kernel_rfl) (p_call 0 16 #[(.agg #[(.int .i16 aF0.fSteps), (.slice aF0_fHammers_a aF0.fHammers.length aF0_fHammers_c)])] (by kernel_rfl) (by kernel_rfl) (fun w hm => laws_toFrame.calls aF0 w _ aF0_fHammers_a aF0.fHammers.length aF0_fHammers_c (hm.exRow aF0_fHammers_h List.not_mem_nil) rfl ht_191) ?_)
        rintro w v w' hm ⟨o_192, cap_193, sp_194, _, rfl, hs_195, ho_196, rfl, hm'⟩
        refine ⟨_, hm.app hm', jkD (fun w h => h.pick [0, 1, 2, 3, 4, 6] (by kernel_rfl) (by kernel_rfl)) ?_⟩
        clear hm hm'
        obtain ⟨t_13, ht_197, h⟩ := bd h
        refine toD 3 (by kernel_rfl) (p_call 0 20 #[(.agg #[(.int .i16 t_7.fSteps), (.slice (o_48.map fun b => ⟨b, 0, none⟩) t_7.fHammers.length cap_49)]), (.agg #[(.int .i16 t_12.fSteps), (.slice (o_192.map fun b => ⟨b, 0, none⟩) t_12.fHammers.length cap_193)])] (by kernel_rfl) (by kernel_rfl) (fun w hm => laws_eqFrame.calls t_7 t_12 w _ (o_48.map fun b => ⟨b, 0, none⟩) t_7.fHammers.length cap_49 (hm.ownRow (hh := 5) (o := o_48) (T := 178) (enc := encGHammer) (xs := t_7.fHammers) (sp := sp_50) (by kernel_rfl) (fun e => (ho_52 e).1) encGHammer_len) rfl (o_192.map fun b => ⟨b, 0, none⟩) t_12.fHammers.length cap_193 (hm.ownRow (hh := 9) (o := o_192) (T := 178) (enc := encGHammer) (xs := t_12.fHammers) (sp := sp_194) (by kernel_rfl) (fun e => (ho_196 e).1) encGHammer_len) rfl ht_197) ?_)
        rintro w v w' hm ⟨rfl, hm'⟩
        refine ⟨_, hm.app hm', jkD (fun w h => h.pick [0, 1, 2, 3, 4, 6] (by kernel_rfl) (by kernel_rfl)) ?_⟩
        clear hm hm'
        refine jd_f [⟨4, 0, 0⟩] 0 (by kernel_rfl) (by kernel_rfl) (fun w h => h.pick [0, 1, 2, 3, 4, 6] (by kernel_rfl) (by kernel_rfl)) (by kernel_rfl) (by kernel_rfl) ?_
        refine jd_end (by kernel_rfl) ?_
        refine jx_then ?_
        refine jc_cond (!t_13) (by kernel_rfl) (fun hc_198 => ?_) (fun hc_198 => ?_)
        · replace h := ifT hc_198 h
          refine jc_seq ?_
          refine jc_region ?_
          refine jo_f [(0, 0)] (by kernel_rfl) ?_
          refine jo_end (by kernel_rfl) ?_
          refine jx_then ?_
          refine jc_ret ?_
          refine jx_thenr ?_
          obtain rfl := Option.some.inj h
          exact jx_ret [] (.bool false) [] rfl (by kernel_rfl) (by kernel_rfl) (fun w hm => ⟨rfl, hm.pick [] (by kernel_rfl) (by kernel_rfl)⟩)
        · replace h := ifF hc_198 h
          refine jc_skip ?_
          refine jx_then ?_
          refine jc_seq ?_
          refine jc_seq ?_
          refine jc_region ?_
          refine jo_f [(0, 0), (0, 0)] (by kernel_rfl) ?_
          obtain ⟨t_14, ht_207, h⟩ := bd h
          refine toO (by kernel_rfl) (p_call 0 25 #[(.slice aT1_a aT1.length aT1_c)] (by kernel_rfl) (by kernel_rfl) (fun w hm => laws_toTune.calls aT1 w _ aT1_a aT1.length aT1_c (hm.exRow aT1_h List.not_mem_nil) rfl ht_207) ?_)
          rintro w v w' hm ⟨o_208, cap_209, sp_210, _, rfl, hs_211, ho_212, rfl, hm'⟩
          refine ⟨_, hm.app hm', jkO ?_⟩
          clear hm hm'
          obtain ⟨t_15, ht_213, h⟩ := bd h
          refine toO (by kernel_rfl) (p_call 0 28 #[(.slice (o_55.map fun b => ⟨b, 0, none⟩) t_8.length cap_56), (.slice (o_208.map fun b => ⟨b, 0, none⟩) t_14.length cap_209)] (by kernel_rfl) (by kernel_rfl) (fun w hm => laws_eqTune.calls t_8 t_14 w _ (o_55.map fun b => ⟨b, 0, none⟩) t_8.length cap_56 (hm.ownRow (hh := 7) (o := o_55) (T := 126) (enc := encGNote) (xs := t_8) (sp := sp_57) (by kernel_rfl) (fun e => (ho_59 e).1) encGNote_len) rfl (o_208.map fun b => ⟨b, 0, none⟩) t_14.length cap_209 (hm.ownRow (hh := 10) (o := o_208) (T := 126) (enc := encGNote) (xs := t_14) (sp := sp_210) (by kernel_rfl) (fun e => (ho_212 e).1) encGNote_len) rfl ht_213) ?_)
          rintro w v w' hm ⟨rfl, hm'⟩
          refine ⟨_, hm.app hm', jkO ?_⟩
          clear hm hm'
          refine jo_f [(0, 0)] (by kernel_rfl) ?_
          refine jo_end (by kernel_rfl) ?_
          refine jx_then ?_
          refine jc_cond (!t_15) (by kernel_rfl) (fun hc_214 => ?_) (fun hc_214 => ?_)
          · replace h := ifT hc_214 h
            refine jc_seq ?_
            refine jc_region ?_
            refine jo_f [(0, 0)] (by kernel_rfl) ?_
            refine jo_end (by kernel_rfl) ?_
            refine jx_then ?_
            refine jc_ret ?_
            refine jx_thenr ?_
            obtain rfl := Option.some.inj h
            exact jx_ret [] (.bool false) [] rfl (by kernel_rfl) (by kernel_rfl) (fun w hm => ⟨rfl, hm.pick [] (by kernel_rfl) (by kernel_rfl)⟩)
          · replace h := ifF hc_214 h
            refine jc_skip ?_
            refine jx_then ?_
            refine jc_seq ?_
            refine jc_region ?_
            refine jo_f [(0, 0)] (by kernel_rfl) ?_
            refine jo_end (by kernel_rfl) ?_
            refine jx_then ?_
            refine jc_seq ?_
            refine jc_region ?_
            refine jo_f [(6, 0), (0, 0)] (by kernel_rfl) ?_
            obtain ⟨t_16, ht_215, h⟩ := bd h
            refine toO (by kernel_rfl) (p_call 0 45 #[(.agg #[(.int .i16 t_7.fSteps), (.slice (o_48.map fun b => ⟨b, 0, none⟩) t_7.fHammers.length cap_49)]), (.int .i64 1)] (by kernel_rfl) (by kernel_rfl) (fun w hm => laws_markFrame.calls t_7 1 w _ o_48 t_7.fHammers.length cap_49 sp_50 rfl hs_51 ho_52 (hm.pass (N := [⟨o_48, 178, row encGHammer t_7.fHammers sp_50⟩]) [5] (by kernel_rfl) (by kernel_rfl)) ht_215) ?_)
            rintro w v w' hm ⟨hn_216, ho_217, rfl, hm'⟩
            refine ⟨_, hm.appW (ps := [(5, ⟨o_48, 178, row encGHammer t_16.2 sp_50⟩)]) (N := []) hm' (by kernel_rfl) (by kernel_rfl), jkO ?_⟩
            clear hm hm'
            refine jo_f [(0, 0)] (by kernel_rfl) ?_
            refine jo_end (by kernel_rfl) ?_
            refine jx_then ?_
            refine jc_seq ?_
            refine jc_region ?_
            refine jo_f [(0, 0), (0, 0)] (by kernel_rfl) ?_
            obtain ⟨t_17, ht_218, h⟩ := bd h
            refine toO (by kernel_rfl) (p_call 0 46 #[(.slice (o_55.map fun b => ⟨b, 0, none⟩) t_8.length cap_56), (.int .i64 t_16.1)] (by kernel_rfl) (by kernel_rfl) (fun w hm => laws_markTune.calls t_8 t_16.1 w _ o_55 t_8.length cap_56 sp_57 rfl hs_58 ho_59 (hm.pass (N := [⟨o_55, 126, row encGNote t_8 sp_57⟩]) [7] (by kernel_rfl) (by kernel_rfl)) ht_218) ?_)
            rintro w v w' hm ⟨hn_219, ho_220, rfl, hm'⟩
            refine ⟨_, hm.appW (ps := [(7, ⟨o_55, 126, row encGNote t_17.2 sp_57⟩)]) (N := []) hm' (by kernel_rfl) (by kernel_rfl), jkO ?_⟩
            clear hm hm'
            refine jo_f [(0, 0)] (by kernel_rfl) ?_
            refine jo_end (by kernel_rfl) ?_
            refine jx_then ?_
            refine jc_seq ?_
            refine jc_seq ?_
            refine jc_meet (fun (j : Bool) => match j with | q_18 => laws_FnExactGreedy.k_19 aF0 aT1 aC2 t_6 t_10 q_18 = some r) (fun (j : Bool) => match j with | q_18 => [(1, [], (.slice aT1_a aT1.length aT1_c)), (3, [], (.pointer (some ⟨b_1, 0, none⟩))), (5, [], (.pointer (some ⟨b_2, 0, none⟩))), (6, [], (.bool false)), (8, [], (.slice (o_42.map fun b => ⟨b, 0, none⟩) t_6.1.length cap_43)), (9, [], (.int .i64 t_6.2)), (12, [], (.slice (o_69.map fun b => ⟨b, 0, none⟩) t_10.1.length cap_70)), (88, [], (.bool q_18))]) (fun (j : Bool) => match j with | q_18 => [⟨some b_1, 25, [(.int .i16 aF0.fSteps), (.slice aF0_fHammers_a aF0.fHammers.length aF0_fHammers_c)]⟩, ⟨some b_2, 79, [(.int .i16 aC2.fAway), (.int .i16 aC2.fOctave), (.int .i16 aC2.fStep)]⟩, ⟨o_29, 178, row encGHammer t_3.fHammers sp_31⟩, ⟨o_35, 126, row encGNote t_4 sp_37⟩, ⟨o_42, 130, row encGChoice t_6.1 sp_44⟩, ⟨o_48, 178, row encGHammer t_16.2 sp_50⟩, ⟨some b_53, 38, [(.int .i16 t_7.fSteps), (.slice (o_48.map fun b => ⟨b, 0, none⟩) t_7.fHammers.length cap_49)]⟩, ⟨o_55, 126, row encGNote t_17.2 sp_57⟩, ⟨o_69, 130, row encGChoice t_10.1 sp_71⟩, ⟨o_192, 178, row encGHammer t_12.fHammers sp_194⟩, ⟨o_208, 126, row encGNote t_14 sp_210⟩]) ?_ ?_
            · refine jc_region ?_
              refine jo_f [(0, 0), (0, 0), (0, 0), (0, 1), (0, 1)] (by kernel_rfl) ?_
              refine jo_split 78 (decide (t_17.1 < 0)) (by kernel_rfl) (fun hc_285 => ?_) (fun hc_285 => ?_)
              · replace h := ifT hc_285 h
                refine jo_f [(0, 3), (0, 3), (0, 4), (0, 0), (0, 3), (0, 3), (0, 3), (0, 4)] (by kernel_rfl) ?_
                refine jo_end (by kernel_rfl) ?_
                exact jx_meet true h (by kernel_rfl) [0, 1, 2, 3, 4, 5, 6, 7, 8, 9, 10] (by kernel_rfl) (by kernel_rfl)
              · replace h := ifF hc_285 h
                obtain ⟨t_28, ht_286, h⟩ := bd h
                refine toO (by kernel_rfl) (p_call 2 29 #[(.slice (o_69.map fun b => ⟨b, 0, none⟩) t_10.1.length cap_70), (.slice (o_42.map fun b => ⟨b, 0, none⟩) t_6.1.length cap_43)] (by kernel_rfl) (by kernel_rfl) (fun w hm => laws_eqChoiceS.calls t_10.1 t_6.1 w _ (o_69.map fun b => ⟨b, 0, none⟩) t_10.1.length cap_70 (hm.ownRow (hh := 8) (o := o_69) (T := 130) (enc := encGChoice) (xs := t_10.1) (sp := sp_71) (by kernel_rfl) (fun e => (ho_73 e).1) encGChoice_len) rfl (o_42.map fun b => ⟨b, 0, none⟩) t_6.1.length cap_43 (hm.ownRow (hh := 4) (o := o_42) (T := 130) (enc := encGChoice) (xs := t_6.1) (sp := sp_44) (by kernel_rfl) (fun e => (ho_46 e).1) encGChoice_len) rfl ht_286) ?_)
                rintro w v w' hm ⟨rfl, hm'⟩
                refine ⟨_, hm.app hm', jkO ?_⟩
                clear hm hm'
                refine jo_f [(0, 2), (0, 5), (0, 0), (0, 1), (0, 1), (0, 1), (0, 0)] (by kernel_rfl) ?_
                refine jo_end (by kernel_rfl) ?_
                exact jx_meet ((!t_28) || (t_10.2 != t_6.2)) h (by kernel_rfl) [0, 1, 2, 3, 4, 5, 6, 7, 8, 9, 10] (by kernel_rfl) (by kernel_rfl)
            · rintro q_18 h
              replace h : laws_FnExactGreedy.k_19 aF0 aT1 aC2 t_6 t_10 q_18 = some r := h
              rw [laws_FnExactGreedy.k_19] at h
              refine jx_then ?_
              refine jc_cond q_18 (by kernel_rfl) (fun hc_228 => ?_) (fun hc_228 => ?_)
              · replace h := ifT hc_228 h
                refine jc_seq ?_
                refine jc_region ?_
                refine jo_f [(0, 0)] (by kernel_rfl) ?_
                refine jo_end (by kernel_rfl) ?_
                refine jx_then ?_
                refine jc_ret ?_
                refine jx_thenr ?_
                obtain rfl := Option.some.inj h
                exact jx_ret [] (.bool false) [] rfl (by kernel_rfl) (by kernel_rfl) (fun w hm => ⟨rfl, hm.pick [] (by kernel_rfl) (by kernel_rfl)⟩)
              · replace h := ifF hc_228 h
                refine jc_skip ?_
                refine jx_then ?_
                refine jc_seq ?_
                refine jc_region ?_
                refine jo_f [(0, 0)] (by kernel_rfl) ?_
                refine jo_end (by kernel_rfl) ?_
                refine jx_then ?_
                refine jc_seq ?_
                refine jc_region ?_
                refine jo_f [(0, 0), (0, 0)] (by kernel_rfl) ?_
                obtain ⟨t_20, ht_229, h⟩ := bd h
                refine toO (by kernel_rfl) (p_call 0 47 #[(.slice (o_69.map fun b => ⟨b, 0, none⟩) t_10.1.length cap_70), (.int .i64 1)] (by kernel_rfl) (by kernel_rfl) (fun w hm => laws_markChoiceS.calls t_10.1 1 w _ o_69 t_10.1.length cap_70 sp_71 rfl hs_72 ho_73 (hm.pass (N := [⟨o_69, 130, row encGChoice t_10.1 sp_71⟩]) [8] (by kernel_rfl) (by kernel_rfl)) ht_229) ?_)
                rintro w v w' hm ⟨hn_230, ho_231, rfl, hm'⟩
                refine ⟨_, hm.appW (ps := [(8, ⟨o_69, 130, row encGChoice t_20.2 sp_71⟩)]) (N := []) hm' (by kernel_rfl) (by kernel_rfl), jkO ?_⟩
                clear hm hm'
                refine jo_f [(0, 0)] (by kernel_rfl) ?_
                refine jo_end (by kernel_rfl) ?_
                refine jx_then ?_
                refine jc_seq ?_
                refine jc_region ?_
                refine jo_f [(0, 0)] (by kernel_rfl) ?_
                refine jo_end (by kernel_rfl) ?_
                refine jx_then ?_
                refine jc_seq ?_
                refine jc_region ?_
                refine jo_f [(0, 0), (0, 0)] (by kernel_rfl) ?_
                obtain ⟨t_21, ht_232, h⟩ := bd h
                refine toO (by kernel_rfl) (p_call 0 48 #[(.slice (o_69.map fun b => ⟨b, 0, none⟩) t_10.1.length cap_70), (.int .i64 1)] (by kernel_rfl) (by kernel_rfl) (fun w hm => laws_heldChoiceS.calls t_20.2 1 w _ (o_69.map fun b => ⟨b, 0, none⟩) t_10.1.length cap_70 (hm.ownRow (hh := 8) (o := o_69) (T := 130) (enc := encGChoice) (xs := t_20.2) (sp := sp_71) (by kernel_rfl) (fun e => (ho_231 e).1) encGChoice_len) hn_230 ht_232) ?_)
                rintro w v w' hm ⟨rfl, hm'⟩
                refine ⟨_, hm.app hm', jkO ?_⟩
                clear hm hm'
                refine jo_f [(0, 0)] (by kernel_rfl) ?_
                refine jo_end (by kernel_rfl) ?_
                refine jx_then ?_
                refine jc_seq ?_
                refine jc_seq ?_
                refine jc_region ?_
                refine jo_f [(0, 0), (0, 0)] (by kernel_rfl) ?_
                refine jo_end (by kernel_rfl) ?_
                refine jx_then ?_
                refine jc_cond (decide (t_21 < 0)) (by kernel_rfl) (fun hc_234 => ?_) (fun hc_234 => ?_)
                · replace h := ifT hc_234 h
                  refine jc_seq ?_
                  refine jc_region ?_
                  refine jo_f [(0, 0)] (by kernel_rfl) ?_
                  refine jo_end (by kernel_rfl) ?_
                  refine jx_then ?_
                  refine jc_ret ?_
                  refine jx_thenr ?_
                  obtain rfl := Option.some.inj h
                  exact jx_ret [] (.bool false) [] rfl (by kernel_rfl) (by kernel_rfl) (fun w hm => ⟨rfl, hm.pick [] (by kernel_rfl) (by kernel_rfl)⟩)
                · replace h := ifF hc_234 h
                  refine jc_skip ?_
                  refine jx_then ?_
                  refine jc_seq ?_
                  refine jc_seq ?_
                  refine jc_region ?_
                  refine jo_f [(0, 0), (0, 0), (0, 0)] (by kernel_rfl) ?_
                  refine jo_end (by kernel_rfl) ?_
                  refine jx_then ?_
                  refine jc_cond (t_21 != t_20.1) (by kernel_rfl) (fun hc_236 => ?_) (fun hc_236 => ?_)
                  · replace h := ifT hc_236 h
                    refine jc_seq ?_
                    refine jc_region ?_
                    refine jo_f [(0, 0)] (by kernel_rfl) ?_
                    refine jo_end (by kernel_rfl) ?_
                    refine jx_then ?_
                    refine jc_ret ?_
                    refine jx_thenr ?_
                    obtain rfl := Option.some.inj h
                    exact jx_ret [] (.bool false) [] rfl (by kernel_rfl) (by kernel_rfl) (fun w hm => ⟨rfl, hm.pick [] (by kernel_rfl) (by kernel_rfl)⟩)
                  · replace h := ifF hc_236 h
                    refine jc_skip ?_
                    refine jx_then ?_
                    refine jc_seq ?_
                    refine jc_draw [⟨some b_1, 25, [(.int .i16 aF0.fSteps), (.slice aF0_fHammers_a aF0.fHammers.length aF0_fHammers_c)]⟩, ⟨some b_2, 79, [(.int .i16 aC2.fAway), (.int .i16 aC2.fOctave), (.int .i16 aC2.fStep)]⟩, ⟨o_29, 178, row encGHammer t_3.fHammers sp_31⟩, ⟨o_35, 126, row encGNote t_4 sp_37⟩, ⟨o_42, 130, row encGChoice t_6.1 sp_44⟩, ⟨o_48, 178, row encGHammer t_16.2 sp_50⟩, ⟨some b_53, 38, [(.int .i16 t_7.fSteps), (.slice (o_48.map fun b => ⟨b, 0, none⟩) t_7.fHammers.length cap_49)]⟩, ⟨o_55, 126, row encGNote t_17.2 sp_57⟩, ⟨o_69, 130, row encGChoice t_20.2 sp_71⟩, ⟨o_192, 178, row encGHammer t_12.fHammers sp_194⟩, ⟨o_208, 126, row encGNote t_14 sp_210⟩] 12 (by kernel_rfl) (by kernel_rfl) ?_
                    refine jd_f [⟨0, 0, 0⟩, ⟨2, 0, 0⟩, ⟨4, 1, 0⟩] 9 (by kernel_rfl) (by kernel_rfl) (fun w h => h.pick [0, 1, 2, 3, 4, 5, 6, 7, 8, 9, 10] (by kernel_rfl) (by kernel_rfl)) (by kernel_rfl) (by kernel_rfl) ?_
                    obtain ⟨t_22, ht_256, h⟩ := bd h
                    refine toD 1 (by kernel_rfl) (p_call 0 16 #[(.agg #[(.int .i16 aF0.fSteps), (.slice aF0_fHammers_a aF0.fHammers.length aF0_fHammers_c)])] (by kernel_rfl) (by kernel_rfl) (fun w hm => laws_toFrame.calls aF0 w _ aF0_fHammers_a aF0.fHammers.length aF0_fHammers_c (hm.exRow aF0_fHammers_h List.not_mem_nil) rfl ht_256) ?_)
                    rintro w v w' hm ⟨o_257, cap_258, sp_259, _, rfl, hs_260, ho_261, rfl, hm'⟩
                    refine ⟨_, hm.app hm', jkD (fun w h => h.pick [0, 1, 2, 3, 4, 5, 6, 7, 8, 9, 10] (by kernel_rfl) (by kernel_rfl)) ?_⟩
                    clear hm hm'
                    obtain ⟨t_23, ht_262, h⟩ := bd h
                    refine toD 3 (by kernel_rfl) (p_call 0 25 #[(.slice aT1_a aT1.length aT1_c)] (by kernel_rfl) (by kernel_rfl) (fun w hm => laws_toTune.calls aT1 w _ aT1_a aT1.length aT1_c (hm.exRow aT1_h List.not_mem_nil) rfl ht_262) ?_)
                    rintro w v w' hm ⟨o_263, cap_264, sp_265, _, rfl, hs_266, ho_267, rfl, hm'⟩
                    refine ⟨_, hm.app hm', jkD (fun w h => h.pick [0, 1, 2, 3, 4, 5, 6, 7, 8, 9, 10] (by kernel_rfl) (by kernel_rfl)) ?_⟩
                    clear hm hm'
                    obtain ⟨t_24, ht_268, h⟩ := bd h
                    refine toD 5 (by kernel_rfl) (p_call 0 43 #[(.agg #[(.int .i16 aC2.fAway), (.int .i16 aC2.fOctave), (.int .i16 aC2.fStep)])] (by kernel_rfl) (by kernel_rfl) (fun w hm => laws_toCosts.calls aC2 w _ ht_268) ?_)
                    rintro w v w' hm ⟨rfl, hm'⟩
                    refine ⟨_, hm.app hm', jkD (fun w h => h.pick [0, 1, 2, 3, 4, 5, 6, 7, 8, 9, 10] (by kernel_rfl) (by kernel_rfl)) ?_⟩
                    clear hm hm'
                    obtain ⟨t_25, ht_269, h⟩ := bd h
                    refine toD 6 (by kernel_rfl) (p_call 0 44 #[(.agg #[(.int .i16 t_22.fSteps), (.slice (o_257.map fun b => ⟨b, 0, none⟩) t_22.fHammers.length cap_258)]), (.slice (o_263.map fun b => ⟨b, 0, none⟩) t_23.length cap_264), (.agg #[(.int .i16 t_24.fAway), (.int .i16 t_24.fOctave), (.int .i16 t_24.fStep)])] (by kernel_rfl) (by kernel_rfl) (fun w hm => impl_Greedy.calls t_22 t_23 t_24 w _ (o_257.map fun b => ⟨b, 0, none⟩) t_22.fHammers.length cap_258 (hm.ownRow (hh := 11) (o := o_257) (T := 178) (enc := encGHammer) (xs := t_22.fHammers) (sp := sp_259) (by kernel_rfl) (fun e => (ho_261 e).1) encGHammer_len) rfl (o_263.map fun b => ⟨b, 0, none⟩) t_23.length cap_264 (hm.ownRow (hh := 12) (o := o_263) (T := 126) (enc := encGNote) (xs := t_23) (sp := sp_265) (by kernel_rfl) (fun e => (ho_267 e).1) encGNote_len) rfl ht_269) ?_)
                    rintro w v w' hm ⟨o_270, cap_271, sp_272, _, rfl, hs_273, ho_274, rfl, hm'⟩
                    refine ⟨_, hm.app hm', jkD (fun w h => h.pick [0, 1, 2, 3, 4, 5, 6, 7, 8, 9, 10] (by kernel_rfl) (by kernel_rfl)) ?_⟩
                    clear hm hm'
                    refine jd_f [⟨7, 0, 0⟩, ⟨8, 0, 0⟩, ⟨9, 0, 0⟩, ⟨10, 0, 0⟩, ⟨11, 0, 0⟩] 0 (by kernel_rfl) (by kernel_rfl) (fun w h => h.pick [0, 1, 2, 3, 4, 5, 6, 7, 8, 9, 10] (by kernel_rfl) (by kernel_rfl)) (by kernel_rfl) (by kernel_rfl) ?_
                    refine jd_end (by kernel_rfl) ?_
                    refine jx_then ?_
                    refine jc_seq ?_
                    refine jc_seq ?_
                    refine jc_region ?_
                    refine jo_f [(0, 0), (0, 0)] (by kernel_rfl) ?_
                    obtain ⟨t_26, ht_279, h⟩ := bd h
                    refine toO (by kernel_rfl) (p_call 0 29 #[(.slice (o_270.map fun b => ⟨b, 0, none⟩) t_25.1.length cap_271), (.slice (o_42.map fun b => ⟨b, 0, none⟩) t_6.1.length cap_43)] (by kernel_rfl) (by kernel_rfl) (fun w hm => laws_eqChoiceS.calls t_25.1 t_6.1 w _ (o_270.map fun b => ⟨b, 0, none⟩) t_25.1.length cap_271 (hm.ownRow (hh := 13) (o := o_270) (T := 130) (enc := encGChoice) (xs := t_25.1) (sp := sp_272) (by kernel_rfl) (fun e => (ho_274 e).1) encGChoice_len) rfl (o_42.map fun b => ⟨b, 0, none⟩) t_6.1.length cap_43 (hm.ownRow (hh := 4) (o := o_42) (T := 130) (enc := encGChoice) (xs := t_6.1) (sp := sp_44) (by kernel_rfl) (fun e => (ho_46 e).1) encGChoice_len) rfl ht_279) ?_)
                    rintro w v w' hm ⟨rfl, hm'⟩
                    refine ⟨_, hm.app hm', jkO ?_⟩
                    clear hm hm'
                    refine jo_f [(0, 0), (0, 0), (0, 1), (0, 1), (0, 1), (0, 0)] (by kernel_rfl) ?_
                    refine jo_end (by kernel_rfl) ?_
                    refine jx_then ?_
                    refine jc_cond ((!t_26) || (t_25.2 != t_6.2)) (by kernel_rfl) (fun hc_280 => ?_) (fun hc_280 => ?_)
                    · replace h := ifT hc_280 h
                      refine jc_seq ?_
                      refine jc_region ?_
                      refine jo_f [(0, 0)] (by kernel_rfl) ?_
                      refine jo_end (by kernel_rfl) ?_
                      refine jx_then ?_
                      refine jc_ret ?_
                      refine jx_thenr ?_
                      obtain rfl := Option.some.inj h
                      exact jx_ret [] (.bool false) [] rfl (by kernel_rfl) (by kernel_rfl) (fun w hm => ⟨rfl, hm.pick [] (by kernel_rfl) (by kernel_rfl)⟩)
                    · replace h := ifF hc_280 h
                      refine jc_skip ?_
                      refine jx_then ?_
                      refine jc_seq ?_
                      refine jc_region ?_
                      refine jo_f [(0, 0)] (by kernel_rfl) ?_
                      refine jo_end (by kernel_rfl) ?_
                      refine jx_then ?_
                      refine jc_seq ?_
                      refine jc_region ?_
                      refine jo_f [(0, 0), (0, 0)] (by kernel_rfl) ?_
                      obtain ⟨t_27, ht_281, h⟩ := bd h
                      refine toO (by kernel_rfl) (p_call 0 48 #[(.slice (o_69.map fun b => ⟨b, 0, none⟩) t_10.1.length cap_70), (.int .i64 1)] (by kernel_rfl) (by kernel_rfl) (fun w hm => laws_heldChoiceS.calls t_20.2 1 w _ (o_69.map fun b => ⟨b, 0, none⟩) t_10.1.length cap_70 (hm.ownRow (hh := 8) (o := o_69) (T := 130) (enc := encGChoice) (xs := t_20.2) (sp := sp_71) (by kernel_rfl) (fun e => (ho_231 e).1) encGChoice_len) hn_230 ht_281) ?_)
                      rintro w v w' hm ⟨rfl, hm'⟩
                      refine ⟨_, hm.app hm', jkO ?_⟩
                      clear hm hm'
                      refine jo_f [(0, 0)] (by kernel_rfl) ?_
                      refine jo_end (by kernel_rfl) ?_
                      refine jx_then ?_
                      refine jc_seq ?_
                      refine jc_seq ?_
                      refine jc_region ?_
                      refine jo_f [(0, 0), (0, 0)] (by kernel_rfl) ?_
                      refine jo_end (by kernel_rfl) ?_
                      refine jx_then ?_
                      refine jc_cond (decide (t_27 < 0)) (by kernel_rfl) (fun hc_283 => ?_) (fun hc_283 => ?_)
                      · replace h := ifT hc_283 h
                        refine jc_seq ?_
                        refine jc_region ?_
                        refine jo_f [(0, 0)] (by kernel_rfl) ?_
                        refine jo_end (by kernel_rfl) ?_
                        refine jx_then ?_
                        refine jc_ret ?_
                        refine jx_thenr ?_
                        obtain rfl := Option.some.inj h
                        exact jx_ret [] (.bool false) [] rfl (by kernel_rfl) (by kernel_rfl) (fun w hm => ⟨rfl, hm.pick [] (by kernel_rfl) (by kernel_rfl)⟩)
                      · replace h := ifF hc_283 h
                        refine jc_skip ?_
                        refine jx_then ?_
                        refine jc_seq ?_
                        refine jc_seq ?_
                        refine jc_region ?_
                        refine jo_f [(0, 0), (0, 0), (0, 0)] (by kernel_rfl) ?_
                        refine jo_end (by kernel_rfl) ?_
                        refine jx_then ?_
                        refine jc_cond (t_27 != t_20.1) (by kernel_rfl) (fun hc_284 => ?_) (fun hc_284 => ?_)
                        · replace h := ifT hc_284 h
                          refine jc_seq ?_
                          refine jc_region ?_
                          refine jo_f [(0, 0)] (by kernel_rfl) ?_
                          refine jo_end (by kernel_rfl) ?_
                          refine jx_then ?_
                          refine jc_ret ?_
                          refine jx_thenr ?_
                          obtain rfl := Option.some.inj h
                          exact jx_ret [] (.bool false) [] rfl (by kernel_rfl) (by kernel_rfl) (fun w hm => ⟨rfl, hm.pick [] (by kernel_rfl) (by kernel_rfl)⟩)
                        · replace h := ifF hc_284 h
                          refine jc_skip ?_
                          refine jx_then ?_
                          refine jc_seq ?_
                          refine jc_region ?_
                          refine jo_f [(0, 0)] (by kernel_rfl) ?_
                          refine jo_end (by kernel_rfl) ?_
                          refine jx_then ?_
                          refine jc_ret ?_
                          obtain rfl := Option.some.inj h
                          exact jx_ret [] (.bool true) [] rfl (by kernel_rfl) (by kernel_rfl) (fun w hm => ⟨rfl, hm.pick [] (by kernel_rfl) (by kernel_rfl)⟩)
end Go.Proofs.Ytilackblefjgdaa
