/- The law of worn parts: its plain function answers true at every input. -/
import Derived.Test.YtfkjghkjimcmdaaM0
import Derived.Test.YtfkjghkjimcmdaaM2
import Derived.Test.YtfkjghkjimcmdaaM3
import Derived.Test.YtfkjghkjimcmdaaPFrame
import Derived.Test.YtfkjghkjimcmdaaPDrum
import Derived.Test.YtfkjghkjimcmdaaPCodes
import Derived.Test.YtfkjghkjimcmdaaPWear
import Derived.Test.YtfkjghkjimcmdaaPPut
import Derived.Test.YtfkjghkjimcmdaaPWDrum
import Derived.Test.YtfkjghkjimcmdaaPEach
import Derived.Test.YtfkjghkjimcmdaaPParts
import Derived.Test.YtfkjghkjimcmdaaPFirst
import Derived.Test.YtfkjghkjimcmdaaPOwn
import Derived.Test.YtfkjghkjimcmdaaPTurned
import Derived.Test.YtfkjghkjimcmdaaPTurnVal
import Derived.Test.YtfkjghkjimcmdaaPFresh
import Derived.Test.YtfkjghkjimcmdaaPFit
import Derived.Test.YtfkjghkjimcmdaaPDraw
import Derived.Test.YtfkjghkjimcmdaaPDrawWear
import Derived.Test.YtfkjghkjimcmdaaPTurnsLeftL
import Derived.Test.YtfkjghkjimcmdaaPFirstWornL
import Derived.Test.YtfkjghkjimcmdaaPWornOutL
import Derived.Test.YtfkjghkjimcmdaaPDrumOfWearL
import Derived.Test.YtfkjghkjimcmdaaPWornLaw
import Derived.Test.YtfkjghkjimcmdaaPure
import Derived.Test.YtfkjghkjimcmdaaSFnWorn
namespace Go.Proofs.Ytfkjghkjimcmdaa
open Eng
set_option linter.unusedVariables false
set_option linter.unusedSimpArgs false

theorem fits_small {w : GWear} (hsm : smallW w) (hpl : w.fPins.length ≤ 2304) {n : Int} (h0 : 0 ≤ n) (hn : n ≤ 100) : fits w n = true := by
  refine fits_of h0 (fun p hp => ?_) (fun t x hx => ?_)
  · have := hsm.1 p hp; omega
  · have h1 := hsm.2 x (List.mem_of_getElem? hx)
    have h2 : cnt w.fPins t ≤ 2304 := Nat.le_trans (cnt_le _ _) hpl
    have h3 : (cnt w.fPins t : Int) * n ≤ 2304 * 100 := Int.mul_le_mul (by omega) hn h0 (by omega)
    omega
theorem fits_turn {w : GWear} (hsm : smallW w) (hpl : w.fPins.length ≤ 2304) {k : Int} (h0 : 0 ≤ k) (hk : k ≤ 10) : fits (turnV w k) 1 = true := by
  refine fits_of (by omega) (fun p hp => ?_) (fun t x hx => ?_)
  · obtain ⟨i, hi, rfl⟩ := List.mem_mapIdx.1 hp
    have := hsm.1 _ (List.getElem_mem hi)
    simp only [tp]; omega
  · unfold turnV at hx
    simp only [List.getElem?_mapIdx, Option.map_eq_some_iff] at hx
    obtain ⟨y, hy, rfl⟩ := hx
    have h1 := hsm.2 y (List.mem_of_getElem? hy)
    have h2 : cnt w.fPins t ≤ 2304 := Nat.le_trans (cnt_le _ _) hpl
    have h3 : (cnt w.fPins t : Int) * k ≤ 2304 * 10 := Int.mul_le_mul (by omega) hk h0 (by omega)
    have h4 : 0 ≤ (cnt w.fPins t : Int) * k := Int.mul_nonneg (by omega) h0
    have h5 : cnt (turnV w k).fPins t = cnt w.fPins t := cnt_turn _ _ _
    rw [h5]
    simp only [gS]; omega
theorem turned_loop {f : GFrame} {w : GWear} (hi : FIn f) (h : WOk f w) (hsm : smallW w) (hpl : w.fPins.length ≤ 2304) {n : Nat} (hn : n ≤ 6) :
    (∀ k : Nat, k ≤ n → WOk f (turnV w k)) ∧ loop (laws_FnWorn.l_43 f (n : Int)) (w.fPins, w.fStrokes, 0) = some (.inr ((turnV w n).fPins, (turnV w n).fStrokes)) := by
  have hh1 := h.fr.h1
  have hsl := h.sl
  have hall : ∀ k : Nat, k ≤ 6 → WOk f (turnV w k) := fun k hk =>
    (turnWear_val hi h (by omega) (by omega) (by omega) (n := (k : Int)) (by omega) (fits_small hsm hpl (by omega) (by omega))).2.2
  refine ⟨fun k hk => hall k (by omega), ?_⟩
  have := loop_seq (f := laws_FnWorn.l_43 f (n : Int)) n (fun k => ((turnV w k).fPins, (turnV w k).fStrokes, (k : Int))) (.inr ((turnV w n).fPins, (turnV w n).fStrokes)) (fun k hk => by
    have hok := hall k (by omega)
    have e := (turnWear_val hi hok (by omega) (by simp [turnV]; omega) (by simp [turnV]; omega) (n := 1) (by omega) (fits_turn hsm hpl (by omega) (by omega))).1
    rw [turnV_add] at e
    simp only [laws_FnWorn.l_43]
    rw [if_pos (by simpa using hk), show (⟨(turnV w k).fPins, (turnV w k).fStrokes⟩ : GWear) = turnV w k from rfl, e]
    simp only [Option.bind_some, bne_self_eq_false, Bool.false_eq_true, if_false]
    rw [w64_in (n := (k : Int) + 1) (by omega) (by omega)]
    rfl) (by
    simp only [laws_FnWorn.l_43]
    rw [if_neg (by simp)])
  rw [show ((0 : Nat) : Int) = 0 from rfl, turnV_zero] at this
  exact this
theorem FnWorn_ok (code0 more1 : List Int) (o0 : (code0.length ≤ 9223372036854775807 ∧ ∀ y ∈ code0, (0 ≤ y ∧ y ≤ 255))) (o1 : (more1.length ≤ 9223372036854775807 ∧ ∀ y ∈ more1, (0 ≤ y ∧ y ≤ 255))) : laws_FnWorn code0 more1 = some true := by
  have main : laws_FnWorn.k_2 code0 more1 false = some true := by
    obtain ⟨f, e1, hf, f1, f2⟩ := p6Frame_is code0 o0.2
    have hi : FIn f := ⟨by have := hf.s0; have := hf.s1; omega, fun y hy => by have := hf.hp y hy; omega⟩
    obtain ⟨w, e2, hw, hsm⟩ := p6Wear_is hi hf more1 o1.2
    obtain ⟨v, e3, hv1, hv2⟩ := p6Lives_is more1 o1.2
    obtain ⟨n, e4, n0, n1⟩ := p6Pick_is code0 o0.2 (n := 6) (by omega) (by omega)
    obtain ⟨d, e5, hd, hdb⟩ := p6Drum_is hf code0 o0.2
    obtain ⟨n, rfl⟩ : ∃ m : Nat, n = (m : Int) := ⟨n.toNat, by omega⟩
    have hpl := pins_le' hw
    have hsl := hw.sl
    have hh1 := hf.h1; have hs1 := hf.s1
    have hwi : ∀ u : GWear, WOk f u → WIn u := fun u hu p hp => by have := hu.pl p hp; omega
    have hlv : livB v = true := by unfold livB; simp only [Bool.and_eq_true, decide_eq_true_eq]; omega
    have hS : ∀ t, t < f.fHammers.length → 0 ≤ stroke w t ∧ stroke w t ≤ 11 := fun t ht => by
      have hl : t < w.fStrokes.length := by omega
      unfold stroke
      rw [List.getElem?_eq_getElem hl, Option.getD_some]
      exact hsm.2 _ (List.getElem_mem hl)
    have hnp : wornPins w v = [] := by
      unfold wornPins
      rw [List.filter_eq_nil_iff]
      intro p hp hc
      have := hsm.1 p hp
      have hc' : p.fTurns > v.fPin := of_decide_eq_true hc
      omega
    have hnh : wornHams f.fHammers.length w v = [] := by
      unfold wornHams
      rw [List.map_eq_nil_iff, List.filter_eq_nil_iff]
      intro t ht hc
      rw [List.mem_range] at ht
      have := hS t ht
      have hc' : stroke w t > v.fHammer := of_decide_eq_true hc
      omega
    have hn : (partsL f w v).any wornB = false := by rw [worn_any, hnp, hnh]; rfl
    obtain ⟨t1, t2, t3⟩ := turnWear_val hi hw (by omega) (by omega) (by omega) (n := (n : Int)) (by omega) (fits_small hsm hpl (by omega) (by omega))
    obtain ⟨_, hloop⟩ := turned_loop hi hw hsm hpl (show n ≤ 6 by omega)
    obtain ⟨b1, b2⟩ := fresh_back hi hf hdb hd
    have l1 := turnsLeft_val hi hw (hwi w hw) hlv (by omega) (by omega) (by omega) hn
    have l2 : spec_TurnsLeft f w v = some ((firstF (partsL f w v)).2, 0) := by
      obtain ⟨r, r1, r2⟩ := turnsLeft_same f w v hi (hwi w hw) (by omega) (by omega) (by omega)
      rw [l1] at r1; rw [r2, ← r1]
    have w1 := firstWorn_val hi hw (hwi w hw) hlv (by omega) (by omega) (by omega) hn
    have w2 : spec_FirstWorn f w v = some (if (firstF (partsL f w v)).2 = 1000000 then (0, 0, 0, 6) else (w64 ((firstF (partsL f w v)).2 + 1), (firstF (partsL f w v)).1.fstep, (firstF (partsL f w v)).1.ftrack, 0)) := by
      obtain ⟨r, r1, r2⟩ := firstWorn_same f w v hi (hwi w hw) (by omega) (by omega) (by omega)
      rw [w1] at r1; rw [r2, ← r1]
    have hp3 : (turnV w n).fPins.length ≤ 1048576 := by simp [turnV]; omega
    have hs3 : (turnV w n).fStrokes.length ≤ 1048576 := by simp [turnV]; omega
    have s1 := sameWear_refl (turnV w n) hp3 hs3
    have s2 := sameWearI_refl (turnV w n) hp3 hs3
    have vw : impl_ValidWear f (turnV w n) = some true := by rw [validWear_is f _ (by omega) hp3 hs3, wearB_of t3]
    have vl : impl_ValidLives v = some true := by rw [validLives_is, hlv]
    have wo := wornOut_val hi hw (hwi w hw) hlv (by omega) (by omega) (by omega)
    rw [hnp, hnh] at wo
    have eta : (⟨(turnV w n).fPins, (turnV w n).fStrokes⟩ : GWear) = turnV w n := rfl
    simp only [laws_FnWorn.k_2, Bool.false_eq_true, if_false, e1, e2, e3, e4, Option.bind_some, t1, t2, hloop, laws_FnWorn.k_13, e5, b1, b2, l1, l2, w1, w2, eta, s1, s2, vw, vl, bne_self_eq_false, Bool.or_false, Bool.false_or, Bool.not_true, Bool.or_self, beq_self_eq_true, laws_FnWorn.k_22, wo]
    simp only [List.length_nil, Int.ofNat_zero, gt_iff_lt, Int.lt_irrefl, decide_false, Bool.or_self, Bool.false_eq_true, if_false, laws_FnWorn.k_25, bne_self_eq_false]
    rw [if_neg (by decide)]
    by_cases hm : (firstF (partsL f w v)).2 = 1000000
    · simp [hm]
    · obtain ⟨m0, m51, fi1, fi2, p0, q0, hcase⟩ := behind_left hw hsm hv1 hv2 hm
      obtain ⟨c1, _, c3⟩ := turnWear_val hi hw (by omega) (by omega) (by omega) (n := (firstF (partsL f w v)).2) (by omega) fi1
      obtain ⟨d1, _, d3⟩ := turnWear_val hi hw (by omega) (by omega) (by omega) (n := (firstF (partsL f w v)).2 + 1) (by omega) fi2
      have wo1 := wornOut_val hi c3 (hwi _ c3) hlv (by omega) (by simp [turnV]; omega) (by simp [turnV]; omega)
      have wo2 := wornOut_val hi d3 (hwi _ d3) hlv (by omega) (by simp [turnV]; omega) (by simp [turnV]; omega)
      rw [p0, q0] at wo1
      have ew : w64 ((firstF (partsL f w v)).2 + 1) = (firstF (partsL f w v)).2 + 1 := w64_in (by omega) (by omega)
      simp only [if_neg hm, ew, c1, d1, wo1, wo2, Option.bind_some, bne_self_eq_false, Bool.false_eq_true, if_false, if_true, List.length_nil, Int.ofNat_zero, Bool.or_self]
      rcases hcase with ⟨g1, g2, g3, g4, p, rest, hp, h1, h2⟩ | ⟨g1, hp, rest, hq⟩
      · rw [hp]
        have i0 : ix (p :: rest) 0 = some p := rfl
        simp only [i0, Option.bind_some, h1, h2]
        rw [w64_in (n := (firstF (partsL f w v)).1.fstep) (by omega) (by omega), w64_in (n := (firstF (partsL f w v)).1.ftrack) (by omega) (by omega)]
        simp [g1]
      · rw [hp, hq]
        have i0 : ix ((firstF (partsL f w v)).1.ftrack :: rest) 0 = some (firstF (partsL f w v)).1.ftrack := rfl
        simp only [i0, Option.bind_some, g1]
        simp
  simp only [laws_FnWorn, laws_f6big, Option.bind_some]
  by_cases h1 : (code0.length : Int) > 4096
  · rw [if_pos (by simpa using h1)]; rfl
  · rw [if_neg (by simpa using h1)]
    by_cases h2 : (more1.length : Int) > 4096
    · rw [show decide ((more1.length : Int) > 4096) = true by simpa using h2]; rfl
    · rw [show decide ((more1.length : Int) > 4096) = false by simpa using h2]; exact main

end Go.Proofs.Ytfkjghkjimcmdaa
