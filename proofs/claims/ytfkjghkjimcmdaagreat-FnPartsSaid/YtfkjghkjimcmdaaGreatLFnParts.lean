/- The law of parts: its plain function answers true at every input. -/
import Derived.Test.YtfkjghkjimcmdaaGreatM0
import Derived.Test.YtfkjghkjimcmdaaGreatM1
import Derived.Test.YtfkjghkjimcmdaaGreatM2
import Derived.Test.YtfkjghkjimcmdaaGreatM3
import Derived.Test.YtfkjghkjimcmdaaGreatPFrame
import Derived.Test.YtfkjghkjimcmdaaGreatPDrum
import Derived.Test.YtfkjghkjimcmdaaGreatPCodes
import Derived.Test.YtfkjghkjimcmdaaGreatPWear
import Derived.Test.YtfkjghkjimcmdaaGreatPPut
import Derived.Test.YtfkjghkjimcmdaaGreatPWDrum
import Derived.Test.YtfkjghkjimcmdaaGreatPEach
import Derived.Test.YtfkjghkjimcmdaaGreatPParts
import Derived.Test.YtfkjghkjimcmdaaGreatPFirst
import Derived.Test.YtfkjghkjimcmdaaGreatPTimes
import Derived.Test.YtfkjghkjimcmdaaGreatPOwn
import Derived.Test.YtfkjghkjimcmdaaGreatPWPlace
import Derived.Test.YtfkjghkjimcmdaaGreatPPinAt
import Derived.Test.YtfkjghkjimcmdaaGreatPRenew
import Derived.Test.YtfkjghkjimcmdaaGreatPTurned
import Derived.Test.YtfkjghkjimcmdaaGreatPTurnVal
import Derived.Test.YtfkjghkjimcmdaaGreatPRenewLoop
import Derived.Test.YtfkjghkjimcmdaaGreatPRound
import Derived.Test.YtfkjghkjimcmdaaGreatPSim
import Derived.Test.YtfkjghkjimcmdaaGreatPAfter
import Derived.Test.YtfkjghkjimcmdaaGreatPUsed
import Derived.Test.YtfkjghkjimcmdaaGreatPCheapestLivesL
import Derived.Test.YtfkjghkjimcmdaaGreatPPrice
import Derived.Test.YtfkjghkjimcmdaaGreatPFresh
import Derived.Test.YtfkjghkjimcmdaaGreatPFit
import Derived.Test.YtfkjghkjimcmdaaGreatPDraw
import Derived.Test.YtfkjghkjimcmdaaGreatPDrawWear
import Derived.Test.YtfkjghkjimcmdaaGreatPWornOutL
import Derived.Test.YtfkjghkjimcmdaaGreatPWornLaw
import Derived.Test.YtfkjghkjimcmdaaGreatPure
import Derived.Test.YtfkjghkjimcmdaaGreatSFnParts
namespace Go.Proofs.YtfkjghkjimcmdaaGreat
open Eng
set_option linter.unusedVariables false
set_option linter.unusedSimpArgs false

theorem rounds_loop {f : GFrame} {v : GLives} {w : GWear} (g : Lively f v w) (hw : ∀ p ∈ w.fPins, p.fTurns ≤ v.fPin) (hs : ∀ t, t < f.fHammers.length → stroke w t ≤ v.fHammer) (hv : livB v = true) (hsm : v.fPin ≤ 100 ∧ v.fHammer ≤ 100) {n : Nat} (hn : n ≤ 60) :
    loop (laws_FnParts.l_30 f v (n : Int)) (w.fPins, w.fStrokes, 0, 0, 0) = some (.inr ((afterW f v w n).fPins, (afterW f v w n).fStrokes, usedP v w n, usedH f v w n)) := by
  have hpl := g.pl
  have hh1 := g.ok.fr.h1
  have := loop_seq (f := laws_FnParts.l_30 f v (n : Int)) n (fun k => ((afterW f v w k).fPins, (afterW f v w k).fStrokes, usedP v w k, usedH f v w k, (k : Int))) (.inr ((afterW f v w n).fPins, (afterW f v w n).fStrokes, usedP v w n, usedH f v w n)) (fun k hk => by
    have h := after_ok g k
    have hl := after_len f v w k h
    have hsl := h.ok.sl
    have hu := used_bd g k
    have hu1 := used_bd g (k + 1)
    have hfit : fits (afterW f v w k) 1 = true := by
      refine fits_of (by omega) (fun p hp => ?_) (fun t x hx => ?_)
      · have h1 := h.ok.pl p hp
        have h2 := (after_whole g hw hs k).1
        unfold wornPins at h2
        rw [List.filter_eq_nil_iff] at h2
        have h3 := h2 p hp
        rw [decide_eq_true_eq] at h3
        omega
      · have ht : t < f.fHammers.length := by
          rcases Nat.lt_or_ge t (afterW f v w k).fStrokes.length with h' | h'
          · omega
          · rw [List.getElem?_eq_none h'] at hx; cases hx
        have ex : stroke (afterW f v w k) t = x := by unfold stroke; rw [hx]; rfl
        have h2 := (after_whole g hw hs k).2
        unfold wornHams at h2
        rw [List.map_eq_nil_iff, List.filter_eq_nil_iff] at h2
        have h3 := h2 t (by rw [List.mem_range]; exact ht)
        rw [decide_eq_true_eq, ex] at h3
        have h4 := (stroke_ix h.ok ht).2
        rw [ex] at h4
        have h5 := g.c t ht
        rw [after_cnt h]
        omega
    obtain ⟨t1, t2⟩ := turnWear_spec g.fin h.ok (by omega) (by omega) (by omega) (n := 1) (by omega) hfit
    have hwi : WIn (turnV (afterW f v w k) 1) := fun p hp => by have := t2.pl p hp; have := g.ok.fr.s1; omega
    have hp3 : (turnV (afterW f v w k) 1).fPins.length ≤ 1048576 := by simp [turnV]; omega
    have hs3 : (turnV (afterW f v w k) 1).fStrokes.length ≤ 1048576 := by simp [turnV]; omega
    have wo := wornOut_val g.fin t2 hwi hv (by omega) hp3 hs3
    have wo2 : spec_WornOut f (turnV (afterW f v w k) 1) v = some (wornPins (turnV (afterW f v w k) 1) v, wornHams f.fHammers.length (turnV (afterW f v w k) 1) v, 0) := by
      obtain ⟨r, r1, r2, _⟩ := wornOut_same f (turnV (afterW f v w k) 1) v g.fin hwi (by omega) hp3 hs3
      rw [wo] at r1; rw [r2, ← r1]
    obtain ⟨a1, a2, a3⟩ := renew_all g h (usedP v w k) (usedH f v w k) (by omega) (by omega) (wornPins (turnV (afterW f v w k) 1) v, wornHams f.fHammers.length (turnV (afterW f v w k) 1) v, 0) rfl rfl
    obtain ⟨b1, b2⟩ := round_ok g.fin h.ok (by omega) ⟨g.p1, g.p2⟩ g.h2 (fun t ht => by rw [after_cnt h]; exact g.c t ht) a3
    rw [← usedP_succ h] at a1
    rw [← usedH_succ h] at a2
    have eta : (⟨(afterW f v w k).fPins, (afterW f v w k).fStrokes⟩ : GWear) = afterW f v w k := rfl
    have eta2 : (⟨(renewed f v (afterW f v w k)).fPins, (renewed f v (afterW f v w k)).fStrokes⟩ : GWear) = renewed f v (afterW f v w k) := rfl
    simp only [laws_FnParts.l_30, eta, t1, wo2, Option.bind_some, bne_self_eq_false, Bool.or_self, Bool.false_eq_true, if_false, a1, laws_FnParts.k_39, a2, laws_FnParts.k_45, eta2, b1]
    rw [if_pos (by simpa using hk), w64_in (n := (k : Int) + 1) (by omega) (by omega)]
    rfl) (by
    simp only [laws_FnParts.l_30]
    rw [if_neg (by simp)])
  rw [usedP_zero, usedH_zero] at this
  exact this
theorem FnParts_ok (code0 more1 : List Int) (o0 : (code0.length ≤ 9223372036854775807 ∧ ∀ y ∈ code0, (0 ≤ y ∧ y ≤ 255))) (o1 : (more1.length ≤ 9223372036854775807 ∧ ∀ y ∈ more1, (0 ≤ y ∧ y ≤ 255))) : laws_FnParts code0 more1 = some true := by
  have main : laws_FnParts.k_2 code0 more1 false = some true := by
    obtain ⟨f, e1, hf, f1, f2⟩ := p6Frame_is code0 o0.2
    have hi : FIn f := ⟨by have := hf.s0; have := hf.s1; omega, fun y hy => by have := hf.hp y hy; omega⟩
    obtain ⟨w, e2, hw, hsm⟩ := p6Wear_is hi hf more1 o1.2
    obtain ⟨v, e3, hv1, hv2⟩ := p6Lives_is more1 o1.2
    obtain ⟨u, e5, hu1, hu2⟩ := p6Lives_is code0 o0.2
    obtain ⟨n, e4, n0, n1⟩ := p6Pick_is code0 o0.2 (n := 60) (by omega) (by omega)
    obtain ⟨n, rfl⟩ : ∃ m : Nat, n = (m : Int) := ⟨n.toNat, by omega⟩
    have hpl := pins_le' hw
    have hsl := hw.sl
    have hh1 := hf.h1; have hs1 := hf.s1
    have hwi : ∀ x : GWear, WOk f x → WIn x := fun x hx p hp => by have := hx.pl p hp; omega
    have hlv : livB v = true := by unfold livB; simp only [Bool.and_eq_true, decide_eq_true_eq]; omega
    have hlu : livB u = true := by unfold livB; simp only [Bool.and_eq_true, decide_eq_true_eq]; omega
    have htu : tuB (n : Int) = true := by unfold tuB; simp only [Bool.and_eq_true, decide_eq_true_eq]; omega
    have hS : ∀ t, t < f.fHammers.length → 0 ≤ stroke w t ∧ stroke w t ≤ 11 := fun t ht => by
      have hl : t < w.fStrokes.length := by omega
      unfold stroke
      rw [List.getElem?_eq_getElem hl, Option.getD_some]
      exact hsm.2 _ (List.getElem_mem hl)
    have q1 := partsFor_is hi (hwi w hw) (show f.fHammers.length ≤ 1048576 by omega) (show w.fPins.length ≤ 1048576 by omega) (show w.fStrokes.length ≤ 1048576 by omega) (v := v) (n : Int)
    rw [if_pos ⟨wearB_of hw, hlv⟩, if_pos htu] at q1
    have q2 : spec_PartsFor f w v n = some (partsV f w v n) := by
      simp only [spec_PartsFor, l06Lived_is f w (show f.fHammers.length ≤ 1048576 by omega) (show w.fPins.length ≤ 1048576 by omega) (show w.fStrokes.length ≤ 1048576 by omega) v, Option.bind_some, wearB_of hw, hlv, l06Turns_is, htu, l06Parts_is hw (show w.fPins.length ≤ 1048576 by omega) hlv (show (0 : Int) ≤ n by omega) (show (n : Int) ≤ 1000000 by omega)]
      simp
    obtain ⟨r, c1, c2⟩ := cheap_same f w 2 3 n [v, u, (⟨30, 50⟩ : GLives)] hi (hwi w hw) (by omega) (by omega) (by omega) (by simp)
    have c3 := price_law hi (hwi w hw) hw (by omega) (by omega) (show (0 : Int) ≤ n by omega) (by omega) hlv hlu r c2
    have hfin : laws_FnParts.k_14 f w v n (partsV f w v n) (partsV f w v n) = some true := by
      by_cases hb : (partsL f w v).any badB = true
      · have : partsV f w v n = (0, 0, 4) := by unfold partsV; rw [if_pos hb]
        simp [laws_FnParts.k_14, this]
      · have hb' : (partsL f w v).any badB = false := by simpa using hb
        have hpv : partsV f w v n = (sumT n (pinL w v), sumT n (hamL f w v), 0) := by unfold partsV; rw [if_neg hb]
        have hgood := good_parts hw hlv hb'
        have hham : ∀ t, t < f.fHammers.length → (cnt w.fPins t : Int) ≤ v.fHammer ∧ stroke w t ≤ v.fHammer := fun t ht => by
          have := hgood (hamPart w v t) (List.mem_append_right _ (List.mem_map.2 ⟨t, by rw [List.mem_range]; exact ht, rfl⟩))
          exact ⟨this.2, this.1.m1⟩
        have hpin : ∀ p ∈ w.fPins, p.fTurns ≤ v.fPin := fun p hp => (hgood (pinPart v p) (List.mem_append_left _ (List.mem_map.2 ⟨p, hp, rfl⟩))).1.m1
        have g : Lively f v w := ⟨hi, hw, by omega, by omega, by omega, hpl, fun t ht => (hham t ht).1⟩
        have hl := rounds_loop g hpin (fun t ht => (hham t ht).2) hlv ⟨by omega, by omega⟩ (show n ≤ 60 by omega)
        have ha := after_ok g n
        have hlen := after_len f v w n ha
        have hsl2 := ha.ok.sl
        obtain ⟨z1, z2⟩ := after_whole g hpin (fun t ht => (hham t ht).2) n
        have wo := wornOut_val hi ha.ok (hwi _ ha.ok) hlv (by omega) (by omega) (by omega)
        rw [z1, z2] at wo
        have eta : (⟨(afterW f v w n).fPins, (afterW f v w n).fStrokes⟩ : GWear) = afterW f v w n := rfl
        simp only [laws_FnParts.k_14, hpv, bne_self_eq_false, Bool.false_eq_true, if_false, hl, Option.bind_some, laws_FnParts.k_21, eta, wo, usedP_sum g hpin n, usedH_sum g (fun t ht => (hham t ht).2) n]
        simp
    have hcode : ((partsV f w v n).2.2 != 0 && (partsV f w v n).2.2 != 4) = false := by
      unfold partsV
      split <;> simp
    simp only [laws_FnParts.k_2, Bool.false_eq_true, if_false, e1, e2, e3, e4, e5, Option.bind_some, q1, q2, bne_self_eq_false, Bool.or_self, hcode, laws_FnParts.k_10, c1, c2, c3, hfin]
  simp only [laws_FnParts, laws_f6big, Option.bind_some]
  by_cases h1 : (code0.length : Int) > 4096
  · rw [if_pos (by simpa using h1)]; rfl
  · rw [if_neg (by simpa using h1)]
    by_cases h2 : (more1.length : Int) > 4096
    · rw [show decide ((more1.length : Int) > 4096) = true by simpa using h2]; rfl
    · rw [show decide ((more1.length : Int) > 4096) = false by simpa using h2]; exact main

end Go.Proofs.YtfkjghkjimcmdaaGreat
