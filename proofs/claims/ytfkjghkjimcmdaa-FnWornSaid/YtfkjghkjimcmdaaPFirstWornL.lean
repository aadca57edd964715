/- The program's way and the reference's, of the law FirstWorn. -/
import Derived.Test.YtfkjghkjimcmdaaM2
import Derived.Test.YtfkjghkjimcmdaaPFrame
import Derived.Test.YtfkjghkjimcmdaaPDrum
import Derived.Test.YtfkjghkjimcmdaaPWear
import Derived.Test.YtfkjghkjimcmdaaPPut
import Derived.Test.YtfkjghkjimcmdaaPWDrum
import Derived.Test.YtfkjghkjimcmdaaPEach
import Derived.Test.YtfkjghkjimcmdaaPParts
import Derived.Test.YtfkjghkjimcmdaaPFirst
import Derived.Test.YtfkjghkjimcmdaaPure
namespace Go.Proofs.Ytfkjghkjimcmdaa
open Eng
set_option linter.unusedVariables false
set_option linter.unusedSimpArgs false

theorem firstWorn_same (f : GFrame) (w : GWear) (v : GLives) (hi : FIn f) (hw : WIn w) (hf : f.fHammers.length ≤ 1048576) (hp : w.fPins.length ≤ 1048576) (hs : w.fStrokes.length ≤ 1048576) :
    ∃ r, impl_FirstWorn f w v = some r ∧ spec_FirstWorn f w v = some r := by
  simp only [impl_FirstWorn, spec_FirstWorn, lifeCode_is hi hw hf hp hs, l06Lived_is f w hf hp hs v, Option.bind_some]
  by_cases c : wearB f w = true ∧ livB v = true
  · have hok := wearB_ok c.1 hi hw
    have hs1 := hok.fr.s1
    have hh1 := hok.fr.h1
    have hl := partsL_len f w v
    simp only [if_pos c, whole_is hok hp v, Option.bind_some, least_is hok hp v, impl_Wear_first, parts_is hok hp v, first_is _ (show (partsL f w v).length ≤ 9223372036854775807 by omega), impl_Wear_first.k_8]
    cases (partsL f w v).any wornB with
    | true => exact ⟨(0, 0, 0, 4), by simp, by simp⟩
    | false =>
      obtain ⟨hall, hmax, hfst⟩ := firstF_spec (partsL f w v)
      generalize hr : firstF (partsL f w v) = r at *
      obtain ⟨b, m⟩ := r
      simp only at hall hmax hfst
      by_cases hm : m = 1000000
      · exact ⟨(0, 0, 0, 6), by simp [hm], by simp [hm]⟩
      · obtain ⟨k, hk, hb, hmk, hlt⟩ := hfst (by omega)
        refine ⟨(w64 (m + 1), b.fstep, b.ftrack, 0), by simp [hm], ?_⟩
        simp only [Bool.not_false, bne_self_eq_false, Bool.false_eq_true, if_false, Bool.not_true]
        rw [if_neg (by simpa using hm)]
        have hget : ∀ i (hi : i < w.fPins.length), ∃ hi' : i < (partsL f w v).length, (partsL f w v)[i] = pinPart v w.fPins[i] := by
          intro i hi
          refine ⟨by omega, ?_⟩
          unfold partsL
          rw [List.getElem_append_left (by simpa using hi), List.getElem_map]
        have hget2 : ∀ t (ht : t < f.fHammers.length), ∃ hi' : w.fPins.length + t < (partsL f w v).length, (partsL f w v)[w.fPins.length + t] = hamPart w v t := by
          intro t ht
          refine ⟨by omega, ?_⟩
          unfold partsL
          rw [List.getElem_append_right (by simp)]
          simp
        -- the pins
        have hpin : ∃ t, loop (spec_FirstWorn.l_15 w v m) 0 = some t ∧ ((k < w.fPins.length ∧ t = .inl (w64 (m + 1), b.fstep, b.ftrack, 0)) ∨ (w.fPins.length ≤ k ∧ t = .inr ())) := by
          refine loop_cnt (f := spec_FirstWorn.l_15 w v m) w.fPins.length (by omega) (fun i => i ≤ k) _ (fun i hi hik => ?_) (fun hik => ⟨.inr (), by simp [spec_FirstWorn.l_15], .inr ⟨hik, rfl⟩⟩) (by omega)
          obtain ⟨hi', hgi⟩ := hget i hi
          have e := l06Left_is (pinPart v w.fPins[i])
          simp only [pinPart] at e
          by_cases hie : i = k
          · right
            subst hie
            refine ⟨.inl (w64 (m + 1), b.fstep, b.ftrack, 0), ?_, .inl ⟨hi, rfl⟩⟩
            rw [hgi] at hb hmk
            obtain ⟨⟨p1, p2⟩, ⟨p3, p4⟩, _⟩ := hok.pl _ (List.getElem_mem hi)
            simp only [spec_FirstWorn.l_15, ix_lt hi, Option.bind_some, e]
            rw [if_pos (by simpa using hi), if_pos (by simp only [beq_iff_eq]; rw [hmk]; rfl), w64_in (n := w.fPins[i].fStep) (by omega) (by omega), w64_in (n := w.fPins[i].fTrack) (by omega) (by omega), hb]
            rfl
          · left
            have := hlt i hi' (by omega)
            rw [hgi] at this
            refine ⟨?_, by omega⟩
            simp only [spec_FirstWorn.l_15, ix_lt hi, Option.bind_some, e]
            rw [if_pos (by simpa using hi), if_neg ?_]
            simp only [beq_iff_eq]
            simp only [pinPart] at this
            omega
        obtain ⟨t, ht, hc⟩ := hpin
        simp only [ht, Option.bind_some]
        rcases hc with ⟨hkp, rfl⟩ | ⟨hkp, rfl⟩
        · rfl
        · simp only [spec_FirstWorn.k_4, l06Each_is hok hp, Option.bind_some]
          have hkt : k - w.fPins.length < f.fHammers.length := by omega
          have hbk : b = hamPart w v (k - w.fPins.length) ∧ m = leftV (hamPart w v (k - w.fPins.length)) := by
            obtain ⟨_, hg⟩ := hget2 _ hkt
            have e : w.fPins.length + (k - w.fPins.length) = k := by omega
            simp only [e] at hg
            exact ⟨hb.trans hg, hmk.trans (congrArg leftV hg)⟩
          have hham : loop (spec_FirstWorn.l_9 w v m (eachL f.fHammers.length w.fPins)) 0 = some ((k - w.fPins.length : Nat) : Int) := by
            have step : ∀ i (hi : i < f.fHammers.length), spec_FirstWorn.l_9 w v m (eachL f.fHammers.length w.fPins) (i : Int) = some (if leftV (hamPart w v i) ≠ m then .inl (w64 ((i : Int) + 1)) else .inr (i : Int)) := by
              intro i hi
              have e := l06Left_is (hamPart w v i)
              simp only [hamPart] at e
              simp only [spec_FirstWorn.l_9, (stroke_ix hok hi).1, ix_get (eachL_get f.fHammers.length w.fPins i hi), Option.bind_some, e]
              simp only [hamPart]
              by_cases hc : leftV ⟨stroke w i, (cnt w.fPins i : Int), v.fHammer, -1, (i : Int)⟩ = m
              · simp [hc]
              · simp [hc]
            have := loop_seq (f := spec_FirstWorn.l_9 w v m (eachL f.fHammers.length w.fPins)) (k - w.fPins.length) (fun i => (i : Int)) ((k - w.fPins.length : Nat) : Int) (fun i hi => by
              have hi2 : i < f.fHammers.length := by omega
              obtain ⟨hi', hg⟩ := hget2 i hi2
              have := hlt (w.fPins.length + i) hi' (by omega)
              rw [hg] at this
              rw [step i hi2, if_pos (by omega), w64_in (by omega) (by omega)]
              congr 2) (by
              rw [step _ hkt, if_neg (by rw [hbk.2]; simp)])
            simpa using this
          simp only [hham, Option.bind_some, spec_FirstWorn.k_7, hbk.1, hamPart]
  · simp only [if_neg c]
    exact ⟨(0, 0, 0, 1), by simp, by simp⟩

end Go.Proofs.Ytfkjghkjimcmdaa
