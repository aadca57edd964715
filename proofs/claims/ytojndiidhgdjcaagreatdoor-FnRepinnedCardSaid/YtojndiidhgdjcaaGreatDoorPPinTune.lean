/- Pinning a tune: the program's answer is the reference's. -/
import Derived.Test.YtojndiidhgdjcaaGreatDoorM0
import Derived.Test.YtojndiidhgdjcaaGreatDoorM1
import Derived.Test.YtojndiidhgdjcaaGreatDoorPFrame
import Derived.Test.YtojndiidhgdjcaaGreatDoorPDrum
import Derived.Test.YtojndiidhgdjcaaGreatDoorPCodes
import Derived.Test.YtojndiidhgdjcaaGreatDoorPPut
import Derived.Test.YtojndiidhgdjcaaGreatDoorPTune
import Derived.Test.YtojndiidhgdjcaaGreatDoorPChoices
import Derived.Test.YtojndiidhgdjcaaGreatDoorPFit
import Derived.Test.YtojndiidhgdjcaaGreatDoorPPlc
import Derived.Test.YtojndiidhgdjcaaGreatDoorPByTr
import Derived.Test.YtojndiidhgdjcaaGreatDoorPWithout
import Derived.Test.YtojndiidhgdjcaaGreatDoorPPins
import Derived.Test.YtojndiidhgdjcaaGreatDoorPPinRun
import Derived.Test.YtojndiidhgdjcaaGreatDoorPure
namespace Go.Proofs.YtojndiidhgdjcaaGreatDoor
open Eng
set_option linter.unusedVariables false
set_option linter.unusedSimpArgs false

def lenV (t : List GNote) : Int := match t.getLast? with | some n => n.fAt + 1 | none => 0
theorem length_both {t : List GNote} (ht : TOk t) : impl_Tune_length t = some (lenV t) ∧ spec_l01Length t = some (lenV t) := by
  have htl := ht.len
  unfold impl_Tune_length spec_l01Length lenV
  by_cases h0 : t.length = 0
  · rw [if_pos (by simp; exact List.length_eq_zero_iff.1 h0), List.length_eq_zero_iff.1 h0]
    exact ⟨rfl, rfl⟩
  · have hl : t.length - 1 < t.length := by omega
    have hw : w64 ((t.length : Int) - 1) = ((t.length - 1 : Nat) : Int) := by rw [w64_in (by omega) (by omega)]; omega
    have hn := ht.nt _ (List.getElem_mem hl)
    rw [if_neg (by simp only [beq_iff_eq]; omega), hw, ix_lt hl, List.getLast?_eq_getElem?, List.getElem?_eq_getElem hl]
    simp only [Option.bind_some]
    rw [w64_in (n := t[t.length - 1].fAt) (by omega) (by omega), w64_in (by omega) (by omega)]
    exact ⟨rfl, rfl⟩
theorem len_all {t : List GNote} (ht : TOk t) {s : Int} (h : lenV t ≤ s) : ∀ n ∈ t, n.fAt < s := by
  intro n hn
  obtain ⟨i, hi, rfl⟩ := List.getElem_of_mem hn
  have hl : t.length - 1 < t.length := by omega
  unfold lenV at h
  rw [List.getLast?_eq_getElem?, List.getElem?_eq_getElem hl] at h
  simp only at h
  by_cases c : i = t.length - 1
  · subst c; omega
  · have := List.pairwise_iff_getElem.1 ht.so i (t.length - 1) hi hl (by omega)
    rw [befN_iff] at this
    omega
def fitsV (f : GFrame) (t : List GNote) (budget : Int) : Int :=
  if frameB f = true ∧ tuneB t = true then (if lenV t ≤ f.fSteps ∧ 0 ≤ budget ∧ budget ≤ 20000 then 0 else 2) else 1
theorem l03Fits_is {f : GFrame} {t : List GNote} (budget : Int) (hi : FIn f) (hl : f.fHammers.length ≤ 9223372036854775807) (ht : t.length ≤ 9223372036854775807) (hn : ∀ n ∈ t, NIn n) : spec_l03Fits f t budget = some (fitsV f t budget) := by
  have h1 := l02Frame_is f hl
  have h2 := l01Ok_is ht hn
  unfold fitsV
  cases hf : frameB f with
  | false => rw [hf] at h1; simp [spec_l03Fits, h1, spec_l03Fits.k_2]
  | true =>
    rw [hf] at h1
    cases htb : tuneB t with
    | false => rw [htb] at h2; simp [spec_l03Fits, h1, h2, spec_l03Fits.k_2]
    | true =>
      rw [htb] at h2
      have hfo := frameB_ok hf hi
      have hs0 := hfo.s0; have hs1 := hfo.s1
      simp only [spec_l03Fits, h1, h2, Option.bind_some, spec_l03Fits.k_2, (length_both (tuneB_ok htb)).2, spec_l00In, spec_l03Fits.k_4, Bool.not_true, Bool.false_eq_true, if_false]
      rw [w64_in (n := f.fSteps) (by omega) (by omega)]
      by_cases c : lenV t ≤ f.fSteps
      · by_cases c2 : 0 ≤ budget ∧ budget ≤ 20000
        · simp [c, c2]
        · have : ¬ (lenV t ≤ f.fSteps ∧ 0 ≤ budget ∧ budget ≤ 20000) := fun e => c2 e.2
          have c3 : (decide (budget ≥ 0) && decide (budget ≤ 20000)) = false := by rw [Bool.eq_false_iff]; simpa using c2
          simp only [c3]
          simp [c]
          intro a; omega
      · have : f.fSteps < lenV t := by omega
        simp [c, this]
theorem fits_ok {f : GFrame} {t : List GNote} {budget : Int} (hi : FIn f) (h : fitsV f t budget = 0) {old : Arr 96 Int} (ho : DIn old) : PinOk f t old budget := by
  unfold fitsV at h
  split at h
  · rename_i c
    split at h
    · rename_i c2
      exact ⟨frameB_ok c.1 hi, tuneB_ok c.2, len_all (tuneB_ok c.2) c2.1, ho, c2.2⟩
    · cases h
  · cases h
def pinV (f : GFrame) (t : List GNote) (old : Arr 96 Int) (like : Bool) (budget : Int) : PS := pinS f t old like budget t.length 0 (Arr.rep 96 0) 0 ⟨0, false, false, 0, Arr.rep 96 0⟩
theorem pin_all {f : GFrame} {t : List GNote} {old : Arr 96 Int} {budget : Int} (h : PinOk f t old budget) (like : Bool) :
    impl_pinner_pin (⟨f, t, old, budget, 0, false, false, 0, Arr.rep 96 0, like⟩ : Gpinner) (Arr.rep 96 0) 0 0 = some (mkP f t old like budget (pinV f t old like budget)) ∧
    ∃ d', spec_l03Pinner_from (⟨f, t, old, like, budget, 0, false, Arr.rep 96 0, false, Arr.rep 96 0, 0⟩ : Gl03Pinner) 0 0 = some (stopB like (pinV f t old like budget), mkQ f t old like budget (pinV f t old like budget) d') := by
  have htl := h.ht.len
  have hr0 : PsOk budget ⟨0, false, false, 0, Arr.rep 96 0⟩ := ⟨by show (0 : Int) ≤ 0; omega, h.hb.1⟩
  have e : t.length + 1 + (199 - t.length) = 200 := by omega
  have h1 := (pin_rec h like t.length 0 (Arr.rep 96 0) 0 ⟨0, false, false, 0, Arr.rep 96 0⟩ (199 - t.length) (by omega) DIn_rep (by omega) hr0 rfl).1
  obtain ⟨d', h2, _⟩ := from_rec h like t.length 0 (Arr.rep 96 0) 0 ⟨0, false, false, 0, Arr.rep 96 0⟩ (199 - t.length) (by omega) DIn_rep (by omega) hr0 rfl
  rw [e] at h1 h2
  exact ⟨h1, d', h2⟩
def pinTuneV (f : GFrame) (t : List GNote) (budget : Int) : Arr 96 Int × Int × Int :=
  if fitsV f t budget = 0 then (if (pinV f t (Arr.rep 96 0) false budget).over = true then (Arr.rep 96 0, 0, 7) else if (pinV f t (Arr.rep 96 0) false budget).found = false then (Arr.rep 96 0, 0, 6)
    else ((pinV f t (Arr.rep 96 0) false budget).best, (pinV f t (Arr.rep 96 0) false budget).tries, 0)) else (Arr.rep 96 0, 0, fitsV f t budget)
end Go.Proofs.YtojndiidhgdjcaaGreatDoor
