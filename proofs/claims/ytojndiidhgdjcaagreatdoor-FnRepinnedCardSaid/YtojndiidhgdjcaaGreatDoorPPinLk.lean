/- Pinning like an old drum: the program's answer is the reference's. -/
import Derived.Test.YtojndiidhgdjcaaGreatDoorM0
import Derived.Test.YtojndiidhgdjcaaGreatDoorM1
import Derived.Test.YtojndiidhgdjcaaGreatDoorM2
import Derived.Test.YtojndiidhgdjcaaGreatDoorPFrame
import Derived.Test.YtojndiidhgdjcaaGreatDoorPDrum
import Derived.Test.YtojndiidhgdjcaaGreatDoorPCodes
import Derived.Test.YtojndiidhgdjcaaGreatDoorPPut
import Derived.Test.YtojndiidhgdjcaaGreatDoorPTune
import Derived.Test.YtojndiidhgdjcaaGreatDoorPMadeS
import Derived.Test.YtojndiidhgdjcaaGreatDoorPChoices
import Derived.Test.YtojndiidhgdjcaaGreatDoorPFit
import Derived.Test.YtojndiidhgdjcaaGreatDoorPPlc
import Derived.Test.YtojndiidhgdjcaaGreatDoorPByTr
import Derived.Test.YtojndiidhgdjcaaGreatDoorPWithout
import Derived.Test.YtojndiidhgdjcaaGreatDoorPPins
import Derived.Test.YtojndiidhgdjcaaGreatDoorPPinRun
import Derived.Test.YtojndiidhgdjcaaGreatDoorPPinTune
import Derived.Test.YtojndiidhgdjcaaGreatDoorPure
namespace Go.Proofs.YtojndiidhgdjcaaGreatDoor
open Eng
set_option linter.unusedVariables false
set_option linter.unusedSimpArgs false

structure Gv (f : GFrame) (t : List GNote) : Prop where
  hf : FOk f
  ht : TOk t
  len : lenV t ≤ f.fSteps
theorem Gv.fi {f : GFrame} {t : List GNote} (h : Gv f t) : FIn f := ⟨by have := h.hf.s0; have := h.hf.s1; omega, fun y hy => by have := h.hf.hp y hy; omega⟩
theorem Gv.ni {f : GFrame} {t : List GNote} (h : Gv f t) : ∀ n ∈ t, NIn n := fun n hn => by have := h.ht.nt n hn; exact ⟨by omega, by omega⟩
theorem Gv.hl {f : GFrame} {t : List GNote} (h : Gv f t) : f.fHammers.length ≤ 9223372036854775807 := by have := h.hf.h1; omega
theorem Gv.tl {f : GFrame} {t : List GNote} (h : Gv f t) : t.length ≤ 9223372036854775807 := by have := h.ht.len; omega
theorem Gv.fits {f : GFrame} {t : List GNote} (h : Gv f t) {budget : Int} (hb : 0 ≤ budget ∧ budget ≤ 20000) : fitsV f t budget = 0 := by
  unfold fitsV
  rw [if_pos ⟨frameB_of h.hf, tuneB_of h.ht⟩, if_pos ⟨h.len, hb⟩]
theorem lenV_le {t : List GNote} {s : Int} (h0 : 0 ≤ s) (h : ∀ n ∈ t, n.fAt < s) : lenV t ≤ s := by
  unfold lenV
  cases hl : t.getLast? with
  | none => exact h0
  | some n =>
    have := h n (List.mem_of_getLast? hl)
    simp only
    omega
theorem tuneOn_ok {f : GFrame} {t : List GNote} (h : Gv f t) {old : Arr 96 Int} (ho : DIn old) (hB : drumB f old = true) {budget : Int} (hb : 0 ≤ budget ∧ budget ≤ 20000) : impl_tuneOnCode f t budget [old] = some 0 := by
  have hd := drumCode1 f h.fi h.hl old ho
  rw [if_pos ⟨frameB_of h.hf, hB⟩] at hd
  have htc := tuneCode1 h.tl h.ni
  rw [tuneB_of h.ht, if_pos rfl] at htc
  have hs0 := h.hf.s0; have hs1 := h.hf.s1
  simp only [impl_tuneOnCode, hd, htc, firstOf2, Option.bind_some, (length_both h.ht).1, impl_within, unless_is]
  rw [w64_in (n := f.fSteps) (by omega) (by omega)]
  simp [h.len, hb]
theorem whole_ok {f : GFrame} {t : List GNote} (h : Gv f t) {old : Arr 96 Int} (ho : DIn old) (hB : drumB f old = true) : spec_l03Whole f t old = some 0 := by
  have h1 := l02Frame_is f h.hl
  rw [frameB_of h.hf] at h1
  have h2 := l01Ok_is h.tl h.ni
  rw [tuneB_of h.ht] at h2
  have h3 := l02Drum_is h.hf ho
  rw [hB] at h3
  have hs0 := h.hf.s0; have hs1 := h.hf.s1; have hl := h.len
  simp only [spec_l03Whole, h1, h2, h3, Option.bind_some, spec_l03Whole.k_2, (length_both h.ht).2]
  rw [w64_in (n := f.fSteps) (by omega) (by omega)]
  simp [show ¬ f.fSteps < lenV t by omega]
def likeV (f : GFrame) (t : List GNote) (old : Arr 96 Int) (budget : Int) : Arr 96 Int × Int × Int × Int :=
  if (pinV f t old true budget).over = true then (Arr.rep 96 0, 0, 0, 7) else if (pinV f t old true budget).found = false then (Arr.rep 96 0, 0, 0, 6)
    else ((pinV f t old true budget).best, (pinV f t old true budget).most, (pinV f t old true budget).tries, 0)
theorem pinLike_is {f : GFrame} {t : List GNote} (h : Gv f t) {old : Arr 96 Int} (ho : DIn old) (hB : drumB f old = true) {budget : Int} (hb : 0 ≤ budget ∧ budget ≤ 20000) : impl_PinLike f old t budget = some (likeV f t old budget) ∧ spec_PinLike f old t budget = some (likeV f t old budget) := by
  have hfit := l03Fits_is budget h.fi h.hl h.tl h.ni
  rw [h.fits hb] at hfit
  obtain ⟨h1, d', h2⟩ := pin_all (fits_ok h.fi (h.fits hb) ho) true
  simp only [impl_PinLike, spec_PinLike, spec_PinLike.k_3, tuneOn_ok h ho hB hb, whole_ok h ho hB, hfit, Option.bind_some, bne_self_eq_false, beq_self_eq_true, Bool.false_eq_true, if_false, if_true, h1, h2, impl_pinner_code, mkP, mkQ, likeV]
  cases hov : (pinV f t old true budget).over with
  | true => simp
  | false =>
    cases hfo : (pinV f t old true budget).found with
    | true => simp
    | false => simp
theorem pinTuneS_is {f : GFrame} {t : List GNote} (budget : Int) (hi : FIn f) (hl : f.fHammers.length ≤ 9223372036854775807) (ht : t.length ≤ 9223372036854775807) (hn : ∀ n ∈ t, NIn n) : spec_PinTune f t budget = some (pinTuneV f t budget) := by
  simp only [spec_PinTune, l03Fits_is budget hi hl ht hn, Option.bind_some, pinTuneV]
  by_cases h0 : fitsV f t budget = 0
  · obtain ⟨_, d', h2⟩ := pin_all (fits_ok hi h0 DIn_rep) false
    have hne : (fitsV f t budget != 0) = false := by rw [h0]; rfl
    simp only [hne, Bool.false_eq_true, if_false, if_pos h0, h2, Option.bind_some, mkQ]
    cases hov : (pinV f t (Arr.rep 96 0) false budget).over with
    | true => simp
    | false =>
      cases hfo : (pinV f t (Arr.rep 96 0) false budget).found with
      | true => simp
      | false => simp
  · rw [if_pos (by simpa using h0), if_neg h0]
end Go.Proofs.YtojndiidhgdjcaaGreatDoor
