/- The drum of a wear: the program's answer is the reference's, and the law's plain function answers true at every input. -/
import Derived.Test.YtdnkjgmncfhejaaM0
import Derived.Test.YtdnkjgmncfhejaaM7
import Derived.Test.YtdnkjgmncfhejaaM23
import Derived.Test.YtdnkjgmncfhejaaPFrame
import Derived.Test.YtdnkjgmncfhejaaPDrum
import Derived.Test.YtdnkjgmncfhejaaPWear
import Derived.Test.YtdnkjgmncfhejaaPPut
import Derived.Test.YtdnkjgmncfhejaaPWDrum
import Derived.Test.YtdnkjgmncfhejaaPure
import Derived.Test.YtdnkjgmncfhejaaSFnExactDrumOfWear
namespace Go.Proofs.Ytdnkjgmncfhejaa
open Eng
set_option linter.unusedVariables false
set_option linter.unusedSimpArgs false

theorem wearCode0 (f : GFrame) (w : GWear) (hf : f.fHammers.length ≤ 1048576) (hp : w.fPins.length ≤ 1048576) (hs : w.fStrokes.length ≤ 1048576) : impl_wearCode f w [] = some (if wearB f w = true then 0 else 1) := by
  simp only [impl_wearCode, validWear_is f w hf hp hs, Option.bind_some]
  cases wearB f w with
  | false => rfl
  | true =>
    have : slices_ContainsFunc_Lives_at_impl_wearCode_1 [] = some false := by
      simp only [slices_ContainsFunc_Lives_at_impl_wearCode_1, slices_IndexFunc_Lives_at_impl_wearCode_1]
      rw [loop_eq, show slices_IndexFunc_Lives_at_impl_wearCode_1.l_3 [] 0 = some (.inr (.inr ())) by simp [slices_IndexFunc_Lives_at_impl_wearCode_1.l_3]]
      rfl
    simp [this, impl_unless]
theorem specDrumOfWear {f : GFrame} {w : GWear} (h : WOk f w) (hp : w.fPins.length ≤ 1048576) : ∃ d, loop (spec_DrumOfWear.l_6 w) (Arr.rep 96 0, 0) = some d ∧ DIn d ∧ ∀ s t, pin d s t = hasPin w.fPins s t := by
  have hs1 := h.fr.s1; have hh1 := h.fr.h1
  obtain ⟨d, hd, h1, h2⟩ := loop_for (f := spec_DrumOfWear.l_6 w) w.fPins.length (by omega) (fun k d => DIn d ∧ ∀ s t, pin d s t = hasPin (w.fPins.take k) s t) (fun d => DIn d ∧ ∀ s t, pin d s t = hasPin w.fPins s t)
    (fun k d hk ⟨hd, hpin⟩ => by
      obtain ⟨⟨a, b⟩, ⟨c, e⟩, _⟩ := h.pl _ (List.getElem_mem hk)
      have e1 : w.fPins[k].fStep = (w.fPins[k].fStep.toNat : Int) := by omega
      have e2 : u64 w.fPins[k].fTrack = (w.fPins[k].fTrack.toNat : Int) := by rw [u64_in (by omega) (by omega)]; omega
      have hst : w.fPins[k].fStep.toNat < 96 := by omega
      have hi := ix_row hd hst
      rw [← e1] at hi
      obtain ⟨h2, h3⟩ := or_pin hd (s := w.fPins[k].fStep.toNat) (t := w.fPins[k].fTrack.toNat) hst (by omega)
      rw [← e1] at h2 h3
      refine .inl ⟨_, ?_, h2, fun s t => ?_⟩
      · simp only [spec_DrumOfWear.l_6, ix_lt hk, Option.bind_some, hi, e2]
        rw [if_pos (by simpa using hk), if_pos (by omega)]
      · rw [h3, hpin, List.take_succ_eq_append_getElem hk, hasPin_snoc]
        congr 1
        rw [Bool.eq_iff_iff]
        simp only [Bool.and_eq_true, decide_eq_true_eq]
        omega)
    (fun d ⟨h1, h2⟩ => ⟨d, by simp [spec_DrumOfWear.l_6], h1, by simpa using h2⟩) (Arr.rep 96 0) ⟨DIn_rep, fun s t => by rw [pin_rep]; rfl⟩
  exact ⟨d, hd, h1, h2⟩
theorem FnExactDrumOfWear_ok (f : GFrame) (w : GWear) (hf : okGFrame f) (hw : okGWear w) : laws_FnExactDrumOfWear f w = some true := by
  obtain ⟨hf0, hf, hf2⟩ := hf
  obtain ⟨⟨hp, hp2⟩, hs, _⟩ := hw
  simp only [laws_FnExactDrumOfWear]
  rw [laws_szFrame_is f _ (by omega) (by omega) hf]
  simp only [Option.bind_some]
  by_cases h : (1048576 : Int) < (f.fHammers.length : Int)
  · rw [if_pos h, if_pos (by simp)]
  · rw [if_neg h, if_neg (by simp; omega), laws_szWear_is w _ (by omega) (by omega) hp hs]
    simp only [Option.bind_some]
    by_cases h' : (1048576 : Int) - (f.fHammers.length : Int) < (w.fPins.length : Int) + (w.fStrokes.length : Int)
    · rw [if_pos h', if_pos (by simp)]
    · rw [if_neg h', if_neg (by simp; omega)]
      have hc : ∃ d c, impl_DrumOfWear f w = some (d, c) ∧ spec_DrumOfWear f w = some (d, c) := by
        simp only [impl_DrumOfWear, spec_DrumOfWear, wearCode0 f w (by omega) (by omega) (by omega), l06Ok_is f w (by omega) (by omega) (by omega), Option.bind_some]
        cases hb : wearB f w with
        | false => exact ⟨Arr.rep 96 0, 1, by simp, by simp⟩
        | true =>
          have hok := wearB_ok hb ⟨hf0, fun y hy => hf2 y hy⟩ (fun p hp' => ⟨(hp2 p hp').1, (hp2 p hp').2.1⟩)
          obtain ⟨d1, h1, h2, h3⟩ := wearDrum_is hok (by omega)
          obtain ⟨d2, h4, h5, h6⟩ := specDrumOfWear hok (by omega)
          obtain rfl : d1 = d2 := drum_eq h2 h5 fun s t _ _ => by rw [h3, h6]
          exact ⟨d1, 0, by simp [h1], by simp [h4, spec_DrumOfWear.k_3]⟩
      obtain ⟨d, c, h1, h2⟩ := hc
      simp only [laws_toFrame_is f (by omega), laws_toWear_is w (by omega), Option.bind_some, h1, h2, laws_FnExactDrumOfWear.k_5, laws_eqDrum_is, laws_eqFrame_is f _ (by omega), laws_eqWear_is w _ (by omega)]
      simp

end Go.Proofs.Ytdnkjgmncfhejaa
