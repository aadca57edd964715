/- A track taken out: the program's answer is the reference's, and the law's plain function answers true at every input. -/
import Derived.Test.YtdnkjgmncfhejaaM20
import Derived.Test.YtdnkjgmncfhejaaM21
import Derived.Test.YtdnkjgmncfhejaaPFrame
import Derived.Test.YtdnkjgmncfhejaaPDrum
import Derived.Test.YtdnkjgmncfhejaaPCodes
import Derived.Test.YtdnkjgmncfhejaaPPlc
import Derived.Test.YtdnkjgmncfhejaaPByTr
import Derived.Test.YtdnkjgmncfhejaaPPut
import Derived.Test.YtdnkjgmncfhejaaPWithout
import Derived.Test.YtdnkjgmncfhejaaPure
import Derived.Test.YtdnkjgmncfhejaaSFnExactWithoutTrack
namespace Go.Proofs.Ytdnkjgmncfhejaa
open Eng
set_option linter.unusedVariables false
set_option linter.unusedSimpArgs false

theorem withoutTrack_same (f : GFrame) (d : Arr 96 Int) (t : Int) (hi : FIn f) (hd : DIn d) (hf : f.fHammers.length ≤ 1048576) :
    ∃ r, impl_WithoutTrack f d t = some r ∧ spec_WithoutTrack f d t = some r ∧ r.1.fHammers.length ≤ 1048576 := by
  simp only [impl_WithoutTrack, spec_WithoutTrack, placeCode_is f hi (by omega) d hd, l02Place_is f hi (by omega) d hd, Option.bind_some]
  by_cases c : frameB f = true ∧ drumB f d = true
  · have hok := frameB_ok c.1 hi
    have h1 := hok.h1; have hs0 := hok.s0; have hs1 := hok.s1
    by_cases hp : plB f 0 t = true
    · obtain ⟨_, ht0, ht1⟩ := (plB_ok hok 0 t).1 hp
      obtain ⟨n, rfl⟩ : ∃ n : Nat, t = (n : Int) := ⟨t.toNat, by omega⟩
      have hn : n < f.fHammers.length := by omega
      simp only [if_pos c, if_pos hp, bne_self_eq_false, Bool.false_eq_true, if_false, uses_is hd (show n < 32 by omega), bit_is (show n < 32 by omega), Option.bind_some, byTrack_is hok hd, ix_get (trk_get _ hn)]
      have hcnt : (decide ((((List.range f.fSteps.toNat).countP fun s => pin d s n : Nat) : Int) > 0)) = usesB d n := by
        rw [Bool.eq_iff_iff, decide_eq_true_eq, usesB_iff]
        constructor
        · intro h
          have h : 0 < (List.range f.fSteps.toNat).countP fun s => pin d s n := by omega
          obtain ⟨s, _, hs⟩ := List.countP_pos_iff.1 h
          exact ⟨s, hs⟩
        · rintro ⟨s, hs⟩
          have := (drumB_pin c.2 hd hs).1
          have h : 0 < (List.range f.fSteps.toNat).countP fun s => pin d s n := List.countP_pos_iff.2 ⟨s, by simp; omega, hs⟩
          omega
      rw [hcnt]
      by_cases h0 : f.fHammers.length = 1
      · refine ⟨(⟨0, []⟩, Arr.rep 96 0, 4), ?_, ?_, by simp⟩
        · rw [if_pos (by simp [h0])]; rfl
        · rw [if_pos (by simp [h0])]
      · cases hu : usesB d n
        case true =>
          refine ⟨(⟨0, []⟩, Arr.rep 96 0, 4), ?_, ?_, by simp⟩
          · rw [if_neg (by simp; omega)]; rfl
          · rw [if_pos (by simp)]
        case false =>
          have hno : ∀ s, pin d s n = false := fun s => by
            cases hb : pin d s n with
            | false => rfl
            | true => have := (usesB_iff d n).2 ⟨s, hb⟩; rw [hu] at this; cases this
          refine ⟨(lessF f n, upD n d 96, 0), ?_, ?_, ?_⟩
          · rw [if_neg (by simp; omega)]
            simp only [impl_WithoutTrack.k_3, Bool.false_eq_true, if_false, implRows hd (show n < 32 by omega) hno, Option.bind_some, impl_WithoutTrack.k_5, without_is hok hn]
          · rw [if_neg (by simp; omega)]
            simp only [specRows hd (show n < 32 by omega), Option.bind_some, spec_WithoutTrack.k_5, less_is hok hn]
          · simp only [lessF, List.length_append, List.length_take, List.length_drop]; omega
    · simp only [if_pos c, if_neg hp]
      exact ⟨(⟨0, []⟩, Arr.rep 96 0, 2), by simp, by simp, by simp⟩
  · simp only [if_neg c]
    exact ⟨(⟨0, []⟩, Arr.rep 96 0, 1), by simp, by simp, by simp⟩
theorem FnExactWithoutTrack_ok (f : GFrame) (d : Arr 96 Int) (t : Int) (o0 : okGFrame f) (o1 : ∀ y ∈ d.1, (0 ≤ y ∧ y ≤ 4294967295)) (o2 : (-9223372036854775808 ≤ t ∧ t ≤ 9223372036854775807)) : laws_FnExactWithoutTrack f d t = some true := by
  obtain ⟨f0, fl, f2⟩ := o0
  simp only [laws_FnExactWithoutTrack]
  rw [laws_szFrame_is f _ (by omega) (by omega) fl]
  simp only [Option.bind_some]
  by_cases hz0 : (1048576 : Int) < (f.fHammers.length : Int)
  · rw [if_pos hz0, if_pos (by simp)]
  · rw [if_neg hz0, if_neg (by simp; omega)]
    obtain ⟨⟨⟨r1t, r1h_⟩, r2, r3⟩, hI, hS, r1h⟩ := withoutTrack_same f d t ⟨f0, fun y hy => f2 y hy⟩ o1 (by omega)
    simp only at r1h
    obtain ⟨fy0, m_f, _⟩ := laws_markFrame_is f (1) (by omega) (by omega) (by omega)
    have e0 : ¬ (((1 : Int) + f.fHammers.length * 2 : Int) < 0) := by omega
    obtain ⟨z0, n0, _, q0⟩ := laws_markFrame_is ⟨r1t, r1h_⟩ (1) (show r1h_.length ≤ 1048576 by omega) (by omega) (by omega)
    simp only at n0 q0
    replace q0 := q0 ⟨r1t, []⟩
    simp only at q0
    have f0 : ¬ (((1 : Int) + r1h_.length * 2 : Int) < 0) := by omega
    simp only [laws_toFrame_is f (by omega), laws_toDrum_is, Option.bind_some, hI, hS, laws_eqFrame_is f _ (by omega), laws_FnExactWithoutTrack.k_28, laws_FnExactWithoutTrack.k_26, laws_FnExactWithoutTrack.k_19, laws_FnExactWithoutTrack.k_14, laws_FnExactWithoutTrack.k_12, laws_FnExactWithoutTrack.k_6, m_f, n0, q0, laws_eqFrame_is ⟨r1t, r1h_⟩ _ (show r1h_.length ≤ 1048576 by omega), laws_eqDrum_is, decide_true, Bool.not_true, Bool.false_eq_true, if_false, decide_eq_true_eq, bne_self_eq_false, Bool.or_false, Bool.false_or, Bool.or_self, if_neg e0, if_neg f0]


end Go.Proofs.Ytdnkjgmncfhejaa
