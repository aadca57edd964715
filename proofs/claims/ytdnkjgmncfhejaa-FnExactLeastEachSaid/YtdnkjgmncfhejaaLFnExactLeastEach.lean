/- The least cost of a choice for each note: the program's answer is the reference's, and the law's plain function answers true at every input. -/
import Derived.Test.YtdnkjgmncfhejaaM25
import Derived.Test.YtdnkjgmncfhejaaM26
import Derived.Test.YtdnkjgmncfhejaaPFrame
import Derived.Test.YtdnkjgmncfhejaaPDrum
import Derived.Test.YtdnkjgmncfhejaaPCodes
import Derived.Test.YtdnkjgmncfhejaaPTune
import Derived.Test.YtdnkjgmncfhejaaPChoices
import Derived.Test.YtdnkjgmncfhejaaPCosts
import Derived.Test.YtdnkjgmncfhejaaPLeast
import Derived.Test.YtdnkjgmncfhejaaPure
import Derived.Test.YtdnkjgmncfhejaaSFnExactLeastEach
namespace Go.Proofs.Ytdnkjgmncfhejaa
open Eng
set_option linter.unusedVariables false
set_option linter.unusedSimpArgs false

theorem leastEach_same (f : GFrame) (t : List GNote) (c : GCosts) (hi : FIn f) (hl : f.fHammers.length ≤ 1048576) (ht : t.length ≤ 1048576) (hn : ∀ n ∈ t, NIn n) (hc : CIn c) :
    ∃ r, impl_LeastEach f t c = some r ∧ spec_LeastEach f t c = some r ∧ r.1.length ≤ 1048576 := by
  simp only [impl_LeastEach, spec_LeastEach, arrangeCode_is hi hl ht hn hc, given_is hi hl ht hn hc, Option.bind_some]
  by_cases h : frameB f = true ∧ tuneB t = true ∧ costsB c = true
  · have hf := frameB_ok h.1 hi
    have htk := tuneB_ok h.2.1
    have hck := costsB_ok h.2.2
    simp only [if_pos h, leastEach_is hf hck htk, specLeastEach hf hck htk, Option.bind_some, spec_LeastEach.k_3]
    exact ⟨(t.map (leastC f c), 0), by simp, by simp, by simpa using ht⟩
  · simp only [if_neg h]
    exact ⟨([], 1), by simp, by simp, by simp⟩
theorem FnExactLeastEach_ok (f : GFrame) (t : List GNote) (c : GCosts) (o0 : okGFrame f) (o1 : (t.length ≤ 9223372036854775807 ∧ ∀ y ∈ t, okGNote y)) (o2 : okGCosts c) : laws_FnExactLeastEach f t c = some true := by
  obtain ⟨f0, fl, f2⟩ := o0
  obtain ⟨tl, t2⟩ := o1
  simp only [laws_FnExactLeastEach]
  rw [laws_szFrame_is f _ (by omega) (by omega) fl]
  simp only [Option.bind_some]
  by_cases hz0 : (1048576 : Int) < (f.fHammers.length : Int)
  · rw [if_pos hz0, if_pos (by simp)]
  · rw [if_neg hz0, if_neg (by simp; omega)]
    rw [laws_szTune_is t _ (by omega) (by omega) tl]
    simp only [Option.bind_some]
    by_cases hz1 : (1048576 : Int) - (f.fHammers.length : Int) < (t.length : Int)
    · rw [if_pos hz1, if_pos (by simp)]
    · rw [if_neg hz1, if_neg (by simp; omega)]
      obtain ⟨⟨r1, r2⟩, hI, hS, r1h⟩ := leastEach_same f t c ⟨f0, fun y hy => f2 y hy⟩ (by omega) (by omega) (fun n hn => t2 n hn) o2
      simp only at r1h
      obtain ⟨fy0, m_f, _⟩ := laws_markFrame_is f (1) (by omega) (by omega) (by omega)
      obtain ⟨ty0, m_t, _⟩ := laws_markTune_is t (1 + f.fHammers.length * 2) (by omega) (by omega) (by omega)
      have e0 : ¬ (((1 : Int) + f.fHammers.length * 2 + t.length * 2 : Int) < 0) := by omega
      obtain ⟨z0, n0, _, q0⟩ := laws_markInt64S_is r1 (1) (by omega) (by omega) (by omega)
      have f0 : ¬ (((1 : Int) + r1.length * 1 : Int) < 0) := by omega
      simp only [laws_toFrame_is f (by omega), laws_toTune_is t (by omega), laws_toCosts_is, Option.bind_some, hI, hS, laws_eqFrame_is f _ (by omega), laws_eqTune_is t _ (by omega), laws_FnExactLeastEach.k_19, m_f, m_t, n0, q0, laws_eqInt64S_is r1 _ (by omega), decide_true, Bool.not_true, Bool.false_eq_true, if_false, decide_eq_true_eq, bne_self_eq_false, Bool.or_false, Bool.false_or, Bool.or_self, if_neg e0, if_neg f0]


end Go.Proofs.Ytdnkjgmncfhejaa
