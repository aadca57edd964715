/- Acts read from a text: the law's plain function answers true at every input. -/
import Derived.Test.YtbclghgbnnlbjaaDoorM2
import Derived.Test.YtbclghgbnnlbjaaDoorPFrame
import Derived.Test.YtbclghgbnnlbjaaDoorPDrum
import Derived.Test.YtbclghgbnnlbjaaDoorPTxt
import Derived.Test.YtbclghgbnnlbjaaDoorPJoin
import Derived.Test.YtbclghgbnnlbjaaDoorPNum
import Derived.Test.YtbclghgbnnlbjaaDoorPSpl
import Derived.Test.YtbclghgbnnlbjaaDoorPMapO
import Derived.Test.YtbclghgbnnlbjaaDoorPActL
import Derived.Test.YtbclghgbnnlbjaaDoorPRdAct
import Derived.Test.YtbclghgbnnlbjaaDoorPure
import Derived.Test.YtbclghgbnnlbjaaDoorSFnExactReadActs
namespace Go.Proofs.YtbclghgbnnlbjaaDoor
open Eng
set_option linter.unusedVariables false
set_option linter.unusedSimpArgs false

theorem FnExactReadActs_ok (s : ByteArray) (o0 : s.size ≤ maxLen) : laws_FnExactReadActs s = some true := by
  simp only [laws_FnExactReadActs]
  by_cases hz : (s.size : Int) > 1048576
  · rw [if_pos (by simpa using hz)]
  · rw [if_neg (by simpa using hz)]
    obtain ⟨l, rfl⟩ : ∃ l, s = tb l := ⟨s.data.toList, (tb_of s).symm⟩
    rw [tb_size] at hz
    obtain ⟨⟨r1, r2⟩, hI, hS, r1h, _⟩ := readActs_same l (by omega)
    simp only at r1h
    obtain ⟨z0, n0, _, q0⟩ := laws_markActS_is r1 (1) (by omega) (by omega) (by omega)
    have f0 : ¬ (((1 : Int) + r1.length * 5 : Int) < 0) := by omega
    simp only [Option.bind_some, hI, hS, n0, q0, laws_eqActS_is r1 _ (show r1.length ≤ 1048576 by omega), decide_true, Bool.not_true, Bool.false_eq_true, if_false, decide_eq_true_eq, bne_self_eq_false, Bool.or_false, Bool.false_or, Bool.or_self, if_neg f0]

end Go.Proofs.YtbclghgbnnlbjaaDoor
