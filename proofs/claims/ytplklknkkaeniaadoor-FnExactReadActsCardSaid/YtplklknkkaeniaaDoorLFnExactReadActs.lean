/- Acts read from a text: the law's plain function answers true at every input. -/
import Derived.Test.YtplklknkkaeniaaDoorM2
import Derived.Test.YtplklknkkaeniaaDoorPFrame
import Derived.Test.YtplklknkkaeniaaDoorPDrum
import Derived.Test.YtplklknkkaeniaaDoorPTxt
import Derived.Test.YtplklknkkaeniaaDoorPJoin
import Derived.Test.YtplklknkkaeniaaDoorPNum
import Derived.Test.YtplklknkkaeniaaDoorPSpl
import Derived.Test.YtplklknkkaeniaaDoorPMapO
import Derived.Test.YtplklknkkaeniaaDoorPActL
import Derived.Test.YtplklknkkaeniaaDoorPRdAct
import Derived.Test.YtplklknkkaeniaaDoorPure
import Derived.Test.YtplklknkkaeniaaDoorSFnExactReadActs
namespace Go.Proofs.YtplklknkkaeniaaDoor
open Eng
set_option linter.unusedVariables false
set_option linter.unusedSimpArgs false

theorem FnExactReadActs_ok (s : ByteArray) (o0 : s.size ≤ maxLen) : laws_FnExactReadActs s = some true := by
  simp only [laws_FnExactReadActs]
  by_cases hz : (s.size : Int) > 1048576
  · rw [if_pos (by simpa using hz)]
  · rw [if_neg (by simpa using hz)]
    obtain ⟨l, rfl⟩ : ∃ l, s = tb l := ⟨s.data.toList, (tb_of s).symm⟩
    rw [tb_size] at hz
    obtain ⟨⟨r1, r2⟩, hI, hS, r1h, _⟩ := readActs_same l (by omega)
    simp only at r1h
    obtain ⟨z0, n0, _, q0⟩ := laws_markActS_is r1 (1) (by omega) (by omega) (by omega)
    have f0 : ¬ (((1 : Int) + r1.length * 5 : Int) < 0) := by omega
    simp only [Option.bind_some, hI, hS, n0, q0, laws_eqActS_is r1 _ (show r1.length ≤ 1048576 by omega), decide_true, Bool.not_true, Bool.false_eq_true, if_false, decide_eq_true_eq, bne_self_eq_false, Bool.or_false, Bool.false_or, Bool.or_self, if_neg f0]

end Go.Proofs.YtplklknkkaeniaaDoor
