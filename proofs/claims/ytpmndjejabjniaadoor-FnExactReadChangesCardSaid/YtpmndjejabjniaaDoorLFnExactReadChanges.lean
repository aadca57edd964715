/- Changes read from a text: the law's plain function answers true at every input. -/
import Derived.Test.YtpmndjejabjniaaDoorM5
import Derived.Test.YtpmndjejabjniaaDoorPFrame
import Derived.Test.YtpmndjejabjniaaDoorPTxt
import Derived.Test.YtpmndjejabjniaaDoorPJoin
import Derived.Test.YtpmndjejabjniaaDoorPNum
import Derived.Test.YtpmndjejabjniaaDoorPSpl
import Derived.Test.YtpmndjejabjniaaDoorPSigned
import Derived.Test.YtpmndjejabjniaaDoorPMapO
import Derived.Test.YtpmndjejabjniaaDoorPReadCg
import Derived.Test.YtpmndjejabjniaaDoorPure
import Derived.Test.YtpmndjejabjniaaDoorSFnExactReadChanges
namespace Go.Proofs.YtpmndjejabjniaaDoor
open Eng
set_option linter.unusedVariables false
set_option linter.unusedSimpArgs false

theorem FnExactReadChanges_ok (s : ByteArray) (o0 : s.size ≤ maxLen) : laws_FnExactReadChanges s = some true := by
  simp only [laws_FnExactReadChanges]
  by_cases hz : (s.size : Int) > 1048576
  · rw [if_pos (by simpa using hz)]
  · rw [if_neg (by simpa using hz)]
    obtain ⟨l, rfl⟩ : ∃ l, s = tb l := ⟨s.data.toList, (tb_of s).symm⟩
    rw [tb_size] at hz
    obtain ⟨⟨r1, r2⟩, hI, hS, r1h⟩ := readChanges_same l (by omega)
    simp only at r1h
    obtain ⟨z0, n0, _, q0⟩ := laws_markChangeS_is r1 (1) (by omega) (by omega) (by omega)
    simp only [Option.bind_some, hI, hS, n0, q0, laws_eqChangeS_is r1 _ (show r1.length ≤ 1048576 by omega), decide_true, Bool.not_true, Bool.false_eq_true, if_false, decide_eq_true_eq, bne_self_eq_false, Bool.or_false, Bool.false_or, Bool.or_self]
    rw [if_neg (by omega), if_neg (by omega)]

end Go.Proofs.YtpmndjejabjniaaDoor
