/- The text of acts: the law's plain function answers true at every input. -/
import Derived.Test.YtplklknkkaeniaaDoorM0
import Derived.Test.YtplklknkkaeniaaDoorPFrame
import Derived.Test.YtplklknkkaeniaaDoorPDrum
import Derived.Test.YtplklknkkaeniaaDoorPTxt
import Derived.Test.YtplklknkkaeniaaDoorPActL
import Derived.Test.YtplklknkkaeniaaDoorPure
import Derived.Test.YtplklknkkaeniaaDoorSFnExactActsText
namespace Go.Proofs.YtplklknkkaeniaaDoor
open Eng
set_option linter.unusedVariables false
set_option linter.unusedSimpArgs false

theorem FnExactActsText_ok (l : List GAct) (o0 : (l.length ≤ 9223372036854775807 ∧ ∀ y ∈ l, okGAct y)) : laws_FnExactActsText l = some true := by
  obtain ⟨ll, l2⟩ := o0
  simp only [laws_FnExactActsText]
  rw [laws_szActS_is l _ (by omega) (by omega) ll]
  simp only [Option.bind_some]
  by_cases hz0 : (1048576 : Int) < (l.length : Int)
  · rw [if_pos hz0, if_pos (by simp)]
  · rw [if_neg hz0, if_neg (by simp; omega)]
    have hi : ∀ x ∈ l, ActIn x := fun x hx => by
      have := l2 x hx
      unfold okGAct at this
      exact ⟨this.1.1, this.1.2⟩
    simp only [laws_toActS_is l (by omega), Option.bind_some, implActsText_is hi (show l.length ≤ 2000000 by omega), specActsText_is hi (show l.length ≤ 2000000 by omega), laws_eqActS_is l _ (show l.length ≤ 1048576 by omega)]
    simp

end Go.Proofs.YtplklknkkaeniaaDoor
