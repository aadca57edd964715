/- The text of choices: the law's plain function answers true at every input. -/
import Derived.Test.YtpmndjejabjniaaDoorM3
import Derived.Test.YtpmndjejabjniaaDoorPFrame
import Derived.Test.YtpmndjejabjniaaDoorPWear
import Derived.Test.YtpmndjejabjniaaDoorPChoices
import Derived.Test.YtpmndjejabjniaaDoorPFit
import Derived.Test.YtpmndjejabjniaaDoorPTxt
import Derived.Test.YtpmndjejabjniaaDoorPJoin
import Derived.Test.YtpmndjejabjniaaDoorPChText
import Derived.Test.YtpmndjejabjniaaDoorPure
import Derived.Test.YtpmndjejabjniaaDoorSFnExactChoicesText
namespace Go.Proofs.YtpmndjejabjniaaDoor
open Eng
set_option linter.unusedVariables false
set_option linter.unusedSimpArgs false

theorem FnExactChoicesText_ok (l : List GChoice) (o0 : (l.length ≤ 9223372036854775807 ∧ ∀ y ∈ l, okGChoice y)) : laws_FnExactChoicesText l = some true := by
  obtain ⟨ll, l2⟩ := o0
  simp only [laws_FnExactChoicesText]
  rw [laws_szChoiceS_is l _ (by omega) (by omega) ll]
  simp only [Option.bind_some]
  by_cases hz0 : (1048576 : Int) < (l.length : Int)
  · rw [if_pos hz0, if_pos (by simp)]
  · rw [if_neg hz0, if_neg (by simp; omega)]
    have hi : ∀ x ∈ l, In8 x := fun x hx => by
      have := l2 x hx
      unfold okGChoice at this
      exact ⟨this.2.1, this.2.2.1, this.2.2.2⟩
    simp only [laws_toChoiceS_is l (by omega), Option.bind_some, implChoicesText_is hi (show l.length ≤ 1048576 by omega), specChoicesText_is hi (show l.length ≤ 1048576 by omega), laws_eqChoiceS_is l _ (show l.length ≤ 1048576 by omega)]
    simp

end Go.Proofs.YtpmndjejabjniaaDoor
