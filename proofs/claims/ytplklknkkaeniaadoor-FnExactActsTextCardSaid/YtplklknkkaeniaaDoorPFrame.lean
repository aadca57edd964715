/- Valid frames: the program's test is the reference's. -/
import Derived.Test.YtplklknkkaeniaaDoorM0
import Derived.Test.YtplklknkkaeniaaDoorPure
namespace Go.Proofs.YtplklknkkaeniaaDoor
open Eng
set_option linter.unusedVariables false
set_option linter.unusedSimpArgs false

theorem within_in (n lo hi : Int) : impl_within n lo hi = spec_l00In n lo hi := by simp [impl_within, spec_l00In, ge_iff_le]

theorem any_not {S : Type} (p : S → Bool) (a : List S) : a.any (fun x => !(p x)) = !(a.all p) := by
  induction a with
  | nil => rfl
  | cons x a ih => simp [ih]
end Go.Proofs.YtplklknkkaeniaaDoor
