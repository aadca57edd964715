/- Marks on lists of arrays: the laws' helpers. -/
import Derived.Test.YtolfkfjjifdmeaaT
import Derived.Test.YtolfkfjjifdmeaaPStab
import Derived.Test.YtolfkfjjifdmeaaPure
namespace Go.Proofs.Ytolfkfjjifdmeaa
open Eng
set_option linter.unusedVariables false
set_option linter.unusedSimpArgs false

def mkA2 (k : Int) : Arr 2 Int := ⟨[k, w64 (k + 1)], rfl⟩
def stA2 (k : Int) : Int := w64 (w64 (k + 1) + 1)
theorem stA2_is (n : Nat) (h : n ≤ 1048576) (k0 : Int) (h0 : 0 ≤ k0) (h1 : k0 ≤ 1099511627776) : iter stA2 n k0 = k0 + n * 2 := by
  induction n with
  | zero => simp [iter]
  | succ n ih =>
    rw [iter, ih (by omega), stA2]
    rw [w64_in (n := k0 + (n : Int) * 2 + 1) (by omega) (by omega), w64_in (by omega) (by omega)]
    omega
theorem arr2 (y : Arr 2 Int) : ∃ a b, y = ⟨[a, b], rfl⟩ := by
  obtain ⟨l, h⟩ := y
  match l, h with
  | [a, b], _ => exact ⟨a, b, rfl⟩
end Go.Proofs.Ytolfkfjjifdmeaa
