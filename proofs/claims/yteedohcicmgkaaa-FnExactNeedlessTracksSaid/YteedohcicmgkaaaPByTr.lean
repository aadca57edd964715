/- How many pins each track has, by the program. -/
import Derived.Test.YteedohcicmgkaaaT
import Derived.Test.YteedohcicmgkaaaPFrame
import Derived.Test.YteedohcicmgkaaaPDrum
import Derived.Test.YteedohcicmgkaaaPure
namespace Go.Proofs.Yteedohcicmgkaaa
open Eng
set_option linter.unusedVariables false
set_option linter.unusedSimpArgs false

/-! ### the program: over the places -/
def trk (n : Nat) (c : Nat → Nat) : List Int := (List.range n).map fun t => (c t : Int)
theorem trk_len (n : Nat) (c : Nat → Nat) : (trk n c).length = n := by simp [trk]
theorem trk_get {n : Nat} (c : Nat → Nat) {t : Nat} (h : t < n) : (trk n c)[t]? = some (c t : Int) := by
  unfold trk
  rw [List.getElem?_map, List.getElem?_range h]; rfl
theorem trk_congr {n : Nat} {c c' : Nat → Nat} (h : ∀ t, t < n → c t = c' t) : trk n c = trk n c' := by
  unfold trk
  apply List.map_congr_left
  intro t ht
  rw [h t (by simpa using ht)]
theorem countP_succ (p : Nat → Bool) (n : Nat) : (List.range (n + 1)).countP p = (List.range n).countP p + if p n = true then 1 else 0 := by
  rw [List.range_succ, List.countP_append]
  congr 1
  by_cases h : p n = true <;> simp [h]
end Go.Proofs.Yteedohcicmgkaaa
