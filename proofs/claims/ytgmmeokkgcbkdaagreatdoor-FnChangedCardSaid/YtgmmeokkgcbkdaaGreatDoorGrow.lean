/- slices.Grow of the nil slice, in the engine's words: out of the kit's contract. -/
import Derived.Test.YtgmmeokkgcbkdaaGreatDoorEng
import Derived.Shelf.Spec.SlicesGrow
import Derived.Shelf.Lay
namespace Go.Proofs.YtgmmeokkgcbkdaaGreatDoor.Eng
open Go Go.Shelf Go.RowKit Go.Lib Go.Proofs
set_option linter.unusedSimpArgs false
set_option linter.unusedVariables false
set_option linter.unusedSectionVars false
variable [dsW : DrwS] {P : Program} {ρ : Ren}
/-- a row of no element, with room -/
def growF {S : Type} (n : Int) : Option (List S) := if 0 ≤ n ∧ n ≤ 1000000 then some [] else none
theorem grow_calls (L : Lays8.n4 P ρ) {S : Type} (enc : S → List Value) (m : Nat) (hm : 0 < m) (hI : (P.info? (ρ.t 25)).map (fun i => (i.zero.map (fun z => z.cells.size), i.size, decide (i.bytes ≤ 1000))) = some (some m, m, true))
    (n : Int) (w : World) (r : List S) (h : growF n = some r) :
    Calls P (ρ.f 4) #[.slice none 0 0, .int .i64 n] w fun e w' => ∃ v, e = .returned v ∧ (∃ (o0 : Option Nat) (c0 : Nat) (s0 : List Value) (n0 : Nat), r.length = n0 ∧ (o0 ≠ none → n0 ≤ c0 ∧ s0.length = (c0 - n0) * m) ∧ (o0 = none → r = [] ∧ c0 = 0) ∧ v = .slice (o0.map fun b => ⟨b, 0, none⟩) n0 c0 ∧ Mem w [] [⟨o0, ρ.t 25, row enc r s0⟩] w') := by
  unfold growF at h
  split at h
  · rename_i hn
    cases h
    obtain ⟨k, rfl⟩ : ∃ k : Nat, n = (k : Int) := ⟨n.toNat, by omega⟩
    by_cases hk : k = 0
    · subst hk
      refine (Any8.slices_Grow_room L none 0 0 0 w (by omega) (by omega) (by omega) (by omega)).mono ?_
      rintro e w' ⟨rfl, rfl⟩
      exact ⟨_, rfl, none, 0, [], 0, rfl, (fun e => absurd rfl e), (fun _ => ⟨rfl, rfl⟩), rfl, ⟨rfl, rfl, rfl, Drw.of_le (Nat.le_refl _), Nat.le_refl _, fun _ _ _ => rfl, by simp, by simp, by simp, by
        intro p hp
        obtain ⟨x, hx, hp⟩ := mem_frz.1 hp
        simp only [List.mem_singleton] at hx
        subst hx
        rw [show row enc ([] : List S) [] = [] from rfl, fzs_none] at hp; cases hp⟩⟩
    · rw [Option.map_eq_some_iff] at hI
      obtain ⟨i, hi, hz⟩ := hI
      simp only [Prod.mk.injEq, Option.map_eq_some_iff, decide_eq_true_eq] at hz
      obtain ⟨⟨z, hz1, hz2⟩, hz3, hz4⟩ := hz
      have hby : k * i.bytes ≤ 1000000 * 1000 := Nat.mul_le_mul (by omega) hz4
      refine (Any8.slices_Grow_grow L i z hi hz1 (by omega) none 0 0 k [] w (by omega) (by omega) (by simp only [Nat.zero_add]; omega) (by omega) (by simp) (fun _ => rfl) (fun a e => nomatch e)).mono ?_
      rintro e w' ⟨rfl, rfl⟩
      have hge := grownCap_ge w (0 + k) 0 (ρ.t 25)
      generalize grownCap w (0 + k) 0 (ρ.t 25) = c at *
      refine ⟨_, rfl, some w.heap.size, c, ((#[] : Array Value) ++ Builtin.zeroCells z.cells (0 + k - 0) ++ Builtin.zeroCells z.cells (c - (0 + k))).toList, 0, rfl, (fun _ => ⟨Nat.zero_le _, ?_⟩), (fun e => nomatch e), rfl, ?_⟩
      · rw [Array.length_toList, Array.size_append, Array.size_append, size_zeroCells, size_zeroCells, hz2]
        simp only [Nat.zero_add, Nat.sub_zero, List.size_toArray, List.length_nil, ← Nat.add_mul]
        congr 1; omega
      · have e1 : (row enc ([] : List S) ((#[] : Array Value) ++ Builtin.zeroCells z.cells (0 + k - 0) ++ Builtin.zeroCells z.cells (c - (0 + k))).toList).toArray = (#[] : Array Value) ++ Builtin.zeroCells z.cells (0 + k - 0) ++ Builtin.zeroCells z.cells (c - (0 + k)) := by simp [row]
        refine ⟨rfl, rfl, rfl, Drw.of_le (Nat.le_succ _), by show _ ≤ (w.heap.push _).size; simp, fun b hb _ => ?_, ?_, by simp, ?_, by simp [frz, fzs]⟩
        · show (w.heap.push _)[b]? = _
          simp [Array.getElem?_push, show b ≠ w.heap.size by omega]
        · intro x hx b hb
          simp only [List.mem_singleton] at hx
          subst hx
          cases hb
          rw [e1]
          show (w.heap.push _)[w.heap.size]? = _
          simp
        · intro x hx b hb
          simp only [List.mem_singleton] at hx
          subst hx
          cases hb
          exact .inr (Nat.le_refl _)
  · cases h
end Go.Proofs.YtgmmeokkgcbkdaaGreatDoor.Eng
