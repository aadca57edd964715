/-
  Opening what came in, by the type's shape: ints, bools, strings, structs, slices of plain elements; and the frame of a row's step. Plain lemmas for any program.
-/
import Derived.Test.YtolfkfjjifdmeaaGreatDoorEng
import Derived.WideShapes
import Derived.RowKit
import Derived.ChangeShapes
import Derived.OpenShut
import Derived.ChangeOld
import Derived.Carry
import Derived.JoinedOf
namespace Go.Proofs.YtolfkfjjifdmeaaGreatDoor.Eng
open Go
set_option linter.unusedVariables false

theorem add_none (b o n : Nat) : (Addr.mk b o none).add n = ⟨b, o + n, none⟩ := by
  unfold Addr.add
  split <;> simp_all

section
variable {H : Type} {enc : TypeId × Value → H} {P : Program} {w : World} {base : Nat} {spare : Nat → Bool} {held : Bool} {fuel m : Nat} {t : TypeId} {cs : List Value} {x : DataW H × List MemPlace}

theorem opn_u8 (ht : P.underlying t = some (.int .u8)) (h : DataW.trod enc P w base spare held fuel t cs = some x) : ∃ n, cs = [.int .u8 n] ∧ 0 ≤ n ∧ n ≤ 255 := by
  obtain ⟨n, h, _, hw⟩ := DataW.trod_int ht h
  exact ⟨n, h, bounds_u8 hw⟩
theorem list_of_all {S : Type} {Q : Nat → S → Prop} : ∀ (n : Nat), (∀ i, i < n → ∃ a, Q i a) → ∃ xs : List S, xs.length = n ∧ ∀ i a, xs[i]? = some a → Q i a
  | 0, _ => ⟨[], rfl, fun i a h => by simp at h⟩
  | n + 1, h => by
    obtain ⟨xs, hl, hx⟩ := list_of_all n (fun i hi => h i (by omega))
    obtain ⟨a, ha⟩ := h n (by omega)
    refine ⟨xs ++ [a], by simp [hl], fun i b hb => ?_⟩
    by_cases hi : i < n
    · rw [List.getElem?_append_left (by omega)] at hb
      exact hx i b hb
    · by_cases hn : i = n
      · subst hn
        rw [List.getElem?_append_right (by omega), hl] at hb
        simp at hb; subst hb; exact ha
      · rw [List.getElem?_eq_none (by simp [hl]; omega)] at hb
        cases hb

/-- a slice of plain elements -/
theorem opn_sl {S : Type} {e : TypeId} {encS : S → List Value} {ok : S → Prop} (ht : P.underlying t = some (.slice e)) (hm : P.cellsOf e = m) (hpos : 0 < m)
    (he : ∀ n cs x, DataW.trod enc P w base spare held n e cs = some x → ∃ a, cs = encS a ∧ ok a) (h : DataW.trod enc P w base spare held fuel t cs = some x) :
    ∃ (a : Option Addr) (xs : List S) (c : Nat), cs = [.slice a xs.length c] ∧ Rw w a m encS xs ∧ xs.length ≤ 9223372036854775807 ∧ ∀ x ∈ xs, ok x := by
  subst hm
  rcases DataW.trod_slice ht h with ⟨rfl, _⟩ | ⟨a, len, cap, elems, rest, n, _, rfl, _, hb, hl, hc, he', hel, _, _⟩
  · exact ⟨none, [], 0, rfl, ⟨fun h => absurd rfl h, fun j x h => by simp at h⟩, by simp, by simp⟩
  · have key : ∀ i, i < len → ∃ s : S, w.cells? base (a.add (i * P.cellsOf e)) (P.cellsOf e) = some (encS s) ∧ ok s := by
      intro i hi
      have h1 := hel i hi
      rw [List.getElem?_eq_getElem (by omega)] at h1
      obtain ⟨cs', h2, h3⟩ := Option.bind_eq_some_iff.1 h1
      obtain ⟨s, rfl, hs⟩ := he _ _ _ h3
      exact ⟨s, h2, hs⟩
    obtain ⟨xs, hxl, hx⟩ := list_of_all len key
    have hmax : len ≤ 9223372036854775807 := by unfold maxLen at hc; omega
    refine ⟨some a, xs, cap, by rw [hxl], ?_, by omega, ?_⟩
    · have hsp : xs ≠ [] → a.spot = none := by
        intro hne
        obtain ⟨s, hs⟩ : ∃ s, xs[0]? = some s := by
          cases xs with
          | nil => exact absurd rfl hne
          | cons s _ => exact ⟨s, rfl⟩
        obtain ⟨h1, _⟩ := hx 0 s hs
        obtain ⟨_, hlen, hcell⟩ := World.cells?_some h1
        have h0 := hcell 0 hpos
        rw [List.getElem?_eq_getElem (by omega)] at h0
        have := World.cell?_spot h0
        simpa [Addr.add] using this
      constructor
      · intro hne
        have hs := hsp hne
        obtain ⟨s, hs0⟩ : ∃ s, xs[0]? = some s := by
          cases xs with
          | nil => exact absurd rfl hne
          | cons s _ => exact ⟨s, rfl⟩
        obtain ⟨h1, _⟩ := hx 0 s hs0
        have hbl := World.cells?_block h1 hpos
        obtain ⟨b, o, sp⟩ := a
        simp only at hs; subst hs
        exact ⟨rfl, by simpa [aB, Addr.add] using hbl⟩
      · intro j s hs i v hv
        have hne : xs ≠ [] := by rintro rfl; simp at hs
        have hspn := hsp hne
        obtain ⟨h1, _⟩ := hx j s hs
        obtain ⟨_, hlen, hcell⟩ := World.cells?_some h1
        have hi : i < P.cellsOf e := by
          have := (List.getElem?_eq_some_iff.1 hv).1
          omega
        have := hcell i hi
        rw [hv] at this
        obtain ⟨b, o, sp⟩ := a
        simp only at hspn; subst hspn
        simpa [aB, aO, add_none, Nat.add_assoc] using this
    · intro s hs
      obtain ⟨j, hj⟩ := List.mem_iff_getElem?.1 hs
      exact (hx j s hj).2

end

theorem one_of {v u : Value} {l : List Value} (h : l = [u]) (hl : l = [v]) : v = u := by
  rw [hl] at h; injection h

/-- nothing that was there is changed -/
theorem Mem.below {w w' : World} (h : Mem w [] [] w') : RowKit.Below w.heap.size w w' :=
  ⟨h.os, h.tape, h.output, h.size, fun k hk => h.old k hk (by simp)⟩

end Go.Proofs.YtolfkfjjifdmeaaGreatDoor.Eng
