/- Choices that are written and read again are as they were. -/
import Derived.Test.YtpldkddkmnpdcaaGreatDoorT
import Derived.Test.YtpldkddkmnpdcaaGreatDoorPFrame
import Derived.Test.YtpldkddkmnpdcaaGreatDoorPWear
import Derived.Test.YtpldkddkmnpdcaaGreatDoorPChoices
import Derived.Test.YtpldkddkmnpdcaaGreatDoorPFit
import Derived.Test.YtpldkddkmnpdcaaGreatDoorPTxt
import Derived.Test.YtpldkddkmnpdcaaGreatDoorPJoin
import Derived.Test.YtpldkddkmnpdcaaGreatDoorPChText
import Derived.Test.YtpldkddkmnpdcaaGreatDoorPNum
import Derived.Test.YtpldkddkmnpdcaaGreatDoorPSpl
import Derived.Test.YtpldkddkmnpdcaaGreatDoorPSigned
import Derived.Test.YtpldkddkmnpdcaaGreatDoorPMapO
import Derived.Test.YtpldkddkmnpdcaaGreatDoorPReadCh
import Derived.Test.YtpldkddkmnpdcaaGreatDoorPure
namespace Go.Proofs.YtpldkddkmnpdcaaGreatDoor
open Eng
set_option linter.unusedVariables false
set_option linter.unusedSimpArgs false

theorem spl_join {c : UInt8} : ∀ (ws : List (List UInt8)), ws ≠ [] → (∀ w ∈ ws, c ∉ w) → spl c (Lib.join ws [c]) = ws
  | [], h, _ => absurd rfl h
  | [w], _, h => by rw [join_one]; exact spl_none w (h w (by simp))
  | w :: y :: r, _, h => by
    rw [join_cons2, List.append_assoc, List.singleton_append, spl_hit _ w (h w (by simp)), spl_join (y :: r) (by simp) (fun x hx => h x (by simp at hx ⊢; exact .inr hx))]
theorem itoa_cases (n : Int) : (∃ u : Nat, n = (u : Int) ∧ Lib.itoa n = Lib.decDigits u) ∨ ∃ u : Nat, 1 ≤ u ∧ n = -(u : Int) ∧ Lib.itoa n = 45 :: Lib.decDigits u := by
  rcases Int.lt_or_le n 0 with h | h
  · right
    refine ⟨(-n).toNat, by omega, by omega, ?_⟩
    have := Lib.itoa_neg (-n).toNat (by omega)
    rwa [show (-((-n).toNat : Int)) = n by omega] at this
  · left
    refine ⟨n.toNat, by omega, ?_⟩
    have := Lib.itoa_nonneg n.toNat
    rwa [show ((n.toNat : Nat) : Int) = n by omega] at this
theorem okS_of {B n : Int} (h0 : -B ≤ n) (h1 : n ≤ B) : okS B (Lib.itoa n) ∧ sval (Lib.itoa n) = n := by
  rcases itoa_cases n with ⟨u, rfl, e⟩ | ⟨u, hu, rfl, e⟩
  · rw [e]
    have hv : Lib.decDigits u = Lib.decDigits (val (Lib.decDigits u)) := by rw [val_dd]
    exact ⟨(okS_plain.1 ⟨hv, by rw [val_dd]; exact h1⟩).1, by rw [sval_plain hv, val_dd]⟩
  · rw [e]
    refine ⟨?_, ?_⟩
    · unfold okS
      simp only
      rw [if_pos trivial, val_dd]
      exact ⟨rfl, hu, by omega⟩
    · unfold sval
      simp only
      rw [if_pos trivial, val_dd]
theorem itoa_mem (n : Int) : ∀ b ∈ Lib.itoa n, b = 45 ∨ digB b := by
  intro b hb
  rcases itoa_cases n with ⟨u, _, e⟩ | ⟨u, _, _, e⟩
  · rw [e] at hb; exact .inr (dd_dig u b hb)
  · rw [e] at hb
    rcases List.mem_cons.1 hb with rfl | hb
    · exact .inl rfl
    · exact .inr (dd_dig u b hb)
theorem itoa_no47 (n : Int) : (47 : UInt8) ∉ Lib.itoa n := fun h => by
  rcases itoa_mem n 47 h with h | h
  · exact absurd h (by decide)
  · exact absurd h.1 (by decide)
theorem itoa_no32 (n : Int) : (32 : UInt8) ∉ Lib.itoa n := fun h => by
  rcases itoa_mem n 32 h with h | h
  · exact absurd h (by decide)
  · exact absurd h.1 (by decide)
theorem mapO_of {A B : Type} {g : A → Option B} {u : B → A} : ∀ (l : List B), (∀ b ∈ l, g (u b) = some b) → mapO g (l.map u) = some l
  | [], _ => rfl
  | b :: l, h => by
    simp only [List.map_cons, mapO, h b (by simp), mapO_of l (fun x hx => h x (by simp [hx]))]
end Go.Proofs.YtpldkddkmnpdcaaGreatDoor
