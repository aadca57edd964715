/- Choices that are written and read again are as they were. -/
import Derived.Test.YtgmmeokkgcbkdaaGreatDoorT
import Derived.Test.YtgmmeokkgcbkdaaGreatDoorPFrame
import Derived.Test.YtgmmeokkgcbkdaaGreatDoorPWear
import Derived.Test.YtgmmeokkgcbkdaaGreatDoorPChoices
import Derived.Test.YtgmmeokkgcbkdaaGreatDoorPFit
import Derived.Test.YtgmmeokkgcbkdaaGreatDoorPTxt
import Derived.Test.YtgmmeokkgcbkdaaGreatDoorPJoin
import Derived.Test.YtgmmeokkgcbkdaaGreatDoorPChText
import Derived.Test.YtgmmeokkgcbkdaaGreatDoorPNum
import Derived.Test.YtgmmeokkgcbkdaaGreatDoorPSpl
import Derived.Test.YtgmmeokkgcbkdaaGreatDoorPSigned
import Derived.Test.YtgmmeokkgcbkdaaGreatDoorPMapO
import Derived.Test.YtgmmeokkgcbkdaaGreatDoorPReadCh
import Derived.Test.YtgmmeokkgcbkdaaGreatDoorPure
namespace Go.Proofs.YtgmmeokkgcbkdaaGreatDoor
open Eng
set_option linter.unusedVariables false
set_option linter.unusedSimpArgs false

theorem spl_join {c : UInt8} : ∀ (ws : List (List UInt8)), ws ≠ [] → (∀ w ∈ ws, c ∉ w) → spl c (Lib.join ws [c]) = ws
  | [], h, _ => absurd rfl h
  | [w], _, h => by rw [join_one]; exact spl_none w (h w (by simp))
  | w :: y :: r, _, h => by
    rw [join_cons2, List.append_assoc, List.singleton_append, spl_hit _ w (h w (by simp)), spl_join (y :: r) (by simp) (fun x hx => h x (by simp at hx ⊢; exact .inr hx))]
theorem mapO_of {A B : Type} {g : A → Option B} {u : B → A} : ∀ (l : List B), (∀ b ∈ l, g (u b) = some b) → mapO g (l.map u) = some l
  | [], _ => rfl
  | b :: l, h => by
    simp only [List.map_cons, mapO, h b (by simp), mapO_of l (fun x hx => h x (by simp [hx]))]
end Go.Proofs.YtgmmeokkgcbkdaaGreatDoor
