/- The drum with the pins of a wear, the program's and the reference's. -/
import Derived.Test.YtfkjghkjimcmdaaGreatM1
import Derived.Test.YtfkjghkjimcmdaaGreatPFrame
import Derived.Test.YtfkjghkjimcmdaaGreatPDrum
import Derived.Test.YtfkjghkjimcmdaaGreatPWear
import Derived.Test.YtfkjghkjimcmdaaGreatPPut
import Derived.Test.YtfkjghkjimcmdaaGreatPure
namespace Go.Proofs.YtfkjghkjimcmdaaGreat
open Eng
set_option linter.unusedVariables false
set_option linter.unusedSimpArgs false

/-- whether a wear has a pin at a place -/
def hasPin (ps : List GWornPin) (s t : Nat) : Bool := ps.any fun p => decide (p.fStep = (s : Int)) && decide (p.fTrack = (t : Int))
theorem hasPin_snoc (ps : List GWornPin) (p : GWornPin) (s t : Nat) : hasPin (ps ++ [p]) s t = (hasPin ps s t || (decide (p.fStep = (s : Int)) && decide (p.fTrack = (t : Int)))) := by
  unfold hasPin; simp
theorem wearDrum_is {f : GFrame} {w : GWear} (h : WOk f w) (hp : w.fPins.length ≤ 1048576) : ∃ d, impl_Wear_drum w = some d ∧ DIn d ∧ ∀ s t, pin d s t = hasPin w.fPins s t := by
  have hs1 := h.fr.s1; have hh1 := h.fr.h1
  obtain ⟨d, hd, h1, h2⟩ := loop_for (f := impl_Wear_drum.l_5 w) w.fPins.length (by omega) (fun k d => DIn d ∧ ∀ s t, pin d s t = hasPin (w.fPins.take k) s t) (fun d => DIn d ∧ ∀ s t, pin d s t = hasPin w.fPins s t)
    (fun k d hk ⟨hd, hpin⟩ => by
      obtain ⟨⟨a, b⟩, ⟨c, e⟩, _⟩ := h.pl _ (List.getElem_mem hk)
      have e1 : w64 w.fPins[k].fStep = (w.fPins[k].fStep.toNat : Int) := by rw [w64_in (by omega) (by omega)]; omega
      have e2 : w64 w.fPins[k].fTrack = (w.fPins[k].fTrack.toNat : Int) := by rw [w64_in (by omega) (by omega)]; omega
      obtain ⟨d', h1, h2, h3⟩ := put_on hd (s := w.fPins[k].fStep.toNat) (t := w.fPins[k].fTrack.toNat) (by omega) (by omega)
      refine .inl ⟨d', ?_, h2, fun s t => ?_⟩
      · simp only [impl_Wear_drum.l_5, ix_lt hk, Option.bind_some, e1, e2, h1]
        rw [if_pos (by simpa using hk)]
      · rw [h3, hpin, List.take_succ_eq_append_getElem hk, hasPin_snoc]
        congr 1
        rw [Bool.eq_iff_iff]
        simp only [Bool.and_eq_true, decide_eq_true_eq]
        omega)
    (fun d ⟨h1, h2⟩ => ⟨d, by simp [impl_Wear_drum.l_5], h1, by simpa using h2⟩) (Arr.rep 96 0) ⟨DIn_rep, fun s t => by rw [pin_rep]; rfl⟩
  exact ⟨d, by simp only [impl_Wear_drum, hd, Option.bind_some, impl_Wear_drum.k_2], h1, h2⟩

end Go.Proofs.YtfkjghkjimcmdaaGreat
