/- The bells of a frame and the pitches of a tune, as sets of bits; what a drum plays can be played on its frame's bells. -/
import Derived.Test.YtojndiidhgdjcaaGreatDoorM0
import Derived.Test.YtojndiidhgdjcaaGreatDoorM1
import Derived.Test.YtojndiidhgdjcaaGreatDoorPFrame
import Derived.Test.YtojndiidhgdjcaaGreatDoorPDrum
import Derived.Test.YtojndiidhgdjcaaGreatDoorPTune
import Derived.Test.YtojndiidhgdjcaaGreatDoorPMadeS
import Derived.Test.YtojndiidhgdjcaaGreatDoorPMade
import Derived.Test.YtojndiidhgdjcaaGreatDoorPHeard
import Derived.Test.YtojndiidhgdjcaaGreatDoorPure
namespace Go.Proofs.YtojndiidhgdjcaaGreatDoor
open Eng
set_option linter.unusedVariables false
set_option linter.unusedSimpArgs false

theorem nall_mem {f : GFrame} {d : Arr 96 Int} {n : GNote} (h : n ∈ nall f d) : ∃ (s t : Nat) (ht : t < f.fHammers.length), s < f.fSteps.toNat ∧ n = ⟨(s : Int), f.fHammers[t].fPitch⟩ := by
  unfold nall at h
  obtain ⟨s, hs, h⟩ := List.mem_flatMap.1 h
  unfold nr at h
  obtain ⟨t, ht, h⟩ := List.mem_flatMap.1 h
  have hs : s < f.fSteps.toNat := by simpa using hs
  have ht : t < f.fHammers.length := by simpa using ht
  unfold np at h
  split at h
  · rw [List.getElem?_eq_getElem ht] at h
    simp at h
    exact ⟨s, t, ht, hs, h⟩
  · cases h
theorem made_tune {f : GFrame} (hf : FOk f) {d : Arr 96 Int} (hl : (nall f d).length ≤ 120) : ∃ r, impl_made (nall f d) = some r ∧ spec_l01Sorted (nall f d) = some r ∧ TOk r ∧ r.length ≤ (nall f d).length ∧ ∀ n ∈ r, n ∈ nall f d := by
  obtain ⟨r, m1, m2, m3⟩ := made_is (nall f d) (by omega)
  obtain ⟨r', h1, h2, h3, h4⟩ := l01Sorted_is (nall f d) (by omega)
  rw [m2] at h1
  obtain rfl := Option.some.inj h1
  have hs1 := hf.s1; have hs0 := hf.s0
  refine ⟨r, m1, m2, ⟨by omega, fun n hn => ?_, h2⟩, m3, fun n hn => (h3 n).1 hn⟩
  obtain ⟨s, t, ht, hs, rfl⟩ := nall_mem ((h3 n).1 hn)
  have := hf.hp _ (List.getElem_mem ht)
  simp only
  omega
end Go.Proofs.YtojndiidhgdjcaaGreatDoor
