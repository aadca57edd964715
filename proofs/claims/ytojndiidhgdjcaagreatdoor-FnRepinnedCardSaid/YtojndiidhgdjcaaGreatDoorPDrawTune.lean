/- A tune drawn for a frame is valid, and its notes have bells. -/
import Derived.Test.YtojndiidhgdjcaaGreatDoorM0
import Derived.Test.YtojndiidhgdjcaaGreatDoorPFrame
import Derived.Test.YtojndiidhgdjcaaGreatDoorPDrum
import Derived.Test.YtojndiidhgdjcaaGreatDoorPPut
import Derived.Test.YtojndiidhgdjcaaGreatDoorPTune
import Derived.Test.YtojndiidhgdjcaaGreatDoorPMadeS
import Derived.Test.YtojndiidhgdjcaaGreatDoorPDraw
import Derived.Test.YtojndiidhgdjcaaGreatDoorPure
namespace Go.Proofs.YtojndiidhgdjcaaGreatDoor
open Eng
set_option linter.unusedVariables false
set_option linter.unusedSimpArgs false

theorem p6Tune_is {f : GFrame} (hf : FOk f) (code : List Int) (hc : ∀ y ∈ code, 0 ≤ y ∧ y ≤ 255) : ∃ t, spec_P6Tune code f 6 = some t ∧ TOk t ∧ t.length ≤ 6 ∧ ∀ n ∈ t, n.fAt < f.fSteps := by
  have hs0 := hf.s0; have hs1 := hf.s1; have hh0 := hf.h0; have hh1 := hf.h1
  obtain ⟨e0, h0⟩ := from_is code hc
  obtain ⟨x, s1, e1, p1, q1, o1, c1⟩ := pick_is h0 (by omega) (n := 7) (by omega)
  have q1 := q1 (by omega)
  have c1 : s1.fcode = code := c1
  obtain ⟨⟨xs, a3, a4⟩, hr, g1, g2⟩ := loop_inv (f := spec_P6Tune.l_12 code f) (fun st => ∃ k : Nat, k ≤ 6 ∧ st.2.2.2 = (k : Int) ∧ st.1.length + k ≤ 6 ∧ (∀ y ∈ st.1, (0 ≤ y.fAt ∧ y.fAt < f.fSteps) ∧ (0 ≤ y.fPitch ∧ y.fPitch ≤ 47)) ∧ SOk ⟨code, st.2.1, st.2.2.1⟩ (1 + 2 * st.1.length)) (fun st => st.2.2.2.toNat)
    (fun r => r.1.length ≤ 6 ∧ ∀ y ∈ r.1, (0 ≤ y.fAt ∧ y.fAt < f.fSteps) ∧ (0 ≤ y.fPitch ∧ y.fPitch ≤ 47)) (by
    rintro ⟨xs, i, j, _⟩ ⟨k, hk, rfl, hl, hx, ho⟩
    simp only at hl hx ho
    by_cases c : k = 0
    · right
      subst c
      simp only [spec_P6Tune.l_12]
      rw [if_neg (by decide)]
      exact ⟨_, rfl, by simp only; omega, hx⟩
    · left
      obtain ⟨y1, t1, e3, p3, q3, o3, c3⟩ := pick_is ho (by omega) (n := (f.fHammers.length : Int)) (by omega)
      obtain ⟨y2, t2, e4, p4, q4, o4, c4⟩ := pick_is o3 (by omega) (n := f.fSteps) (by omega)
      have q3 := q3 (by omega); have q4 := q4 (by omega)
      have c3' : t1.fcode = code := c3
      have c4' : t2.fcode = code := c4.trans c3
      obtain ⟨n1, rfl⟩ : ∃ n1 : Nat, y1 = (n1 : Int) := ⟨y1.toNat, by omega⟩
      have hn1 : n1 < f.fHammers.length := by omega
      have hm := hf.hp _ (List.getElem_mem hn1)
      simp only [spec_P6Tune.l_12, e3, Option.bind_some, ix_lt hn1, src_eta c3', w64_in (n := f.fSteps) (by omega) (by omega), e4]
      rw [if_pos (by rw [decide_eq_true_eq]; omega), if_pos (by simp only [List.length_cons, List.length_nil]; omega), w16_in (n := y2) (by omega) (by omega), w64_in (n := (k : Int) - 1) (by omega) (by omega)]
      refine ⟨_, rfl, ⟨k - 1, by omega, by simp only; omega, by simp only [List.length_append, List.length_cons, List.length_nil]; omega, ?_, ?_⟩, by simp only; omega⟩
      · intro y hy
        rcases List.mem_append.1 hy with hy | hy
        · exact hx y hy
        · rw [List.mem_singleton] at hy; subst hy; simp only; omega
      · simp only [List.length_append, List.length_cons, List.length_nil]
        rw [src_eta c4']
        exact ⟨o4.by_, o4.a0, by have := o4.a1; omega⟩) ([], s1.fat, s1.fseed, x) ⟨x.toNat, by omega, by simp only; omega, by simp only [List.length_nil]; omega, by simp, by
      simp only [List.length_nil]
      rw [src_eta c1]
      exact ⟨o1.by_, o1.a0, by have := o1.a1; omega⟩⟩
  have g1 : xs.length ≤ 6 := g1
  obtain ⟨r, h1, h2, h3, h4⟩ := l01Sorted_is xs (by omega)
  have hw : w64 (6 + 1) = 7 := by decide
  refine ⟨r, ?_, ⟨by omega, fun n hn => ?_, h2⟩, by omega, fun n hn => (g2 n ((h3 n).1 hn)).1.2⟩
  · simp only [spec_P6Tune, e0, Option.bind_some, hw, e1, hr, spec_P6Tune.k_6, h1]
  · have := g2 n ((h3 n).1 hn)
    omega

end Go.Proofs.YtojndiidhgdjcaaGreatDoor
