/- Valid frames: the program's test is the reference's. -/
import Derived.Test.YtplklknkkaeniaaGreatDoorM0
import Derived.Test.YtplklknkkaeniaaGreatDoorM1
import Derived.Test.YtplklknkkaeniaaGreatDoorPure
namespace Go.Proofs.YtplklknkkaeniaaGreatDoor
open Eng
set_option linter.unusedVariables false
set_option linter.unusedSimpArgs false

theorem within_in (n lo hi : Int) : impl_within n lo hi = spec_l00In n lo hi := by simp [impl_within, spec_l00In, ge_iff_le]

def hamB (f : GFrame) (x : GHammer) : Bool :=
  ((decide (w64 x.fPitch ≥ 0)) && (decide (w64 x.fPitch ≤ 47))) && ((decide (w64 x.fReady ≥ 1)) && (decide (w64 x.fReady ≤ (if w64 f.fSteps < 20 then w64 f.fSteps else 20))))
theorem ham_impl (f : GFrame) (x : GHammer) : impl_ValidFrame_1 x f = some (!(hamB f x)) := by
  simp only [impl_ValidFrame_1, impl_isPitch, within_in, spec_l00In, Option.bind_some, hamB]
  by_cases h : ((decide (w64 x.fPitch ≥ 0)) && (decide (w64 x.fPitch ≤ 47))) = true
  · rw [h]; simp
  · simp only [Bool.not_eq_true] at h; rw [h]; simp
def frameB (f : GFrame) : Bool := ((decide (w64 f.fSteps ≥ 2)) && (decide (w64 f.fSteps ≤ 96))) && (((decide ((f.fHammers.length : Int) ≥ 1)) && (decide ((f.fHammers.length : Int) ≤ 24))) && f.fHammers.all (hamB f))
theorem any_not {S : Type} (p : S → Bool) (a : List S) : a.any (fun x => !(p x)) = !(a.all p) := by
  induction a with
  | nil => rfl
  | cons x a ih => simp [ih]
theorem contains_ham (f : GFrame) (a : List GHammer) (h : a.length ≤ 9223372036854775807) : slices_ContainsFunc_Hammer_at_impl_ValidFrame_1 a f = some (!(a.all (hamB f))) := by
  obtain ⟨t, ht, hq⟩ := loop_find (f := slices_IndexFunc_Hammer_at_impl_ValidFrame_1.l_3 a f) a (fun x => !(hamB f x)) (by omega) (fun k hk => by
    simp only [slices_IndexFunc_Hammer_at_impl_ValidFrame_1.l_3, ix_lt hk, Option.bind_some, ham_impl]
    rw [if_pos (by simpa using hk)]
    by_cases he : hamB f a[k] = true <;> simp [he]) (by simp [slices_IndexFunc_Hammer_at_impl_ValidFrame_1.l_3])
  simp only [slices_ContainsFunc_Hammer_at_impl_ValidFrame_1, slices_IndexFunc_Hammer_at_impl_ValidFrame_1, ht, Option.bind_some]
  rcases hq with ⟨hany, k, rfl, _⟩ | ⟨hany, rfl⟩
  · rw [any_not] at hany
    rw [hany]; simp
  · rw [any_not] at hany
    rw [hany]; simp [slices_IndexFunc_Hammer_at_impl_ValidFrame_1.k_1]
theorem validFrame_is (f : GFrame) (h : f.fHammers.length ≤ 9223372036854775807) : impl_ValidFrame f = some (frameB f) := by
  simp only [impl_ValidFrame, within_in, spec_l00In, impl_size_Hammer, Option.bind_some, contains_ham f _ h, Bool.not_not, frameB]
  by_cases h1 : ((decide (w64 f.fSteps ≥ 2)) && (decide (w64 f.fSteps ≤ 96))) = true
  · rw [h1]
    by_cases h2 : ((decide ((f.fHammers.length : Int) ≥ 1)) && (decide ((f.fHammers.length : Int) ≤ 24))) = true
    · rw [h2]; simp
    · simp only [Bool.not_eq_true] at h2; rw [h2]; simp
  · simp only [Bool.not_eq_true] at h1; rw [h1]; simp
theorem l02Frame_is (f : GFrame) (h : f.fHammers.length ≤ 9223372036854775807) : spec_l02Frame f = some (frameB f) := by
  simp only [spec_l02Frame, spec_l00In, Option.bind_some, frameB]
  by_cases h1 : ((decide (w64 f.fSteps ≥ 2)) && (decide (w64 f.fSteps ≤ 96))) = true
  · rw [h1]
    by_cases h2 : ((decide ((f.fHammers.length : Int) ≥ 1)) && (decide ((f.fHammers.length : Int) ≤ 24))) = true
    · rw [h2]
      simp only [spec_l02Frame.k_2, Bool.not_true, Bool.true_and]
      rw [if_neg (by simp), if_neg (by simp), loop_all f.fHammers (hamB f) h (fun k hk => by
        simp only [spec_l02Frame.l_5, ix_lt hk, Option.bind_some, spec_l00In, spec_l00Min, spec_l02Frame.k_9]
        rw [if_pos (by simpa using hk)]
        have em : (if (decide (20 < w64 f.fSteps)) = true then some 20 else some (w64 f.fSteps)) = some (if w64 f.fSteps < 20 then w64 f.fSteps else 20) := by
          simp only [decide_eq_true_eq]
          by_cases c1 : 20 < w64 f.fSteps
          · rw [if_pos c1, if_neg (by omega)]
          · rw [if_neg c1]; by_cases c2 : w64 f.fSteps < 20
            · rw [if_pos c2]
            · rw [if_neg c2]; congr 1; omega
        rw [em]
        simp only [Option.bind_some]
        by_cases h3 : ((decide (w64 f.fHammers[k].fPitch ≥ 0)) && (decide (w64 f.fHammers[k].fPitch ≤ 47))) = true
        · by_cases h4 : ((decide (w64 f.fHammers[k].fReady ≥ 1)) && (decide (w64 f.fHammers[k].fReady ≤ (if w64 f.fSteps < 20 then w64 f.fSteps else 20)))) = true
          · simp only [hamB, h3, h4]; simp
          · simp only [Bool.not_eq_true] at h4; simp only [hamB, h3, h4]; simp
        · simp only [Bool.not_eq_true] at h3; simp only [hamB, h3]; simp) (by simp [spec_l02Frame.l_5])]
      by_cases h5 : f.fHammers.all (hamB f) = true
      · rw [if_pos h5, h5]; rfl
      · rw [if_neg h5]; simp only [Bool.not_eq_true] at h5; rw [h5]; rfl
    · simp only [Bool.not_eq_true] at h2; rw [h2]; simp [spec_l02Frame.k_2]
  · simp only [Bool.not_eq_true] at h1; rw [h1]; simp [spec_l02Frame.k_2]


/-- what a valid frame is -/
structure FOk (f : GFrame) : Prop where
  s0 : 2 ≤ f.fSteps
  s1 : f.fSteps ≤ 96
  h0 : 1 ≤ f.fHammers.length
  h1 : f.fHammers.length ≤ 24
  hp : ∀ h ∈ f.fHammers, 0 ≤ h.fPitch ∧ h.fPitch ≤ 47 ∧ 1 ≤ h.fReady ∧ h.fReady ≤ 20 ∧ h.fReady ≤ f.fSteps
/-- what a frame's numbers are as numbers of their kinds -/
def FIn (f : GFrame) : Prop := (-32768 ≤ f.fSteps ∧ f.fSteps ≤ 32767) ∧ ∀ h ∈ f.fHammers, (-128 ≤ h.fPitch ∧ h.fPitch ≤ 127) ∧ (-128 ≤ h.fReady ∧ h.fReady ≤ 127)
theorem frameB_ok {f : GFrame} (h : frameB f = true) (hi : FIn f) : FOk f := by
  unfold frameB at h
  simp only [Bool.and_eq_true, decide_eq_true_eq, List.all_eq_true] at h
  obtain ⟨⟨h1, h2⟩, ⟨h3, h4⟩, h5⟩ := h
  obtain ⟨hs, hh⟩ := hi
  rw [w64_in (by omega) (by omega)] at h1 h2
  refine ⟨h1, h2, by omega, by omega, fun x hx => ?_⟩
  have h6 := h5 x hx
  obtain ⟨hp, hr⟩ := hh x hx
  unfold hamB at h6
  simp only [Bool.and_eq_true, decide_eq_true_eq] at h6
  rw [w64_in (n := x.fPitch) (by omega) (by omega), w64_in (n := x.fReady) (by omega) (by omega), w64_in (n := f.fSteps) (by omega) (by omega)] at h6
  obtain ⟨⟨h7, h8⟩, h9, h10⟩ := h6
  split at h10 <;> exact ⟨h7, h8, h9, by omega, by omega⟩
theorem frameB_of {f : GFrame} (h : FOk f) : frameB f = true := by
  obtain ⟨h1, h2, h3, h4, h5⟩ := h
  unfold frameB
  simp only [Bool.and_eq_true, decide_eq_true_eq, List.all_eq_true]
  rw [w64_in (n := f.fSteps) (by omega) (by omega)]
  refine ⟨⟨h1, h2⟩, ⟨by omega, by omega⟩, fun x hx => ?_⟩
  obtain ⟨a, b, c, d, e⟩ := h5 x hx
  unfold hamB
  simp only [Bool.and_eq_true, decide_eq_true_eq]
  rw [w64_in (n := x.fPitch) (by omega) (by omega), w64_in (n := x.fReady) (by omega) (by omega), w64_in (n := f.fSteps) (by omega) (by omega)]
  refine ⟨⟨a, b⟩, c, ?_⟩
  split <;> omega

end Go.Proofs.YtplklknkkaeniaaGreatDoor
