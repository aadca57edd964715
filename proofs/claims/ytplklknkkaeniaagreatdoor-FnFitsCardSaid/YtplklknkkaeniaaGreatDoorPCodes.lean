/- The codes of frames, drums and places: the program's are the reference's. -/
import Derived.Test.YtplklknkkaeniaaGreatDoorM0
import Derived.Test.YtplklknkkaeniaaGreatDoorM1
import Derived.Test.YtplklknkkaeniaaGreatDoorM2
import Derived.Test.YtplklknkkaeniaaGreatDoorPFrame
import Derived.Test.YtplklknkkaeniaaGreatDoorPDrum
import Derived.Test.YtplklknkkaeniaaGreatDoorPure
namespace Go.Proofs.YtplklknkkaeniaaGreatDoor
open Eng
set_option linter.unusedVariables false
set_option linter.unusedSimpArgs false

/-! ### codes -/
theorem firstOf2 (a b : Int) : impl_firstOf [a, b] = some (if a ≠ 0 then a else b) := by
  simp only [impl_firstOf]
  rw [loop_eq]
  by_cases ha : a = 0
  · rw [show impl_firstOf.l_3 [a, b] 0 = some (.inl 1) by simp [impl_firstOf.l_3, ix, ha, w64_in]]
    simp only
    rw [loop_eq]
    by_cases hb : b = 0
    · rw [show impl_firstOf.l_3 [a, b] 1 = some (.inl 2) by simp [impl_firstOf.l_3, ix, hb, w64_in]]
      simp only
      rw [loop_eq, show impl_firstOf.l_3 [a, b] 2 = some (.inr (.inr ())) by simp [impl_firstOf.l_3]]
      simp [ha, hb, impl_firstOf.k_1]
    · rw [show impl_firstOf.l_3 [a, b] 1 = some (.inr (.inl b)) by simp [impl_firstOf.l_3, ix, hb]]
      simp [ha]
  · rw [show impl_firstOf.l_3 [a, b] 0 = some (.inr (.inl a)) by simp [impl_firstOf.l_3, ix, ha]]
    simp [ha]
theorem contains_drum {f : GFrame} (hf : FOk f) (ds : List (Arr 96 Int)) (hl : ds.length ≤ 9223372036854775807) (hd : ∀ d ∈ ds, DIn d) : slices_ContainsFunc_Drum_at_impl_drumCode_1 ds f = some (!(ds.all (drumB f))) := by
  obtain ⟨t, ht, hq⟩ := loop_find (f := slices_IndexFunc_Drum_at_impl_drumCode_1.l_3 ds f) ds (fun x => !(drumB f x)) hl (fun k hk => by
    simp only [slices_IndexFunc_Drum_at_impl_drumCode_1.l_3, ix_lt hk, Option.bind_some, impl_drumCode_1, isDrum_is hf (hd _ (List.getElem_mem hk))]
    rw [if_pos (by simpa using hk)]
    by_cases he : drumB f ds[k] = true <;> simp [he]) (by simp [slices_IndexFunc_Drum_at_impl_drumCode_1.l_3])
  simp only [slices_ContainsFunc_Drum_at_impl_drumCode_1, slices_IndexFunc_Drum_at_impl_drumCode_1, ht, Option.bind_some]
  rcases hq with ⟨hany, k, rfl, _⟩ | ⟨hany, rfl⟩
  · rw [any_not] at hany
    rw [hany]; simp
  · rw [any_not] at hany
    rw [hany]; simp [slices_IndexFunc_Drum_at_impl_drumCode_1.k_1]
theorem drumCode_is (f : GFrame) (hi : FIn f) (hl : f.fHammers.length ≤ 9223372036854775807) (ds : List (Arr 96 Int)) (hds : ds.length ≤ 9223372036854775807) (hd : ∀ d ∈ ds, DIn d) :
    impl_drumCode f ds = some (if frameB f = true ∧ ds.all (drumB f) = true then 0 else 1) := by
  simp only [impl_drumCode, validFrame_is f hl, Option.bind_some]
  cases hf : frameB f with
  | false => simp [impl_unless]
  | true =>
    simp only [if_true, contains_drum (frameB_ok hf hi) ds hds hd, Option.bind_some, Bool.not_not, unless_is]
    cases ds.all (drumB f) <;> simp
theorem drumCode1 (f : GFrame) (hi : FIn f) (hl : f.fHammers.length ≤ 9223372036854775807) (d : Arr 96 Int) (hd : DIn d) :
    impl_drumCode f [d] = some (if frameB f = true ∧ drumB f d = true then 0 else 1) := by
  rw [drumCode_is f hi hl [d] (by simp) (by simpa using hd)]; simp
theorem l02Asked_is (f : GFrame) (hi : FIn f) (hl : f.fHammers.length ≤ 9223372036854775807) (d : Arr 96 Int) (hd : DIn d) :
    spec_l02Asked f d = some (if frameB f = true ∧ drumB f d = true then 0 else 1) := by
  simp only [spec_l02Asked, l02Frame_is f hl, Option.bind_some]
  cases hf : frameB f with
  | false => simp [spec_l02Asked.k_2]
  | true =>
    simp only [l02Drum_is (frameB_ok hf hi) hd, Option.bind_some, spec_l02Asked.k_2]
    cases drumB f d <;> simp

end Go.Proofs.YtplklknkkaeniaaGreatDoor
