/- How many pins each track has, by the program. -/
import Derived.Test.YtojndiidhgdjcaaGreatDoorM2
import Derived.Test.YtojndiidhgdjcaaGreatDoorPFrame
import Derived.Test.YtojndiidhgdjcaaGreatDoorPDrum
import Derived.Test.YtojndiidhgdjcaaGreatDoorPure
namespace Go.Proofs.YtojndiidhgdjcaaGreatDoor
open Eng
set_option linter.unusedVariables false
set_option linter.unusedSimpArgs false

/-! ### the program: over the places -/
def trk (n : Nat) (c : Nat → Nat) : List Int := (List.range n).map fun t => (c t : Int)
theorem trk_len (n : Nat) (c : Nat → Nat) : (trk n c).length = n := by simp [trk]
theorem trk_get {n : Nat} (c : Nat → Nat) {t : Nat} (h : t < n) : (trk n c)[t]? = some (c t : Int) := by
  unfold trk
  rw [List.getElem?_map, List.getElem?_range h]; rfl
theorem trk_congr {n : Nat} {c c' : Nat → Nat} (h : ∀ t, t < n → c t = c' t) : trk n c = trk n c' := by
  unfold trk
  apply List.map_congr_left
  intro t ht
  rw [h t (by simpa using ht)]
theorem byTrack_in {d : Arr 96 Int} (hd : DIn d) {s : Nat} (hs : s < 96) (n : Nat) (hn : n ≤ 24) (c : Nat → Nat) (hc : ∀ t, c t ≤ 96) :
    loop (impl_Frame_pins_at_impl_Frame_byTrack_1.l_12 d (s : Int) (n : Int)) (trk n c, 0) = some (trk n fun t => c t + if pin d s t = true then 1 else 0) := by
  obtain ⟨t, ht, rfl⟩ := loop_for (f := impl_Frame_pins_at_impl_Frame_byTrack_1.l_12 d (s : Int) (n : Int)) n (by omega) (fun k xs => xs = trk n fun t => c t + if t < k ∧ pin d s t = true then 1 else 0)
    (fun xs => xs = trk n fun t => c t + if pin d s t = true then 1 else 0)
    (fun k xs hk hx => by
      have hh := has_is hd hs (t := k) (by omega)
      simp only [impl_Frame_pins_at_impl_Frame_byTrack_1.l_12, hh, Option.bind_some]
      rw [if_pos (by simpa using hk)]
      by_cases hp : pin d s k = true
      · have hix : ix xs (k : Int) = some (c k : Int) := by
          rw [hx]
          refine ix_get ?_
          rw [trk_get _ hk]; simp
        rw [if_pos hp]
        simp only [impl_Frame_byTrack_1, hix, Option.bind_some]
        refine .inl ⟨_, rfl, ?_⟩
        have := hc k
        rw [w64_in (by omega) (by omega), hx]
        apply List.ext_getElem?
        intro i
        rw [List.getElem?_set, Int.toNat_natCast, trk_len]
        by_cases hi : i < n
        · rw [trk_get _ hi, trk_get _ hi]
          by_cases hik : k = i
          · subst hik
            rw [if_pos rfl, if_pos hk, if_pos ⟨by omega, hp⟩]; rfl
          · rw [if_neg hik]
            congr 3
            by_cases h1 : i < k
            · simp [h1, show i < k + 1 by omega]
            · simp [h1, show ¬ i < k + 1 by omega]
        · rw [List.getElem?_eq_none (by rw [trk_len]; omega), List.getElem?_eq_none (by rw [trk_len]; omega), if_neg (by omega)]
      · rw [if_neg hp]
        refine .inl ⟨_, rfl, ?_⟩
        rw [hx]
        refine trk_congr fun t ht => ?_
        congr 1
        by_cases h1 : t = k
        · subst h1; simp [hp]
        · by_cases h2 : t < k
          · simp [h2, show t < k + 1 by omega]
          · simp [h2, show ¬ t < k + 1 by omega])
    (fun xs hx => ⟨xs, by simp [impl_Frame_pins_at_impl_Frame_byTrack_1.l_12], by
      rw [hx]
      refine trk_congr fun t ht => ?_
      simp [ht]⟩) (trk n c) (trk_congr fun t ht => by simp)
  exact ht
theorem countP_succ (p : Nat → Bool) (n : Nat) : (List.range (n + 1)).countP p = (List.range n).countP p + if p n = true then 1 else 0 := by
  rw [List.range_succ, List.countP_append]
  congr 1
  by_cases h : p n = true <;> simp [h]
theorem byTrack_is {f : GFrame} (hf : FOk f) {d : Arr 96 Int} (hd : DIn d) : impl_Frame_byTrack f d = some (trk f.fHammers.length fun t => (List.range f.fSteps.toNat).countP fun s => pin d s t) := by
  have hs0 := hf.s0; have hs1 := hf.s1; have hh1 := hf.h1
  have e : ((w64 f.fSteps)) = (f.fSteps.toNat : Int) := by rw [w64_in (by omega) (by omega)]; omega
  obtain ⟨t, ht, rfl⟩ := loop_for (f := impl_Frame_pins_at_impl_Frame_byTrack_1.l_5 f d) f.fSteps.toNat (by omega) (fun k xs => xs = trk f.fHammers.length fun t => (List.range k).countP fun s => pin d s t)
    (fun xs => xs = trk f.fHammers.length fun t => (List.range f.fSteps.toNat).countP fun s => pin d s t)
    (fun k xs hk hx => by
      simp only [impl_Frame_pins_at_impl_Frame_byTrack_1.l_5, size_is, Option.bind_some, e]
      rw [if_pos (by simp; omega), hx, byTrack_in hd (by omega) _ hh1 _ (fun t => by have := List.countP_le_length (p := fun s => pin d s t) (l := List.range k); simp at this; omega)]
      refine .inl ⟨_, rfl, trk_congr fun t _ => ?_⟩
      rw [countP_succ])
    (fun xs hx => ⟨xs, by simp [impl_Frame_pins_at_impl_Frame_byTrack_1.l_5, e], hx⟩) (List.replicate f.fHammers.length 0) (by
      apply List.ext_getElem?
      intro i
      by_cases hi : i < f.fHammers.length
      · rw [trk_get _ hi]; simp [hi]
      · rw [List.getElem?_eq_none (by simp; omega), List.getElem?_eq_none (by rw [trk_len]; omega)])
  simp only [impl_Frame_byTrack, impl_Frame_pins_at_impl_Frame_byTrack_1]
  rw [if_pos (by omega), show ((f.fHammers.length : Int)).toNat = f.fHammers.length by omega, ht]
  rfl

end Go.Proofs.YtojndiidhgdjcaaGreatDoor
