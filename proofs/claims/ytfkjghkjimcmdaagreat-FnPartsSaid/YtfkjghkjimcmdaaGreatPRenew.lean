/- A pin or a hammer made new: what the wear is then. -/
import Derived.Test.YtfkjghkjimcmdaaGreatM2
import Derived.Test.YtfkjghkjimcmdaaGreatPFrame
import Derived.Test.YtfkjghkjimcmdaaGreatPDrum
import Derived.Test.YtfkjghkjimcmdaaGreatPCodes
import Derived.Test.YtfkjghkjimcmdaaGreatPWear
import Derived.Test.YtfkjghkjimcmdaaGreatPPut
import Derived.Test.YtfkjghkjimcmdaaGreatPWDrum
import Derived.Test.YtfkjghkjimcmdaaGreatPEach
import Derived.Test.YtfkjghkjimcmdaaGreatPParts
import Derived.Test.YtfkjghkjimcmdaaGreatPOwn
import Derived.Test.YtfkjghkjimcmdaaGreatPWPlace
import Derived.Test.YtfkjghkjimcmdaaGreatPPinAt
import Derived.Test.YtfkjghkjimcmdaaGreatPure
namespace Go.Proofs.YtfkjghkjimcmdaaGreat
open Eng
set_option linter.unusedVariables false
set_option linter.unusedSimpArgs false

theorem newPin_val {f : GFrame} {w : GWear} (hok : WOk f w) (hf : f.fHammers.length ≤ 1048576) (hp : w.fPins.length ≤ 1048576) (hs : w.fStrokes.length ≤ 1048576) {k : Nat} (hk : k < w.fPins.length) :
    impl_NewPin f w w.fPins[k].fStep w.fPins[k].fTrack = some (⟨w.fPins.set k ⟨w.fPins[k].fStep, w.fPins[k].fTrack, 0⟩, w.fStrokes⟩, 0) := by
  have hm : w.fPins[k] ∈ w.fPins := List.getElem_mem hk
  have hpk := hok.pl _ hm
  have h1 := hok.fr.s1; have h3 := hok.fr.h1
  have hpl : plB f w.fPins[k].fStep w.fPins[k].fTrack = true := (plB_ok hok.fr _ _).2 ⟨hpk.1, hpk.2.1⟩
  simp only [impl_NewPin, wornPlace_is f w hf hp hs _ (show ([Arr.set (Arr.set (Arr.rep 2 0) 0 w.fPins[k].fStep) 1 w.fPins[k].fTrack] : List (Arr 2 Int)).length ≤ 9223372036854775807 by simp), Option.bind_some, List.all_cons, List.all_nil, arr2_plA, Bool.and_true, wearB_of hok, hpl, if_true, bne_self_eq_false, Bool.false_eq_true, if_false]
  rw [w8_in (n := w.fPins[k].fStep) (by omega) (by omega), w8_in (n := w.fPins[k].fTrack) (by omega) (by omega)]
  rcases at_cases w hp w.fPins[k].fStep w.fPins[k].fTrack with ⟨j, hj, e1, e2⟩ | ⟨e1, e2⟩
  · obtain ⟨g1, g2⟩ := (atB_iff hok (List.getElem_mem hj) _ _).1 e2
    have ejk : j = k := by
      rcases Nat.lt_trichotomy j k with hlt | heq | hgt
      · have := List.pairwise_iff_getElem.1 hok.so j k hj hk hlt
        rw [befB_iff] at this; omega
      · exact heq
      · have := List.pairwise_iff_getElem.1 hok.so k j hk hj hgt
        rw [befB_iff] at this; omega
    subst ejk
    simp only [e1, Option.bind_some, wearWithout_is w hp hs hk]
    rw [if_pos (by rw [decide_eq_true_eq]; omega)]
    have hset : w.fPins.set j (⟨w.fPins[j].fStep, w.fPins[j].fTrack, 0⟩ : GWornPin) = w.fPins.take j ++ (⟨w.fPins[j].fStep, w.fPins[j].fTrack, 0⟩ : GWornPin) :: w.fPins.drop (j + 1) := by rw [List.set_eq_take_append_cons_drop, if_pos hj]
    have hsrt : (w.fPins.set j (⟨w.fPins[j].fStep, w.fPins[j].fTrack, 0⟩ : GWornPin)).Pairwise (fun x y => befB x y = true) := by
      rw [List.pairwise_iff_getElem]
      intro a b ha hb hab
      have ha2 : a < w.fPins.length := by simpa using ha
      have hb2 : b < w.fPins.length := by simpa using hb
      have := List.pairwise_iff_getElem.1 hok.so a b ha2 hb2 hab
      rw [List.getElem_set, List.getElem_set]
      have key : ∀ (m : Nat) (hm : m < w.fPins.length), (if j = m then (⟨w.fPins[j].fStep, w.fPins[j].fTrack, 0⟩ : GWornPin) else w.fPins[m]).fStep = w.fPins[m].fStep ∧ (if j = m then (⟨w.fPins[j].fStep, w.fPins[j].fTrack, 0⟩ : GWornPin) else w.fPins[m]).fTrack = w.fPins[m].fTrack := by
        intro m hm
        by_cases e : j = m
        · subst e; rw [if_pos rfl]; exact ⟨rfl, rfl⟩
        · rw [if_neg e]; exact ⟨rfl, rfl⟩
      rw [bef_congr (key a ha2).1 (key a ha2).2 (key b hb2).1 (key b hb2).2]
      exact this
    have hw' := with_is (⟨w.fPins.take j ++ w.fPins.drop (j + 1), w.fStrokes⟩ : GWear) (⟨w.fPins[j].fStep, w.fPins[j].fTrack, 0⟩ : GWornPin) (by simp; omega) hs hsrt (by
      rw [hset]
      exact List.perm_middle.trans (List.perm_append_singleton _ _).symm)
    simp only [hw', Option.bind_some]
  · have := e2 _ hm
    rw [(atB_iff hok hm _ _).2 ⟨rfl, rfl⟩] at this; cases this
theorem newHammer_val {f : GFrame} {w : GWear} (hok : WOk f w) (hf : f.fHammers.length ≤ 1048576) (hp : w.fPins.length ≤ 1048576) (hs : w.fStrokes.length ≤ 1048576) {t : Nat} (ht : t < f.fHammers.length) :
    impl_NewHammer f w (t : Int) = some (⟨w.fPins, w.fStrokes.set t 0⟩, 0) := by
  have h1 := hok.fr.s0; have hsl := hok.sl
  have e1 : plB f 0 (t : Int) = true := (plB_ok hok.fr 0 t).2 ⟨by omega, by omega, by omega⟩
  have hl : t < w.fStrokes.length := by omega
  simp [impl_NewHammer, wornPlace_is f w hf hp hs _ (show ([Arr.set (Arr.set (Arr.rep 2 0) 0 0) 1 (t : Int)] : List (Arr 2 Int)).length ≤ 9223372036854775807 by simp), arr2_plA, wearB_of hok, e1, own_is w hp hs, ix_lt hl]
/-- the wear so made is valid -/
theorem set_pin_wok {f : GFrame} {w : GWear} (hok : WOk f w) {k : Nat} (hk : k < w.fPins.length) : WOk f ⟨w.fPins.set k ⟨w.fPins[k].fStep, w.fPins[k].fTrack, 0⟩, w.fStrokes⟩ := by
  refine ⟨hok.fr, hok.sl, fun p hp => ?_, ?_, hok.st⟩
  · rcases List.mem_or_eq_of_mem_set hp with h | rfl
    · exact hok.pl p h
    · have := hok.pl _ (List.getElem_mem hk); simp only; omega
  · simp only
    rw [List.pairwise_iff_getElem]
    intro a b ha hb hab
    have ha2 : a < w.fPins.length := by simpa using ha
    have hb2 : b < w.fPins.length := by simpa using hb
    have := List.pairwise_iff_getElem.1 hok.so a b ha2 hb2 hab
    rw [List.getElem_set, List.getElem_set]
    rw [befB_iff] at this ⊢
    by_cases e1 : k = a
    · subst e1
      rw [if_pos rfl, if_neg (by omega)]; exact this
    · rw [if_neg e1]
      by_cases e2 : k = b
      · subst e2; rw [if_pos rfl]; exact this
      · rw [if_neg e2]; exact this
theorem set_stroke_wok {f : GFrame} {w : GWear} (hok : WOk f w) (t : Nat) : WOk f ⟨w.fPins, w.fStrokes.set t 0⟩ := by
  refine ⟨hok.fr, by simpa using hok.sl, hok.pl, hok.so, fun s hs => ?_⟩
  rcases List.mem_or_eq_of_mem_set hs with h | rfl
  · exact hok.st s h
  · omega

end Go.Proofs.YtfkjghkjimcmdaaGreat
