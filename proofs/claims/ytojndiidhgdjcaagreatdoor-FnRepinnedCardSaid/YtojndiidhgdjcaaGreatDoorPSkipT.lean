/- A track without pins left out: the drum plays the same. -/
import Derived.Test.YtojndiidhgdjcaaGreatDoorM2
import Derived.Test.YtojndiidhgdjcaaGreatDoorPFrame
import Derived.Test.YtojndiidhgdjcaaGreatDoorPDrum
import Derived.Test.YtojndiidhgdjcaaGreatDoorPCodes
import Derived.Test.YtojndiidhgdjcaaGreatDoorPPlc
import Derived.Test.YtojndiidhgdjcaaGreatDoorPByTr
import Derived.Test.YtojndiidhgdjcaaGreatDoorPPut
import Derived.Test.YtojndiidhgdjcaaGreatDoorPWithout
import Derived.Test.YtojndiidhgdjcaaGreatDoorPTune
import Derived.Test.YtojndiidhgdjcaaGreatDoorPMadeS
import Derived.Test.YtojndiidhgdjcaaGreatDoorPMade
import Derived.Test.YtojndiidhgdjcaaGreatDoorPHeard
import Derived.Test.YtojndiidhgdjcaaGreatDoorPBells
import Derived.Test.YtojndiidhgdjcaaGreatDoorPure
namespace Go.Proofs.YtojndiidhgdjcaaGreatDoor
open Eng
set_option linter.unusedVariables false
set_option linter.unusedSimpArgs false

theorem lessR_bit (t x i : Nat) : (lessR t x).testBit i = if i < t then x.testBit i else x.testBit (i + 1) := by
  unfold lessR
  simp only [Nat.testBit_or, Nat.testBit_and, Nat.testBit_shiftRight, ldif_bit, Nat.testBit_two_pow_sub_one]
  by_cases h : i < t
  · simp [h]
  · simp [h, Nat.add_comm]
theorem DIn_upD {d : Arr 96 Int} (hd : DIn d) (t k : Nat) : DIn (upD t d k) := by
  intro y hy
  obtain ⟨i, hi, rfl⟩ := List.getElem_of_mem hy
  have hi' : i < d.1.length := by rw [d.2]; rw [(upD t d k).2] at hi; exact hi
  have e : (upD t d k).1[i] = if i < k then ((lessR t (d.1[i]).toNat : Nat) : Int) else d.1[i] := by
    simp [upD]
  rw [e]
  have hx := hd _ (List.getElem_mem hi')
  split
  · have := lessR_lt (t := t) (x := (d.1[i]).toNat) (by omega)
    omega
  · exact hx
theorem pin_upD {d : Arr 96 Int} (t : Nat) {s : Nat} (hs : s < 96) (i : Nat) : pin (upD t d 96) s i = if i < t then pin d s i else pin d s (i + 1) := by
  have e : row' (upD t d 96) s = lessR t (row' d s) := by
    have hl : s < d.1.length := by rw [d.2]; exact hs
    unfold row' upD
    simp only [List.getElem?_mapIdx, List.getElem?_eq_getElem hl, Option.map_some, Option.getD_some]
    rw [if_pos hs, Int.toNat_natCast]
  unfold pin
  rw [e, lessR_bit]
theorem flat_ext {S : Type} {g k : Nat → List S} {n : Nat} (h : ∀ i, i < n → g i = k i) : (List.range n).flatMap g = (List.range n).flatMap k := by
  induction n with
  | zero => rfl
  | succ n ih => rw [List.range_succ, List.flatMap_append, List.flatMap_append, ih (fun i hi => h i (by omega))]; simp [h n (by omega)]
theorem flat_skip {S : Type} (g : Nat → List S) (k : Nat) (hk : g k = []) : ∀ n, k ≤ n → (List.range (n + 1)).flatMap g = (List.range n).flatMap fun i => if i < k then g i else g (i + 1)
  | n, h => by
    by_cases c : k = n
    · subst c
      rw [List.range_succ, List.flatMap_append]
      simp only [List.flatMap_cons, List.flatMap_nil, hk, List.append_nil]
      exact flat_ext fun i hi => by rw [if_pos hi]
    · match n, h, c with
      | 0, h, c => omega
      | n + 1, h, c =>
        rw [List.range_succ, List.flatMap_append, flat_skip g k hk n (by omega), List.range_succ (n := n), List.flatMap_append]
        simp only [List.flatMap_cons, List.flatMap_nil, List.append_nil]
        rw [if_neg (by omega)]
theorem lessF_ham {f : GFrame} (k i : Nat) : (lessF f k).fHammers[i]? = if i < k then f.fHammers[i]? else f.fHammers[i + 1]? := by
  show (f.fHammers.take k ++ f.fHammers.drop (k + 1))[i]? = _
  rw [← List.eraseIdx_eq_take_drop_succ, List.getElem?_eraseIdx]
theorem lessF_len {f : GFrame} {k : Nat} (hk : k < f.fHammers.length) : (lessF f k).fHammers.length = f.fHammers.length - 1 := by
  show (f.fHammers.take k ++ f.fHammers.drop (k + 1)).length = _
  simp only [List.length_append, List.length_take, List.length_drop]
  omega
theorem lessF_ok {f : GFrame} (hf : FOk f) {k : Nat} (hk : k < f.fHammers.length) (h2 : f.fHammers.length ≠ 1) : FOk (lessF f k) := by
  have hh0 := hf.h0; have hh1 := hf.h1
  have hl := lessF_len hk
  refine ⟨hf.s0, hf.s1, by omega, by omega, fun y hy => ?_⟩
  have hy : y ∈ f.fHammers.take k ++ f.fHammers.drop (k + 1) := hy
  rcases List.mem_append.1 hy with h | h
  · exact hf.hp y (List.mem_of_mem_take h)
  · exact hf.hp y (List.mem_of_mem_drop h)
theorem unused {d : Arr 96 Int} {k : Nat} (h : usesB d k = false) (s : Nat) : pin d s k = false := by
  cases hb : pin d s k with
  | false => rfl
  | true => have := (usesB_iff d k).2 ⟨s, hb⟩; rw [h] at this; cases this
theorem nall_less {f : GFrame} (hf : FOk f) {d : Arr 96 Int} {k : Nat} (hk : k < f.fHammers.length) (hu : usesB d k = false) : nall (lessF f k) (upD k d 96) = nall f d := by
  have hs0 := hf.s0; have hs1 := hf.s1
  unfold nall
  show (List.range f.fSteps.toNat).flatMap _ = _
  refine flat_ext fun s hs => ?_
  unfold nr
  rw [lessF_len hk]
  obtain ⟨m, hm⟩ : ∃ m, f.fHammers.length = m + 1 := ⟨f.fHammers.length - 1, by omega⟩
  rw [hm, Nat.add_sub_cancel, flat_skip (np f d s) k (by unfold np; rw [unused hu s]; rfl) m (by omega)]
  refine flat_ext fun i hi => ?_
  unfold np
  rw [pin_upD k (show s < 96 by omega), lessF_ham]
  by_cases c : i < k
  · simp only [if_pos c]
  · simp only [if_neg c]
theorem less_drum {f : GFrame} {d : Arr 96 Int} (hd : DIn d) (hB : drumB f d = true) {k : Nat} (hk : k < f.fHammers.length) : drumB (lessF f k) (upD k d 96) = true := by
  refine drumB_of fun s t h => ?_
  have hs : s < 96 := by
    rcases Nat.lt_or_ge s 96 with h' | h'
    · exact h'
    · unfold pin row' at h
      rw [List.getElem?_eq_none (by rw [(upD k d 96).2]; exact h')] at h
      simp at h
  rw [pin_upD k hs] at h
  rw [lessF_len hk]
  show (s : Int) < f.fSteps ∧ _
  split at h
  · have := drumB_pin hB hd h
    exact ⟨this.1, by omega⟩
  · have := drumB_pin hB hd h
    exact ⟨this.1, by omega⟩
theorem cnt_uses {f : GFrame} {d : Arr 96 Int} (hd : DIn d) (hB : drumB f d = true) (hs0 : 2 ≤ f.fSteps) (n : Nat) : decide ((((List.range f.fSteps.toNat).countP fun s => pin d s n : Nat) : Int) > 0) = usesB d n := by
  rw [Bool.eq_iff_iff, decide_eq_true_eq, usesB_iff]
  constructor
  · intro h
    have h : 0 < (List.range f.fSteps.toNat).countP fun s => pin d s n := by omega
    obtain ⟨s, _, hs⟩ := List.countP_pos_iff.1 h
    exact ⟨s, hs⟩
  · rintro ⟨s, hs⟩
    have := (drumB_pin hB hd hs).1
    have h : 0 < (List.range f.fSteps.toNat).countP fun s => pin d s n := List.countP_pos_iff.2 ⟨s, by simp; omega, hs⟩
    omega
theorem withoutTrack_val {f : GFrame} (hok : FOk f) (hi : FIn f) {d : Arr 96 Int} (hd : DIn d) (hB : drumB f d = true) {n : Nat} (hn : n < f.fHammers.length) :
    impl_WithoutTrack f d (n : Int) = some (if f.fHammers.length = 1 ∨ usesB d n = true then (⟨0, []⟩, Arr.rep 96 0, 4) else (lessF f n, upD n d 96, 0)) ∧
    spec_WithoutTrack f d (n : Int) = some (if f.fHammers.length = 1 ∨ usesB d n = true then (⟨0, []⟩, Arr.rep 96 0, 4) else (lessF f n, upD n d 96, 0)) := by
  have h1 := hok.h1; have hs0 := hok.s0; have hs1 := hok.s1
  have c : frameB f = true ∧ drumB f d = true := ⟨frameB_of hok, hB⟩
  have hp : plB f 0 (n : Int) = true := (plB_ok hok 0 _).2 ⟨⟨by omega, by omega⟩, by omega, by omega⟩
  simp only [impl_WithoutTrack, spec_WithoutTrack, placeCode_is f hi (show f.fHammers.length ≤ 9223372036854775807 by omega) d hd, l02Place_is f hi (show f.fHammers.length ≤ 9223372036854775807 by omega) d hd, Option.bind_some, if_pos c, if_pos hp, bne_self_eq_false, Bool.false_eq_true, if_false, uses_is hd (show n < 32 by omega), bit_is (show n < 32 by omega), byTrack_is hok hd, ix_get (trk_get _ hn), cnt_uses hd hB hs0 n]
  by_cases h0 : f.fHammers.length = 1
  · rw [if_pos (show f.fHammers.length = 1 ∨ usesB d n = true from .inl h0)]
    constructor
    · rw [if_pos (by simp [h0])]; rfl
    · rw [if_pos (by simp [h0])]
  · cases hu : usesB d n
    case true =>
      rw [if_pos (show f.fHammers.length = 1 ∨ true = true from .inr rfl)]
      constructor
      · rw [if_neg (by simp; omega)]; rfl
      · rw [if_pos (by simp)]
    case false =>
      rw [if_neg (show ¬ (f.fHammers.length = 1 ∨ false = true) by simp [h0])]
      constructor
      · rw [if_neg (by simp; omega)]
        simp only [impl_WithoutTrack.k_3, Bool.false_eq_true, if_false, implRows hd (show n < 32 by omega) (unused hu), Option.bind_some, impl_WithoutTrack.k_5, without_is hok hn]
      · rw [if_neg (by simp; omega)]
        simp only [specRows hd (show n < 32 by omega), Option.bind_some, spec_WithoutTrack.k_5, less_is hok hn]

end Go.Proofs.YtojndiidhgdjcaaGreatDoor
