/- Tracks without pins: the program's list and the reference's. -/
import Derived.Test.YtojndiidhgdjcaaGreatDoorM1
import Derived.Test.YtojndiidhgdjcaaGreatDoorM2
import Derived.Test.YtojndiidhgdjcaaGreatDoorPFrame
import Derived.Test.YtojndiidhgdjcaaGreatDoorPDrum
import Derived.Test.YtojndiidhgdjcaaGreatDoorPCodes
import Derived.Test.YtojndiidhgdjcaaGreatDoorPPlc
import Derived.Test.YtojndiidhgdjcaaGreatDoorPByTr
import Derived.Test.YtojndiidhgdjcaaGreatDoorPPut
import Derived.Test.YtojndiidhgdjcaaGreatDoorPWithout
import Derived.Test.YtojndiidhgdjcaaGreatDoorPTune
import Derived.Test.YtojndiidhgdjcaaGreatDoorPMadeS
import Derived.Test.YtojndiidhgdjcaaGreatDoorPMade
import Derived.Test.YtojndiidhgdjcaaGreatDoorPHeard
import Derived.Test.YtojndiidhgdjcaaGreatDoorPBells
import Derived.Test.YtojndiidhgdjcaaGreatDoorPSkipT
import Derived.Test.YtojndiidhgdjcaaGreatDoorPChoices
import Derived.Test.YtojndiidhgdjcaaGreatDoorPFit
import Derived.Test.YtojndiidhgdjcaaGreatDoorPPins
import Derived.Test.YtojndiidhgdjcaaGreatDoorPure
namespace Go.Proofs.YtojndiidhgdjcaaGreatDoor
open Eng
set_option linter.unusedVariables false
set_option linter.unusedSimpArgs false

def spareL (f : GFrame) (d : Arr 96 Int) : List Nat := (List.range f.fHammers.length).filter fun k => !usesB d k
def cntT (f : GFrame) (d : Arr 96 Int) (t : Nat) : Nat := (List.range f.fSteps.toNat).countP fun s => pin d s t
theorem cntT_zero {f : GFrame} {d : Arr 96 Int} (hf : FOk f) (hd : DIn d) (hB : drumB f d = true) (k : Nat) : (((cntT f d k : Nat) : Int) == 0) = !usesB d k := by
  have h := cnt_uses hd hB hf.s0 k
  rw [← h]
  unfold cntT
  rw [Bool.eq_iff_iff]
  simp
theorem spare_is {f : GFrame} (hf : FOk f) (hi : FIn f) {d : Arr 96 Int} (hd : DIn d) (hB : drumB f d = true) :
    impl_SpareTracks f d = some (cstN (spareL f d), 0) ∧ spec_SpareTracks f d = some (cstN (spareL f d), 0) ∧ impl_PinsByTrack f d = some (trk f.fHammers.length (cntT f d), 0) := by
  have hh1 := hf.h1
  have hl : f.fHammers.length ≤ 9223372036854775807 := by omega
  have hdc := drumCode1 f hi hl d hd
  have hda := l02Asked_is f hi hl d hd
  rw [if_pos ⟨frameB_of hf, hB⟩] at hdc hda
  have hbt : impl_Frame_byTrack f d = some (trk f.fHammers.length (cntT f d)) := byTrack_is hf hd
  have h1 := loop_app (f := impl_SpareTracks.l_7 (trk f.fHammers.length (cntT f d))) f.fHammers.length 1 (by omega) (fun k => if (!usesB d k) = true then [(k : Int)] else []) [] (fun k _ => by split <;> simp) (fun xs k hk hx => by
    simp only [List.length_nil] at hx
    simp only [impl_SpareTracks.l_7, ix_get (trk_get (cntT f d) hk), trk_len, Option.bind_some, cntT_zero hf hd hB]
    rw [if_pos (by simpa using hk)]
    cases usesB d k with
    | true => simp
    | false =>
      simp only [Bool.not_false, if_true]
      rw [if_pos (by simp only [List.length_cons, List.length_nil]; omega)]) (fun xs => by simp [impl_SpareTracks.l_7, trk_len])
  have h2 := loop_app (f := spec_SpareTracks.l_6 f d) f.fHammers.length 1 (by omega) (fun k => if (!usesB d k) = true then [(k : Int)] else []) [] (fun k _ => by split <;> simp) (fun xs k hk hx => by
    simp only [List.length_nil] at hx
    simp only [spec_SpareTracks.l_6, uses_is hd (show k < 32 by omega), Option.bind_some]
    rw [if_pos (by simpa using hk)]
    cases usesB d k with
    | true => simp
    | false =>
      simp only [Bool.not_false, if_true]
      rw [if_pos (by simp only [List.length_cons, List.length_nil]; omega)]) (fun xs => by simp [spec_SpareTracks.l_6])
  have e : ([] : List Int) ++ (List.range f.fHammers.length).flatMap (fun k => if (!usesB d k) = true then [(k : Int)] else []) = cstN (spareL f d) := by
    rw [List.nil_append]
    exact ptk_flat (fun k => !usesB d k) _
  rw [e] at h1 h2
  refine ⟨?_, ?_, ?_⟩
  · simp [impl_SpareTracks, hdc, hbt, h1, impl_SpareTracks.k_4]
  · simp [spec_SpareTracks, hda, h2, spec_SpareTracks.k_3]
  · simp [impl_PinsByTrack, hdc, hbt]
theorem has_num (L : List Nat) (hl : L.length ≤ 1000) (k : Nat) : spec_HasNumber (cstN L) (k : Int) = some (decide (k ∈ L)) := by
  have hcl := cstN_len L
  have hix : ∀ j, (hj : j < L.length) → ix (cstN L) (j : Int) = some ((L[j] : Nat) : Int) := fun j hj => by
    rw [ix_lt (by omega)]; simp [cstN]
  have key : ∀ j, (hj : j < L.length) → spec_l00Has.l_3 (cstN L) (k : Int) (j : Int) = some (if L[j] = k then .inr (.inl true) else .inl (w64 ((j : Int) + 1))) := fun j hj => by
    simp only [spec_l00Has.l_3, hix j hj, Option.bind_some]
    rw [if_pos (by rw [decide_eq_true_eq]; omega)]
    by_cases c : L[j] = k
    · simp [c]
    · rw [if_neg c, if_neg (by simp only [beq_iff_eq]; omega)]
  have hend : spec_l00Has.l_3 (cstN L) (k : Int) (L.length : Int) = some (.inr (.inr ())) := by simp [spec_l00Has.l_3, hcl]
  by_cases hm : k ∈ L
  · obtain ⟨i, hi, he⟩ := List.getElem_of_mem hm
    obtain ⟨r, hr, rfl⟩ := loop_cnt (f := spec_l00Has.l_3 (cstN L) (k : Int)) L.length (by omega) (fun j => j ≤ i) (fun r => r = .inl true) (fun j hj hI => by
      rw [key j hj]
      by_cases c : L[j] = k
      · right; rw [if_pos c]; exact ⟨_, rfl, rfl⟩
      · left; rw [if_neg c]; refine ⟨rfl, ?_⟩
        rcases Nat.lt_or_ge j i with h | h
        · exact h
        · obtain rfl : j = i := by omega
          exact absurd he c) (fun h => by omega) (by omega)
    simp [spec_HasNumber, spec_l00Has, hr, hm]
  · obtain ⟨r, hr, rfl⟩ := loop_cnt (f := spec_l00Has.l_3 (cstN L) (k : Int)) L.length (by omega) (fun _ => True) (fun r => r = .inr ()) (fun j hj _ => by
      rw [key j hj, if_neg (show ¬ L[j] = k from fun c => hm (c ▸ List.getElem_mem hj))]
      exact .inl ⟨rfl, trivial⟩) (fun _ => ⟨_, hend, rfl⟩) trivial
    simp [spec_HasNumber, spec_l00Has, hr, hm, spec_l00Has.k_1]
theorem sameNumbers_refl (t : List Int) (h : t.length ≤ 1000000) : spec_SameNumbers t t = some true := by
  have h0 : loop (spec_l00Same.l_3 t t) 0 = some (.inr ()) := loop_seq (f := spec_l00Same.l_3 t t) t.length (fun k => (k : Int)) (.inr ()) (fun k hk => by
    simp only [spec_l00Same.l_3, ix_lt hk, Option.bind_some]
    rw [if_pos (by simpa using hk), if_neg (by simp), w64_in (n := (k : Int) + 1) (by omega) (by omega)]
    simp) (by simp [spec_l00Same.l_3])
  simp [spec_SameNumbers, spec_l00Same, h0, spec_l00Same.k_1]
theorem spare_mem {f : GFrame} {d : Arr 96 Int} {k : Nat} (hk : k < f.fHammers.length) : decide (k ∈ spareL f d) = !usesB d k := by
  rw [Bool.eq_iff_iff, decide_eq_true_eq]
  unfold spareL
  rw [List.mem_filter, List.mem_range]
  exact ⟨fun h => h.2, fun h => ⟨hk, h⟩⟩
theorem spare_len (f : GFrame) (d : Arr 96 Int) : (spareL f d).length ≤ f.fHammers.length := by
  unfold spareL
  have := List.length_filter_le (fun k => !usesB d k) (List.range f.fHammers.length)
  simpa using this
/-- what a valid drum plays, where its notes are few -/
theorem tuneOf_of {f : GFrame} (hf : FOk f) (hi : FIn f) {d : Arr 96 Int} (hd : DIn d) (hB : drumB f d = true) {r : List GNote} (m : impl_made (nall f d) = some r) (hr : TOk r) : impl_TuneOf f d = some (r, 0) := by
  have hh1 := hf.h1
  have hdc := drumCode1 f hi (show f.fHammers.length ≤ 9223372036854775807 by omega) d hd
  rw [if_pos ⟨frameB_of hf, hB⟩] at hdc
  have hrl := hr.len
  have hrn : ∀ n ∈ r, NIn n := fun n h => by have := hr.nt n h; exact ⟨by omega, by omega⟩
  simp [impl_TuneOf, hdc, played_is hf hd, m, impl_checked, validTune_is (show r.length ≤ 9223372036854775807 by omega) hrn, tuneB_of hr]

end Go.Proofs.YtojndiidhgdjcaaGreatDoor
