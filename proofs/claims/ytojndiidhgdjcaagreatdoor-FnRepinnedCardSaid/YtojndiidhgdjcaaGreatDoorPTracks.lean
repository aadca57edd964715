/- A pinning is checked: the program finds it one. -/
import Derived.Test.YtojndiidhgdjcaaGreatDoorM1
import Derived.Test.YtojndiidhgdjcaaGreatDoorPFrame
import Derived.Test.YtojndiidhgdjcaaGreatDoorPDrum
import Derived.Test.YtojndiidhgdjcaaGreatDoorPCodes
import Derived.Test.YtojndiidhgdjcaaGreatDoorPPut
import Derived.Test.YtojndiidhgdjcaaGreatDoorPTune
import Derived.Test.YtojndiidhgdjcaaGreatDoorPMadeS
import Derived.Test.YtojndiidhgdjcaaGreatDoorPMade
import Derived.Test.YtojndiidhgdjcaaGreatDoorPChoices
import Derived.Test.YtojndiidhgdjcaaGreatDoorPFit
import Derived.Test.YtojndiidhgdjcaaGreatDoorPPlc
import Derived.Test.YtojndiidhgdjcaaGreatDoorPByTr
import Derived.Test.YtojndiidhgdjcaaGreatDoorPWithout
import Derived.Test.YtojndiidhgdjcaaGreatDoorPPins
import Derived.Test.YtojndiidhgdjcaaGreatDoorPPinRun
import Derived.Test.YtojndiidhgdjcaaGreatDoorPPinTune
import Derived.Test.YtojndiidhgdjcaaGreatDoorPPinLaw
import Derived.Test.YtojndiidhgdjcaaGreatDoorPPinLk
import Derived.Test.YtojndiidhgdjcaaGreatDoorPBits
import Derived.Test.YtojndiidhgdjcaaGreatDoorPClash
import Derived.Test.YtojndiidhgdjcaaGreatDoorPCost
import Derived.Test.YtojndiidhgdjcaaGreatDoorPPinned
import Derived.Test.YtojndiidhgdjcaaGreatDoorPChList
import Derived.Test.YtojndiidhgdjcaaGreatDoorPHeard
import Derived.Test.YtojndiidhgdjcaaGreatDoorPBells
import Derived.Test.YtojndiidhgdjcaaGreatDoorPure
namespace Go.Proofs.YtojndiidhgdjcaaGreatDoor
open Eng
set_option linter.unusedVariables false
set_option linter.unusedSimpArgs false

theorem nall_iff {f : GFrame} (hf : FOk f) {d : Arr 96 Int} (hd : ∀ s t, pin d s t = true → (s : Int) < f.fSteps ∧ t < f.fHammers.length) (n : GNote) : n ∈ nall f d ↔ ∃ s k : Nat, pin d s k = true ∧ n.fAt = (s : Int) ∧ ptc f k = some n.fPitch := by
  have hs0 := hf.s0
  unfold nall nr np ptc
  constructor
  · intro h
    obtain ⟨s, hs, h⟩ := List.mem_flatMap.1 h
    obtain ⟨k, hk, h⟩ := List.mem_flatMap.1 h
    split at h
    · rename_i hp
      rw [List.mem_range] at hk
      rw [List.getElem?_eq_getElem hk] at h
      simp at h
      subst h
      exact ⟨s, k, hp, rfl, by rw [List.getElem?_eq_getElem hk]; rfl⟩
    · cases h
  · rintro ⟨s, k, hp, h1, h2⟩
    obtain ⟨g1, g2⟩ := hd s k hp
    refine List.mem_flatMap.2 ⟨s, List.mem_range.2 (by omega), List.mem_flatMap.2 ⟨k, List.mem_range.2 g2, ?_⟩⟩
    rw [List.getElem?_eq_getElem g2] at h2 ⊢
    rw [if_pos hp]
    simp only [Option.map_some, Option.some.injEq, Option.toList_some, List.mem_singleton] at h2 ⊢
    exact note_ext h1 h2.symm
theorem pd_played {f : GFrame} (hf : FOk f) {t : List GNote} (ht : TOk t) {D : Arr 96 Int} (hp : Pd f t D) : impl_made (nall f D) = some t := by
  have hl := nall_len hf D
  obtain ⟨r, m1, m2, m3⟩ := made_is (nall f D) (by omega)
  obtain ⟨r', h1, h2, h3, h4⟩ := l01Sorted_is (nall f D) (by omega)
  rw [m2] at h1
  obtain rfl := Option.some.inj h1
  have : r = t := strict_eq r t h2 ht.so fun x => by
    rw [h3, nall_iff hf hp.dg.in_]
    constructor
    · rintro ⟨s, k, g1, g2, g3⟩
      obtain ⟨n, a1, a2, a3⟩ := hp.src s k g1
      rw [g3] at a3
      have : x = n := note_ext (by omega) (Option.some.inj a3)
      exact this ▸ a1
    · intro hx
      obtain ⟨k, a1, a2, a3⟩ := hp.has x hx
      exact ⟨x.fAt.toNat, k, a2, by have := (ht.nt x hx).1; omega, a3⟩
  rw [m1, this]
theorem equalNotes_refl (t : List GNote) (h : t.length ≤ 1000000) : slices_Equal_Note t t = some true := by
  have h0 : loop (slices_Equal_Note.l_3 t t) 0 = some (.inr ()) := loop_seq (f := slices_Equal_Note.l_3 t t) t.length (fun k => (k : Int)) (.inr ()) (fun k hk => by
    simp only [slices_Equal_Note.l_3, ix_lt hk, Option.bind_some]
    rw [if_pos (by simpa using hk), if_neg (by simp), w64_in (n := (k : Int) + 1) (by omega) (by omega)]
    simp) (by simp [slices_Equal_Note.l_3])
  simp [slices_Equal_Note, h0, slices_Equal_Note.k_1]
theorem cR_uniq {p : Nat → Bool} {n k : Nat} (hk : k < n) (h1 : p k = true) (h2 : ∀ i, i < n → p i = true → i = k) : cR p n = 1 := by
  have e := cR_put (p := fun _ => false) (t := k) rfl n hk
  rw [cR_none n (fun _ _ => rfl), Nat.zero_add] at e
  rw [← e]
  refine cR_ext n fun i hi => ?_
  by_cases c : i = k
  · subst c; simp [h1]
  · have : p i = false := by
      cases hb : p i with
      | false => rfl
      | true => exact absurd (h2 i hi hb) c
    simp [this, c]
theorem sR_const1 : ∀ n, sR (fun _ => 1) n = n
  | 0 => rfl
  | n + 1 => by simp only [sR, sR_const1 n]
def tkB (f : GFrame) (D : Arr 96 Int) (n : GNote) (k : Nat) : Bool := pin D n.fAt.toNat k && decide (ptc f k = some n.fPitch)
def tkR (f : GFrame) (D : Arr 96 Int) (t : List GNote) (i : Nat) : List Int := (List.range f.fHammers.length).flatMap fun k => if ((t[i]?).map fun n => tkB f D n k) = some true then [(k : Int)] else []
theorem tkR_one {f : GFrame} {t : List GNote} {D : Arr 96 Int} (hp : Pd f t D) {i : Nat} (hi : i < t.length) : (tkR f D t i).length = 1 := by
  unfold tkR
  rw [len_flatMap]
  obtain ⟨k, a1, a2, a3⟩ := hp.has _ (List.getElem_mem hi)
  rw [← cR_uniq (p := fun k => tkB f D t[i] k) (n := f.fHammers.length) (k := k) a1 (by unfold tkB; rw [a2, a3]; simp) (fun j hj hb => by
    unfold tkB at hb
    simp only [Bool.and_eq_true, decide_eq_true_eq] at hb
    exact hp.one _ _ _ hb.1 a2 (hb.2.trans a3.symm)), ← sR_ones]
  refine sR_ext _ fun j hj => ?_
  rw [List.getElem?_eq_getElem hi]
  simp only [Option.map_some, Option.some.injEq]
  split <;> rfl
theorem tkR_len (f : GFrame) (D : Arr 96 Int) (t : List GNote) (i : Nat) : (tkR f D t i).length ≤ f.fHammers.length * 1 := app_len _ _ _ fun k _ => by split <;> simp
theorem tracks_loop {f : GFrame} {t : List GNote} (h : Gv f t) {D : Arr 96 Int} (hd : DIn D) : loop (impl_tracksOf.l_10 f t D) (([] : List Int), 0) = some ((List.range t.length).flatMap (tkR f D t)) := by
  have hh1 := h.hf.h1; have hs0 := h.hf.s0; have hs1 := h.hf.s1; have htl := h.ht.len
  have hrow : ∀ i, i < t.length → ∀ ys : List Int, ys.length ≤ 3000 → loop (impl_tracksOf.l_18 f D ((t[i]?).getD ⟨0, 0⟩) (f.fHammers.length : Int)) (ys, 0) = some (ys ++ tkR f D t i) := by
    intro i hi ys hy
    rw [List.getElem?_eq_getElem hi, Option.getD_some]
    have hn := h.ht.nt _ (List.getElem_mem hi)
    have hns := len_all h.ht h.len _ (List.getElem_mem hi)
    have ea : w64 t[i].fAt = ((t[i].fAt.toNat : Nat) : Int) := by rw [w64_in (by omega) (by omega)]; omega
    refine loop_app f.fHammers.length 1 (by omega) (fun k => if ((t[i]?).map fun n => tkB f D n k) = some true then [(k : Int)] else []) ys (fun k _ => by split <;> simp) (fun zs k hk hz => ?_) (fun zs => by simp [impl_tracksOf.l_18])
    simp only [impl_tracksOf.l_18, ea, has_is hd (show t[i].fAt.toNat < 96 by omega) (show k ≤ 32 by omega), Option.bind_some, List.getElem?_eq_getElem hi, Option.map_some, Option.some.injEq, tkB, ptc, ix_lt hk, List.getElem?_eq_getElem hk]
    rw [if_pos (by simpa using hk)]
    cases hpin : pin D t[i].fAt.toNat k with
    | false => simp [impl_tracksOf.k_21]
    | true =>
      by_cases c : f.fHammers[k].fPitch = t[i].fPitch
      · simp only [if_true, impl_tracksOf.k_21, c, beq_self_eq_true, decide_true, Bool.and_self]
        rw [if_pos (by simp only [List.length_cons, List.length_nil]; omega)]
      · simp [impl_tracksOf.k_21, c]
  have hl := loop_app (f := impl_tracksOf.l_10 f t D) t.length 24 (by omega) (tkR f D t) [] (fun k hk => by have := tkR_len f D t k; omega) (fun ys k hk hy => by
    simp only [List.length_nil] at hy
    have := hrow k hk ys (by omega)
    rw [List.getElem?_eq_getElem hk, Option.getD_some] at this
    simp only [impl_tracksOf.l_10, ix_lt hk, size_is, Option.bind_some, this, impl_tracksOf.k_15]
    rw [if_pos (by simpa using hk)]) (fun ys => by simp [impl_tracksOf.l_10])
  rw [List.nil_append] at hl
  exact hl
theorem tracksOf_is {f : GFrame} {t : List GNote} (h : Gv f t) {D : Arr 96 Int} (hp : Pd f t D) : ∃ xs, impl_tracksOf f t D = some (xs, true) := by
  have htl := h.ht.len
  have hl := tracks_loop h hp.dg.din
  have hlen : ((List.range t.length).flatMap (tkR f D t)).length = t.length := by
    rw [len_flatMap, sR_ext t.length (k := fun _ => 1) (fun i hi => tkR_one hp hi), sR_const1]
  refine ⟨(List.range t.length).flatMap (tkR f D t), ?_⟩
  have hsz : impl_size_Note t = some (t.length : Int) := rfl
  simp only [impl_tracksOf, hl, Option.bind_some, impl_tracksOf.k_2, hlen, beq_self_eq_true, if_true, count_is hp.dg.din, hsz, hp.cnt, played_is h.hf hp.dg.din, pd_played h.hf h.ht hp, equalNotes_refl t (by omega), allClashes_no h.hf hp.dg]
  rfl
theorem checkPin_is {f : GFrame} {t : List GNote} (h : Gv f t) {D : Arr 96 Int} (hp : Pd f t D) : impl_CheckPinning f t D = some (true, 0) := by
  obtain ⟨xs, e⟩ := tracksOf_is h hp
  simp [impl_CheckPinning, tuneOn_ok h hp.dg.din (drumB_of hp.dg.in_) (budget := 0) (by omega), e]

end Go.Proofs.YtojndiidhgdjcaaGreatDoor
