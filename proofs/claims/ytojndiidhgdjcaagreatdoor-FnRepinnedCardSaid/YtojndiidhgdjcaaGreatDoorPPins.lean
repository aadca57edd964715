/- The search of pinnings: one plain search, to which the program's and the reference's come. -/
import Derived.Test.YtojndiidhgdjcaaGreatDoorM0
import Derived.Test.YtojndiidhgdjcaaGreatDoorM1
import Derived.Test.YtojndiidhgdjcaaGreatDoorPFrame
import Derived.Test.YtojndiidhgdjcaaGreatDoorPDrum
import Derived.Test.YtojndiidhgdjcaaGreatDoorPCodes
import Derived.Test.YtojndiidhgdjcaaGreatDoorPPut
import Derived.Test.YtojndiidhgdjcaaGreatDoorPTune
import Derived.Test.YtojndiidhgdjcaaGreatDoorPChoices
import Derived.Test.YtojndiidhgdjcaaGreatDoorPFit
import Derived.Test.YtojndiidhgdjcaaGreatDoorPPlc
import Derived.Test.YtojndiidhgdjcaaGreatDoorPByTr
import Derived.Test.YtojndiidhgdjcaaGreatDoorPWithout
import Derived.Test.YtojndiidhgdjcaaGreatDoorPure
namespace Go.Proofs.YtojndiidhgdjcaaGreatDoor
open Eng
set_option linter.unusedVariables false
set_option linter.unusedSimpArgs false

/-! ### the tracks that are free -/
def ptkB (f : GFrame) (d : Arr 96 Int) (n : GNote) (k : Nat) : Bool := decide (((f.fHammers[k]?).map GHammer.fPitch) = some n.fPitch) && freeB f d n.fAt.toNat k
def ptk (f : GFrame) (d : Arr 96 Int) (n : GNote) : List Nat := (List.range f.fHammers.length).filter (ptkB f d n)
def cstN (l : List Nat) : List Int := l.map Int.ofNat
theorem cstN_len (l : List Nat) : (cstN l).length = l.length := List.length_map _
theorem ptk_flat (p : Nat → Bool) : ∀ l : List Nat, l.flatMap (fun k => if p k = true then [(k : Int)] else []) = cstN (l.filter p) := by
  intro l
  induction l with
  | nil => rfl
  | cons k l ih =>
    rw [List.flatMap_cons, ih]
    cases h : p k <;> simp [List.filter, h, cstN]
theorem ptk_mem {f : GFrame} {d : Arr 96 Int} {n : GNote} {k : Nat} (h : k ∈ ptk f d n) : k < f.fHammers.length ∧ freeB f d n.fAt.toNat k = true := by
  unfold ptk at h
  obtain ⟨h1, h2⟩ := List.mem_filter.1 h
  unfold ptkB at h2
  simp only [Bool.and_eq_true] at h2
  exact ⟨by simpa using h1, h2.2⟩
theorem ptk_len (f : GFrame) (d : Arr 96 Int) (n : GNote) : (ptk f d n).length ≤ f.fHammers.length := by
  unfold ptk
  have := List.length_filter_le (ptkB f d n) (List.range f.fHammers.length)
  simpa using this
theorem freeTracks_is {f : GFrame} (hf : FOk f) {d : Arr 96 Int} (hd : DIn d) {n : GNote} (ha : 0 ≤ n.fAt ∧ n.fAt < f.fSteps) (hp : 0 ≤ n.fPitch ∧ n.fPitch ≤ 47) : impl_Frame_freeTracks f d (w64 n.fAt) (w64 n.fPitch) = some (cstN (ptk f d n)) := by
  have hh1 := hf.h1; have hs1 := hf.s1
  have ea : w64 n.fAt = ((n.fAt.toNat : Nat) : Int) := by rw [w64_in (by omega) (by omega)]; omega
  have ep : w64 n.fPitch = n.fPitch := w64_in (by omega) (by omega)
  rw [ea, ep]
  have := loop_app (f := impl_Frame_freeTracks.l_6 f d ((n.fAt.toNat : Nat) : Int) n.fPitch (f.fHammers.length : Int)) f.fHammers.length 1 (by omega) (fun k => if ptkB f d n k = true then [(k : Int)] else []) [] (fun k _ => by split <;> simp) (fun xs k hk hx => by
    have hm := hf.hp _ (List.getElem_mem hk)
    simp only [List.length_nil] at hx
    simp only [impl_Frame_freeTracks.l_6, impl_Frame_pitch, ix_lt hk, Option.bind_some, isFree_is hf hd (s := n.fAt.toNat) (t := k) (by omega) hk, impl_Frame_freeTracks.k_9]
    rw [if_pos (by rw [decide_eq_true_eq]; omega), w64_in (n := f.fHammers[k].fPitch) (by omega) (by omega)]
    unfold ptkB
    rw [List.getElem?_eq_getElem hk, Option.map_some]
    by_cases c : f.fHammers[k].fPitch = n.fPitch
    · rw [if_pos (by simpa using c)]
      cases hfr : freeB f d n.fAt.toNat k with
      | true => rw [if_pos rfl, if_pos (by simp only [List.length_cons, List.length_nil]; omega), if_pos (by simp [c])]
      | false => rw [if_neg (by simp), if_neg (by simp)]; simp
    · rw [if_neg (by simpa using c), if_neg (by simp), if_neg (by simp [c])]; simp) (fun xs => by simp [impl_Frame_freeTracks.l_6])
  simp only [impl_Frame_freeTracks, impl_size_Hammer, Option.bind_some, this, impl_Frame_freeTracks.k_3, List.nil_append, ptk_flat, ptk]
theorem l03Tracks_is {f : GFrame} (hf : FOk f) {d : Arr 96 Int} (hd : DIn d) {n : GNote} (ha : 0 ≤ n.fAt ∧ n.fAt < f.fSteps) (hp : 0 ≤ n.fPitch ∧ n.fPitch ≤ 47) : spec_l03Tracks f d n = some (cstN (ptk f d n)) := by
  have hh1 := hf.h1; have hs1 := hf.s1
  have ea : w64 n.fAt = ((n.fAt.toNat : Nat) : Int) := by rw [w64_in (by omega) (by omega)]; omega
  have := loop_app (f := spec_l03Tracks.l_5 f d n) f.fHammers.length 1 (by omega) (fun k => if ptkB f d n k = true then [(k : Int)] else []) [] (fun k _ => by split <;> simp) (fun xs k hk hx => by
    have hm := hf.hp _ (List.getElem_mem hk)
    simp only [List.length_nil] at hx
    simp only [spec_l03Tracks.l_5, ix_lt hk, Option.bind_some, ea, l02Free_is hf hd (s := n.fAt.toNat) (t := k) (by omega) hk, spec_l03Tracks.k_8]
    rw [if_pos (by rw [decide_eq_true_eq]; omega)]
    unfold ptkB
    rw [List.getElem?_eq_getElem hk, Option.map_some]
    by_cases c : f.fHammers[k].fPitch = n.fPitch
    · rw [if_pos (by simpa using c)]
      cases hfr : freeB f d n.fAt.toNat k with
      | true => rw [if_pos rfl, if_pos (by simp only [List.length_cons, List.length_nil]; omega), if_pos (by simp [c])]
      | false => rw [if_neg (by simp), if_neg (by simp)]; simp
    · rw [if_neg (by simpa using c), if_neg (by simp), if_neg (by simp [c])]; simp) (fun xs => by simp [spec_l03Tracks.l_5])
  simp only [spec_l03Tracks, Option.bind_some, this, spec_l03Tracks.k_2, List.nil_append, ptk_flat, ptk]
/-! ### a pin that is put, and taken out again -/
theorem free_pin {f : GFrame} {d : Arr 96 Int} {s t : Nat} (h : freeB f d s t = true) : pin d s t = false := by
  unfold freeB at h
  simp only [Bool.and_eq_true, Bool.not_eq_true'] at h
  exact h.1
theorem setP_eq {d : Arr 96 Int} {s t : Nat} (ht : t < 32) : setP d s t = Arr.set d (s : Int) (bOr .u32 (row' d s : Int) ((2 ^ t : Nat) : Int)) := by
  unfold setP
  rw [bShl32_one t ht]
theorem setP_row {d : Arr 96 Int} (hd : DIn d) {s t : Nat} (hs : s < 96) (ht : t < 32) : ix (setP d s t).1 (s : Int) = some (((row' d s ||| 2 ^ t : Nat)) : Int) := by
  have h1 := row_lt hd s
  have h2 := pow_lt32 ht
  rw [ix_row (DIn_setP hd hs ht) hs, setP_eq ht, bOr32 _ _ h1 h2, row_set hs, if_pos rfl]
theorem clr_back {d : Arr 96 Int} (hd : DIn d) {s t : Nat} (hs : s < 96) (ht : t < 32) (hp : pin d s t = false) : Arr.set (setP d s t) (s : Int) (bClr .u32 (((row' d s ||| 2 ^ t : Nat)) : Int) ((2 ^ t : Nat) : Int)) = d := by
  have h1 := row_lt hd s
  have h2 := pow_lt32 ht
  have h3 : row' d s ||| 2 ^ t < 4294967296 := Nat.or_lt_two_pow (n := 32) h1 h2
  have e : ldif (row' d s ||| 2 ^ t) (2 ^ t) = row' d s := by
    apply Nat.eq_of_testBit_eq
    intro i
    rw [ldif_bit, Nat.testBit_or, Nat.testBit_two_pow]
    by_cases c : t = i
    · subst c
      have : (row' d s).testBit t = false := hp
      simp [this]
    · simp [c]
  rw [bClr32 _ _ h3 h2, e]
  refine drum_ext (DIn_set (DIn_setP hd hs ht) s h1) hd fun k hk => ?_
  rw [row_set hs]
  by_cases c : s = k
  · subst c; rw [if_pos rfl]
  · rw [if_neg c, setP_eq ht, bOr32 _ _ h1 h2, row_set hs, if_neg c]
/-! ### the search -/
structure PS where
  tries : Int
  over : Bool
  found : Bool
  most : Int
  best : Arr 96 Int
def stopB (like : Bool) (r : PS) : Bool := r.over || (r.found && !like)
def freshV (old : Arr 96 Int) (s k : Nat) (fresh : Int) : Int := fresh + if pin old s k = true then 0 else 1
def pinL (old : Arr 96 Int) (s : Nat) (like : Bool) (budget : Int) (go : Arr 96 Int → Int → PS → PS) (d : Arr 96 Int) (fresh : Int) : List Nat → PS → PS
  | [], r => r
  | k :: ks, r => if r.tries = budget then ⟨r.tries, true, r.found, r.most, r.best⟩
    else if like = true ∧ r.found = true ∧ r.most ≤ freshV old s k fresh then pinL old s like budget go d fresh ks ⟨r.tries + 1, r.over, r.found, r.most, r.best⟩
    else if stopB like (go (setP d s k) (freshV old s k fresh) ⟨r.tries + 1, r.over, r.found, r.most, r.best⟩) = true then go (setP d s k) (freshV old s k fresh) ⟨r.tries + 1, r.over, r.found, r.most, r.best⟩
    else pinL old s like budget go d fresh ks (go (setP d s k) (freshV old s k fresh) ⟨r.tries + 1, r.over, r.found, r.most, r.best⟩)
def pinS (f : GFrame) (t : List GNote) (old : Arr 96 Int) (like : Bool) (budget : Int) : Nat → Nat → Arr 96 Int → Int → PS → PS
  | 0 => fun _ d fresh r => ⟨r.tries, r.over, true, fresh, d⟩
  | m + 1 => fun i d fresh r => match t[i]? with
    | some n => pinL old n.fAt.toNat like budget (pinS f t old like budget m (i + 1)) d fresh (ptk f d n) r
    | none => r
structure PinOk (f : GFrame) (t : List GNote) (old : Arr 96 Int) (budget : Int) : Prop where
  hf : FOk f
  ht : TOk t
  st : ∀ n ∈ t, n.fAt < f.fSteps
  ho : DIn old
  hb : 0 ≤ budget ∧ budget ≤ 20000
def PsOk (budget : Int) (r : PS) : Prop := 0 ≤ r.tries ∧ r.tries ≤ budget
abbrev mkP (f : GFrame) (t : List GNote) (old : Arr 96 Int) (like : Bool) (budget : Int) (r : PS) : Gpinner := ⟨f, t, old, budget, r.tries, r.over, r.found, r.most, r.best, like⟩
abbrev mkQ (f : GFrame) (t : List GNote) (old : Arr 96 Int) (like : Bool) (budget : Int) (r : PS) (d : Arr 96 Int) : Gl03Pinner := ⟨f, t, old, like, budget, r.tries, r.over, d, r.found, r.best, r.most⟩
def resP (f : GFrame) (t : List GNote) (old : Arr 96 Int) (like : Bool) (budget : Int) (r : PS) : Gpinner ⊕ (Int × (Arr 96 Int) × Int × Int × Bool × Bool × Int × (Arr 96 Int) × Bool) :=
  if stopB like r = true then .inl (mkP f t old like budget r) else .inr (f.fSteps, old, budget, r.tries, r.over, r.found, r.most, r.best, like)
def resQ (f : GFrame) (t : List GNote) (old : Arr 96 Int) (like : Bool) (budget : Int) (r : PS) (d : Arr 96 Int) : (Bool × Gl03Pinner) ⊕ ((Arr 96 Int) × Bool × Int × Int × Bool × (Arr 96 Int) × Bool × (Arr 96 Int) × Int) :=
  if stopB like r = true then .inl (true, mkQ f t old like budget r d) else .inr (old, like, budget, r.tries, r.over, d, r.found, r.best, r.most)
section
variable {old : Arr 96 Int} {s : Nat} {like : Bool} {budget : Int} {go : Arr 96 Int → Int → PS → PS} {d : Arr 96 Int} {fresh : Int} {k : Nat} {ks : List Nat} {r : PS}
theorem pinL_bud (hb : r.tries = budget) : pinL old s like budget go d fresh (k :: ks) r = ⟨r.tries, true, r.found, r.most, r.best⟩ := by rw [pinL, if_pos hb]
theorem pinL_cut (hb : ¬ r.tries = budget) (hc : like = true ∧ r.found = true ∧ r.most ≤ freshV old s k fresh) : pinL old s like budget go d fresh (k :: ks) r = pinL old s like budget go d fresh ks ⟨r.tries + 1, r.over, r.found, r.most, r.best⟩ := by
  rw [pinL, if_neg hb, if_pos hc]
theorem pinL_stop (hb : ¬ r.tries = budget) (hc : ¬ (like = true ∧ r.found = true ∧ r.most ≤ freshV old s k fresh)) (hs : stopB like (go (setP d s k) (freshV old s k fresh) ⟨r.tries + 1, r.over, r.found, r.most, r.best⟩) = true) :
    pinL old s like budget go d fresh (k :: ks) r = go (setP d s k) (freshV old s k fresh) ⟨r.tries + 1, r.over, r.found, r.most, r.best⟩ := by rw [pinL, if_neg hb, if_neg hc, if_pos hs]
theorem pinL_go (hb : ¬ r.tries = budget) (hc : ¬ (like = true ∧ r.found = true ∧ r.most ≤ freshV old s k fresh)) (hs : ¬ stopB like (go (setP d s k) (freshV old s k fresh) ⟨r.tries + 1, r.over, r.found, r.most, r.best⟩) = true) :
    pinL old s like budget go d fresh (k :: ks) r = pinL old s like budget go d fresh ks (go (setP d s k) (freshV old s k fresh) ⟨r.tries + 1, r.over, r.found, r.most, r.best⟩) := by rw [pinL, if_neg hb, if_neg hc, if_neg hs]
end
theorem ixN_in {xs ys zs : List Nat} {x : Nat} (h : xs = ys ++ x :: zs) : ix (cstN xs) (ys.length : Int) = some (x : Int) := by
  subst h
  have hl : ys.length < (cstN (ys ++ x :: zs)).length := by rw [cstN_len]; simp
  rw [ix_lt hl]
  simp [cstN]

end Go.Proofs.YtojndiidhgdjcaaGreatDoor
