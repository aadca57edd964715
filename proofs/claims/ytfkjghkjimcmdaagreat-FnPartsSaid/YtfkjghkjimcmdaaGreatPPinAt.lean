/- A pin found, taken out, and put in its place: the program sorts, the reference puts; they come to one row. -/
import Derived.Test.YtfkjghkjimcmdaaGreatM0
import Derived.Test.YtfkjghkjimcmdaaGreatM2
import Derived.Test.YtfkjghkjimcmdaaGreatPFrame
import Derived.Test.YtfkjghkjimcmdaaGreatPDrum
import Derived.Test.YtfkjghkjimcmdaaGreatPCodes
import Derived.Test.YtfkjghkjimcmdaaGreatPWear
import Derived.Test.YtfkjghkjimcmdaaGreatPPut
import Derived.Test.YtfkjghkjimcmdaaGreatPWDrum
import Derived.Test.YtfkjghkjimcmdaaGreatPEach
import Derived.Test.YtfkjghkjimcmdaaGreatPParts
import Derived.Test.YtfkjghkjimcmdaaGreatPOwn
import Derived.Test.YtfkjghkjimcmdaaGreatPWPlace
import Derived.Test.YtfkjghkjimcmdaaGreatPure
namespace Go.Proofs.YtfkjghkjimcmdaaGreat
open Eng
set_option linter.unusedVariables false
set_option linter.unusedSimpArgs false

def atB (s t : Int) (p : GWornPin) : Bool := (w64 p.fStep == s) && (w64 p.fTrack == t)
theorem at_cases (w : GWear) (hp : w.fPins.length ≤ 1048576) (s t : Int) : (∃ (k : Nat) (hk : k < w.fPins.length), impl_Wear_at w s t = some (k : Int) ∧ atB s t w.fPins[k] = true) ∨ (impl_Wear_at w s t = some (-1) ∧ ∀ p ∈ w.fPins, atB s t p = false) := by
  obtain ⟨x, hx, hq⟩ := loop_find (f := slices_IndexFunc_WornPin_at_impl_Wear_at_1.l_3 w.fPins s t) w.fPins (atB s t) (by omega) (fun k hk => by
    simp only [slices_IndexFunc_WornPin_at_impl_Wear_at_1.l_3, ix_lt hk, Option.bind_some, impl_Wear_at_1]
    rw [if_pos (by simpa using hk)]
    show (if atB s t w.fPins[k] = true then _ else _) = _
    cases atB s t w.fPins[k] <;> simp) (by simp [slices_IndexFunc_WornPin_at_impl_Wear_at_1.l_3])
  simp only [impl_Wear_at, slices_IndexFunc_WornPin_at_impl_Wear_at_1, hx, Option.bind_some]
  rcases hq with ⟨_, k, rfl, hk, h1, _⟩ | ⟨h1, rfl⟩
  · exact .inl ⟨k, hk, rfl, h1⟩
  · right
    refine ⟨rfl, fun p hp => ?_⟩
    have := List.any_eq_false.1 h1 p hp
    simpa using this
/-! ### the order -/
theorem bef_asymm {a b : GWornPin} (h1 : befB a b = true) (h2 : befB b a = true) : False := by
  rw [befB_iff] at h1 h2; omega
theorem bef_trans {a b c : GWornPin} (h1 : befB a b = true) (h2 : befB b c = true) : befB a c = true := by
  rw [befB_iff] at h1 h2 ⊢; omega
theorem bef_total {a b : GWornPin} (h1 : befB a b = false) (h2 : ¬ (a.fStep = b.fStep ∧ a.fTrack = b.fTrack)) : befB b a = true := by
  have h3 : ¬ befB a b = true := by rw [h1]; simp
  rw [befB_iff] at h3 ⊢; omega
theorem bef_congr {a b a' b' : GWornPin} (h1 : a.fStep = a'.fStep) (h2 : a.fTrack = a'.fTrack) (h3 : b.fStep = b'.fStep) (h4 : b.fTrack = b'.fTrack) : befB a b = befB a' b' := by
  unfold befB; rw [h1, h2, h3, h4]
theorem sorted_eq : ∀ (a b : List GWornPin), a.Pairwise (fun x y => befB x y = true) → b.Pairwise (fun x y => befB x y = true) → a.Perm b → a = b := by
  intro a
  induction a with
  | nil => intro b _ _ h; exact (List.nil_perm.1 h).symm
  | cons x a ih =>
    intro b ha hb h
    cases b with
    | nil => exact absurd h.length_eq (by simp)
    | cons y b =>
      rw [List.pairwise_cons] at ha hb
      by_cases e : x = y
      · subst e
        rw [ih b ha.2 hb.2 h.cons_inv]
      · have h1 : x ∈ y :: b := h.mem_iff.1 (by simp)
        have h2 : y ∈ x :: a := h.mem_iff.2 (by simp)
        rcases List.mem_cons.1 h1 with h1 | h1
        · exact absurd h1 e
        · rcases List.mem_cons.1 h2 with h2 | h2
          · exact absurd h2.symm e
          · exact (bef_asymm (ha.1 y h2) (hb.1 x h1)).elim
theorem sort_eq {e r : List GWornPin} (he : e.Pairwise (fun x y => befB x y = true)) (hp : r.Perm e) (hr : ∀ i j : Nat, i < j → (hj : j < r.length) → (hi : i < r.length) → ¬ befB r[j] r[i] = true) : r = e := by
  have h1 : e.Pairwise (fun x y => befB x y = true ∨ befB y x = true) := he.imp fun h => .inl h
  have h2 : r.Pairwise (fun x y => befB x y = true ∨ befB y x = true) := (hp.pairwise_iff fun h => h.symm).2 h1
  have h3 : r.Pairwise (fun x y => befB x y = true) := by
    rw [List.pairwise_iff_getElem] at h2 ⊢
    intro i j hi hj hij
    rcases h2 i j hi hj hij with h | h
    · exact h
    · exact absurd h (hr i j hij hj hi)
  exact sorted_eq r e h3 he hp
/-! ### the program's sort -/
theorem cmpV_bef (a b : GWornPin) : cmpV (fun a b => impl_comparePins a b) a b < 0 ↔ befB a b = true := by
  show ((impl_comparePins a b).getD 0) < 0 ↔ _
  rw [comparePins_is, befB_iff]
  simp only [Option.getD_some]
  by_cases h1 : a.fStep < b.fStep
  · simp [h1]
  · by_cases h2 : a.fStep > b.fStep
    · simp [h1, h2] <;> omega
    · by_cases h3 : a.fTrack < b.fTrack
      · simp [h1, h2, h3] <;> omega
      · by_cases h4 : a.fTrack > b.fTrack
        · simp [h1, h2, h3, h4] <;> omega
        · simp [h1, h2, h3, h4] <;> omega
theorem ltOf_bef (a b : GWornPin) : Go.Proofs.ltOf (cmpV (fun a b => impl_comparePins a b)) a b = befB a b := by
  unfold Go.Proofs.ltOf
  rw [Bool.eq_iff_iff, decide_eq_true_eq]
  exact cmpV_bef a b
theorem bef_swo : Go.Sort.SWO (Go.Proofs.ltOf (cmpV (fun a b : GWornPin => impl_comparePins a b))) where
  irrefl x := by
    rw [ltOf_bef, ← Bool.not_eq_true, befB_iff]; omega
  trans x y z h1 h2 := by
    rw [ltOf_bef] at h1 h2 ⊢; exact bef_trans h1 h2
  ntrans x y z h1 h2 := by
    rw [ltOf_bef, ← Bool.not_eq_true, befB_iff] at h1 h2 ⊢; omega
theorem with_is (w : GWear) (x : GWornPin) (hp : w.fPins.length ≤ 1048576) (hs : w.fStrokes.length ≤ 1048576) {e : List GWornPin} (he : e.Pairwise (fun x y => befB x y = true)) (hpm : e.Perm (w.fPins ++ [x])) : impl_Wear_with w x = some ⟨e, w.fStrokes⟩ := by
  obtain ⟨r, hr⟩ := sortF_some (cmp := fun a b => impl_comparePins a b) (xs := w.fPins ++ [x]) (fun a b => by rw [comparePins_is]; rfl) bef_swo (by simp; omega)
  obtain ⟨h1, h2, h3⟩ := sortF_sorts hr
  have : r = e := sort_eq he (h1.trans hpm.symm) (fun i j hij hj hi h => h3 i j hij hj hi ((cmpV_bef _ _).2 h))
  subst this
  simp only [impl_Wear_with, own_is w hp hs, Option.bind_some, slices_SortFunc_WornPin_at_impl_comparePins, hr]
  rw [if_pos (by simp; omega)]
theorem wearWithout_is (w : GWear) (hp : w.fPins.length ≤ 1048576) (hs : w.fStrokes.length ≤ 1048576) {k : Nat} (hk : k < w.fPins.length) : impl_Wear_without w (k : Int) = some ⟨w.fPins.take k ++ w.fPins.drop (k + 1), w.fStrokes⟩ := by
  have e : w64 ((k : Int) + 1) = ((k + 1 : Nat) : Int) := by rw [w64_in (by omega) (by omega)]; omega
  simp only [impl_Wear_without, own_is w hp hs, Option.bind_some, e, slices_Delete_WornPin, Int.toNat_natCast]
  rw [if_pos (by omega), if_neg (by simp; omega), if_pos (by omega), if_pos (by omega), if_pos (by simp only [List.length_drop]; omega)]
  rfl
theorem put_sorted {ps : List GWornPin} {x : GWornPin} (hs : ps.Pairwise (fun a b => befB a b = true)) (hx : ∀ p ∈ ps, ¬ (p.fStep = x.fStep ∧ p.fTrack = x.fTrack)) {k : Nat} (hk : k ≤ ps.length) (h1 : ∀ (i : Nat) (hi : i < ps.length), i < k → befB ps[i] x = true) (h2 : ∀ hk : k < ps.length, befB ps[k] x = false) :
    (ps.take k ++ x :: ps.drop k).Pairwise (fun a b => befB a b = true) := by
  have hlow : ∀ a ∈ ps.take k, befB a x = true := by
    intro a ha
    obtain ⟨i, hi, rfl⟩ := List.mem_iff_getElem.1 ha
    rw [List.length_take] at hi
    rw [List.getElem_take]
    exact h1 i (by omega) (by omega)
  have hhigh : ∀ b ∈ ps.drop k, befB x b = true := by
    intro b hb
    obtain ⟨i, hi, rfl⟩ := List.mem_iff_getElem.1 hb
    rw [List.length_drop] at hi
    rw [List.getElem_drop]
    have hk' : k < ps.length := by omega
    have h3 := bef_total (h2 hk') (hx _ (List.getElem_mem hk'))
    cases i with
    | zero => simpa using h3
    | succ i =>
      have := List.pairwise_iff_getElem.1 hs k (k + (i + 1)) hk' (by omega) (by omega)
      exact bef_trans h3 this
  rw [List.pairwise_append]
  refine ⟨hs.sublist (List.take_sublist _ _), ?_, ?_⟩
  · rw [List.pairwise_cons]
    exact ⟨hhigh, hs.sublist (List.drop_sublist _ _)⟩
  · intro a ha b hb
    rcases List.mem_cons.1 hb with rfl | hb
    · exact hlow a ha
    · exact bef_trans (hlow a ha) (hhigh b hb)
theorem put_perm (ps : List GWornPin) (x : GWornPin) (k : Nat) : (ps.take k ++ x :: ps.drop k).Perm (ps ++ [x]) := by
  refine List.perm_middle.trans ?_
  rw [List.take_append_drop]
  exact (List.perm_append_singleton x ps).symm
/-! ### a new pin -/
theorem atB_iff {f : GFrame} {w : GWear} (h : WOk f w) {p : GWornPin} (hp : p ∈ w.fPins) (s t : Int) : atB s t p = true ↔ p.fStep = s ∧ p.fTrack = t := by
  have hs1 := h.fr.s1; have hh1 := h.fr.h1
  obtain ⟨⟨a, b⟩, ⟨c, d⟩, _⟩ := h.pl p hp
  unfold atB
  rw [w64_in (by omega) (by omega), w64_in (by omega) (by omega)]
  simp
end Go.Proofs.YtfkjghkjimcmdaaGreat
