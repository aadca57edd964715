/- A pin found, taken out, and put in its place: the program sorts, the reference puts; they come to one row. -/
import Derived.Test.YtfkjghkjimcmdaaGreatM0
import Derived.Test.YtfkjghkjimcmdaaGreatM1
import Derived.Test.YtfkjghkjimcmdaaGreatM2
import Derived.Test.YtfkjghkjimcmdaaGreatPFrame
import Derived.Test.YtfkjghkjimcmdaaGreatPDrum
import Derived.Test.YtfkjghkjimcmdaaGreatPCodes
import Derived.Test.YtfkjghkjimcmdaaGreatPWear
import Derived.Test.YtfkjghkjimcmdaaGreatPPut
import Derived.Test.YtfkjghkjimcmdaaGreatPWDrum
import Derived.Test.YtfkjghkjimcmdaaGreatPEach
import Derived.Test.YtfkjghkjimcmdaaGreatPParts
import Derived.Test.YtfkjghkjimcmdaaGreatPOwn
import Derived.Test.YtfkjghkjimcmdaaGreatPWPlace
import Derived.Test.YtfkjghkjimcmdaaGreatPure
namespace Go.Proofs.YtfkjghkjimcmdaaGreat
open Eng
set_option linter.unusedVariables false
set_option linter.unusedSimpArgs false

/-! ### finding -/
theorem find_same (w : GWear) (s t : Int) : spec_l06Find w s t = impl_Wear_at w s t := by
  have step : ∀ i : Int, spec_l06Find.l_3 w s t i = slices_IndexFunc_WornPin_at_impl_Wear_at_1.l_3 w.fPins s t i := by
    intro i
    simp only [spec_l06Find.l_3, slices_IndexFunc_WornPin_at_impl_Wear_at_1.l_3, impl_Wear_at_1, spec_l06Find.k_6]
    by_cases hk : decide (i < (w.fPins.length : Int)) = true
    · rw [if_pos hk, if_pos hk]
      cases ix w.fPins i with
      | none => rfl
      | some p => by_cases h1 : w64 p.fStep = s <;> by_cases h2 : w64 p.fTrack = t <;> simp [h1, h2]
    · rw [if_neg hk, if_neg hk]
  have hl : loop (spec_l06Find.l_3 w s t) 0 = loop (slices_IndexFunc_WornPin_at_impl_Wear_at_1.l_3 w.fPins s t) 0 := by
    congr 1; funext i; exact step i
  simp only [spec_l06Find, impl_Wear_at, slices_IndexFunc_WornPin_at_impl_Wear_at_1, hl]
  cases loop (slices_IndexFunc_WornPin_at_impl_Wear_at_1.l_3 w.fPins s t) 0 with
  | none => rfl
  | some x => cases x <;> rfl
def atB (s t : Int) (p : GWornPin) : Bool := (w64 p.fStep == s) && (w64 p.fTrack == t)
theorem at_cases (w : GWear) (hp : w.fPins.length ≤ 1048576) (s t : Int) : (∃ (k : Nat) (hk : k < w.fPins.length), impl_Wear_at w s t = some (k : Int) ∧ atB s t w.fPins[k] = true) ∨ (impl_Wear_at w s t = some (-1) ∧ ∀ p ∈ w.fPins, atB s t p = false) := by
  obtain ⟨x, hx, hq⟩ := loop_find (f := slices_IndexFunc_WornPin_at_impl_Wear_at_1.l_3 w.fPins s t) w.fPins (atB s t) (by omega) (fun k hk => by
    simp only [slices_IndexFunc_WornPin_at_impl_Wear_at_1.l_3, ix_lt hk, Option.bind_some, impl_Wear_at_1]
    rw [if_pos (by simpa using hk)]
    show (if atB s t w.fPins[k] = true then _ else _) = _
    cases atB s t w.fPins[k] <;> simp) (by simp [slices_IndexFunc_WornPin_at_impl_Wear_at_1.l_3])
  simp only [impl_Wear_at, slices_IndexFunc_WornPin_at_impl_Wear_at_1, hx, Option.bind_some]
  rcases hq with ⟨_, k, rfl, hk, h1, _⟩ | ⟨h1, rfl⟩
  · exact .inl ⟨k, hk, rfl, h1⟩
  · right
    refine ⟨rfl, fun p hp => ?_⟩
    have := List.any_eq_false.1 h1 p hp
    simpa using this
/-! ### the order -/
theorem bef_asymm {a b : GWornPin} (h1 : befB a b = true) (h2 : befB b a = true) : False := by
  rw [befB_iff] at h1 h2; omega
theorem bef_trans {a b c : GWornPin} (h1 : befB a b = true) (h2 : befB b c = true) : befB a c = true := by
  rw [befB_iff] at h1 h2 ⊢; omega
theorem bef_total {a b : GWornPin} (h1 : befB a b = false) (h2 : ¬ (a.fStep = b.fStep ∧ a.fTrack = b.fTrack)) : befB b a = true := by
  have h3 : ¬ befB a b = true := by rw [h1]; simp
  rw [befB_iff] at h3 ⊢; omega
theorem bef_congr {a b a' b' : GWornPin} (h1 : a.fStep = a'.fStep) (h2 : a.fTrack = a'.fTrack) (h3 : b.fStep = b'.fStep) (h4 : b.fTrack = b'.fTrack) : befB a b = befB a' b' := by
  unfold befB; rw [h1, h2, h3, h4]
theorem sorted_eq : ∀ (a b : List GWornPin), a.Pairwise (fun x y => befB x y = true) → b.Pairwise (fun x y => befB x y = true) → a.Perm b → a = b := by
  intro a
  induction a with
  | nil => intro b _ _ h; exact (List.nil_perm.1 h).symm
  | cons x a ih =>
    intro b ha hb h
    cases b with
    | nil => exact absurd h.length_eq (by simp)
    | cons y b =>
      rw [List.pairwise_cons] at ha hb
      by_cases e : x = y
      · subst e
        rw [ih b ha.2 hb.2 h.cons_inv]
      · have h1 : x ∈ y :: b := h.mem_iff.1 (by simp)
        have h2 : y ∈ x :: a := h.mem_iff.2 (by simp)
        rcases List.mem_cons.1 h1 with h1 | h1
        · exact absurd h1 e
        · rcases List.mem_cons.1 h2 with h2 | h2
          · exact absurd h2.symm e
          · exact (bef_asymm (ha.1 y h2) (hb.1 x h1)).elim
theorem sort_eq {e r : List GWornPin} (he : e.Pairwise (fun x y => befB x y = true)) (hp : r.Perm e) (hr : ∀ i j : Nat, i < j → (hj : j < r.length) → (hi : i < r.length) → ¬ befB r[j] r[i] = true) : r = e := by
  have h1 : e.Pairwise (fun x y => befB x y = true ∨ befB y x = true) := he.imp fun h => .inl h
  have h2 : r.Pairwise (fun x y => befB x y = true ∨ befB y x = true) := (hp.pairwise_iff fun h => h.symm).2 h1
  have h3 : r.Pairwise (fun x y => befB x y = true) := by
    rw [List.pairwise_iff_getElem] at h2 ⊢
    intro i j hi hj hij
    rcases h2 i j hi hj hij with h | h
    · exact h
    · exact absurd h (hr i j hij hj hi)
  exact sorted_eq r e h3 he hp
/-! ### the program's sort -/
theorem cmpV_bef (a b : GWornPin) : cmpV (fun a b => impl_comparePins a b) a b < 0 ↔ befB a b = true := by
  show ((impl_comparePins a b).getD 0) < 0 ↔ _
  rw [comparePins_is, befB_iff]
  simp only [Option.getD_some]
  by_cases h1 : a.fStep < b.fStep
  · simp [h1]
  · by_cases h2 : a.fStep > b.fStep
    · simp [h1, h2] <;> omega
    · by_cases h3 : a.fTrack < b.fTrack
      · simp [h1, h2, h3] <;> omega
      · by_cases h4 : a.fTrack > b.fTrack
        · simp [h1, h2, h3, h4] <;> omega
        · simp [h1, h2, h3, h4] <;> omega
theorem ltOf_bef (a b : GWornPin) : Go.Proofs.ltOf (cmpV (fun a b => impl_comparePins a b)) a b = befB a b := by
  unfold Go.Proofs.ltOf
  rw [Bool.eq_iff_iff, decide_eq_true_eq]
  exact cmpV_bef a b
theorem bef_swo : Go.Sort.SWO (Go.Proofs.ltOf (cmpV (fun a b : GWornPin => impl_comparePins a b))) where
  irrefl x := by
    rw [ltOf_bef, ← Bool.not_eq_true, befB_iff]; omega
  trans x y z h1 h2 := by
    rw [ltOf_bef] at h1 h2 ⊢; exact bef_trans h1 h2
  ntrans x y z h1 h2 := by
    rw [ltOf_bef, ← Bool.not_eq_true, befB_iff] at h1 h2 ⊢; omega
theorem with_is (w : GWear) (x : GWornPin) (hp : w.fPins.length ≤ 1048576) (hs : w.fStrokes.length ≤ 1048576) {e : List GWornPin} (he : e.Pairwise (fun x y => befB x y = true)) (hpm : e.Perm (w.fPins ++ [x])) : impl_Wear_with w x = some ⟨e, w.fStrokes⟩ := by
  obtain ⟨r, hr⟩ := sortF_some (cmp := fun a b => impl_comparePins a b) (xs := w.fPins ++ [x]) (fun a b => by rw [comparePins_is]; rfl) bef_swo (by simp; omega)
  obtain ⟨h1, h2, h3⟩ := sortF_sorts hr
  have : r = e := sort_eq he (h1.trans hpm.symm) (fun i j hij hj hi h => h3 i j hij hj hi ((cmpV_bef _ _).2 h))
  subst this
  simp only [impl_Wear_with, own_is w hp hs, Option.bind_some, slices_SortFunc_WornPin_at_impl_comparePins, hr]
  rw [if_pos (by simp; omega)]
theorem wearWithout_is (w : GWear) (hp : w.fPins.length ≤ 1048576) (hs : w.fStrokes.length ≤ 1048576) {k : Nat} (hk : k < w.fPins.length) : impl_Wear_without w (k : Int) = some ⟨w.fPins.take k ++ w.fPins.drop (k + 1), w.fStrokes⟩ := by
  have e : w64 ((k : Int) + 1) = ((k + 1 : Nat) : Int) := by rw [w64_in (by omega) (by omega)]; omega
  simp only [impl_Wear_without, own_is w hp hs, Option.bind_some, e, slices_Delete_WornPin, Int.toNat_natCast]
  rw [if_pos (by omega), if_neg (by simp; omega), if_pos (by omega), if_pos (by omega), if_pos (by simp only [List.length_drop]; omega)]
  rfl
/-! ### the reference's put -/
theorem put_is (ps : List GWornPin) (x : GWornPin) (hp : ps.length ≤ 1048577) : ∃ k, k ≤ ps.length ∧ spec_l06Put ps x = some (ps.take k ++ x :: ps.drop k) ∧ (∀ (i : Nat) (hi : i < ps.length), i < k → befB ps[i] x = true) ∧ (∀ hk : k < ps.length, befB ps[k] x = false) := by
  obtain ⟨r, hr, k, rfl, hk, h1, h2⟩ := loop_inv (f := spec_l06Put.l_4 ps x) (fun i => ∃ k : Nat, k ≤ ps.length ∧ i = (k : Int) ∧ ∀ (i : Nat) (hi : i < ps.length), i < k → befB ps[i] x = true) (fun i => ps.length - i.toNat)
    (fun r => ∃ k : Nat, r = (k : Int) ∧ k ≤ ps.length ∧ (∀ (i : Nat) (hi : i < ps.length), i < k → befB ps[i] x = true) ∧ (∀ hk : k < ps.length, befB ps[k] x = false)) (by
    rintro _ ⟨k, hk, rfl, h⟩
    by_cases hlt : k < ps.length
    · simp only [spec_l06Put.l_4, ix_lt hlt, Option.bind_some, before_is]
      rw [if_pos (by simpa using hlt)]
      cases hb : befB ps[k] x with
      | true =>
        left
        refine ⟨((k + 1 : Nat) : Int), by rw [w64_in (n := (k : Int) + 1) (by omega) (by omega)]; simp, ⟨k + 1, by omega, rfl, fun i hi hik => ?_⟩, by omega⟩
        by_cases e : i = k
        · subst e; exact hb
        · exact h i hi (by omega)
      | false =>
        right
        exact ⟨_, by simp, k, rfl, hk, h, fun _ => hb⟩
    · right
      simp only [spec_l06Put.l_4]
      rw [if_neg (by simpa using hlt)]
      exact ⟨_, rfl, k, rfl, hk, h, fun h' => absurd h' hlt⟩) 0 ⟨0, by omega, rfl, fun i _ h => by omega⟩
  refine ⟨k, hk, ?_, h1, h2⟩
  simp only [spec_l06Put, hr, Option.bind_some, spec_l06Put.k_2, Int.toNat_natCast, List.nil_append, List.length_nil, List.length_cons]
  rw [if_pos (by omega), if_pos (by simp only [List.length_drop]; omega), if_pos (by omega), if_pos (by simp only [List.length_take]; omega), if_pos (by simp only [List.length_take, List.length_append, List.length_drop, List.length_cons, List.length_nil]; omega)]
  rfl
theorem put_sorted {ps : List GWornPin} {x : GWornPin} (hs : ps.Pairwise (fun a b => befB a b = true)) (hx : ∀ p ∈ ps, ¬ (p.fStep = x.fStep ∧ p.fTrack = x.fTrack)) {k : Nat} (hk : k ≤ ps.length) (h1 : ∀ (i : Nat) (hi : i < ps.length), i < k → befB ps[i] x = true) (h2 : ∀ hk : k < ps.length, befB ps[k] x = false) :
    (ps.take k ++ x :: ps.drop k).Pairwise (fun a b => befB a b = true) := by
  have hlow : ∀ a ∈ ps.take k, befB a x = true := by
    intro a ha
    obtain ⟨i, hi, rfl⟩ := List.mem_iff_getElem.1 ha
    rw [List.length_take] at hi
    rw [List.getElem_take]
    exact h1 i (by omega) (by omega)
  have hhigh : ∀ b ∈ ps.drop k, befB x b = true := by
    intro b hb
    obtain ⟨i, hi, rfl⟩ := List.mem_iff_getElem.1 hb
    rw [List.length_drop] at hi
    rw [List.getElem_drop]
    have hk' : k < ps.length := by omega
    have h3 := bef_total (h2 hk') (hx _ (List.getElem_mem hk'))
    cases i with
    | zero => simpa using h3
    | succ i =>
      have := List.pairwise_iff_getElem.1 hs k (k + (i + 1)) hk' (by omega) (by omega)
      exact bef_trans h3 this
  rw [List.pairwise_append]
  refine ⟨hs.sublist (List.take_sublist _ _), ?_, ?_⟩
  · rw [List.pairwise_cons]
    exact ⟨hhigh, hs.sublist (List.drop_sublist _ _)⟩
  · intro a ha b hb
    rcases List.mem_cons.1 hb with rfl | hb
    · exact hlow a ha
    · exact bef_trans (hlow a ha) (hhigh b hb)
theorem put_perm (ps : List GWornPin) (x : GWornPin) (k : Nat) : (ps.take k ++ x :: ps.drop k).Perm (ps ++ [x]) := by
  refine List.perm_middle.trans ?_
  rw [List.take_append_drop]
  exact (List.perm_append_singleton x ps).symm
/-! ### a new pin -/
theorem atB_iff {f : GFrame} {w : GWear} (h : WOk f w) {p : GWornPin} (hp : p ∈ w.fPins) (s t : Int) : atB s t p = true ↔ p.fStep = s ∧ p.fTrack = t := by
  have hs1 := h.fr.s1; have hh1 := h.fr.h1
  obtain ⟨⟨a, b⟩, ⟨c, d⟩, _⟩ := h.pl p hp
  unfold atB
  rw [w64_in (by omega) (by omega), w64_in (by omega) (by omega)]
  simp
theorem newPin_full (f : GFrame) (w : GWear) (s t : Int) (hi : FIn f) (hw : WIn w) (hf : f.fHammers.length ≤ 1048576) (hp : w.fPins.length ≤ 1048576) (hs : w.fStrokes.length ≤ 1048576) :
    ∃ r, impl_NewPin f w s t = some r ∧ spec_NewPin f w s t = some r ∧ r.1.fPins.length + r.1.fStrokes.length ≤ w.fPins.length + w.fStrokes.length + f.fHammers.length ∧ (r.2 = 0 → WOk f r.1) := by
  simp only [impl_NewPin, spec_NewPin, wornPlace_is f w hf hp hs _ (show ([Arr.set (Arr.set (Arr.rep 2 0) 0 s) 1 t] : List (Arr 2 Int)).length ≤ 9223372036854775807 by simp), l06Ok_is f w hf hp hs, Option.bind_some, List.all_cons, List.all_nil, arr2_plA, Bool.and_true, copy_is w hp hs, l06Place_is, find_same]
  cases c : wearB f w with
  | false => exact ⟨(⟨[], []⟩, 1), by simp, by simp, by simp, fun h => absurd h (by decide)⟩
  | true =>
    have hok := wearB_ok c hi hw
    have h1 := hok.fr.s1; have h2 := hok.fr.h0; have h3 := hok.fr.h1
    cases hpl : plB f s t with
    | false => exact ⟨(⟨[], []⟩, 2), by simp, by simp, by simp, fun h => absurd h (by decide)⟩
    | true =>
      obtain ⟨⟨a1, a2⟩, b1, b2⟩ := (plB_ok hok.fr s t).1 hpl
      rw [w8_in (n := s) (by omega) (by omega), w8_in (n := t) (by omega) (by omega)]
      simp only [if_true, Bool.not_true, Bool.false_eq_true, if_false, bne_self_eq_false]
      rcases at_cases w hp s t with ⟨k, hk, e1, e2⟩ | ⟨e1, e2⟩
      · have hm : w.fPins[k] ∈ w.fPins := List.getElem_mem hk
        obtain ⟨g1, g2⟩ := (atB_iff hok hm s t).1 e2
        simp only [e1, Option.bind_some, wearWithout_is w hp hs hk, ix_lt hk, g1, g2, Int.toNat_natCast]
        rw [if_pos (by rw [decide_eq_true_eq]; omega), if_pos (by rw [decide_eq_true_eq]; omega)]
        have hset : w.fPins.set k (⟨s, t, 0⟩ : GWornPin) = w.fPins.take k ++ (⟨s, t, 0⟩ : GWornPin) :: w.fPins.drop (k + 1) := by rw [List.set_eq_take_append_cons_drop, if_pos hk]
        have hsrt : (w.fPins.set k (⟨s, t, 0⟩ : GWornPin)).Pairwise (fun x y => befB x y = true) := by
          rw [List.pairwise_iff_getElem]
          intro i j hi' hj' hij
          have hi2 : i < w.fPins.length := by simpa using hi'
          have hj2 : j < w.fPins.length := by simpa using hj'
          have := List.pairwise_iff_getElem.1 hok.so i j hi2 hj2 hij
          rw [List.getElem_set, List.getElem_set]
          have key : ∀ (m : Nat) (hm : m < w.fPins.length), (if k = m then (⟨s, t, 0⟩ : GWornPin) else w.fPins[m]).fStep = w.fPins[m].fStep ∧ (if k = m then (⟨s, t, 0⟩ : GWornPin) else w.fPins[m]).fTrack = w.fPins[m].fTrack := by
            intro m hm
            by_cases e : k = m
            · subst e; rw [if_pos rfl]; exact ⟨g1.symm, g2.symm⟩
            · rw [if_neg e]; exact ⟨rfl, rfl⟩
          rw [bef_congr (key i hi2).1 (key i hi2).2 (key j hj2).1 (key j hj2).2]
          exact this
        have hw' := with_is (⟨w.fPins.take k ++ w.fPins.drop (k + 1), w.fStrokes⟩ : GWear) (⟨s, t, 0⟩ : GWornPin) (by simp; omega) hs hsrt (by
          rw [hset]
          exact List.perm_middle.trans (List.perm_append_singleton _ _).symm)
        simp only [hw', Option.bind_some]
        refine ⟨_, rfl, rfl, by simp, fun _ => ⟨hok.fr, hok.sl, fun p hp' => ?_, hsrt, hok.st⟩⟩
        rcases List.mem_or_eq_of_mem_set hp' with h | rfl
        · exact hok.pl p h
        · exact ⟨⟨a1, a2⟩, ⟨b1, b2⟩, by simp⟩
      · simp only [e1, Option.bind_some]
        rw [if_neg (by decide), if_neg (by decide)]
        obtain ⟨k, hk, p1, p2, p3⟩ := put_is w.fPins (⟨s, t, 0⟩ : GWornPin) (by omega)
        have hx : ∀ p ∈ w.fPins, ¬ (p.fStep = s ∧ p.fTrack = t) := fun p hpm hh => by
          have := e2 p hpm
          rw [(atB_iff hok hpm s t).2 hh] at this; cases this
        have hw' := with_is w (⟨s, t, 0⟩ : GWornPin) hp hs (put_sorted hok.so hx hk p2 p3) (put_perm _ _ _)
        simp only [hw', p1, Option.bind_some]
        refine ⟨_, rfl, rfl, by simp; omega, fun _ => ⟨hok.fr, hok.sl, fun p hp' => ?_, put_sorted hok.so hx hk p2 p3, hok.st⟩⟩
        rcases List.mem_append.1 ((put_perm _ _ _).mem_iff.1 hp') with h | h
        · exact hok.pl p h
        · rw [List.mem_singleton] at h; subst h; exact ⟨⟨a1, a2⟩, ⟨b1, b2⟩, by simp⟩
theorem newPin_same (f : GFrame) (w : GWear) (s t : Int) (hi : FIn f) (hw : WIn w) (hf : f.fHammers.length ≤ 1048576) (hp : w.fPins.length ≤ 1048576) (hs : w.fStrokes.length ≤ 1048576) :
    ∃ r, impl_NewPin f w s t = some r ∧ spec_NewPin f w s t = some r ∧ r.1.fPins.length + r.1.fStrokes.length ≤ w.fPins.length + w.fStrokes.length + f.fHammers.length := by
  obtain ⟨r, a, b, c, _⟩ := newPin_full f w s t hi hw hf hp hs
  exact ⟨r, a, b, c⟩
/-! ### a pin moved -/
theorem movePin_full (f : GFrame) (w : GWear) (s t s2 t2 : Int) (hi : FIn f) (hw : WIn w) (hf : f.fHammers.length ≤ 1048576) (hp : w.fPins.length ≤ 1048576) (hs : w.fStrokes.length ≤ 1048576) :
    ∃ r, impl_MovePin f w s t s2 t2 = some r ∧ spec_MovePin f w s t s2 t2 = some r ∧ r.1.fPins.length + r.1.fStrokes.length ≤ w.fPins.length + w.fStrokes.length + f.fHammers.length ∧ (r.2 = 0 → WOk f r.1) := by
  simp only [impl_MovePin, spec_MovePin, wornPlace_is f w hf hp hs _ (show ([Arr.set (Arr.set (Arr.rep 2 0) 0 s) 1 t, Arr.set (Arr.set (Arr.rep 2 0) 0 s2) 1 t2] : List (Arr 2 Int)).length ≤ 9223372036854775807 by simp), l06Ok_is f w hf hp hs, Option.bind_some, List.all_cons, List.all_nil, arr2_plA, Bool.and_true, l06Place_is, find_same, spec_MovePin.k_3]
  cases c : wearB f w with
  | false => exact ⟨(⟨[], []⟩, 1), by simp, by simp, by simp, fun h => absurd h (by decide)⟩
  | true =>
    have hok := wearB_ok c hi hw
    have h1 := hok.fr.s1; have h2 := hok.fr.h0; have h3 := hok.fr.h1
    cases hpl : plB f s t with
    | false => exact ⟨(⟨[], []⟩, 2), by simp, by simp, by simp, fun h => absurd h (by decide)⟩
    | true =>
      cases hpl2 : plB f s2 t2 with
      | false => exact ⟨(⟨[], []⟩, 2), by simp, by simp, by simp, fun h => absurd h (by decide)⟩
      | true =>
        obtain ⟨⟨a1, a2⟩, b1, b2⟩ := (plB_ok hok.fr s2 t2).1 hpl2
        simp only [Bool.and_self, if_true, Bool.not_true, Bool.false_eq_true, if_false, bne_self_eq_false]
        rcases at_cases w hp s t with ⟨k, hk, e1, e2⟩ | ⟨e1, e2⟩
        · rcases at_cases w hp s2 t2 with ⟨k2, hk2, f1, f2⟩ | ⟨f1, f2⟩
          · refine ⟨(⟨[], []⟩, 4), ?_, ?_, by simp, fun h => absurd h (by decide)⟩
            · simp only [e1, f1, Option.bind_some, impl_MovePin.k_4]
              rw [if_neg (by rw [decide_eq_true_eq]; omega), if_pos (by rw [decide_eq_true_eq]; omega)]
            · simp only [e1, f1, Option.bind_some, spec_MovePin.k_6]
              rw [if_neg (by rw [decide_eq_true_eq]; omega), if_pos (by rw [decide_eq_true_eq]; omega)]
          · have hw64 : w64 ((k : Int) + 1) = ((k + 1 : Nat) : Int) := by rw [w64_in (by omega) (by omega)]; omega
            have hlen : (w.fPins.take k ++ w.fPins.drop (k + 1)).length ≤ 1048576 := by simp only [List.length_append, List.length_take, List.length_drop]; omega
            have hsub : (w.fPins.take k ++ w.fPins.drop (k + 1)).Sublist w.fPins := by
              have := List.Sublist.append (List.Sublist.refl (w.fPins.take k)) (List.drop_sublist_drop_left w.fPins (Nat.le_succ k))
              rwa [List.take_append_drop] at this
            have hso := hok.so.sublist hsub
            obtain ⟨j, hj, p1, p2, p3⟩ := put_is (w.fPins.take k ++ w.fPins.drop (k + 1)) (⟨s2, t2, w.fPins[k].fTurns⟩ : GWornPin) (by omega)
            have hx : ∀ p ∈ w.fPins.take k ++ w.fPins.drop (k + 1), ¬ (p.fStep = s2 ∧ p.fTrack = t2) := fun p hpm hh => by
              have hpm2 := hsub.subset hpm
              have := f2 p hpm2
              rw [(atB_iff hok hpm2 s2 t2).2 hh] at this; cases this
            have hw' := with_is (⟨w.fPins.take k ++ w.fPins.drop (k + 1), w.fStrokes⟩ : GWear) (⟨s2, t2, w.fPins[k].fTurns⟩ : GWornPin) hlen hs (put_sorted hso hx hj p2 p3) (put_perm _ _ _)
            refine ⟨(⟨(w.fPins.take k ++ w.fPins.drop (k + 1)).take j ++ (⟨s2, t2, w.fPins[k].fTurns⟩ : GWornPin) :: (w.fPins.take k ++ w.fPins.drop (k + 1)).drop j, w.fStrokes⟩, 0), ?_, ?_, ?_, fun _ => ⟨hok.fr, hok.sl, fun p hp' => ?_, put_sorted hso hx hj p2 p3, hok.st⟩⟩
            rotate_left 3
            · rcases List.mem_append.1 ((put_perm _ _ _).mem_iff.1 hp') with h | h
              · exact hok.pl p (hsub.subset h)
              · rw [List.mem_singleton] at h; subst h
                exact ⟨⟨a1, a2⟩, ⟨b1, b2⟩, (hok.pl _ (List.getElem_mem hk)).2.2⟩
            · simp only [e1, f1, Option.bind_some, impl_MovePin.k_4, ix_lt hk, wearWithout_is w hp hs hk]
              rw [if_neg (by rw [decide_eq_true_eq]; omega), if_neg (by decide), w8_in (n := s2) (by omega) (by omega), w8_in (n := t2) (by omega) (by omega)]
              simp only [hw', Option.bind_some]
            · simp only [e1, f1, Option.bind_some, spec_MovePin.k_6, ix_lt hk, copy_is w hp hs, hw64, Int.toNat_natCast, List.nil_append, List.length_nil]
              rw [if_neg (by rw [decide_eq_true_eq]; omega), if_neg (by decide), if_pos (by omega), if_pos (by omega), if_pos (by simp only [List.length_take]; omega), if_pos (by simp only [List.length_take, List.length_drop]; omega), w8_in (n := s2) (by omega) (by omega), w8_in (n := t2) (by omega) (by omega)]
              simp only [p1, Option.bind_some]
            · have e := (put_perm (w.fPins.take k ++ w.fPins.drop (k + 1)) (⟨s2, t2, w.fPins[k].fTurns⟩ : GWornPin) j).length_eq
              simp only
              rw [e]
              simp only [List.length_append, List.length_take, List.length_drop, List.length_cons, List.length_nil]
              omega
        · refine ⟨(⟨[], []⟩, 4), ?_, ?_, by simp, fun h => absurd h (by decide)⟩
          · simp [e1, impl_MovePin.k_4]
          · simp [e1, spec_MovePin.k_6]
theorem movePin_same (f : GFrame) (w : GWear) (s t s2 t2 : Int) (hi : FIn f) (hw : WIn w) (hf : f.fHammers.length ≤ 1048576) (hp : w.fPins.length ≤ 1048576) (hs : w.fStrokes.length ≤ 1048576) :
    ∃ r, impl_MovePin f w s t s2 t2 = some r ∧ spec_MovePin f w s t s2 t2 = some r ∧ r.1.fPins.length + r.1.fStrokes.length ≤ w.fPins.length + w.fStrokes.length + f.fHammers.length := by
  obtain ⟨r, a, b, c, _⟩ := movePin_full f w s t s2 t2 hi hw hf hp hs
  exact ⟨r, a, b, c⟩

end Go.Proofs.YtfkjghkjimcmdaaGreat
