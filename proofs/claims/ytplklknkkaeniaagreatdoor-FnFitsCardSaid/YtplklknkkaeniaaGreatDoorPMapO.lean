/- A list read element by element, with a stop at the first that cannot be read. -/
import Derived.Test.YtplklknkkaeniaaGreatDoorT
import Derived.Test.YtplklknkkaeniaaGreatDoorPFrame
import Derived.Test.YtplklknkkaeniaaGreatDoorPure
namespace Go.Proofs.YtplklknkkaeniaaGreatDoor
open Eng
set_option linter.unusedVariables false
set_option linter.unusedSimpArgs false

def mapO {A B : Type} (g : A → Option B) : List A → Option (List B)
  | [] => some []
  | a :: l => match g a, mapO g l with
    | some b, some bs => some (b :: bs)
    | _, _ => none
def resO {B E : Type} (o : Option B) (err : E) : E ⊕ B := match o with
  | some b => .inr b
  | none => .inl err
def stepO {B E : Type} (o : Option B) (xs : List B) (k : Nat) (err : E) : (List B × Int) ⊕ (E ⊕ List B) := match o with
  | some x => .inl (xs ++ [x], ((k + 1 : Nat) : Int))
  | none => .inr (.inl err)
def keepO {B : Type} (p : B → Bool) (o : Option B) : Option B := match o with
  | some b => if p b = true then some b else none
  | none => none
theorem mapO_snoc {A B : Type} {g : A → Option B} {a : A} {b : B} (hb : g a = some b) : ∀ (l : List A) (bs : List B), mapO g l = some bs → mapO g (l ++ [a]) = some (bs ++ [b]) := by
  intro l
  induction l with
  | nil => intro bs h; cases h; simp [mapO, hb]
  | cons x l ih =>
    intro bs h
    simp only [mapO] at h
    cases hx : g x with
    | none => rw [hx] at h; cases h
    | some y =>
      cases hl : mapO g l with
      | none => rw [hx, hl] at h; cases h
      | some ys =>
        rw [hx, hl] at h
        cases h
        simp only [List.cons_append, mapO, hx, ih ys hl]
theorem mapO_none {A B : Type} {g : A → Option B} {a : A} (ha : g a = none) : ∀ (l : List A), a ∈ l → mapO g l = none := by
  intro l
  induction l with
  | nil => intro h; cases h
  | cons x l ih =>
    intro h
    simp only [mapO]
    rw [List.mem_cons] at h
    rcases h with rfl | h
    · rw [ha]
    · rw [ih h]; cases g x <;> rfl
theorem mapO_len {A B : Type} {g : A → Option B} : ∀ (l : List A) (bs : List B), mapO g l = some bs → bs.length = l.length := by
  intro l
  induction l with
  | nil => intro bs h; cases h; rfl
  | cons x l ih =>
    intro bs h
    simp only [mapO] at h
    cases hx : g x with
    | none => rw [hx] at h; cases h
    | some y =>
      cases hl : mapO g l with
      | none => rw [hx, hl] at h; cases h
      | some ys => rw [hx, hl] at h; cases h; simp [ih ys hl]
/-- a narrower way to read: what it reads is what the wider one reads, where that passes -/
theorem mapO_narrow {A B : Type} {g k : A → Option B} (p : B → Bool) (h : ∀ a, k a = keepO p (g a)) : ∀ l : List A, mapO k l = keepO (fun bs => bs.all p) (mapO g l) := by
  intro l
  induction l with
  | nil => rfl
  | cons x l ih =>
    simp only [mapO, h x, ih]
    cases hx : g x with
    | none => rfl
    | some y =>
      cases hl : mapO g l with
      | none => cases hp : p y <;> simp [keepO]
      | some ys => cases hp : p y <;> cases hq : ys.all p <;> simp [keepO, hp, hq]
theorem mapO_back {A B : Type} {g : A → Option B} (u : B → A) (h : ∀ a b, g a = some b → u b = a) : ∀ (l : List A) (bs : List B), mapO g l = some bs → bs.map u = l := by
  intro l
  induction l with
  | nil => intro bs hb; cases hb; rfl
  | cons x l ih =>
    intro bs hb
    simp only [mapO] at hb
    cases hx : g x with
    | none => rw [hx] at hb; cases hb
    | some y =>
      cases hl : mapO g l with
      | none => rw [hx, hl] at hb; cases hb
      | some ys => rw [hx, hl] at hb; cases hb; rw [List.map_cons, ih ys hl, h x y hx]
theorem mapO_all {A B : Type} {g : A → Option B} {q : B → Prop} (h : ∀ a b, g a = some b → q b) : ∀ (l : List A) (bs : List B), mapO g l = some bs → ∀ b ∈ bs, q b := by
  intro l
  induction l with
  | nil => intro bs hb; cases hb; simp
  | cons x l ih =>
    intro bs hb
    simp only [mapO] at hb
    cases hx : g x with
    | none => rw [hx] at hb; cases hb
    | some y =>
      cases hl : mapO g l with
      | none => rw [hx, hl] at hb; cases hb
      | some ys =>
        rw [hx, hl] at hb
        cases hb
        intro b hb
        rw [List.mem_cons] at hb
        rcases hb with rfl | hb
        · exact h x b hx
        · exact ih ys hl b hb
/-- the loop that reads -/
theorem read_loop {A B E : Type} {f : (List B × Int) → Option ((List B × Int) ⊕ (E ⊕ List B))} (g : A → Option B) (ws : List A) (err : E) (hl : ws.length ≤ 2000000)
    (hstep : ∀ (k : Nat) (hk : k < ws.length) (xs : List B), xs.length = k → f (xs, (k : Int)) = some (stepO (g ws[k]) xs k err))
    (hend : ∀ xs : List B, f (xs, (ws.length : Int)) = some (.inr (.inr xs))) :
    loop f ([], 0) = some (resO (mapO g ws) err) := by
  obtain ⟨t, ht, rfl⟩ := loop_inv (f := f) (fun s => ∃ k : Nat, k ≤ ws.length ∧ s.2 = (k : Int) ∧ s.1.length = k ∧ mapO g (ws.take k) = some s.1) (fun s => ws.length - s.2.toNat)
    (fun t => t = resO (mapO g ws) err) (by
    rintro ⟨xs, _⟩ ⟨k, hk, rfl, hx, hm⟩
    simp only at hx hm
    by_cases c : k < ws.length
    · rw [hstep k c xs hx]
      cases hg : g ws[k] with
      | none =>
        right
        exact ⟨_, rfl, by rw [mapO_none hg ws (List.getElem_mem c)]; rfl⟩
      | some x =>
        left
        refine ⟨_, rfl, ⟨k + 1, by omega, rfl, by simp [hx], ?_⟩, by simp only; omega⟩
        rw [List.take_succ_eq_append_getElem c]
        exact mapO_snoc hg _ _ hm
    · right
      obtain rfl : k = ws.length := by omega
      rw [List.take_of_length_le (Nat.le_refl _)] at hm
      rw [hend xs, hm]
      exact ⟨_, rfl, rfl⟩) ([], 0) ⟨0, by omega, rfl, rfl, rfl⟩
  exact ht

end Go.Proofs.YtplklknkkaeniaaGreatDoor
