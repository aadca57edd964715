/-
  Plain laws of the loops and of the whole numbers' wrapping, with no program in sight.
-/
import Derived.Test.YtplklknkkaeniaaGreatDoorEng
import Derived.IntWalk
namespace Go.Proofs.YtplklknkkaeniaaGreatDoor.Eng
open Go
set_option linter.unusedVariables false

theorem w64_in {n : Int} (h0 : -9223372036854775808 ≤ n) (h1 : n ≤ 9223372036854775807) : w64 n = n := IntWalk.i64_in n ⟨h0, h1⟩
theorem w32_in {n : Int} (h0 : -2147483648 ≤ n) (h1 : n ≤ 2147483647) : w32 n = n := IntWalk.i32_in n ⟨h0, h1⟩
theorem w16_in {n : Int} (h0 : -32768 ≤ n) (h1 : n ≤ 32767) : w16 n = n := IntWalk.i16_in n ⟨h0, h1⟩
theorem w8_in {n : Int} (h0 : -128 ≤ n) (h1 : n ≤ 127) : w8 n = n := IntWalk.i8_in n ⟨h0, h1⟩
theorem u64_in {n : Int} (h0 : 0 ≤ n) (h1 : n ≤ 18446744073709551615) : u64 n = n := IntWalk.u64_in n ⟨h0, h1⟩
theorem u32_in {n : Int} (h0 : 0 ≤ n) (h1 : n ≤ 4294967295) : u32 n = n := IntWalk.u32_in n ⟨h0, h1⟩
theorem u16_in {n : Int} (h0 : 0 ≤ n) (h1 : n ≤ 65535) : u16 n = n := IntWalk.u16_in n ⟨h0, h1⟩
theorem u8_in {n : Int} (h0 : 0 ≤ n) (h1 : n ≤ 255) : u8 n = n := IntWalk.u8_in n ⟨h0, h1⟩

/-- a loop with a law kept and a measure that falls -/
theorem loop_inv {S T : Type} {f : S → Option (S ⊕ T)} (I : S → Prop) (μ : S → Nat) (Q : T → Prop)
    (h : ∀ s, I s → (∃ s', f s = some (.inl s') ∧ I s' ∧ μ s' < μ s) ∨ (∃ t, f s = some (.inr t) ∧ Q t)) :
    ∀ s, I s → ∃ t, loop f s = some t ∧ Q t := by
  suffices H : ∀ n s, μ s < n → I s → ∃ t, loop f s = some t ∧ Q t from fun s hs => H (μ s + 1) s (by omega) hs
  intro n
  induction n with
  | zero => intro s h; omega
  | succ n ih =>
    intro s hn hs
    rcases h s hs with ⟨s', hf, hi, hm⟩ | ⟨t, hf, hq⟩
    · rw [loop_eq, hf]
      exact ih s' (by omega) hi
    · exact ⟨t, by rw [loop_eq, hf], hq⟩

/-- a counting loop with something carried along -/
theorem loop_for {A T : Type} {f : A × Int → Option ((A × Int) ⊕ T)} (n : Nat) (hn : n ≤ 9223372036854775807) (I : Nat → A → Prop) (Q : T → Prop)
    (h : ∀ k a, k < n → I k a → (∃ a', f (a, (k : Int)) = some (.inl (a', w64 ((k : Int) + 1))) ∧ I (k + 1) a') ∨ (∃ t, f (a, (k : Int)) = some (.inr t) ∧ Q t))
    (he : ∀ a, I n a → ∃ t, f (a, (n : Int)) = some (.inr t) ∧ Q t) (a0 : A) (h0 : I 0 a0) : ∃ t, loop f (a0, 0) = some t ∧ Q t := by
  refine loop_inv (fun s => ∃ k : Nat, s.2 = (k : Int) ∧ k ≤ n ∧ I k s.1) (fun s => n - s.2.toNat) Q ?_ (a0, 0) ⟨0, rfl, by omega, h0⟩
  rintro ⟨a, i⟩ ⟨k, hk, hkn, hI⟩
  simp only at hk hI; subst hk
  by_cases hlt : k < n
  · rcases h k a hlt hI with ⟨a', hf, hI'⟩ | ⟨t, hf, hq⟩
    · left
      refine ⟨_, hf, ⟨k + 1, ?_, by omega, hI'⟩, ?_⟩
      · simp only; rw [w64_in (by omega) (by omega)]; omega
      · simp only; rw [w64_in (by omega) (by omega)]; omega
    · exact .inr ⟨t, hf, hq⟩
  · obtain rfl : k = n := by omega
    exact .inr (he a hI)

/-- a counting loop, nothing carried -/
theorem loop_cnt {T : Type} {f : Int → Option (Int ⊕ T)} (n : Nat) (hn : n ≤ 9223372036854775807) (I : Nat → Prop) (Q : T → Prop)
    (h : ∀ k, k < n → I k → (f (k : Int) = some (.inl (w64 ((k : Int) + 1))) ∧ I (k + 1)) ∨ (∃ t, f (k : Int) = some (.inr t) ∧ Q t))
    (he : I n → ∃ t, f (n : Int) = some (.inr t) ∧ Q t) (h0 : I 0) : ∃ t, loop f 0 = some t ∧ Q t := by
  refine loop_inv (fun s => ∃ k : Nat, s = (k : Int) ∧ k ≤ n ∧ I k) (fun s => n - s.toNat) Q ?_ 0 ⟨0, rfl, by omega, h0⟩
  rintro i ⟨k, rfl, hkn, hI⟩
  by_cases hlt : k < n
  · rcases h k hlt hI with ⟨hf, hI'⟩ | ⟨t, hf, hq⟩
    · left
      refine ⟨_, hf, ⟨k + 1, ?_, by omega, hI'⟩, ?_⟩
      · rw [w64_in (by omega) (by omega)]; omega
      · rw [w64_in (by omega) (by omega)]; omega
    · exact .inr ⟨t, hf, hq⟩
  · obtain rfl : k = n := by omega
    exact .inr (he hI)

theorem ix_get {S : Type} {xs : List S} {k : Nat} {x : S} (h : xs[k]? = some x) : ix xs (k : Int) = some x := by
  unfold ix
  rw [if_pos (by omega)]
  simpa using h
theorem ix_lt {S : Type} {xs : List S} {k : Nat} (h : k < xs.length) : ix xs (k : Int) = some xs[k] := ix_get (List.getElem?_eq_getElem h)

/-- a row copied into a new one -/
theorem loop_copy {S : Type} {f : List S × Int → Option ((List S × Int) ⊕ List S)} (xs : List S) (z : S) (hn : xs.length ≤ 9223372036854775807)
    (hf : ∀ (ys : List S) (k : Nat) (hk : k < xs.length), ys.length = xs.length → f (ys, (k : Int)) = some (.inl (ys.set k xs[k], w64 ((k : Int) + 1))))
    (he : ∀ ys, f (ys, (xs.length : Int)) = some (.inr ys)) : loop f (List.replicate xs.length z, 0) = some xs := by
  obtain ⟨t, ht, rfl⟩ := loop_for (f := f) xs.length hn (fun k ys => ys.length = xs.length ∧ ∀ i, i < k → ys[i]? = xs[i]?) (fun t => t = xs)
    (fun k ys hk ⟨hl, hi⟩ => .inl ⟨_, hf ys k hk hl, by simpa using hl, fun i hik => by
      by_cases h : k = i
      · subst h; rw [List.getElem?_set_self (by omega), List.getElem?_eq_getElem hk]
      · rw [List.getElem?_set_ne h]; exact hi i (by omega)⟩)
    (fun ys ⟨hl, hi⟩ => ⟨ys, he ys, List.ext_getElem? fun i => by
      by_cases h : i < xs.length
      · exact hi i h
      · rw [List.getElem?_eq_none (by omega), List.getElem?_eq_none (by omega)]⟩)
    (List.replicate xs.length z) ⟨by simp, fun i h => absurd h (by omega)⟩
  exact ht

/-- two rows of one length compared place by place, false at the first that differs -/
theorem loop_same {S : Type} [DecidableEq S] {f : Int → Option (Int ⊕ (Bool ⊕ Unit))} (xs ys : List S) (hn : xs.length ≤ 9223372036854775807) (hl : xs.length = ys.length)
    (hf : ∀ (k : Nat) (hk : k < xs.length) (hk' : k < ys.length), f (k : Int) = some (if xs[k] = ys[k] then .inl (w64 ((k : Int) + 1)) else .inr (.inl false)))
    (he : f (xs.length : Int) = some (.inr (.inr ()))) :
    loop f 0 = some (if xs = ys then .inr () else .inl false) := by
  obtain ⟨t, ht, rfl⟩ := loop_cnt (f := f) xs.length hn (fun k => ∀ i, i < k → xs[i]? = ys[i]?) (fun t => t = if xs = ys then .inr () else .inl false)
    (fun k hk hi => by
      have hk' : k < ys.length := by omega
      rw [hf k hk hk']
      by_cases h : xs[k] = ys[k]
      · left
        rw [if_pos h]
        refine ⟨rfl, fun i hik => ?_⟩
        by_cases hik' : i = k
        · subst hik'; rw [List.getElem?_eq_getElem hk, List.getElem?_eq_getElem hk', h]
        · exact hi i (by omega)
      · right
        rw [if_neg h]
        refine ⟨_, rfl, ?_⟩
        rw [if_neg]
        rintro rfl
        exact h rfl)
    (fun hi => ⟨_, he, by
      rw [if_pos]
      refine List.ext_getElem? fun i => ?_
      by_cases h : i < xs.length
      · exact hi i h
      · rw [List.getElem?_eq_none (by omega), List.getElem?_eq_none (by omega)]⟩)
    (fun i h => absurd h (by omega))
  exact ht

/-- whether all of a row are so -/
theorem loop_all {S : Type} {f : Int → Option (Int ⊕ (Bool ⊕ Unit))} (xs : List S) (p : S → Bool) (hn : xs.length ≤ 9223372036854775807)
    (hf : ∀ (k : Nat) (hk : k < xs.length), f (k : Int) = some (if p xs[k] = true then .inl (w64 ((k : Int) + 1)) else .inr (.inl false)))
    (he : f (xs.length : Int) = some (.inr (.inr ()))) :
    loop f 0 = some (if xs.all p = true then .inr () else .inl false) := by
  obtain ⟨t, ht, rfl⟩ := loop_cnt (f := f) xs.length hn (fun k => ∀ i (h : i < xs.length), i < k → p xs[i] = true) (fun t => t = if xs.all p = true then .inr () else .inl false)
    (fun k hk hi => by
      rw [hf k hk]
      by_cases h : p xs[k] = true
      · left
        rw [if_pos h]
        refine ⟨rfl, fun i hl hik => ?_⟩
        by_cases hik' : i = k
        · subst hik'; exact h
        · exact hi i hl (by omega)
      · right
        rw [if_neg h]
        refine ⟨_, rfl, ?_⟩
        rw [if_neg]
        intro ha
        exact h (List.all_eq_true.1 ha _ (List.getElem_mem hk)))
    (fun hi => ⟨_, he, by
      rw [if_pos]
      refine List.all_eq_true.2 fun x hx => ?_
      obtain ⟨i, h, rfl⟩ := List.mem_iff_getElem.1 hx
      exact hi i h h⟩)
    (fun i _ h => absurd h (by omega))
  exact ht

/-- the first place where it holds -/
theorem loop_find {S : Type} {f : Int → Option (Int ⊕ (Int ⊕ Unit))} (xs : List S) (p : S → Bool) (hn : xs.length ≤ 9223372036854775807)
    (hf : ∀ (k : Nat) (hk : k < xs.length), f (k : Int) = some (if p xs[k] = true then .inr (.inl (k : Int)) else .inl (w64 ((k : Int) + 1))))
    (he : f (xs.length : Int) = some (.inr (.inr ()))) :
    ∃ t, loop f 0 = some t ∧ ((xs.any p = true ∧ ∃ k : Nat, t = .inl (k : Int) ∧ ∃ h : k < xs.length, p xs[k] = true ∧ ∀ i (h : i < xs.length), i < k → p xs[i] = false) ∨ (xs.any p = false ∧ t = .inr ())) := by
  refine loop_cnt (f := f) xs.length hn (fun k => ∀ i (h : i < xs.length), i < k → p xs[i] = false) _ (fun k hk hi => ?_) (fun hi => ⟨_, he, .inr ⟨?_, rfl⟩⟩) (fun i _ h => absurd h (by omega))
  · rw [hf k hk]
    by_cases h : p xs[k] = true
    · right
      rw [if_pos h]
      exact ⟨_, rfl, .inl ⟨List.any_eq_true.2 ⟨_, List.getElem_mem hk, h⟩, k, rfl, hk, h, hi⟩⟩
    · left
      rw [if_neg h]
      refine ⟨rfl, fun i hl hik => ?_⟩
      by_cases hik' : i = k
      · subst hik'; simpa using h
      · exact hi i hl (by omega)
  · rw [List.any_eq_false]
    intro x hx
    obtain ⟨i, h, rfl⟩ := List.mem_iff_getElem.1 hx
    simp [hi i h h]

/-- a sum gathered over a row -/
theorem loop_sum {S : Type} {f : Int × Int → Option ((Int × Int) ⊕ Int)} (xs : List S) (g : Int → S → Int) (hn : xs.length ≤ 9223372036854775807)
    (hf : ∀ (a : Int) (k : Nat) (hk : k < xs.length), f (a, (k : Int)) = some (.inl (g a xs[k], w64 ((k : Int) + 1))))
    (he : ∀ a, f (a, (xs.length : Int)) = some (.inr a)) (a0 : Int) :
    loop f (a0, 0) = some (xs.foldl g a0) := by
  obtain ⟨t, ht, rfl⟩ := loop_for (f := f) xs.length hn (fun k a => a = (xs.take k).foldl g a0) (fun t => t = xs.foldl g a0)
    (fun k a hk hi => .inl ⟨_, hf a k hk, by rw [List.take_succ_eq_append_getElem hk, List.foldl_append, ← hi]; rfl⟩)
    (fun a hi => ⟨_, he a, by simpa using hi⟩)
    a0 (by simp)
  exact ht

theorem ix_set_self {S : Type} {xs : List S} {k : Nat} {y : S} (h : k < xs.length) : ix (xs.set k y) (k : Int) = some y :=
  ix_get (by rw [List.getElem?_set_self h])

def iter {A : Type} (f : A → A) : Nat → A → A
  | 0, a => a
  | n + 1, a => f (iter f n a)

/-- a row whose elements are all written, by a counter -/
theorem loop_mark {S : Type} {f : List S × Int × Int → Option ((List S × Int × Int) ⊕ (List S × Int))} (xs : List S) (g : Int → S) (st : Int → Int) (k0 : Int) (hn : xs.length ≤ 9223372036854775807)
    (hf : ∀ (ys : List S) (i : Nat), i < xs.length → ys.length = xs.length → f (ys, iter st i k0, (i : Int)) = some (.inl (ys.set i (g (iter st i k0)), iter st (i + 1) k0, w64 ((i : Int) + 1))))
    (he : ∀ ys k, f (ys, k, (xs.length : Int)) = some (.inr (ys, k))) :
    ∃ ys, loop f (xs, k0, 0) = some (ys, iter st xs.length k0) ∧ ys.length = xs.length ∧ ∀ (i : Nat) (h : i < ys.length), ys[i] = g (iter st i k0) := by
  have H := loop_inv (f := f) (fun s => ∃ i : Nat, s.2.2 = (i : Int) ∧ i ≤ xs.length ∧ s.1.length = xs.length ∧ s.2.1 = iter st i k0 ∧ ∀ (j : Nat), j < i → s.1[j]? = some (g (iter st j k0)))
    (fun s => xs.length - s.2.2.toNat) (fun t => t.2 = iter st xs.length k0 ∧ t.1.length = xs.length ∧ ∀ (i : Nat) (h : i < t.1.length), t.1[i] = g (iter st i k0)) (by
    rintro ⟨ys, k, i'⟩ ⟨i, hi, hin, hl, hk, hg⟩
    simp only at hi hl hk hg
    subst hi hk
    by_cases hlt : i < xs.length
    · left
      refine ⟨_, hf ys i hlt hl, ⟨i + 1, ?_, by omega, by simpa using hl, rfl, fun j hj => ?_⟩, ?_⟩
      · simp only; rw [w64_in (by omega) (by omega)]; omega
      · simp only
        by_cases hji : i = j
        · subst hji; rw [List.getElem?_set_self (by omega)]
        · rw [List.getElem?_set_ne hji]; exact hg j (by omega)
      · simp only; rw [w64_in (by omega) (by omega)]; omega
    · right
      obtain rfl : i = xs.length := by omega
      refine ⟨_, he ys _, rfl, hl, fun j hj => ?_⟩
      have := hg j (by simp only at hj; omega)
      rw [List.getElem?_eq_getElem hj] at this
      exact Option.some.inj this) (xs, k0, 0) ⟨0, rfl, by omega, rfl, rfl, fun j h => absurd h (by omega)⟩
  obtain ⟨⟨ys, k⟩, ht, h0, h1, h2⟩ := H
  simp only at h0 h1 h2
  subst h0
  exact ⟨ys, ht, h1, h2⟩

/-- a row whose elements are all as they were written, by a counter -/
theorem loop_held {S : Type} {f : Int × Int → Option ((Int × Int) ⊕ (Int ⊕ Int))} (ys : List S) (st : Int → Int) (k0 : Int) (hn : ys.length ≤ 9223372036854775807)
    (hf : ∀ (i : Nat), i < ys.length → f (iter st i k0, (i : Int)) = some (.inl (iter st (i + 1) k0, w64 ((i : Int) + 1))))
    (he : ∀ k, f (k, (ys.length : Int)) = some (.inr (.inr k))) : loop f (k0, 0) = some (.inr (iter st ys.length k0)) := by
  obtain ⟨t, ht, rfl⟩ := loop_for (f := f) ys.length hn (fun i k => k = iter st i k0) (fun t => t = .inr (iter st ys.length k0))
    (fun i k hi hk => .inl ⟨_, by rw [hk]; exact hf i hi, rfl⟩)
    (fun k hk => ⟨_, he k, by rw [hk]⟩) k0 rfl
  exact ht

theorem iter_add (c : Int) : ∀ (n : Nat) (k : Int), iter (fun k => k + c) n k = k + n * c
  | 0, k => by simp [iter]
  | n + 1, k => by
    rw [iter, iter_add c n k, Int.natCast_add, Int.add_mul]
    omega


/-- a loop that appends to a list, round by round -/
theorem loop_app {S : Type} {f : List S × Int → Option ((List S × Int) ⊕ List S)} (n m : Nat) (hn : n ≤ 9223372036854775807) (h : Nat → List S) (xs0 : List S) (hm : ∀ k, k < n → (h k).length ≤ m)
    (hf : ∀ xs k, k < n → xs.length ≤ xs0.length + n * m → f (xs, (k : Int)) = some (.inl (xs ++ h k, w64 ((k : Int) + 1)))) (he : ∀ xs, f (xs, (n : Int)) = some (.inr xs)) :
    loop f (xs0, 0) = some (xs0 ++ (List.range n).flatMap h) := by
  have hlen : ∀ k, k ≤ n → ((List.range k).flatMap h).length ≤ k * m := by
    intro k
    induction k with
    | zero => intro _; simp
    | succ k ih =>
      intro hk
      rw [List.range_succ, List.flatMap_append, List.length_append, Nat.succ_mul]
      have := ih (by omega)
      have := hm k (by omega)
      simp only [List.flatMap_cons, List.flatMap_nil, List.append_nil]
      omega
  obtain ⟨t, ht, rfl⟩ := loop_for (f := f) n hn (fun k xs => xs = xs0 ++ (List.range k).flatMap h) (fun t => t = xs0 ++ (List.range n).flatMap h)
    (fun k xs hk hx => .inl ⟨_, by
      have h1 := hlen k (by omega)
      have h2 : k * m ≤ n * m := Nat.mul_le_mul_right _ (by omega)
      rw [hf xs k hk (by rw [hx, List.length_append]; omega)], by
      rw [hx, List.range_succ, List.flatMap_append, List.append_assoc]; simp⟩)
    (fun xs hx => ⟨_, he xs, hx⟩) xs0 (by simp)
  exact ht
theorem app_len {S : Type} (n m : Nat) (h : Nat → List S) (hm : ∀ k, k < n → (h k).length ≤ m) : ((List.range n).flatMap h).length ≤ n * m := by
  induction n with
  | zero => simp
  | succ k ih =>
    rw [List.range_succ, List.flatMap_append, List.length_append, Nat.succ_mul]
    have := ih (fun i hi => hm i (by omega))
    have := hm k (by omega)
    simp only [List.flatMap_cons, List.flatMap_nil, List.append_nil]
    omega

/-! arrays -/
def Arr.at {n : Nat} {S : Type} (a : Arr n S) (k : Nat) (h : k < n) : S := a.1[k]'(by rw [a.2]; exact h)
theorem ix_arr_lt {n : Nat} {S : Type} {a : Arr n S} {k : Nat} (h : k < n) : ix a.1 (k : Int) = some (a.at k h) := ix_lt (by rw [a.2]; exact h)
theorem Arr.ext {n : Nat} {S : Type} {a b : Arr n S} (h : ∀ (k : Nat) (hk : k < n), a.at k hk = b.at k hk) : a = b := by
  apply Subtype.ext
  apply List.ext_getElem (by rw [a.2, b.2])
  intro i h1 h2
  exact h i (by rw [← a.2]; exact h1)
theorem Arr.at_set {n : Nat} {S : Type} (a : Arr n S) (j k : Nat) (y : S) (h : k < n) : (a.set (j : Int) y).at k h = if j = k then y else a.at k h := by
  simp only [Arr.at, Arr.set, Int.toNat_natCast]
  rw [List.getElem_set]
theorem Arr.at_rep {n : Nat} {S : Type} (z : S) (k : Nat) (h : k < n) : (Arr.rep n z).at k h = z := by simp [Arr.at, Arr.rep]
/-- an array copied into a new one -/
theorem loop_copyA {n : Nat} {S : Type} {f : Arr n S × Int → Option ((Arr n S × Int) ⊕ Arr n S)} (a z : Arr n S) (hn : n ≤ 9223372036854775807)
    (hf : ∀ (b : Arr n S) (k : Nat) (hk : k < n), f (b, (k : Int)) = some (.inl (b.set (k : Int) (a.at k hk), w64 ((k : Int) + 1)))) (he : ∀ b, f (b, (n : Int)) = some (.inr b)) : loop f (z, 0) = some a := by
  obtain ⟨t, ht, rfl⟩ := loop_for (f := f) n hn (fun k b => ∀ i (hi : i < n), i < k → b.at i hi = a.at i hi) (fun t => t = a)
    (fun k b hk hi => .inl ⟨_, hf b k hk, fun i hin hik => by
      rw [Arr.at_set]
      by_cases h : k = i
      · subst h; simp
      · rw [if_neg h]; exact hi i hin (by omega)⟩)
    (fun b hi => ⟨b, he b, Arr.ext fun i h => hi i h h⟩) z (fun i hi h => absurd h (by omega))
  exact ht
/-- two arrays compared place by place -/
theorem loop_sameA {n : Nat} {S : Type} [DecidableEq S] {f : Int → Option (Int ⊕ (Bool ⊕ Unit))} (a b : Arr n S) (hn : n ≤ 9223372036854775807)
    (hf : ∀ (k : Nat) (hk : k < n), f (k : Int) = some (if a.at k hk = b.at k hk then .inl (w64 ((k : Int) + 1)) else .inr (.inl false)))
    (he : f (n : Int) = some (.inr (.inr ()))) : loop f 0 = some (if a = b then .inr () else .inl false) := by
  obtain ⟨t, ht, rfl⟩ := loop_cnt (f := f) n hn (fun k => ∀ i (hi : i < n), i < k → a.at i hi = b.at i hi) (fun t => t = if a = b then .inr () else .inl false)
    (fun k hk hi => by
      rw [hf k hk]
      by_cases h : a.at k hk = b.at k hk
      · left
        rw [if_pos h]
        refine ⟨rfl, fun i hin hik => ?_⟩
        by_cases hik' : i = k
        · subst hik'; exact h
        · exact hi i hin (by omega)
      · right
        rw [if_neg h]
        refine ⟨_, rfl, ?_⟩
        rw [if_neg]
        rintro rfl
        exact h rfl)
    (fun hi => ⟨_, he, by rw [if_pos (Arr.ext fun i h => hi i h h)]⟩)
    (fun i _ h => absurd h (by omega))
  exact ht
/-! ### counting loops with something carried along: what they come to -/
/-- n rounds -/
def forN {A : Type} (g : Nat → A → A) (a : A) : Nat → A
  | 0 => a
  | n + 1 => g n (forN g a n)
theorem loop_forN {A T : Type} {f : A × Int → Option ((A × Int) ⊕ T)} (n : Nat) (hn : n ≤ 9223372036854775807) (I : Nat → A → Prop) (g : Nat → A → A) (a0 : A) (h0 : I 0 a0)
    (h : ∀ k a, k < n → I k a → f (a, (k : Int)) = some (.inl (g k a, w64 ((k : Int) + 1))) ∧ I (k + 1) (g k a)) (t : A → T) (he : ∀ a, I n a → f (a, (n : Int)) = some (.inr (t a))) :
    loop f (a0, 0) = some (t (forN g a0 n)) ∧ I n (forN g a0 n) := by
  have key : ∀ k, k ≤ n → I k (forN g a0 k) := by
    intro k
    induction k with
    | zero => intro _; exact h0
    | succ k ih => intro hk; exact (h k _ (by omega) (ih (by omega))).2
  obtain ⟨t', ht, rfl⟩ := loop_for (f := f) n hn (fun k a => a = forN g a0 k) (fun t' => t' = t (forN g a0 n))
    (fun k a hk ha => .inl ⟨_, by rw [ha]; exact (h k _ hk (key k (by omega))).1, rfl⟩)
    (fun a ha => ⟨_, he a (ha ▸ key n (by omega)), by rw [ha]⟩) a0 rfl
  exact ⟨ht, key n (by omega)⟩
theorem forN_congr {A : Type} {g g' : Nat → A → A} {a : A} {n : Nat} (h : ∀ k a, k < n → g k a = g' k a) : forN g a n = forN g' a n := by
  induction n with
  | zero => rfl
  | succ n ih => simp only [forN]; rw [ih (fun k a hk => h k a (by omega)), h n _ (by omega)]
theorem forN_app {S : Type} (h : Nat → List S) (xs : List S) (n : Nat) : forN (fun k a => a ++ h k) xs n = xs ++ (List.range n).flatMap h := by
  induction n with
  | zero => simp [forN]
  | succ n ih => rw [forN, ih, List.range_succ, List.flatMap_append, List.append_assoc]; simp
theorem forN_id {A : Type} (a : A) (n : Nat) : forN (fun _ a => a) a n = a := by
  induction n with
  | zero => rfl
  | succ n ih => rw [forN, ih]

/-! ### numbers without a sign, as naturals -/
theorem wrap_u32 (n : Nat) (h : n < 4294967296) : IntKind.u32.wrap (n : Int) = (n : Int) := u32_in (by omega) (by omega)
theorem toNat_ofInt32 (n : Nat) (h : n < 4294967296) : (BitVec.ofInt 32 (n : Int)).toNat = n := by
  rw [BitVec.toNat_ofInt]; simp; omega
theorem bAnd32 (x y : Nat) (hx : x < 4294967296) (hy : y < 4294967296) : bAnd .u32 (x : Int) (y : Int) = ((x &&& y : Nat) : Int) := by
  show IntKind.u32.wrap (((BitVec.ofInt 32 (x : Int) &&& BitVec.ofInt 32 (y : Int)).toNat : Nat) : Int) = _
  rw [BitVec.toNat_and, toNat_ofInt32 x hx, toNat_ofInt32 y hy]
  exact wrap_u32 _ (Nat.lt_of_le_of_lt Nat.and_le_left hx)
theorem bOr32 (x y : Nat) (hx : x < 4294967296) (hy : y < 4294967296) : bOr .u32 (x : Int) (y : Int) = ((x ||| y : Nat) : Int) := by
  show IntKind.u32.wrap (((BitVec.ofInt 32 (x : Int) ||| BitVec.ofInt 32 (y : Int)).toNat : Nat) : Int) = _
  rw [BitVec.toNat_or, toNat_ofInt32 x hx, toNat_ofInt32 y hy]
  exact wrap_u32 _ (Nat.or_lt_two_pow (n := 32) hx hy)
theorem bXor32 (x y : Nat) (hx : x < 4294967296) (hy : y < 4294967296) : bXor .u32 (x : Int) (y : Int) = ((x ^^^ y : Nat) : Int) := by
  show IntKind.u32.wrap (((BitVec.ofInt 32 (x : Int) ^^^ BitVec.ofInt 32 (y : Int)).toNat : Nat) : Int) = _
  rw [BitVec.toNat_xor, toNat_ofInt32 x hx, toNat_ofInt32 y hy]
  exact wrap_u32 _ (Nat.xor_lt_two_pow (n := 32) hx hy)
/-- what x has and y has not -/
def ldif (x y : Nat) : Nat := x ^^^ (x &&& y)
theorem ldif_bit (x y i : Nat) : (ldif x y).testBit i = (x.testBit i && !(y.testBit i)) := by
  unfold ldif; rw [Nat.testBit_xor, Nat.testBit_and]; cases x.testBit i <;> cases y.testBit i <;> rfl
theorem ldif_le (x y : Nat) : ldif x y ≤ x := by
  apply Nat.le_of_testBit
  intro i h
  rw [ldif_bit] at h
  simp at h
  exact h.1
theorem bClr32 (x y : Nat) (hx : x < 4294967296) (hy : y < 4294967296) : bClr .u32 (x : Int) (y : Int) = ((ldif x y : Nat) : Int) := by
  show IntKind.u32.wrap (((BitVec.ofInt 32 (x : Int) &&& ~~~(BitVec.ofInt 32 (y : Int))).toNat : Nat) : Int) = _
  have : (BitVec.ofInt 32 (x : Int) &&& ~~~(BitVec.ofInt 32 (y : Int))).toNat = ldif x y := by
    apply Nat.eq_of_testBit_eq
    intro i
    rw [ldif_bit]
    by_cases hi : i < 32
    · rw [BitVec.testBit_toNat, BitVec.getLsbD_and, BitVec.getLsbD_not, ← BitVec.testBit_toNat, ← BitVec.testBit_toNat, toNat_ofInt32 x hx, toNat_ofInt32 y hy]
      simp [hi]
    · rw [BitVec.testBit_toNat, BitVec.getLsbD_of_ge _ _ (by omega)]
      have : x.testBit i = false := Nat.testBit_lt_two_pow (Nat.lt_of_lt_of_le hx (Nat.pow_le_pow_right (n := 2) (by omega) (by omega : 32 ≤ i)))
      simp [this]
  rw [this]
  exact wrap_u32 _ (Nat.lt_of_le_of_lt (ldif_le x y) hx)
theorem bShr_nat (k : IntKind) (x t : Nat) (ht : t ≤ k.bits) : bShr k (x : Int) (t : Int) = ((x >>> t : Nat) : Int) := by
  unfold bShr
  rw [Int.toNat_natCast, Nat.min_eq_left ht, Nat.shiftRight_eq_div_pow]
  rw [show ((2 : Int) ^ t) = ((2 ^ t : Nat) : Int) by simp]
  rw [Int.fdiv_eq_ediv_of_nonneg _ (Int.natCast_nonneg _)]
  simp
theorem bShl32_one (t : Nat) (ht : t < 32) : bShl .u32 1 (t : Int) = ((2 ^ t : Nat) : Int) := by
  unfold bShl
  rw [Int.toNat_natCast, Nat.min_eq_left (by simp [IntKind.bits]; omega)]
  have h : (2 : Nat) ^ t < 4294967296 := Nat.pow_lt_pow_right (a := 2) (by omega) (by omega : t < 32)
  have := wrap_u32 (2 ^ t) h
  rw [Int.one_mul, show ((2 : Int) ^ t) = ((2 ^ t : Nat) : Int) by simp]
  exact this
theorem bit_and (x t : Nat) : ((x >>> t) &&& 1) = 1 ↔ x.testBit t = true := by
  rw [Nat.and_one_is_mod, Nat.testBit_eq_decide_div_mod_eq, Nat.shiftRight_eq_div_pow]; simp
theorem bit_mod (x t : Nat) : ((x >>> t) % 2) = 1 ↔ x.testBit t = true := by
  rw [Nat.testBit_eq_decide_div_mod_eq, Nat.shiftRight_eq_div_pow]; simp
theorem tmod_nat (x y : Nat) : Int.tmod (x : Int) (y : Int) = ((x % y : Nat) : Int) := by
  rw [Int.tmod_eq_emod_of_nonneg (by omega)]; simp
/-! ### a loop whose states are told one by one -/
theorem loop_seq {S T : Type} {f : S → Option (S ⊕ T)} (n : Nat) (st : Nat → S) (t : T) (h : ∀ k, k < n → f (st k) = some (.inl (st (k + 1)))) (he : f (st n) = some (.inr t)) : loop f (st 0) = some t := by
  have key : ∀ j, j ≤ n → loop f (st (n - j)) = some t := by
    intro j
    induction j with
    | zero => intro _; rw [loop_eq, Nat.sub_zero, he]
    | succ j ih =>
      intro hj
      rw [loop_eq, h (n - (j + 1)) (by omega), show n - (j + 1) + 1 = n - j by omega]
      exact ih (by omega)
  have := key n (Nat.le_refl _)
  rwa [Nat.sub_self] at this
/-- the first round that ends a loop -/
theorem loop_upto {S T : Type} {f : S → Option (S ⊕ T)} (n : Nat) (st : Nat → S) (p : Nat → Option T) (hx : ∃ k, k ≤ n ∧ (p k).isSome = true)
    (h : ∀ k, k ≤ n → f (st k) = some (match p k with | some t => .inr t | none => .inl (st (k + 1)))) : ∃ k t, k ≤ n ∧ p k = some t ∧ (∀ i, i < k → p i = none) ∧ loop f (st 0) = some t := by
  obtain ⟨k0, hk0, hs⟩ := hx
  have : ∃ k t, k ≤ n ∧ p k = some t ∧ (∀ i, i < k → p i = none) := by
    clear h
    have key : ∀ m, m ≤ n → (∃ k t, k ≤ m ∧ p k = some t ∧ (∀ i, i < k → p i = none)) ∨ (∀ i, i ≤ m → p i = none) := by
      intro m
      induction m with
      | zero =>
        intro _
        cases hp : p 0 with
        | none => exact .inr fun i hi => (by omega : i = 0) ▸ hp
        | some t => left; exact ⟨0, t, by omega, hp, fun i hi => by omega⟩
      | succ m ih =>
        intro hm
        rcases ih (by omega) with ⟨k, t, h1, h2, h3⟩ | h1
        · left; exact ⟨k, t, by omega, h2, h3⟩
        · cases hp : p (m + 1) with
          | none =>
            right; intro i hi
            by_cases e : i = m + 1
            · subst e; exact hp
            · exact h1 i (by omega)
          | some t => left; exact ⟨m + 1, t, by omega, hp, fun i hi => h1 i (by omega)⟩
    rcases key n (Nat.le_refl _) with ⟨k, t, h1, h2, h3⟩ | h1
    · exact ⟨k, t, h1, h2, h3⟩
    · rw [h1 k0 hk0] at hs; simp at hs
  obtain ⟨k, t, h1, h2, h3⟩ := this
  refine ⟨k, t, h1, h2, h3, loop_seq k st t (fun i hi => ?_) ?_⟩
  · rw [h i (by omega), h3 i hi]
  · rw [h k h1, h2]
end Go.Proofs.YtplklknkkaeniaaGreatDoor.Eng
