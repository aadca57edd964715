/-
  Plain laws of the loops and of the whole numbers' wrapping, with no program in sight.
-/
import Derived.Test.YtolfkfjjifdmeaaGreatDoorEng
import Derived.IntWalk
namespace Go.Proofs.YtolfkfjjifdmeaaGreatDoor.Eng
open Go
set_option linter.unusedVariables false

theorem w64_in {n : Int} (h0 : -9223372036854775808 ≤ n) (h1 : n ≤ 9223372036854775807) : w64 n = n := IntWalk.i64_in n ⟨h0, h1⟩
theorem w16_in {n : Int} (h0 : -32768 ≤ n) (h1 : n ≤ 32767) : w16 n = n := IntWalk.i16_in n ⟨h0, h1⟩
theorem w8_in {n : Int} (h0 : -128 ≤ n) (h1 : n ≤ 127) : w8 n = n := IntWalk.i8_in n ⟨h0, h1⟩
theorem u64_in {n : Int} (h0 : 0 ≤ n) (h1 : n ≤ 18446744073709551615) : u64 n = n := IntWalk.u64_in n ⟨h0, h1⟩
theorem u32_in {n : Int} (h0 : 0 ≤ n) (h1 : n ≤ 4294967295) : u32 n = n := IntWalk.u32_in n ⟨h0, h1⟩
theorem u8_in {n : Int} (h0 : 0 ≤ n) (h1 : n ≤ 255) : u8 n = n := IntWalk.u8_in n ⟨h0, h1⟩

/-- a loop with a law kept and a measure that falls -/
theorem loop_inv {S T : Type} {f : S → Option (S ⊕ T)} (I : S → Prop) (μ : S → Nat) (Q : T → Prop)
    (h : ∀ s, I s → (∃ s', f s = some (.inl s') ∧ I s' ∧ μ s' < μ s) ∨ (∃ t, f s = some (.inr t) ∧ Q t)) :
    ∀ s, I s → ∃ t, loop f s = some t ∧ Q t := by
  suffices H : ∀ n s, μ s < n → I s → ∃ t, loop f s = some t ∧ Q t from fun s hs => H (μ s + 1) s (by omega) hs
  intro n
  induction n with
  | zero => intro s h; omega
  | succ n ih =>
    intro s hn hs
    rcases h s hs with ⟨s', hf, hi, hm⟩ | ⟨t, hf, hq⟩
    · rw [loop_eq, hf]
      exact ih s' (by omega) hi
    · exact ⟨t, by rw [loop_eq, hf], hq⟩

/-- a counting loop with something carried along -/
theorem loop_for {A T : Type} {f : A × Int → Option ((A × Int) ⊕ T)} (n : Nat) (hn : n ≤ 9223372036854775807) (I : Nat → A → Prop) (Q : T → Prop)
    (h : ∀ k a, k < n → I k a → (∃ a', f (a, (k : Int)) = some (.inl (a', w64 ((k : Int) + 1))) ∧ I (k + 1) a') ∨ (∃ t, f (a, (k : Int)) = some (.inr t) ∧ Q t))
    (he : ∀ a, I n a → ∃ t, f (a, (n : Int)) = some (.inr t) ∧ Q t) (a0 : A) (h0 : I 0 a0) : ∃ t, loop f (a0, 0) = some t ∧ Q t := by
  refine loop_inv (fun s => ∃ k : Nat, s.2 = (k : Int) ∧ k ≤ n ∧ I k s.1) (fun s => n - s.2.toNat) Q ?_ (a0, 0) ⟨0, rfl, by omega, h0⟩
  rintro ⟨a, i⟩ ⟨k, hk, hkn, hI⟩
  simp only at hk hI; subst hk
  by_cases hlt : k < n
  · rcases h k a hlt hI with ⟨a', hf, hI'⟩ | ⟨t, hf, hq⟩
    · left
      refine ⟨_, hf, ⟨k + 1, ?_, by omega, hI'⟩, ?_⟩
      · simp only; rw [w64_in (by omega) (by omega)]; omega
      · simp only; rw [w64_in (by omega) (by omega)]; omega
    · exact .inr ⟨t, hf, hq⟩
  · obtain rfl : k = n := by omega
    exact .inr (he a hI)

/-- a counting loop, nothing carried -/
theorem loop_cnt {T : Type} {f : Int → Option (Int ⊕ T)} (n : Nat) (hn : n ≤ 9223372036854775807) (I : Nat → Prop) (Q : T → Prop)
    (h : ∀ k, k < n → I k → (f (k : Int) = some (.inl (w64 ((k : Int) + 1))) ∧ I (k + 1)) ∨ (∃ t, f (k : Int) = some (.inr t) ∧ Q t))
    (he : I n → ∃ t, f (n : Int) = some (.inr t) ∧ Q t) (h0 : I 0) : ∃ t, loop f 0 = some t ∧ Q t := by
  refine loop_inv (fun s => ∃ k : Nat, s = (k : Int) ∧ k ≤ n ∧ I k) (fun s => n - s.toNat) Q ?_ 0 ⟨0, rfl, by omega, h0⟩
  rintro i ⟨k, rfl, hkn, hI⟩
  by_cases hlt : k < n
  · rcases h k hlt hI with ⟨hf, hI'⟩ | ⟨t, hf, hq⟩
    · left
      refine ⟨_, hf, ⟨k + 1, ?_, by omega, hI'⟩, ?_⟩
      · rw [w64_in (by omega) (by omega)]; omega
      · rw [w64_in (by omega) (by omega)]; omega
    · exact .inr ⟨t, hf, hq⟩
  · obtain rfl : k = n := by omega
    exact .inr (he hI)

theorem ix_get {S : Type} {xs : List S} {k : Nat} {x : S} (h : xs[k]? = some x) : ix xs (k : Int) = some x := by
  unfold ix
  rw [if_pos (by omega)]
  simpa using h
theorem ix_lt {S : Type} {xs : List S} {k : Nat} (h : k < xs.length) : ix xs (k : Int) = some xs[k] := ix_get (List.getElem?_eq_getElem h)

/-- whether all of a row are so -/
theorem loop_all {S : Type} {f : Int → Option (Int ⊕ (Bool ⊕ Unit))} (xs : List S) (p : S → Bool) (hn : xs.length ≤ 9223372036854775807)
    (hf : ∀ (k : Nat) (hk : k < xs.length), f (k : Int) = some (if p xs[k] = true then .inl (w64 ((k : Int) + 1)) else .inr (.inl false)))
    (he : f (xs.length : Int) = some (.inr (.inr ()))) :
    loop f 0 = some (if xs.all p = true then .inr () else .inl false) := by
  obtain ⟨t, ht, rfl⟩ := loop_cnt (f := f) xs.length hn (fun k => ∀ i (h : i < xs.length), i < k → p xs[i] = true) (fun t => t = if xs.all p = true then .inr () else .inl false)
    (fun k hk hi => by
      rw [hf k hk]
      by_cases h : p xs[k] = true
      · left
        rw [if_pos h]
        refine ⟨rfl, fun i hl hik => ?_⟩
        by_cases hik' : i = k
        · subst hik'; exact h
        · exact hi i hl (by omega)
      · right
        rw [if_neg h]
        refine ⟨_, rfl, ?_⟩
        rw [if_neg]
        intro ha
        exact h (List.all_eq_true.1 ha _ (List.getElem_mem hk)))
    (fun hi => ⟨_, he, by
      rw [if_pos]
      refine List.all_eq_true.2 fun x hx => ?_
      obtain ⟨i, h, rfl⟩ := List.mem_iff_getElem.1 hx
      exact hi i h h⟩)
    (fun i _ h => absurd h (by omega))
  exact ht

/-- the first place where it holds -/
theorem loop_find {S : Type} {f : Int → Option (Int ⊕ (Int ⊕ Unit))} (xs : List S) (p : S → Bool) (hn : xs.length ≤ 9223372036854775807)
    (hf : ∀ (k : Nat) (hk : k < xs.length), f (k : Int) = some (if p xs[k] = true then .inr (.inl (k : Int)) else .inl (w64 ((k : Int) + 1))))
    (he : f (xs.length : Int) = some (.inr (.inr ()))) :
    ∃ t, loop f 0 = some t ∧ ((xs.any p = true ∧ ∃ k : Nat, t = .inl (k : Int) ∧ ∃ h : k < xs.length, p xs[k] = true ∧ ∀ i (h : i < xs.length), i < k → p xs[i] = false) ∨ (xs.any p = false ∧ t = .inr ())) := by
  refine loop_cnt (f := f) xs.length hn (fun k => ∀ i (h : i < xs.length), i < k → p xs[i] = false) _ (fun k hk hi => ?_) (fun hi => ⟨_, he, .inr ⟨?_, rfl⟩⟩) (fun i _ h => absurd h (by omega))
  · rw [hf k hk]
    by_cases h : p xs[k] = true
    · right
      rw [if_pos h]
      exact ⟨_, rfl, .inl ⟨List.any_eq_true.2 ⟨_, List.getElem_mem hk, h⟩, k, rfl, hk, h, hi⟩⟩
    · left
      rw [if_neg h]
      refine ⟨rfl, fun i hl hik => ?_⟩
      by_cases hik' : i = k
      · subst hik'; simpa using h
      · exact hi i hl (by omega)
  · rw [List.any_eq_false]
    intro x hx
    obtain ⟨i, h, rfl⟩ := List.mem_iff_getElem.1 hx
    simp [hi i h h]

def iter {A : Type} (f : A → A) : Nat → A → A
  | 0, a => a
  | n + 1, a => f (iter f n a)

/-- a loop that appends to a list, round by round -/
theorem loop_app {S : Type} {f : List S × Int → Option ((List S × Int) ⊕ List S)} (n m : Nat) (hn : n ≤ 9223372036854775807) (h : Nat → List S) (xs0 : List S) (hm : ∀ k, k < n → (h k).length ≤ m)
    (hf : ∀ xs k, k < n → xs.length ≤ xs0.length + n * m → f (xs, (k : Int)) = some (.inl (xs ++ h k, w64 ((k : Int) + 1)))) (he : ∀ xs, f (xs, (n : Int)) = some (.inr xs)) :
    loop f (xs0, 0) = some (xs0 ++ (List.range n).flatMap h) := by
  have hlen : ∀ k, k ≤ n → ((List.range k).flatMap h).length ≤ k * m := by
    intro k
    induction k with
    | zero => intro _; simp
    | succ k ih =>
      intro hk
      rw [List.range_succ, List.flatMap_append, List.length_append, Nat.succ_mul]
      have := ih (by omega)
      have := hm k (by omega)
      simp only [List.flatMap_cons, List.flatMap_nil, List.append_nil]
      omega
  obtain ⟨t, ht, rfl⟩ := loop_for (f := f) n hn (fun k xs => xs = xs0 ++ (List.range k).flatMap h) (fun t => t = xs0 ++ (List.range n).flatMap h)
    (fun k xs hk hx => .inl ⟨_, by
      have h1 := hlen k (by omega)
      have h2 : k * m ≤ n * m := Nat.mul_le_mul_right _ (by omega)
      rw [hf xs k hk (by rw [hx, List.length_append]; omega)], by
      rw [hx, List.range_succ, List.flatMap_append, List.append_assoc]; simp⟩)
    (fun xs hx => ⟨_, he xs, hx⟩) xs0 (by simp)
  exact ht
theorem app_len {S : Type} (n m : Nat) (h : Nat → List S) (hm : ∀ k, k < n → (h k).length ≤ m) : ((List.range n).flatMap h).length ≤ n * m := by
  induction n with
  | zero => simp
  | succ k ih =>
    rw [List.range_succ, List.flatMap_append, List.length_append, Nat.succ_mul]
    have := ih (fun i hi => hm i (by omega))
    have := hm k (by omega)
    simp only [List.flatMap_cons, List.flatMap_nil, List.append_nil]
    omega

/-! arrays -/
def Arr.at {n : Nat} {S : Type} (a : Arr n S) (k : Nat) (h : k < n) : S := a.1[k]'(by rw [a.2]; exact h)
theorem ix_arr_lt {n : Nat} {S : Type} {a : Arr n S} {k : Nat} (h : k < n) : ix a.1 (k : Int) = some (a.at k h) := ix_lt (by rw [a.2]; exact h)
theorem Arr.ext {n : Nat} {S : Type} {a b : Arr n S} (h : ∀ (k : Nat) (hk : k < n), a.at k hk = b.at k hk) : a = b := by
  apply Subtype.ext
  apply List.ext_getElem (by rw [a.2, b.2])
  intro i h1 h2
  exact h i (by rw [← a.2]; exact h1)
theorem Arr.at_set {n : Nat} {S : Type} (a : Arr n S) (j k : Nat) (y : S) (h : k < n) : (a.set (j : Int) y).at k h = if j = k then y else a.at k h := by
  simp only [Arr.at, Arr.set, Int.toNat_natCast]
  rw [List.getElem_set]
theorem Arr.at_rep {n : Nat} {S : Type} (z : S) (k : Nat) (h : k < n) : (Arr.rep n z).at k h = z := by simp [Arr.at, Arr.rep]
/-! ### counting loops with something carried along: what they come to -/
/-! ### numbers without a sign, as naturals -/
theorem wrap_u32 (n : Nat) (h : n < 4294967296) : IntKind.u32.wrap (n : Int) = (n : Int) := u32_in (by omega) (by omega)
theorem toNat_ofInt32 (n : Nat) (h : n < 4294967296) : (BitVec.ofInt 32 (n : Int)).toNat = n := by
  rw [BitVec.toNat_ofInt]; simp; omega
theorem bAnd32 (x y : Nat) (hx : x < 4294967296) (hy : y < 4294967296) : bAnd .u32 (x : Int) (y : Int) = ((x &&& y : Nat) : Int) := by
  show IntKind.u32.wrap (((BitVec.ofInt 32 (x : Int) &&& BitVec.ofInt 32 (y : Int)).toNat : Nat) : Int) = _
  rw [BitVec.toNat_and, toNat_ofInt32 x hx, toNat_ofInt32 y hy]
  exact wrap_u32 _ (Nat.lt_of_le_of_lt Nat.and_le_left hx)
theorem bOr32 (x y : Nat) (hx : x < 4294967296) (hy : y < 4294967296) : bOr .u32 (x : Int) (y : Int) = ((x ||| y : Nat) : Int) := by
  show IntKind.u32.wrap (((BitVec.ofInt 32 (x : Int) ||| BitVec.ofInt 32 (y : Int)).toNat : Nat) : Int) = _
  rw [BitVec.toNat_or, toNat_ofInt32 x hx, toNat_ofInt32 y hy]
  exact wrap_u32 _ (Nat.or_lt_two_pow (n := 32) hx hy)
/-- what x has and y has not -/
def ldif (x y : Nat) : Nat := x ^^^ (x &&& y)
theorem ldif_bit (x y i : Nat) : (ldif x y).testBit i = (x.testBit i && !(y.testBit i)) := by
  unfold ldif; rw [Nat.testBit_xor, Nat.testBit_and]; cases x.testBit i <;> cases y.testBit i <;> rfl
theorem ldif_le (x y : Nat) : ldif x y ≤ x := by
  apply Nat.le_of_testBit
  intro i h
  rw [ldif_bit] at h
  simp at h
  exact h.1
theorem bClr32 (x y : Nat) (hx : x < 4294967296) (hy : y < 4294967296) : bClr .u32 (x : Int) (y : Int) = ((ldif x y : Nat) : Int) := by
  show IntKind.u32.wrap (((BitVec.ofInt 32 (x : Int) &&& ~~~(BitVec.ofInt 32 (y : Int))).toNat : Nat) : Int) = _
  have : (BitVec.ofInt 32 (x : Int) &&& ~~~(BitVec.ofInt 32 (y : Int))).toNat = ldif x y := by
    apply Nat.eq_of_testBit_eq
    intro i
    rw [ldif_bit]
    by_cases hi : i < 32
    · rw [BitVec.testBit_toNat, BitVec.getLsbD_and, BitVec.getLsbD_not, ← BitVec.testBit_toNat, ← BitVec.testBit_toNat, toNat_ofInt32 x hx, toNat_ofInt32 y hy]
      simp [hi]
    · rw [BitVec.testBit_toNat, BitVec.getLsbD_of_ge _ _ (by omega)]
      have : x.testBit i = false := Nat.testBit_lt_two_pow (Nat.lt_of_lt_of_le hx (Nat.pow_le_pow_right (n := 2) (by omega) (by omega : 32 ≤ i)))
      simp [this]
  rw [this]
  exact wrap_u32 _ (Nat.lt_of_le_of_lt (ldif_le x y) hx)
theorem bShr_nat (k : IntKind) (x t : Nat) (ht : t ≤ k.bits) : bShr k (x : Int) (t : Int) = ((x >>> t : Nat) : Int) := by
  unfold bShr
  rw [Int.toNat_natCast, Nat.min_eq_left ht, Nat.shiftRight_eq_div_pow]
  rw [show ((2 : Int) ^ t) = ((2 ^ t : Nat) : Int) by simp]
  rw [Int.fdiv_eq_ediv_of_nonneg _ (Int.natCast_nonneg _)]
  simp
theorem bShl32_one (t : Nat) (ht : t < 32) : bShl .u32 1 (t : Int) = ((2 ^ t : Nat) : Int) := by
  unfold bShl
  rw [Int.toNat_natCast, Nat.min_eq_left (by simp [IntKind.bits]; omega)]
  have h : (2 : Nat) ^ t < 4294967296 := Nat.pow_lt_pow_right (a := 2) (by omega) (by omega : t < 32)
  have := wrap_u32 (2 ^ t) h
  rw [Int.one_mul, show ((2 : Int) ^ t) = ((2 ^ t : Nat) : Int) by simp]
  exact this
theorem bit_and (x t : Nat) : ((x >>> t) &&& 1) = 1 ↔ x.testBit t = true := by
  rw [Nat.and_one_is_mod, Nat.testBit_eq_decide_div_mod_eq, Nat.shiftRight_eq_div_pow]; simp
theorem bit_mod (x t : Nat) : ((x >>> t) % 2) = 1 ↔ x.testBit t = true := by
  rw [Nat.testBit_eq_decide_div_mod_eq, Nat.shiftRight_eq_div_pow]; simp
theorem tmod_nat (x y : Nat) : Int.tmod (x : Int) (y : Int) = ((x % y : Nat) : Int) := by
  rw [Int.tmod_eq_emod_of_nonneg (by omega)]; simp
/-! ### a loop whose states are told one by one -/
theorem loop_seq {S T : Type} {f : S → Option (S ⊕ T)} (n : Nat) (st : Nat → S) (t : T) (h : ∀ k, k < n → f (st k) = some (.inl (st (k + 1)))) (he : f (st n) = some (.inr t)) : loop f (st 0) = some t := by
  have key : ∀ j, j ≤ n → loop f (st (n - j)) = some t := by
    intro j
    induction j with
    | zero => intro _; rw [loop_eq, Nat.sub_zero, he]
    | succ j ih =>
      intro hj
      rw [loop_eq, h (n - (j + 1)) (by omega), show n - (j + 1) + 1 = n - j by omega]
      exact ih (by omega)
  have := key n (Nat.le_refl _)
  rwa [Nat.sub_self] at this
/-- the first round that ends a loop -/
theorem loop_upto {S T : Type} {f : S → Option (S ⊕ T)} (n : Nat) (st : Nat → S) (p : Nat → Option T) (hx : ∃ k, k ≤ n ∧ (p k).isSome = true)
    (h : ∀ k, k ≤ n → f (st k) = some (match p k with | some t => .inr t | none => .inl (st (k + 1)))) : ∃ k t, k ≤ n ∧ p k = some t ∧ (∀ i, i < k → p i = none) ∧ loop f (st 0) = some t := by
  obtain ⟨k0, hk0, hs⟩ := hx
  have : ∃ k t, k ≤ n ∧ p k = some t ∧ (∀ i, i < k → p i = none) := by
    clear h
    have key : ∀ m, m ≤ n → (∃ k t, k ≤ m ∧ p k = some t ∧ (∀ i, i < k → p i = none)) ∨ (∀ i, i ≤ m → p i = none) := by
      intro m
      induction m with
      | zero =>
        intro _
        cases hp : p 0 with
        | none => exact .inr fun i hi => (by omega : i = 0) ▸ hp
        | some t => left; exact ⟨0, t, by omega, hp, fun i hi => by omega⟩
      | succ m ih =>
        intro hm
        rcases ih (by omega) with ⟨k, t, h1, h2, h3⟩ | h1
        · left; exact ⟨k, t, by omega, h2, h3⟩
        · cases hp : p (m + 1) with
          | none =>
            right; intro i hi
            by_cases e : i = m + 1
            · subst e; exact hp
            · exact h1 i (by omega)
          | some t => left; exact ⟨m + 1, t, by omega, hp, fun i hi => h1 i (by omega)⟩
    rcases key n (Nat.le_refl _) with ⟨k, t, h1, h2, h3⟩ | h1
    · exact ⟨k, t, h1, h2, h3⟩
    · rw [h1 k0 hk0] at hs; simp at hs
  obtain ⟨k, t, h1, h2, h3⟩ := this
  refine ⟨k, t, h1, h2, h3, loop_seq k st t (fun i hi => ?_) ?_⟩
  · rw [h i (by omega), h3 i hi]
  · rw [h k h1, h2]
end Go.Proofs.YtolfkfjjifdmeaaGreatDoor.Eng
