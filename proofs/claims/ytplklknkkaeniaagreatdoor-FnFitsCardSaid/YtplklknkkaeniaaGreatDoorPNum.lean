/- Numbers read from texts, the program's way and the reference's. -/
import Derived.Test.YtplklknkkaeniaaGreatDoorM0
import Derived.Test.YtplklknkkaeniaaGreatDoorPFrame
import Derived.Test.YtplklknkkaeniaaGreatDoorPTxt
import Derived.Test.YtplklknkkaeniaaGreatDoorPure
namespace Go.Proofs.YtplklknkkaeniaaGreatDoor
open Eng
set_option linter.unusedVariables false
set_option linter.unusedSimpArgs false

def dv (a : Nat) (b : UInt8) : Nat := 10 * a + (b.toNat - 48)
def val (l : List UInt8) : Nat := l.foldl dv 0
def digB (b : UInt8) : Prop := 48 ≤ b.toNat ∧ b.toNat ≤ 57
instance digB_dec (b : UInt8) : Decidable (digB b) := by unfold digB; exact inferInstance
theorem val_snoc (l : List UInt8) (b : UInt8) : val (l ++ [b]) = 10 * val l + (b.toNat - 48) := by unfold val; rw [List.foldl_append]; rfl
theorem byte_is {d : Nat} (h : d < 10) : (UInt8.ofNat (48 + d)).toNat = 48 + d := by
  rw [UInt8.toNat_ofNat']; omega
theorem dd_step {n : Nat} (h : ¬ n < 10) : Lib.decDigits n = Lib.decDigits (n / 10) ++ [UInt8.ofNat (48 + n % 10)] := by rw [Lib.decDigits, dif_neg h]
theorem dd_small {n : Nat} (h : n < 10) : Lib.decDigits n = [UInt8.ofNat (48 + n)] := by rw [Lib.decDigits, dif_pos h]
theorem val_dd (n : Nat) : val (Lib.decDigits n) = n := by
  induction n using Nat.strongRecOn with
  | _ n ih =>
    by_cases h : n < 10
    · rw [dd_small h]
      show val ([] ++ [_]) = n
      rw [val_snoc, byte_is h]
      show 10 * 0 + _ = n
      omega
    · rw [dd_step h, val_snoc, ih (n / 10) (by omega), byte_is (Nat.mod_lt _ (by omega))]
      omega
theorem dd_dig (n : Nat) : ∀ b ∈ Lib.decDigits n, digB b := by
  induction n using Nat.strongRecOn with
  | _ n ih =>
    intro b hb
    by_cases h : n < 10
    · rw [dd_small h, List.mem_singleton] at hb
      subst hb
      unfold digB; rw [byte_is h]; omega
    · rw [dd_step h, List.mem_append, List.mem_singleton] at hb
      rcases hb with hb | rfl
      · exact ih (n / 10) (by omega) b hb
      · have := Nat.mod_lt n (show 0 < 10 by omega)
        unfold digB; rw [byte_is this]; omega
theorem dd_ne (n : Nat) : Lib.decDigits n ≠ [] := by
  by_cases h : n < 10
  · rw [dd_small h]; simp
  · rw [dd_step h]; simp
theorem dd_head (n : Nat) : ∀ r, Lib.decDigits n = 48 :: r → r = [] := by
  induction n using Nat.strongRecOn with
  | _ n ih =>
    intro r hr
    by_cases h : n < 10
    · rw [dd_small h] at hr
      have := congrArg List.length hr
      simp at this
      exact this.symm ▸ rfl
    · rw [dd_step h] at hr
      cases hd : Lib.decDigits (n / 10) with
      | nil => exact absurd hd (dd_ne _)
      | cons c t =>
        rw [hd] at hr
        rw [List.cons_append, List.cons.injEq] at hr
        obtain ⟨rfl, _⟩ := hr
        have ht := ih (n / 10) (by omega) t hd
        subst ht
        have hv := val_dd (n / 10)
        rw [hd] at hv
        have : val [48] = 0 := rfl
        omega
/-- a row of digits that begins with no needless 0 is its number's text -/
theorem canon : ∀ (k : Nat) (l : List UInt8), l.length = k → l ≠ [] → (∀ b ∈ l, digB b) → (∀ r, l = 48 :: r → r = []) → l = Lib.decDigits (val l) := by
  intro k
  induction k with
  | zero => intro l hl hne; exact absurd (List.length_eq_zero_iff.1 hl) hne
  | succ k ih =>
    intro l hl hne hd hh
    obtain ⟨w, b, rfl⟩ : ∃ w b, l = w ++ [b] := ⟨l.dropLast, l.getLast hne, (List.dropLast_concat_getLast hne).symm⟩
    have hb : digB b := hd b (by simp)
    have eb : UInt8.ofNat (48 + (b.toNat - 48)) = b := by
      have := hb.1
      rw [show 48 + (b.toNat - 48) = b.toNat by omega]
      exact UInt8.ofNat_toNat
    have hb2 := hb.2
    rw [val_snoc]
    by_cases hw : w = []
    · subst hw
      have : val [] = 0 := rfl
      rw [this, dd_small (by omega), show 48 + (10 * 0 + (b.toNat - 48)) = 48 + (b.toNat - 48) by omega, eb]
      rfl
    · have hl2 : w.length = k := by simpa using hl
      have e := ih w hl2 hw (fun c hc => hd c (by simp [hc])) (fun r hr => by
        have := hh (r ++ [b]) (by rw [hr]; rfl)
        simp at this)
      have hpos : 0 < val w := by
        rcases Nat.eq_zero_or_pos (val w) with h0 | h0
        · exfalso
          rw [h0, dd_small (by omega)] at e
          have := hh [b] (by rw [e]; rfl)
          simp at this
        · exact h0
      rw [dd_step (by omega), show (10 * val w + (b.toNat - 48)) / 10 = val w by omega, show (10 * val w + (b.toNat - 48)) % 10 = b.toNat - 48 by omega, eb, ← e]
theorem val_lt : ∀ (k : Nat) (l : List UInt8), l.length = k → (∀ b ∈ l, digB b) → val l < 10 ^ k := by
  intro k
  induction k with
  | zero => intro l hl _; rw [List.length_eq_zero_iff.1 hl]; decide
  | succ k ih =>
    intro l hl hd
    have hne : l ≠ [] := by rintro rfl; simp at hl
    obtain ⟨w, b, rfl⟩ : ∃ w b, l = w ++ [b] := ⟨l.dropLast, l.getLast hne, (List.dropLast_concat_getLast hne).symm⟩
    have hb : digB b := hd b (by simp)
    have := ih w (by simpa using hl) (fun c hc => hd c (by simp [hc]))
    have hb2 := hb.2
    rw [val_snoc, Nat.pow_succ]
    omega
/-! ### the program's -/
theorem foldl_ge : ∀ (l : List UInt8) (a : Nat), a ≤ l.foldl dv a := by
  intro l
  induction l with
  | nil => intro a; exact Nat.le_refl _
  | cons b l ih =>
    intro a
    have := ih (dv a b)
    unfold dv at this ⊢
    simp only [List.foldl_cons]
    omega
theorem parseM_is (M : Nat) (hM : 1000000000 ≤ M) : ∀ (l : List UInt8) (a : Nat), (∀ b ∈ l, digB b) → l.foldl dv a ≤ 1000000000 → Lib.parseUintM M a l = .ok (l.foldl dv a) := by
  intro l
  induction l with
  | nil => intro a _ _; rfl
  | cons b l ih =>
    intro a hd hf
    have hb := hd b (by simp)
    have hge := foldl_ge l (dv a b)
    rw [List.foldl_cons] at hf ⊢
    have hdv : dv a b ≤ 1000000000 := by omega
    have e : a * 10 + (b.toNat - 48) = dv a b := by unfold dv; omega
    unfold Lib.parseUintM
    rw [if_pos (show 48 ≤ b.toNat ∧ b.toNat ≤ 57 from hb), if_neg (by unfold dv at hdv; omega), e, if_neg (by omega)]
    exact ih (dv a b) (fun c hc => hd c (by simp [hc])) hf
theorem parse_dd {n : Nat} (h : n ≤ 1000000000) : Lib.parseIntB 64 (Lib.decDigits n) = .ok (n : Int) := by
  have hp := parseM_is (2 ^ 64 - 1) (by decide) (Lib.decDigits n) 0 (dd_dig n) (by show val (Lib.decDigits n) ≤ _; rw [val_dd]; exact h)
  rw [show (Lib.decDigits n).foldl dv 0 = n from val_dd n] at hp
  cases hd : Lib.decDigits n with
  | nil => exact absurd hd (dd_ne n)
  | cons c r =>
    have hc := dd_dig n c (by rw [hd]; simp)
    rw [hd] at hp
    unfold Lib.parseIntB
    simp only
    rw [if_neg (by have := hc.1; have := hc.2; omega)]
    unfold Lib.parseUintB
    rw [if_neg (by simp), hp]
    simp only
    rw [if_neg (by have : (2 : Nat) ^ (64 - 1) = 9223372036854775808 := by decide
                   omega), if_neg (by have := hc.1; omega), if_neg (by have := hc.1; omega)]
theorem implNumber_is {most : Int} (l : List UInt8) (hlen : l.length ≤ 1048576) (hm : 0 ≤ most ∧ most ≤ 1000000000) : impl_number (tb l) most = some (if l = Lib.decDigits (val l) ∧ (val l : Int) ≤ most then ((val l : Int), true) else (0, false)) := by
  simp only [impl_number, strconv_ParseInt, parseF, tb_size, tb_data]
  rw [if_pos ⟨trivial, trivial, by omega⟩]
  by_cases hc : l = Lib.decDigits (val l) ∧ (val l : Int) ≤ most
  · rw [if_pos hc]
    have hp := parse_dd (n := val l) (by omega)
    rw [← hc.1] at hp
    simp only [hp, Option.bind_some, Bool.false_eq_true, if_false, implDecimal_is (n := (val l : Int)) (by omega) (by omega), tb_list, Lib.itoa_nonneg, impl_within, impl_number.k_3]
    rw [← hc.1]
    simp
    omega
  · rw [if_neg hc]
    cases hp : Lib.parseIntB 64 l with
    | range => simp [impl_number.k_3]
    | ok v =>
      have hb := Lib.parseIntB_bounds hp
      have h63 : (2 : Nat) ^ (64 - 1) = 9223372036854775808 := by decide
      rw [h63] at hb
      simp only [Option.bind_some, Bool.false_eq_true, if_false, implDecimal_is (n := v) (by omega) (by omega), tb_list, impl_within, impl_number.k_3]
      by_cases h1 : Lib.itoa v = l
      · rw [if_neg (by simp [h1])]
        by_cases h2 : 0 ≤ v ∧ v ≤ most
        · exfalso
          obtain ⟨u, rfl⟩ : ∃ u : Nat, v = (u : Int) := ⟨v.toNat, by omega⟩
          rw [Lib.itoa_nonneg] at h1
          have hv : val l = u := by rw [← h1]; exact val_dd u
          exact hc ⟨by rw [hv]; exact h1.symm, by omega⟩
        · rw [if_pos (by simp; omega)]
      · rw [if_pos (by simp [h1])]; rfl
    | _ => simp [impl_number.k_3]

end Go.Proofs.YtplklknkkaeniaaGreatDoor
