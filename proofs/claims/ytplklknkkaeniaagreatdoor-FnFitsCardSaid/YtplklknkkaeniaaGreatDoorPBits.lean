/- How many bits a row of a drum has: the library's count by a table. -/
import Derived.Test.YtplklknkkaeniaaGreatDoorM2
import Derived.Test.YtplklknkkaeniaaGreatDoorM3
import Derived.Test.YtplklknkkaeniaaGreatDoorPFrame
import Derived.Test.YtplklknkkaeniaaGreatDoorPDrum
import Derived.Test.YtplklknkkaeniaaGreatDoorPure
namespace Go.Proofs.YtplklknkkaeniaaGreatDoor
open Eng
set_option linter.unusedVariables false
set_option linter.unusedSimpArgs false

/-- how many of the first numbers have a property -/
def cR (p : Nat → Bool) : Nat → Nat
  | 0 => 0
  | n + 1 => cR p n + (if p n = true then 1 else 0)
theorem cR_le (p : Nat → Bool) : ∀ n, cR p n ≤ n
  | 0 => Nat.le_refl _
  | n + 1 => by unfold cR; have := cR_le p n; split <;> omega
theorem cR_ext {p q : Nat → Bool} : ∀ n, (∀ i, i < n → p i = q i) → cR p n = cR q n
  | 0, _ => rfl
  | n + 1, h => by unfold cR; rw [cR_ext n (fun i hi => h i (by omega)), h n (by omega)]
theorem cR_add (p : Nat → Bool) (a : Nat) : ∀ b, cR p (a + b) = cR p a + cR (fun i => p (a + i)) b
  | 0 => rfl
  | b + 1 => by
    have h1 : cR p (a + (b + 1)) = cR p (a + b) + (if p (a + b) = true then 1 else 0) := rfl
    have h2 : cR (fun i => p (a + i)) (b + 1) = cR (fun i => p (a + i)) b + (if p (a + b) = true then 1 else 0) := rfl
    rw [h1, h2, cR_add p a b]; omega
theorem cR_none {p : Nat → Bool} : ∀ n, (∀ i, i < n → p i = false) → cR p n = 0
  | 0, _ => rfl
  | n + 1, h => by unfold cR; rw [cR_none n (fun i hi => h i (by omega)), h n (by omega)]; rfl
theorem cR_put {p : Nat → Bool} {t : Nat} (ht : p t = false) : ∀ n, t < n → cR (fun i => p i || decide (i = t)) n = cR p n + 1
  | 0, h => absurd h (by omega)
  | n + 1, h => by
    unfold cR
    by_cases e : n = t
    · subst e
      rw [cR_ext n (p := fun i => p i || decide (i = n)) (q := p) (fun i hi => by simp [show ¬ i = n by omega])]
      simp [ht]
    · rw [cR_put ht n (by omega)]
      have : (p n || decide (n = t)) = p n := by simp [e]
      simp only [this]
      omega
/-- the library's table of the bits of a byte -/
def pop8 : ByteArray := ByteArray.mk #[0, 1, 1, 2, 1, 2, 2, 3, 1, 2, 2, 3, 2, 3, 3, 4, 1, 2, 2, 3, 2, 3, 3, 4, 2, 3, 3, 4, 3, 4, 4, 5, 1, 2, 2, 3, 2, 3, 3, 4, 2, 3, 3, 4, 3, 4, 4, 5, 2, 3, 3, 4, 3, 4, 4, 5, 3, 4, 4, 5, 4, 5, 5, 6, 1, 2, 2, 3, 2, 3, 3, 4, 2, 3, 3, 4, 3, 4, 4, 5, 2, 3, 3, 4, 3, 4, 4, 5, 3, 4, 4, 5, 4, 5, 5, 6, 2, 3, 3, 4, 3, 4, 4, 5, 3, 4, 4, 5, 4, 5, 5, 6, 3, 4, 4, 5, 4, 5, 5, 6, 4, 5, 5, 6, 5, 6, 6, 7, 1, 2, 2, 3, 2, 3, 3, 4, 2, 3, 3, 4, 3, 4, 4, 5, 2, 3, 3, 4, 3, 4, 4, 5, 3, 4, 4, 5, 4, 5, 5, 6, 2, 3, 3, 4, 3, 4, 4, 5, 3, 4, 4, 5, 4, 5, 5, 6, 3, 4, 4, 5, 4, 5, 5, 6, 4, 5, 5, 6, 5, 6, 6, 7, 2, 3, 3, 4, 3, 4, 4, 5, 3, 4, 4, 5, 4, 5, 5, 6, 3, 4, 4, 5, 4, 5, 5, 6, 4, 5, 5, 6, 5, 6, 6, 7, 3, 4, 4, 5, 4, 5, 5, 6, 4, 5, 5, 6, 5, 6, 6, 7, 4, 5, 5, 6, 5, 6, 6, 7, 5, 6, 6, 7, 6, 7, 7, 8]
def chkPop : Bool := (List.range 256).all fun b => sIx pop8 (b : Int) == some ((cR (fun i => b.testBit i) 8 : Nat) : Int)
theorem chk_pop : chkPop = true := by decide +kernel
theorem pop_at {b : Nat} (h : b < 256) : sIx pop8 (b : Int) = some ((cR (fun i => b.testBit i) 8 : Nat) : Int) := by
  have := List.all_eq_true.1 chk_pop b (by simpa using h)
  simpa using this
theorem ones_eq (n : Int) : math_bits_OnesCount32 n = (sIx pop8 (bShr .u32 n 24)).bind fun x_1 => (sIx pop8 (bAnd .u32 (bShr .u32 n 16) 255)).bind fun x_2 => (sIx pop8 (bAnd .u32 (bShr .u32 n 8) 255)).bind fun x_3 => (sIx pop8 (bAnd .u32 n 255)).bind fun x_4 => some (w64 (u8 ((u8 ((u8 (x_1 + x_2)) + x_3)) + x_4))) := rfl
theorem bit255 {i : Nat} (h : i < 8) : (255 : Nat).testBit i = true := by
  match i, h with
  | 0, _ => rfl
  | 1, _ => rfl
  | 2, _ => rfl
  | 3, _ => rfl
  | 4, _ => rfl
  | 5, _ => rfl
  | 6, _ => rfl
  | 7, _ => rfl
theorem byte_bits (n k : Nat) : cR (fun i => ((n >>> k) &&& 255).testBit i) 8 = cR (fun i => n.testBit (k + i)) 8 :=
  cR_ext 8 fun i hi => by rw [Nat.testBit_and, bit255 hi, Bool.and_true, Nat.testBit_shiftRight]
theorem ones_is {n : Nat} (h : n < 4294967296) : math_bits_OnesCount32 (n : Int) = some ((cR (fun i => n.testBit i) 32 : Nat) : Int) := by
  have a8 : ∀ x : Nat, x &&& 255 < 256 := fun x => by have := Nat.and_le_right (n := x) (m := 255); omega
  have s : ∀ k : Nat, n >>> k < 4294967296 := fun k => Nat.lt_of_le_of_lt (by rw [Nat.shiftRight_eq_div_pow]; exact Nat.div_le_self _ _) h
  have e24 : n >>> 24 < 256 := by rw [Nat.shiftRight_eq_div_pow]; omega
  have e1 : (n >>> 24) &&& 255 = n >>> 24 := by
    have := Nat.and_two_pow_sub_one_of_lt_two_pow (n := 8) (x := n >>> 24) (by simpa using e24)
    simpa using this
  have b24 : bShr .u32 (n : Int) 24 = ((n >>> 24 : Nat) : Int) := bShr_nat .u32 n 24 (by decide)
  have b16 : bShr .u32 (n : Int) 16 = ((n >>> 16 : Nat) : Int) := bShr_nat .u32 n 16 (by decide)
  have b8 : bShr .u32 (n : Int) 8 = ((n >>> 8 : Nat) : Int) := bShr_nat .u32 n 8 (by decide)
  have d16 : bAnd .u32 (((n >>> 16 : Nat)) : Int) 255 = (((n >>> 16) &&& 255 : Nat) : Int) := bAnd32 _ 255 (s 16) (by decide)
  have d8 : bAnd .u32 (((n >>> 8 : Nat)) : Int) 255 = (((n >>> 8) &&& 255 : Nat) : Int) := bAnd32 _ 255 (s 8) (by decide)
  have d0 : bAnd .u32 (n : Int) 255 = ((n &&& 255 : Nat) : Int) := bAnd32 n 255 h (by decide)
  have q0 : cR (fun i => (n &&& 255).testBit i) 8 = cR (fun i => n.testBit i) 8 := cR_ext 8 fun i hi => by rw [Nat.testBit_and, bit255 hi, Bool.and_true]
  have q24 : cR (fun i => (n >>> 24).testBit i) 8 = cR (fun i => n.testBit (24 + i)) 8 := by rw [← byte_bits, e1]
  rw [ones_eq, b24, b16, b8, d16, d8, d0, pop_at e24, pop_at (a8 _), pop_at (a8 _), pop_at (a8 _)]
  simp only [Option.bind_some]
  rw [q24, byte_bits, byte_bits, q0]
  have l1 := cR_le (fun i => n.testBit (24 + i)) 8
  have l2 := cR_le (fun i => n.testBit (16 + i)) 8
  have l3 := cR_le (fun i => n.testBit (8 + i)) 8
  have l4 := cR_le (fun i => n.testBit i) 8
  have sp : cR (fun i => n.testBit i) 32 = cR (fun i => n.testBit i) 8 + cR (fun i => n.testBit (8 + i)) 8 + cR (fun i => n.testBit (16 + i)) 8 + cR (fun i => n.testBit (24 + i)) 8 := by
    rw [cR_add (fun i => n.testBit i) 24 8, cR_add (fun i => n.testBit i) 16 8, cR_add (fun i => n.testBit i) 8 8]
  rw [sp]
  clear sp q24 q0 d0 d8 d16 b8 b16 b24 e1 e24 s a8
  generalize cR (fun i => n.testBit (24 + i)) 8 = A at *
  generalize cR (fun i => n.testBit (16 + i)) 8 = B at *
  generalize cR (fun i => n.testBit (8 + i)) 8 = C at *
  generalize cR (fun i => n.testBit i) 8 = D at *
  rw [u8_in (n := (A : Int) + (B : Int)) (by omega) (by omega), u8_in (n := (A : Int) + (B : Int) + (C : Int)) (by omega) (by omega), u8_in (n := (A : Int) + (B : Int) + (C : Int) + (D : Int)) (by omega) (by omega), w64_in (by omega) (by omega)]
  congr 1
  omega
/-! ### all rows -/
def sR (g : Nat → Nat) : Nat → Nat
  | 0 => 0
  | n + 1 => sR g n + g n
theorem sR_le {g : Nat → Nat} {B : Nat} (h : ∀ i, g i ≤ B) : ∀ n, sR g n ≤ n * B
  | 0 => Nat.zero_le _
  | n + 1 => by unfold sR; have := sR_le h n; have := h n; rw [Nat.succ_mul]; omega
theorem sR_ext {g k : Nat → Nat} : ∀ n, (∀ i, i < n → g i = k i) → sR g n = sR k n
  | 0, _ => rfl
  | n + 1, h => by unfold sR; rw [sR_ext n (fun i hi => h i (by omega)), h n (by omega)]
theorem sR_one {g k : Nat → Nat} {s : Nat} (hs : k s = g s + 1) (ho : ∀ i, i ≠ s → k i = g i) : ∀ n, s < n → sR k n = sR g n + 1
  | 0, h => absurd h (by omega)
  | n + 1, h => by
    unfold sR
    by_cases e : n = s
    · subst e
      rw [sR_ext n (fun i hi => ho i (by omega)), hs]; omega
    · rw [sR_one hs ho n (by omega), ho n e]; omega
/-- how many pins a drum has -/
def cntD (d : Arr 96 Int) : Nat := sR (fun s => cR (fun t => pin d s t) 32) 96
theorem count_is {d : Arr 96 Int} (hd : DIn d) : impl_Drum_count d = some ((cntD d : Nat) : Int) := by
  have hb : ∀ n, n ≤ 96 → sR (fun s => cR (fun t => pin d s t) 32) n ≤ 96 * 32 := fun n hn => Nat.le_trans (sR_le (B := 32) (fun i => cR_le _ 32) n) (Nat.mul_le_mul_right _ hn)
  have := loop_seq (f := impl_Drum_count.l_5 d) 96 (fun k => ((sR (fun s => cR (fun t => pin d s t) 32) k : Nat), (k : Int))) ((cntD d : Nat) : Int) (fun k hk => by
    have h1 := hb k (by omega)
    have h2 := cR_le (fun t => pin d k t) 32
    simp only [impl_Drum_count.l_5, ix_row hd hk, Option.bind_some, impl_countBits, ones_is (row_lt hd k)]
    rw [if_pos (by rw [decide_eq_true_eq]; omega)]
    show some (Sum.inl (w64 (_ + ((cR (fun t => pin d k t) 32 : Nat) : Int)), w64 ((k : Int) + 1))) = _
    rw [w64_in (n := (k : Int) + 1) (by omega) (by omega), w64_in (by omega) (by omega)]
    simp [sR]) (by simp [impl_Drum_count.l_5, cntD])
  have h0 : loop (impl_Drum_count.l_5 d) (0, 0) = some ((cntD d : Nat) : Int) := this
  simp only [impl_Drum_count, h0]
  rfl

end Go.Proofs.YtplklknkkaeniaaGreatDoor
