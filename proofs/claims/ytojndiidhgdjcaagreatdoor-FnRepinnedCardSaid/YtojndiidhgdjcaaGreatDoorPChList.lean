/- The changes that lead from a drum to another one: the program's list and the reference's. -/
import Derived.Test.YtojndiidhgdjcaaGreatDoorM1
import Derived.Test.YtojndiidhgdjcaaGreatDoorPFrame
import Derived.Test.YtojndiidhgdjcaaGreatDoorPDrum
import Derived.Test.YtojndiidhgdjcaaGreatDoorPCodes
import Derived.Test.YtojndiidhgdjcaaGreatDoorPPut
import Derived.Test.YtojndiidhgdjcaaGreatDoorPBits
import Derived.Test.YtojndiidhgdjcaaGreatDoorPCost
import Derived.Test.YtojndiidhgdjcaaGreatDoorPure
namespace Go.Proofs.YtojndiidhgdjcaaGreatDoor
open Eng
set_option linter.unusedVariables false
set_option linter.unusedSimpArgs false

structure VD (f : GFrame) (d : Arr 96 Int) : Prop where
  din : DIn d
  in_ : ∀ s t, pin d s t = true → (s : Int) < f.fSteps ∧ t < f.fHammers.length
/-! ### the program's -/
def pA (s t : Nat) : Arr 2 Int := Arr.set (Arr.set (Arr.rep 2 0) 0 (s : Int)) 1 (t : Int)
theorem pA_at (s t : Nat) : ix (pA s t).1 0 = some (s : Int) ∧ ix (pA s t).1 1 = some (t : Int) := ⟨rfl, rfl⟩
def pr1 (d : Arr 96 Int) (s t : Nat) : List (Arr 2 Int) := if pin d s t = true then [pA s t] else []
theorem pr1_len (d : Arr 96 Int) (s t : Nat) : (pr1 d s t).length ≤ 1 := by unfold pr1; split <;> simp
def prRow (n : Nat) (d : Arr 96 Int) (s : Nat) : List (Arr 2 Int) := (List.range n).flatMap (pr1 d s)
theorem prRow_len (n : Nat) (d : Arr 96 Int) (s : Nat) : (prRow n d s).length ≤ n * 1 := app_len _ _ _ fun k _ => pr1_len d s k
def prL (f : GFrame) (d : Arr 96 Int) : List (Arr 2 Int) := (List.range f.fSteps.toNat).flatMap (prRow f.fHammers.length d)
theorem prL_len {f : GFrame} (hf : FOk f) (d : Arr 96 Int) : (prL f d).length ≤ 2304 := by
  have h1 := hf.h1; have h2 := hf.s1; have h3 := hf.s0
  have := app_len f.fSteps.toNat 24 (prRow f.fHammers.length d) (fun k _ => by have := prRow_len f.fHammers.length d k; omega)
  unfold prL
  omega
theorem listedIn {f : GFrame} (hf : FOk f) {d : Arr 96 Int} (hd : DIn d) (s : Nat) (hs : (s : Int) < f.fSteps) (xs : List (Arr 2 Int)) (hx : xs.length ≤ 4000) :
    loop (impl_Frame_pins_at_impl_Frame_listed_1.l_12 d (s : Int) (f.fHammers.length : Int)) (xs, 0) = some (xs ++ prRow f.fHammers.length d s) := by
  have h1 := hf.h1; have h2 := hf.s1; have h3 := hf.s0
  refine loop_app f.fHammers.length 1 (by omega) (pr1 d s) xs (fun k _ => pr1_len d s k) (fun ys k hk hy => ?_) (fun ys => by simp [impl_Frame_pins_at_impl_Frame_listed_1.l_12])
  simp only [impl_Frame_pins_at_impl_Frame_listed_1.l_12, has_is hd (show s < 96 by omega) (t := k) (by omega), Option.bind_some]
  rw [if_pos (by simpa using hk)]
  unfold pr1
  cases c : pin d s k with
  | true =>
    simp only [if_true, impl_Frame_listed_1]
    rw [if_pos (by simp only [List.length_cons, List.length_nil]; omega)]
    rfl
  | false => simp
theorem listed_is {f : GFrame} (hf : FOk f) {d : Arr 96 Int} (hd : DIn d) : impl_Frame_listed f d = some (prL f d) := by
  have h1 := hf.h1; have h2 := hf.s1; have h3 := hf.s0
  have e : w64 f.fSteps = (f.fSteps.toNat : Int) := by rw [w64_in (by omega) (by omega)]; omega
  have := loop_app (f := impl_Frame_pins_at_impl_Frame_listed_1.l_5 f d) f.fSteps.toNat 24 (by omega) (prRow f.fHammers.length d) [] (fun k _ => by have := prRow_len f.fHammers.length d k; omega) (fun ys k hk hy => by
    simp only [List.length_nil] at hy
    simp only [impl_Frame_pins_at_impl_Frame_listed_1.l_5, size_is, Option.bind_some, listedIn hf hd k (by omega) ys (by omega), impl_Frame_pins_at_impl_Frame_listed_1.k_9]
    rw [if_pos (by rw [e, decide_eq_true_eq]; omega)]) (fun ys => by simp [impl_Frame_pins_at_impl_Frame_listed_1.l_5, e])
  simp only [impl_Frame_listed, impl_Frame_pins_at_impl_Frame_listed_1, this, Option.bind_some, impl_Frame_pins_at_impl_Frame_listed_1.k_2, List.nil_append]
  rfl
/-! ### two rows joined -/
theorem concat2 (a b : List (Arr 2 Int)) (ha : a.length ≤ 4000) (hb : b.length ≤ 4000) : slices_Concat_2int64 [a, b] = some (a ++ b) := by
  have e0 : ix [a, b] (0 : Int) = some a := rfl
  have e1 : ix [a, b] (1 : Int) = some b := rfl
  have l13 : loop (slices_Concat_2int64.l_13 [a, b]) (0, 0) = some ((a.length + b.length : Nat) : Int) := by
    rw [loop_eq]
    rw [show slices_Concat_2int64.l_13 [a, b] (0, 0) = some (.inl ((a.length : Int), 1)) by
      simp only [slices_Concat_2int64.l_13, e0, Option.bind_some]
      rw [if_pos (by simp), if_neg (by rw [decide_eq_true_eq, w64_in (by omega) (by omega)]; omega), w64_in (n := 0 + (a.length : Int)) (by omega) (by omega)]
      simp [w64_in]]
    simp only
    rw [loop_eq]
    rw [show slices_Concat_2int64.l_13 [a, b] ((a.length : Int), 1) = some (.inl (((a.length + b.length : Nat) : Int), 2)) by
      simp only [slices_Concat_2int64.l_13, e1, Option.bind_some]
      rw [if_pos (by simp), if_neg (by rw [decide_eq_true_eq, w64_in (by omega) (by omega)]; omega), w64_in (n := (a.length : Int) + (b.length : Int)) (by omega) (by omega)]
      simp [w64_in]]
    simp only
    rw [loop_eq]
    rw [show slices_Concat_2int64.l_13 [a, b] (((a.length + b.length : Nat) : Int), 2) = some (.inr ((a.length + b.length : Nat) : Int)) by
      simp only [slices_Concat_2int64.l_13]
      rw [if_neg (by simp)]]
  have l8 : loop (slices_Concat_2int64.l_8 [a, b]) ([], 0) = some (a ++ b) := by
    rw [loop_eq]
    rw [show slices_Concat_2int64.l_8 [a, b] ([], 0) = some (.inl (a, 1)) by
      simp only [slices_Concat_2int64.l_8, e0, Option.bind_some]
      rw [if_pos (by simp), if_pos (by simp; omega)]
      simp [w64_in]]
    simp only
    rw [loop_eq]
    rw [show slices_Concat_2int64.l_8 [a, b] (a, 1) = some (.inl (a ++ b, 2)) by
      simp only [slices_Concat_2int64.l_8, e1, Option.bind_some]
      rw [if_pos (by simp), if_pos (by omega)]
      simp [w64_in]]
    simp only
    rw [loop_eq]
    rw [show slices_Concat_2int64.l_8 [a, b] (a ++ b, 2) = some (.inr (a ++ b)) by
      simp only [slices_Concat_2int64.l_8]
      rw [if_neg (by simp)]]
  simp only [slices_Concat_2int64, l13, Option.bind_some, slices_Concat_2int64.k_2, growF]
  rw [if_pos (by omega)]
  simp only [Option.bind_some, l8, slices_Concat_2int64.k_5]
theorem range_trim {S : Type} (g : Nat → List S) {m n : Nat} (h : n ≤ m) (hg : ∀ i, n ≤ i → i < m → g i = []) : (List.range m).flatMap g = (List.range n).flatMap g := by
  obtain ⟨k, rfl⟩ : ∃ k, m = n + k := ⟨m - n, by omega⟩
  induction k with
  | zero => rfl
  | succ k ih =>
    rw [show n + (k + 1) = (n + k) + 1 by omega, List.range_succ, List.flatMap_append, ih (by omega) (fun i h1 h2 => hg i h1 (by omega))]
    simp [hg (n + k) (by omega) (by omega)]
theorem flatMap_ext {S : Type} {g k : Nat → List S} {n : Nat} (h : ∀ i, i < n → g i = k i) : (List.range n).flatMap g = (List.range n).flatMap k := by
  induction n with
  | zero => rfl
  | succ n ih => rw [List.range_succ, List.flatMap_append, List.flatMap_append, ih (fun i hi => h i (by omega))]; simp [h n (by omega)]
/-! ### how many -/
theorem len_flatMap {S : Type} (g : Nat → List S) : ∀ n, ((List.range n).flatMap g).length = sR (fun i => (g i).length) n
  | 0 => rfl
  | n + 1 => by rw [List.range_succ, List.flatMap_append, List.length_append, len_flatMap g n]; simp [sR]
theorem sR_ones (p : Nat → Bool) : ∀ n, sR (fun i => if p i = true then 1 else 0) n = cR p n
  | 0 => rfl
  | n + 1 => by simp only [sR, cR, sR_ones p n]
end Go.Proofs.YtojndiidhgdjcaaGreatDoor
