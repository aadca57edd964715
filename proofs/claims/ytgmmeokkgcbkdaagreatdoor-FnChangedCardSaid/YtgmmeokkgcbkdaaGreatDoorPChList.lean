/- The changes that lead from a drum to another one: the program's list and the reference's. -/
import Derived.Test.YtgmmeokkgcbkdaaGreatDoorM0
import Derived.Test.YtgmmeokkgcbkdaaGreatDoorPFrame
import Derived.Test.YtgmmeokkgcbkdaaGreatDoorPDrum
import Derived.Test.YtgmmeokkgcbkdaaGreatDoorPCodes
import Derived.Test.YtgmmeokkgcbkdaaGreatDoorPPut
import Derived.Test.YtgmmeokkgcbkdaaGreatDoorPBits
import Derived.Test.YtgmmeokkgcbkdaaGreatDoorPCost
import Derived.Test.YtgmmeokkgcbkdaaGreatDoorPure
namespace Go.Proofs.YtgmmeokkgcbkdaaGreatDoor
open Eng
set_option linter.unusedVariables false
set_option linter.unusedSimpArgs false

structure VD (f : GFrame) (d : Arr 96 Int) : Prop where
  din : DIn d
  in_ : ∀ s t, pin d s t = true → (s : Int) < f.fSteps ∧ t < f.fHammers.length
def ch1 (a b : Arr 96 Int) (put : Bool) (s t : Nat) : List GChange := if (pin b s t && !pin a s t) = true then [⟨(s : Int), (t : Int), put⟩] else []
theorem ch1_len (a b : Arr 96 Int) (put : Bool) (s t : Nat) : (ch1 a b put s t).length ≤ 1 := by unfold ch1; split <;> simp
def chRow (n : Nat) (a b : Arr 96 Int) (put : Bool) (s : Nat) : List GChange := (List.range n).flatMap (ch1 a b put s)
theorem chRow_len (n : Nat) (a b : Arr 96 Int) (put : Bool) (s : Nat) : (chRow n a b put s).length ≤ n * 1 := app_len _ _ _ fun k _ => ch1_len a b put s k
def chL (m n : Nat) (a b : Arr 96 Int) (put : Bool) : List GChange := (List.range m).flatMap (chRow n a b put)
theorem chL_len (m n : Nat) (a b : Arr 96 Int) (put : Bool) : (chL m n a b put).length ≤ m * n := app_len _ _ _ fun k _ => by have := chRow_len n a b put k; omega
/-! ### the reference's -/
theorem specRowC {a b : Arr 96 Int} (ha : DIn a) (hb : DIn b) (put : Bool) (s : Nat) (hs : s < 96) (xs : List GChange) (hx : xs.length ≤ 4000) :
    loop (spec_l05Changes.l_13 put (s : Int) (row' b s : Int) (row' a s : Int)) (xs, 0) = some (xs ++ chRow 24 a b put s) := by
  refine loop_app 24 1 (by omega) (ch1 a b put s) xs (fun k _ => ch1_len a b put s k) (fun ys k hk hy => ?_) (fun ys => by simp [spec_l05Changes.l_13])
  have hlt := ldif_lt (y := row' a s) (row_lt hb s)
  simp only [spec_l05Changes.l_13, bClr32 _ _ (row_lt hb s) (row_lt ha s)]
  rw [if_pos (by rw [decide_eq_true_eq]; omega), u64_in (by omega) (by omega), if_pos (by omega), bShr_nat .u32 _ _ (show k ≤ IntKind.u32.bits from show k ≤ 32 by omega), show (2 : Int) = ((2 : Nat) : Int) from rfl, tmod_nat]
  have e : (((((ldif (row' b s) (row' a s)) >>> k % 2 : Nat) : Int) == 1) = true) = ((pin b s k && !pin a s k) = true) := by
    have h1 := bit_mod (ldif (row' b s) (row' a s)) k
    rw [ldif_bit] at h1
    apply propext
    rw [show (pin b s k && !pin a s k) = ((row' b s).testBit k && !(row' a s).testBit k) from rfl, ← h1, beq_iff_eq]
    omega
  unfold ch1
  by_cases c : (pin b s k && !pin a s k) = true
  · rw [if_pos c, if_pos (by rw [e]; exact c), if_pos (by simp only [List.length_cons, List.length_nil]; omega), w16_in (by omega) (by omega), w8_in (by omega) (by omega)]
  · rw [if_neg c, if_neg (by rw [e]; exact c), List.append_nil]
theorem specChanges {a b : Arr 96 Int} (ha : DIn a) (hb : DIn b) (put : Bool) : spec_l05Changes a b put = some (chL 96 24 a b put) := by
  have := loop_app (f := spec_l05Changes.l_5 a b put) 96 24 (by omega) (chRow 24 a b put) [] (fun k _ => by have := chRow_len 24 a b put k; omega) (fun ys k hk hy => by
    simp only [List.length_nil] at hy
    simp only [spec_l05Changes.l_5, ix_row ha hk, ix_row hb hk, Option.bind_some, specRowC ha hb put k hk ys (by omega), spec_l05Changes.k_10]
    rw [if_pos (by rw [decide_eq_true_eq]; omega)]) (fun ys => by simp [spec_l05Changes.l_5])
  simp only [spec_l05Changes, this, Option.bind_some, spec_l05Changes.k_2, List.nil_append]
  rfl
/-! ### the program's -/
def pA (s t : Nat) : Arr 2 Int := Arr.set (Arr.set (Arr.rep 2 0) 0 (s : Int)) 1 (t : Int)
theorem pA_at (s t : Nat) : ix (pA s t).1 0 = some (s : Int) ∧ ix (pA s t).1 1 = some (t : Int) := ⟨rfl, rfl⟩
def pr1 (d : Arr 96 Int) (s t : Nat) : List (Arr 2 Int) := if pin d s t = true then [pA s t] else []
theorem pr1_len (d : Arr 96 Int) (s t : Nat) : (pr1 d s t).length ≤ 1 := by unfold pr1; split <;> simp
def prRow (n : Nat) (d : Arr 96 Int) (s : Nat) : List (Arr 2 Int) := (List.range n).flatMap (pr1 d s)
theorem prRow_len (n : Nat) (d : Arr 96 Int) (s : Nat) : (prRow n d s).length ≤ n * 1 := app_len _ _ _ fun k _ => pr1_len d s k
def prL (f : GFrame) (d : Arr 96 Int) : List (Arr 2 Int) := (List.range f.fSteps.toNat).flatMap (prRow f.fHammers.length d)
theorem prL_len {f : GFrame} (hf : FOk f) (d : Arr 96 Int) : (prL f d).length ≤ 2304 := by
  have h1 := hf.h1; have h2 := hf.s1; have h3 := hf.s0
  have := app_len f.fSteps.toNat 24 (prRow f.fHammers.length d) (fun k _ => by have := prRow_len f.fHammers.length d k; omega)
  unfold prL
  omega
theorem listedIn {f : GFrame} (hf : FOk f) {d : Arr 96 Int} (hd : DIn d) (s : Nat) (hs : (s : Int) < f.fSteps) (xs : List (Arr 2 Int)) (hx : xs.length ≤ 4000) :
    loop (impl_Frame_pins_at_impl_Frame_listed_1.l_12 d (s : Int) (f.fHammers.length : Int)) (xs, 0) = some (xs ++ prRow f.fHammers.length d s) := by
  have h1 := hf.h1; have h2 := hf.s1; have h3 := hf.s0
  refine loop_app f.fHammers.length 1 (by omega) (pr1 d s) xs (fun k _ => pr1_len d s k) (fun ys k hk hy => ?_) (fun ys => by simp [impl_Frame_pins_at_impl_Frame_listed_1.l_12])
  simp only [impl_Frame_pins_at_impl_Frame_listed_1.l_12, has_is hd (show s < 96 by omega) (t := k) (by omega), Option.bind_some]
  rw [if_pos (by simpa using hk)]
  unfold pr1
  cases c : pin d s k with
  | true =>
    simp only [if_true, impl_Frame_listed_1]
    rw [if_pos (by simp only [List.length_cons, List.length_nil]; omega)]
    rfl
  | false => simp
theorem listed_is {f : GFrame} (hf : FOk f) {d : Arr 96 Int} (hd : DIn d) : impl_Frame_listed f d = some (prL f d) := by
  have h1 := hf.h1; have h2 := hf.s1; have h3 := hf.s0
  have e : w64 f.fSteps = (f.fSteps.toNat : Int) := by rw [w64_in (by omega) (by omega)]; omega
  have := loop_app (f := impl_Frame_pins_at_impl_Frame_listed_1.l_5 f d) f.fSteps.toNat 24 (by omega) (prRow f.fHammers.length d) [] (fun k _ => by have := prRow_len f.fHammers.length d k; omega) (fun ys k hk hy => by
    simp only [List.length_nil] at hy
    simp only [impl_Frame_pins_at_impl_Frame_listed_1.l_5, size_is, Option.bind_some, listedIn hf hd k (by omega) ys (by omega), impl_Frame_pins_at_impl_Frame_listed_1.k_9]
    rw [if_pos (by rw [e, decide_eq_true_eq]; omega)]) (fun ys => by simp [impl_Frame_pins_at_impl_Frame_listed_1.l_5, e])
  simp only [impl_Frame_listed, impl_Frame_pins_at_impl_Frame_listed_1, this, Option.bind_some, impl_Frame_pins_at_impl_Frame_listed_1.k_2, List.nil_append]
  rfl
/-! ### two rows joined -/
theorem concat2 (a b : List (Arr 2 Int)) (ha : a.length ≤ 4000) (hb : b.length ≤ 4000) : slices_Concat_2int64 [a, b] = some (a ++ b) := by
  have e0 : ix [a, b] (0 : Int) = some a := rfl
  have e1 : ix [a, b] (1 : Int) = some b := rfl
  have l13 : loop (slices_Concat_2int64.l_13 [a, b]) (0, 0) = some ((a.length + b.length : Nat) : Int) := by
    rw [loop_eq]
    rw [show slices_Concat_2int64.l_13 [a, b] (0, 0) = some (.inl ((a.length : Int), 1)) by
      simp only [slices_Concat_2int64.l_13, e0, Option.bind_some]
      rw [if_pos (by simp), if_neg (by rw [decide_eq_true_eq, w64_in (by omega) (by omega)]; omega), w64_in (n := 0 + (a.length : Int)) (by omega) (by omega)]
      simp [w64_in]]
    simp only
    rw [loop_eq]
    rw [show slices_Concat_2int64.l_13 [a, b] ((a.length : Int), 1) = some (.inl (((a.length + b.length : Nat) : Int), 2)) by
      simp only [slices_Concat_2int64.l_13, e1, Option.bind_some]
      rw [if_pos (by simp), if_neg (by rw [decide_eq_true_eq, w64_in (by omega) (by omega)]; omega), w64_in (n := (a.length : Int) + (b.length : Int)) (by omega) (by omega)]
      simp [w64_in]]
    simp only
    rw [loop_eq]
    rw [show slices_Concat_2int64.l_13 [a, b] (((a.length + b.length : Nat) : Int), 2) = some (.inr ((a.length + b.length : Nat) : Int)) by
      simp only [slices_Concat_2int64.l_13]
      rw [if_neg (by simp)]]
  have l8 : loop (slices_Concat_2int64.l_8 [a, b]) ([], 0) = some (a ++ b) := by
    rw [loop_eq]
    rw [show slices_Concat_2int64.l_8 [a, b] ([], 0) = some (.inl (a, 1)) by
      simp only [slices_Concat_2int64.l_8, e0, Option.bind_some]
      rw [if_pos (by simp), if_pos (by simp; omega)]
      simp [w64_in]]
    simp only
    rw [loop_eq]
    rw [show slices_Concat_2int64.l_8 [a, b] (a, 1) = some (.inl (a ++ b, 2)) by
      simp only [slices_Concat_2int64.l_8, e1, Option.bind_some]
      rw [if_pos (by simp), if_pos (by omega)]
      simp [w64_in]]
    simp only
    rw [loop_eq]
    rw [show slices_Concat_2int64.l_8 [a, b] (a ++ b, 2) = some (.inr (a ++ b)) by
      simp only [slices_Concat_2int64.l_8]
      rw [if_neg (by simp)]]
  simp only [slices_Concat_2int64, l13, Option.bind_some, slices_Concat_2int64.k_2, growF]
  rw [if_pos (by omega)]
  simp only [Option.bind_some, l8, slices_Concat_2int64.k_5]
def mkC (put : Bool) (p : Arr 2 Int) : GChange := ⟨(ix p.1 0).getD 0, (ix p.1 1).getD 0, put⟩
theorem range_trim {S : Type} (g : Nat → List S) {m n : Nat} (h : n ≤ m) (hg : ∀ i, n ≤ i → i < m → g i = []) : (List.range m).flatMap g = (List.range n).flatMap g := by
  obtain ⟨k, rfl⟩ : ∃ k, m = n + k := ⟨m - n, by omega⟩
  induction k with
  | zero => rfl
  | succ k ih =>
    rw [show n + (k + 1) = (n + k) + 1 by omega, List.range_succ, List.flatMap_append, ih (by omega) (fun i h1 h2 => hg i h1 (by omega))]
    simp [hg (n + k) (by omega) (by omega)]
theorem flatMap_ext {S : Type} {g k : Nat → List S} {n : Nat} (h : ∀ i, i < n → g i = k i) : (List.range n).flatMap g = (List.range n).flatMap k := by
  induction n with
  | zero => rfl
  | succ n ih => rw [List.range_succ, List.flatMap_append, List.flatMap_append, ih (fun i hi => h i (by omega))]; simp [h n (by omega)]
/-- the pins that b has beyond a, as the program lists them -/
theorem list_eq {f : GFrame} (hf : FOk f) {a b d : Arr 96 Int} (hb : VD f b) (hp : ∀ s t, s < 96 → pin d s t = (pin b s t && !pin a s t)) (put : Bool) : (prL f d).map (mkC put) = chL 96 24 a b put := by
  have h1 := hf.h1; have h2 := hf.s1; have h3 := hf.s0
  unfold prL chL
  rw [range_trim (m := 96) (n := f.fSteps.toNat) _ (by omega) (fun s hs1 hs2 => ?_), List.map_flatMap]
  · refine flatMap_ext fun s hs => ?_
    unfold prRow chRow
    rw [range_trim (m := 24) (n := f.fHammers.length) _ h1 (fun t ht1 ht2 => ?_), List.map_flatMap]
    · refine flatMap_ext fun t ht => ?_
      unfold pr1 ch1
      rw [hp s t (by omega)]
      split
      · rfl
      · rfl
    · unfold ch1
      rw [if_neg]
      intro h
      simp only [Bool.and_eq_true] at h
      have := (hb.in_ s t h.1).2
      omega
  · unfold chRow
    rw [range_trim (m := 24) (n := 0) _ (by omega) (fun t _ _ => ?_)]
    · rfl
    · unfold ch1
      rw [if_neg]
      intro h
      simp only [Bool.and_eq_true] at h
      have := (hb.in_ s t h.1).1
      omega
/-- the changes from a to b -/
def dueL (a b : Arr 96 Int) : List GChange := chL 96 24 b a false ++ chL 96 24 a b true
theorem both_is {f : GFrame} (hf : FOk f) {a b : Arr 96 Int} (ha : VD f a) (hb : VD f b) : impl_drumCode f [a, b] = some 0 ∧ spec_l05Both f a b = some 0 := by
  have hh1 := hf.h1; have hs1 := hf.s1; have hs0 := hf.s0
  have hi : FIn f := ⟨by omega, fun y hy => by have := hf.hp y hy; omega⟩
  have h1 := drumCode_is f hi (show f.fHammers.length ≤ 9223372036854775807 by omega) [a, b] (by simp) (by
    intro d hd
    simp only [List.mem_cons, List.not_mem_nil, or_false] at hd
    rcases hd with rfl | rfl
    · exact ha.din
    · exact hb.din)
  have hA := drumB_of ha.in_
  have hB := drumB_of hb.in_
  rw [if_pos ⟨frameB_of hf, by simp [hA, hB]⟩] at h1
  refine ⟨h1, ?_⟩
  simp only [spec_l05Both, l02Frame_is f (show f.fHammers.length ≤ 9223372036854775807 by omega), frameB_of hf, Option.bind_some, l02Drum_is hf ha.din, l02Drum_is hf hb.din, hA, hB, spec_l05Both.k_2]
  simp
theorem implChanges {f : GFrame} (hf : FOk f) {a b : Arr 96 Int} (ha : VD f a) (hb : VD f b) : impl_ChangesBetween f a b = some (dueL a b, 0) := by
  obtain ⟨d, h1, h2, h3⟩ := lessD_is ha.din hb.din
  obtain ⟨e, h4, h5, h6⟩ := lessD_is hb.din ha.din
  have l1 := prL_len hf d; have l2 := prL_len hf e
  have hm : impl_MovesBetween f a b = some (prL f d, prL f e, 0) := by simp [impl_MovesBetween, (both_is hf ha hb).1, h1, h4, listed_is hf h2, listed_is hf h5]
  have hout : ∀ (p : Arr 2 Int), p ∈ prL f d ++ prL f e → ∃ s t : Nat, s < 96 ∧ t < 24 ∧ p = pA s t := by
    have one : ∀ d' p, p ∈ prL f d' → ∃ s t : Nat, s < 96 ∧ t < 24 ∧ p = pA s t := by
      intro d' p hp
      unfold prL prRow at hp
      obtain ⟨s, hs, hp⟩ := List.mem_flatMap.1 hp
      obtain ⟨t, ht, hp⟩ := List.mem_flatMap.1 hp
      rw [List.mem_range] at hs ht
      unfold pr1 at hp
      split at hp
      · rw [List.mem_singleton] at hp
        have := hf.s1; have := hf.h1
        exact ⟨s, t, by omega, by omega, hp⟩
      · cases hp
    intro p hp
    rcases List.mem_append.1 hp with hp | hp
    · exact one d p hp
    · exact one e p hp
  have hL : loop (impl_ChangesBetween.l_7 (prL f d, prL f e, 0) (prL f d ++ prL f e)) (([] : List GChange), 0) = some (((prL f d).map (mkC false)) ++ ((prL f e).map (mkC true))) := by
    have hg : ∀ k, (hk : k < (prL f d ++ prL f e).length) → (((prL f d).map (mkC false)) ++ ((prL f e).map (mkC true)))[k]'(by simpa using hk) = mkC (decide ((k : Int) ≥ ((prL f d).length : Int))) (prL f d ++ prL f e)[k] := by
      intro k hk
      by_cases c : k < (prL f d).length
      · rw [List.getElem_append_left (by simpa using c), List.getElem_append_left c, List.getElem_map, decide_eq_false (by omega)]
      · rw [List.getElem_append_right (by simpa using c), List.getElem_append_right (by omega), List.getElem_map, decide_eq_true (by omega)]
        simp
    have := loop_seq (f := impl_ChangesBetween.l_7 (prL f d, prL f e, 0) (prL f d ++ prL f e)) (prL f d ++ prL f e).length (fun k => ((((prL f d).map (mkC false)) ++ ((prL f e).map (mkC true))).take k, (k : Int))) (((prL f d).map (mkC false)) ++ ((prL f e).map (mkC true))) (fun k hk => by
      have hk2 : k < (((prL f d).map (mkC false)) ++ ((prL f e).map (mkC true))).length := by simpa using hk
      have hlk : (prL f d ++ prL f e).length ≤ 4608 := by rw [List.length_append]; omega
      obtain ⟨s, t, hs, ht, hp⟩ := hout _ (List.getElem_mem hk)
      have hp0 := pA_at s t
      simp only [impl_ChangesBetween.l_7, ix_lt hk, hp, hp0.1, hp0.2, Option.bind_some]
      rw [if_pos (by rw [decide_eq_true_eq]; omega), w16_in (by omega) (by omega), w8_in (by omega) (by omega), if_pos (by simp only [List.length_take, List.length_cons, List.length_nil]; omega), w64_in (n := (k : Int) + 1) (by omega) (by omega), List.take_succ_eq_append_getElem hk2, hg k hk, hp]
      rfl) (by
      simp only [impl_ChangesBetween.l_7]
      rw [if_neg (by simp), List.take_of_length_le (by simp)])
    simpa using this
  simp only [impl_ChangesBetween, hm, Option.bind_some]
  rw [if_neg (by simp)]
  simp only [concat2 _ _ (show (prL f d).length ≤ 4000 by omega) (show (prL f e).length ≤ 4000 by omega), Option.bind_some, hL, impl_ChangesBetween.k_4]
  rw [list_eq hf ha h3 false, list_eq hf hb h6 true]
  rfl
theorem specChangesB {f : GFrame} (hf : FOk f) {a b : Arr 96 Int} (ha : VD f a) (hb : VD f b) : spec_ChangesBetween f a b = some (dueL a b, 0) := by
  have l1 := chL_len 96 24 b a false; have l2 := chL_len 96 24 a b true
  simp only [spec_ChangesBetween, (both_is hf ha hb).2, Option.bind_some, specChanges hb.din ha.din, specChanges ha.din hb.din]
  rw [if_neg (by simp), if_pos (by omega)]
  rfl
/-! ### how many -/
theorem len_flatMap {S : Type} (g : Nat → List S) : ∀ n, ((List.range n).flatMap g).length = sR (fun i => (g i).length) n
  | 0 => rfl
  | n + 1 => by rw [List.range_succ, List.flatMap_append, List.length_append, len_flatMap g n]; simp [sR]
theorem sR_ones (p : Nat → Bool) : ∀ n, sR (fun i => if p i = true then 1 else 0) n = cR p n
  | 0 => rfl
  | n + 1 => by simp only [sR, cR, sR_ones p n]
theorem chL_count {f : GFrame} (hf : FOk f) {a b : Arr 96 Int} (hb : VD f b) (put : Bool) : (chL 96 24 a b put).length = beyond b a := by
  unfold chL beyond
  rw [len_flatMap]
  refine sR_ext 96 fun s hs => ?_
  unfold chRow
  rw [len_flatMap, show (32 : Nat) = 24 + 8 from rfl, cR_add, cR_none 8 (fun i hi => by
    cases h : pin b s (24 + i)
    · rfl
    · have := (hb.in_ _ _ h).2; have := hf.h1; omega), ← sR_ones]
  refine (sR_ext 24 fun t _ => ?_).trans (Nat.add_zero _).symm
  unfold ch1
  split <;> rfl
theorem due_len {f : GFrame} (hf : FOk f) {a b : Arr 96 Int} (ha : VD f a) (hb : VD f b) : (dueL a b).length = distD a b := by
  unfold dueL distD
  rw [List.length_append, chL_count hf ha, chL_count hf hb]
theorem ch_mem {m n : Nat} {a b : Arr 96 Int} {put : Bool} {c : GChange} (h : c ∈ chL m n a b put) : ∃ s t : Nat, s < m ∧ t < n ∧ pin b s t = true ∧ pin a s t = false ∧ c = ⟨(s : Int), (t : Int), put⟩ := by
  unfold chL chRow at h
  obtain ⟨s, hs, h⟩ := List.mem_flatMap.1 h
  obtain ⟨t, ht, h⟩ := List.mem_flatMap.1 h
  rw [List.mem_range] at hs ht
  unfold ch1 at h
  split at h
  · rename_i hc
    simp only [Bool.and_eq_true, Bool.not_eq_true'] at hc
    rw [List.mem_singleton] at h
    exact ⟨s, t, hs, ht, hc.1, hc.2, h⟩
  · cases h
theorem ch_mem_of {m n : Nat} {a b : Arr 96 Int} {put : Bool} {s t : Nat} (hs : s < m) (ht : t < n) (h1 : pin b s t = true) (h2 : pin a s t = false) : (⟨(s : Int), (t : Int), put⟩ : GChange) ∈ chL m n a b put := by
  unfold chL chRow
  refine List.mem_flatMap.2 ⟨s, List.mem_range.2 hs, List.mem_flatMap.2 ⟨t, List.mem_range.2 ht, ?_⟩⟩
  unfold ch1
  rw [if_pos (by simp [h1, h2])]
  simp
/-- two changes at one place -/
def sameP (x y : GChange) : Prop := x.fStep = y.fStep ∧ x.fTrack = y.fTrack
theorem ch_apart (m n : Nat) (a b : Arr 96 Int) (put : Bool) : (chL m n a b put).Pairwise fun x y => ¬ sameP x y := by
  unfold chL
  rw [List.pairwise_flatMap]
  constructor
  · intro s _
    unfold chRow
    rw [List.pairwise_flatMap]
    constructor
    · intro t _
      unfold ch1
      split <;> simp
    · refine List.Pairwise.imp ?_ List.pairwise_lt_range
      intro t1 t2 h12 x hx y hy
      unfold ch1 at hx hy
      split at hx
      · split at hy
        · rw [List.mem_singleton] at hx hy
          subst hx hy
          rintro ⟨_, h⟩
          simp only at h
          omega
        · cases hy
      · cases hx
  · refine List.Pairwise.imp ?_ List.pairwise_lt_range
    intro s1 s2 h12 x hx y hy
    unfold chRow at hx hy
    obtain ⟨t1, _, hx⟩ := List.mem_flatMap.1 hx
    obtain ⟨t2, _, hy⟩ := List.mem_flatMap.1 hy
    unfold ch1 at hx hy
    split at hx
    · split at hy
      · rw [List.mem_singleton] at hx hy
        subst hx hy
        rintro ⟨h, _⟩
        simp only at h
        omega
      · cases hy
    · cases hx
theorem due_apart (a b : Arr 96 Int) : (dueL a b).Pairwise fun x y => ¬ sameP x y := by
  unfold dueL
  rw [List.pairwise_append]
  refine ⟨ch_apart _ _ _ _ _, ch_apart _ _ _ _ _, fun x hx y hy => ?_⟩
  obtain ⟨s, t, _, _, h1, h2, rfl⟩ := ch_mem hx
  obtain ⟨s', t', _, _, h3, h4, rfl⟩ := ch_mem hy
  rintro ⟨e1, e2⟩
  simp only at e1 e2
  obtain rfl : s = s' := by omega
  obtain rfl : t = t' := by omega
  rw [h1] at h4; cases h4

end Go.Proofs.YtgmmeokkgcbkdaaGreatDoor
