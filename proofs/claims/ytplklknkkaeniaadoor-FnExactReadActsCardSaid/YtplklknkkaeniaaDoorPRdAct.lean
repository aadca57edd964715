/- Acts read from a text, the program's way and the reference's. -/
import Derived.Test.YtplklknkkaeniaaDoorM0
import Derived.Test.YtplklknkkaeniaaDoorM2
import Derived.Test.YtplklknkkaeniaaDoorPFrame
import Derived.Test.YtplklknkkaeniaaDoorPDrum
import Derived.Test.YtplklknkkaeniaaDoorPTxt
import Derived.Test.YtplklknkkaeniaaDoorPJoin
import Derived.Test.YtplklknkkaeniaaDoorPNum
import Derived.Test.YtplklknkkaeniaaDoorPSpl
import Derived.Test.YtplklknkkaeniaaDoorPMapO
import Derived.Test.YtplklknkkaeniaaDoorPActL
import Derived.Test.YtplklknkkaeniaaDoorPure
namespace Go.Proofs.YtplklknkkaeniaaDoor
open Eng
set_option linter.unusedVariables false
set_option linter.unusedSimpArgs false

def kindW (w : List UInt8) : Option Int := if w = wordK 0 then some 0 else if w = wordK 1 then some 1 else if w = wordK 2 then some 2 else if w = wordK 3 then some 3 else none
def numW (w : List UInt8) : Prop := w = Lib.decDigits (val w) ∧ (val w : Int) ≤ 1000000
def nW (r : List (List UInt8)) (i : Nat) : Int := (val (r[i]?.getD []) : Int)
def arrW (r : List (List UInt8)) : Nat → Arr 4 Int
  | 0 => Arr.rep 4 0
  | i + 1 => Arr.set (arrW r i) (i : Int) (nW r i)
def mkA (k : Int) (r : List (List UInt8)) : GAct := ⟨k, if 0 < r.length then nW r 0 else 0, if 1 < r.length then nW r 1 else 0, if 2 < r.length then nW r 2 else 0, if 3 < r.length then nW r 3 else 0⟩
open Classical in
/-- a line read -/
noncomputable def rdA (w : List UInt8) : Option GAct := match kindW ((spl 32 w).headD []) with
  | none => none
  | some k => if (spl 32 w).length = usedK k + 1 ∧ ∀ v ∈ (spl 32 w).tail, numW v then some (mkA k (spl 32 w).tail) else none
theorem rdA_no {w w0 : List UInt8} {r : List (List UInt8)} (hs : spl 32 w = w0 :: r) (hk : kindW w0 = none) : rdA w = none := by
  unfold rdA; rw [hs]; simp only [List.headD_cons, hk]
theorem rdA_pos {w w0 : List UInt8} {r : List (List UInt8)} {k : Int} (hs : spl 32 w = w0 :: r) (hk : kindW w0 = some k) (hl : r.length = usedK k) (hn : ∀ v ∈ r, numW v) : rdA w = some (mkA k r) := by
  unfold rdA; rw [hs]; simp only [List.headD_cons, hk, List.tail_cons]; exact if_pos ⟨by simp [hl], hn⟩
theorem rdA_neg {w w0 : List UInt8} {r : List (List UInt8)} {k : Int} (hs : spl 32 w = w0 :: r) (hk : kindW w0 = some k) (h : ¬ (r.length = usedK k ∧ ∀ v ∈ r, numW v)) : rdA w = none := by
  unfold rdA; rw [hs]; simp only [List.headD_cons, hk, List.tail_cons]; exact if_neg fun q => h ⟨by simpa using q.1, q.2⟩
theorem kindW_some {w : List UInt8} {k : Int} (h : kindW w = some k) : (k = 0 ∨ k = 1 ∨ k = 2 ∨ k = 3) ∧ w = wordK k := by
  unfold kindW at h
  split at h
  · rename_i e; cases h; exact ⟨by omega, e⟩
  · split at h
    · rename_i e; cases h; exact ⟨by omega, e⟩
    · split at h
      · rename_i e; cases h; exact ⟨by omega, e⟩
      · split at h
        · rename_i e; cases h; exact ⟨by omega, e⟩
        · cases h
theorem kindW_word {k : Int} (h : k = 0 ∨ k = 1 ∨ k = 2 ∨ k = 3) : kindW (wordK k) = some k := by
  rcases h with rfl | rfl | rfl | rfl <;> decide
theorem arrW_at (r : List (List UInt8)) : ∀ (m : Nat), m ≤ 4 → ∀ (j : Nat) (hj : j < 4), (arrW r m).at j hj = if j < m then nW r j else 0 := by
  intro m
  induction m with
  | zero => intro _ j hj; rw [arrW, Arr.at_rep]; simp
  | succ m ih =>
    intro hm j hj
    rw [arrW, Arr.at_set, ih (by omega) j hj]
    by_cases e : m = j
    · subst e; rw [if_pos rfl, if_pos (by omega)]
    · rw [if_neg e]
      by_cases c : j < m
      · rw [if_pos c, if_pos (by omega)]
      · rw [if_neg c, if_neg (by omega)]
theorem arrW_ix (r : List (List UInt8)) (h : r.length ≤ 4) (j : Nat) (hj : j < 4) : ix (arrW r r.length).1 (j : Int) = some (if j < r.length then nW r j else 0) := by
  rw [ix_arr_lt hj, arrW_at r _ h j hj]
open Classical in
theorem num_loop {E : Type} {f : Arr 4 Int × Int → Option ((Arr 4 Int × Int) ⊕ (E ⊕ Arr 4 Int))} (r : List (List UInt8)) (bad : E) (hl : r.length ≤ 4)
    (hstep : ∀ (i : Nat) (h : i < r.length) (a : Arr 4 Int), f (a, (i : Int)) = some (if numW r[i] then .inl (Arr.set a (i : Int) (val r[i] : Int), ((i + 1 : Nat) : Int)) else .inr (.inl bad)))
    (hend : ∀ a, f (a, (r.length : Int)) = some (.inr (.inr a))) : loop f (Arr.rep 4 0, 0) = some (if ∀ w ∈ r, numW w then .inr (arrW r r.length) else .inl bad) := by
  obtain ⟨k, t, hk, hp, hno, hL⟩ := loop_upto (f := f) r.length (fun i => (arrW r i, (i : Int)))
    (fun i => if h : i < r.length then (if numW r[i] then none else some (.inl bad)) else some (.inr (arrW r r.length)))
    ⟨r.length, Nat.le_refl _, by simp⟩ (fun i hi => by
      by_cases c : i < r.length
      · simp only [dif_pos c]
        rw [hstep i c]
        by_cases q : numW r[i]
        · rw [if_pos q, if_pos q, arrW, nW, List.getElem?_eq_getElem c]; rfl
        · rw [if_neg q, if_neg q]
      · obtain rfl : i = r.length := by omega
        simp only [dif_neg c]
        exact hend _)
  have hL' : loop f (Arr.rep 4 0, 0) = some t := hL
  rw [hL']
  by_cases hall : ∀ w ∈ r, numW w
  · rw [if_pos hall]
    by_cases c : k < r.length
    · rw [dif_pos c, if_pos (hall _ (List.getElem_mem c))] at hp; cases hp
    · rw [dif_neg c] at hp; exact hp.symm ▸ rfl
  · rw [if_neg hall]
    by_cases c : k < r.length
    · rw [dif_pos c] at hp
      split at hp
      · cases hp
      · exact hp.symm ▸ rfl
    · exfalso
      apply hall
      intro w hw
      obtain ⟨i, hi, rfl⟩ := List.getElem_of_mem hw
      have := hno i (by omega)
      rw [dif_pos hi] at this
      split at this
      · assumption
      · cases this
theorem usedK_le (k : Int) : usedK k ≤ 4 := by
  unfold usedK
  repeat' split
  all_goals omega
/-! ### the reference -/
def badA : GAct := ⟨0, 0, 0, 0, 0⟩
open Classical in
theorem specNums {w0 : List UInt8} {r : List (List UInt8)} (hl : r.length ≤ 4) (hw : ∀ w ∈ r, w.length ≤ 1048576) (wd : ByteArray) : loop (spec_l06Read.l_16 ((w0 :: r).map tb) (wd, (r.length : Int))) (Arr.rep 4 0, 0) = some (if ∀ w ∈ r, numW w then .inr (arrW r r.length) else .inl (badA, false)) := by
  refine num_loop r _ hl (fun i hi a => ?_) (fun a => ?_)
  · have hx : ix ((w0 :: r).map tb) (w64 ((i : Int) + 1)) = some (tb r[i]) := by
      rw [w64_in (by omega) (by omega), show ((i : Int) + 1) = ((i + 1 : Nat) : Int) by omega, ix_lt (show i + 1 < ((w0 :: r).map tb).length by simpa using hi)]
      simp
    have hwi := hw _ (List.getElem_mem hi)
    simp only [spec_l06Read.l_16]
    rw [if_pos (by simpa using hi), hx]
    simp only [Option.bind_some, specNumber_is r[i] hwi, spec_l06Turns, spec_l00In]
    have hix : ix a.1 (i : Int) = some (a.at i (by omega)) := ix_arr_lt (by omega)
    by_cases c : r[i] = Lib.decDigits (val r[i]) ∧ r[i].length ≤ 10
    · rw [if_pos c, if_neg (by simp)]
      simp only [spec_l06Read.k_21, hix, Option.bind_some]
      by_cases m : (val r[i] : Int) ≤ 1000000
      · rw [if_neg (by simp; omega), if_pos (show numW r[i] from ⟨c.1, m⟩), w64_in (by omega) (by omega)]
        rfl
      · rw [if_pos (by simp; omega), if_neg (fun h => m h.2)]
        rfl
    · rw [if_neg c, if_pos (by simp)]
      simp only [spec_l06Read.k_21]
      rw [if_pos trivial, if_neg (fun h : numW r[i] => c ⟨h.1, by
        rw [h.1]
        have h2 := h.2
        exact Nat.le_trans (dd_len 6 (val r[i]) (by rw [show 10 ^ (6 + 1) = 10000000 by decide]; omega)) (by omega)⟩)]
      rfl
  · simp only [spec_l06Read.l_16]
    rw [if_neg (by simp)]
theorem words_k {k : Int} (h : k = 0 ∨ k = 1 ∨ k = 2 ∨ k = 3) : spec_l06Words k = some (tb (wordK k), (usedK k : Int)) := by
  rcases h with rfl | rfl | rfl | rfl <;> rfl
def resA (o : Option GAct) : GAct × Bool := match o with
  | some a => (a, true)
  | none => (badA, false)
theorem tlA_ne {a b : List UInt8} : ((tb a).toList == (tb b).toList) = decide (a = b) := by
  rw [tb_list, tb_list, Bool.eq_iff_iff]; simp
theorem specLine (l : List UInt8) (hl : l.length ≤ 1048576) : spec_l06Read (tb l) = some (resA (rdA l)) := by
  classical
  have hsp := specSplit_is l 32 hl
  rw [show (((32 : UInt8).toNat : Nat) : Int) = 32 from rfl] at hsp
  have hm := spl_mem (c := 32) l
  simp only [spec_l06Read, hsp, Option.bind_some]
  cases hs : spl 32 l with
  | nil => exact absurd hs (spl_ne 32 l)
  | cons w0 r =>
    rw [hs] at hm
    have hx : ix ((w0 :: r).map tb) 0 = some (tb w0) := rfl
    -- one kind
    have hstep : ∀ k : Int, (k = 0 ∨ k = 1 ∨ k = 2 ∨ k = 3) → spec_l06Read.l_4 ((w0 :: r).map tb) k = some (if w0 = wordK k ∧ r.length = usedK k then (if ∀ v ∈ r, numW v then .inr (.inl (mkA k r, true)) else .inr (.inl (badA, false))) else .inl (k + 1)) := by
      intro k hk
      simp only [spec_l06Read.l_4, words_k hk, Option.bind_some, hx, tlA_ne, List.length_map, List.length_cons]
      rw [if_pos (by simp; omega), w64_in (n := ((usedK k : Nat) : Int) + 1) (by omega) (by have := usedK_le k; omega)]
      by_cases c : w0 = wordK k ∧ r.length = usedK k
      · rw [if_neg (by simp [c.1, c.2]), if_pos c]
        have hn := specNums (w0 := w0) (r := r) (by rw [c.2]; exact usedK_le k) (fun w hw => by have := (hm w (by simp [hw])).1; omega) (tb (wordK k))
        rw [c.2] at hn
        rw [hn]
        simp only [Option.bind_some]
        by_cases q : ∀ v ∈ r, numW v
        · rw [if_pos q, if_pos q]
          have h4 : r.length ≤ 4 := by rw [c.2]; exact usedK_le k
          have a0 := arrW_ix r h4 0 (by omega)
          have a1 := arrW_ix r h4 1 (by omega)
          have a2 := arrW_ix r h4 2 (by omega)
          have a3 := arrW_ix r h4 3 (by omega)
          rw [c.2] at a0 a1 a2 a3
          simp only [spec_l06Read.k_9]
          rw [show ((0 : Nat) : Int) = 0 from rfl] at a0
          rw [show ((1 : Nat) : Int) = 1 from rfl] at a1
          rw [show ((2 : Nat) : Int) = 2 from rfl] at a2
          rw [show ((3 : Nat) : Int) = 3 from rfl] at a3
          rw [a0, Option.bind_some, a1, Option.bind_some, a2, Option.bind_some, a3, Option.bind_some, w8_in (n := k) (by omega) (by omega)]
          simp only [mkA, c.2]
        · rw [if_neg q, if_neg q]
      · rw [if_pos (by
          simp only [Bool.or_eq_true, Bool.not_eq_true', decide_eq_false_iff_not, bne_iff_ne]
          by_cases c1 : w0 = wordK k
          · right; intro e; exact c ⟨c1, by omega⟩
          · exact .inl c1), if_neg c, w64_in (n := k + 1) (by omega) (by omega)]
    have hend : spec_l06Read.l_4 ((w0 :: r).map tb) 4 = some (.inr (.inr ())) := by
      simp only [spec_l06Read.l_4]
      rw [if_neg (by simp)]
    have key : ∀ k : Int, (k = 0 ∨ k = 1 ∨ k = 2 ∨ k = 3) → w0 = wordK k → (∀ j : Int, (j = 0 ∨ j = 1 ∨ j = 2 ∨ j = 3) → w0 = wordK j → j = k) := by
      intro k hk e j hj e2
      have h1 := kindW_word hk
      have h2 := kindW_word hj
      rw [← e] at h1
      rw [← e2, h1] at h2
      exact (Option.some.inj h2).symm
    have hres : ∀ k : Int, (k = 0 ∨ k = 1 ∨ k = 2 ∨ k = 3) → w0 = wordK k → r.length = usedK k → loop (spec_l06Read.l_4 ((w0 :: r).map tb)) 0 = some (.inl (if ∀ v ∈ r, numW v then (mkA k r, true) else (badA, false))) := by
      intro k hk e hu
      have hno : ∀ j : Int, (j = 0 ∨ j = 1 ∨ j = 2 ∨ j = 3) → j ≠ k → spec_l06Read.l_4 ((w0 :: r).map tb) j = some (.inl (j + 1)) := fun j hj hne => by
        rw [hstep j hj, if_neg (fun c => hne (key k hk e j hj c.1))]
      have hy : spec_l06Read.l_4 ((w0 :: r).map tb) k = some (.inr (.inl (if ∀ v ∈ r, numW v then (mkA k r, true) else (badA, false)))) := by
        rw [hstep k hk, if_pos ⟨e, hu⟩]
        split <;> rfl
      rcases hk with rfl | rfl | rfl | rfl
      · rw [loop_eq, hy]
      · rw [loop_eq, hno 0 (by omega) (by omega)]
        simp only [Int.zero_add]
        rw [loop_eq, hy]
      · rw [loop_eq, hno 0 (by omega) (by omega)]
        simp only [Int.zero_add]
        rw [loop_eq, hno 1 (by omega) (by omega)]
        simp only [show (1 : Int) + 1 = 2 from rfl]
        rw [loop_eq, hy]
      · rw [loop_eq, hno 0 (by omega) (by omega)]
        simp only [Int.zero_add]
        rw [loop_eq, hno 1 (by omega) (by omega)]
        simp only [show (1 : Int) + 1 = 2 from rfl]
        rw [loop_eq, hno 2 (by omega) (by omega)]
        simp only [show (2 : Int) + 1 = 3 from rfl]
        rw [loop_eq, hy]
    have hbad : (∀ k : Int, (k = 0 ∨ k = 1 ∨ k = 2 ∨ k = 3) → ¬ (w0 = wordK k ∧ r.length = usedK k)) → loop (spec_l06Read.l_4 ((w0 :: r).map tb)) 0 = some (.inr ()) := by
      intro h
      rw [loop_eq, hstep 0 (by omega), if_neg (h 0 (by omega))]
      simp only [Int.zero_add]
      rw [loop_eq, hstep 1 (by omega), if_neg (h 1 (by omega))]
      simp only [show (1 : Int) + 1 = 2 from rfl]
      rw [loop_eq, hstep 2 (by omega), if_neg (h 2 (by omega))]
      simp only [show (2 : Int) + 1 = 3 from rfl]
      rw [loop_eq, hstep 3 (by omega), if_neg (h 3 (by omega))]
      simp only [show (3 : Int) + 1 = 4 from rfl]
      rw [loop_eq, hend]
    cases hk : kindW w0 with
    | none =>
      rw [hbad (fun k hk2 c => by rw [c.1, kindW_word hk2] at hk; cases hk), rdA_no hs hk]
      rfl
    | some k =>
      obtain ⟨hk4, hw⟩ := kindW_some hk
      by_cases hu : r.length = usedK k
      · rw [hres k hk4 hw hu]
        simp only [Option.bind_some]
        by_cases q : ∀ v ∈ r, numW v
        · rw [rdA_pos hs hk hu q, if_pos q]; rfl
        · rw [rdA_neg hs hk (fun h => q h.2), if_neg q]; rfl
      · rw [hbad (fun j hj c => by
          have := key k hk4 hw j hj c.1
          subst this; exact hu c.2), rdA_neg hs hk (fun h => hu h.1)]
        rfl
/-! ### the program: one line -/
open Classical in
theorem implNums2 {w0 : List UInt8} {r : List (List UInt8)} (hl : r.length ≤ 4) (hw : ∀ w ∈ r, w.length ≤ 1048576) : loop (impl_ReadActs.l_19 ((w0 :: r).map tb)) (Arr.rep 4 0, 0) = some (if ∀ w ∈ r, numW w then .inr (arrW r r.length) else .inl (([] : List GAct), (5 : Int))) := by
  refine num_loop r _ hl (fun i hi a => ?_) (fun a => ?_)
  · have hx : ix (((w0 :: r).map tb).drop (1 : Int).toNat) (i : Int) = some (tb r[i]) := by
      show ix ((r.map tb)) (i : Int) = _
      rw [ix_lt (show i < (r.map tb).length by simpa using hi)]
      simp
    have hwi := hw _ (List.getElem_mem hi)
    have hix : ix a.1 (i : Int) = some (a.at i (by omega)) := ix_arr_lt (by omega)
    simp only [impl_ReadActs.l_19]
    rw [if_pos (by simp; omega), hx]
    simp only [Option.bind_some, implNumber_is (most := 1000000) r[i] hwi (by omega)]
    by_cases c : r[i] = Lib.decDigits (val r[i]) ∧ (val r[i] : Int) ≤ 1000000
    · rw [if_pos c, if_neg (by simp), hix, if_pos (show numW r[i] from c), Option.bind_some, w64_in (by omega) (by omega)]
      rfl
    · rw [if_neg c, if_pos (by simp), if_neg (show ¬ numW r[i] from c)]
  · simp only [impl_ReadActs.l_19]
    rw [if_neg (by simp)]
theorem index4 (w : List UInt8) : slices_Index_string [(ByteArray.mk #[116, 117, 114, 110]), (ByteArray.mk #[104, 97, 109, 109, 101, 114]), (ByteArray.mk #[112, 105, 110]), (ByteArray.mk #[109, 111, 118, 101])] (tb w) = some (match kindW w with | some k => k | none => -1) := by
  have e : [(ByteArray.mk #[116, 117, 114, 110]), (ByteArray.mk #[104, 97, 109, 109, 101, 114]), (ByteArray.mk #[112, 105, 110]), (ByteArray.mk #[109, 111, 118, 101])] = [wordK 0, wordK 1, wordK 2, wordK 3].map tb := rfl
  rw [e]
  obtain ⟨t, ht, hq⟩ := loop_find (f := slices_Index_string.l_3 ([wordK 0, wordK 1, wordK 2, wordK 3].map tb) (tb w)) [wordK 0, wordK 1, wordK 2, wordK 3] (fun x => decide (w = x)) (by simp) (fun k hk => by
    have hx : ix ([wordK 0, wordK 1, wordK 2, wordK 3].map tb) (k : Int) = some (tb [wordK 0, wordK 1, wordK 2, wordK 3][k]) := by
      rw [ix_lt (show k < ([wordK 0, wordK 1, wordK 2, wordK 3].map tb).length by simpa using hk), List.getElem_map]
    simp only [slices_Index_string.l_3, hx, Option.bind_some, tlA_ne, List.length_map]
    rw [if_pos (by simp at hk ⊢; omega)]
    split <;> rfl) (by simp [slices_Index_string.l_3])
  simp only [slices_Index_string, ht, Option.bind_some]
  rcases hq with ⟨_, k, rfl, hk, he, hno⟩ | ⟨hany, rfl⟩
  · simp only []
    have he := of_decide_eq_true he
    have h4 : k < 4 := hk
    have : k = 0 ∨ k = 1 ∨ k = 2 ∨ k = 3 := by omega
    rcases this with rfl | rfl | rfl | rfl
    · have : w = wordK 0 := he
      rw [this, kindW_word (by omega)]; rfl
    · have : w = wordK 1 := he
      rw [this, kindW_word (by omega)]; rfl
    · have : w = wordK 2 := he
      rw [this, kindW_word (by omega)]; rfl
    · have : w = wordK 3 := he
      rw [this, kindW_word (by omega)]; rfl
  · simp only [slices_Index_string.k_1]
    cases hk : kindW w with
    | none => rfl
    | some k =>
      exfalso
      obtain ⟨h4, rfl⟩ := kindW_some hk
      rw [List.any_eq_false] at hany
      rcases h4 with rfl | rfl | rfl | rfl
      · exact hany (wordK 0) (by simp) (by simp)
      · exact hany (wordK 1) (by simp) (by simp)
      · exact hany (wordK 2) (by simp) (by simp)
      · exact hany (wordK 3) (by simp) (by simp)
def tail1 {α : Type} (l : List α) : List α := l.tail
theorem used_ix4 {k : Int} (h : k = 0 ∨ k = 1 ∨ k = 2 ∨ k = 3) : ix ([1, 1, 2, 4] : List Int) k = some (usedK k : Int) := by
  rcases h with rfl | rfl | rfl | rfl <;> rfl
def stepA (o : Option GAct) (xs : List GAct) : (List GAct) ⊕ (List GAct × Int) := match o with
  | some a => if xs.length = 60 then .inr ([], 5) else .inl (xs ++ [a])
  | none => .inr ([], 5)
/-- a text without the newline at its end -/
def trimL (l : List UInt8) : List UInt8 := if l.getLast? = some 10 then l.dropLast else l
theorem implLine (y : ByteArray) (l : List UInt8) (hy : strings_TrimSuffix y (ByteArray.mk #[10]) = some (tb l)) (hl : l.length ≤ 1048576) (xs : List GAct) (hx60 : xs.length ≤ 60) : impl_ReadActs.l_2 y xs = some (stepA (rdA l) xs) := by
  classical
  have e32 : (ByteArray.mk #[32]) = tb [32] := rfl
  have hm := spl_mem (c := 32) l
  simp only [impl_ReadActs.l_2, hy, Option.bind_some, e32, strings_Split, splitF_is l 32 hl]
  cases hs : spl 32 l with
  | nil => exact absurd hs (spl_ne 32 l)
  | cons w0 r =>
    rw [hs] at hm
    have hx : ix ((w0 :: r).map tb) 0 = some (tb w0) := rfl
    simp only [hx, Option.bind_some, impl_actWords, index4, impl_ReadActs.k_8]
    cases hk : kindW w0 with
    | none =>
      simp only []
      rw [if_pos (by decide)]
      simp only [impl_ReadActs.k_10]
      rw [if_pos trivial, rdA_no hs hk]
      rfl
    | some k =>
      obtain ⟨h4, hw0⟩ := kindW_some hk
      have hu4 := usedK_le k
      simp only [impl_usedBy, Option.bind_some, used_ix4 h4, List.length_map, List.length_cons]
      rw [if_neg (by simp; omega), w64_in (n := ((usedK k : Nat) : Int) + 1) (by omega) (by omega)]
      simp only [impl_ReadActs.k_10]
      by_cases hu : r.length = usedK k
      · by_cases h60 : xs.length = 60
        · rw [if_pos (by simp [h60])]
          cases rdA l <;> simp [stepA, h60]
        · rw [if_neg (by simp [hu]; omega), if_pos (by simp; omega), implNums2 (by omega) (fun w hw => by have := (hm w (by simp [hw])).1; omega)]
          simp only [Option.bind_some]
          by_cases q : ∀ v ∈ r, numW v
          · have hr4 : r.length ≤ 4 := by omega
            have a0 := arrW_ix r hr4 0 (by omega)
            have a1 := arrW_ix r hr4 1 (by omega)
            have a2 := arrW_ix r hr4 2 (by omega)
            have a3 := arrW_ix r hr4 3 (by omega)
            rw [show ((0 : Nat) : Int) = 0 from rfl] at a0
            rw [show ((1 : Nat) : Int) = 1 from rfl] at a1
            rw [show ((2 : Nat) : Int) = 2 from rfl] at a2
            rw [show ((3 : Nat) : Int) = 3 from rfl] at a3
            rw [if_pos q, rdA_pos hs hk hu q]
            simp only [impl_ReadActs.k_12]
            rw [a0, Option.bind_some, a1, Option.bind_some, a2, Option.bind_some, a3, Option.bind_some, w8_in (n := k) (by omega) (by omega), if_pos (by simp; omega)]
            simp only [stepA, mkA]
            rw [if_neg h60]
          · rw [if_neg q, rdA_neg hs hk (fun h => q h.2)]
            rfl
      · rw [if_pos (by simp only [Bool.or_eq_true, bne_iff_ne]; left; omega), rdA_neg hs hk (fun h => hu h.1)]
        rfl
/-! ### what is read is what is written -/
theorem itoa_nat (n : Nat) : Lib.itoa (n : Int) = Lib.decDigits n := by
  rw [itoa_dec (by omega)]; rfl
theorem rdA_back {w : List UInt8} {a : GAct} (h : rdA w = some a) : actT a = w ++ [10] ∧ toldB a = true ∧ ActIn a := by
  classical
  have hj := join_spl 32 w
  cases hs : spl 32 w with
  | nil => exact absurd hs (spl_ne 32 w)
  | cons w0 r =>
    rw [hs] at hj
    cases hk : kindW w0 with
    | none => rw [rdA_no hs hk] at h; cases h
    | some k =>
      by_cases hq : r.length = usedK k ∧ ∀ v ∈ r, numW v
      · rw [rdA_pos hs hk hq.1 hq.2] at h
        cases h
        obtain ⟨h4, rfl⟩ := kindW_some hk
        obtain ⟨hlen, hn⟩ := hq
        have hnum : ∀ v : List UInt8, numW v → v = Lib.itoa (val v : Int) ∧ 0 ≤ (val v : Int) ∧ (val v : Int) ≤ 1000000 := fun v hv => ⟨by rw [itoa_nat]; exact hv.1, by omega, hv.2⟩
        have hA : ActIn (mkA k r) := by unfold ActIn mkA; simp only; omega
        suffices hh : actL (mkA k r) = w ++ [10] ∧ toldB (mkA k r) = true by
          exact ⟨by rw [actT, if_pos hh.2]; exact hh.1, hh.2, hA⟩
        rcases h4 with rfl | rfl | rfl | rfl
        · match r, hlen with
          | [v], _ =>
            obtain ⟨e, a0, a1⟩ := hnum v (hn v (by simp))
            rw [join_cons2, join_one] at hj
            have hm : mkA 0 [v] = ⟨0, (val v : Int), 0, 0, 0⟩ := rfl
            rw [hm]
            refine ⟨?_, ?_⟩
            · rw [← hj]
              simp only [actL, piece, usedK]
              simp only [if_true, if_pos (show 0 < 1 by omega), if_neg (show ¬ 1 < 1 by omega), if_neg (show ¬ 2 < 1 by omega), if_neg (show ¬ 3 < 1 by omega), ← e]
              simp
            · simp [toldB, numOk, usedK]; omega
          | [], h => simp [usedK] at h
          | _ :: _ :: _, h => simp [usedK] at h
        · match r, hlen with
          | [v], _ =>
            obtain ⟨e, a0, a1⟩ := hnum v (hn v (by simp))
            rw [join_cons2, join_one] at hj
            have hm : mkA 1 [v] = ⟨1, (val v : Int), 0, 0, 0⟩ := rfl
            rw [hm]
            refine ⟨?_, ?_⟩
            · rw [← hj]
              simp only [actL, piece, usedK]
              simp only [if_neg (show ¬ (1 : Int) = 0 by omega), if_true, if_pos (show 0 < 1 by omega), if_neg (show ¬ 1 < 1 by omega), if_neg (show ¬ 2 < 1 by omega), if_neg (show ¬ 3 < 1 by omega), ← e]
              simp
            · simp [toldB, numOk, usedK]; omega
          | [], h => simp [usedK] at h
          | _ :: _ :: _, h => simp [usedK] at h
        · match r, hlen with
          | [v, u], _ =>
            obtain ⟨e, a0, a1⟩ := hnum v (hn v (by simp))
            obtain ⟨e', b0, b1⟩ := hnum u (hn u (by simp))
            rw [join_cons2, join_cons2, join_one] at hj
            have hm : mkA 2 [v, u] = ⟨2, (val v : Int), (val u : Int), 0, 0⟩ := rfl
            rw [hm]
            refine ⟨?_, ?_⟩
            · rw [← hj]
              simp only [actL, piece, usedK]
              simp only [if_neg (show ¬ (2 : Int) = 0 by omega), if_neg (show ¬ (2 : Int) = 1 by omega), if_true, if_pos (show 0 < 2 by omega), if_pos (show 1 < 2 by omega), if_neg (show ¬ 2 < 2 by omega), if_neg (show ¬ 3 < 2 by omega), ← e, ← e']
              simp
            · simp [toldB, numOk, usedK]; omega
          | [], h => simp [usedK] at h
          | [_], h => simp [usedK] at h
          | _ :: _ :: _ :: _, h => simp [usedK] at h
        · match r, hlen with
          | [v, u, x, y], _ =>
            obtain ⟨e, a0, a1⟩ := hnum v (hn v (by simp))
            obtain ⟨e', b0, b1⟩ := hnum u (hn u (by simp))
            obtain ⟨f, c0, c1⟩ := hnum x (hn x (by simp))
            obtain ⟨f', d0, d1⟩ := hnum y (hn y (by simp))
            rw [join_cons2, join_cons2, join_cons2, join_cons2, join_one] at hj
            have hm : mkA 3 [v, u, x, y] = ⟨3, (val v : Int), (val u : Int), (val x : Int), (val y : Int)⟩ := rfl
            rw [hm]
            refine ⟨?_, ?_⟩
            · rw [← hj]
              simp only [actL, piece, usedK]
              simp only [if_neg (show ¬ (3 : Int) = 0 by omega), if_neg (show ¬ (3 : Int) = 1 by omega), if_neg (show ¬ (3 : Int) = 2 by omega), if_true, if_pos (show 0 < 4 by omega), if_pos (show 1 < 4 by omega), if_pos (show 2 < 4 by omega), if_pos (show 3 < 4 by omega), ← e, ← e', ← f, ← f']
              simp
            · simp [toldB, numOk, usedK]; omega
          | [], h => simp [usedK] at h
          | [_], h => simp [usedK] at h
          | [_, _], h => simp [usedK] at h
          | [_, _, _], h => simp [usedK] at h
          | _ :: _ :: _ :: _ :: _ :: _, h => simp [usedK] at h
      · rw [rdA_neg hs hk hq] at h; cases h
/-! ### the lines of a text -/
/-- the lines, without their ends: the pieces, but a last empty one -/
def tr (s : List (List UInt8)) : List (List UInt8) := if s.getLast? = some [] then s.dropLast else s
theorem idx_none {l : List UInt8} (h : (10 : UInt8) ∉ l) : lnIdx (tb l) = -1 := by
  unfold lnIdx
  rw [tb_data]
  have hge := Lib.indexByte_ge l (10 : Int).toNat.toUInt8
  rcases Int.lt_or_le (Lib.indexByte l (10 : Int).toNat.toUInt8) 0 with h' | h'
  · omega
  · exfalso
    obtain ⟨o, ho⟩ : ∃ o : Nat, Lib.indexByte l (10 : Int).toNat.toUInt8 = o := ⟨(Lib.indexByte l (10 : Int).toNat.toUInt8).toNat, by omega⟩
    exact h (List.mem_of_getElem? (Lib.indexByte_some ho).1)
theorem idx_hit {w r : List UInt8} (h : (10 : UInt8) ∉ w) : lnIdx (tb (w ++ 10 :: r)) = w.length := by
  unfold lnIdx
  rw [tb_data]
  have hc : (10 : Int).toNat.toUInt8 = (10 : UInt8) := rfl
  rw [hc]
  have hge := Lib.indexByte_ge (w ++ 10 :: r) 10
  rcases Int.lt_or_le (Lib.indexByte (w ++ 10 :: r) 10) 0 with h' | h'
  · exfalso
    have e : Lib.indexByte (w ++ 10 :: r) 10 = -1 := by omega
    exact Lib.indexByte_none e w.length (by simp)
  · obtain ⟨o, ho⟩ : ∃ o : Nat, Lib.indexByte (w ++ 10 :: r) 10 = o := ⟨(Lib.indexByte (w ++ 10 :: r) 10).toNat, by omega⟩
    rw [ho]
    obtain ⟨h1, h2⟩ := Lib.indexByte_some ho
    rcases Nat.lt_trichotomy o w.length with c | c | c
    · exfalso
      rw [List.getElem?_append_left c] at h1
      exact h (List.mem_of_getElem? h1)
    · rw [c]
    · exact absurd (by simp) (h2 w.length c)
theorem brk (l : List UInt8) : (10 : UInt8) ∉ l ∨ ∃ w r, l = w ++ 10 :: r ∧ (10 : UInt8) ∉ w := by
  induction l with
  | nil => left; simp
  | cons b l ih =>
    by_cases hb : b = 10
    · subst hb; exact .inr ⟨[], l, rfl, by simp⟩
    · rcases ih with h | ⟨w, r, rfl, h⟩
      · left; simp [h]; exact fun e => hb e.symm
      · exact .inr ⟨b :: w, r, rfl, by simp [h]; exact fun e => hb e.symm⟩
theorem lin_spl : ∀ (n : Nat) (l : List UInt8), l.length ≤ n → l.length ≤ 1048576 →
    ∃ gs : List ByteArray, linB n (tb l) = gs ∧ gs.length = (tr (spl 10 l)).length ∧ ∀ i (h : i < gs.length) (h' : i < (tr (spl 10 l)).length), gs[i] = tb ((tr (spl 10 l))[i] ++ [10]) ∨ ((10 : UInt8) ∉ (tr (spl 10 l))[i] ∧ gs[i] = tb (tr (spl 10 l))[i]) := by
  intro n
  induction n with
  | zero =>
    intro l hl _
    obtain rfl : l = [] := List.length_eq_zero_iff.1 (by omega)
    exact ⟨[], rfl, rfl, fun i h => absurd h (by simp)⟩
  | succ n ih =>
    intro l hl hb
    by_cases h0 : l = []
    · subst h0
      exact ⟨[], by simp [linB, tb_size], rfl, fun i h => absurd h (by simp)⟩
    · have hpos : 0 < l.length := List.length_pos_iff.2 h0
      have hp : ((tb l).size : Int) > 0 := by rw [tb_size]; omega
      rcases brk l with hno | ⟨w, r, rfl, hw⟩
      · have e1 : lnHd (tb l) = tb l := by rw [lnHd, if_neg (by rw [idx_none hno]; omega)]
        have e2 : lnTl (tb l) = tb [] := by rw [lnTl, if_neg (by rw [idx_none hno]; omega)]; rfl
        have e3 : tr (spl 10 l) = [l] := by
          rw [spl_none l hno]
          simp [tr, h0]
        refine ⟨[tb l], ?_, by rw [e3]; rfl, fun i h h' => ?_⟩
        · simp only [linB]
          rw [if_pos hp, e1, e2]
          cases n with
          | zero => rfl
          | succ n => simp [linB, tb_size]
        · right
          simp only [e3]
          obtain rfl : i = 0 := by simpa using h
          exact ⟨hno, rfl⟩
      · have hi := idx_hit (r := r) hw
        have hlen : (w ++ 10 :: r).length = w.length + 1 + r.length := by simp; omega
        have hws : w64 (lnIdx (tb (w ++ 10 :: r)) + 1) = ((w.length + 1 : Nat) : Int) := by rw [hi, w64_in (by omega) (by omega)]; omega
        have e1 : lnHd (tb (w ++ 10 :: r)) = tb (w ++ [10]) := by
          rw [lnHd, if_pos (by rw [hi]; omega), hws, tb_extract]
          congr 1
          simp [List.take_append, List.take_of_length_le]
        have e2 : lnTl (tb (w ++ 10 :: r)) = tb r := by
          rw [lnTl, if_pos (by rw [hi]; omega), hws, tb_extract, tb_size]
          congr 1
          simp only [Int.toNat_natCast, List.take_length]
          simp [List.drop_append]
        obtain ⟨gs, g1, g2, g3⟩ := ih r (by omega) (by omega)
        have hs := spl_hit (c := 10) r w hw
        have hne := spl_ne 10 r
        have e3 : tr (spl 10 (w ++ 10 :: r)) = w :: tr (spl 10 r) := by
          rw [hs]
          unfold tr
          rw [List.getLast?_cons_of_ne_nil hne]
          split
          · rw [List.dropLast_cons_of_ne_nil hne]
          · rfl
        refine ⟨tb (w ++ [10]) :: gs, ?_, by rw [e3]; simp [g2], fun i h h' => ?_⟩
        · simp only [linB]
          rw [if_pos hp, e1, e2, g1]
        · simp only [e3]
          cases i with
          | zero => left; rfl
          | succ i =>
            simp only [List.getElem_cons_succ]
            exact g3 i (by simpa using h) (by rw [e3] at h'; simpa using h')
theorem trim_nl (w : List UInt8) (h : w.length ≤ 1048576) : strings_TrimSuffix (tb (w ++ [10])) (ByteArray.mk #[10]) = some (tb w) := by
  have e10 : (ByteArray.mk #[10]) = tb [10] := rfl
  rw [e10]
  have hlen : (w ++ [(10 : UInt8)]).length = w.length + 1 := by simp
  simp only [strings_TrimSuffix, stringslite_TrimSuffix, stringslite_HasSuffix, tb_size, hlen, List.length_cons, List.length_nil]
  rw [w64_in (n := ((w.length + 1 : Nat) : Int) - ((0 + 1 : Nat) : Int)) (by omega) (by omega)]
  have e1 : (((w.length + 1 : Nat) : Int) - ((0 + 1 : Nat) : Int)).toNat = w.length := by omega
  rw [if_pos (by simp; omega), if_pos (by omega), e1, tb_extract]
  have e2 : ((w ++ [(10 : UInt8)]).take (((w.length + 1 : Nat) : Int)).toNat).drop w.length = [10] := by
    rw [Int.toNat_natCast, List.take_of_length_le (by simp)]
    simp
  rw [e2]
  simp only [Option.bind_some, tb_list]
  rw [if_pos (by simp), if_pos (by omega), tb_extract]
  simp
theorem trim_no {w : List UInt8} (h : w.length ≤ 1048576) (hn : (10 : UInt8) ∉ w) : strings_TrimSuffix (tb w) (ByteArray.mk #[10]) = some (tb w) := by
  have e10 : (ByteArray.mk #[10]) = tb [10] := rfl
  rw [e10]
  simp only [strings_TrimSuffix, stringslite_TrimSuffix, stringslite_HasSuffix, tb_size, List.length_cons, List.length_nil]
  by_cases h0 : w = []
  · subst h0
    rw [if_neg (by simp)]
    rfl
  · have hpos := List.length_pos_iff.2 h0
    rw [w64_in (n := ((w.length : Nat) : Int) - ((0 + 1 : Nat) : Int)) (by omega) (by omega)]
    have e1 : (((w.length : Nat) : Int) - ((0 + 1 : Nat) : Int)).toNat = w.length - 1 := by omega
    rw [if_pos (by simp; omega), if_pos (by omega), e1, tb_extract]
    have e2 : ¬ ((w.take ((w.length : Nat) : Int).toNat).drop (w.length - 1) = [10]) := by
      rw [Int.toNat_natCast, List.take_length]
      intro e
      exact hn (List.mem_of_mem_drop (by rw [e]; simp : (10 : UInt8) ∈ w.drop (w.length - 1)))
    simp only [Option.bind_some, tb_list]
    rw [if_neg (by simpa using e2)]
    rfl
/-! ### both -/
def seqR (o : Option (List GAct)) (n : Nat) : (List GAct) ⊕ (List GAct × Int) := match o with
  | some bs => if n ≤ 60 then .inl bs else .inr ([], 5)
  | none => .inr ([], 5)
theorem seqA : ∀ (gs : List ByteArray) (ls : List (List UInt8)) (xs : List GAct), gs.length = ls.length → (∀ i (h : i < gs.length) (h' : i < ls.length), strings_TrimSuffix gs[i] (ByteArray.mk #[10]) = some (tb ls[i])) → (∀ l ∈ ls, l.length ≤ 1048576) → xs.length ≤ 60 →
    seqO impl_ReadActs.l_2 gs xs = some (seqR ((mapO rdA ls).map (xs ++ ·)) (xs.length + ls.length)) := by
  intro gs
  induction gs with
  | nil =>
    intro ls xs hl _ _ h60
    obtain rfl : ls = [] := List.length_eq_zero_iff.1 hl.symm
    simp [seqO, mapO, seqR, h60]
  | cons g gs ih =>
    intro ls xs hl ht hb h60
    cases ls with
    | nil => simp at hl
    | cons l ls =>
      have h0 := ht 0 (by simp) (by simp)
      simp only [List.getElem_cons_zero] at h0
      simp only [seqO, implLine g l h0 (hb l (by simp)) xs h60, Option.bind_some, mapO]
      cases hr : rdA l with
      | none => cases hm : mapO rdA ls <;> rfl
      | some a =>
        simp only [stepA]
        by_cases c : xs.length = 60
        · rw [if_pos c]
          simp only
          cases hm : mapO rdA ls with
          | none => rfl
          | some bs =>
            simp only [Option.map_some, seqR]
            rw [if_neg (by simp; omega)]
        · rw [if_neg c]
          simp only
          rw [ih ls (xs ++ [a]) (by simpa using hl) (fun i h h' => by
            have := ht (i + 1) (by simpa using h) (by simpa using h')
            simpa using this) (fun l' hl' => hb l' (by simp [hl'])) (by simp; omega)]
          cases hm : mapO rdA ls with
          | none => rfl
          | some bs =>
            simp only [Option.map_some, seqR, List.length_append, List.length_cons, List.length_nil, List.append_assoc, List.cons_append, List.nil_append]
            rw [show xs.length + (0 + 1) + ls.length = xs.length + (ls.length + 1) by omega]
theorem spl_cat (l : List UInt8) : ∀ (xs : List (List UInt8)) (y : List UInt8), spl 10 l = xs ++ [y] → l = xs.flatMap (fun w => w ++ [10]) ++ y := by
  have key : ∀ (xs : List (List UInt8)) (y : List UInt8), Lib.join (xs ++ [y]) [10] = xs.flatMap (fun w => w ++ [10]) ++ y := by
    intro xs
    induction xs with
    | nil => intro y; exact join_one y [10]
    | cons x xs ih =>
      intro y
      cases xs with
      | nil => rw [List.cons_append, List.nil_append, join_cons2, join_one]; simp
      | cons z zs =>
        have := ih y
        rw [List.cons_append, List.cons_append, join_cons2]
        rw [List.cons_append] at this
        rw [this]
        simp
  intro xs y h
  have := join_spl 10 l
  rw [h, key] at this
  exact this.symm
theorem acts_back (ls : List (List UInt8)) (cs : List GAct) (h : mapO rdA ls = some cs) : cs.flatMap actT = ls.flatMap (fun w => w ++ [10]) := by
  induction ls generalizing cs with
  | nil => cases h; rfl
  | cons l ls ih =>
    simp only [mapO] at h
    cases hr : rdA l with
    | none => rw [hr] at h; cases h
    | some a =>
      cases hm : mapO rdA ls with
      | none => rw [hr, hm] at h; cases h
      | some bs =>
        rw [hr, hm] at h
        cases h
        rw [List.flatMap_cons, List.flatMap_cons, ih bs hm, (rdA_back hr).1]
theorem readActs_same (l : List UInt8) (hl : l.length ≤ 1048576) : ∃ r, impl_ReadActs (tb l) = some r ∧ spec_ReadActs (tb l) = some r ∧ r.1.length ≤ 60 ∧ ∀ a ∈ r.1, ActIn a := by
  have e0 : (ByteArray.mk #[]) = tb [] := rfl
  have hsp := specSplit_is l 10 hl
  rw [show (((10 : UInt8).toNat : Nat) : Int) = 10 from rfl] at hsp
  have hsl := spl_len 10 l
  have hsm := spl_mem (c := 10) l
  have hne := spl_ne 10 l
  obtain ⟨gs, g1, g2, g3⟩ := lin_spl l.length l (Nat.le_refl _) hl
  obtain ⟨xs, y, hxy⟩ : ∃ xs y, spl 10 l = xs ++ [y] := ⟨(spl 10 l).dropLast, (spl 10 l).getLast hne, (List.dropLast_concat_getLast hne).symm⟩
  have hcat := spl_cat l xs y hxy
  have htr : tr (spl 10 l) = if y = [] then xs else xs ++ [y] := by
    rw [hxy, tr]
    simp
  have htm : ∀ w ∈ tr (spl 10 l), w.length ≤ 1048576 ∧ (10 : UInt8) ∉ w := by
    intro w hw
    have : w ∈ spl 10 l := by
      rw [htr] at hw
      rw [hxy]
      split at hw
      · exact List.mem_append_left _ hw
      · exact hw
    have := hsm w this
    exact ⟨by omega, this.2⟩
  have hseq := seqA gs (tr (spl 10 l)) [] g2 (fun i h h' => by
    have hb := htm _ (List.getElem_mem h')
    rcases g3 i h h' with e | ⟨_, e⟩
    · rw [e]; exact trim_nl _ hb.1
    · rw [e]; exact trim_no hb.1 hb.2) (fun w hw => (htm w hw).1) (by simp)
  have hlines : linesL (tb l) = gs := by rw [linesL, tb_size]; exact g1
  have himpl : impl_ReadActs (tb l) = (match seqR (mapO rdA (tr (spl 10 l))) (tr (spl 10 l)).length with | .inl p => impl_ReadActs.k_29 (tb l) p | .inr p => some p) := by
    simp only [impl_ReadActs, tb_size]
    rw [if_pos (by omega), hlines, hseq]
    have e : (mapO rdA (tr (spl 10 l))).map (([] : List GAct) ++ ·) = mapO rdA (tr (spl 10 l)) := by
      cases mapO rdA (tr (spl 10 l)) <;> rfl
    rw [e]
    simp only [List.length_nil, Nat.zero_add, Option.bind_some]
    cases seqR (mapO rdA (tr (spl 10 l))) (tr (spl 10 l)).length <;> rfl
  have hlast : ix ((xs ++ [y]).map tb) (w64 ((((xs ++ [y]).map tb).length : Int) - 1)) = some (tb y) := by
    have e : w64 ((((xs ++ [y]).map tb).length : Int) - 1) = (xs.length : Int) := by
      have : (xs ++ [y]).length ≤ l.length + 1 := by rw [← hxy]; exact hsl
      rw [List.length_map, w64_in (by simp) (by simp at this ⊢; omega)]
      simp
    rw [e, ix_lt (show xs.length < ((xs ++ [y]).map tb).length by simp)]
    simp
  have hxl : xs.length ≤ l.length := by
    have : (xs ++ [y]).length ≤ l.length + 1 := by rw [← hxy]; exact hsl
    simpa using this
  have ew : w64 ((((xs ++ [y]).map tb).length : Int) - 1) = (xs.length : Int) := by
    rw [List.length_map, w64_in (by simp) (by simp; omega)]
    simp
  have hspec : spec_ReadActs (tb l) = if y ≠ [] ∨ 60 < xs.length then some ([], (5 : Int)) else (match mapO rdA xs with | some cs => some (cs, (0 : Int)) | none => some ([], (5 : Int))) := by
    simp only [spec_ReadActs, hsp, hxy, Option.bind_some]
    rw [hlast, ew]
    simp only [Option.bind_some, e0, tlA_ne]
    by_cases c : y ≠ [] ∨ 60 < xs.length
    · rw [if_pos c, if_pos (by simp only [Bool.or_eq_true, Bool.not_eq_true', decide_eq_false_iff_not, decide_eq_true_eq]; rcases c with c | c; exact .inl c; exact .inr (by omega))]
    · rw [if_neg c, if_neg (by
        simp only [Bool.or_eq_true, Bool.not_eq_true', decide_eq_false_iff_not, decide_eq_true_eq]
        intro h; apply c
        rcases h with h | h
        · exact .inl h
        · exact .inr (by omega))]
      have := read_loop (f := spec_ReadActs.l_7 ((xs ++ [y]).map tb)) rdA xs (([] : List GAct), (5 : Int)) (by omega) (fun k hk zs hzs => by
        have hx : ix ((xs ++ [y]).map tb) (k : Int) = some (tb xs[k]) := by
          rw [ix_lt (show k < ((xs ++ [y]).map tb).length by simp; omega), List.getElem_map, List.getElem_append_left hk]
        have hxk : xs[k].length ≤ 1048576 := by
          have := (hsm xs[k] (by rw [hxy]; exact List.mem_append_left _ (List.getElem_mem hk))).1
          omega
        have e := specLine xs[k] hxk
        cases hr : rdA xs[k] with
        | none =>
          rw [hr] at e
          have e : spec_l06Read (tb xs[k]) = some (badA, false) := e
          simp only [spec_ReadActs.l_7, ew, hx, Option.bind_some, e]
          rw [if_pos (by simpa using hk), if_pos (by simp)]
          rfl
        | some a =>
          rw [hr] at e
          have e : spec_l06Read (tb xs[k]) = some (a, true) := e
          simp only [spec_ReadActs.l_7, ew, hx, Option.bind_some, e]
          rw [if_pos (by simpa using hk), w64_in (n := (k : Int) + 1) (by omega) (by omega), if_neg (by simp), if_pos (by simp; omega)]
          rfl) (fun zs => by
        simp only [spec_ReadActs.l_7, ew]
        rw [if_neg (by simp)])
      rw [this]
      cases mapO rdA xs <;> rfl
  rw [himpl, hspec, htr]
  by_cases hy : y = []
  · subst hy
    rw [if_pos rfl]
    simp only [ne_eq, not_true_eq_false, false_or]
    cases hm : mapO rdA xs with
    | none =>
      refine ⟨([], 5), rfl, ?_, by simp, by simp⟩
      split <;> rfl
    | some cs =>
      have hlen := mapO_len _ _ hm
      by_cases c : xs.length ≤ 60
      · rw [if_neg (by omega)]
        simp only [seqR]
        rw [if_pos c]
        have hA := mapO_all (q := fun a => toldB a = true ∧ ActIn a) (fun a b hab => (rdA_back hab).2) _ _ hm
        refine ⟨(cs, 0), ?_, rfl, by simp only; omega, fun a ha => (hA a ha).2⟩
        have ha : actsT cs = tb (cs.flatMap actT) := by rw [actsT, if_pos ⟨List.all_eq_true.2 fun a ha => (hA a ha).1, by omega⟩]
        simp only [impl_ReadActs.k_29, implActsText_is (fun a ha => (hA a ha).2) (show cs.length ≤ 2000000 by omega), Option.bind_some, ha]
        rw [if_neg (by
          rw [tlA_ne, acts_back xs cs hm]
          simp only [List.append_nil] at hcat
          simp [← hcat])]
      · rw [if_pos (by omega)]
        simp only [seqR]
        rw [if_neg c]
        exact ⟨([], 5), rfl, rfl, by simp, by simp⟩
  · rw [if_neg hy, if_pos (.inl hy)]
    refine ⟨([], 5), ?_, rfl, by simp, by simp⟩
    cases hm : mapO rdA (xs ++ [y]) with
    | none => rfl
    | some cs =>
      simp only [seqR]
      by_cases c : (xs ++ [y]).length ≤ 60
      · rw [if_pos c]
        have hlen := mapO_len _ _ hm
        have hA := mapO_all (q := fun a => toldB a = true ∧ ActIn a) (fun a b hab => (rdA_back hab).2) _ _ hm
        have ha : actsT cs = tb (cs.flatMap actT) := by rw [actsT, if_pos ⟨List.all_eq_true.2 fun a ha => (hA a ha).1, by omega⟩]
        simp only [impl_ReadActs.k_29, implActsText_is (fun a ha => (hA a ha).2) (show cs.length ≤ 2000000 by omega), Option.bind_some, ha]
        rw [if_pos (by
          rw [tlA_ne, acts_back _ cs hm]
          simp only [Bool.not_eq_true', decide_eq_false_iff_not]
          intro e
          rw [hcat] at e
          have := congrArg List.length e
          simp at this)]
      · rw [if_neg c]

end Go.Proofs.YtplklknkkaeniaaDoor
