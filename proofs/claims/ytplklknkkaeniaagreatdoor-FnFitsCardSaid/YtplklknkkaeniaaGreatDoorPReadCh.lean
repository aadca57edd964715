/- Choices read from a text, the program's way and the reference's. -/
import Derived.Test.YtplklknkkaeniaaGreatDoorM0
import Derived.Test.YtplklknkkaeniaaGreatDoorPFrame
import Derived.Test.YtplklknkkaeniaaGreatDoorPWear
import Derived.Test.YtplklknkkaeniaaGreatDoorPChoices
import Derived.Test.YtplklknkkaeniaaGreatDoorPFit
import Derived.Test.YtplklknkkaeniaaGreatDoorPTxt
import Derived.Test.YtplklknkkaeniaaGreatDoorPJoin
import Derived.Test.YtplklknkkaeniaaGreatDoorPChText
import Derived.Test.YtplklknkkaeniaaGreatDoorPNum
import Derived.Test.YtplklknkkaeniaaGreatDoorPSpl
import Derived.Test.YtplklknkkaeniaaGreatDoorPSigned
import Derived.Test.YtplklknkkaeniaaGreatDoorPMapO
import Derived.Test.YtplklknkkaeniaaGreatDoorPure
namespace Go.Proofs.YtplklknkkaeniaaGreatDoor
open Eng
set_option linter.unusedVariables false
set_option linter.unusedSimpArgs false

open Classical in
/-- a word read the reference's way: small numbers -/
noncomputable def rdW (w : List UInt8) : Option GChoice := if w = [120] then some ⟨true, 0, 0, 0⟩ else match spl 47 w with
  | [a, b, c] => if okS 99 a ∧ okS 99 b ∧ okS 99 c then some ⟨false, sval a, sval b, sval c⟩ else none
  | _ => none
open Classical in
/-- a word read the program's way -/
noncomputable def rdI (w : List UInt8) : Option GChoice := if w = [120] then some ⟨true, 0, 0, 0⟩ else match spl 47 w with
  | [a, b, c] => if okS 3 a ∧ okS 1 b ∧ (c = Lib.decDigits (val c) ∧ (val c : Int) ≤ 23) then some ⟨false, sval a, sval b, sval c⟩ else none
  | _ => none
theorem rdW_word {w : List UInt8} {x : GChoice} (h : rdW w = some x) : wordL x = w ∧ In8 x := by
  unfold rdW at h
  split at h
  · rename_i hw
    cases h
    rw [hw]
    refine ⟨by simp [wordL], by unfold In8; simp only; omega⟩
  · split at h
    · rename_i a b c hs
      split at h
      · rename_i hok
        cases h
        obtain ⟨a1, a2, a3⟩ := okS_itoa hok.1
        obtain ⟨b1, b2, b3⟩ := okS_itoa hok.2.1
        obtain ⟨c1, c2, c3⟩ := okS_itoa hok.2.2
        refine ⟨?_, by unfold In8; simp only; omega⟩
        have hj := join_spl 47 w
        rw [hs, join_cons2, join_cons2, join_one] at hj
        simp only [wordL, Bool.false_eq_true, if_false]
        rw [← a1, ← b1, ← c1, ← hj]
        simp [List.append_assoc]
      · cases h
    · cases h
theorem rdI_is (w : List UInt8) : rdI w = keepO choiceB (rdW w) := by
  unfold rdI rdW keepO
  by_cases hw : w = [120]
  · rw [if_pos hw, if_pos hw]; rfl
  · rw [if_neg hw, if_neg hw]
    match hs : spl 47 w with
    | [] => rfl
    | [_] => rfl
    | [_, _] => rfl
    | _ :: _ :: _ :: _ :: _ => rfl
    | [a, b, c] =>
      simp only
      by_cases h99 : okS 99 a ∧ okS 99 b ∧ okS 99 c
      · rw [if_pos h99]
        obtain ⟨a1, a2, a3⟩ := okS_itoa h99.1
        obtain ⟨b1, b2, b3⟩ := okS_itoa h99.2.1
        obtain ⟨c1, c2, c3⟩ := okS_itoa h99.2.2
        simp only
        have hch : choiceB ⟨false, sval a, sval b, sval c⟩ = true ↔ (-3 ≤ sval a ∧ sval a ≤ 3) ∧ (-1 ≤ sval b ∧ sval b ≤ 1) ∧ (0 ≤ sval c ∧ sval c ≤ 23) := by
          unfold choiceB
          simp only [Bool.false_eq_true, if_false, Bool.and_eq_true, decide_eq_true_eq]
          rw [w64_in (n := sval a) (by omega) (by omega), w64_in (n := sval b) (by omega) (by omega), w64_in (n := sval c) (by omega) (by omega)]
        by_cases hc : choiceB ⟨false, sval a, sval b, sval c⟩ = true
        · rw [if_pos hc, if_pos]
          have := hch.1 hc
          exact ⟨okS_le h99.1 (by omega) (by omega), okS_le h99.2.1 (by omega) (by omega), okS_plain.2 ⟨okS_le (C := 23) h99.2.2 (by omega) (by omega), by omega⟩⟩
        · rw [if_neg hc, if_neg]
          rintro ⟨h1, h2, h3⟩
          apply hc
          have e1 := okS_itoa h1
          have e2 := okS_itoa h2
          have e3 := okS_plain.1 h3
          have e4 := okS_itoa e3.1
          exact hch.2 ⟨by omega, by omega, by omega⟩
      · rw [if_neg h99, if_neg]
        rintro ⟨h1, h2, h3⟩
        have e1 := okS_itoa h1
        have e2 := okS_itoa h2
        have e3 := okS_plain.1 h3
        have e4 := okS_itoa e3.1
        exact h99 ⟨okS_le h1 (by omega) (by omega), okS_le h2 (by omega) (by omega), okS_le e3.1 (by omega) (by omega)⟩
/-! ### the reference -/
theorem tl_ne {a b : List UInt8} : ((tb a).toList == (tb b).toList) = decide (a = b) := by
  rw [tb_list, tb_list, Bool.eq_iff_iff]; simp
/-! ### the program -/
theorem implRead {ws : List (List UInt8)} (hl : ws.length ≤ 2000000) (hw : ∀ w ∈ ws, w.length ≤ 1048576) : loop (impl_ReadChoices.l_7 (ws.map tb)) (([] : List GChoice), 0) = some (resO (mapO rdI ws) (([] : List GChoice), (5 : Int))) := by
  refine read_loop rdI ws _ hl (fun k hk xs hxs => ?_) (fun xs => ?_)
  · have hkt : k < (ws.map tb).length := by simpa using hk
    have e120 : (ByteArray.mk #[120]) = tb [120] := rfl
    have e47 : (ByteArray.mk #[47]) = tb [47] := rfl
    have hwk := hw _ (List.getElem_mem hk)
    have hx : ix (ws.map tb) (k : Int) = some (tb ws[k]) := by rw [ix_lt hkt, List.getElem_map]
    simp only [impl_ReadChoices.l_7, hx, Option.bind_some, List.length_map, e120, e47, tl_ne, strings_Split, splitF_is ws[k] 47 hwk, impl_ReadChoices.k_14]
    rw [if_pos (by simpa using hk), w64_in (n := (k : Int) + 1) (by omega) (by omega)]
    have hap : ∀ y : GChoice, xs.length + [y].length ≤ 4294967296 := fun y => by simp; omega
    have hm := spl_mem (c := 47) ws[k]
    unfold rdI stepO
    by_cases h1 : ws[k] = [120]
    · rw [if_neg (by simpa using h1), if_pos (hap _), if_pos h1]; rfl
    · rw [if_pos (by simpa using h1), if_neg h1]
      match hs : spl 47 ws[k] with
      | [] => rw [if_pos (by simp)]
      | [_] => rw [if_pos (by simp)]
      | [_, _] => rw [if_pos (by simp)]
      | _ :: _ :: _ :: _ :: _ => rw [if_pos (by simp; omega)]
      | [a, b, c] =>
        rw [hs] at hm
        have ha := (hm a (by simp)).1
        have hb := (hm b (by simp)).1
        have hc := (hm c (by simp)).1
        rw [if_neg (by simp)]
        have x0 : ix (List.map tb [a, b, c]) 0 = some (tb a) := rfl
        have x1 : ix (List.map tb [a, b, c]) 1 = some (tb b) := rfl
        have x2 : ix (List.map tb [a, b, c]) 2 = some (tb c) := rfl
        obtain ⟨xa, qa, e1, f1, g1⟩ := implSigned_is (B := 3) a (by omega) (by omega)
        obtain ⟨xb, qb, e2, f2, g2⟩ := implSigned_is (B := 1) b (by omega) (by omega)
        simp only [x0, x1, x2, Option.bind_some, e1, e2, implNumber_is (most := 23) c (by omega) (by omega)]
        by_cases h2 : okS 3 a ∧ okS 1 b ∧ (c = Lib.decDigits (val c) ∧ (val c : Int) ≤ 23)
        · obtain ⟨rfl, rfl⟩ := f1 h2.1
          obtain ⟨rfl, rfl⟩ := f2 h2.2.1
          have o1 := okS_itoa h2.1
          have o2 := okS_itoa h2.2.1
          rw [if_pos h2.2.2, if_neg (by simp), if_pos (hap _), if_pos h2, w8_in (n := sval a) (by omega) (by omega), w8_in (n := sval b) (by omega) (by omega), w8_in (by omega) (by omega), sval_plain h2.2.2.1]
          rfl
        · rw [if_neg h2, if_pos]
          by_cases a1 : okS 3 a
          · by_cases b1 : okS 1 b
            · have c1 : ¬ (c = Lib.decDigits (val c) ∧ (val c : Int) ≤ 23) := fun c1 => h2 ⟨a1, b1, c1⟩
              rw [if_neg c1]; simp
            · rw [g2 b1]; simp
          · rw [g1 a1]; simp
  · simp only [impl_ReadChoices.l_7, List.length_map]
    rw [if_neg (by simp)]
end Go.Proofs.YtplklknkkaeniaaGreatDoor
