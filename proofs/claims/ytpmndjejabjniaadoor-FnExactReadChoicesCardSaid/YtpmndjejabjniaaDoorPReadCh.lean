/- Choices read from a text, the program's way and the reference's. -/
import Derived.Test.YtpmndjejabjniaaDoorM2
import Derived.Test.YtpmndjejabjniaaDoorM4
import Derived.Test.YtpmndjejabjniaaDoorPFrame
import Derived.Test.YtpmndjejabjniaaDoorPWear
import Derived.Test.YtpmndjejabjniaaDoorPChoices
import Derived.Test.YtpmndjejabjniaaDoorPFit
import Derived.Test.YtpmndjejabjniaaDoorPTxt
import Derived.Test.YtpmndjejabjniaaDoorPJoin
import Derived.Test.YtpmndjejabjniaaDoorPChText
import Derived.Test.YtpmndjejabjniaaDoorPNum
import Derived.Test.YtpmndjejabjniaaDoorPSpl
import Derived.Test.YtpmndjejabjniaaDoorPSigned
import Derived.Test.YtpmndjejabjniaaDoorPMapO
import Derived.Test.YtpmndjejabjniaaDoorPure
namespace Go.Proofs.YtpmndjejabjniaaDoor
open Eng
set_option linter.unusedVariables false
set_option linter.unusedSimpArgs false

open Classical in
/-- a word read the reference's way: small numbers -/
noncomputable def rdW (w : List UInt8) : Option GChoice := if w = [120] then some ⟨true, 0, 0, 0⟩ else match spl 47 w with
  | [a, b, c] => if okS 99 a ∧ okS 99 b ∧ okS 99 c then some ⟨false, sval a, sval b, sval c⟩ else none
  | _ => none
open Classical in
/-- a word read the program's way -/
noncomputable def rdI (w : List UInt8) : Option GChoice := if w = [120] then some ⟨true, 0, 0, 0⟩ else match spl 47 w with
  | [a, b, c] => if okS 3 a ∧ okS 1 b ∧ (c = Lib.decDigits (val c) ∧ (val c : Int) ≤ 23) then some ⟨false, sval a, sval b, sval c⟩ else none
  | _ => none
theorem rdW_word {w : List UInt8} {x : GChoice} (h : rdW w = some x) : wordL x = w ∧ In8 x := by
  unfold rdW at h
  split at h
  · rename_i hw
    cases h
    rw [hw]
    refine ⟨by simp [wordL], by unfold In8; simp only; omega⟩
  · split at h
    · rename_i a b c hs
      split at h
      · rename_i hok
        cases h
        obtain ⟨a1, a2, a3⟩ := okS_itoa hok.1
        obtain ⟨b1, b2, b3⟩ := okS_itoa hok.2.1
        obtain ⟨c1, c2, c3⟩ := okS_itoa hok.2.2
        refine ⟨?_, by unfold In8; simp only; omega⟩
        have hj := join_spl 47 w
        rw [hs, join_cons2, join_cons2, join_one] at hj
        simp only [wordL, Bool.false_eq_true, if_false]
        rw [← a1, ← b1, ← c1, ← hj]
        simp [List.append_assoc]
      · cases h
    · cases h
theorem rdI_is (w : List UInt8) : rdI w = keepO choiceB (rdW w) := by
  unfold rdI rdW keepO
  by_cases hw : w = [120]
  · rw [if_pos hw, if_pos hw]; rfl
  · rw [if_neg hw, if_neg hw]
    match hs : spl 47 w with
    | [] => rfl
    | [_] => rfl
    | [_, _] => rfl
    | _ :: _ :: _ :: _ :: _ => rfl
    | [a, b, c] =>
      simp only
      by_cases h99 : okS 99 a ∧ okS 99 b ∧ okS 99 c
      · rw [if_pos h99]
        obtain ⟨a1, a2, a3⟩ := okS_itoa h99.1
        obtain ⟨b1, b2, b3⟩ := okS_itoa h99.2.1
        obtain ⟨c1, c2, c3⟩ := okS_itoa h99.2.2
        simp only
        have hch : choiceB ⟨false, sval a, sval b, sval c⟩ = true ↔ (-3 ≤ sval a ∧ sval a ≤ 3) ∧ (-1 ≤ sval b ∧ sval b ≤ 1) ∧ (0 ≤ sval c ∧ sval c ≤ 23) := by
          unfold choiceB
          simp only [Bool.false_eq_true, if_false, Bool.and_eq_true, decide_eq_true_eq]
          rw [w64_in (n := sval a) (by omega) (by omega), w64_in (n := sval b) (by omega) (by omega), w64_in (n := sval c) (by omega) (by omega)]
        by_cases hc : choiceB ⟨false, sval a, sval b, sval c⟩ = true
        · rw [if_pos hc, if_pos]
          have := hch.1 hc
          exact ⟨okS_le h99.1 (by omega) (by omega), okS_le h99.2.1 (by omega) (by omega), okS_plain.2 ⟨okS_le (C := 23) h99.2.2 (by omega) (by omega), by omega⟩⟩
        · rw [if_neg hc, if_neg]
          rintro ⟨h1, h2, h3⟩
          apply hc
          have e1 := okS_itoa h1
          have e2 := okS_itoa h2
          have e3 := okS_plain.1 h3
          have e4 := okS_itoa e3.1
          exact hch.2 ⟨by omega, by omega, by omega⟩
      · rw [if_neg h99, if_neg]
        rintro ⟨h1, h2, h3⟩
        have e1 := okS_itoa h1
        have e2 := okS_itoa h2
        have e3 := okS_plain.1 h3
        have e4 := okS_itoa e3.1
        exact h99 ⟨okS_le h1 (by omega) (by omega), okS_le h2 (by omega) (by omega), okS_le e3.1 (by omega) (by omega)⟩
/-! ### the reference -/
theorem tl_ne {a b : List UInt8} : ((tb a).toList == (tb b).toList) = decide (a = b) := by
  rw [tb_list, tb_list, Bool.eq_iff_iff]; simp
theorem specRead {ws : List (List UInt8)} (hl : ws.length ≤ 2000000) (hw : ∀ w ∈ ws, w.length ≤ 1048576) : loop (spec_ReadChoices.l_7 (ws.map tb)) (([] : List GChoice), 0) = some (resO (mapO rdW ws) (([] : List GChoice), (5 : Int))) := by
  refine read_loop rdW ws _ hl (fun k hk xs hxs => ?_) (fun xs => ?_)
  · have hkt : k < (ws.map tb).length := by simpa using hk
    have e120 : (ByteArray.mk #[120]) = tb [120] := rfl
    have hwk := hw _ (List.getElem_mem hk)
    have hx : ix (ws.map tb) (k : Int) = some (tb ws[k]) := by rw [ix_lt hkt, List.getElem_map]
    simp only [spec_ReadChoices.l_7, hx, Option.bind_some, List.length_map, e120, tl_ne]
    rw [if_pos (by simpa using hk), w64_in (n := (k : Int) + 1) (by omega) (by omega)]
    have hap : ∀ y : GChoice, xs.length + [y].length ≤ 4294967296 := fun y => by simp; omega
    unfold rdW stepO
    by_cases h1 : ws[k] = [120]
    · rw [if_pos (by simpa using h1), if_pos (hap _), if_pos h1]; rfl
    · rw [if_neg (by simpa using h1), if_neg h1]
      have hsp := specSplit_is ws[k] 47 hwk
      rw [show (((47 : UInt8).toNat : Nat) : Int) = 47 from rfl] at hsp
      have hm := spl_mem (c := 47) ws[k]
      rw [hsp]
      simp only [Option.bind_some, List.length_map]
      match hs : spl 47 ws[k] with
      | [] => rw [if_pos (by simp)]
      | [_] => rw [if_pos (by simp)]
      | [_, _] => rw [if_pos (by simp)]
      | _ :: _ :: _ :: _ :: _ => rw [if_pos (by simp; omega)]
      | [a, b, c] =>
        rw [hs] at hm
        have ha := (hm a (by simp)).1
        have hb := (hm b (by simp)).1
        have hc := (hm c (by simp)).1
        rw [if_neg (by simp)]
        have x0 : ix (List.map tb [a, b, c]) 0 = some (tb a) := rfl
        have x1 : ix (List.map tb [a, b, c]) 1 = some (tb b) := rfl
        have x2 : ix (List.map tb [a, b, c]) 2 = some (tb c) := rfl
        simp only [x0, x1, x2, Option.bind_some, specSmall_is a (by omega), specSmall_is b (by omega), specSmall_is c (by omega)]
        by_cases h2 : okS 99 a ∧ okS 99 b ∧ okS 99 c
        · rw [if_pos h2.1, if_pos h2.2.1, if_pos h2.2.2, if_neg (by simp), if_pos (hap _), if_pos h2]; rfl
        · rw [if_neg h2, if_pos]
          by_cases a1 : okS 99 a
          · by_cases b1 : okS 99 b
            · have c1 : ¬ okS 99 c := fun c1 => h2 ⟨a1, b1, c1⟩
              rw [if_neg c1]; simp
            · rw [if_neg b1]; simp
          · rw [if_neg a1]; simp
  · simp only [spec_ReadChoices.l_7, List.length_map]
    rw [if_neg (by simp)]
/-! ### the program -/
theorem implRead {ws : List (List UInt8)} (hl : ws.length ≤ 2000000) (hw : ∀ w ∈ ws, w.length ≤ 1048576) : loop (impl_ReadChoices.l_7 (ws.map tb)) (([] : List GChoice), 0) = some (resO (mapO rdI ws) (([] : List GChoice), (5 : Int))) := by
  refine read_loop rdI ws _ hl (fun k hk xs hxs => ?_) (fun xs => ?_)
  · have hkt : k < (ws.map tb).length := by simpa using hk
    have e120 : (ByteArray.mk #[120]) = tb [120] := rfl
    have e47 : (ByteArray.mk #[47]) = tb [47] := rfl
    have hwk := hw _ (List.getElem_mem hk)
    have hx : ix (ws.map tb) (k : Int) = some (tb ws[k]) := by rw [ix_lt hkt, List.getElem_map]
    simp only [impl_ReadChoices.l_7, hx, Option.bind_some, List.length_map, e120, e47, tl_ne, strings_Split, splitF_is ws[k] 47 hwk, impl_ReadChoices.k_14]
    rw [if_pos (by simpa using hk), w64_in (n := (k : Int) + 1) (by omega) (by omega)]
    have hap : ∀ y : GChoice, xs.length + [y].length ≤ 4294967296 := fun y => by simp; omega
    have hm := spl_mem (c := 47) ws[k]
    unfold rdI stepO
    by_cases h1 : ws[k] = [120]
    · rw [if_neg (by simpa using h1), if_pos (hap _), if_pos h1]; rfl
    · rw [if_pos (by simpa using h1), if_neg h1]
      match hs : spl 47 ws[k] with
      | [] => rw [if_pos (by simp)]
      | [_] => rw [if_pos (by simp)]
      | [_, _] => rw [if_pos (by simp)]
      | _ :: _ :: _ :: _ :: _ => rw [if_pos (by simp; omega)]
      | [a, b, c] =>
        rw [hs] at hm
        have ha := (hm a (by simp)).1
        have hb := (hm b (by simp)).1
        have hc := (hm c (by simp)).1
        rw [if_neg (by simp)]
        have x0 : ix (List.map tb [a, b, c]) 0 = some (tb a) := rfl
        have x1 : ix (List.map tb [a, b, c]) 1 = some (tb b) := rfl
        have x2 : ix (List.map tb [a, b, c]) 2 = some (tb c) := rfl
        obtain ⟨xa, qa, e1, f1, g1⟩ := implSigned_is (B := 3) a (by omega) (by omega)
        obtain ⟨xb, qb, e2, f2, g2⟩ := implSigned_is (B := 1) b (by omega) (by omega)
        simp only [x0, x1, x2, Option.bind_some, e1, e2, implNumber_is (most := 23) c (by omega) (by omega)]
        by_cases h2 : okS 3 a ∧ okS 1 b ∧ (c = Lib.decDigits (val c) ∧ (val c : Int) ≤ 23)
        · obtain ⟨rfl, rfl⟩ := f1 h2.1
          obtain ⟨rfl, rfl⟩ := f2 h2.2.1
          have o1 := okS_itoa h2.1
          have o2 := okS_itoa h2.2.1
          rw [if_pos h2.2.2, if_neg (by simp), if_pos (hap _), if_pos h2, w8_in (n := sval a) (by omega) (by omega), w8_in (n := sval b) (by omega) (by omega), w8_in (by omega) (by omega), sval_plain h2.2.2.1]
          rfl
        · rw [if_neg h2, if_pos]
          by_cases a1 : okS 3 a
          · by_cases b1 : okS 1 b
            · have c1 : ¬ (c = Lib.decDigits (val c) ∧ (val c : Int) ≤ 23) := fun c1 => h2 ⟨a1, b1, c1⟩
              rw [if_neg c1]; simp
            · rw [g2 b1]; simp
          · rw [g1 a1]; simp
  · simp only [impl_ReadChoices.l_7, List.length_map]
    rw [if_neg (by simp)]
/-! ### both -/
theorem readChoices_same (l : List UInt8) (hl : l.length ≤ 1048576) : ∃ r, impl_ReadChoices (tb l) = some r ∧ spec_ReadChoices (tb l) = some r ∧ r.1.length ≤ 120 := by
  have e0 : (ByteArray.mk #[]) = tb [] := rfl
  have e32 : (ByteArray.mk #[32]) = tb [32] := rfl
  simp only [impl_ReadChoices, spec_ReadChoices, e0, tl_ne, e32, strings_Split, splitF_is l 32 hl]
  by_cases h0 : l = []
  · rw [if_pos (by simpa using h0), if_pos (by simpa using h0)]
    exact ⟨_, rfl, rfl, by simp⟩
  · rw [if_neg (by simpa using h0), if_neg (by simpa using h0)]
    have hsp := specSplit_is l 32 hl
    rw [show (((32 : UInt8).toNat : Nat) : Int) = 32 from rfl] at hsp
    have hsl := spl_len 32 l
    have hsm : ∀ w ∈ spl 32 l, w.length ≤ 1048576 := fun w hw => by have := (spl_mem l w hw).1; omega
    rw [hsp]
    simp only [Option.bind_some, implRead (show (spl 32 l).length ≤ 2000000 by omega) hsm, specRead (show (spl 32 l).length ≤ 2000000 by omega) hsm, mapO_narrow (g := rdW) choiceB rdI_is]
    cases hm : mapO rdW (spl 32 l) with
    | none => exact ⟨([], 5), rfl, rfl, by simp⟩
    | some cs =>
      simp only [keepO, resO]
      have hlen := mapO_len _ _ hm
      have hback := mapO_back wordL (fun a b hab => (rdW_word hab).1) _ _ hm
      have hin := mapO_all (q := In8) (fun a b hab => (rdW_word hab).2) _ _ hm
      simp only [spec_ReadChoices.k_3, l07Choices_is cs (by omega), Option.bind_some]
      by_cases ha : cs.all choiceB = true
      · rw [if_pos ha]
        simp only [impl_ReadChoices.k_3, implChoicesText_is hin (by omega), Option.bind_some, choicesT]
        by_cases hc : cs.length ≤ 120
        · rw [if_pos (show cs.all choiceB = true ∧ cs.length ≤ 120 from ⟨ha, hc⟩), hback, join_spl, if_neg (by simp), if_neg (by simp [ha]; omega)]
          exact ⟨_, rfl, rfl, by simp only; omega⟩
        · rw [if_neg (show ¬ (cs.all choiceB = true ∧ cs.length ≤ 120) from fun hh => hc hh.2), if_pos (by
            rw [tl_ne]
            simp only [Bool.not_eq_true', decide_eq_false_iff_not]
            exact fun hh => h0 hh.symm), if_pos (by simp; omega)]
          exact ⟨_, rfl, rfl, by simp⟩
      · rw [if_neg ha, if_pos (by simp [Bool.eq_false_iff.2 ha])]
        exact ⟨_, rfl, rfl, by simp⟩

end Go.Proofs.YtpmndjejabjniaaDoor
