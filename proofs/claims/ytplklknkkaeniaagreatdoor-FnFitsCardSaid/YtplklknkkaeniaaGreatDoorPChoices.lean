/- The choices for a note: the program's are the reference's. -/
import Derived.Test.YtplklknkkaeniaaGreatDoorM0
import Derived.Test.YtplklknkkaeniaaGreatDoorM1
import Derived.Test.YtplklknkkaeniaaGreatDoorPFrame
import Derived.Test.YtplklknkkaeniaaGreatDoorPure
namespace Go.Proofs.YtplklknkkaeniaaGreatDoor
open Eng
set_option linter.unusedVariables false
set_option linter.unusedSimpArgs false

theorem nearest_same (m : Int) : impl_nearest m = spec_l07Signed m := by
  have : impl_nearest.l_5 m = spec_l07Signed.l_5 m := by
    funext ⟨xs, i⟩
    rfl
  simp only [impl_nearest, spec_l07Signed, this]
  rfl
theorem signed1 : spec_l07Signed 1 = some [0, -1, 1] := by
  simp only [spec_l07Signed]
  rw [loop_eq, show spec_l07Signed.l_5 1 ([0], 1) = some (.inl ([0, -1, 1], 2)) by rfl]
  simp only
  rw [loop_eq, show spec_l07Signed.l_5 1 ([0, -1, 1], 2) = some (.inr [0, -1, 1]) by rfl]
  rfl
theorem signed3 : spec_l07Signed 3 = some [0, -1, 1, -2, 2, -3, 3] := by
  simp only [spec_l07Signed]
  rw [loop_eq, show spec_l07Signed.l_5 3 ([0], 1) = some (.inl ([0, -1, 1], 2)) by rfl]
  simp only
  rw [loop_eq, show spec_l07Signed.l_5 3 ([0, -1, 1], 2) = some (.inl ([0, -1, 1, -2, 2], 3)) by rfl]
  simp only
  rw [loop_eq, show spec_l07Signed.l_5 3 ([0, -1, 1, -2, 2], 3) = some (.inl ([0, -1, 1, -2, 2, -3, 3], 4)) by rfl]
  simp only
  rw [loop_eq, show spec_l07Signed.l_5 3 ([0, -1, 1, -2, 2, -3, 3], 4) = some (.inr [0, -1, 1, -2, 2, -3, 3]) by rfl]
  rfl

def mt (f : GFrame) (n : GNote) (late oct : Int) (k : Nat) : List GChoice :=
  if (f.fHammers[k]?.map (·.fPitch)) = some (w8 (n.fPitch + (w8 (12 * oct)))) then [(⟨false, late, oct, w8 (k : Int)⟩ : GChoice)] else []
theorem mt_len (f : GFrame) (n : GNote) (late oct : Int) (k : Nat) : (mt f n late oct k).length ≤ 1 := by
  unfold mt; split <;> simp
def tk (f : GFrame) (n : GNote) (late oct : Int) : List GChoice := (List.range f.fHammers.length).flatMap (mt f n late oct)
theorem tk_len (f : GFrame) (n : GNote) (late oct : Int) : (tk f n late oct).length ≤ f.fHammers.length * 1 := app_len _ _ _ (fun k _ => mt_len f n late oct k)
def atB (f : GFrame) (n : GNote) (late : Int) : Bool := (decide ((w64 ((w64 n.fAt) + (w64 late))) ≥ 0)) && (decide ((w64 ((w64 n.fAt) + (w64 late))) ≤ (w64 ((w64 f.fSteps) - 1))))
def oc (f : GFrame) (n : GNote) (late : Int) (i : Nat) : List GChoice := match [(0 : Int), -1, 1][i]? with | some o => tk f n late o | none => []
def la (f : GFrame) (n : GNote) (i : Nat) : List GChoice := match [(0 : Int), -1, 1, -2, 2, -3, 3][i]? with
  | some l => if atB f n l = true then (List.range 3).flatMap (oc f n l) else []
  | none => []
theorem oc_len (f : GFrame) (n : GNote) (late : Int) (i : Nat) (hf : f.fHammers.length ≤ 24) : (oc f n late i).length ≤ 24 := by
  unfold oc
  split
  · rename_i o _; have := tk_len f n late o; omega
  · simp
theorem la_len (f : GFrame) (n : GNote) (i : Nat) (hf : f.fHammers.length ≤ 24) : (la f n i).length ≤ 72 := by
  unfold la
  split
  · split
    · rename_i l _ _; have := app_len 3 24 (oc f n l) (fun k _ => oc_len f n l k hf); omega
    · simp
  · simp
theorem get3 (k : Nat) (h : k < 3) : ∃ o, [(0 : Int), -1, 1][k]? = some o ∧ -1 ≤ o ∧ o ≤ 1 ∧ ix [(0 : Int), -1, 1] (k : Int) = some o := by
  match k, h with
  | 0, _ => exact ⟨0, rfl, by omega, by omega, rfl⟩
  | 1, _ => exact ⟨-1, rfl, by omega, by omega, rfl⟩
  | 2, _ => exact ⟨1, rfl, by omega, by omega, rfl⟩
theorem get7 (k : Nat) (h : k < 7) : ∃ o, [(0 : Int), -1, 1, -2, 2, -3, 3][k]? = some o ∧ ix [(0 : Int), -1, 1, -2, 2, -3, 3] (k : Int) = some o := by
  match k, h with
  | 0, _ => exact ⟨_, rfl, rfl⟩
  | 1, _ => exact ⟨_, rfl, rfl⟩
  | 2, _ => exact ⟨_, rfl, rfl⟩
  | 3, _ => exact ⟨_, rfl, rfl⟩
  | 4, _ => exact ⟨_, rfl, rfl⟩
  | 5, _ => exact ⟨_, rfl, rfl⟩
  | 6, _ => exact ⟨_, rfl, rfl⟩

/-! the reference -/
theorem s21 (f : GFrame) (n : GNote) (i j : Nat) (l o : Int) (hf : f.fHammers.length ≤ 24) (xs : List GChoice) (hx : xs.length ≤ 1000)
    (hl : ix [(0 : Int), -1, 1, -2, 2, -3, 3] (i : Int) = some l) (ho : ix [(0 : Int), -1, 1] (j : Int) = some o) :
    loop (spec_l07For.l_21 f n [0, -1, 1, -2, 2, -3, 3] [0, -1, 1] (i : Int) (j : Int)) (xs, 0) = some (xs ++ tk f n l o) := by
  refine loop_app f.fHammers.length 1 (by omega) (mt f n l o) xs (fun k _ => mt_len f n l o k) (fun ys k hk hy => ?_) (fun ys => by simp [spec_l07For.l_21])
  simp only [spec_l07For.l_21, ix_lt hk, hl, ho, Option.bind_some]
  rw [if_pos (by simpa using hk)]
  unfold mt
  rw [List.getElem?_eq_getElem hk]
  by_cases he : f.fHammers[k].fPitch = w8 (n.fPitch + w8 (12 * o))
  · rw [if_pos (by simpa using he), if_pos (by simp; omega), if_pos (by simpa using he)]
  · rw [if_neg (by simpa using he), if_neg (by simpa using he), List.append_nil]
theorem s15 (f : GFrame) (n : GNote) (i : Nat) (l : Int) (hf : f.fHammers.length ≤ 24) (xs : List GChoice) (hx : xs.length ≤ 800)
    (hl : ix [(0 : Int), -1, 1, -2, 2, -3, 3] (i : Int) = some l) :
    loop (spec_l07For.l_15 f n [0, -1, 1, -2, 2, -3, 3] [0, -1, 1] (i : Int)) (xs, 0) = some (xs ++ (List.range 3).flatMap (oc f n l)) := by
  refine loop_app 3 24 (by omega) (oc f n l) xs (fun k _ => oc_len f n l k hf) (fun ys k hk hy => ?_) (fun ys => by simp [spec_l07For.l_15])
  obtain ⟨o, ho, _, _, hi⟩ := get3 k hk
  simp only [spec_l07For.l_15, s21 f n i k l o hf ys (by omega) hl hi, Option.bind_some, spec_l07For.k_18]
  rw [if_pos (by simp; omega)]
  unfold oc
  rw [ho]
theorem s7 (f : GFrame) (n : GNote) (hf : f.fHammers.length ≤ 24) :
    loop (spec_l07For.l_7 f n [0, -1, 1, -2, 2, -3, 3] [0, -1, 1]) ([], 0) = some ([] ++ (List.range 7).flatMap (la f n)) := by
  refine loop_app 7 72 (by omega) (la f n) [] (fun k _ => la_len f n k hf) (fun ys k hk hy => ?_) (fun ys => by simp [spec_l07For.l_7])
  obtain ⟨l, hl, hi⟩ := get7 k hk
  simp only [spec_l07For.l_7, hi, Option.bind_some, spec_l00In]
  rw [if_pos (by simp; omega)]
  have hy' : ys.length ≤ 504 := by simpa using hy
  unfold la
  rw [hl]
  have e : ((decide (w64 (w64 n.fAt + w64 l) ≥ 0)) && (decide (w64 (w64 n.fAt + w64 l) ≤ w64 (w64 f.fSteps - 1)))) = atB f n l := rfl
  rw [e]
  by_cases ha : atB f n l = true
  · rw [if_neg (by simp [ha]), s15 f n k l hf ys (by omega) hi]
    simp only [Option.bind_some, spec_l07For.k_12, ha, if_true]
  · rw [if_pos (by simpa using ha)]
    simp [ha]
theorem specFor (f : GFrame) (n : GNote) (hf : f.fHammers.length ≤ 24) : spec_l07For f n = some ((List.range 7).flatMap (la f n) ++ [⟨true, 0, 0, 0⟩]) := by
  simp only [spec_l07For, signed1, signed3, Option.bind_some, s7 f n hf, spec_l07For.k_4, List.nil_append]
  have := app_len 7 72 (la f n) (fun k _ => la_len f n k hf)
  rw [if_pos (by simp only [List.length_cons, List.length_nil]; omega)]

/-! the program -/
theorem i21 (f : GFrame) (n : GNote) (l o : Int) (hf : f.fHammers.length ≤ 24) (hh : ∀ y ∈ f.fHammers, -128 ≤ y.fPitch ∧ y.fPitch ≤ 127) (hn0 : 0 ≤ n.fPitch) (hn1 : n.fPitch ≤ 47) (ho0 : -1 ≤ o) (ho1 : o ≤ 1) (xs : List GChoice) (hx : xs.length ≤ 1000) :
    loop (impl_Frame_choices.l_21 f n l o) (xs, 0) = some (xs ++ if atB f n l = true then tk f n l o else []) := by
  have H := loop_app (f := impl_Frame_choices.l_21 f n l o) f.fHammers.length 1 (by omega) (fun k => if atB f n l = true then mt f n l o k else []) xs (fun k _ => by
      split
      · exact mt_len f n l o k
      · simp) (fun ys k hk hy => by
      have hp := hh _ (List.getElem_mem hk)
      have e : (impl_within (w64 ((w64 n.fAt) + (w64 l))) 0 (w64 ((w64 f.fSteps) - 1))) = some (atB f n l) := by rw [within_in]; rfl
      have e2 : w8 (n.fPitch + w8 (12 * o)) = n.fPitch + 12 * o := by rw [w8_in (n := 12 * o) (by omega) (by omega), w8_in (by omega) (by omega)]
      have e3 : w64 ((w64 n.fPitch) + (w64 (12 * (w64 o)))) = n.fPitch + 12 * o := by
        rw [w64_in (n := o) (by omega) (by omega), w64_in (n := 12 * o) (by omega) (by omega), w64_in (n := n.fPitch) (by omega) (by omega), w64_in (by omega) (by omega)]
      have e4 : w64 f.fHammers[k].fPitch = f.fHammers[k].fPitch := w64_in (by omega) (by omega)
      simp only [impl_Frame_choices.l_21, ix_lt hk, e, e3, e4, Option.bind_some]
      rw [if_pos (by simpa using hk)]
      unfold mt
      rw [List.getElem?_eq_getElem hk, e2]
      by_cases ha : atB f n l = true
      · by_cases he : f.fHammers[k].fPitch = n.fPitch + 12 * o
        · rw [if_pos (by simp [ha, he]), if_pos (by simp; omega), if_pos ha, if_pos (by simpa using he)]
        · rw [if_neg (by simp [he]), if_pos ha, if_neg (by simpa using he), List.append_nil]
      · rw [if_neg (by simp [ha]), if_neg ha, List.append_nil]) (fun ys => by simp [impl_Frame_choices.l_21])
  rw [H]
  by_cases ha : atB f n l = true
  · simp [ha, tk]
  · simp [ha]
theorem i14 (f : GFrame) (n : GNote) (l : Int) (hf : f.fHammers.length ≤ 24) (hh : ∀ y ∈ f.fHammers, -128 ≤ y.fPitch ∧ y.fPitch ≤ 127) (hn0 : 0 ≤ n.fPitch) (hn1 : n.fPitch ≤ 47) (xs : List GChoice) (hx : xs.length ≤ 800) :
    loop (impl_Frame_choices.l_14 f n l [0, -1, 1]) (xs, 0) = some (xs ++ if atB f n l = true then (List.range 3).flatMap (oc f n l) else []) := by
  have H := loop_app (f := impl_Frame_choices.l_14 f n l [0, -1, 1]) 3 24 (by omega) (fun k => if atB f n l = true then oc f n l k else []) xs (fun k _ => by
      split
      · exact oc_len f n l k hf
      · simp) (fun ys k hk hy => by
      obtain ⟨o, ho, h0, h1, hi⟩ := get3 k hk
      simp only [impl_Frame_choices.l_14, hi, i21 f n l o hf hh hn0 hn1 h0 h1 ys (by omega), Option.bind_some, impl_Frame_choices.k_18]
      rw [if_pos (by simp; omega)]
      unfold oc
      rw [ho]) (fun ys => by simp [impl_Frame_choices.l_14])
  rw [H]
  by_cases ha : atB f n l = true
  · simp [ha]
  · simp [ha]
theorem i6 (f : GFrame) (n : GNote) (hf : f.fHammers.length ≤ 24) (hh : ∀ y ∈ f.fHammers, -128 ≤ y.fPitch ∧ y.fPitch ≤ 127) (hn0 : 0 ≤ n.fPitch) (hn1 : n.fPitch ≤ 47) :
    loop (impl_Frame_choices.l_6 f n [0, -1, 1, -2, 2, -3, 3]) ([], 0) = some ([] ++ (List.range 7).flatMap (la f n)) := by
  refine loop_app 7 72 (by omega) (la f n) [] (fun k _ => la_len f n k hf) (fun ys k hk hy => ?_) (fun ys => by simp [impl_Frame_choices.l_6])
  obtain ⟨l, hl, hi⟩ := get7 k hk
  have hy' : ys.length ≤ 504 := by simpa using hy
  simp only [impl_Frame_choices.l_6, hi, Option.bind_some, nearest_same, signed1, i14 f n l hf hh hn0 hn1 ys (by omega), impl_Frame_choices.k_11]
  rw [if_pos (by simp; omega)]
  unfold la
  rw [hl]
theorem implFor (f : GFrame) (n : GNote) (hf : f.fHammers.length ≤ 24) (hh : ∀ y ∈ f.fHammers, -128 ≤ y.fPitch ∧ y.fPitch ≤ 127) (hn0 : 0 ≤ n.fPitch) (hn1 : n.fPitch ≤ 47) : impl_Frame_choices f n = some ((List.range 7).flatMap (la f n) ++ [⟨true, 0, 0, 0⟩]) := by
  simp only [impl_Frame_choices, nearest_same, signed3, Option.bind_some, i6 f n hf hh hn0 hn1, impl_Frame_choices.k_3, List.nil_append]
  have := app_len 7 72 (la f n) (fun k _ => la_len f n k hf)
  rw [if_pos (by simp only [List.length_cons, List.length_nil]; omega)]


/-- all choices for a note -/
def allFor (f : GFrame) (n : GNote) : List GChoice := (List.range 7).flatMap (la f n) ++ [⟨true, 0, 0, 0⟩]
theorem allFor_len (f : GFrame) (n : GNote) (hf : f.fHammers.length ≤ 24) : (allFor f n).length ≤ 505 := by
  have := app_len 7 72 (la f n) (fun k _ => la_len f n k hf)
  simp only [allFor, List.length_append, List.length_cons, List.length_nil]; omega
theorem l07For_is {f : GFrame} (hf : FOk f) (n : GNote) : spec_l07For f n = some (allFor f n) := specFor f n hf.h1
theorem choices_is {f : GFrame} (hf : FOk f) {n : GNote} (hn0 : 0 ≤ n.fPitch) (hn1 : n.fPitch ≤ 47) : impl_Frame_choices f n = some (allFor f n) :=
  implFor f n hf.h1 (fun y hy => by have := hf.hp y hy; omega) hn0 hn1
/-- what is among the choices -/
theorem mem_allFor {f : GFrame} (hf : FOk f) {n : GNote} (ha : 0 ≤ n.fAt ∧ n.fAt ≤ 199) (hp : 0 ≤ n.fPitch ∧ n.fPitch ≤ 47) (x : GChoice) :
    x ∈ allFor f n ↔ x = ⟨true, 0, 0, 0⟩ ∨ (x.fAway = false ∧ (-3 ≤ x.fLate ∧ x.fLate ≤ 3) ∧ (-1 ≤ x.fOctave ∧ x.fOctave ≤ 1) ∧ (0 ≤ n.fAt + x.fLate ∧ n.fAt + x.fLate < f.fSteps) ∧ ∃ k : Nat, k < f.fHammers.length ∧ x.fTrack = (k : Int) ∧ (f.fHammers[k]?.map (·.fPitch)) = some (n.fPitch + 12 * x.fOctave)) := by
  have hs0 := hf.s0; have hs1 := hf.s1; have hh1 := hf.h1
  have hat : ∀ l : Int, -3 ≤ l → l ≤ 3 → (atB f n l = true ↔ 0 ≤ n.fAt + l ∧ n.fAt + l < f.fSteps) := by
    intro l h0 h1
    unfold atB
    rw [w64_in (n := n.fAt) (by omega) (by omega), w64_in (n := l) (by omega) (by omega), w64_in (n := n.fAt + l) (by omega) (by omega), w64_in (n := f.fSteps) (by omega) (by omega), w64_in (n := f.fSteps - 1) (by omega) (by omega)]
    simp only [ge_iff_le, Bool.and_eq_true, decide_eq_true_eq]
    omega
  have hmt : ∀ (l o : Int) (k : Nat), k < f.fHammers.length → -1 ≤ o → o ≤ 1 → (x ∈ mt f n l o k ↔ (f.fHammers[k]?.map (·.fPitch)) = some (n.fPitch + 12 * o) ∧ x = ⟨false, l, o, (k : Int)⟩) := by
    intro l o k hk h0 h1
    unfold mt
    rw [w8_in (n := 12 * o) (by omega) (by omega), w8_in (n := n.fPitch + 12 * o) (by omega) (by omega), w8_in (n := (k : Int)) (by omega) (by omega)]
    split
    · rename_i h; simp [h]
    · rename_i h; simp [h]
  have h7 : ∀ i, i < 7 → ∃ l, [(0 : Int), -1, 1, -2, 2, -3, 3][i]? = some l ∧ -3 ≤ l ∧ l ≤ 3 := by
    intro i hi
    match i, hi with
    | 0, _ => exact ⟨_, rfl, by omega, by omega⟩
    | 1, _ => exact ⟨_, rfl, by omega, by omega⟩
    | 2, _ => exact ⟨_, rfl, by omega, by omega⟩
    | 3, _ => exact ⟨_, rfl, by omega, by omega⟩
    | 4, _ => exact ⟨_, rfl, by omega, by omega⟩
    | 5, _ => exact ⟨_, rfl, by omega, by omega⟩
    | 6, _ => exact ⟨_, rfl, by omega, by omega⟩
  unfold allFor
  rw [List.mem_append, List.mem_flatMap, List.mem_singleton]
  constructor
  · rintro (⟨i, hi, hx⟩ | rfl)
    · right
      obtain ⟨l, hl, hl0, hl1⟩ := h7 i (by simpa using hi)
      unfold la at hx
      rw [hl] at hx
      simp only at hx
      split at hx
      · rename_i hatl
        rw [List.mem_flatMap] at hx
        obtain ⟨j, hj, hx⟩ := hx
        obtain ⟨o, ho, ho0, ho1, _⟩ := get3 j (by simpa using hj)
        unfold oc at hx
        rw [ho] at hx
        simp only [tk, List.mem_flatMap] at hx
        obtain ⟨k, hk, hx⟩ := hx
        have hk : k < f.fHammers.length := by simpa using hk
        obtain ⟨h1, rfl⟩ := (hmt l o k hk ho0 ho1).1 hx
        exact ⟨rfl, ⟨hl0, hl1⟩, ⟨ho0, ho1⟩, (hat l hl0 hl1).1 hatl, k, hk, rfl, h1⟩
      · simp at hx
    · exact .inl rfl
  · rintro (rfl | ⟨h1, ⟨h2, h3⟩, ⟨h4, h5⟩, h6, k, hk, h7', h8⟩)
    · exact .inr rfl
    · left
      obtain ⟨aw, l, o, tr⟩ := x
      simp only at h1 h2 h3 h4 h5 h6 h7' h8
      subst h1 h7'
      have hi : ∃ i, i < 7 ∧ [(0 : Int), -1, 1, -2, 2, -3, 3][i]? = some l := by
        have : l = 0 ∨ l = -1 ∨ l = 1 ∨ l = -2 ∨ l = 2 ∨ l = -3 ∨ l = 3 := by omega
        rcases this with rfl | rfl | rfl | rfl | rfl | rfl | rfl
        · exact ⟨0, by omega, rfl⟩
        · exact ⟨1, by omega, rfl⟩
        · exact ⟨2, by omega, rfl⟩
        · exact ⟨3, by omega, rfl⟩
        · exact ⟨4, by omega, rfl⟩
        · exact ⟨5, by omega, rfl⟩
        · exact ⟨6, by omega, rfl⟩
      have hj : ∃ j, j < 3 ∧ [(0 : Int), -1, 1][j]? = some o := by
        have : o = 0 ∨ o = -1 ∨ o = 1 := by omega
        rcases this with rfl | rfl | rfl
        · exact ⟨0, by omega, rfl⟩
        · exact ⟨1, by omega, rfl⟩
        · exact ⟨2, by omega, rfl⟩
      obtain ⟨i, hi1, hi2⟩ := hi
      obtain ⟨j, hj1, hj2⟩ := hj
      refine ⟨i, by simpa using hi1, ?_⟩
      unfold la
      rw [hi2]
      simp only
      rw [if_pos ((hat l h2 h3).2 h6), List.mem_flatMap]
      refine ⟨j, by simpa using hj1, ?_⟩
      unfold oc
      rw [hj2]
      simp only [tk, List.mem_flatMap]
      exact ⟨k, by simpa using hk, (hmt l o k hk h4 h5).2 ⟨h8, rfl⟩⟩

end Go.Proofs.YtplklknkkaeniaaGreatDoor
