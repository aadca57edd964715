/- The choices for a note: the program's answers are the reference's; the law's plain function answers true at every input that a caller can hand in. -/
import Derived.Test.YtdnkjgmncfhejaaP1
namespace Go.Proofs.Ytdnkjgmncfhejaa
open Eng
set_option linter.unusedVariables false
set_option linter.unusedSimpArgs false

/-- a loop that appends to a list, round by round -/
theorem loop_app {S : Type} {f : List S × Int → Option ((List S × Int) ⊕ List S)} (n m : Nat) (hn : n ≤ 9223372036854775807) (h : Nat → List S) (xs0 : List S) (hm : ∀ k, k < n → (h k).length ≤ m)
    (hf : ∀ xs k, k < n → xs.length ≤ xs0.length + n * m → f (xs, (k : Int)) = some (.inl (xs ++ h k, w64 ((k : Int) + 1)))) (he : ∀ xs, f (xs, (n : Int)) = some (.inr xs)) :
    loop f (xs0, 0) = some (xs0 ++ (List.range n).flatMap h) := by
  have hlen : ∀ k, k ≤ n → ((List.range k).flatMap h).length ≤ k * m := by
    intro k
    induction k with
    | zero => intro _; simp
    | succ k ih =>
      intro hk
      rw [List.range_succ, List.flatMap_append, List.length_append, Nat.succ_mul]
      have := ih (by omega)
      have := hm k (by omega)
      simp only [List.flatMap_cons, List.flatMap_nil, List.append_nil]
      omega
  obtain ⟨t, ht, rfl⟩ := loop_for (f := f) n hn (fun k xs => xs = xs0 ++ (List.range k).flatMap h) (fun t => t = xs0 ++ (List.range n).flatMap h)
    (fun k xs hk hx => .inl ⟨_, by
      have h1 := hlen k (by omega)
      have h2 : k * m ≤ n * m := Nat.mul_le_mul_right _ (by omega)
      rw [hf xs k hk (by rw [hx, List.length_append]; omega)], by
      rw [hx, List.range_succ, List.flatMap_append, List.append_assoc]; simp⟩)
    (fun xs hx => ⟨_, he xs, hx⟩) xs0 (by simp)
  exact ht
theorem app_len {S : Type} (n m : Nat) (h : Nat → List S) (hm : ∀ k, k < n → (h k).length ≤ m) : ((List.range n).flatMap h).length ≤ n * m := by
  induction n with
  | zero => simp
  | succ k ih =>
    rw [List.range_succ, List.flatMap_append, List.length_append, Nat.succ_mul]
    have := ih (fun i hi => hm i (by omega))
    have := hm k (by omega)
    simp only [List.flatMap_cons, List.flatMap_nil, List.append_nil]
    omega


theorem isNote_same (n : GNote) : impl_isNote n = spec_l01Note n := by
  simp only [impl_isNote, spec_l01Note, impl_isPitch, within_in, Option.bind_assoc, Option.bind_some]
theorem nearest_same (m : Int) : impl_nearest m = spec_l07Signed m := by
  have : impl_nearest.l_5 m = spec_l07Signed.l_5 m := by
    funext ⟨xs, i⟩
    rfl
  simp only [impl_nearest, spec_l07Signed, this]
  rfl
theorem signed1 : spec_l07Signed 1 = some [0, -1, 1] := by
  simp only [spec_l07Signed]
  rw [loop_eq, show spec_l07Signed.l_5 1 ([0], 1) = some (.inl ([0, -1, 1], 2)) by rfl]
  simp only
  rw [loop_eq, show spec_l07Signed.l_5 1 ([0, -1, 1], 2) = some (.inr [0, -1, 1]) by rfl]
  rfl
theorem signed3 : spec_l07Signed 3 = some [0, -1, 1, -2, 2, -3, 3] := by
  simp only [spec_l07Signed]
  rw [loop_eq, show spec_l07Signed.l_5 3 ([0], 1) = some (.inl ([0, -1, 1], 2)) by rfl]
  simp only
  rw [loop_eq, show spec_l07Signed.l_5 3 ([0, -1, 1], 2) = some (.inl ([0, -1, 1, -2, 2], 3)) by rfl]
  simp only
  rw [loop_eq, show spec_l07Signed.l_5 3 ([0, -1, 1, -2, 2], 3) = some (.inl ([0, -1, 1, -2, 2, -3, 3], 4)) by rfl]
  simp only
  rw [loop_eq, show spec_l07Signed.l_5 3 ([0, -1, 1, -2, 2, -3, 3], 4) = some (.inr [0, -1, 1, -2, 2, -3, 3]) by rfl]
  rfl

def mt (f : GFrame) (n : GNote) (late oct : Int) (k : Nat) : List GChoice :=
  if (f.fHammers[k]?.map (·.fPitch)) = some (w8 (n.fPitch + (w8 (12 * oct)))) then [(⟨false, late, oct, w8 (k : Int)⟩ : GChoice)] else []
theorem mt_len (f : GFrame) (n : GNote) (late oct : Int) (k : Nat) : (mt f n late oct k).length ≤ 1 := by
  unfold mt; split <;> simp
def tk (f : GFrame) (n : GNote) (late oct : Int) : List GChoice := (List.range f.fHammers.length).flatMap (mt f n late oct)
theorem tk_len (f : GFrame) (n : GNote) (late oct : Int) : (tk f n late oct).length ≤ f.fHammers.length * 1 := app_len _ _ _ (fun k _ => mt_len f n late oct k)
def atB (f : GFrame) (n : GNote) (late : Int) : Bool := (decide ((w64 ((w64 n.fAt) + (w64 late))) ≥ 0)) && (decide ((w64 ((w64 n.fAt) + (w64 late))) ≤ (w64 ((w64 f.fSteps) - 1))))
def oc (f : GFrame) (n : GNote) (late : Int) (i : Nat) : List GChoice := match [(0 : Int), -1, 1][i]? with | some o => tk f n late o | none => []
def la (f : GFrame) (n : GNote) (i : Nat) : List GChoice := match [(0 : Int), -1, 1, -2, 2, -3, 3][i]? with
  | some l => if atB f n l = true then (List.range 3).flatMap (oc f n l) else []
  | none => []
theorem oc_len (f : GFrame) (n : GNote) (late : Int) (i : Nat) (hf : f.fHammers.length ≤ 24) : (oc f n late i).length ≤ 24 := by
  unfold oc
  split
  · rename_i o _; have := tk_len f n late o; omega
  · simp
theorem la_len (f : GFrame) (n : GNote) (i : Nat) (hf : f.fHammers.length ≤ 24) : (la f n i).length ≤ 72 := by
  unfold la
  split
  · split
    · rename_i l _ _; have := app_len 3 24 (oc f n l) (fun k _ => oc_len f n l k hf); omega
    · simp
  · simp
theorem get3 (k : Nat) (h : k < 3) : ∃ o, [(0 : Int), -1, 1][k]? = some o ∧ -1 ≤ o ∧ o ≤ 1 ∧ ix [(0 : Int), -1, 1] (k : Int) = some o := by
  match k, h with
  | 0, _ => exact ⟨0, rfl, by omega, by omega, rfl⟩
  | 1, _ => exact ⟨-1, rfl, by omega, by omega, rfl⟩
  | 2, _ => exact ⟨1, rfl, by omega, by omega, rfl⟩
theorem get7 (k : Nat) (h : k < 7) : ∃ o, [(0 : Int), -1, 1, -2, 2, -3, 3][k]? = some o ∧ ix [(0 : Int), -1, 1, -2, 2, -3, 3] (k : Int) = some o := by
  match k, h with
  | 0, _ => exact ⟨_, rfl, rfl⟩
  | 1, _ => exact ⟨_, rfl, rfl⟩
  | 2, _ => exact ⟨_, rfl, rfl⟩
  | 3, _ => exact ⟨_, rfl, rfl⟩
  | 4, _ => exact ⟨_, rfl, rfl⟩
  | 5, _ => exact ⟨_, rfl, rfl⟩
  | 6, _ => exact ⟨_, rfl, rfl⟩

/-! the reference -/
theorem s21 (f : GFrame) (n : GNote) (i j : Nat) (l o : Int) (hf : f.fHammers.length ≤ 24) (xs : List GChoice) (hx : xs.length ≤ 1000)
    (hl : ix [(0 : Int), -1, 1, -2, 2, -3, 3] (i : Int) = some l) (ho : ix [(0 : Int), -1, 1] (j : Int) = some o) :
    loop (spec_l07For.l_21 f n [0, -1, 1, -2, 2, -3, 3] [0, -1, 1] (i : Int) (j : Int)) (xs, 0) = some (xs ++ tk f n l o) := by
  refine loop_app f.fHammers.length 1 (by omega) (mt f n l o) xs (fun k _ => mt_len f n l o k) (fun ys k hk hy => ?_) (fun ys => by simp [spec_l07For.l_21])
  simp only [spec_l07For.l_21, ix_lt hk, hl, ho, Option.bind_some]
  rw [if_pos (by simpa using hk)]
  unfold mt
  rw [List.getElem?_eq_getElem hk]
  by_cases he : f.fHammers[k].fPitch = w8 (n.fPitch + w8 (12 * o))
  · rw [if_pos (by simpa using he), if_pos (by simp; omega), if_pos (by simpa using he)]
  · rw [if_neg (by simpa using he), if_neg (by simpa using he), List.append_nil]
theorem s15 (f : GFrame) (n : GNote) (i : Nat) (l : Int) (hf : f.fHammers.length ≤ 24) (xs : List GChoice) (hx : xs.length ≤ 800)
    (hl : ix [(0 : Int), -1, 1, -2, 2, -3, 3] (i : Int) = some l) :
    loop (spec_l07For.l_15 f n [0, -1, 1, -2, 2, -3, 3] [0, -1, 1] (i : Int)) (xs, 0) = some (xs ++ (List.range 3).flatMap (oc f n l)) := by
  refine loop_app 3 24 (by omega) (oc f n l) xs (fun k _ => oc_len f n l k hf) (fun ys k hk hy => ?_) (fun ys => by simp [spec_l07For.l_15])
  obtain ⟨o, ho, _, _, hi⟩ := get3 k hk
  simp only [spec_l07For.l_15, s21 f n i k l o hf ys (by omega) hl hi, Option.bind_some, spec_l07For.k_18]
  rw [if_pos (by simp; omega)]
  unfold oc
  rw [ho]
theorem s7 (f : GFrame) (n : GNote) (hf : f.fHammers.length ≤ 24) :
    loop (spec_l07For.l_7 f n [0, -1, 1, -2, 2, -3, 3] [0, -1, 1]) ([], 0) = some ([] ++ (List.range 7).flatMap (la f n)) := by
  refine loop_app 7 72 (by omega) (la f n) [] (fun k _ => la_len f n k hf) (fun ys k hk hy => ?_) (fun ys => by simp [spec_l07For.l_7])
  obtain ⟨l, hl, hi⟩ := get7 k hk
  simp only [spec_l07For.l_7, hi, Option.bind_some, spec_l00In]
  rw [if_pos (by simp; omega)]
  have hy' : ys.length ≤ 504 := by simpa using hy
  unfold la
  rw [hl]
  have e : ((decide (w64 (w64 n.fAt + w64 l) ≥ 0)) && (decide (w64 (w64 n.fAt + w64 l) ≤ w64 (w64 f.fSteps - 1)))) = atB f n l := rfl
  rw [e]
  by_cases ha : atB f n l = true
  · rw [if_neg (by simp [ha]), s15 f n k l hf ys (by omega) hi]
    simp only [Option.bind_some, spec_l07For.k_12, ha, if_true]
  · rw [if_pos (by simpa using ha)]
    simp [ha]
theorem specFor (f : GFrame) (n : GNote) (hf : f.fHammers.length ≤ 24) : spec_l07For f n = some ((List.range 7).flatMap (la f n) ++ [⟨true, 0, 0, 0⟩]) := by
  simp only [spec_l07For, signed1, signed3, Option.bind_some, s7 f n hf, spec_l07For.k_4, List.nil_append]
  have := app_len 7 72 (la f n) (fun k _ => la_len f n k hf)
  rw [if_pos (by simp only [List.length_cons, List.length_nil]; omega)]

/-! the program -/
theorem i21 (f : GFrame) (n : GNote) (l o : Int) (hf : f.fHammers.length ≤ 24) (hh : ∀ y ∈ f.fHammers, -128 ≤ y.fPitch ∧ y.fPitch ≤ 127) (hn0 : 0 ≤ n.fPitch) (hn1 : n.fPitch ≤ 47) (ho0 : -1 ≤ o) (ho1 : o ≤ 1) (xs : List GChoice) (hx : xs.length ≤ 1000) :
    loop (impl_Frame_choices.l_21 f n l o) (xs, 0) = some (xs ++ if atB f n l = true then tk f n l o else []) := by
  have H := loop_app (f := impl_Frame_choices.l_21 f n l o) f.fHammers.length 1 (by omega) (fun k => if atB f n l = true then mt f n l o k else []) xs (fun k _ => by
      split
      · exact mt_len f n l o k
      · simp) (fun ys k hk hy => by
      have hp := hh _ (List.getElem_mem hk)
      have e : (impl_within (w64 ((w64 n.fAt) + (w64 l))) 0 (w64 ((w64 f.fSteps) - 1))) = some (atB f n l) := by rw [within_in]; rfl
      have e2 : w8 (n.fPitch + w8 (12 * o)) = n.fPitch + 12 * o := by rw [w8_in (n := 12 * o) (by omega) (by omega), w8_in (by omega) (by omega)]
      have e3 : w64 ((w64 n.fPitch) + (w64 (12 * (w64 o)))) = n.fPitch + 12 * o := by
        rw [w64_in (n := o) (by omega) (by omega), w64_in (n := 12 * o) (by omega) (by omega), w64_in (n := n.fPitch) (by omega) (by omega), w64_in (by omega) (by omega)]
      have e4 : w64 f.fHammers[k].fPitch = f.fHammers[k].fPitch := w64_in (by omega) (by omega)
      simp only [impl_Frame_choices.l_21, ix_lt hk, e, e3, e4, Option.bind_some]
      rw [if_pos (by simpa using hk)]
      unfold mt
      rw [List.getElem?_eq_getElem hk, e2]
      by_cases ha : atB f n l = true
      · by_cases he : f.fHammers[k].fPitch = n.fPitch + 12 * o
        · rw [if_pos (by simp [ha, he]), if_pos (by simp; omega), if_pos ha, if_pos (by simpa using he)]
        · rw [if_neg (by simp [he]), if_pos ha, if_neg (by simpa using he), List.append_nil]
      · rw [if_neg (by simp [ha]), if_neg ha, List.append_nil]) (fun ys => by simp [impl_Frame_choices.l_21])
  rw [H]
  by_cases ha : atB f n l = true
  · simp [ha, tk]
  · simp [ha]
theorem i14 (f : GFrame) (n : GNote) (l : Int) (hf : f.fHammers.length ≤ 24) (hh : ∀ y ∈ f.fHammers, -128 ≤ y.fPitch ∧ y.fPitch ≤ 127) (hn0 : 0 ≤ n.fPitch) (hn1 : n.fPitch ≤ 47) (xs : List GChoice) (hx : xs.length ≤ 800) :
    loop (impl_Frame_choices.l_14 f n l [0, -1, 1]) (xs, 0) = some (xs ++ if atB f n l = true then (List.range 3).flatMap (oc f n l) else []) := by
  have H := loop_app (f := impl_Frame_choices.l_14 f n l [0, -1, 1]) 3 24 (by omega) (fun k => if atB f n l = true then oc f n l k else []) xs (fun k _ => by
      split
      · exact oc_len f n l k hf
      · simp) (fun ys k hk hy => by
      obtain ⟨o, ho, h0, h1, hi⟩ := get3 k hk
      simp only [impl_Frame_choices.l_14, hi, i21 f n l o hf hh hn0 hn1 h0 h1 ys (by omega), Option.bind_some, impl_Frame_choices.k_18]
      rw [if_pos (by simp; omega)]
      unfold oc
      rw [ho]) (fun ys => by simp [impl_Frame_choices.l_14])
  rw [H]
  by_cases ha : atB f n l = true
  · simp [ha]
  · simp [ha]
theorem i6 (f : GFrame) (n : GNote) (hf : f.fHammers.length ≤ 24) (hh : ∀ y ∈ f.fHammers, -128 ≤ y.fPitch ∧ y.fPitch ≤ 127) (hn0 : 0 ≤ n.fPitch) (hn1 : n.fPitch ≤ 47) :
    loop (impl_Frame_choices.l_6 f n [0, -1, 1, -2, 2, -3, 3]) ([], 0) = some ([] ++ (List.range 7).flatMap (la f n)) := by
  refine loop_app 7 72 (by omega) (la f n) [] (fun k _ => la_len f n k hf) (fun ys k hk hy => ?_) (fun ys => by simp [impl_Frame_choices.l_6])
  obtain ⟨l, hl, hi⟩ := get7 k hk
  have hy' : ys.length ≤ 504 := by simpa using hy
  simp only [impl_Frame_choices.l_6, hi, Option.bind_some, nearest_same, signed1, i14 f n l hf hh hn0 hn1 ys (by omega), impl_Frame_choices.k_11]
  rw [if_pos (by simp; omega)]
  unfold la
  rw [hl]
theorem implFor (f : GFrame) (n : GNote) (hf : f.fHammers.length ≤ 24) (hh : ∀ y ∈ f.fHammers, -128 ≤ y.fPitch ∧ y.fPitch ≤ 127) (hn0 : 0 ≤ n.fPitch) (hn1 : n.fPitch ≤ 47) : impl_Frame_choices f n = some ((List.range 7).flatMap (la f n) ++ [⟨true, 0, 0, 0⟩]) := by
  simp only [impl_Frame_choices, nearest_same, signed3, Option.bind_some, i6 f n hf hh hn0 hn1, impl_Frame_choices.k_3, List.nil_append]
  have := app_len 7 72 (la f n) (fun k _ => la_len f n k hf)
  rw [if_pos (by simp only [List.length_cons, List.length_nil]; omega)]

theorem choices_same (f : GFrame) (n : GNote) (hf : okGFrame f) (hn : okGNote n) : ∃ r, spec_ChoicesFor f n = some r ∧ impl_ChoicesFor f n = some r ∧ r.1.length ≤ 1000 := by
  obtain ⟨_, hl, hh⟩ := hf
  obtain ⟨_, hp, _⟩ := hn
  simp only [spec_ChoicesFor, impl_ChoicesFor, l02Frame_is f hl, validFrame_is f hl, isNote_same, Option.bind_some]
  cases hfb : frameB f with
  | false => exact ⟨([], 1), by simp [spec_ChoicesFor.k_2], by simp [impl_ChoicesFor.k_2], by simp⟩
  | true =>
    have hlen : f.fHammers.length ≤ 24 := by
      unfold frameB at hfb
      simp at hfb
      omega
    simp only [spec_l01Note, spec_l00In, Option.bind_some]
    by_cases h1 : ((decide (w64 n.fAt ≥ 0)) && (decide (w64 n.fAt ≤ 199))) = true
    · by_cases h2 : ((decide (w64 n.fPitch ≥ 0)) && (decide (w64 n.fPitch ≤ 47))) = true
      · have hpb : 0 ≤ n.fPitch ∧ n.fPitch ≤ 47 := by
          rw [w64_in (n := n.fPitch) (by omega) (by omega)] at h2
          simp at h2
          omega
        refine ⟨((List.range 7).flatMap (la f n) ++ [⟨true, 0, 0, 0⟩], 0), ?_, ?_, ?_⟩
        · simp only [h1, h2, Bool.not_true]
          simp [spec_ChoicesFor.k_2, specFor f n hlen]
        · simp only [h1, h2, Bool.not_true]
          simp [impl_ChoicesFor.k_2, implFor f n hlen (fun y hy => (hh y hy).1) hpb.1 hpb.2]
        · have := app_len 7 72 (la f n) (fun k _ => la_len f n k hlen)
          simp only [List.length_append, List.length_cons, List.length_nil]; omega
      · simp only [Bool.not_eq_true] at h2
        refine ⟨([], 1), ?_, ?_, by simp⟩
        · simp only [h1, h2]; simp [spec_ChoicesFor.k_2]
        · simp only [h1, h2]; simp [impl_ChoicesFor.k_2]
    · simp only [Bool.not_eq_true] at h1
      refine ⟨([], 1), ?_, ?_, by simp⟩
      · simp only [h1]; simp [spec_ChoicesFor.k_2]
      · simp only [h1]; simp [impl_ChoicesFor.k_2]
theorem FnExactChoicesFor_ok (f : GFrame) (n : GNote) (hf : okGFrame f) (hn : okGNote n) : laws_FnExactChoicesFor f n = some true := by
  have hf0 := hf
  obtain ⟨_, hl, _⟩ := hf
  simp only [laws_FnExactChoicesFor]
  rw [laws_szFrame_is f _ (by omega) (by omega) hl]
  simp only [Option.bind_some]
  by_cases h : (1048576 : Int) < (f.fHammers.length : Int)
  · rw [if_pos h, if_pos (by simp)]
  · rw [if_neg h, if_neg (by simp; omega)]
    obtain ⟨r, h1, h2, h3⟩ := choices_same f n hf0 hn
    obtain ⟨ys, hm, _⟩ := laws_markFrame_is f 1 (by omega) (by omega) (by omega)
    obtain ⟨zs, hz, _, hh⟩ := laws_markChoiceS_is r.1 1 (by omega) (by omega) (by omega)
    have e0 : ¬ ((1 : Int) + (r.1.length : Int) * 4 < 0) := by omega
    have e1 : ¬ ((1 : Int) + (f.fHammers.length : Int) * 2 < 0) := by omega
    simp only [laws_toFrame_is f (by omega), laws_toNote_is, h1, h2, Option.bind_some, laws_eqChoiceS_is r.1 _ (by omega), laws_eqFrame_is f _ (by omega), hm, laws_FnExactChoicesFor.k_13, hz, hh]
    simp [e0, e1]
end Go.Proofs.Ytdnkjgmncfhejaa
