/- The law of acts on a wear: its plain function answers true at every input. -/
import Derived.Test.YtolfkfjjifdmeaaGreatDoorM0
import Derived.Test.YtolfkfjjifdmeaaGreatDoorM1
import Derived.Test.YtolfkfjjifdmeaaGreatDoorM2
import Derived.Test.YtolfkfjjifdmeaaGreatDoorM3
import Derived.Test.YtolfkfjjifdmeaaGreatDoorQ0
import Derived.Test.YtolfkfjjifdmeaaGreatDoorQ1
import Derived.Test.YtolfkfjjifdmeaaGreatDoorPure
import Derived.Test.YtolfkfjjifdmeaaGreatDoorSFnWearActs
namespace Go.Proofs.YtolfkfjjifdmeaaGreatDoor
open Eng
set_option linter.unusedVariables false
set_option linter.unusedSimpArgs false

theorem sameW_refl (w : GWear) (hp : w.fPins.length ≤ 1048576) (hs : w.fStrokes.length ≤ 1048576) : spec_SameWear w w = some true := by
  have h1 : loop (spec_l00Same.l_3 w.fStrokes w.fStrokes) 0 = some (.inr ()) := loop_seq (f := spec_l00Same.l_3 w.fStrokes w.fStrokes) w.fStrokes.length (fun k => (k : Int)) (.inr ()) (fun k hk => by
    simp only [spec_l00Same.l_3, ix_lt hk, Option.bind_some]
    rw [if_pos (by simpa using hk), if_neg (by simp), w64_in (n := (k : Int) + 1) (by omega) (by omega)]
    simp) (by simp [spec_l00Same.l_3])
  have h2 : loop (spec_SameWear.l_4 w w) 0 = some (.inr ()) := loop_seq (f := spec_SameWear.l_4 w w) w.fPins.length (fun k => (k : Int)) (.inr ()) (fun k hk => by
    simp only [spec_SameWear.l_4, ix_lt hk, Option.bind_some]
    rw [if_pos (by simpa using hk), if_neg (by simp), w64_in (n := (k : Int) + 1) (by omega) (by omega)]
    simp) (by simp [spec_SameWear.l_4])
  simp [spec_SameWear, h2, spec_SameWear.k_1, spec_l00Same, h1, spec_l00Same.k_1]
theorem sameActs_refl (t : List GAct) (h : t.length ≤ 1000000) : spec_SameActs t t = some true := by
  have h0 : loop (spec_SameActs.l_3 t t) 0 = some (.inr ()) := loop_seq (f := spec_SameActs.l_3 t t) t.length (fun k => (k : Int)) (.inr ()) (fun k hk => by
    simp only [spec_SameActs.l_3, ix_lt hk, Option.bind_some]
    rw [if_pos (by simpa using hk), if_neg (by simp), w64_in (n := (k : Int) + 1) (by omega) (by omega)]
    simp) (by simp [spec_SameActs.l_3])
  simp [spec_SameActs, h0, spec_SameActs.k_1]
theorem wornB_any {f : GFrame} {w : GWear} {v : GLives} : ((decide (((wornPins w v).length : Int) > 0)) || (decide (((wornHams f.fHammers.length w v).length : Int) > 0))) = (partsL f w v).any wornB := by
  rw [worn_any]
  cases wornPins w v <;> cases wornHams f.fHammers.length w v <;> simp
/-- the law's walk beside the acts -/
theorem law_loop {f : GFrame} {v : GLives} (hi : FIn f) (hv : livB v = true) (list : List GAct) (hl : list.length ≤ 60) : ∀ (m k : Nat) (now : GWear), k + m = list.length → WOk f now →
    (∃ (j : Nat) (c : Int), c ≠ 0 ∧ loop (impl_doActs.l_12 f v list) (now.fPins, now.fStrokes, (k : Int)) = some (.inl (⟨[], []⟩, (j : Int), c)) ∧ loop (spec_l06Done.l_8 f v list) (now.fPins, now.fStrokes, (k : Int)) = some (.inl (⟨[], []⟩, (j : Int), c)) ∧
      loop (laws_FnWearActs.l_29 f v list (⟨[], []⟩, c) ((j : Int), 0) ((j : Int), 0)) (now.fPins, now.fStrokes, (k : Int)) = some (.inl true)) ∨
    (∃ u : GWear, WOk f u ∧ loop (impl_doActs.l_12 f v list) (now.fPins, now.fStrokes, (k : Int)) = some (.inr (u.fPins, u.fStrokes)) ∧ loop (spec_l06Done.l_8 f v list) (now.fPins, now.fStrokes, (k : Int)) = some (.inr (u.fPins, u.fStrokes)) ∧
      ∀ t7 t9 t10, loop (laws_FnWearActs.l_29 f v list t7 t9 t10) (now.fPins, now.fStrokes, (k : Int)) = some (.inr (u.fPins, u.fStrokes))) := by
  intro m
  induction m with
  | zero =>
    intro k now hk hok
    obtain rfl : k = list.length := by omega
    right
    refine ⟨now, hok, ?_, ?_, fun t7 t9 t10 => ?_⟩
    · rw [loop_eq]; simp [impl_doActs.l_12]
    · rw [loop_eq]; simp [spec_l06Done.l_8]
    · rw [loop_eq]; simp [laws_FnWearActs.l_29]
  | succ m ih =>
    intro k now hk hok
    have hkl : k < list.length := by omega
    have hpl := pins_le hok
    obtain ⟨hwi, hsl, hfl⟩ := wok_in hok
    obtain ⟨r, r1, r2, r3, r4⟩ := doWearAct_full f now list[k] hi hwi (by omega) (by omega) (by omega)
    have eta : (⟨now.fPins, now.fStrokes⟩ : GWear) = now := rfl
    have hI : impl_doActs.l_12 f v list (now.fPins, now.fStrokes, (k : Int)) = (if r.2 = 0 then (if (partsL f r.1 v).any wornB = true then some (.inr (.inl (⟨[], []⟩, (k : Int), 8))) else some (.inl (r.1.fPins, r.1.fStrokes, ((k + 1 : Nat) : Int)))) else some (.inr (.inl (⟨[], []⟩, (k : Int), r.2)))) := by
      simp only [impl_doActs.l_12, ix_lt hkl, Option.bind_some, eta, r1]
      rw [if_pos (by simpa using hkl)]
      by_cases hr : r.2 = 0
      · have hok2 := r4 hr
        have hpl2 := pins_le hok2
        obtain ⟨hwi2, hsl2, _⟩ := wok_in hok2
        simp only [hr, lifeCode_is hi hwi2 (show f.fHammers.length ≤ 1048576 by omega) (show r.1.fPins.length ≤ 1048576 by omega) (show r.1.fStrokes.length ≤ 1048576 by omega), wearB_of hok2, hv, Option.bind_some]
        cases (partsL f r.1 v).any wornB with
        | true => simp [impl_doActs.k_17]
        | false =>
          simp [impl_doActs.k_17]
          rw [w64_in (by omega) (by omega)]
      · simp [impl_doActs.k_17, hr]
    have hS : spec_l06Done.l_8 f v list (now.fPins, now.fStrokes, (k : Int)) = (if r.2 = 0 then (if (partsL f r.1 v).any wornB = true then some (.inr (.inl (⟨[], []⟩, (k : Int), 8))) else some (.inl (r.1.fPins, r.1.fStrokes, ((k + 1 : Nat) : Int)))) else some (.inr (.inl (⟨[], []⟩, (k : Int), r.2)))) := by
      simp only [spec_l06Done.l_8, ix_lt hkl, Option.bind_some, eta, r2]
      rw [if_pos (by simpa using hkl)]
      by_cases hr : r.2 = 0
      · have hok2 := r4 hr
        have hpl2 := pins_le hok2
        simp only [hr, spec_l06Done.k_13, whole_is hok2 (show r.1.fPins.length ≤ 1048576 by omega) v, Option.bind_some]
        cases (partsL f r.1 v).any wornB with
        | true => simp [spec_l06Done.k_15]
        | false =>
          simp [spec_l06Done.k_15]
          rw [w64_in (by omega) (by omega)]
      · simp [spec_l06Done.k_13, spec_l06Done.k_15, hr]
    have hW : ∀ (t7 : GWear × Int) (t9 t10 : Int × Int), laws_FnWearActs.l_29 f v list t7 t9 t10 (now.fPins, now.fStrokes, (k : Int)) = (if r.2 = 0 then (if (partsL f r.1 v).any wornB = true then some (.inr (.inl (((t9.2 == 0) && (t10.1 == (k : Int))) && (t7.2 == 8)))) else some (.inl (r.1.fPins, r.1.fStrokes, ((k + 1 : Nat) : Int)))) else some (.inr (.inl (((t9.2 == 0) && (t10.1 == (k : Int))) && (t7.2 == r.2))))) := by
      intro t7 t9 t10
      have sw := sameW_refl r.1 (by omega) (by omega)
      have eta2 : (⟨r.1.fPins, r.1.fStrokes⟩ : GWear) = r.1 := rfl
      simp only [laws_FnWearActs.l_29, ix_lt hkl, Option.bind_some, eta, r1, laws_FnWearActs.k_34, r2, laws_FnWearActs.k_38, eta2, sw, laws_FnWearActs.k_40]
      rw [if_pos (by simpa using hkl), if_neg (by simp), if_neg (by simp)]
      by_cases hr : r.2 = 0
      · have hok2 := r4 hr
        have hpl2 := pins_le hok2
        obtain ⟨hwi2, hsl2, _⟩ := wok_in hok2
        rw [if_pos (by simpa using hr), if_pos hr, wornOut_val hi hok2 hwi2 hv (by omega) (by omega) (by omega)]
        simp only [Option.bind_some]
        rw [if_neg (by simp), wornB_any, w64_in (n := (k : Int) + 1) (by omega) (by omega)]
        rfl
      · rw [if_neg (by simpa using hr), if_neg hr]
    by_cases hr : r.2 = 0
    · by_cases hwn : (partsL f r.1 v).any wornB = true
      · left
        refine ⟨k, 8, by decide, ?_, ?_, ?_⟩
        · rw [loop_eq, hI, if_pos hr, if_pos hwn]
        · rw [loop_eq, hS, if_pos hr, if_pos hwn]
        · rw [loop_eq, hW, if_pos hr, if_pos hwn]; simp
      · have := ih (k + 1) r.1 (by omega) (r4 hr)
        rw [loop_eq, hI, if_pos hr, if_neg hwn, loop_eq, hS, if_pos hr, if_neg hwn]
        rcases this with ⟨j, c, hc, a1, a2, a3⟩ | ⟨u, hu, a1, a2, a3⟩
        · left
          refine ⟨j, c, hc, a1, a2, ?_⟩
          rw [loop_eq, hW, if_pos hr, if_neg hwn]; exact a3
        · right
          refine ⟨u, hu, a1, a2, fun t7 t9 t10 => ?_⟩
          rw [loop_eq, hW, if_pos hr, if_neg hwn]; exact a3 t7 t9 t10
    · left
      refine ⟨k, r.2, hr, ?_, ?_, ?_⟩
      · rw [loop_eq, hI, if_neg hr]
      · rw [loop_eq, hS, if_neg hr]
      · rw [loop_eq, hW, if_neg hr]; simp
theorem FnWearActs_ok (code0 more1 : List Int) (o0 : (code0.length ≤ 9223372036854775807 ∧ ∀ y ∈ code0, (0 ≤ y ∧ y ≤ 255))) (o1 : (more1.length ≤ 9223372036854775807 ∧ ∀ y ∈ more1, (0 ≤ y ∧ y ≤ 255))) : laws_FnWearActs code0 more1 = some true := by
  have main : laws_FnWearActs.k_2 code0 more1 false = some true := by
    obtain ⟨f, e1, hf, f1, f2⟩ := p6Frame_is code0 o0.2
    have hi : FIn f := ⟨by have := hf.s0; have := hf.s1; omega, fun y hy => by have := hf.hp y hy; omega⟩
    obtain ⟨w, e2, hw, hsm⟩ := p6Wear_is hi hf more1 o1.2
    obtain ⟨v, e3, hv1, hv2⟩ := p6Lives_is code0 o0.2
    have hpl := pins_le hw
    obtain ⟨hwi, hsl, hfl⟩ := wok_in hw
    obtain ⟨list, e4, hll, hkd⟩ := p6Acts_is hf (fun p hp => by have := hw.pl p hp; have := hf.s1; omega) hpl more1 o1.2
    have hlv : livB v = true := by unfold livB; simp only [Bool.and_eq_true, decide_eq_true_eq]; omega
    have hin : ∀ a ∈ list, ActIn a := fun a ha => by have := hkd a ha; unfold ActIn; omega
    have hac : actsV f w v list = 0 := by
      unfold actsV
      rw [if_pos ⟨wearB_of hw, hlv⟩, if_pos (by omega)]
    have ac := actsCode_is f w v list (by omega) (by omega) (by omega)
    rw [hac] at ac
    have hz : ((0 : Nat) : Int) = 0 := rfl
    rcases law_loop hi hlv list (by omega) list.length 0 w (by omega) hw with ⟨j, c, hc, a1, a2, a3⟩ | ⟨u, hu, a1, a2, a3⟩
    · rw [hz] at a1 a2 a3
      have d1 : impl_doActs f w v list = some (⟨[], []⟩, (j : Int), c) := by simp only [impl_doActs, a1, Option.bind_some]
      have d2 : spec_l06Done f w v list = some (⟨[], []⟩, (j : Int), c) := by simp only [spec_l06Done, copy_is w (show w.fPins.length ≤ 1048576 by omega) (show w.fStrokes.length ≤ 1048576 by omega), a2, Option.bind_some]
      have hj : ¬ ((j : Int) < 0) := by omega
      have x1 : impl_DoWearActs f w v list = some (⟨[], []⟩, c) := by simp [impl_DoWearActs, ac.1, d1]
      have x2 : spec_DoWearActs f w v list = some (⟨[], []⟩, c) := by simp [spec_DoWearActs, ac.2, d2]
      have x3 : impl_FirstBreak f w v list = some ((j : Int), 0) := by simp [impl_FirstBreak, ac.1, d1, hc]
      have x4 : spec_FirstBreak f w v list = some ((j : Int), 0) := by simp [spec_FirstBreak, ac.2, d2, hj]
      have sw := sameW_refl ⟨[], []⟩ (by simp) (by simp)
      simp only [laws_FnWearActs.k_2, Bool.false_eq_true, if_false, e1, e2, e3, e4, Option.bind_some, x1, x2, x3, x4, bne_self_eq_false, sw, Bool.not_true, Bool.or_self, Bool.false_or, Bool.or_false, laws_FnWearActs.k_12]
      rw [if_neg (by simp [hc]), a3]
      rfl
    · rw [hz] at a1 a2 a3
      have hpl2 := pins_le hu
      obtain ⟨_, hsl2, _⟩ := wok_in hu
      have eta : (⟨u.fPins, u.fStrokes⟩ : GWear) = u := rfl
      have d1 : impl_doActs f w v list = some (u, 0, 0) := by simp only [impl_doActs, a1, Option.bind_some, impl_doActs.k_5, eta, own_is u (show u.fPins.length ≤ 1048576 by omega) (show u.fStrokes.length ≤ 1048576 by omega)]
      have d2 : spec_l06Done f w v list = some (u, -1, 0) := by simp only [spec_l06Done, copy_is w (show w.fPins.length ≤ 1048576 by omega) (show w.fStrokes.length ≤ 1048576 by omega), a2, Option.bind_some]; rfl
      have x1 : impl_DoWearActs f w v list = some (u, 0) := by simp [impl_DoWearActs, ac.1, d1]
      have x2 : spec_DoWearActs f w v list = some (u, 0) := by simp [spec_DoWearActs, ac.2, d2]
      have x3 : impl_FirstBreak f w v list = some (0, 6) := by simp [impl_FirstBreak, ac.1, d1]
      have x4 : spec_FirstBreak f w v list = some (0, 6) := by simp [spec_FirstBreak, ac.2, d2]
      have sw := sameW_refl u (by omega) (by omega)
      simp only [laws_FnWearActs.k_2, Bool.false_eq_true, if_false, e1, e2, e3, e4, Option.bind_some, x1, x2, x3, x4, bne_self_eq_false, sw, Bool.not_true, Bool.or_self, Bool.false_or, Bool.or_false, laws_FnWearActs.k_12, beq_self_eq_true]
      rw [a3]
      have st := specActsText_is hin (show list.length ≤ 2000000 by omega)
      have it := implActsText_is hin (show list.length ≤ 2000000 by omega)
      simp only [Option.bind_some, laws_FnWearActs.k_17, st, eta, sw, beq_self_eq_true, if_true]
      by_cases ht : list.all toldB = true
      · have ha : actsT list = tb (list.flatMap actT) := by rw [actsT, if_pos ⟨ht, by omega⟩]
        have rb := readActs_back ht hin (show list.length ≤ 60 by omega)
        have sa := sameActs_refl list (by omega)
        rw [ha]
        have hne : (((tb (list.flatMap actT)).toList == (ByteArray.mk #[]).toList) && (decide ((list.length : Int) > 0))) = false := by
          have e0 : (ByteArray.mk #[]) = tb [] := rfl
          rw [e0, tlA_ne]
          cases list with
          | nil => rfl
          | cons a l =>
            have h1 : toldB a = true := by rw [List.all_cons, Bool.and_eq_true] at ht; exact ht.1
            rw [List.flatMap_cons, actT_line h1]
            simp
        rw [hne, if_neg (by simp), rb]
        simp only [Option.bind_some, it, ha, sa, tlA_ne]
        simp
      · have ha : actsT list = tb [] := by rw [actsT, if_neg (fun h => ht h.1)]
        have hne : list ≠ [] := by rintro rfl; exact ht rfl
        have hpos := List.length_pos_iff.2 hne
        rw [ha]
        have e0 : (ByteArray.mk #[]) = tb [] := rfl
        rw [e0, tlA_ne, if_pos (by simp; omega)]
  simp only [laws_FnWearActs, laws_f6big, Option.bind_some]
  by_cases h1 : (code0.length : Int) > 4096
  · rw [if_pos (by simpa using h1)]; rfl
  · rw [if_neg (by simpa using h1)]
    by_cases h2 : (more1.length : Int) > 4096
    · rw [show decide ((more1.length : Int) > 4096) = true by simpa using h2]; rfl
    · rw [show decide ((more1.length : Int) > 4096) = false by simpa using h2]; exact main

end Go.Proofs.YtolfkfjjifdmeaaGreatDoor
