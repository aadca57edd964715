/- A new hammer: the program's answer is the reference's, and the law's plain function answers true at every input. -/
import Derived.Test.YtdnkjgmncfhejaaM0
import Derived.Test.YtdnkjgmncfhejaaM24
import Derived.Test.YtdnkjgmncfhejaaPFrame
import Derived.Test.YtdnkjgmncfhejaaPDrum
import Derived.Test.YtdnkjgmncfhejaaPCodes
import Derived.Test.YtdnkjgmncfhejaaPWear
import Derived.Test.YtdnkjgmncfhejaaPPut
import Derived.Test.YtdnkjgmncfhejaaPWDrum
import Derived.Test.YtdnkjgmncfhejaaPEach
import Derived.Test.YtdnkjgmncfhejaaPParts
import Derived.Test.YtdnkjgmncfhejaaPOwn
import Derived.Test.YtdnkjgmncfhejaaPure
import Derived.Test.YtdnkjgmncfhejaaSFnExactNewHammer
namespace Go.Proofs.Ytdnkjgmncfhejaa
open Eng
set_option linter.unusedVariables false
set_option linter.unusedSimpArgs false

def plA (f : GFrame) (p : Arr 2 Int) : Bool := plB f (p.at 0 (by decide)) (p.at 1 (by decide))
theorem wornPlace_is (f : GFrame) (w : GWear) (hf : f.fHammers.length ≤ 1048576) (hp : w.fPins.length ≤ 1048576) (hs : w.fStrokes.length ≤ 1048576) (ps : List (Arr 2 Int)) (hl : ps.length ≤ 9223372036854775807) :
    impl_wornPlaceCode f w ps = some (if wearB f w = true then (if ps.all (plA f) = true then 0 else 2) else 1) := by
  have hc : slices_ContainsFunc_2int64_at_impl_wornPlaceCode_1 ps f = some (!(ps.all (plA f))) := by
    obtain ⟨t, ht, hq⟩ := loop_find (f := slices_IndexFunc_2int64_at_impl_wornPlaceCode_1.l_3 ps f) ps (fun x => !(plA f x)) hl (fun k hk => by
      have e0 : ix ps[k].1 0 = some (ps[k].at 0 (by decide)) := ix_arr_lt (by decide)
      have e1 : ix ps[k].1 1 = some (ps[k].at 1 (by decide)) := ix_arr_lt (by decide)
      simp only [slices_IndexFunc_2int64_at_impl_wornPlaceCode_1.l_3, ix_lt hk, Option.bind_some, impl_wornPlaceCode_1, e0, e1, isPlace_is]
      rw [if_pos (by simpa using hk)]
      unfold plA
      by_cases he : plB f (ps[k].at 0 (by decide)) (ps[k].at 1 (by decide)) = true <;> simp [he]) (by simp [slices_IndexFunc_2int64_at_impl_wornPlaceCode_1.l_3])
    simp only [slices_ContainsFunc_2int64_at_impl_wornPlaceCode_1, slices_IndexFunc_2int64_at_impl_wornPlaceCode_1, ht, Option.bind_some]
    rcases hq with ⟨hany, k, rfl, _⟩ | ⟨hany, rfl⟩
    · rw [any_not] at hany
      rw [hany]; simp
    · rw [any_not] at hany
      rw [hany]; simp [slices_IndexFunc_2int64_at_impl_wornPlaceCode_1.k_1]
  simp only [impl_wornPlaceCode, wearCode_is f w hf hp hs [] (by simp), Option.bind_some, hc, unless_is]
  cases wearB f w with
  | false => simp
  | true => cases ps.all (plA f) <;> simp
theorem arr2_plA (f : GFrame) (a b : Int) : plA f (Arr.set (Arr.set (Arr.rep 2 0) 0 a) 1 b) = plB f a b := rfl
theorem newHammer_same (f : GFrame) (w : GWear) (t : Int) (hi : FIn f) (hw : WIn w) (hf : f.fHammers.length ≤ 1048576) (hp : w.fPins.length ≤ 1048576) (hs : w.fStrokes.length ≤ 1048576) :
    ∃ r, impl_NewHammer f w t = some r ∧ spec_NewHammer f w t = some r ∧ r.1.fPins.length ≤ w.fPins.length ∧ r.1.fStrokes.length ≤ w.fStrokes.length := by
  simp only [impl_NewHammer, spec_NewHammer, wornPlace_is f w hf hp hs _ (show ([Arr.set (Arr.set (Arr.rep 2 0) 0 0) 1 t] : List (Arr 2 Int)).length ≤ 9223372036854775807 by simp), l06Ok_is f w hf hp hs, Option.bind_some, List.all_cons, List.all_nil, arr2_plA, Bool.and_true, own_is w hp hs, copy_is w hp hs, spec_l00In]
  cases c : wearB f w with
  | false => exact ⟨(⟨[], []⟩, 1), by simp, by simp, by simp, by simp⟩
  | true =>
    have hok := wearB_ok c hi hw
    have h1 := hok.fr.s0; have h2 := hok.fr.h0; have h3 := hok.fr.h1; have hsl := hok.sl
    rw [w64_in (n := (f.fHammers.length : Int) - 1) (by omega) (by omega)]
    by_cases ht : 0 ≤ t ∧ t < f.fHammers.length
    · have e1 : plB f 0 t = true := (plB_ok hok.fr 0 t).2 ⟨by omega, ht⟩
      have hl : t.toNat < w.fStrokes.length := by omega
      have e2 : ix w.fStrokes t = some w.fStrokes[t.toNat] := by
        have := ix_lt hl
        rwa [show ((t.toNat : Nat) : Int) = t by omega] at this
      refine ⟨(⟨w.fPins, w.fStrokes.set t.toNat 0⟩, 0), by simp [e1, e2], ?_, Nat.le_refl _, by simp⟩
      rw [if_neg (by simp), if_neg (by simp; omega), e2]; rfl
    · have e1 : plB f 0 t = false := by
        rw [← Bool.not_eq_true, plB_ok hok.fr 0 t]
        rintro ⟨_, h⟩; exact ht h
      refine ⟨(⟨[], []⟩, 2), by simp [e1], ?_, by simp, by simp⟩
      rw [if_neg (by simp), if_pos (by simp; omega)]
theorem FnExactNewHammer_ok (f : GFrame) (w : GWear) (t : Int) (o0 : okGFrame f) (o1 : okGWear w) (o2 : (-9223372036854775808 ≤ t ∧ t ≤ 9223372036854775807)) : laws_FnExactNewHammer f w t = some true := by
  obtain ⟨f0, fl, f2⟩ := o0
  obtain ⟨⟨wl, w2⟩, wm, w3⟩ := o1
  simp only [laws_FnExactNewHammer]
  rw [laws_szFrame_is f _ (by omega) (by omega) fl]
  simp only [Option.bind_some]
  by_cases hz0 : (1048576 : Int) < (f.fHammers.length : Int)
  · rw [if_pos hz0, if_pos (by simp)]
  · rw [if_neg hz0, if_neg (by simp; omega)]
    rw [laws_szWear_is w _ (by omega) (by omega) wl wm]
    simp only [Option.bind_some]
    by_cases hz1 : (1048576 : Int) - (f.fHammers.length : Int) < (w.fPins.length : Int) + (w.fStrokes.length : Int)
    · rw [if_pos hz1, if_pos (by simp)]
    · rw [if_neg hz1, if_neg (by simp; omega)]
      obtain ⟨⟨⟨r1p, r1s⟩, r2⟩, hI, hS, r1h⟩ := newHammer_same f w t ⟨f0, fun y hy => f2 y hy⟩ (fun p hp' => ⟨(w2 p hp').1, (w2 p hp').2.1⟩) (by omega) (by omega) (by omega)
      simp only at r1h
      obtain ⟨fy0, m_f, _⟩ := laws_markFrame_is f (1) (by omega) (by omega) (by omega)
      obtain ⟨wy0, wy1, m_w, _⟩ := laws_markWear_is w (1 + f.fHammers.length * 2) (by omega) (by omega) (by omega)
      have e0 : ¬ (((1 : Int) + f.fHammers.length * 2 + w.fPins.length * 3 + w.fStrokes.length * 1 : Int) < 0) := by omega
      obtain ⟨z0a, z0b, n0, _, _, q0⟩ := laws_markWear_is ⟨r1p, r1s⟩ (1) (show r1p.length + r1s.length ≤ 1048576 by omega) (by omega) (by omega)
      simp only at n0 q0
      replace q0 := q0 ⟨[], []⟩
      have f0 : ¬ (((1 : Int) + r1p.length * 3 + r1s.length * 1 : Int) < 0) := by omega
      simp only [laws_toFrame_is f (by omega), laws_toWear_is w (by omega), Option.bind_some, hI, hS, laws_eqFrame_is f _ (by omega), laws_eqWear_is w _ (by omega), laws_FnExactNewHammer.k_24, laws_FnExactNewHammer.k_18, laws_FnExactNewHammer.k_6, m_f, m_w, n0, q0, laws_eqWear_is ⟨r1p, r1s⟩ _ (show r1p.length + r1s.length ≤ 1048576 by omega), decide_true, Bool.not_true, Bool.false_eq_true, if_false, decide_eq_true_eq, bne_self_eq_false, Bool.or_false, Bool.false_or, Bool.or_self, if_neg e0, if_neg f0]


end Go.Proofs.Ytdnkjgmncfhejaa
