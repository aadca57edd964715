/- The program's and the reference's searches of pinnings are the plain one. -/
import Derived.Test.YtojndiidhgdjcaaGreatDoorM0
import Derived.Test.YtojndiidhgdjcaaGreatDoorM1
import Derived.Test.YtojndiidhgdjcaaGreatDoorPFrame
import Derived.Test.YtojndiidhgdjcaaGreatDoorPDrum
import Derived.Test.YtojndiidhgdjcaaGreatDoorPCodes
import Derived.Test.YtojndiidhgdjcaaGreatDoorPPut
import Derived.Test.YtojndiidhgdjcaaGreatDoorPTune
import Derived.Test.YtojndiidhgdjcaaGreatDoorPChoices
import Derived.Test.YtojndiidhgdjcaaGreatDoorPFit
import Derived.Test.YtojndiidhgdjcaaGreatDoorPPlc
import Derived.Test.YtojndiidhgdjcaaGreatDoorPByTr
import Derived.Test.YtojndiidhgdjcaaGreatDoorPWithout
import Derived.Test.YtojndiidhgdjcaaGreatDoorPPins
import Derived.Test.YtojndiidhgdjcaaGreatDoorPure
namespace Go.Proofs.YtojndiidhgdjcaaGreatDoor
open Eng
set_option linter.unusedVariables false
set_option linter.unusedSimpArgs false

theorem pin_loop {f : GFrame} {t : List GNote} {old : Arr 96 Int} {budget : Int} (h : PinOk f t old budget) (like : Bool)
    (self : Gpinner → Arr 96 Int → Int → Int → Option Gpinner) (go : Arr 96 Int → Int → PS → PS) {d : Arr 96 Int} (hd : DIn d) {i : Nat} {fresh : Int} (hfr : 0 ≤ fresh ∧ fresh ≤ (i : Int))
    {n : GNote} (hn : t[i]? = some n) (r0 : PS)
    (hs : ∀ k r, k ∈ ptk f d n → PsOk budget r → stopB like r = false → self (mkP f t old like budget r) (setP d n.fAt.toNat k) ((i + 1 : Nat) : Int) (freshV old n.fAt.toNat k fresh) = some (mkP f t old like budget (go (setP d n.fAt.toNat k) (freshV old n.fAt.toNat k fresh) r)) ∧ PsOk budget (go (setP d n.fAt.toNat k) (freshV old n.fAt.toNat k fresh) r)) :
    ∀ (zs ys : List Nat) (r : PS), ptk f d n = ys ++ zs → PsOk budget r → stopB like r = false →
      loop (impl_pinner_pin.l_23 self (mkP f t old like budget r0) d (i : Int) fresh n (cstN (ptk f d n))) (f.fSteps, old, budget, r.tries, r.over, r.found, r.most, r.best, like, (ys.length : Int)) = some (resP f t old like budget (pinL old n.fAt.toNat like budget go d fresh zs r)) ∧
      PsOk budget (pinL old n.fAt.toNat like budget go d fresh zs r) := by
  intro zs
  obtain ⟨hf, ht, hst, ho, hb⟩ := h
  have hit : i < t.length := (List.getElem?_eq_some_iff.1 hn).1
  have htl := ht.len
  have hnm := List.mem_of_getElem? hn
  have hnt := ht.nt n hnm
  have hns := hst n hnm
  have hs1 := hf.s1; have hh1 := hf.h1
  have ea : w64 n.fAt = ((n.fAt.toNat : Nat) : Int) := by rw [w64_in (by omega) (by omega)]; omega
  have hl := ptk_len f d n
  have hw : w64 ((i : Int) + 1) = ((i + 1 : Nat) : Int) := by rw [w64_in (by omega) (by omega)]; omega
  induction zs with
  | nil =>
    intro ys r hxy hso hov
    refine ⟨?_, hso⟩
    rw [loop_eq]
    simp only [impl_pinner_pin.l_23, pinL]
    rw [if_neg (by rw [decide_eq_true_eq, hxy]; simp [cstN_len])]
    simp [hov, resP]
  | cons k zs ih =>
    intro ys r hxy hso hov
    have hkm : k ∈ ptk f d n := by rw [hxy]; simp
    obtain ⟨hk, hfree⟩ := ptk_mem hkm
    have hyl : ys.length < (ptk f d n).length := by rw [hxy]; simp
    have hj : (ys.length : Int) < ((cstN (ptk f d n)).length : Int) := by rw [cstN_len]; omega
    have hi1 : w64 ((ys.length : Int) + 1) = (((ys ++ [k]).length : Nat) : Int) := by rw [w64_in (by omega) (by omega)]; simp
    have nxt := fun r' (h1 : PsOk budget r') (h2 : stopB like r' = false) => ih (ys ++ [k]) r' (by rw [hxy]; simp) h1 h2
    have hput := putTrue hd (s := n.fAt.toNat) (t := k) (by omega) (by omega)
    have hhas := has_is ho (s := n.fAt.toNat) (t := k) (by omega) (by omega)
    obtain ⟨q1, q2⟩ := hso
    rw [loop_eq]
    by_cases hbu : r.tries = budget
    · rw [pinL_bud hbu]
      refine ⟨?_, q1, q2⟩
      simp only [impl_pinner_pin.l_23, mkP, ixN_in hxy, Option.bind_some]
      rw [if_pos (by rw [decide_eq_true_eq]; exact hj), if_pos (by simpa using hbu)]
      simp [resP, mkP, stopB, hbu]
    · have hl1 : w64 (r.tries + 1) = r.tries + 1 := w64_in (by omega) (by omega)
      have hfv : w64 (fresh + if pin old n.fAt.toNat k = true then 0 else 1) = freshV old n.fAt.toNat k fresh := by
        unfold freshV
        split <;> exact w64_in (by omega) (by omega)
      have hbit : impl_bit (!(pin old n.fAt.toNat k)) = some (if pin old n.fAt.toNat k = true then 0 else 1) := by
        unfold impl_bit
        cases pin old n.fAt.toNat k <;> rfl
      have hk28 : impl_pinner_pin.l_23 self (mkP f t old like budget r0) d (i : Int) fresh n (cstN (ptk f d n)) (f.fSteps, old, budget, r.tries, r.over, r.found, r.most, r.best, like, (ys.length : Int)) = impl_pinner_pin.k_28 self (mkP f t old like budget r0) (i : Int) n f.fSteps old budget r.tries r.over r.found r.most r.best like (ys.length : Int) (k : Int) d (freshV old n.fAt.toNat k fresh) := by
        simp only [impl_pinner_pin.l_23, ixN_in hxy, Option.bind_some, ea, hhas, hbit, hfv]
        rw [if_pos (by rw [decide_eq_true_eq]; exact hj), if_neg (by simpa using hbu)]
      rw [hk28]
      have hso1 : PsOk budget ⟨r.tries + 1, r.over, r.found, r.most, r.best⟩ := ⟨by show 0 ≤ r.tries + 1; omega, by show r.tries + 1 ≤ budget; omega⟩
      have hov1 : stopB like ⟨r.tries + 1, r.over, r.found, r.most, r.best⟩ = false := hov
      by_cases hcut : like = true ∧ r.found = true ∧ r.most ≤ freshV old n.fAt.toNat k fresh
      · rw [pinL_cut hbu hcut]
        obtain ⟨n1, n2⟩ := nxt _ hso1 hov1
        refine ⟨?_, n2⟩
        rw [← n1]
        simp only [impl_pinner_pin.k_28, ea, hput, Option.bind_some, hl1, hi1]
        rw [if_pos (by simp only [Bool.and_eq_true, decide_eq_true_eq]; exact ⟨⟨hcut.1, hcut.2.1⟩, hcut.2.2⟩)]
      · have hkk : impl_pinner_pin.k_28 self (mkP f t old like budget r0) (i : Int) n f.fSteps old budget r.tries r.over r.found r.most r.best like (ys.length : Int) (k : Int) d (freshV old n.fAt.toNat k fresh) = (some (mkP f t old like budget (go (setP d n.fAt.toNat k) (freshV old n.fAt.toNat k fresh) ⟨r.tries + 1, r.over, r.found, r.most, r.best⟩))).bind fun t_30 => (if t_30.fover = true then some (.inr (.inl t_30)) else (if (t_30.ffound && (!t_30.fall)) = true then some (.inr (.inl t_30)) else some (.inl (t_30.ff.fSteps, t_30.fold, t_30.fbudget, t_30.ftries, t_30.fover, t_30.ffound, t_30.fmost, t_30.fbest, t_30.fall, (((ys ++ [k]).length : Nat) : Int))))) := by
          have := (hs k _ hkm hso1 hov1).1
          simp only [impl_pinner_pin.k_28, ea, hput, Option.bind_some, hl1, hi1, hw]
          rw [if_neg (by simp only [Bool.and_eq_true, decide_eq_true_eq]; exact fun e => hcut ⟨e.1.1, e.1.2, e.2⟩)]
          have e : (⟨(⟨f.fSteps, (mkP f t old like budget r0).ff.fHammers⟩ : GFrame), (mkP f t old like budget r0).ft, old, budget, r.tries + 1, r.over, r.found, r.most, r.best, like⟩ : Gpinner) = mkP f t old like budget ⟨r.tries + 1, r.over, r.found, r.most, r.best⟩ := rfl
          rw [e, this]
          rfl
        rw [hkk]
        obtain ⟨g1, g2⟩ := hs k _ hkm hso1 hov1
        generalize hg : go (setP d n.fAt.toNat k) (freshV old n.fAt.toNat k fresh) ⟨r.tries + 1, r.over, r.found, r.most, r.best⟩ = g at *
        by_cases hstop : stopB like g = true
        · rw [pinL_stop hbu hcut (by rw [hg]; exact hstop), hg]
          refine ⟨?_, g2⟩
          simp only [Option.bind_some, resP, if_pos hstop]
          unfold stopB at hstop
          cases ho' : g.over with
          | true => simp [mkP, ho']
          | false =>
            rw [ho', Bool.false_or] at hstop
            simp [mkP, ho', hstop]
        · rw [pinL_go hbu hcut (by rw [hg]; exact hstop), hg]
          have hstop' : stopB like g = false := by simpa using hstop
          obtain ⟨n1, n2⟩ := nxt g g2 hstop'
          refine ⟨?_, n2⟩
          rw [← n1]
          unfold stopB at hstop'
          simp only [Bool.or_eq_false_iff] at hstop'
          simp only [Option.bind_some]
          rw [if_neg (show ¬ g.over = true by rw [hstop'.1]; simp), if_neg (show ¬ (g.found && !like) = true by rw [hstop'.2]; simp)]
theorem pin_rec {f : GFrame} {t : List GNote} {old : Arr 96 Int} {budget : Int} (h : PinOk f t old budget) (like : Bool) : ∀ (m i : Nat) (d : Arr 96 Int) (fresh : Int) (r : PS) (e : Nat), i + m = t.length → DIn d → 0 ≤ fresh ∧ fresh ≤ (i : Int) → PsOk budget r → stopB like r = false →
    impl_pinner_pin.rec_ (m + 1 + e) (mkP f t old like budget r) d (i : Int) fresh = some (mkP f t old like budget (pinS f t old like budget m i d fresh r)) ∧ PsOk budget (pinS f t old like budget m i d fresh r) := by
  intro m
  induction m with
  | zero =>
    intro i d fresh r e him hd hfr hr hst
    rw [show 0 + 1 + e = e + 1 by omega]
    refine ⟨?_, hr⟩
    show impl_pinner_pin.step (impl_pinner_pin.rec_ e) _ _ _ _ = _
    simp only [impl_pinner_pin.step]
    rw [if_pos (by simp; omega)]
    rfl
  | succ m ih =>
    intro i d fresh r e him hd hfr hr hst
    have hit : i < t.length := by omega
    have hn : t[i]? = some t[i] := List.getElem?_eq_getElem hit
    have hnt := h.ht.nt _ (List.getElem_mem hit)
    have hns := h.st _ (List.getElem_mem hit)
    have hs1 := h.hf.s1; have hh1 := h.hf.h1
    have hL := pin_loop h like (impl_pinner_pin.rec_ (m + 1 + e)) (pinS f t old like budget m (i + 1)) hd hfr hn r (fun k r' hk h1 h2 => by
      obtain ⟨hk1, hk2⟩ := ptk_mem hk
      exact ih (i + 1) _ _ r' e (by omega) (DIn_setP hd (by omega) (by omega)) (by unfold freshV; split <;> omega) h1 h2) (ptk f d t[i]) [] r rfl hr hst
    rw [show m + 1 + 1 + e = (m + 1 + e) + 1 by omega]
    have e0 : pinS f t old like budget (m + 1) i d fresh r = pinL old t[i].fAt.toNat like budget (pinS f t old like budget m (i + 1)) d fresh (ptk f d t[i]) r := by
      show (match t[i]? with | some n => pinL old n.fAt.toNat like budget (pinS f t old like budget m (i + 1)) d fresh (ptk f d n) r | none => r) = _
      rw [hn]
    rw [e0]
    refine ⟨?_, hL.2⟩
    have hft := freeTracks_is h.hf hd (n := t[i]) (by omega) (by omega)
    have hL1 := hL.1
    rw [List.length_nil] at hL1
    show impl_pinner_pin.step (impl_pinner_pin.rec_ (m + 1 + e)) _ _ _ _ = _
    simp only [impl_pinner_pin.step, ix_lt hit, Option.bind_some]
    have ef : (⟨f.fSteps, f.fHammers⟩ : GFrame) = f := rfl
    rw [if_neg (by simp; omega), ef, hft]
    simp only [Option.bind_some]
    have hz : ((0 : Nat) : Int) = 0 := rfl
    rw [hz] at hL1
    rw [hL1]
    simp only [Option.bind_some, resP]
    by_cases c : stopB like (pinL old t[i].fAt.toNat like budget (pinS f t old like budget m (i + 1)) d fresh (ptk f d t[i]) r) = true
    · rw [if_pos c]
    · rw [if_neg c]; rfl
theorem from_loop {f : GFrame} {t : List GNote} {old : Arr 96 Int} {budget : Int} (h : PinOk f t old budget) (like : Bool)
    (self : Gl03Pinner → Int → Int → Option (Bool × Gl03Pinner)) (go : Arr 96 Int → Int → PS → PS) {d : Arr 96 Int} (hd : DIn d) {i : Nat} {fresh : Int} (hfr : 0 ≤ fresh ∧ fresh ≤ (i : Int))
    {n : GNote} (hn : t[i]? = some n) (r0 : PS) (d0 : Arr 96 Int)
    (hs : ∀ k r, k ∈ ptk f d n → PsOk budget r → stopB like r = false → (∃ d', self (mkQ f t old like budget r (setP d n.fAt.toNat k)) ((i + 1 : Nat) : Int) (freshV old n.fAt.toNat k fresh) = some (stopB like (go (setP d n.fAt.toNat k) (freshV old n.fAt.toNat k fresh) r), mkQ f t old like budget (go (setP d n.fAt.toNat k) (freshV old n.fAt.toNat k fresh) r) d') ∧
      (stopB like (go (setP d n.fAt.toNat k) (freshV old n.fAt.toNat k fresh) r) = false → d' = setP d n.fAt.toNat k)) ∧ PsOk budget (go (setP d n.fAt.toNat k) (freshV old n.fAt.toNat k fresh) r)) :
    ∀ (zs ys : List Nat) (r : PS), ptk f d n = ys ++ zs → PsOk budget r → stopB like r = false →
      (∃ d', loop (spec_l03Pinner_from.l_23 self (mkQ f t old like budget r0 d0) (i : Int) fresh n (cstN (ptk f d n))) (old, like, budget, r.tries, r.over, d, r.found, r.best, r.most, (ys.length : Int)) = some (resQ f t old like budget (pinL old n.fAt.toNat like budget go d fresh zs r) d') ∧
        (stopB like (pinL old n.fAt.toNat like budget go d fresh zs r) = false → d' = d)) := by
  intro zs
  obtain ⟨hf, ht, hst, ho, hb⟩ := h
  have hit : i < t.length := (List.getElem?_eq_some_iff.1 hn).1
  have htl := ht.len
  have hnm := List.mem_of_getElem? hn
  have hnt := ht.nt n hnm
  have hns := hst n hnm
  have hs1 := hf.s1; have hh1 := hf.h1
  have ea : n.fAt = ((n.fAt.toNat : Nat) : Int) := by omega
  have hl := ptk_len f d n
  have hw : w64 ((i : Int) + 1) = ((i + 1 : Nat) : Int) := by rw [w64_in (by omega) (by omega)]; omega
  induction zs with
  | nil =>
    intro ys r hxy hso hov
    refine ⟨d, ?_, fun _ => rfl⟩
    rw [loop_eq]
    simp only [spec_l03Pinner_from.l_23, pinL]
    rw [if_neg (by rw [decide_eq_true_eq, hxy]; simp [cstN_len])]
    simp [hov, resQ]
  | cons k zs ih =>
    intro ys r hxy hso hov
    have hkm : k ∈ ptk f d n := by rw [hxy]; simp
    obtain ⟨hk, hfree⟩ := ptk_mem hkm
    have hnp := free_pin hfree
    have hyl : ys.length < (ptk f d n).length := by rw [hxy]; simp
    have hj : (ys.length : Int) < ((cstN (ptk f d n)).length : Int) := by rw [cstN_len]; omega
    have hi1 : w64 ((ys.length : Int) + 1) = (((ys ++ [k]).length : Nat) : Int) := by rw [w64_in (by omega) (by omega)]; simp
    have nxt := fun r' (h1 : PsOk budget r') (h2 : stopB like r' = false) => ih (ys ++ [k]) r' (by rw [hxy]; simp) h1 h2
    obtain ⟨q1, q2⟩ := hso
    rw [loop_eq]
    by_cases hbu : r.tries = budget
    · rw [pinL_bud hbu]
      refine ⟨d, ?_, fun _ => rfl⟩
      simp only [spec_l03Pinner_from.l_23, mkQ]
      rw [if_pos (by rw [decide_eq_true_eq]; exact hj), if_pos (by simpa using hbu)]
      simp [resQ, mkQ, stopB, hbu]
    · have hl1 : w64 (r.tries + 1) = r.tries + 1 := w64_in (by omega) (by omega)
      have hbt := bit_is (t := k) (by omega)
      have hp32 := pow_lt32 (t := k) (by omega)
      have hrow := ix_row ho (s := n.fAt.toNat) (by omega)
      rw [← ea] at hrow
      have hand : ((bAnd .u32 (row' old n.fAt.toNat : Int) ((2 ^ k : Nat) : Int)) == 0) = !(pin old n.fAt.toNat k) := by
        rw [bAnd32 _ _ (row_lt ho _) hp32]
        unfold pin
        by_cases c : (row' old n.fAt.toNat).testBit k = true
        · have : row' old n.fAt.toNat &&& 2 ^ k ≠ 0 := by
            intro e
            have := congrArg (fun z => z.testBit k) e
            simp [Nat.testBit_and, c, Nat.testBit_two_pow] at this
          rw [c]; simp; omega
        · have : row' old n.fAt.toNat &&& 2 ^ k = 0 := by
            apply Nat.eq_of_testBit_eq
            intro i
            rw [Nat.testBit_and, Nat.testBit_two_pow, Nat.zero_testBit]
            by_cases e : k = i
            · subst e; simp at c; simp [c]
            · simp [e]
          simp at c
          rw [this, c]; rfl
      have hk28 : spec_l03Pinner_from.l_23 self (mkQ f t old like budget r0 d0) (i : Int) fresh n (cstN (ptk f d n)) (old, like, budget, r.tries, r.over, d, r.found, r.best, r.most, (ys.length : Int)) = spec_l03Pinner_from.k_28 self (mkQ f t old like budget r0 d0) (i : Int) n old like budget r.tries r.over d r.found r.best r.most (ys.length : Int) ((2 ^ k : Nat) : Int) (freshV old n.fAt.toNat k fresh) := by
        simp only [spec_l03Pinner_from.l_23, ixN_in hxy, Option.bind_some, hbt, hrow, hand]
        rw [if_pos (by rw [decide_eq_true_eq]; exact hj), if_neg (by simpa using hbu)]
        unfold freshV
        cases pin old n.fAt.toNat k with
        | true => simp
        | false => simp only [Bool.not_false, if_true, Bool.false_eq_true, if_false]; rw [w64_in (by omega) (by omega)]
      rw [hk28]
      have hso1 : PsOk budget ⟨r.tries + 1, r.over, r.found, r.most, r.best⟩ := ⟨by show 0 ≤ r.tries + 1; omega, by show r.tries + 1 ≤ budget; omega⟩
      have hov1 : stopB like ⟨r.tries + 1, r.over, r.found, r.most, r.best⟩ = false := hov
      by_cases hcut : like = true ∧ r.found = true ∧ r.most ≤ freshV old n.fAt.toNat k fresh
      · rw [pinL_cut hbu hcut]
        obtain ⟨d', n1, n2⟩ := nxt _ hso1 hov1
        refine ⟨d', ?_, n2⟩
        rw [← n1]
        simp only [spec_l03Pinner_from.k_28, hl1, hi1]
        rw [if_pos (by simp only [Bool.and_eq_true, decide_eq_true_eq]; exact ⟨⟨hcut.1, hcut.2.1⟩, hcut.2.2⟩)]
      · obtain ⟨⟨d1, g1, g3⟩, g2⟩ := hs k _ hkm hso1 hov1
        have hrd := ix_row hd (s := n.fAt.toNat) (by omega)
        rw [← ea] at hrd
        have hset : Arr.set d n.fAt (bOr .u32 (row' d n.fAt.toNat : Int) ((2 ^ k : Nat) : Int)) = setP d n.fAt.toNat k := by
          rw [setP_eq (by omega), ← ea]
        have hkk : spec_l03Pinner_from.k_28 self (mkQ f t old like budget r0 d0) (i : Int) n old like budget r.tries r.over d r.found r.best r.most (ys.length : Int) ((2 ^ k : Nat) : Int) (freshV old n.fAt.toNat k fresh) =
            (self (mkQ f t old like budget ⟨r.tries + 1, r.over, r.found, r.most, r.best⟩ (setP d n.fAt.toNat k)) ((i + 1 : Nat) : Int) (freshV old n.fAt.toNat k fresh)).bind fun t_31 => (if t_31.1 = true then some (.inr (.inl (true, (⟨(⟨f.fSteps, f.fHammers⟩ : GFrame), t, t_31.2.fold, t_31.2.flike, t_31.2.fbudget, t_31.2.ftries, t_31.2.fover, t_31.2.fdrum, t_31.2.ffound, t_31.2.fbest, t_31.2.fleast⟩ : Gl03Pinner)))) else (ix t_31.2.fdrum.1 n.fAt).bind fun x_32 => (ix t_31.2.fdrum.1 n.fAt).bind fun x_33 => some (.inl (t_31.2.fold, t_31.2.flike, t_31.2.fbudget, t_31.2.ftries, t_31.2.fover, (Arr.set t_31.2.fdrum n.fAt (bClr .u32 x_32 ((2 ^ k : Nat) : Int))), t_31.2.ffound, t_31.2.fbest, t_31.2.fleast, (((ys ++ [k]).length : Nat) : Int)))) := by
          simp only [spec_l03Pinner_from.k_28, hl1, hi1, hw, hrd, Option.bind_some, hset]
          rw [if_neg (by simp only [Bool.and_eq_true, decide_eq_true_eq]; exact fun e => hcut ⟨e.1.1, e.1.2, e.2⟩)]
        rw [hkk, g1]
        simp only [Option.bind_some]
        generalize hg : go (setP d n.fAt.toNat k) (freshV old n.fAt.toNat k fresh) ⟨r.tries + 1, r.over, r.found, r.most, r.best⟩ = g at *
        by_cases hstop : stopB like g = true
        · rw [pinL_stop hbu hcut (by rw [hg]; exact hstop), hg]
          refine ⟨d1, ?_, fun e => by rw [hstop] at e; cases e⟩
          rw [if_pos hstop]
          simp only [resQ, if_pos hstop]
        · rw [pinL_go hbu hcut (by rw [hg]; exact hstop), hg]
          have hstop' : stopB like g = false := by simpa using hstop
          obtain ⟨d', n1, n2⟩ := nxt g g2 hstop'
          refine ⟨d', ?_, n2⟩
          rw [← n1, if_neg hstop]
          have hd1 := g3 hstop'
          subst hd1
          have hr2 := setP_row hd (s := n.fAt.toNat) (t := k) (by omega) (by omega)
          have hc2 := clr_back hd (s := n.fAt.toNat) (t := k) (by omega) (by omega) hnp
          rw [← ea] at hr2 hc2
          simp only [hr2, Option.bind_some, hc2]
theorem from_rec {f : GFrame} {t : List GNote} {old : Arr 96 Int} {budget : Int} (h : PinOk f t old budget) (like : Bool) : ∀ (m i : Nat) (d : Arr 96 Int) (fresh : Int) (r : PS) (e : Nat), i + m = t.length → DIn d → 0 ≤ fresh ∧ fresh ≤ (i : Int) → PsOk budget r → stopB like r = false →
    ∃ d', spec_l03Pinner_from.rec_ (m + 1 + e) (mkQ f t old like budget r d) (i : Int) fresh = some (stopB like (pinS f t old like budget m i d fresh r), mkQ f t old like budget (pinS f t old like budget m i d fresh r) d') ∧ (stopB like (pinS f t old like budget m i d fresh r) = false → d' = d) := by
  intro m
  induction m with
  | zero =>
    intro i d fresh r e him hd hfr hr hst
    rw [show 0 + 1 + e = e + 1 by omega]
    refine ⟨d, ?_, fun _ => rfl⟩
    show spec_l03Pinner_from.step (spec_l03Pinner_from.rec_ e) _ _ _ = _
    simp only [spec_l03Pinner_from.step]
    rw [if_pos (by simp; omega)]
    unfold stopB at hst
    simp only [Bool.or_eq_false_iff] at hst
    simp [pinS, stopB, hst.1, mkQ]
  | succ m ih =>
    intro i d fresh r e him hd hfr hr hst
    have hit : i < t.length := by omega
    have hn : t[i]? = some t[i] := List.getElem?_eq_getElem hit
    have hnt := h.ht.nt _ (List.getElem_mem hit)
    have hns := h.st _ (List.getElem_mem hit)
    have hs1 := h.hf.s1; have hh1 := h.hf.h1
    obtain ⟨d', hL1, hL2⟩ := from_loop h like (spec_l03Pinner_from.rec_ (m + 1 + e)) (pinS f t old like budget m (i + 1)) hd hfr hn r d (fun k r' hk h1 h2 => by
      obtain ⟨hk1, hk2⟩ := ptk_mem hk
      have hdk : DIn (setP d t[i].fAt.toNat k) := DIn_setP hd (by omega) (by omega)
      have hfk : 0 ≤ freshV old t[i].fAt.toNat k fresh ∧ freshV old t[i].fAt.toNat k fresh ≤ ((i + 1 : Nat) : Int) := by unfold freshV; split <;> omega
      exact ⟨ih (i + 1) _ _ r' e (by omega) hdk hfk h1 h2, (pin_rec h like m (i + 1) _ _ r' e (by omega) hdk hfk h1 h2).2⟩) (ptk f d t[i]) [] r rfl hr hst
    rw [show m + 1 + 1 + e = (m + 1 + e) + 1 by omega]
    have e0 : pinS f t old like budget (m + 1) i d fresh r = pinL old t[i].fAt.toNat like budget (pinS f t old like budget m (i + 1)) d fresh (ptk f d t[i]) r := by
      show (match t[i]? with | some n => pinL old n.fAt.toNat like budget (pinS f t old like budget m (i + 1)) d fresh (ptk f d n) r | none => r) = _
      rw [hn]
    rw [e0]
    have hft := l03Tracks_is h.hf hd (n := t[i]) (by omega) (by omega)
    rw [List.length_nil] at hL1
    refine ⟨d', ?_, hL2⟩
    show spec_l03Pinner_from.step (spec_l03Pinner_from.rec_ (m + 1 + e)) _ _ _ = _
    simp only [spec_l03Pinner_from.step, ix_lt hit, Option.bind_some]
    have ef : (⟨f.fSteps, f.fHammers⟩ : GFrame) = f := rfl
    rw [if_neg (by simp; omega), ef, hft]
    simp only [Option.bind_some]
    have hz : ((0 : Nat) : Int) = 0 := rfl
    rw [hz] at hL1
    rw [hL1]
    simp only [Option.bind_some, resQ]
    by_cases c : stopB like (pinL old t[i].fAt.toNat like budget (pinS f t old like budget m (i + 1)) d fresh (ptk f d t[i]) r) = true
    · rw [if_pos c, c]
    · rw [if_neg c]
      have c' : stopB like (pinL old t[i].fAt.toNat like budget (pinS f t old like budget m (i + 1)) d fresh (ptk f d t[i]) r) = false := by simpa using c
      rw [hL2 c', c']
      rfl

end Go.Proofs.YtojndiidhgdjcaaGreatDoor
