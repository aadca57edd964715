/- Changes read from a text, the program's way and the reference's. -/
import Derived.Test.YtgmmeokkgcbkdaaGreatDoorM0
import Derived.Test.YtgmmeokkgcbkdaaGreatDoorPFrame
import Derived.Test.YtgmmeokkgcbkdaaGreatDoorPTxt
import Derived.Test.YtgmmeokkgcbkdaaGreatDoorPJoin
import Derived.Test.YtgmmeokkgcbkdaaGreatDoorPNum
import Derived.Test.YtgmmeokkgcbkdaaGreatDoorPSpl
import Derived.Test.YtgmmeokkgcbkdaaGreatDoorPSigned
import Derived.Test.YtgmmeokkgcbkdaaGreatDoorPMapO
import Derived.Test.YtgmmeokkgcbkdaaGreatDoorPure
namespace Go.Proofs.YtgmmeokkgcbkdaaGreatDoor
open Eng
set_option linter.unusedVariables false
set_option linter.unusedSimpArgs false

/-! ### a text cut at a byte -/
theorem index_hit (c : UInt8) (t : List UInt8) : ∀ h : List UInt8, c ∉ h → Lib.index (h ++ c :: t) [c] = (h.length : Int) := by
  intro h
  induction h with
  | nil =>
    intro _
    show (if [c].isPrefixOf (c :: t) then (0 : Int) else _) = 0
    rw [if_pos (by simp [List.isPrefixOf])]
  | cons b h ih =>
    intro hc
    have hb : ¬ c = b := fun e => hc (by simp [e])
    have := ih (fun hh => hc (by simp [hh]))
    show (if [c].isPrefixOf (b :: (h ++ c :: t)) then (0 : Int) else if Lib.index (h ++ c :: t) [c] == -1 then -1 else Lib.index (h ++ c :: t) [c] + 1) = _
    rw [if_neg (by simp [List.isPrefixOf, hb]), this, if_neg (by rw [beq_iff_eq]; omega)]
    simp
theorem cut_hit {c : UInt8} {h t : List UInt8} (hc : c ∉ h) : Lib.cut (h ++ c :: t) [c] = (h, t, true) := by
  unfold Lib.cut
  rw [index_hit c t h hc, if_pos (by omega)]
  have e : ((h.length : Int)).toNat = h.length := by omega
  rw [e]
  simp
theorem cut_none {c : UInt8} {h : List UInt8} (hc : c ∉ h) : Lib.cut h [c] = (h, [], false) := by
  unfold Lib.cut
  rw [(index_one c h).1 hc, if_neg (by decide)]
theorem cutF_is (l : List UInt8) (c : UInt8) (hl : l.length ≤ 1048576) : cutF (tb l) (tb [c]) = some (tb (Lib.cut l [c]).1, tb (Lib.cut l [c]).2.1, (Lib.cut l [c]).2.2) := by
  unfold cutF
  rw [if_pos (by rw [tb_size]; omega), tb_data, tb_data]; rfl
theorem dd_no47 {l : List UInt8} (h : l = Lib.decDigits (val l)) : (47 : UInt8) ∉ l := by
  intro hm
  rw [h] at hm
  exact absurd (dd_dig _ _ hm).1 (by decide)
theorem implNumber_ex {most : Int} (l : List UInt8) (hlen : l.length ≤ 1048576) (hm : 0 ≤ most ∧ most ≤ 1000000000) : ∃ (a : Int) (q : Bool), impl_number (tb l) most = some (a, q) ∧ (l = Lib.decDigits (val l) ∧ (val l : Int) ≤ most → a = val l ∧ q = true) ∧ (q = true → l = Lib.decDigits (val l) ∧ (val l : Int) ≤ most) := by
  rw [implNumber_is l hlen hm]
  by_cases h : l = Lib.decDigits (val l) ∧ (val l : Int) ≤ most
  · rw [if_pos h]; exact ⟨_, _, rfl, fun _ => ⟨rfl, rfl⟩, fun _ => h⟩
  · rw [if_neg h]; exact ⟨_, _, rfl, fun hh => absurd hh h, fun hh => by cases hh⟩
/-! ### a word -/
open Classical in
noncomputable def rdC (w : List UInt8) : Option GChange := match w with
  | [] => none
  | b :: r => if b = 43 ∨ b = 45 then (match spl 47 r with
    | [h, t] => if (h = Lib.decDigits (val h) ∧ (val h : Int) ≤ 95) ∧ (t = Lib.decDigits (val t) ∧ (val t : Int) ≤ 23) then some ⟨(val h : Int), (val t : Int), decide (b = 43)⟩ else none
    | _ => none) else none
def InC (x : GChange) : Prop := (0 ≤ x.fStep ∧ x.fStep ≤ 95) ∧ (0 ≤ x.fTrack ∧ x.fTrack ≤ 23)
theorem rdC_in {w : List UInt8} {x : GChange} (h : rdC w = some x) : InC x := by
  unfold rdC at h
  split at h
  · cases h
  · split at h
    · split at h
      · split at h
        · rename_i hc
          cases h
          unfold InC; simp only; omega
        · cases h
      · cases h
    · cases h
/-! ### the program: it stops at the 2401st -/
noncomputable def rdCi (x : List UInt8 × Nat) : Option GChange := if x.2 = 2400 then none else rdC x.1
theorem mapO_zip : ∀ (l : List (List UInt8)) (n : Nat), n + l.length ≤ 2400 → mapO rdCi (l.zipIdx n) = mapO rdC l := by
  intro l
  induction l with
  | nil => intro n _; rfl
  | cons w l ih =>
    intro n h
    have := ih (n + 1) (by simp at h; omega)
    rw [List.zipIdx_cons]
    simp only [mapO, this]
    have e : rdCi (w, n) = rdC w := by
      unfold rdCi
      rw [if_neg (by simp at h ⊢; omega)]
    rw [e]
theorem implWordC (w : List UInt8) (hw : w.length ≤ 1048576) : ∃ (q1 q2 a2 b2 : Bool) (x y z : ByteArray) (a b : Int) (z2 : Bool), strings_CutPrefix (tb w) (tb [43]) = some (x, q1) ∧ strings_CutPrefix x (tb [45]) = some (y, q2) ∧ ∃ u v : ByteArray, strings_Cut y (tb [47]) = some (u, v, z2) ∧ impl_number u 95 = some (a, a2) ∧ impl_number v 23 = some (b, b2) ∧
    ((((q1 == q2) || (!a2)) || (!b2)) = true ↔ rdC w = none) ∧ ∀ c, rdC w = some c → c = ⟨a, b, q1⟩ ∧ InC c := by
  cases w with
  | nil =>
    refine ⟨_, _, _, _, _, _, tb [], _, _, _, cutMinus_is [] (by simp) 43, cutMinus_is [] (by simp) 45, _, _, cutF_is [] 47 (by simp), implNumber_is _ (by simp [Lib.cut, Lib.index]) (by omega), implNumber_is _ (by simp [Lib.cut, Lib.index]) (by omega), ?_, ?_⟩
    · simp [rdC]
    · intro c hc; cases hc
  | cons b r =>
    have hlr : r.length ≤ 1048576 := by simp at hw; omega
    -- behind the sign
    have tailP : ∀ (s : List UInt8) (hs : s.length ≤ 1048576), ∃ (a2 b2 : Bool) (a b : Int) (z2 : Bool) (u v : ByteArray), strings_Cut (tb s) (tb [47]) = some (u, v, z2) ∧ impl_number u 95 = some (a, a2) ∧ impl_number v 23 = some (b, b2) ∧
        (∀ (p q : List UInt8), spl 47 s = [p, q] → ((p = Lib.decDigits (val p) ∧ (val p : Int) ≤ 95) ∧ (q = Lib.decDigits (val q) ∧ (val q : Int) ≤ 23)) → a = val p ∧ b = val q ∧ a2 = true ∧ b2 = true) ∧
        ((a2 = true ∧ b2 = true) → ∃ p q, spl 47 s = [p, q] ∧ ((p = Lib.decDigits (val p) ∧ (val p : Int) ≤ 95) ∧ (q = Lib.decDigits (val q) ∧ (val q : Int) ≤ 23))) := by
      intro s hs
      by_cases hc : (47 : UInt8) ∈ s
      · obtain ⟨p, q, rfl, hp⟩ := List.eq_append_cons_of_mem hc
        have hpl : p.length ≤ 1048576 := by simp at hs; omega
        have hql : q.length ≤ 1048576 := by simp at hs; omega
        have hcut := cutF_is (p ++ 47 :: q) 47 hs
        rw [cut_hit hp] at hcut
        obtain ⟨xa, qa, n1, n2, n3⟩ := implNumber_ex (most := 95) p hpl (by omega)
        obtain ⟨xb, qb, m1, m2, m3⟩ := implNumber_ex (most := 23) q hql (by omega)
        refine ⟨_, _, _, _, _, _, _, hcut, n1, m1, ?_, ?_⟩
        · intro p' q' hsp hok
          rw [spl_hit q p hp] at hsp
          cases hq : spl 47 q with
          | nil => exact absurd hq (spl_ne _ _)
          | cons y ys =>
            rw [hq] at hsp
            simp only [List.cons.injEq] at hsp
            obtain ⟨rfl, rfl, rfl⟩ := hsp
            have := join_spl 47 q
            rw [hq, join_one] at this
            subst this
            exact ⟨(n2 hok.1).1, (m2 hok.2).1, (n2 hok.1).2, (m2 hok.2).2⟩
        · rintro ⟨h1, h2⟩
          exact ⟨p, q, by rw [spl_hit q p hp, spl_none q (dd_no47 (m3 h2).1)], n3 h1, m3 h2⟩
      · have hcut := cutF_is s 47 hs
        rw [cut_none hc] at hcut
        obtain ⟨xa, qa, n1, n2, n3⟩ := implNumber_ex (most := 95) s hs (by omega)
        obtain ⟨xb, qb, m1, m2, m3⟩ := implNumber_ex (most := 23) [] (by simp) (by omega)
        refine ⟨_, _, _, _, _, _, _, hcut, n1, m1, ?_, ?_⟩
        · intro p q hsp _
          rw [spl_none s hc] at hsp
          simp at hsp
        · rintro ⟨_, h2⟩
          exact absurd (m3 h2).1.symm (dd_ne _)
    by_cases c43 : b = 43
    · subst c43
      have e1 : strings_CutPrefix (tb (43 :: r)) (tb [43]) = some (tb r, true) := by rw [cutMinus_is _ hw]; simp
      by_cases h45 : ∃ r', r = 45 :: r'
      · obtain ⟨r', rfl⟩ := h45
        have e2 : strings_CutPrefix (tb (45 :: r')) (tb [45]) = some (tb r', true) := by rw [cutMinus_is _ hlr]; simp
        obtain ⟨a2, b2, a, b, z2, u, v, t1, t2, t3, _, _⟩ := tailP r' (by simp at hlr; omega)
        refine ⟨_, _, a2, b2, _, _, tb [], a, b, z2, e1, e2, u, v, t1, t2, t3, ?_, ?_⟩
        · simp only [beq_self_eq_true, Bool.true_or, true_iff]
          unfold rdC
          simp only
          rw [if_pos (Or.inl trivial)]
          have hsp : spl 47 (45 :: r') = match spl 47 r' with
            | w :: x => (45 :: w) :: x
            | [] => [[45]] := by
            conv => lhs; unfold spl
            rw [if_neg (by decide)]
            rfl
          cases hq : spl 47 r' with
          | nil => exact absurd hq (spl_ne _ _)
          | cons y ys =>
            rw [hq] at hsp
            simp only at hsp
            rw [hsp]
            match ys with
            | [] => rfl
            | [t] => simp only; rw [if_neg (fun hh => dd_no45 _ _ hh.1.1.symm)]
            | _ :: _ :: _ => rfl
        · intro c hc
          exfalso
          unfold rdC at hc
          simp only at hc
          rw [if_pos (Or.inl trivial)] at hc
          split at hc
          · rename_i p q hsp
            split at hc
            · rename_i hok
              have hj := join_spl 47 (45 :: r')
              rw [hsp, join_cons2, join_one] at hj
              cases p with
              | nil => exact dd_ne _ hok.1.1.symm
              | cons x p =>
                rw [List.cons_append, List.cons_append, List.cons.injEq] at hj
                rw [hj.1] at hok
                exact dd_no45 _ _ hok.1.1.symm
            · cases hc
          · cases hc
      · have e2 : strings_CutPrefix (tb r) (tb [45]) = some (tb r, false) := by
          rw [cutMinus_is _ hlr]
          cases r with
          | nil => rfl
          | cons x r =>
            simp only
            rw [if_neg (fun h => h45 ⟨r, by rw [h]⟩)]
        obtain ⟨a2, b2, a, b, z2, u, v, t1, t2, t3, t4, t5⟩ := tailP r hlr
        refine ⟨_, _, a2, b2, _, _, tb [], a, b, z2, e1, e2, u, v, t1, t2, t3, ?_, ?_⟩
        · unfold rdC
          simp only
          rw [if_pos (Or.inl trivial)]
          constructor
          · intro hh
            split
            · rename_i p q hsp
              split
              · rename_i hok
                obtain ⟨_, _, rfl, rfl⟩ := t4 p q hsp hok
                simp at hh
              · rfl
            · rfl
          · intro hh
            cases a2 <;> cases b2 <;> try rfl
            obtain ⟨p, q, hsp, hok⟩ := t5 ⟨rfl, rfl⟩
            rw [hsp] at hh
            simp only at hh
            rw [if_pos hok] at hh
            cases hh
        · intro c hc
          have hin := rdC_in hc
          unfold rdC at hc
          simp only at hc
          rw [if_pos (Or.inl trivial)] at hc
          split at hc
          · rename_i p q hsp
            split at hc
            · rename_i hok
              obtain ⟨ha, hb, _, _⟩ := t4 p q hsp hok
              cases hc
              refine ⟨?_, hin⟩
              rw [ha, hb]
              rfl
            · cases hc
          · cases hc
    · have e1 : strings_CutPrefix (tb (b :: r)) (tb [43]) = some (tb (b :: r), false) := by
        rw [cutMinus_is _ hw]; simp only; rw [if_neg c43]
      by_cases c45 : b = 45
      · subst c45
        have e2 : strings_CutPrefix (tb (45 :: r)) (tb [45]) = some (tb r, true) := by rw [cutMinus_is _ hw]; simp
        obtain ⟨a2, b2, a, b, z2, u, v, t1, t2, t3, t4, t5⟩ := tailP r hlr
        refine ⟨_, _, a2, b2, _, _, tb [], a, b, z2, e1, e2, u, v, t1, t2, t3, ?_, ?_⟩
        · unfold rdC
          simp only
          rw [if_pos (.inr trivial)]
          constructor
          · intro hh
            split
            · rename_i p q hsp
              split
              · rename_i hok
                obtain ⟨_, _, rfl, rfl⟩ := t4 p q hsp hok
                simp at hh
              · rfl
            · rfl
          · intro hh
            cases a2 <;> cases b2 <;> try rfl
            obtain ⟨p, q, hsp, hok⟩ := t5 ⟨rfl, rfl⟩
            rw [hsp] at hh
            simp only at hh
            rw [if_pos hok] at hh
            cases hh
        · intro c hc
          have hin := rdC_in hc
          unfold rdC at hc
          simp only at hc
          rw [if_pos (.inr trivial)] at hc
          split at hc
          · rename_i p q hsp
            split at hc
            · rename_i hok
              obtain ⟨ha, hb, _, _⟩ := t4 p q hsp hok
              cases hc
              refine ⟨?_, hin⟩
              rw [ha, hb]
              rfl
            · cases hc
          · cases hc
      · have e2 : strings_CutPrefix (tb (b :: r)) (tb [45]) = some (tb (b :: r), false) := by
          rw [cutMinus_is _ hw]; simp only; rw [if_neg c45]
        obtain ⟨a2, b2, a, b', z2, u, v, t1, t2, t3, _, _⟩ := tailP (b :: r) hw
        have hn : rdC (b :: r) = none := by
          unfold rdC
          simp only
          rw [if_neg (fun hh => by rcases hh with hh | hh; exact c43 hh; exact c45 hh)]
        refine ⟨_, _, a2, b2, _, _, tb [], a, b', z2, e1, e2, u, v, t1, t2, t3, ?_, ?_⟩
        · simp [hn]
        · intro c hc; rw [hn] at hc; cases hc
theorem implReadC {ws : List (List UInt8)} (hl : ws.length ≤ 2000000) (hw : ∀ w ∈ ws, w.length ≤ 1048576) : loop (impl_ReadChanges.l_6 (ws.map tb)) (([] : List GChange), 0) = some (resO (mapO rdCi ws.zipIdx) (([] : List GChange), (5 : Int))) := by
  refine read_loop rdCi ws.zipIdx _ (by simpa using hl) (fun k hk xs hxs => ?_) (fun xs => ?_)
  · have hk' : k < ws.length := by simpa using hk
    have hkt : k < (ws.map tb).length := by simpa using hk'
    have hwk := hw _ (List.getElem_mem hk')
    have e43 : (ByteArray.mk #[43]) = tb [43] := rfl
    have e45 : (ByteArray.mk #[45]) = tb [45] := rfl
    have e47 : (ByteArray.mk #[47]) = tb [47] := rfl
    have hx : ix (ws.map tb) (k : Int) = some (tb ws[k]) := by rw [ix_lt hkt, List.getElem_map]
    obtain ⟨q1, q2, a2, b2, x, y, _, a, b, z2, p1, p2, u, v, p3, p4, p5, p6, p7⟩ := implWordC ws[k] hwk
    simp only [impl_ReadChanges.l_6, hx, Option.bind_some, List.length_map, e43, e45, e47, p1, p2, p3, p4, p5]
    rw [if_pos (by simpa using hk'), w64_in (n := (k : Int) + 1) (by omega) (by omega)]
    have hz : ws.zipIdx[k] = (ws[k], k) := by rw [List.getElem_zipIdx]; simp
    rw [hz]
    have hap : ∀ y : GChange, xs.length + [y].length ≤ 4294967296 := fun y => by simp; omega
    unfold rdCi stepO
    simp only
    by_cases h1 : k = 2400
    · rw [if_pos h1, if_pos (by rw [hxs, h1]; simp)]
    · rw [if_neg h1]
      have e : ((xs.length : Int) == 2400) = false := by rw [hxs, ← Bool.not_eq_true, beq_iff_eq]; omega
      rw [e, Bool.or_false]
      cases hr : rdC ws[k] with
      | none => rw [if_pos (p6.2 hr)]
      | some c =>
        obtain ⟨rfl, hin⟩ := p7 c hr
        have hn : ¬ ((((q1 == q2) || (!a2)) || (!b2)) = true) := fun hh => by rw [p6.1 hh] at hr; cases hr
        obtain ⟨⟨i1, i2⟩, i3, i4⟩ := hin
        simp only at i1 i2 i3 i4
        rw [if_neg hn, if_pos (hap _), w16_in (by omega) (by omega), w8_in (by omega) (by omega)]
        rfl
  · simp only [impl_ReadChanges.l_6, List.length_map, List.length_zipIdx]
    rw [if_neg (by simp)]
end Go.Proofs.YtgmmeokkgcbkdaaGreatDoor
