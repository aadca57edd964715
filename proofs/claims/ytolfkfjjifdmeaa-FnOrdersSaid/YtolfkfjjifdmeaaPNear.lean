/- The order by the nearest drums: the program's is the reference's. -/
import Derived.Test.YtolfkfjjifdmeaaM0
import Derived.Test.YtolfkfjjifdmeaaM2
import Derived.Test.YtolfkfjjifdmeaaPFrame
import Derived.Test.YtolfkfjjifdmeaaPDrum
import Derived.Test.YtolfkfjjifdmeaaPCodes
import Derived.Test.YtolfkfjjifdmeaaPPut
import Derived.Test.YtolfkfjjifdmeaaPBits
import Derived.Test.YtolfkfjjifdmeaaPCost
import Derived.Test.YtolfkfjjifdmeaaPDTab
import Derived.Test.YtolfkfjjifdmeaaPBPath
import Derived.Test.YtolfkfjjifdmeaaPOrdImpl
import Derived.Test.YtolfkfjjifdmeaaPOrdSpec
import Derived.Test.YtolfkfjjifdmeaaPDTabC
import Derived.Test.YtolfkfjjifdmeaaPBestOrd
import Derived.Test.YtolfkfjjifdmeaaPOrdLaw
import Derived.Test.YtolfkfjjifdmeaaPure
namespace Go.Proofs.Ytolfkfjjifdmeaa
open Eng
set_option linter.unusedVariables false
set_option linter.unusedSimpArgs false

def encN : Option Cd → Int
  | some (_, k :: _) => (k : Int)
  | _ => -1
def nearC (c : Nat → Nat → Nat) (a k : Nat) : Cd := (c a k, [k])
/-- the nearest one of those that are left -/
def nearK (c : Nat → Nat → Nat) (n a left : Nat) : Nat := match fms none ((rem n left).map (nearC c a)) with
  | some (_, k :: _) => k
  | _ => 0
def nearP (c : Nat → Nat → Nat) (n : Nat) : Nat → Nat → Nat → List Nat
  | 0 => fun _ _ => []
  | m + 1 => fun a left => nearK c n a left :: nearP c n m (nearK c n a left) (off left (nearK c n a left))
section
variable {c : Nat → Nat → Nat} {n : Nat}
theorem fms_form {a : Nat} : ∀ (ks : List Nat) (x : Cd), fms none (ks.map (nearC c a)) = some x → ∃ k ∈ ks, x = nearC c a k := by
  intro ks x h
  obtain ⟨us, vs, e, _⟩ := fms_first h
  have : x ∈ ks.map (nearC c a) := by rw [e]; simp
  obtain ⟨k, hk, rfl⟩ := List.mem_map.1 this
  exact ⟨k, hk, rfl⟩
theorem nearK_is {a left m : Nat} (h : card n left = m + 1) : fms none ((rem n left).map (nearC c a)) = some (nearC c a (nearK c n a left)) ∧ nearK c n a left < n ∧ left.testBit (nearK c n a left) = true := by
  have hne : (rem n left).map (nearC c a) ≠ [] := by
    intro e
    have := congrArg List.length e
    rw [List.length_map, rem_len, h] at this
    simp at this
  obtain ⟨x, hx⟩ := fms_some hne
  obtain ⟨k, hk, rfl⟩ := fms_form _ _ hx
  have e : nearK c n a left = k := by unfold nearK; rw [hx]; rfl
  rw [e]
  exact ⟨hx, (mem_rem.1 hk).1, (mem_rem.1 hk).2⟩
theorem nearP_perm : ∀ (m a left : Nat), card n left = m → (nearP c n m a left).length = m ∧ (nearP c n m a left).Nodup ∧ ∀ x, x ∈ nearP c n m a left ↔ x < n ∧ left.testBit x = true := by
  intro m
  induction m with
  | zero =>
    intro a left h
    refine ⟨rfl, List.nodup_nil, fun x => ?_⟩
    have hr : rem n left = [] := List.eq_nil_of_length_eq_zero (by rw [rem_len, h])
    rw [← mem_rem, hr]
    exact Iff.rfl
  | succ m ih =>
    intro a left h
    obtain ⟨_, hk, hb⟩ := nearK_is (c := c) (a := a) h
    obtain ⟨h1, h2, h3⟩ := ih (nearK c n a left) (off left (nearK c n a left)) (by have := card_off hk hb; omega)
    refine ⟨by simp only [nearP, List.length_cons, h1], ?_, ?_⟩
    · simp only [nearP]
      refine List.nodup_cons.2 ⟨fun hm => ?_, h2⟩
      have := ((h3 _).1 hm).2
      rw [off_bit, hb] at this
      simp at this
    · intro x
      simp only [nearP, List.mem_cons]
      rw [h3, off_bit]
      by_cases e : nearK c n a left = x
      · subst e; simp [hk, hb]
      · have e' : ¬ x = nearK c n a left := fun h => e h.symm
        simp [e, e']
/-- one comparison -/
theorem near_step {a k : Nat} {s : Option Cd} (hs : ∀ x, s = some x → ∃ j, x = nearC c a j) : (∀ j, s = some (nearC c a j) → encN (fmO s (nearC c a k)) = if c a k < c a j then (k : Int) else (j : Int)) ∧ (s = none → encN (fmO s (nearC c a k)) = (k : Int)) := by
  constructor
  · rintro j rfl
    by_cases h : c a k < c a j
    · simp [fmO, nearC, h, encN]
    · simp [fmO, nearC, h, encN]
  · rintro rfl; rfl
variable {T : List (List Int)}
theorem near_impl_step (hT : TabC T n c) {a left : Nat} (ha : a < n) {o : List Nat} (ho : o.length ≤ 8) (hbit : ∀ i, i < n → left.testBit i = !(decide (i ∈ o))) {r : List Int} (hr : ix T (a : Int) = some r) :
    loop (impl_NearestOrder.l_16 (cst o) r (n : Int)) (-1, 0) = some (encN (fms none ((rem n left).map (nearC c a)))) := by
  have h8 := hT.n8
  have hrow : ∀ k, k < n → ix r (k : Int) = some ((c a k : Nat) : Int) := by
    intro k hk
    obtain ⟨r', r1, r2⟩ := hT.at_ a k ha hk
    rw [hr] at r1
    obtain rfl := Option.some.inj r1
    exact r2
  have := loop_seq (f := impl_NearestOrder.l_16 (cst o) r (n : Int)) n (fun k => (encN (fms none ((rem k left).map (nearC c a))), (k : Int))) (encN (fms none ((rem n left).map (nearC c a)))) (fun k hk => by
    have hw : w64 ((k : Int) + 1) = ((k + 1 : Nat) : Int) := by rw [w64_in (by omega) (by omega)]; omega
    have hc : decide ((k : Int) ∈ cst o) = !(left.testBit k) := by
      rw [hbit k hk, Bool.not_not, Bool.eq_iff_iff, decide_eq_true_eq, decide_eq_true_eq, mem_cst]
    simp only [impl_NearestOrder.l_16, containsI (cst o) (k : Int) (by rw [cst_len]; omega), Option.bind_some, hc, Bool.not_not, hw, rem_succ, impl_NearestOrder.k_19]
    rw [if_pos (by rw [decide_eq_true_eq]; omega)]
    cases hb : left.testBit k with
    | false => simp
    | true =>
      simp only [if_true, List.map_append, List.map_cons, List.map_nil, fms_app]
      cases hs : fms none ((rem k left).map (nearC c a)) with
      | none =>
        rw [if_pos (by simp [encN])]
        rfl
      | some x =>
        obtain ⟨j, hj, rfl⟩ := fms_form _ _ hs
        have hjn := (mem_rem.1 hj).1
        have e1 : encN (some (nearC c a j)) = (j : Int) := rfl
        have e2 : encN (fms (some (nearC c a j)) [nearC c a k]) = if c a k < c a j then (k : Int) else (j : Int) := (near_step (c := c) (k := k) (s := some (nearC c a j)) (fun x hx => ⟨j, (Option.some.inj hx).symm⟩)).1 j rfl
        rw [e2, e1, if_neg (by rw [decide_eq_true_eq]; omega), hrow k hk, hrow j (by omega)]
        simp only [Option.bind_some]
        by_cases hlt : c a k < c a j
        · rw [if_pos (by rw [decide_eq_true_eq]; exact Int.ofNat_lt.2 hlt), if_pos hlt]
        · rw [if_neg (by rw [decide_eq_true_eq]; exact fun e => hlt (Int.ofNat_lt.1 e)), if_neg hlt]) (by
    simp only [impl_NearestOrder.l_16]
    rw [if_neg (by simp)])
  exact this
theorem near_spec_step {ds : List (Arr 96 Int)} (hds : ds.length = n) (hT : TabC T n c) {a left : Nat} (ha : a < n) :
    loop (spec_NearestOrder.l_17 ds T (left : Int) (a : Int)) (-1, 0) = some (encN (fms none ((rem n left).map (nearC c a)))) := by
  have h8 := hT.n8
  have := loop_seq (f := spec_NearestOrder.l_17 ds T (left : Int) (a : Int)) n (fun k => (encN (fms none ((rem k left).map (nearC c a))), (k : Int))) (encN (fms none ((rem n left).map (nearC c a)))) (fun k hk => by
    have hw : w64 ((k : Int) + 1) = ((k + 1 : Nat) : Int) := by rw [w64_in (by omega) (by omega)]; omega
    have hb64 := bit64 (l := left) (show k ≤ 61 by omega)
    have hb1 : (Int.tmod (bShr .i64 (left : Int) (u64 (k : Int))) 2 == 1) = left.testBit k := by
      have hz : Int.tmod (bShr .i64 (left : Int) (u64 (k : Int))) 2 = if left.testBit k = true then 1 else 0 := by
        rw [u64_in (by omega) (by omega)]
        unfold bShr
        have e : min ((k : Int).toNat) IntKind.i64.bits = k := by
          have : IntKind.i64.bits = 64 := rfl
          rw [this]; simp; omega
        have e1 : ((2 : Int) ^ k) = ((2 ^ k : Nat) : Int) := by simp
        have e2 : (left : Int).fdiv ((2 ^ k : Nat) : Int) = ((left / 2 ^ k : Nat) : Int) := by
          rw [Int.fdiv_eq_ediv_of_nonneg _ (Int.natCast_nonneg _)]
          exact (Int.natCast_ediv _ _).symm
        rw [e, e1, e2, Int.tmod_eq_emod_of_nonneg (Int.natCast_nonneg _), Nat.testBit_eq_decide_div_mod_eq]
        generalize left / 2 ^ k = q
        by_cases h : q % 2 = 1
        · simp [h]; omega
        · simp [h]; omega
      rw [hz]
      cases left.testBit k <;> simp
    simp only [spec_NearestOrder.l_17, hb1, hw, rem_succ, spec_NearestOrder.k_20]
    rw [if_pos (by rw [decide_eq_true_eq, hds]; omega), if_pos (by rw [u64_in (by omega) (by omega)]; omega)]
    cases hb : left.testBit k with
    | false => simp
    | true =>
      simp only [if_true, List.map_append, List.map_cons, List.map_nil, fms_app]
      cases hs : fms none ((rem k left).map (nearC c a)) with
      | none =>
        rw [if_pos (by simp [encN])]
        rfl
      | some x =>
        obtain ⟨j, hj, rfl⟩ := fms_form _ _ hs
        have hjn := (mem_rem.1 hj).1
        obtain ⟨r, r1, r2⟩ := hT.at_ a k ha hk
        obtain ⟨r', p1, p2⟩ := hT.at_ a j ha (by omega)
        have e1 : encN (some (nearC c a j)) = (j : Int) := rfl
        have e2 : encN (fms (some (nearC c a j)) [nearC c a k]) = if c a k < c a j then (k : Int) else (j : Int) := (near_step (c := c) (k := k) (s := some (nearC c a j)) (fun x hx => ⟨j, (Option.some.inj hx).symm⟩)).1 j rfl
        rw [e2, e1, if_neg (by rw [decide_eq_true_eq]; omega)]
        rw [r1] at p1
        obtain rfl := Option.some.inj p1
        simp only [r1, r2, p2, Option.bind_some]
        by_cases hlt : c a k < c a j
        · rw [if_pos (by rw [decide_eq_true_eq]; exact Int.ofNat_lt.2 hlt), if_pos hlt]
        · rw [if_neg (by rw [decide_eq_true_eq]; exact fun e => hlt (Int.ofNat_lt.1 e)), if_neg hlt]) (by
    simp only [spec_NearestOrder.l_17]
    rw [if_neg (by rw [decide_eq_true_eq, hds]; omega)])
  exact this
theorem near_way {ds : List (Arr 96 Int)} (hds : ds.length = n) (hT : TabC T n c) : ∀ (m a left : Nat) (o : List Nat), card n left = m → a < n → left < 2 ^ n → (o ++ [a]).length + m = n → (∀ i, i < n → left.testBit i = !(decide (i ∈ o ++ [a]))) →
    loop (impl_NearestOrder.l_7 ds T) (cst (o ++ [a])) = some (cst ((o ++ [a]) ++ nearP c n m a left)) ∧
    loop (spec_NearestOrder.l_10 ds T) (cst (o ++ [a]), (left : Int)) = some (cst ((o ++ [a]) ++ nearP c n m a left)) := by
  have h8 := hT.n8
  have hp8 : 2 ^ n ≤ 2 ^ 8 := Nat.pow_le_pow_right (by omega) h8
  have e8 : (2 ^ 8 : Nat) = 256 := rfl
  have e61 : (2 ^ 61 : Nat) = 2305843009213693952 := rfl
  intro m
  induction m with
  | zero =>
    intro a left o hc ha hl ho hbit
    obtain rfl := (card_zero hl).1 hc
    constructor
    · rw [loop_eq]
      simp only [impl_NearestOrder.l_7]
      rw [if_neg (by rw [decide_eq_true_eq, cst_len, hds]; omega)]
      simp [nearP]
    · rw [loop_eq]
      simp only [spec_NearestOrder.l_10]
      rw [if_neg (by simp)]
      simp [nearP]
  | succ m ih =>
    intro a left o hc ha hl ho hbit
    have hl0 : left ≠ 0 := fun e => by rw [(card_zero hl).2 e] at hc; cases hc
    obtain ⟨hk1, hk2, hk3⟩ := nearK_is (c := c) (a := a) hc
    obtain ⟨r, r1, _⟩ := hT.at_ a 0 ha (by omega)
    have hlast : ix (cst (o ++ [a])) (w64 (((cst (o ++ [a])).length : Int) - 1)) = some (a : Int) := by
      have hlen : (o ++ [a]).length = o.length + 1 := by simp
      rw [cst_len, w64_in (by omega) (by omega), hlen, show (((o.length + 1 : Nat) : Int) - 1) = (o.length : Int) by omega, ix_cst (by omega)]
      simp
    generalize hK : nearK c n a left = ks at *
    have hsub : card n (off left ks) = m := by have := card_off hk2 hk3; omega
    have hne : ¬ ks ∈ o ++ [a] := by
      have := hbit ks hk2
      rw [hk3] at this
      simpa using this
    obtain ⟨i1, i2⟩ := ih ks (off left ks) (o ++ [a]) hsub hk2 (off_lt hl hk2) (by simp at ho ⊢; omega) (by
      intro i hi
      rw [off_bit, hbit i hi]
      by_cases e : ks = i
      · subst e; simp [hne]
      · have e' : ¬ i = ks := fun h => e h.symm
        simp [e, e'])
    have e0 : encN (some (nearC c a ks)) = (ks : Int) := rfl
    have e1 : cst (o ++ [a]) ++ [(ks : Int)] = cst ((o ++ [a]) ++ [ks]) := by rw [cst_app (o ++ [a])]; rfl
    have e2 : (o ++ [a]) ++ nearP c n (m + 1) a left = ((o ++ [a]) ++ [ks]) ++ nearP c n m ks (off left ks) := by simp [nearP, hK]
    have hxr : bXor .i64 (left : Int) ((2 ^ ks : Nat) : Int) = ((off left ks : Nat) : Int) := xor64 (by omega) (Nat.pow_lt_pow_right (by omega) (by omega))
    rw [e2]
    constructor
    · rw [loop_eq]
      have hs := near_impl_step hT ha (o := o ++ [a]) (by omega) hbit r1
      rw [hk1, e0] at hs
      simp only [impl_NearestOrder.l_7, hlast, r1, Option.bind_some, impl_size_Drum, hds, hs, impl_NearestOrder.k_13, e1]
      rw [if_pos (by rw [decide_eq_true_eq, cst_len]; omega), if_pos (by rw [cst_len]; simp at ho ⊢; omega)]
      exact i1
    · rw [loop_eq]
      have hs := near_spec_step hds hT ha (left := left)
      rw [hk1, e0] at hs
      simp only [spec_NearestOrder.l_10, hlast, Option.bind_some, hs, spec_NearestOrder.k_14, e1, shl64 (show ks ≤ 61 by omega), hxr]
      rw [if_pos (by simp; omega), if_pos (by rw [cst_len]; simp at ho ⊢; omega), if_pos (by rw [u64_in (by omega) (by omega)]; omega)]
      exact i2
theorem l05Sum_is (hT : TabC T n c) (o : List Nat) (ho : ∀ x ∈ o, x < n) (hl : o.length ≤ 100) : spec_l05Sum T (cst o) = some ((costO c o : Nat) : Int) := by
  have h := orderCost_is hT o ho hl
  exact h
end
theorem nearOrd_same (f : GFrame) (ds : List (Arr 96 Int)) {a : Nat} (hi : FIn f) (hl : f.fHammers.length ≤ 9223372036854775807) (hd : ∀ d ∈ ds, DIn d) (hc : startF f ds (a : Int) = 0) :
    ∃ r, impl_NearestOrder f ds (a : Int) = some (cst (a :: r), ((costO (cstD ds) (a :: r) : Nat) : Int), 0) ∧ spec_NearestOrder f ds (a : Int) = some (cst (a :: r), ((costO (cstD ds) (a :: r) : Nat) : Int), 0) ∧ IsO ds.length (a :: r) := by
  obtain ⟨h1, h8, _, ha⟩ := startF_ok hc
  have ha : a < ds.length := by omega
  have hT := tabC_is h1 h8
  have hds : ds.length ≤ 4294967296 := by omega
  have e61 : (2 ^ 61 : Nat) = 2305843009213693952 := rfl
  have hp8 : 2 ^ ds.length ≤ 2 ^ 8 := Nat.pow_le_pow_right (by omega) h8
  have e8 : (2 ^ 8 : Nat) = 256 := rfl
  have hp : 1 ≤ 2 ^ ds.length := Nat.pos_of_ne_zero (by simp)
  have hcard := off_card ha
  obtain ⟨p1, p2, p3⟩ := nearP_perm (c := cstD ds) (ds.length - 1) a (off (fullN ds.length) a) hcard
  have hO : IsO ds.length (a :: nearP (cstD ds) ds.length (ds.length - 1) a (off (fullN ds.length) a)) := by
    have hnd : (a :: nearP (cstD ds) ds.length (ds.length - 1) a (off (fullN ds.length) a)).Nodup := by
      refine List.nodup_cons.2 ⟨fun hm => ?_, p2⟩
      have := ((p3 a).1 hm).2
      rw [off_bit, full_bit ha] at this
      simp at this
    refine ⟨hnd, fun x => ?_⟩
    rw [List.mem_cons, p3, off_bit]
    by_cases ex : a = x
    · subst ex; simp [ha]
    · have ex' : ¬ x = a := fun h => ex h.symm
      by_cases hx : x < ds.length
      · rw [full_bit hx]; simp [ex, ex', hx]
      · simp [ex', hx]
  obtain ⟨w1, w2⟩ := near_way (ds := ds) rfl hT (ds.length - 1) a (off (fullN ds.length) a) [] hcard ha (off_lt (full_lt _) ha) (by simp; omega) (by
    intro i hi'
    rw [off_bit, full_bit hi']
    by_cases e : a = i
    · subst e; simp
    · have e' : ¬ i = a := fun h => e h.symm
      simp [e, e'])
  simp only [List.nil_append, List.cons_append] at w1 w2
  have e1 : cst [a] = [(a : Int)] := rfl
  rw [e1] at w1 w2
  have hb := fun x hx => (hO.2 x).1 hx
  have hol := hO.len
  have hsh : bShl .i64 1 (u64 (ds.length : Int)) = ((2 ^ ds.length : Nat) : Int) := shl64 (by omega)
  have hsub : w64 (((2 ^ ds.length : Nat) : Int) - 1) = ((fullN ds.length : Nat) : Int) := by
    unfold fullN
    generalize 2 ^ ds.length = q at *
    rw [w64_in (by omega) (by omega)]; omega
  have hxr : bXor .i64 ((fullN ds.length : Nat) : Int) ((2 ^ a : Nat) : Int) = ((off (fullN ds.length) a : Nat) : Int) := xor64 (by have := full_lt ds.length; omega) (Nat.pow_lt_pow_right (by omega) (by omega))
  refine ⟨_, ?_, ?_, hO⟩
  · simp only [impl_NearestOrder, startCodeF_is f hi hl ds hds hd, hc, Option.bind_some, costs_is ds hds hd, w1, impl_NearestOrder.k_4, orderCost_is hT _ hb (by omega)]
    rw [if_neg (by simp), if_neg (by rw [decide_eq_true_eq]; omega)]
  · simp only [spec_NearestOrder, l05FirstF_is f hi hl ds hds hd, hc, Option.bind_some, spec_NearestOrder.k_3, l05Table_is ds hds hd, hsh, hsub, shl64 (show a ≤ 61 by omega), hxr, w2, spec_NearestOrder.k_6, l05Sum_is hT _ hb (by omega)]
    rw [if_neg (by simp), if_neg (by simp), if_pos (by rw [u64_in (by omega) (by omega)]; omega), if_pos (by rw [u64_in (by omega) (by omega)]; omega)]

end Go.Proofs.Ytolfkfjjifdmeaa
