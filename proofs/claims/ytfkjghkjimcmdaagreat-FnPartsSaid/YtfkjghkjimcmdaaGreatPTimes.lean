/- How often parts have to be made new, the program's and the reference's. -/
import Derived.Test.YtfkjghkjimcmdaaGreatM1
import Derived.Test.YtfkjghkjimcmdaaGreatPFrame
import Derived.Test.YtfkjghkjimcmdaaGreatPDrum
import Derived.Test.YtfkjghkjimcmdaaGreatPCodes
import Derived.Test.YtfkjghkjimcmdaaGreatPWear
import Derived.Test.YtfkjghkjimcmdaaGreatPPut
import Derived.Test.YtfkjghkjimcmdaaGreatPWDrum
import Derived.Test.YtfkjghkjimcmdaaGreatPEach
import Derived.Test.YtfkjghkjimcmdaaGreatPParts
import Derived.Test.YtfkjghkjimcmdaaGreatPFirst
import Derived.Test.YtfkjghkjimcmdaaGreatPure
namespace Go.Proofs.YtfkjghkjimcmdaaGreat
open Eng
set_option linter.unusedVariables false
set_option linter.unusedSimpArgs false

/-- how often a part is made new in n turns -/
def timesV (n : Int) (p : Gpart) : Int := if p.feach = 0 then 0 else if Int.tdiv (p.flife - p.fmade) p.feach + 1 ≤ n then 1 + Int.tdiv (n - (Int.tdiv (p.flife - p.fmade) p.feach + 1)) (Int.tdiv p.flife p.feach) else 0
structure Good (p : Gpart) : Prop where
  m0 : 0 ≤ p.fmade
  m1 : p.fmade ≤ p.flife
  l0 : 1 ≤ p.flife
  l1 : p.flife ≤ 1000000
  e0 : 0 ≤ p.feach
theorem tdiv_bd {a b : Int} (ha : 0 ≤ a) (hb : 0 < b) : 0 ≤ Int.tdiv a b ∧ Int.tdiv a b ≤ a := by
  rw [Int.tdiv_eq_ediv_of_nonneg ha]
  exact ⟨Int.ediv_nonneg ha (by omega), Int.ediv_le_self b ha⟩
theorem tdiv_pos {a b : Int} (hb : 0 < b) (h : b ≤ a) : 1 ≤ Int.tdiv a b := by
  rw [Int.tdiv_eq_ediv_of_nonneg (by omega)]
  exact Int.le_ediv_of_mul_le hb (by omega)
theorem times_facts {p : Gpart} (h : Good p) {n : Int} (h0 : 0 ≤ n) (h1 : n ≤ 1000000) (he : p.feach ≠ 0) (hl : p.feach ≤ p.flife) :
    (0 ≤ Int.tdiv (p.flife - p.fmade) p.feach ∧ Int.tdiv (p.flife - p.fmade) p.feach ≤ 1000000) ∧ (1 ≤ Int.tdiv p.flife p.feach ∧ Int.tdiv p.flife p.feach ≤ 1000000) ∧
    (Int.tdiv (p.flife - p.fmade) p.feach + 1 ≤ n → 0 ≤ Int.tdiv (n - (Int.tdiv (p.flife - p.fmade) p.feach + 1)) (Int.tdiv p.flife p.feach) ∧ Int.tdiv (n - (Int.tdiv (p.flife - p.fmade) p.feach + 1)) (Int.tdiv p.flife p.feach) ≤ 1000000) := by
  obtain ⟨a, b, c, d, e⟩ := h
  have t1 := tdiv_bd (a := p.flife - p.fmade) (b := p.feach) (by omega) (by omega)
  have t2 := tdiv_bd (a := p.flife) (b := p.feach) (by omega) (by omega)
  have t3 := tdiv_pos (a := p.flife) (b := p.feach) (by omega) hl
  refine ⟨⟨t1.1, by omega⟩, ⟨t3, by omega⟩, fun hle => ?_⟩
  have t4 := tdiv_bd (a := n - (Int.tdiv (p.flife - p.fmade) p.feach + 1)) (b := Int.tdiv p.flife p.feach) (by omega) (by omega)
  exact ⟨t4.1, by omega⟩
theorem timesV_bd {p : Gpart} (h : Good p) {n : Int} (h0 : 0 ≤ n) (h1 : n ≤ 1000000) (hl : p.feach ≤ p.flife) : 0 ≤ timesV n p ∧ timesV n p ≤ 1000001 := by
  unfold timesV
  by_cases he : p.feach = 0
  · rw [if_pos he]; omega
  · obtain ⟨t1, t2, t3⟩ := times_facts h h0 h1 he hl
    rw [if_neg he]
    by_cases hle : Int.tdiv (p.flife - p.fmade) p.feach + 1 ≤ n
    · rw [if_pos hle]; have := t3 hle; omega
    · rw [if_neg hle]; omega
theorem l06Times_is {p : Gpart} (h : Good p) {n : Int} (h0 : 0 ≤ n) (h1 : n ≤ 1000000) : spec_l06Times p.fmade p.feach p.flife n = some (if p.feach ≤ p.flife then (timesV n p, true) else (0, false)) := by
  have hg := h
  obtain ⟨a, b, c, d, e⟩ := h
  unfold spec_l06Times timesV
  by_cases he : p.feach = 0
  · rw [if_pos (by simpa using he), if_pos he, if_pos (by omega)]
  · rw [if_neg (by simpa using he), if_neg he]
    by_cases hl : p.feach ≤ p.flife
    · obtain ⟨t1, t2, t3⟩ := times_facts hg h0 h1 he hl
      rw [if_neg (by simp; omega), if_pos he, if_pos hl, w64_in (n := p.flife - p.fmade) (by omega) (by omega), w64_in (n := Int.tdiv (p.flife - p.fmade) p.feach) (by omega) (by omega), w64_in (n := Int.tdiv (p.flife - p.fmade) p.feach + 1) (by omega) (by omega)]
      by_cases hle : Int.tdiv (p.flife - p.fmade) p.feach + 1 ≤ n
      · have := t3 hle
        rw [if_neg (by simp; omega), if_pos he, if_pos hle, w64_in (n := Int.tdiv p.flife p.feach) (by omega) (by omega), if_pos (by omega), w64_in (n := n - (Int.tdiv (p.flife - p.fmade) p.feach + 1)) (by omega) (by omega), w64_in (n := Int.tdiv (n - (Int.tdiv (p.flife - p.fmade) p.feach + 1)) (Int.tdiv p.flife p.feach)) (by omega) (by omega), w64_in (by omega) (by omega)]
      · rw [if_pos (by simp; omega), if_neg hle]
    · rw [if_pos (by simp; omega), if_neg hl]
def sumT (n : Int) (ps : List Gpart) : Int := (ps.map (timesV n)).sum
theorem sumT_snoc (n : Int) (ps : List Gpart) (p : Gpart) : sumT n (ps ++ [p]) = sumT n ps + timesV n p := by unfold sumT; simp
theorem sumT_bd {n : Int} (h0 : 0 ≤ n) (h1 : n ≤ 1000000) : ∀ ps : List Gpart, (∀ p ∈ ps, Good p ∧ p.feach ≤ p.flife) → 0 ≤ sumT n ps ∧ sumT n ps ≤ 1000001 * ps.length := by
  intro ps
  induction ps with
  | nil => intro _; simp [sumT]
  | cons p ps ih =>
    intro h
    have hp := h p (by simp)
    have := ih (fun q hq => h q (by simp [hq]))
    have hb := timesV_bd hp.1 h0 h1 hp.2
    have e : sumT n (p :: ps) = timesV n p + sumT n ps := by unfold sumT; simp
    rw [e, List.length_cons]
    omega
theorem take_good {ps : List Gpart} (h : ∀ p ∈ ps, Good p ∧ p.feach ≤ p.flife) (k : Nat) : ∀ p ∈ ps.take k, Good p ∧ p.feach ≤ p.flife := fun p hp => h p (List.mem_of_mem_take hp)
/-! ### the program -/
def badB (p : Gpart) : Bool := wornB p || decide (p.feach > p.flife)
theorem contains_bad (ps : List Gpart) (h : ps.length ≤ 9223372036854775807) : slices_ContainsFunc_part_at_impl_PartsFor_1 ps = some (ps.any badB) := by
  obtain ⟨t, ht, hq⟩ := loop_find (f := slices_IndexFunc_part_at_impl_PartsFor_1.l_3 ps) ps badB h (fun k hk => by
    simp only [slices_IndexFunc_part_at_impl_PartsFor_1.l_3, ix_lt hk, Option.bind_some, impl_PartsFor_1, impl_part_isWorn]
    rw [if_pos (by simpa using hk)]
    unfold badB wornB
    split <;> rfl) (by simp [slices_IndexFunc_part_at_impl_PartsFor_1.l_3])
  simp only [slices_ContainsFunc_part_at_impl_PartsFor_1, slices_IndexFunc_part_at_impl_PartsFor_1, ht, Option.bind_some]
  rcases hq with ⟨hany, k, rfl, _⟩ | ⟨hany, rfl⟩
  · rw [hany]; simp
  · rw [hany]; simp [slices_IndexFunc_part_at_impl_PartsFor_1.k_1]
theorem partStep {n : Int} (h0 : 0 ≤ n) (h1 : n ≤ 1000000) {ps : List Gpart} (hl : ps.length ≤ 9223372036854775806) (i j : Int) (k : Nat) (hk : k < ps.length) (hg : Good ps[k] ∧ ps[k].feach ≤ ps[k].flife) (hi : 0 ≤ i ∧ i ≤ 9000000000000000000) (hj : 0 ≤ j ∧ j ≤ 9000000000000000000) :
    impl_PartsFor.l_13 n ps (i, j, (k : Int)) = some (.inl (if ps[k].fstep < 0 then (i, j + timesV n ps[k], ((k + 1 : Nat) : Int)) else (i + timesV n ps[k], j, ((k + 1 : Nat) : Int)))) := by
  obtain ⟨hgd, hle⟩ := hg
  have hb := timesV_bd hgd h0 h1 hle
  have e1 : w64 ((k : Int) + 1) = ((k + 1 : Nat) : Int) := by rw [w64_in (by omega) (by omega)]; omega
  simp only [impl_PartsFor.l_13, ix_lt hk, Option.bind_some, e1]
  rw [if_pos (by simpa using hk)]
  by_cases he : ps[k].feach = 0
  · rw [if_pos (by simpa using he)]
    have : timesV n ps[k] = 0 := by unfold timesV; rw [if_pos he]
    rw [this]; simp
  · obtain ⟨t1, t2, t3⟩ := times_facts hgd h0 h1 he hle
    obtain ⟨a, b, c, d, e⟩ := hgd
    rw [if_neg (by simpa using he), if_pos he, w64_in (n := ps[k].flife - ps[k].fmade) (by omega) (by omega), w64_in (n := Int.tdiv (ps[k].flife - ps[k].fmade) ps[k].feach) (by omega) (by omega), w64_in (n := Int.tdiv (ps[k].flife - ps[k].fmade) ps[k].feach + 1) (by omega) (by omega)]
    by_cases hlt : Int.tdiv (ps[k].flife - ps[k].fmade) ps[k].feach + 1 ≤ n
    · have := t3 hlt
      have ev : timesV n ps[k] = 1 + Int.tdiv (n - (Int.tdiv (ps[k].flife - ps[k].fmade) ps[k].feach + 1)) (Int.tdiv ps[k].flife ps[k].feach) := by unfold timesV; rw [if_neg he, if_pos hlt]
      rw [if_pos (by simpa using hlt), if_pos he, w64_in (n := Int.tdiv ps[k].flife ps[k].feach) (by omega) (by omega), if_pos (by omega), w64_in (n := n - (Int.tdiv (ps[k].flife - ps[k].fmade) ps[k].feach + 1)) (by omega) (by omega), w64_in (n := Int.tdiv (n - (Int.tdiv (ps[k].flife - ps[k].fmade) ps[k].feach + 1)) (Int.tdiv ps[k].flife ps[k].feach)) (by omega) (by omega), ← ev, w64_in (n := timesV n ps[k]) (by omega) (by omega)]
      simp only [impl_PartsFor.k_17, e1]
      by_cases hs : ps[k].fstep < 0
      · rw [if_pos (by simpa using hs), if_pos hs, w64_in (n := j + timesV n ps[k]) (by omega) (by omega)]
      · rw [if_neg (by simpa using hs), if_neg hs, w64_in (n := i + timesV n ps[k]) (by omega) (by omega)]
    · have ev : timesV n ps[k] = 0 := by unfold timesV; rw [if_neg he, if_neg hlt]
      rw [if_neg (by simpa using hlt), ev]
      simp only [impl_PartsFor.k_17, e1]
      by_cases hs : ps[k].fstep < 0
      · rw [if_pos (by simpa using hs), if_pos hs, w64_in (n := j + 0) (by omega) (by omega)]
      · rw [if_neg (by simpa using hs), if_neg hs, w64_in (n := i + 0) (by omega) (by omega)]
def pinL (w : GWear) (v : GLives) : List Gpart := w.fPins.map (pinPart v)
def hamL (f : GFrame) (w : GWear) (v : GLives) : List Gpart := (List.range f.fHammers.length).map (hamPart w v)
theorem good_parts {f : GFrame} {w : GWear} {v : GLives} (h : WOk f w) (hv : livB v = true) (hb : (partsL f w v).any badB = false) : ∀ p ∈ partsL f w v, Good p ∧ p.feach ≤ p.flife := by
  intro p hp
  have hbad : badB p = false := by
    cases hx : badB p with
    | false => rfl
    | true => have := List.any_eq_true.2 ⟨p, hp, hx⟩; rw [hb] at this; cases this
  unfold badB wornB at hbad
  simp only [Bool.or_eq_false_iff, decide_eq_false_iff_not] at hbad
  unfold livB at hv
  simp only [Bool.and_eq_true, decide_eq_true_eq] at hv
  unfold partsL at hp
  rcases List.mem_append.1 hp with hp | hp
  · obtain ⟨q, hq, rfl⟩ := List.mem_map.1 hp
    have := (h.pl q hq).2.2
    simp only [pinPart] at hbad ⊢
    exact ⟨⟨by simp only; omega, by simp only; omega, by simp only; omega, by simp only; omega, by simp only; omega⟩, by omega⟩
  · obtain ⟨t, ht, rfl⟩ := List.mem_map.1 hp
    have := (stroke_ix h (show t < f.fHammers.length by simpa using ht)).2
    simp only [hamPart] at hbad ⊢
    exact ⟨⟨by simp only; omega, by simp only; omega, by simp only; omega, by simp only; omega, by simp only; omega⟩, by omega⟩
theorem implSum {f : GFrame} {w : GWear} {v : GLives} (h : WOk f w) (hp : w.fPins.length ≤ 1048576) {n : Int} (h0 : 0 ≤ n) (h1 : n ≤ 1000000) (hg : ∀ p ∈ partsL f w v, Good p ∧ p.feach ≤ p.flife) :
    loop (impl_PartsFor.l_13 n (partsL f w v)) (0, 0, 0) = some (sumT n (pinL w v), sumT n (hamL f w v)) := by
  have hh1 := h.fr.h1
  have hl := partsL_len f w v
  have hpl : (pinL w v).length = w.fPins.length := by simp [pinL]
  have hhl : (hamL f w v).length = f.fHammers.length := by simp [hamL]
  have hgp : ∀ p ∈ pinL w v, Good p ∧ p.feach ≤ p.flife := fun p hp => hg p (List.mem_append_left _ hp)
  have hgh : ∀ p ∈ hamL f w v, Good p ∧ p.feach ≤ p.flife := fun p hp => hg p (List.mem_append_right _ hp)
  have := loop_seq (f := impl_PartsFor.l_13 n (partsL f w v)) (partsL f w v).length (fun k => (sumT n ((pinL w v).take k), sumT n ((hamL f w v).take (k - w.fPins.length)), (k : Int))) (sumT n (pinL w v), sumT n (hamL f w v)) (fun k hk => by
    have b1 := sumT_bd h0 h1 _ (take_good hgp k)
    have b2 := sumT_bd h0 h1 _ (take_good hgh (k - w.fPins.length))
    rw [List.length_take] at b1 b2
    rw [partStep h0 h1 (by omega) _ _ k hk (hg _ (List.getElem_mem hk)) (by omega) (by omega)]
    by_cases hkp : k < w.fPins.length
    · have hk2 : k < (pinL w v).length := by omega
      have eg : (partsL f w v)[k] = (pinL w v)[k] := by
        have : (partsL f w v)[k] = (pinL w v ++ hamL f w v)[k]'(by rw [List.length_append]; omega) := rfl
        rw [this, List.getElem_append_left hk2]
      have es : ¬ (partsL f w v)[k].fstep < 0 := by
        rw [eg]
        have := (h.pl _ (List.getElem_mem hkp)).1
        simp only [pinL, List.getElem_map, pinPart]; omega
      rw [if_neg es, List.take_succ_eq_append_getElem hk2, sumT_snoc, eg, show k + 1 - w.fPins.length = 0 by omega, show k - w.fPins.length = 0 by omega]
    · have hk2 : k - w.fPins.length < (hamL f w v).length := by omega
      have eg : (partsL f w v)[k] = (hamL f w v)[k - w.fPins.length] := by
        have : (partsL f w v)[k] = (pinL w v ++ hamL f w v)[k]'(by rw [List.length_append]; omega) := rfl
        rw [this, List.getElem_append_right (by omega)]
        congr 1; omega
      have es : (partsL f w v)[k].fstep < 0 := by
        rw [eg]; simp only [hamL, List.getElem_map, hamPart]; omega
      rw [if_pos es, show k + 1 - w.fPins.length = (k - w.fPins.length) + 1 by omega, List.take_succ_eq_append_getElem hk2, sumT_snoc, eg, List.take_of_length_le (show (pinL w v).length ≤ k + 1 by omega), List.take_of_length_le (show (pinL w v).length ≤ k by omega)]) (by
    simp only [impl_PartsFor.l_13]
    rw [if_neg (by simp), List.take_of_length_le (by omega), List.take_of_length_le (by omega)])
  simpa [sumT] using this
/-! ### the reference -/
theorem specPinSum {f : GFrame} {w : GWear} {v : GLives} (h : WOk f w) (hp : w.fPins.length ≤ 1048576) {n : Int} (h0 : 0 ≤ n) (h1 : n ≤ 1000000) (hg : ∀ p ∈ pinL w v, Good p ∧ p.feach ≤ p.flife) :
    loop (spec_l06Parts.l_16 w v n) (0, 0) = some (.inr (sumT n (pinL w v))) := by
  have hpl : (pinL w v).length = w.fPins.length := by simp [pinL]
  have := loop_seq (f := spec_l06Parts.l_16 w v n) w.fPins.length (fun k => (sumT n ((pinL w v).take k), (k : Int))) (.inr (sumT n (pinL w v))) (fun k hk => by
    have hk2 : k < (pinL w v).length := by omega
    have hgk := hg _ (List.getElem_mem hk2)
    have b1 := sumT_bd h0 h1 _ (take_good hg k)
    have b2 := timesV_bd hgk.1 h0 h1 hgk.2
    rw [List.length_take] at b1
    have e := l06Times_is hgk.1 h0 h1
    rw [if_pos hgk.2] at e
    have eg : (pinL w v)[k] = pinPart v w.fPins[k] := by simp [pinL]
    rw [List.take_succ_eq_append_getElem hk2, sumT_snoc]
    rw [eg] at e b2 ⊢
    simp only [pinPart] at e
    simp only [spec_l06Parts.l_16, ix_lt hk, Option.bind_some, e]
    rw [if_pos (by simpa using hk), if_neg (by simp), w64_in (n := (k : Int) + 1) (by omega) (by omega)]
    simp only [pinPart] at b2 ⊢
    rw [w64_in (by omega) (by omega)]
    rfl) (by
    simp only [spec_l06Parts.l_16]
    rw [if_neg (by simp), List.take_of_length_le (by omega)])
  simpa [sumT] using this
theorem specHamSum {f : GFrame} {w : GWear} {v : GLives} (h : WOk f w) (hp : w.fPins.length ≤ 1048576) {n : Int} (h0 : 0 ≤ n) (h1 : n ≤ 1000000) (hg : ∀ p ∈ hamL f w v, Good p) :
    loop (spec_l06Parts.l_9 w v n (eachL f.fHammers.length w.fPins)) (0, 0) = some (if (hamL f w v).all (fun p => decide (p.feach ≤ p.flife)) = true then .inr (sumT n (hamL f w v)) else .inl (0, 0, 4)) := by
  have hh1 := h.fr.h1
  have hhl : (hamL f w v).length = f.fHammers.length := by simp [hamL]
  have step : ∀ (k : Nat) (hk : k < f.fHammers.length) (i : Int), 0 ≤ i → i ≤ 9000000000000000000 → spec_l06Parts.l_9 w v n (eachL f.fHammers.length w.fPins) (i, (k : Int)) = some (if (hamL f w v)[k].feach ≤ (hamL f w v)[k].flife then .inl (i + timesV n (hamL f w v)[k], ((k + 1 : Nat) : Int)) else .inr (.inl (0, 0, 4))) := by
    intro k hk i hi0 hi1
    have hk2 : k < (hamL f w v).length := by omega
    have hgk := hg _ (List.getElem_mem hk2)
    have e := l06Times_is hgk h0 h1
    have eg : (hamL f w v)[k] = hamPart w v k := by simp [hamL]
    rw [eg] at e hgk ⊢
    by_cases hle : (hamPart w v k).feach ≤ (hamPart w v k).flife
    · have b2 := timesV_bd hgk h0 h1 hle
      rw [if_pos hle] at e ⊢
      simp only [hamPart] at e b2 ⊢
      simp only [spec_l06Parts.l_9, (stroke_ix h hk).1, ix_get (eachL_get f.fHammers.length w.fPins k hk), Option.bind_some, e, eachL_len]
      rw [if_pos (by simpa using hk), if_neg (by simp), w64_in (n := (k : Int) + 1) (by omega) (by omega), w64_in (by omega) (by omega)]
      rfl
    · rw [if_neg hle] at e ⊢
      simp only [hamPart] at e
      simp only [spec_l06Parts.l_9, (stroke_ix h hk).1, ix_get (eachL_get f.fHammers.length w.fPins k hk), Option.bind_some, e, eachL_len]
      rw [if_pos (by simpa using hk), if_pos (by simp)]
  obtain ⟨t, ht, rfl⟩ := loop_inv (f := spec_l06Parts.l_9 w v n (eachL f.fHammers.length w.fPins)) (fun s => ∃ k : Nat, k ≤ f.fHammers.length ∧ s = (sumT n ((hamL f w v).take k), (k : Int)) ∧ ∀ p ∈ (hamL f w v).take k, p.feach ≤ p.flife) (fun s => f.fHammers.length - s.2.toNat)
    (fun t => t = if (hamL f w v).all (fun p => decide (p.feach ≤ p.flife)) = true then .inr (sumT n (hamL f w v)) else .inl (0, 0, 4)) (by
    rintro _ ⟨k, hk, rfl, hall⟩
    have b1 := sumT_bd h0 h1 ((hamL f w v).take k) (fun p hp => ⟨hg p (List.mem_of_mem_take hp), hall p hp⟩)
    rw [List.length_take] at b1
    by_cases hlt : k < f.fHammers.length
    · have hk2 : k < (hamL f w v).length := by omega
      rw [step k hlt _ b1.1 (by omega)]
      by_cases hle : (hamL f w v)[k].feach ≤ (hamL f w v)[k].flife
      · left
        refine ⟨_, by rw [if_pos hle], ⟨k + 1, by omega, ?_, ?_⟩, ?_⟩
        · rw [List.take_succ_eq_append_getElem hk2, sumT_snoc]
        · rw [List.take_succ_eq_append_getElem hk2]
          intro p hp
          rcases List.mem_append.1 hp with hp | hp
          · exact hall p hp
          · simp at hp; subst hp; exact hle
        · simp only; omega
      · right
        refine ⟨_, by rw [if_neg hle], ?_⟩
        rw [if_neg]
        intro ha
        have := List.all_eq_true.1 ha _ (List.getElem_mem hk2)
        exact hle (by simpa using this)
    · right
      obtain rfl : k = f.fHammers.length := by omega
      rw [List.take_of_length_le (by omega)] at hall
      refine ⟨.inr (sumT n (hamL f w v)), ?_, ?_⟩
      · simp only [spec_l06Parts.l_9, eachL_len]
        rw [if_neg (by simp), List.take_of_length_le (by omega)]
      · rw [if_pos]
        rw [List.all_eq_true]
        intro p hp
        simpa using hall p hp) (0, 0) ⟨0, by omega, by simp [sumT], by simp⟩
  exact ht
/-- both -/
def partsV (f : GFrame) (w : GWear) (v : GLives) (n : Int) : Int × Int × Int := if (partsL f w v).any badB = true then (0, 0, 4) else (sumT n (pinL w v), sumT n (hamL f w v), 0)
theorem l06Parts_is {f : GFrame} {w : GWear} {v : GLives} (h : WOk f w) (hp : w.fPins.length ≤ 1048576) (hv : livB v = true) {n : Int} (h0 : 0 ≤ n) (h1 : n ≤ 1000000) : spec_l06Parts w v n = some (partsV f w v n) := by
  have hv' := hv
  unfold livB at hv'
  simp only [Bool.and_eq_true, decide_eq_true_eq] at hv'
  simp only [spec_l06Parts, whole_is h hp v, Option.bind_some, Bool.not_not]
  cases hw : (partsL f w v).any wornB with
  | true =>
    have : (partsL f w v).any badB = true := by
      obtain ⟨p, hp, hq⟩ := List.any_eq_true.1 hw
      exact List.any_eq_true.2 ⟨p, hp, by unfold badB; rw [hq]; rfl⟩
    simp [partsV, this]
  | false =>
    have hnw : ∀ p ∈ partsL f w v, ¬ p.fmade > p.flife := by
      intro p hp hq
      have := List.any_eq_true.2 ⟨p, hp, (show wornB p = true by unfold wornB; simpa using hq)⟩
      rw [hw] at this; cases this
    have hgp : ∀ p ∈ pinL w v, Good p ∧ p.feach ≤ p.flife := by
      intro p hp
      have := hnw p (List.mem_append_left _ hp)
      obtain ⟨q, hq, rfl⟩ := List.mem_map.1 hp
      have h2 := (h.pl q hq).2.2
      simp only [pinPart] at this ⊢
      exact ⟨⟨by simp only; omega, by simp only; omega, by simp only; omega, by simp only; omega, by simp only; omega⟩, by omega⟩
    have hgh : ∀ p ∈ hamL f w v, Good p := by
      intro p hp
      have := hnw p (List.mem_append_right _ hp)
      obtain ⟨t, ht, rfl⟩ := List.mem_map.1 hp
      have h2 := (stroke_ix h (show t < f.fHammers.length by simpa using ht)).2
      simp only [hamPart] at this ⊢
      exact ⟨by simp only; omega, by simp only; omega, by simp only; omega, by simp only; omega, by simp only; omega⟩
    rw [if_neg (by simp), specPinSum h hp h0 h1 hgp]
    simp only [Option.bind_some, spec_l06Parts.k_3, l06Each_is h hp, specHamSum h hp h0 h1 hgh]
    have e : (partsL f w v).any badB = !((hamL f w v).all (fun p => decide (p.feach ≤ p.flife))) := by
      rw [Bool.eq_iff_iff, List.any_eq_true, Bool.not_eq_true', ← Bool.not_eq_true, List.all_eq_true]
      constructor
      · rintro ⟨p, hp, hb⟩ hall
        have h3 := hnw p hp
        unfold badB wornB at hb
        simp only [Bool.or_eq_true, decide_eq_true_eq] at hb
        rcases hb with hb | hb
        · exact h3 hb
        · rcases List.mem_append.1 hp with hp | hp
          · have := (hgp p hp).2; omega
          · have := hall p hp; simp at this; omega
      · intro hna
        refine Classical.byContradiction fun hn => hna fun p hp => ?_
        rw [decide_eq_true_eq]
        refine Classical.byContradiction fun hlt => hn ⟨p, List.mem_append_right _ hp, ?_⟩
        unfold badB; simp; right; omega
    unfold partsV
    rw [e]
    cases (hamL f w v).all (fun p => decide (p.feach ≤ p.flife)) <;> simp [spec_l06Parts.k_6]
theorem partsFor_is {f : GFrame} {w : GWear} {v : GLives} (hi : FIn f) (hw : WIn w) (hf : f.fHammers.length ≤ 1048576) (hp : w.fPins.length ≤ 1048576) (hs : w.fStrokes.length ≤ 1048576) (n : Int) :
    impl_PartsFor f w v n = some (if wearB f w = true ∧ livB v = true then (if tuB n = true then partsV f w v n else (0, 0, 2)) else (0, 0, 1)) := by
  simp only [impl_PartsFor, wearCode1 f w hf hp hs v, isMade_is, unless_is, firstOf2, Option.bind_some]
  by_cases c : wearB f w = true ∧ livB v = true
  · have hok := wearB_ok c.1 hi hw
    have hh1 := hok.fr.h1
    have hl := partsL_len f w v
    simp only [if_pos c]
    cases ct : tuB n with
    | false => simp
    | true =>
      have ht : 0 ≤ n ∧ n ≤ 1000000 := by unfold tuB at ct; simpa using ct
      simp only [if_true, ne_eq, not_true_eq_false, if_false, bne_self_eq_false, Bool.false_eq_true, parts_is hok hp v, Option.bind_some, contains_bad _ (show (partsL f w v).length ≤ 9223372036854775807 by omega)]
      cases hb : (partsL f w v).any badB with
      | true => simp [partsV, hb]
      | false =>
        simp only [Bool.false_eq_true, if_false, implSum hok hp ht.1 ht.2 (good_parts hok c.2 hb), Option.bind_some, impl_PartsFor.k_9, partsV, hb]
  · simp only [if_neg c]
    simp

end Go.Proofs.YtfkjghkjimcmdaaGreat
