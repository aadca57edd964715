/- Moves between drums, told and made: the program's and the reference's. -/
import Derived.Test.YtojndiidhgdjcaaGreatDoorM0
import Derived.Test.YtojndiidhgdjcaaGreatDoorM1
import Derived.Test.YtojndiidhgdjcaaGreatDoorM2
import Derived.Test.YtojndiidhgdjcaaGreatDoorPFrame
import Derived.Test.YtojndiidhgdjcaaGreatDoorPDrum
import Derived.Test.YtojndiidhgdjcaaGreatDoorPCodes
import Derived.Test.YtojndiidhgdjcaaGreatDoorPPut
import Derived.Test.YtojndiidhgdjcaaGreatDoorPPlc
import Derived.Test.YtojndiidhgdjcaaGreatDoorPBits
import Derived.Test.YtojndiidhgdjcaaGreatDoorPCost
import Derived.Test.YtojndiidhgdjcaaGreatDoorPChList
import Derived.Test.YtojndiidhgdjcaaGreatDoorPClash
import Derived.Test.YtojndiidhgdjcaaGreatDoorPMoveL
import Derived.Test.YtojndiidhgdjcaaGreatDoorPure
namespace Go.Proofs.YtojndiidhgdjcaaGreatDoor
open Eng
set_option linter.unusedVariables false
set_option linter.unusedSimpArgs false

theorem onlyIn {f : GFrame} (hf : FOk f) {a b d : Arr 96 Int} (ha : DIn a) (hb : DIn b) (hd : ∀ s t, s < 96 → pin d s t = (pin a s t && !pin b s t)) (s : Nat) (hs : (s : Int) < f.fSteps) (xs : List (Arr 2 Int)) (hx : xs.length ≤ 4000) :
    loop (spec_l03Only.l_11 f a b (s : Int)) (xs, 0) = some (xs ++ prRow f.fHammers.length d s) := by
  have h1 := hf.h1; have h2 := hf.s1; have h3 := hf.s0
  refine loop_app f.fHammers.length 1 (by omega) (pr1 d s) xs (fun k _ => pr1_len d s k) (fun ys k hk hy => ?_) (fun ys => by simp [spec_l03Only.l_11])
  simp only [spec_l03Only.l_11, pin_is ha (show s < 96 by omega) (t := k) (by omega), pin_is hb (show s < 96 by omega) (t := k) (by omega), Option.bind_some]
  rw [if_pos (by simpa using hk)]
  unfold pr1
  rw [hd s k (by omega)]
  cases ca : pin a s k with
  | true =>
    cases cb : pin b s k with
    | true => simp [spec_l03Only.k_14]
    | false =>
      simp only [if_true, spec_l03Only.k_14, Bool.not_false, Bool.and_self]
      rw [if_pos (by simp only [List.length_cons, List.length_nil]; omega)]
      rfl
  | false => simp [spec_l03Only.k_14]
theorem only_is {f : GFrame} (hf : FOk f) {a b d : Arr 96 Int} (ha : DIn a) (hb : DIn b) (hd : ∀ s t, s < 96 → pin d s t = (pin a s t && !pin b s t)) : spec_l03Only f a b = some (prL f d) := by
  have h1 := hf.h1; have h2 := hf.s1; have h3 := hf.s0
  have e : w64 f.fSteps = (f.fSteps.toNat : Int) := by rw [w64_in (by omega) (by omega)]; omega
  have := loop_app (f := spec_l03Only.l_5 f a b) f.fSteps.toNat 24 (by omega) (prRow f.fHammers.length d) [] (fun k _ => by have := prRow_len f.fHammers.length d k; omega) (fun ys k hk hy => by
    simp only [List.length_nil] at hy
    simp only [spec_l03Only.l_5, Option.bind_some, onlyIn hf ha hb hd k (by omega) ys (by omega), spec_l03Only.k_8]
    rw [if_pos (by rw [e, decide_eq_true_eq]; omega)]) (fun ys => by simp [spec_l03Only.l_5, e])
  simp only [spec_l03Only, this, Option.bind_some, spec_l03Only.k_2, List.nil_append]
  rfl
theorem codes_both {f : GFrame} (hf : FOk f) {a b : Arr 96 Int} (ha : VD f a) (hb : VD f b) : impl_drumCode f [a, b] = some 0 := by
  have hh1 := hf.h1; have hs1 := hf.s1; have hs0 := hf.s0
  have hi : FIn f := ⟨by omega, fun y hy => by have := hf.hp y hy; omega⟩
  have h1 := drumCode_is f hi (show f.fHammers.length ≤ 9223372036854775807 by omega) [a, b] (by simp) (by
    intro d hd
    simp only [List.mem_cons, List.not_mem_nil, or_false] at hd
    rcases hd with rfl | rfl
    · exact ha.din
    · exact hb.din)
  rw [if_pos ⟨frameB_of hf, by simp [drumB_of ha.in_, drumB_of hb.in_]⟩] at h1
  exact h1
/-- the two lists of moves -/
theorem movesB {f : GFrame} (hf : FOk f) {a b : Arr 96 Int} (ha : VD f a) (hb : VD f b) : ∃ d e, (∀ s t, s < 96 → pin d s t = (pin a s t && !pin b s t)) ∧ (∀ s t, s < 96 → pin e s t = (pin b s t && !pin a s t)) ∧
    impl_MovesBetween f a b = some (prL f d, prL f e, 0) ∧ spec_MovesBetween f a b = some (prL f d, prL f e, 0) ∧ (prL f d).length ≤ 2304 ∧ (prL f e).length ≤ 2304 ∧ (prL f e).length = beyond b a := by
  obtain ⟨d, h1, h2, h3⟩ := lessD_is ha.din hb.din
  obtain ⟨e, h4, h5, h6⟩ := lessD_is hb.din ha.din
  have hh1 := hf.h1
  refine ⟨d, e, h3, h6, ?_, ?_, prL_len hf d, prL_len hf e, ?_⟩
  · simp [impl_MovesBetween, codes_both hf ha hb, h1, h4, listed_is hf h2, listed_is hf h5]
  · simp [spec_MovesBetween, spec_MovesBetween.k_2, l02Frame_is f (show f.fHammers.length ≤ 9223372036854775807 by omega), frameB_of hf, l02Drum_is hf ha.din, l02Drum_is hf hb.din, drumB_of ha.in_, drumB_of hb.in_, only_is hf ha.din hb.din h3, only_is hf hb.din ha.din h6]
  · rw [pr_count hf (fun s t h => hb.in_ s t ((less_pin h6 s t).1 h).1), cnt_beyond h6]
theorem sameSpots_refl (t : List (Arr 2 Int)) (h : t.length ≤ 1000000) : spec_SameSpots t t = some true := by
  have h0 : loop (spec_SameSpots.l_3 t t) 0 = some (.inr ()) := loop_seq (f := spec_SameSpots.l_3 t t) t.length (fun k => (k : Int)) (.inr ()) (fun k hk => by
    simp only [spec_SameSpots.l_3, ix_lt hk, Option.bind_some]
    rw [if_pos (by simpa using hk), if_neg (by simp), w64_in (n := (k : Int) + 1) (by omega) (by omega)]
    simp) (by simp [spec_SameSpots.l_3])
  simp [spec_SameSpots, h0, spec_SameSpots.k_1]
theorem places_all {f : GFrame} (hf : FOk f) {L : List (Arr 2 Int)} (hl : L.length ≤ 10000) (h : ∀ p ∈ L, ∃ s t : Nat, (s : Int) < f.fSteps ∧ t < f.fHammers.length ∧ p = pA s t) : slices_ContainsFunc_2int64_at_impl_ApplyMoves_1 L f = some false := by
  have h0 : loop (slices_IndexFunc_2int64_at_impl_ApplyMoves_1.l_3 L f) 0 = some (.inr ()) := loop_seq (f := slices_IndexFunc_2int64_at_impl_ApplyMoves_1.l_3 L f) L.length (fun k => (k : Int)) (.inr ()) (fun k hk => by
    obtain ⟨s, t, hs, ht, hp⟩ := h _ (List.getElem_mem hk)
    have hp0 := pA_at s t
    have hpl : plB f (s : Int) (t : Int) = true := (plB_ok hf _ _).2 ⟨⟨by omega, hs⟩, by omega, by omega⟩
    simp only [slices_IndexFunc_2int64_at_impl_ApplyMoves_1.l_3, ix_lt hk, hp, Option.bind_some, impl_ApplyMoves_1, hp0.1, hp0.2, isPlace_is, hpl]
    rw [if_pos (by simpa using hk), if_neg (by simp), w64_in (n := (k : Int) + 1) (by omega) (by omega)]
    simp) (by simp [slices_IndexFunc_2int64_at_impl_ApplyMoves_1.l_3])
  simp [slices_ContainsFunc_2int64_at_impl_ApplyMoves_1, slices_IndexFunc_2int64_at_impl_ApplyMoves_1, h0, slices_IndexFunc_2int64_at_impl_ApplyMoves_1.k_1]
theorem apply_is {f : GFrame} (hf : FOk f) {a b d e : Arr 96 Int} (ha : VD f a) (hb : VD f b) (hd : ∀ s t, s < 96 → pin d s t = (pin a s t && !pin b s t)) (he : ∀ s t, s < 96 → pin e s t = (pin b s t && !pin a s t)) :
    impl_ApplyMoves f a (prL f d) (prL f e) = some (b, 0) := by
  have hh1 := hf.h1; have hs1 := hf.s1; have hs0 := hf.s0
  have hi : FIn f := ⟨by omega, fun y hy => by have := hf.hp y hy; omega⟩
  have l1 := prL_len hf d; have l2 := prL_len hf e
  have hdc := drumCode1 f hi (show f.fHammers.length ≤ 9223372036854775807 by omega) a ha.din
  rw [if_pos ⟨frameB_of hf, drumB_of ha.in_⟩] at hdc
  have hpl : ∀ p ∈ prL f d ++ prL f e, ∃ s t : Nat, (s : Int) < f.fSteps ∧ t < f.fHammers.length ∧ p = pA s t := by
    intro p hp
    rcases List.mem_append.1 hp with hp | hp
    · obtain ⟨s, t, h1, h2, _, h3⟩ := pr_mem hp; exact ⟨s, t, by omega, h2, h3⟩
    · obtain ⟨s, t, h1, h2, _, h3⟩ := pr_mem hp; exact ⟨s, t, by omega, h2, h3⟩
  have hap := moves_apart (f := f) hd he
  have hlast := moved_last (f := f) ha hb hd he
  have hll : (prL f d ++ prL f e).length ≤ 4608 := by rw [List.length_append]; omega
  have hon : ∀ k, (hk : k < (prL f d ++ prL f e).length) → ∀ s t, (prL f d ++ prL f e)[k] = pA s t → pin a s t = !(decide ((k : Int) ≥ ((prL f d).length : Int))) := by
    intro k hk s t hp
    by_cases c : k < (prL f d).length
    · rw [List.getElem_append_left c] at hp
      have hm : pA s t ∈ prL f d := hp ▸ List.getElem_mem c
      obtain ⟨s', t', _, _, h1, h2⟩ := pr_mem hm
      obtain ⟨rfl, rfl⟩ := pA_inj h2
      rw [((less_pin hd s t).1 h1).1, decide_eq_false (by omega)]
      rfl
    · have c2 : k - (prL f d).length < (prL f e).length := by rw [List.length_append] at hk; omega
      rw [List.getElem_append_right (by omega)] at hp
      have hm : pA s t ∈ prL f e := hp ▸ List.getElem_mem c2
      obtain ⟨s', t', _, _, h1, h2⟩ := pr_mem hm
      obtain ⟨rfl, rfl⟩ := pA_inj h2
      rw [((less_pin he s t).1 h1).2, decide_eq_true (by omega)]
      rfl
  have hL : loop (impl_ApplyMoves.l_9 (prL f d) (prL f d ++ prL f e)) (a, 0) = some (.inr b) := by
    generalize hLe : prL f d ++ prL f e = L at *
    obtain ⟨r, hr, hq⟩ := loop_for (f := impl_ApplyMoves.l_9 (prL f d) L) L.length (by omega) (fun k x => DIn x ∧ ∀ s t, s < 96 → t < 32 → pin x s t = (pin a s t != decide (pA s t ∈ L.take k))) (fun r => r = .inr b)
      (fun k x hk hx => by
        obtain ⟨hx1, hx2⟩ := hx
        obtain ⟨s, t, hs, ht, hp⟩ := hpl _ (List.getElem_mem hk)
        have hp0 := pA_at s t
        have hno : ¬ pA s t ∈ L.take k := fun hm => by
          obtain ⟨j, hj, e1⟩ := List.getElem_of_mem hm
          rw [List.length_take] at hj
          rw [List.getElem_take] at e1
          exact List.pairwise_iff_getElem.1 hap j k (by omega) hk (by omega) (e1.trans hp.symm)
        have hpin : pin x s t = pin a s t := by
          rw [hx2 s t (by omega) (by omega), decide_eq_false hno]
          cases pin a s t <;> rfl
        have ho := hon k hk s t hp
        have hmem : ∀ s' t', pA s' t' ∈ L.take (k + 1) ↔ (pA s' t' ∈ L.take k ∨ (s' = s ∧ t' = t)) := by
          intro s' t'
          rw [List.take_succ_eq_append_getElem hk, List.mem_append, List.mem_singleton, hp]
          constructor
          · rintro (h | h)
            · exact .inl h
            · exact .inr (pA_inj h)
          · rintro (h | ⟨rfl, rfl⟩)
            · exact .inl h
            · exact .inr rfl
        left
        simp only [impl_ApplyMoves.l_9, ix_lt hk, hp, hp0.1, hp0.2, Option.bind_some, has_is hx1 (show s < 96 by omega) (show t ≤ 32 by omega), hpin]
        rw [if_pos (by rw [decide_eq_true_eq]; omega), if_neg (by rw [ho]; cases decide ((k : Int) ≥ ((prL f d).length : Int)) <;> simp)]
        cases hc : decide ((k : Int) ≥ ((prL f d).length : Int)) with
        | true =>
          obtain ⟨d', g1, g2, g3⟩ := put_on hx1 (show s < 96 by omega) (show t < 32 by omega)
          rw [g1]
          refine ⟨d', rfl, g2, fun s' t' hs' ht' => ?_⟩
          rw [g3, hx2 s' t' hs' ht']
          rw [hc] at ho
          by_cases c : s' = s ∧ t' = t
          · obtain ⟨rfl, rfl⟩ := c
            rw [decide_eq_true ((hmem s' t').2 (.inr ⟨rfl, rfl⟩)), ho]
            simp
          · have : decide (pA s' t' ∈ L.take (k + 1)) = decide (pA s' t' ∈ L.take k) := by
              rw [decide_eq_decide, hmem]
              exact ⟨fun h => h.resolve_right c, .inl⟩
            rw [this]
            have : (decide (s' = s) && decide (t' = t)) = false := by rw [Bool.eq_false_iff]; simpa using c
            rw [this, Bool.or_false]
        | false =>
          obtain ⟨d', g1, g2, g3⟩ := put_off hx1 (show s < 96 by omega) (show t < 32 by omega)
          rw [g1]
          refine ⟨d', rfl, g2, fun s' t' hs' ht' => ?_⟩
          rw [g3, hx2 s' t' hs' ht']
          rw [hc] at ho
          by_cases c : s' = s ∧ t' = t
          · obtain ⟨rfl, rfl⟩ := c
            rw [decide_eq_true ((hmem s' t').2 (.inr ⟨rfl, rfl⟩)), ho]
            simp
          · have : decide (pA s' t' ∈ L.take (k + 1)) = decide (pA s' t' ∈ L.take k) := by
              rw [decide_eq_decide, hmem]
              exact ⟨fun h => h.resolve_right c, .inl⟩
            rw [this]
            have : (decide (s' = s) && decide (t' = t)) = false := by rw [Bool.eq_false_iff]; simpa using c
            rw [this]
            simp)
      (fun x hx => by
        obtain ⟨hx1, hx2⟩ := hx
        refine ⟨.inr x, ?_, ?_⟩
        · simp only [impl_ApplyMoves.l_9]
          rw [if_neg (by simp)]
        · congr 1
          refine drum_eq hx1 hb.din fun s t hs ht => ?_
          rw [hx2 s t hs ht, List.take_length]
          have := hlast s t
          by_cases c : pin a s t = pin b s t
          · rw [decide_eq_false (fun h => (this.1 h) c), c]
            cases pin b s t <;> rfl
          · rw [decide_eq_true (this.2 c)]
            cases h1 : pin a s t <;> cases h2 : pin b s t <;> simp_all) a ⟨ha.din, fun s t _ _ => by simp⟩
    rw [hr, hq]
  simp only [impl_ApplyMoves, hdc, Option.bind_some, concat2 _ _ (show (prL f d).length ≤ 4000 by omega) (show (prL f e).length ≤ 4000 by omega), places_all hf (show (prL f d ++ prL f e).length ≤ 10000 by omega) hpl, hL, impl_ApplyMoves.k_6]
  simp

end Go.Proofs.YtojndiidhgdjcaaGreatDoor
