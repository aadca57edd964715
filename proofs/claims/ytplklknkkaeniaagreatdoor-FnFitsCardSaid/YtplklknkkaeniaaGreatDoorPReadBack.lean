/- Choices that are written and read again are as they were. -/
import Derived.Test.YtplklknkkaeniaaGreatDoorM0
import Derived.Test.YtplklknkkaeniaaGreatDoorPFrame
import Derived.Test.YtplklknkkaeniaaGreatDoorPWear
import Derived.Test.YtplklknkkaeniaaGreatDoorPChoices
import Derived.Test.YtplklknkkaeniaaGreatDoorPFit
import Derived.Test.YtplklknkkaeniaaGreatDoorPTxt
import Derived.Test.YtplklknkkaeniaaGreatDoorPJoin
import Derived.Test.YtplklknkkaeniaaGreatDoorPChText
import Derived.Test.YtplklknkkaeniaaGreatDoorPNum
import Derived.Test.YtplklknkkaeniaaGreatDoorPSpl
import Derived.Test.YtplklknkkaeniaaGreatDoorPSigned
import Derived.Test.YtplklknkkaeniaaGreatDoorPMapO
import Derived.Test.YtplklknkkaeniaaGreatDoorPReadCh
import Derived.Test.YtplklknkkaeniaaGreatDoorPure
namespace Go.Proofs.YtplklknkkaeniaaGreatDoor
open Eng
set_option linter.unusedVariables false
set_option linter.unusedSimpArgs false

theorem spl_join {c : UInt8} : ∀ (ws : List (List UInt8)), ws ≠ [] → (∀ w ∈ ws, c ∉ w) → spl c (Lib.join ws [c]) = ws
  | [], h, _ => absurd rfl h
  | [w], _, h => by rw [join_one]; exact spl_none w (h w (by simp))
  | w :: y :: r, _, h => by
    rw [join_cons2, List.append_assoc, List.singleton_append, spl_hit _ w (h w (by simp)), spl_join (y :: r) (by simp) (fun x hx => h x (by simp at hx ⊢; exact .inr hx))]
theorem itoa_cases (n : Int) : (∃ u : Nat, n = (u : Int) ∧ Lib.itoa n = Lib.decDigits u) ∨ ∃ u : Nat, 1 ≤ u ∧ n = -(u : Int) ∧ Lib.itoa n = 45 :: Lib.decDigits u := by
  rcases Int.lt_or_le n 0 with h | h
  · right
    refine ⟨(-n).toNat, by omega, by omega, ?_⟩
    have := Lib.itoa_neg (-n).toNat (by omega)
    rwa [show (-((-n).toNat : Int)) = n by omega] at this
  · left
    refine ⟨n.toNat, by omega, ?_⟩
    have := Lib.itoa_nonneg n.toNat
    rwa [show ((n.toNat : Nat) : Int) = n by omega] at this
theorem okS_of {B n : Int} (h0 : -B ≤ n) (h1 : n ≤ B) : okS B (Lib.itoa n) ∧ sval (Lib.itoa n) = n := by
  rcases itoa_cases n with ⟨u, rfl, e⟩ | ⟨u, hu, rfl, e⟩
  · rw [e]
    have hv : Lib.decDigits u = Lib.decDigits (val (Lib.decDigits u)) := by rw [val_dd]
    exact ⟨(okS_plain.1 ⟨hv, by rw [val_dd]; exact h1⟩).1, by rw [sval_plain hv, val_dd]⟩
  · rw [e]
    refine ⟨?_, ?_⟩
    · unfold okS
      simp only
      rw [if_pos trivial, val_dd]
      exact ⟨rfl, hu, by omega⟩
    · unfold sval
      simp only
      rw [if_pos trivial, val_dd]
theorem itoa_mem (n : Int) : ∀ b ∈ Lib.itoa n, b = 45 ∨ digB b := by
  intro b hb
  rcases itoa_cases n with ⟨u, _, e⟩ | ⟨u, _, _, e⟩
  · rw [e] at hb; exact .inr (dd_dig u b hb)
  · rw [e] at hb
    rcases List.mem_cons.1 hb with rfl | hb
    · exact .inl rfl
    · exact .inr (dd_dig u b hb)
theorem itoa_no47 (n : Int) : (47 : UInt8) ∉ Lib.itoa n := fun h => by
  rcases itoa_mem n 47 h with h | h
  · exact absurd h (by decide)
  · exact absurd h.1 (by decide)
theorem itoa_no32 (n : Int) : (32 : UInt8) ∉ Lib.itoa n := fun h => by
  rcases itoa_mem n 32 h with h | h
  · exact absurd h (by decide)
  · exact absurd h.1 (by decide)
theorem wordL_no32 (x : GChoice) : (32 : UInt8) ∉ wordL x := by
  unfold wordL
  cases x.fAway with
  | true => simp
  | false =>
    simp only [Bool.false_eq_true, if_false, List.mem_append, not_or]
    exact ⟨⟨⟨⟨itoa_no32 _, by simp⟩, itoa_no32 _⟩, by simp⟩, itoa_no32 _⟩
theorem wordL_away {x : GChoice} (h : x.fAway = true) : wordL x = [120] := by unfold wordL; rw [if_pos h]
theorem choiceB_rng {x : GChoice} (h : choiceB x = true) (hi : In8 x) (hw : x.fAway = false) : (-3 ≤ x.fLate ∧ x.fLate ≤ 3) ∧ (-1 ≤ x.fOctave ∧ x.fOctave ≤ 1) ∧ (0 ≤ x.fTrack ∧ x.fTrack ≤ 23) := by
  unfold In8 at hi
  unfold choiceB at h
  rw [hw] at h
  simp only [Bool.false_eq_true, if_false, Bool.and_eq_true, decide_eq_true_eq] at h
  rw [w64_in (n := x.fLate) (by omega) (by omega), w64_in (n := x.fOctave) (by omega) (by omega), w64_in (n := x.fTrack) (by omega) (by omega)] at h
  omega
theorem rdW_of {x : GChoice} (h : choiceB x = true) (hi : In8 x) (hn : x.fAway = true → x = ⟨true, 0, 0, 0⟩) : rdW (wordL x) = some x := by
  unfold rdW
  cases hw : x.fAway with
  | true => rw [wordL_away hw, if_pos rfl, hn hw]
  | false =>
    have hr := choiceB_rng h hi hw
    have hs : spl 47 (wordL x) = [Lib.itoa x.fLate, Lib.itoa x.fOctave, Lib.itoa x.fTrack] := by
      have e : wordL x = Lib.join [Lib.itoa x.fLate, Lib.itoa x.fOctave, Lib.itoa x.fTrack] [47] := by
        rw [join_cons2, join_cons2, join_one]
        unfold wordL
        rw [hw]
        simp [List.append_assoc]
      rw [e]
      refine spl_join _ (by simp) ?_
      intro w hw'
      simp only [List.mem_cons, List.not_mem_nil, or_false] at hw'
      rcases hw' with rfl | rfl | rfl <;> exact itoa_no47 _
    have hne : ¬ wordL x = [120] := fun e => by
      rw [e] at hs
      have := congrArg List.length hs
      simp [spl] at this
    rw [if_neg hne, hs]
    obtain ⟨a1, a2⟩ := okS_of (B := 99) (n := x.fLate) (by omega) (by omega)
    obtain ⟨b1, b2⟩ := okS_of (B := 99) (n := x.fOctave) (by omega) (by omega)
    obtain ⟨c1, c2⟩ := okS_of (B := 99) (n := x.fTrack) (by omega) (by omega)
    simp only
    rw [if_pos ⟨a1, b1, c1⟩, a2, b2, c2]
    cases x
    simp only at hw
    rw [hw]
theorem mapO_of {A B : Type} {g : A → Option B} {u : B → A} : ∀ (l : List B), (∀ b ∈ l, g (u b) = some b) → mapO g (l.map u) = some l
  | [], _ => rfl
  | b :: l, h => by
    simp only [List.map_cons, mapO, h b (by simp), mapO_of l (fun x hx => h x (by simp [hx]))]
theorem readBack {list : List GChoice} (hc : list.all choiceB = true) (hi : ∀ x ∈ list, In8 x) (hn : ∀ x ∈ list, x.fAway = true → x = ⟨true, 0, 0, 0⟩) (hl : list.length ≤ 120) :
    ∃ s, impl_ChoicesText list = some s ∧ impl_ReadChoices s = some (list, 0) := by
  refine ⟨_, implChoicesText_is hi (by omega), ?_⟩
  unfold choicesT
  rw [if_pos ⟨hc, hl⟩]
  have e0 : (ByteArray.mk #[]) = tb [] := rfl
  have e32 : (ByteArray.mk #[32]) = tb [32] := rfl
  have hcB : ∀ x ∈ list, choiceB x = true := by simpa using hc
  have hlen : (Lib.join (list.map wordL) [32]).length ≤ 120 * 66 := by
    have := join_len [32] 65 (list.map wordL) (by
      intro w hw
      obtain ⟨x, hx, rfl⟩ := List.mem_map.1 hw
      exact wordL_len (choiceB_i8 (hcB x hx) (hi x hx)))
    simp only [List.length_map, List.length_cons, List.length_nil] at this
    have h2 : list.length * (65 + (0 + 1)) ≤ 120 * 66 := Nat.mul_le_mul hl (by omega)
    omega
  simp only [impl_ReadChoices, e0, tl_ne, e32, strings_Split, splitF_is _ 32 (show (Lib.join (list.map wordL) [32]).length ≤ 1048576 by omega)]
  by_cases h0 : list = []
  · subst h0
    simp [join_nil]
  · have hne : ¬ Lib.join (list.map wordL) [32] = [] := fun e => by
      have := spl_join (c := 32) (list.map wordL) (by simpa using h0) (by
        intro w hw
        obtain ⟨x, hx, rfl⟩ := List.mem_map.1 hw
        exact wordL_no32 x)
      rw [e] at this
      cases list with
      | nil => exact h0 rfl
      | cons x t =>
        simp only [spl, List.map_cons, List.cons.injEq] at this
        have h3 := hn x (by simp)
        have h4 := this.1
        unfold wordL at h4
        cases hw : x.fAway <;> simp [hw] at h4
    rw [if_neg (by simpa using hne)]
    have hsp := spl_join (c := 32) (list.map wordL) (by simpa using h0) (by
        intro w hw
        obtain ⟨x, hx, rfl⟩ := List.mem_map.1 hw
        exact wordL_no32 x)
    rw [hsp]
    have hm := mapO_of (g := rdW) (u := wordL) list (fun x hx => rdW_of (hcB x hx) (hi x hx) (hn x hx))
    simp only [Option.bind_some, implRead (ws := list.map wordL) (by simp; omega) (by
      intro w hw
      obtain ⟨x, hx, rfl⟩ := List.mem_map.1 hw
      have := wordL_len (choiceB_i8 (hcB x hx) (hi x hx))
      omega), mapO_narrow (g := rdW) choiceB rdI_is, hm, keepO, if_pos hc, resO, impl_ReadChoices.k_3, implChoicesText_is hi (show list.length ≤ 2000000 by omega), choicesT, if_pos (show list.all choiceB = true ∧ list.length ≤ 120 from ⟨hc, hl⟩), tl_ne]
    simp

end Go.Proofs.YtplklknkkaeniaaGreatDoor
