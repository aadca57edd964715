/- Changes that are written and read again are as they were; changes undone. -/
import Derived.Test.YtgmmeokkgcbkdaaGreatDoorM0
import Derived.Test.YtgmmeokkgcbkdaaGreatDoorPFrame
import Derived.Test.YtgmmeokkgcbkdaaGreatDoorPTxt
import Derived.Test.YtgmmeokkgcbkdaaGreatDoorPJoin
import Derived.Test.YtgmmeokkgcbkdaaGreatDoorPNum
import Derived.Test.YtgmmeokkgcbkdaaGreatDoorPSpl
import Derived.Test.YtgmmeokkgcbkdaaGreatDoorPSigned
import Derived.Test.YtgmmeokkgcbkdaaGreatDoorPMapO
import Derived.Test.YtgmmeokkgcbkdaaGreatDoorPReadCg
import Derived.Test.YtgmmeokkgcbkdaaGreatDoorPReadBack
import Derived.Test.YtgmmeokkgcbkdaaGreatDoorPure
namespace Go.Proofs.YtgmmeokkgcbkdaaGreatDoor
open Eng
set_option linter.unusedVariables false
set_option linter.unusedSimpArgs false

def wordC (x : GChange) : List UInt8 := (if x.fPut = true then 43 else 45) :: (Lib.decDigits x.fStep.toNat ++ 47 :: Lib.decDigits x.fTrack.toNat)
theorem dd_no (n : Nat) {c : UInt8} (hc : ¬ digB c) : c ∉ Lib.decDigits n := fun h => hc (dd_dig n c h)
theorem no47 : ¬ digB 47 := by unfold digB; decide
theorem no32 : ¬ digB 32 := by unfold digB; decide
theorem wordC_no32 (x : GChange) : (32 : UInt8) ∉ wordC x := by
  unfold wordC
  intro h
  rcases List.mem_cons.1 h with h | h
  · split at h <;> exact absurd h (by decide)
  · rcases List.mem_append.1 h with h | h
    · exact dd_no _ no32 h
    · rcases List.mem_cons.1 h with h | h
      · exact absurd h (by decide)
      · exact dd_no _ no32 h
theorem dd_short {n : Nat} (h : n ≤ 95) : (Lib.decDigits n).length ≤ 20 := decDigits_len (by omega)
theorem wordC_len {x : GChange} (h : InC x) : (wordC x).length ≤ 42 := by
  unfold InC at h
  have h1 := dd_short (n := x.fStep.toNat) (by omega)
  have h2 := dd_short (n := x.fTrack.toNat) (by omega)
  unfold wordC
  simp; omega
theorem rdC_of {x : GChange} (h : InC x) : rdC (wordC x) = some x := by
  have h0 := h
  unfold InC at h
  have hs : spl 47 (Lib.decDigits x.fStep.toNat ++ 47 :: Lib.decDigits x.fTrack.toNat) = [Lib.decDigits x.fStep.toNat, Lib.decDigits x.fTrack.toNat] := by
    rw [spl_hit _ _ (dd_no _ no47), spl_none _ (dd_no _ no47)]
  have hc : (if x.fPut = true then (43 : UInt8) else 45) = 43 ∨ (if x.fPut = true then (43 : UInt8) else 45) = 45 := by cases x.fPut <;> simp
  have hd : decide ((if x.fPut = true then (43 : UInt8) else 45) = 43) = x.fPut := by cases x.fPut <;> simp
  unfold rdC wordC
  simp only [hs]
  rw [if_pos hc, if_pos (by rw [val_dd, val_dd]; exact ⟨⟨rfl, by omega⟩, rfl, by omega⟩), val_dd, val_dd, hd]
  congr 1
  obtain ⟨a, b, c⟩ := x
  simp only at h ⊢
  congr 1 <;> omega
theorem implWordsC {list : List GChange} (h : ∀ x ∈ list, InC x) (hl : list.length ≤ 2400) : loop (impl_ChangesText.l_8 list) (([] : List ByteArray), 0) = some (list.map fun x => tb (wordC x)) := by
  have := loop_seq (f := impl_ChangesText.l_8 list) list.length (fun k => ((list.take k).map fun x => tb (wordC x), (k : Int))) (list.map fun x => tb (wordC x)) (fun k hk => by
    have hx := h _ (List.getElem_mem hk)
    unfold InC at hx
    have e1 : (ByteArray.mk #[47]) = tb [47] := rfl
    have e2 : (ByteArray.mk #[43]) = tb [43] := rfl
    have e3 : (ByteArray.mk #[45]) = tb [45] := rfl
    have i1 : Lib.itoa list[k].fStep = Lib.decDigits list[k].fStep.toNat := by
      have := Lib.itoa_nonneg list[k].fStep.toNat
      rwa [show ((list[k].fStep.toNat : Nat) : Int) = list[k].fStep by omega] at this
    have i2 : Lib.itoa list[k].fTrack = Lib.decDigits list[k].fTrack.toNat := by
      have := Lib.itoa_nonneg list[k].fTrack.toNat
      rwa [show ((list[k].fTrack.toNat : Nat) : Int) = list[k].fTrack by omega] at this
    have l1 := dd_short (n := list[k].fStep.toNat) (by omega)
    have l2 := dd_short (n := list[k].fTrack.toNat) (by omega)
    have hk12 : ∀ (sg : UInt8) (put : Bool), (if put = true then (43 : UInt8) else 45) = sg → impl_ChangesText.k_12 ((list.take k).map fun x => tb (wordC x)) (k : Int) ⟨list[k].fStep, list[k].fTrack, put⟩ (tb [sg]) = some (.inl (((list.take k).map fun x => tb (wordC x)) ++ [tb (wordC ⟨list[k].fStep, list[k].fTrack, put⟩)], w64 ((k : Int) + 1))) := by
      intro sg put hsg
      simp only [impl_ChangesText.k_12, w64_in (n := list[k].fStep) (by omega) (by omega), w64_in (n := list[k].fTrack) (by omega) (by omega), implDecimal_is (n := list[k].fStep) (by omega) (by omega), implDecimal_is (n := list[k].fTrack) (by omega) (by omega), Option.bind_some, e1, i1, i2, tb_app, tb_size]
      rw [if_pos (by simp; omega), if_pos (by simp; omega), if_pos (by simp; omega), if_pos (by simp; omega)]
      unfold wordC
      simp only [hsg]
      simp [List.append_assoc]
    have eta : list[k] = ⟨list[k].fStep, list[k].fTrack, list[k].fPut⟩ := rfl
    simp only [impl_ChangesText.l_8, ix_lt hk, Option.bind_some]
    rw [if_pos (by simpa using hk), List.take_succ_eq_append_getElem hk, List.map_append]
    have hw : w64 ((k : Int) + 1) = ((k + 1 : Nat) : Int) := by rw [w64_in (by omega) (by omega)]; omega
    cases hp : list[k].fPut with
    | true =>
      rw [if_pos rfl, e2]
      have := hk12 43 true rfl
      rw [← hp, ← eta] at this
      rw [this, hw]; rfl
    | false =>
      rw [if_neg (by simp), e3]
      have := hk12 45 false rfl
      rw [← hp, ← eta] at this
      rw [this, hw]; rfl) (by
    simp only [impl_ChangesText.l_8]
    rw [if_neg (by simp), List.take_of_length_le (Nat.le_refl _)])
  exact this
instance inC_dec (x : GChange) : Decidable (InC x) := by unfold InC; infer_instance
theorem plainC {list : List GChange} (h : ∀ x ∈ list, InC x) (hl : list.length ≤ 2400) : slices_ContainsFunc_Change_at_impl_ChangesText_1 list = some false := by
  obtain ⟨t, ht, hq⟩ := loop_find (f := slices_IndexFunc_Change_at_impl_ChangesText_1.l_3 list) list (fun x => !(decide (InC x))) (by omega) (fun k hk => by
    have hx := h _ (List.getElem_mem hk)
    have hx2 := hx
    unfold InC at hx2
    have e1 : (decide (list[k].fStep ≥ 0) && decide (list[k].fStep ≤ 95)) = true := by simp only [Bool.and_eq_true, decide_eq_true_eq]; omega
    have e2 : (decide (list[k].fTrack ≥ 0) && decide (list[k].fTrack ≤ 23)) = true := by simp only [Bool.and_eq_true, decide_eq_true_eq]; omega
    simp only [slices_IndexFunc_Change_at_impl_ChangesText_1.l_3, ix_lt hk, Option.bind_some, impl_ChangesText_1, impl_within, w64_in (n := list[k].fStep) (by omega) (by omega), w64_in (n := list[k].fTrack) (by omega) (by omega), e1, e2]
    rw [if_pos (by simpa using hk)]
    simp [hx]) (by simp [slices_IndexFunc_Change_at_impl_ChangesText_1.l_3])
  have hany : list.any (fun x => !(decide (InC x))) = false := by
    rw [List.any_eq_false]
    intro x hx
    simp [h x hx]
  rcases hq with ⟨ha, _⟩ | ⟨_, rfl⟩
  · rw [hany] at ha; cases ha
  · simp [slices_ContainsFunc_Change_at_impl_ChangesText_1, slices_IndexFunc_Change_at_impl_ChangesText_1, ht, slices_IndexFunc_Change_at_impl_ChangesText_1.k_1]
theorem readBackC {list : List GChange} (h : ∀ x ∈ list, InC x) (hl : list.length ≤ 2400) : ∃ s, impl_ChangesText list = some s ∧ impl_ReadChanges s = some (list, 0) := by
  have e0 : (ByteArray.mk #[]) = tb [] := rfl
  have e32 : (ByteArray.mk #[32]) = tb [32] := rfl
  have hlen : (Lib.join (list.map wordC) [32]).length ≤ 2400 * 43 := by
    have := join_len [32] 42 (list.map wordC) (by
      intro w hw
      obtain ⟨x, hx, rfl⟩ := List.mem_map.1 hw
      exact wordC_len (h x hx))
    simp only [List.length_map, List.length_cons, List.length_nil] at this
    have h2 : list.length * (42 + (0 + 1)) ≤ 2400 * 43 := Nat.mul_le_mul hl (by omega)
    omega
  have hj : joinF ((list.map wordC).map tb) (tb [32]) = some (tb (Lib.join (list.map wordC) [32])) := joinF_tb (by simp; omega) (by omega)
  refine ⟨tb (Lib.join (list.map wordC) [32]), ?_, ?_⟩
  · simp only [impl_ChangesText, plainC h hl, Option.bind_some, impl_ChangesText.k_2, implWordsC h hl, impl_ChangesText.k_4, strings_Join, e32]
    rw [if_neg (by rw [decide_eq_true_eq]; omega), if_neg (by decide)]
    rw [show (list.map fun x => tb (wordC x)) = (list.map wordC).map tb by simp, hj]
    rfl
  · have tl_ne : ∀ a b : List UInt8, ((tb a).toList == (tb b).toList) = decide (a = b) := fun a b => by rw [tb_list, tb_list, Bool.eq_iff_iff]; simp
    simp only [impl_ReadChanges, e0, tl_ne, e32, strings_Split, splitF_is _ 32 (show (Lib.join (list.map wordC) [32]).length ≤ 1048576 by omega)]
    by_cases h0 : list = []
    · subst h0
      simp [join_nil]
    · have hno : ∀ w ∈ list.map wordC, (32 : UInt8) ∉ w := by
        intro w hw
        obtain ⟨x, hx, rfl⟩ := List.mem_map.1 hw
        exact wordC_no32 x
      have hsp := spl_join (c := 32) (list.map wordC) (by simpa using h0) hno
      have hne : ¬ Lib.join (list.map wordC) [32] = [] := fun e => by
        rw [e] at hsp
        cases list with
        | nil => exact h0 rfl
        | cons x t =>
          simp only [spl, List.map_cons, List.cons.injEq] at hsp
          exact absurd hsp.1.symm (by unfold wordC; simp)
      rw [if_neg (by simpa using hne), hsp]
      have hm := mapO_of (g := rdC) (u := wordC) list (fun x hx => rdC_of (h x hx))
      simp only [Option.bind_some, implReadC (ws := list.map wordC) (by simp; omega) (by
        intro w hw
        obtain ⟨x, hx, rfl⟩ := List.mem_map.1 hw
        have := wordC_len (h x hx)
        omega), mapO_zip (list.map wordC) 0 (by simp; omega), hm, resO, impl_ReadChanges.k_3]

end Go.Proofs.YtgmmeokkgcbkdaaGreatDoor
