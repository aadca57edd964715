/- Changes undone: the program's list, turned round, and the reference's. -/
import Derived.Test.YtgmmeokkgcbkdaaGreatDoorM1
import Derived.Test.YtgmmeokkgcbkdaaGreatDoorPFrame
import Derived.Test.YtgmmeokkgcbkdaaGreatDoorPDrum
import Derived.Test.YtgmmeokkgcbkdaaGreatDoorPCodes
import Derived.Test.YtgmmeokkgcbkdaaGreatDoorPPut
import Derived.Test.YtgmmeokkgcbkdaaGreatDoorPBits
import Derived.Test.YtgmmeokkgcbkdaaGreatDoorPCost
import Derived.Test.YtgmmeokkgcbkdaaGreatDoorPChList
import Derived.Test.YtgmmeokkgcbkdaaGreatDoorPPlcW
import Derived.Test.YtgmmeokkgcbkdaaGreatDoorPMakeCh
import Derived.Test.YtgmmeokkgcbkdaaGreatDoorPure
namespace Go.Proofs.YtgmmeokkgcbkdaaGreatDoor
open Eng
set_option linter.unusedVariables false
set_option linter.unusedSimpArgs false

theorem reverse_is (l : List GChange) (hl : l.length ≤ 100000) : slices_Reverse_Change l = some l.reverse := by
  obtain ⟨t, ht, hq⟩ := loop_inv (f := slices_Reverse_Change.l_6) (fun st => ∃ m : Nat, st.2.1 = (m : Int) ∧ st.2.2 = (l.length : Int) - 1 - (m : Int) ∧ st.1.length = l.length ∧ 2 * m ≤ l.length + 1 ∧ ∀ k, k < l.length → st.1[k]? = l[if k < m ∨ l.length - 1 - k < m then l.length - 1 - k else k]?) (fun st => ((l.length : Int) - st.2.1).toNat) (fun r => r = l.reverse) (by
    rintro ⟨xs, i, j⟩ ⟨m, rfl, h2, h3, h4, h5⟩
    simp only at h2 h3 h5
    subst h2
    by_cases c : (m : Int) < (l.length : Int) - 1 - (m : Int)
    · left
      obtain ⟨j, hj⟩ : ∃ j : Nat, (l.length : Int) - 1 - (m : Int) = (j : Int) := ⟨l.length - 1 - m, by omega⟩
      rw [hj] at c ⊢
      have hm : m < xs.length := by omega
      have hjx : j < xs.length := by omega
      have hj2 : j < (xs.set m xs[j]).length := by rw [List.length_set]; omega
      simp only [slices_Reverse_Change.l_6, ix_lt hjx, ix_lt hm, Option.bind_some, Int.toNat_natCast, ix_lt hj2]
      rw [if_pos (by simpa using c), w64_in (n := (m : Int) + 1) (by omega) (by omega), w64_in (n := (j : Int) - 1) (by omega) (by omega)]
      refine ⟨_, rfl, ⟨m + 1, by simp only; omega, by simp only; omega, by simp only [List.length_set]; exact h3, by omega, fun k hk => ?_⟩, by simp only; omega⟩
      simp only
      have hxm : xs[m]? = l[m]? := by
        have := h5 m (by omega)
        rwa [if_neg (by omega)] at this
      have hxj : xs[j]? = l[j]? := by
        have := h5 j (by omega)
        rwa [if_neg (by omega)] at this
      by_cases k1 : k = j
      · subst k1
        rw [List.getElem?_set_self hj2, if_pos (by omega), show l.length - 1 - k = m by omega, ← hxm, List.getElem?_eq_getElem hm]
      · rw [List.getElem?_set_ne (fun e => k1 e.symm)]
        by_cases k2 : k = m
        · subst k2
          rw [List.getElem?_set_self hm, if_pos (by omega), show l.length - 1 - k = j by omega, ← hxj, List.getElem?_eq_getElem hjx]
        · rw [List.getElem?_set_ne (fun e => k2 e.symm), h5 k hk]
          by_cases d : k < m ∨ l.length - 1 - k < m
          · rw [if_pos d, if_pos (by omega)]
          · rw [if_neg d, if_neg (by omega)]
    · right
      simp only [slices_Reverse_Change.l_6]
      rw [if_neg (by simpa using c)]
      refine ⟨_, rfl, ?_⟩
      apply List.ext_getElem?
      intro k
      by_cases hk : k < l.length
      · rw [h5 k hk, List.getElem?_reverse hk]
        by_cases d : k < m ∨ l.length - 1 - k < m
        · rw [if_pos d]
        · rw [if_neg d]
          congr 1
          omega
      · rw [List.getElem?_eq_none (by omega), List.getElem?_eq_none (by rw [List.length_reverse]; omega)]) (l, 0, w64 ((l.length : Int) - 1)) ⟨0, rfl, by simp only; rw [w64_in (by omega) (by omega)]; omega, rfl, by omega, fun k hk => by rw [if_neg (by omega)]⟩
  subst hq
  simp only [slices_Reverse_Change, ht, Option.bind_some, slices_Reverse_Change.k_2]
theorem implUndo {l : List GChange} (hl : l.length ≤ 2400) : impl_UndoChanges l = some (l.reverse.map flipC, 0) := by
  have hL : loop (impl_UndoChanges.l_7 l) (l.reverse, 0) = some (l.reverse.map flipC) := by
    have := loop_seq (f := impl_UndoChanges.l_7 l) l.length (fun k => ((l.reverse.take k).map flipC ++ l.reverse.drop k, (k : Int))) (l.reverse.map flipC) (fun k hk => by
      have hkr : k < l.reverse.length := by simpa using hk
      have hlen : ((l.reverse.take k).map flipC).length = k := by rw [List.length_map, List.length_take]; omega
      have hkx : k < ((l.reverse.take k).map flipC ++ l.reverse.drop k).length := by rw [List.length_append, hlen, List.length_drop]; omega
      have hg : ((l.reverse.take k).map flipC ++ l.reverse.drop k)[k] = l.reverse[k] := by
        rw [List.getElem_append_right (by omega), List.getElem_drop]
        congr 1
        omega
      have hset : ((l.reverse.take k).map flipC ++ l.reverse.drop k).set k (flipC l.reverse[k]) = (l.reverse.take (k + 1)).map flipC ++ l.reverse.drop (k + 1) := by
        rw [List.set_append_right _ _ (by omega), hlen, Nat.sub_self, List.drop_eq_getElem_cons hkr, List.set_cons_zero, List.take_succ_eq_append_getElem hkr, List.map_append]
        simp
      simp only [impl_UndoChanges.l_7, ix_lt hkx, hg, Option.bind_some, Int.toNat_natCast]
      rw [if_pos (by simpa using hk), w64_in (n := (k : Int) + 1) (by omega) (by omega)]
      show some (Sum.inl (List.set _ k (flipC l.reverse[k]), _)) = _
      rw [hset]
      rfl) (by
      simp only [impl_UndoChanges.l_7]
      rw [if_neg (by simp), List.take_of_length_le (by simp), List.drop_of_length_le (by simp), List.append_nil])
    simpa using this
  simp only [impl_UndoChanges, slices_Clone_Change, List.nil_append]
  rw [if_neg (by rw [decide_eq_true_eq]; omega), if_pos (by simp; omega)]
  simp only [Option.bind_some, reverse_is l (by omega), hL, impl_UndoChanges.k_4]
theorem specUndo {l : List GChange} (hl : l.length ≤ 2400) : spec_UndoChanges l = some (l.reverse.map flipC, 0) := by
  have hL : loop (spec_UndoChanges.l_5 l) (([] : List GChange), (l.length : Int) - 1) = some (l.reverse.map flipC) := by
    have := loop_seq (f := spec_UndoChanges.l_5 l) l.length (fun k => ((l.reverse.take k).map flipC, (l.length : Int) - 1 - (k : Int))) (l.reverse.map flipC) (fun k hk => by
      obtain ⟨j, hj⟩ : ∃ j : Nat, (l.length : Int) - 1 - (k : Int) = (j : Int) := ⟨l.length - 1 - k, by omega⟩
      have hkr : k < l.reverse.length := by simpa using hk
      have hjl : j < l.length := by omega
      have hg : l.reverse[k] = l[j] := by
        rw [List.getElem_reverse]
        congr 1
        omega
      simp only [spec_UndoChanges.l_5, hj, ix_lt hjl, Option.bind_some]
      rw [if_pos (by rw [decide_eq_true_eq]; omega), if_pos (by simp only [List.length_map, List.length_take, List.length_cons, List.length_nil]; omega), w64_in (n := (j : Int) - 1) (by omega) (by omega), List.take_succ_eq_append_getElem hkr, List.map_append, hg]
      rw [show (l.length : Int) - 1 - ((k + 1 : Nat) : Int) = (j : Int) - 1 by omega]
      rfl) (by
      simp only [spec_UndoChanges.l_5]
      rw [if_neg (by rw [decide_eq_true_eq]; omega), List.take_of_length_le (by simp)])
    simpa using this
  simp only [spec_UndoChanges]
  rw [if_neg (by rw [decide_eq_true_eq]; omega), w64_in (by omega) (by omega), hL]
  rfl

end Go.Proofs.YtgmmeokkgcbkdaaGreatDoor
