/-
  Opening what came in, by the type's shape: ints, bools, strings, structs, slices of plain elements; and the frame of a row's step. Plain lemmas for any program.
-/
import Derived.Test.YtplklknkkaeniaaGreatDoorEng
import Derived.WideShapes
import Derived.RowKit
import Derived.ChangeShapes
import Derived.OpenShut
import Derived.ChangeOld
import Derived.Carry
import Derived.JoinedOf
namespace Go.Proofs.YtplklknkkaeniaaGreatDoor.Eng
open Go
set_option linter.unusedVariables false

theorem add_none (b o n : Nat) : (Addr.mk b o none).add n = ⟨b, o + n, none⟩ := by
  unfold Addr.add
  split <;> simp_all

section
variable {H : Type} {enc : TypeId × Value → H} {P : Program} {w : World} {base : Nat} {spare : Nat → Bool} {held : Bool} {fuel m : Nat} {t : TypeId} {cs : List Value} {x : DataW H × List MemPlace}

theorem opn_b (ht : P.underlying t = some .bool) (h : DataW.trod enc P w base spare held fuel t cs = some x) : ∃ b, cs = [.bool b] := by
  obtain ⟨b, h, _⟩ := DataW.trod_bool ht h
  exact ⟨b, h⟩
theorem opn_i8 (ht : P.underlying t = some (.int .i8)) (h : DataW.trod enc P w base spare held fuel t cs = some x) : ∃ n, cs = [.int .i8 n] ∧ -128 ≤ n ∧ n ≤ 127 := by
  obtain ⟨n, h, _, hw⟩ := DataW.trod_int ht h
  exact ⟨n, h, bounds_i8 hw⟩
theorem opn_i16 (ht : P.underlying t = some (.int .i16)) (h : DataW.trod enc P w base spare held fuel t cs = some x) : ∃ n, cs = [.int .i16 n] ∧ -32768 ≤ n ∧ n ≤ 32767 := by
  obtain ⟨n, h, _, hw⟩ := DataW.trod_int ht h
  exact ⟨n, h, bounds_i16 hw⟩
theorem opn_i32 (ht : P.underlying t = some (.int .i32)) (h : DataW.trod enc P w base spare held fuel t cs = some x) : ∃ n, cs = [.int .i32 n] ∧ -2147483648 ≤ n ∧ n ≤ 2147483647 := by
  obtain ⟨n, h, _, hw⟩ := DataW.trod_int ht h
  exact ⟨n, h, bounds_i32 hw⟩
theorem opn_i64 (ht : P.underlying t = some (.int .i64)) (h : DataW.trod enc P w base spare held fuel t cs = some x) : ∃ n, cs = [.int .i64 n] ∧ -9223372036854775808 ≤ n ∧ n ≤ 9223372036854775807 := by
  obtain ⟨n, h, _, hw⟩ := DataW.trod_int ht h
  exact ⟨n, h, bounds_i64 hw⟩
theorem opn_u8 (ht : P.underlying t = some (.int .u8)) (h : DataW.trod enc P w base spare held fuel t cs = some x) : ∃ n, cs = [.int .u8 n] ∧ 0 ≤ n ∧ n ≤ 255 := by
  obtain ⟨n, h, _, hw⟩ := DataW.trod_int ht h
  exact ⟨n, h, bounds_u8 hw⟩
theorem opn_u16 (ht : P.underlying t = some (.int .u16)) (h : DataW.trod enc P w base spare held fuel t cs = some x) : ∃ n, cs = [.int .u16 n] ∧ 0 ≤ n ∧ n ≤ 65535 := by
  obtain ⟨n, h, _, hw⟩ := DataW.trod_int ht h
  exact ⟨n, h, bounds_u16 hw⟩
theorem opn_u32 (ht : P.underlying t = some (.int .u32)) (h : DataW.trod enc P w base spare held fuel t cs = some x) : ∃ n, cs = [.int .u32 n] ∧ 0 ≤ n ∧ n ≤ 4294967295 := by
  obtain ⟨n, h, _, hw⟩ := DataW.trod_int ht h
  exact ⟨n, h, bounds_u32 hw⟩
theorem opn_u64 (ht : P.underlying t = some (.int .u64)) (h : DataW.trod enc P w base spare held fuel t cs = some x) : ∃ n, cs = [.int .u64 n] ∧ 0 ≤ n ∧ n ≤ 18446744073709551615 := by
  obtain ⟨n, h, _, hw⟩ := DataW.trod_int ht h
  exact ⟨n, h, bounds_u64 hw⟩
theorem opn_s (ht : P.underlying t = some .string) (h : DataW.trod enc P w base spare held fuel t cs = some x) : ∃ s : ByteArray, cs = [.string s] ∧ s.size ≤ maxLen := by
  obtain ⟨s, h, _, hs⟩ := DataW.trod_string ht h
  exact ⟨s, h, hs⟩

/-- a struct: its length, and each field -/
theorem opn_st {fs : Array Field} (ht : P.underlying t = some (.struct fs)) (h : DataW.trod enc P w base spare held fuel t cs = some x) :
    cs.length = P.cellsOf t ∧ ∀ (i : Nat) (f : Field), fs[i]? = some f → ∃ n y, DataW.trod enc P w base spare held n f.type ((cs.drop f.offset).take (P.cellsOf f.type)) = some y := by
  obtain ⟨xs, n, _, _, hl, hx, hf⟩ := DataW.trod_struct ht h
  refine ⟨hl, fun i f hi => ?_⟩
  have := hf i f hi
  have hlt : i < xs.length := by
    rw [hx]
    exact (Array.getElem?_eq_some_iff.1 hi).1
  rw [List.getElem?_eq_getElem hlt] at this
  exact ⟨n, _, this⟩


theorem opn_cells {n : Nat} (ht : (match P.underlying t with | some (.struct _) => true | _ => false) = true) (h : DataW.trod enc P w base spare held fuel t cs = some x) (hn : P.cellsOf t = n) : cs.length = n := by
  subst hn
  cases hu : P.underlying t with
  | none => rw [hu] at ht; cases ht
  | some d =>
    rw [hu] at ht
    cases d with
    | struct fs => exact (opn_st hu h).1
    | _ => cases ht
theorem opn_fld (h : DataW.trod enc P w base spare held fuel t cs = some x) (i T off m : Nat)
    (hi : (match P.underlying t with | some (.struct fs) => (fs[i]?).map (fun f => (f.type, f.offset)) | _ => none) = some (T, off)) (hm : P.cellsOf T = m) :
    ∃ n y, DataW.trod enc P w base spare held n T ((cs.drop off).take m) = some y := by
  subst hm
  cases hu : P.underlying t with
  | none => rw [hu] at hi; cases hi
  | some d =>
    rw [hu] at hi
    cases d with
    | struct fs =>
      obtain ⟨f, hf, he⟩ := Option.map_eq_some_iff.1 hi
      cases he
      exact (opn_st hu h).2 i f hf
    | _ => cases hi
theorem opn_len1 {l : List Value} (h : l.length = 1) : ∃ c0, l = [c0] := List.length_eq_one_iff.1 h
theorem opn_len2 {l : List Value} (h : l.length = 2) : ∃ c0 c1, l = [c0, c1] := by
  cases l with
  | nil => cases h
  | cons c l => obtain ⟨c0, rfl⟩ := opn_len1 (l := l) (by simpa using h); exact ⟨c, c0, rfl⟩
theorem opn_len3 {l : List Value} (h : l.length = 3) : ∃ c0 c1 c2, l = [c0, c1, c2] := by
  cases l with
  | nil => cases h
  | cons c l => obtain ⟨c0, c1, rfl⟩ := opn_len2 (l := l) (by simpa using h); exact ⟨c, c0, c1, rfl⟩
theorem opn_len4 {l : List Value} (h : l.length = 4) : ∃ c0 c1 c2 c3, l = [c0, c1, c2, c3] := by
  cases l with
  | nil => cases h
  | cons c l => obtain ⟨c0, c1, c2, rfl⟩ := opn_len3 (l := l) (by simpa using h); exact ⟨c, c0, c1, c2, rfl⟩
theorem opn_len5 {l : List Value} (h : l.length = 5) : ∃ c0 c1 c2 c3 c4, l = [c0, c1, c2, c3, c4] := by
  cases l with
  | nil => cases h
  | cons c l => obtain ⟨c0, c1, c2, c3, rfl⟩ := opn_len4 (l := l) (by simpa using h); exact ⟨c, c0, c1, c2, c3, rfl⟩
theorem opn_len6 {l : List Value} (h : l.length = 6) : ∃ c0 c1 c2 c3 c4 c5, l = [c0, c1, c2, c3, c4, c5] := by
  cases l with
  | nil => cases h
  | cons c l => obtain ⟨c0, c1, c2, c3, c4, rfl⟩ := opn_len5 (l := l) (by simpa using h); exact ⟨c, c0, c1, c2, c3, c4, rfl⟩
theorem opn_len7 {l : List Value} (h : l.length = 7) : ∃ c0 c1 c2 c3 c4 c5 c6, l = [c0, c1, c2, c3, c4, c5, c6] := by
  cases l with
  | nil => cases h
  | cons c l => obtain ⟨c0, c1, c2, c3, c4, c5, rfl⟩ := opn_len6 (l := l) (by simpa using h); exact ⟨c, c0, c1, c2, c3, c4, c5, rfl⟩
theorem opn_len8 {l : List Value} (h : l.length = 8) : ∃ c0 c1 c2 c3 c4 c5 c6 c7, l = [c0, c1, c2, c3, c4, c5, c6, c7] := by
  cases l with
  | nil => cases h
  | cons c l => obtain ⟨c0, c1, c2, c3, c4, c5, c6, rfl⟩ := opn_len7 (l := l) (by simpa using h); exact ⟨c, c0, c1, c2, c3, c4, c5, c6, rfl⟩
theorem opn_len9 {l : List Value} (h : l.length = 9) : ∃ c0 c1 c2 c3 c4 c5 c6 c7 c8, l = [c0, c1, c2, c3, c4, c5, c6, c7, c8] := by
  cases l with
  | nil => cases h
  | cons c l => obtain ⟨c0, c1, c2, c3, c4, c5, c6, c7, rfl⟩ := opn_len8 (l := l) (by simpa using h); exact ⟨c, c0, c1, c2, c3, c4, c5, c6, c7, rfl⟩
theorem opn_len10 {l : List Value} (h : l.length = 10) : ∃ c0 c1 c2 c3 c4 c5 c6 c7 c8 c9, l = [c0, c1, c2, c3, c4, c5, c6, c7, c8, c9] := by
  cases l with
  | nil => cases h
  | cons c l => obtain ⟨c0, c1, c2, c3, c4, c5, c6, c7, c8, rfl⟩ := opn_len9 (l := l) (by simpa using h); exact ⟨c, c0, c1, c2, c3, c4, c5, c6, c7, c8, rfl⟩
theorem opn_len11 {l : List Value} (h : l.length = 11) : ∃ c0 c1 c2 c3 c4 c5 c6 c7 c8 c9 c10, l = [c0, c1, c2, c3, c4, c5, c6, c7, c8, c9, c10] := by
  cases l with
  | nil => cases h
  | cons c l => obtain ⟨c0, c1, c2, c3, c4, c5, c6, c7, c8, c9, rfl⟩ := opn_len10 (l := l) (by simpa using h); exact ⟨c, c0, c1, c2, c3, c4, c5, c6, c7, c8, c9, rfl⟩
theorem opn_len12 {l : List Value} (h : l.length = 12) : ∃ c0 c1 c2 c3 c4 c5 c6 c7 c8 c9 c10 c11, l = [c0, c1, c2, c3, c4, c5, c6, c7, c8, c9, c10, c11] := by
  cases l with
  | nil => cases h
  | cons c l => obtain ⟨c0, c1, c2, c3, c4, c5, c6, c7, c8, c9, c10, rfl⟩ := opn_len11 (l := l) (by simpa using h); exact ⟨c, c0, c1, c2, c3, c4, c5, c6, c7, c8, c9, c10, rfl⟩
theorem opn_len13 {l : List Value} (h : l.length = 13) : ∃ c0 c1 c2 c3 c4 c5 c6 c7 c8 c9 c10 c11 c12, l = [c0, c1, c2, c3, c4, c5, c6, c7, c8, c9, c10, c11, c12] := by
  cases l with
  | nil => cases h
  | cons c l => obtain ⟨c0, c1, c2, c3, c4, c5, c6, c7, c8, c9, c10, c11, rfl⟩ := opn_len12 (l := l) (by simpa using h); exact ⟨c, c0, c1, c2, c3, c4, c5, c6, c7, c8, c9, c10, c11, rfl⟩
theorem opn_len14 {l : List Value} (h : l.length = 14) : ∃ c0 c1 c2 c3 c4 c5 c6 c7 c8 c9 c10 c11 c12 c13, l = [c0, c1, c2, c3, c4, c5, c6, c7, c8, c9, c10, c11, c12, c13] := by
  cases l with
  | nil => cases h
  | cons c l => obtain ⟨c0, c1, c2, c3, c4, c5, c6, c7, c8, c9, c10, c11, c12, rfl⟩ := opn_len13 (l := l) (by simpa using h); exact ⟨c, c0, c1, c2, c3, c4, c5, c6, c7, c8, c9, c10, c11, c12, rfl⟩
theorem opn_len15 {l : List Value} (h : l.length = 15) : ∃ c0 c1 c2 c3 c4 c5 c6 c7 c8 c9 c10 c11 c12 c13 c14, l = [c0, c1, c2, c3, c4, c5, c6, c7, c8, c9, c10, c11, c12, c13, c14] := by
  cases l with
  | nil => cases h
  | cons c l => obtain ⟨c0, c1, c2, c3, c4, c5, c6, c7, c8, c9, c10, c11, c12, c13, rfl⟩ := opn_len14 (l := l) (by simpa using h); exact ⟨c, c0, c1, c2, c3, c4, c5, c6, c7, c8, c9, c10, c11, c12, c13, rfl⟩
theorem opn_len16 {l : List Value} (h : l.length = 16) : ∃ c0 c1 c2 c3 c4 c5 c6 c7 c8 c9 c10 c11 c12 c13 c14 c15, l = [c0, c1, c2, c3, c4, c5, c6, c7, c8, c9, c10, c11, c12, c13, c14, c15] := by
  cases l with
  | nil => cases h
  | cons c l => obtain ⟨c0, c1, c2, c3, c4, c5, c6, c7, c8, c9, c10, c11, c12, c13, c14, rfl⟩ := opn_len15 (l := l) (by simpa using h); exact ⟨c, c0, c1, c2, c3, c4, c5, c6, c7, c8, c9, c10, c11, c12, c13, c14, rfl⟩
theorem opn_len17 {l : List Value} (h : l.length = 17) : ∃ c0 c1 c2 c3 c4 c5 c6 c7 c8 c9 c10 c11 c12 c13 c14 c15 c16, l = [c0, c1, c2, c3, c4, c5, c6, c7, c8, c9, c10, c11, c12, c13, c14, c15, c16] := by
  cases l with
  | nil => cases h
  | cons c l => obtain ⟨c0, c1, c2, c3, c4, c5, c6, c7, c8, c9, c10, c11, c12, c13, c14, c15, rfl⟩ := opn_len16 (l := l) (by simpa using h); exact ⟨c, c0, c1, c2, c3, c4, c5, c6, c7, c8, c9, c10, c11, c12, c13, c14, c15, rfl⟩
theorem opn_len18 {l : List Value} (h : l.length = 18) : ∃ c0 c1 c2 c3 c4 c5 c6 c7 c8 c9 c10 c11 c12 c13 c14 c15 c16 c17, l = [c0, c1, c2, c3, c4, c5, c6, c7, c8, c9, c10, c11, c12, c13, c14, c15, c16, c17] := by
  cases l with
  | nil => cases h
  | cons c l => obtain ⟨c0, c1, c2, c3, c4, c5, c6, c7, c8, c9, c10, c11, c12, c13, c14, c15, c16, rfl⟩ := opn_len17 (l := l) (by simpa using h); exact ⟨c, c0, c1, c2, c3, c4, c5, c6, c7, c8, c9, c10, c11, c12, c13, c14, c15, c16, rfl⟩
theorem opn_len19 {l : List Value} (h : l.length = 19) : ∃ c0 c1 c2 c3 c4 c5 c6 c7 c8 c9 c10 c11 c12 c13 c14 c15 c16 c17 c18, l = [c0, c1, c2, c3, c4, c5, c6, c7, c8, c9, c10, c11, c12, c13, c14, c15, c16, c17, c18] := by
  cases l with
  | nil => cases h
  | cons c l => obtain ⟨c0, c1, c2, c3, c4, c5, c6, c7, c8, c9, c10, c11, c12, c13, c14, c15, c16, c17, rfl⟩ := opn_len18 (l := l) (by simpa using h); exact ⟨c, c0, c1, c2, c3, c4, c5, c6, c7, c8, c9, c10, c11, c12, c13, c14, c15, c16, c17, rfl⟩
theorem opn_len20 {l : List Value} (h : l.length = 20) : ∃ c0 c1 c2 c3 c4 c5 c6 c7 c8 c9 c10 c11 c12 c13 c14 c15 c16 c17 c18 c19, l = [c0, c1, c2, c3, c4, c5, c6, c7, c8, c9, c10, c11, c12, c13, c14, c15, c16, c17, c18, c19] := by
  cases l with
  | nil => cases h
  | cons c l => obtain ⟨c0, c1, c2, c3, c4, c5, c6, c7, c8, c9, c10, c11, c12, c13, c14, c15, c16, c17, c18, rfl⟩ := opn_len19 (l := l) (by simpa using h); exact ⟨c, c0, c1, c2, c3, c4, c5, c6, c7, c8, c9, c10, c11, c12, c13, c14, c15, c16, c17, c18, rfl⟩
theorem opn_len21 {l : List Value} (h : l.length = 21) : ∃ c0 c1 c2 c3 c4 c5 c6 c7 c8 c9 c10 c11 c12 c13 c14 c15 c16 c17 c18 c19 c20, l = [c0, c1, c2, c3, c4, c5, c6, c7, c8, c9, c10, c11, c12, c13, c14, c15, c16, c17, c18, c19, c20] := by
  cases l with
  | nil => cases h
  | cons c l => obtain ⟨c0, c1, c2, c3, c4, c5, c6, c7, c8, c9, c10, c11, c12, c13, c14, c15, c16, c17, c18, c19, rfl⟩ := opn_len20 (l := l) (by simpa using h); exact ⟨c, c0, c1, c2, c3, c4, c5, c6, c7, c8, c9, c10, c11, c12, c13, c14, c15, c16, c17, c18, c19, rfl⟩
theorem opn_len22 {l : List Value} (h : l.length = 22) : ∃ c0 c1 c2 c3 c4 c5 c6 c7 c8 c9 c10 c11 c12 c13 c14 c15 c16 c17 c18 c19 c20 c21, l = [c0, c1, c2, c3, c4, c5, c6, c7, c8, c9, c10, c11, c12, c13, c14, c15, c16, c17, c18, c19, c20, c21] := by
  cases l with
  | nil => cases h
  | cons c l => obtain ⟨c0, c1, c2, c3, c4, c5, c6, c7, c8, c9, c10, c11, c12, c13, c14, c15, c16, c17, c18, c19, c20, rfl⟩ := opn_len21 (l := l) (by simpa using h); exact ⟨c, c0, c1, c2, c3, c4, c5, c6, c7, c8, c9, c10, c11, c12, c13, c14, c15, c16, c17, c18, c19, c20, rfl⟩
theorem opn_len23 {l : List Value} (h : l.length = 23) : ∃ c0 c1 c2 c3 c4 c5 c6 c7 c8 c9 c10 c11 c12 c13 c14 c15 c16 c17 c18 c19 c20 c21 c22, l = [c0, c1, c2, c3, c4, c5, c6, c7, c8, c9, c10, c11, c12, c13, c14, c15, c16, c17, c18, c19, c20, c21, c22] := by
  cases l with
  | nil => cases h
  | cons c l => obtain ⟨c0, c1, c2, c3, c4, c5, c6, c7, c8, c9, c10, c11, c12, c13, c14, c15, c16, c17, c18, c19, c20, c21, rfl⟩ := opn_len22 (l := l) (by simpa using h); exact ⟨c, c0, c1, c2, c3, c4, c5, c6, c7, c8, c9, c10, c11, c12, c13, c14, c15, c16, c17, c18, c19, c20, c21, rfl⟩
theorem opn_len24 {l : List Value} (h : l.length = 24) : ∃ c0 c1 c2 c3 c4 c5 c6 c7 c8 c9 c10 c11 c12 c13 c14 c15 c16 c17 c18 c19 c20 c21 c22 c23, l = [c0, c1, c2, c3, c4, c5, c6, c7, c8, c9, c10, c11, c12, c13, c14, c15, c16, c17, c18, c19, c20, c21, c22, c23] := by
  cases l with
  | nil => cases h
  | cons c l => obtain ⟨c0, c1, c2, c3, c4, c5, c6, c7, c8, c9, c10, c11, c12, c13, c14, c15, c16, c17, c18, c19, c20, c21, c22, rfl⟩ := opn_len23 (l := l) (by simpa using h); exact ⟨c, c0, c1, c2, c3, c4, c5, c6, c7, c8, c9, c10, c11, c12, c13, c14, c15, c16, c17, c18, c19, c20, c21, c22, rfl⟩
theorem list_of_all {S : Type} {Q : Nat → S → Prop} : ∀ (n : Nat), (∀ i, i < n → ∃ a, Q i a) → ∃ xs : List S, xs.length = n ∧ ∀ i a, xs[i]? = some a → Q i a
  | 0, _ => ⟨[], rfl, fun i a h => by simp at h⟩
  | n + 1, h => by
    obtain ⟨xs, hl, hx⟩ := list_of_all n (fun i hi => h i (by omega))
    obtain ⟨a, ha⟩ := h n (by omega)
    refine ⟨xs ++ [a], by simp [hl], fun i b hb => ?_⟩
    by_cases hi : i < n
    · rw [List.getElem?_append_left (by omega)] at hb
      exact hx i b hb
    · by_cases hn : i = n
      · subst hn
        rw [List.getElem?_append_right (by omega), hl] at hb
        simp at hb; subst hb; exact ha
      · rw [List.getElem?_eq_none (by simp [hl]; omega)] at hb
        cases hb

/-- a slice of plain elements -/
theorem opn_sl {S : Type} {e : TypeId} {encS : S → List Value} {ok : S → Prop} (ht : P.underlying t = some (.slice e)) (hm : P.cellsOf e = m) (hpos : 0 < m)
    (he : ∀ n cs x, DataW.trod enc P w base spare held n e cs = some x → ∃ a, cs = encS a ∧ ok a) (h : DataW.trod enc P w base spare held fuel t cs = some x) :
    ∃ (a : Option Addr) (xs : List S) (c : Nat), cs = [.slice a xs.length c] ∧ Rw w a m encS xs ∧ xs.length ≤ 9223372036854775807 ∧ ∀ x ∈ xs, ok x := by
  subst hm
  rcases DataW.trod_slice ht h with ⟨rfl, _⟩ | ⟨a, len, cap, elems, rest, n, _, rfl, _, hb, hl, hc, he', hel, _, _⟩
  · exact ⟨none, [], 0, rfl, ⟨fun h => absurd rfl h, fun j x h => by simp at h⟩, by simp, by simp⟩
  · have key : ∀ i, i < len → ∃ s : S, w.cells? base (a.add (i * P.cellsOf e)) (P.cellsOf e) = some (encS s) ∧ ok s := by
      intro i hi
      have h1 := hel i hi
      rw [List.getElem?_eq_getElem (by omega)] at h1
      obtain ⟨cs', h2, h3⟩ := Option.bind_eq_some_iff.1 h1
      obtain ⟨s, rfl, hs⟩ := he _ _ _ h3
      exact ⟨s, h2, hs⟩
    obtain ⟨xs, hxl, hx⟩ := list_of_all len key
    have hmax : len ≤ 9223372036854775807 := by unfold maxLen at hc; omega
    refine ⟨some a, xs, cap, by rw [hxl], ?_, by omega, ?_⟩
    · have hsp : xs ≠ [] → a.spot = none := by
        intro hne
        obtain ⟨s, hs⟩ : ∃ s, xs[0]? = some s := by
          cases xs with
          | nil => exact absurd rfl hne
          | cons s _ => exact ⟨s, rfl⟩
        obtain ⟨h1, _⟩ := hx 0 s hs
        obtain ⟨_, hlen, hcell⟩ := World.cells?_some h1
        have h0 := hcell 0 hpos
        rw [List.getElem?_eq_getElem (by omega)] at h0
        have := World.cell?_spot h0
        simpa [Addr.add] using this
      constructor
      · intro hne
        have hs := hsp hne
        obtain ⟨s, hs0⟩ : ∃ s, xs[0]? = some s := by
          cases xs with
          | nil => exact absurd rfl hne
          | cons s _ => exact ⟨s, rfl⟩
        obtain ⟨h1, _⟩ := hx 0 s hs0
        have hbl := World.cells?_block h1 hpos
        obtain ⟨b, o, sp⟩ := a
        simp only at hs; subst hs
        exact ⟨rfl, by simpa [aB, Addr.add] using hbl⟩
      · intro j s hs i v hv
        have hne : xs ≠ [] := by rintro rfl; simp at hs
        have hspn := hsp hne
        obtain ⟨h1, _⟩ := hx j s hs
        obtain ⟨_, hlen, hcell⟩ := World.cells?_some h1
        have hi : i < P.cellsOf e := by
          have := (List.getElem?_eq_some_iff.1 hv).1
          omega
        have := hcell i hi
        rw [hv] at this
        obtain ⟨b, o, sp⟩ := a
        simp only at hspn; subst hspn
        simpa [aB, aO, add_none, Nat.add_assoc] using this
    · intro s hs
      obtain ⟨j, hj⟩ := List.mem_iff_getElem?.1 hs
      exact (hx j s hj).2

theorem okWide_array {r : Reach} {n : Nat} {e : TypeId} {v : Value} (ht : P.underlying t = some (.array n e)) (h : Value.okWide P w r base t v) : ∃ cs, v = .agg cs ∧ cs.size = P.cellsOf t := by
  simp only [Value.okWide, ht] at h
  obtain ⟨cs, h1, h2, _⟩ := h
  exact ⟨cs, h1, h2⟩
theorem chunks {S : Type} {encS : S → List Value} {m : Nat} : ∀ (ys : List S) (cs : List Value), cs.length = ys.length * m → (∀ (i : Nat) (y : S), ys[i]? = some y → (cs.drop (i * m)).take m = encS y) → cs = ys.flatMap encS := by
  intro ys
  induction ys with
  | nil => intro cs h _; simpa using h
  | cons y ys ih =>
    intro cs hl h
    have h0 := h 0 y rfl
    simp only [Nat.zero_mul, List.drop_zero] at h0
    rw [List.flatMap_cons, ← h0, ← ih (cs.drop m) (by rw [List.length_drop, hl, List.length_cons, Nat.succ_mul]; omega) ?_]
    · exact (List.take_append_drop m cs).symm
    · intro i z hz
      have := h (i + 1) z (by simpa using hz)
      rw [List.drop_drop]
      rw [Nat.succ_mul, Nat.add_comm] at this
      exact this
/-- an array of plain elements -/
theorem opn_arr {S : Type} {n : Nat} {e : TypeId} {encS : S → List Value} {ok : S → Prop} (ht : P.underlying t = some (.array n e)) (hm : P.cellsOf e = m) (hct : P.cellsOf t = n * m)
    (he : ∀ n cs x, DataW.trod enc P w base spare held n e cs = some x → ∃ a, cs = encS a ∧ ok a) (h : DataW.trod enc P w base spare held fuel t cs = some x) :
    ∃ a : Arr n S, cs = row encS a.1 [] ∧ ∀ y ∈ a.1, ok y := by
  obtain ⟨xs, m', _, _, hl, hx, hel⟩ := DataW.trod_array ht h
  subst hm
  have key : ∀ i, i < n → ∃ s : S, (cs.drop (i * P.cellsOf e)).take (P.cellsOf e) = encS s ∧ ok s := by
    intro i hi
    have h1 := hel i hi
    rw [List.getElem?_eq_getElem (by omega)] at h1
    obtain ⟨s, h2, h3⟩ := he _ _ _ h1
    exact ⟨s, h2, h3⟩
  obtain ⟨ys, hyl, hy⟩ := list_of_all n key
  refine ⟨⟨ys, hyl⟩, ?_, ?_⟩
  · rw [row, List.append_nil]
    refine chunks ys cs (by rw [hl, hct, hyl]) fun i y hi => (hy i y hi).1
  · intro y hmem
    obtain ⟨j, hj⟩ := List.mem_iff_getElem?.1 hmem
    exact (hy j y hj).2
end

theorem arr_of {cs : Array Value} {l : List Value} (h : (Value.agg cs).cells.toList = l) : cs = l.toArray := by
  subst h; rfl
theorem one_of {v u : Value} {l : List Value} (h : l = [u]) (hl : l = [v]) : v = u := by
  rw [hl] at h; injection h

/-- nothing that was there is changed -/
theorem Mem.below {w w' : World} (h : Mem w [] [] w') : RowKit.Below w.heap.size w w' :=
  ⟨h.os, h.tape, h.output, h.size, fun k hk => h.old k hk (by simp)⟩

end Go.Proofs.YtplklknkkaeniaaGreatDoor.Eng
