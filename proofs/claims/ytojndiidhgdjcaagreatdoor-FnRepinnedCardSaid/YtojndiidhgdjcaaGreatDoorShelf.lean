/- The library's functions on strings, in the engine's words: out of the kit's contracts. -/
import Derived.Test.YtojndiidhgdjcaaGreatDoorEng
import Derived.Test.YtojndiidhgdjcaaGreatDoorStr
import Derived.Shelf.Strconv.Itoa4
import Derived.Shelf.Strconv.ParseIntPublic10
import Derived.Shelf.Strings.Split
import Derived.Shelf.Strings.Cut
import Derived.Shelf.Strings.OnBuilder
import Derived.Shelf.Lay
import Derived.Lib.AtoiErrMem
namespace Go.Proofs.YtojndiidhgdjcaaGreatDoor.Eng
open Go Go.Shelf Go.RowKit Go.Lib Go.Sort Go.Proofs
set_option linter.unusedSimpArgs false
set_option linter.unusedVariables false
set_option linter.unusedSectionVars false
variable [dsW : DrwS] {P : Program} {ρ : Ren}
/-- the draws are not counted -/
structure Gllo (w : World) : Prop where
  lo : ¬ dsW.S
theorem Gllo.keep {w0 w : World} {L : List Blk} (g : Gllo w0) (_ : Mem w0 [] L w) : Gllo w := ⟨g.lo⟩
theorem Gllo.keepB {w0 w : World} (g : Gllo w0) (_ : KeepW w0 w) : Gllo w := ⟨g.lo⟩

theorem mem_grown (w : World) (k : Nat) (os : Array Obj) : Mem w [] [] (grow (w.drewN k) os) :=
  ⟨rfl, rfl, rfl, Drw.of_le (by simp [grow, World.drewN]), by simp [grow, World.drewN], fun b hb _ => by simp [grow, World.drewN, Array.getElem?_append, hb], by simp, by simp, by simp, frz_nof' rfl⟩
/-! ### strconv.FormatInt -/
def fmtF (n b : Int) : Option ByteArray := if b = 10 ∧ -9223372036854775808 ≤ n ∧ n ≤ 9223372036854775807 then some ⟨(Lib.itoa n).toArray⟩ else none
theorem fmt_calls (L : LaysM.n173 P ρ) (n b : Int) (w : World) (r : ByteArray) (gl : Lib.TabIs P w "internal/strconv.uint64pow10" .u64 Lib.pow10Tab) (h : fmtF n b = some r) :
    Calls P (ρ.f 173) #[.int .i64 n, .int .i64 b] w fun e w' => ∃ v, e = .returned v ∧ (v = .string r ∧ Mem w [] [] w') := by
  unfold fmtF at h
  split at h
  · rename_i hc
    obtain ⟨rfl, h0, h1⟩ := hc
    cases h
    refine (Any.strconv_FormatInt_10 L n h0 h1 w gl).mono ?_
    rintro e w' ⟨rfl, k, os, rfl⟩
    exact ⟨_, rfl, rfl, mem_grown w k os⟩
  · cases h

/-! ### strings.Split -/
def encS (x : ByteArray) : List Value := [.string x]
/-! ### strings.Cut -/
/-! ### strings.Join, of a row that came in -/
/-! ### strconv.ParseInt -/
end Go.Proofs.YtojndiidhgdjcaaGreatDoor.Eng
