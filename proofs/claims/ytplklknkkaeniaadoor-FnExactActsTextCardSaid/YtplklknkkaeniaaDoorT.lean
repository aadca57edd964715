/- The plain types, and how a value of each lies in memory. Printed by a program. -/
import Derived.Test.YtplklknkkaeniaaDoorProg
import Derived.Test.YtplklknkkaeniaaDoorEng
import Derived.Test.YtplklknkkaeniaaDoorStr
import Derived.Test.YtplklknkkaeniaaDoorShelf
namespace Go.Proofs.YtplklknkkaeniaaDoor
open Eng
set_option linter.unusedVariables false

structure GAct where
  fKind : Int
  fA : Int
  fB : Int
  fC : Int
  fD : Int
  deriving DecidableEq

def encGAct (x : GAct) : List Value := [(.int .i8 x.fKind), (.int .i64 x.fA), (.int .i64 x.fB), (.int .i64 x.fC), (.int .i64 x.fD)]
theorem encGAct_len (x : GAct) : (encGAct x).length = 5 := rfl
theorem encGAct_cell (x : GAct) : (encGAct x).all isCell = true := rfl

def encI64 (x : Int) : List Value := [(.int .i64 x)]
theorem encI64_len (x : Int) : (encI64 x).length = 1 := rfl
theorem encI64_cell (x : Int) : (encI64 x).all isCell = true := rfl

def encStr (x : ByteArray) : List Value := [(.string x)]
theorem encStr_len (x : ByteArray) : (encStr x).length = 1 := rfl
theorem encStr_cell (x : ByteArray) : (encStr x).all isCell = true := rfl

def encU8 (x : Int) : List Value := [(.int .u8 x)]
theorem encU8_len (x : Int) : (encU8 x).length = 1 := rfl
theorem encU8_cell (x : Int) : (encU8 x).all isCell = true := rfl
set_option linter.unusedSectionVars false
variable [dsW : DrwS]
/-- what is known of package-level variables -/
structure Glml (w : World) : Prop where
  ml : ∃ m, w.cell? ⟨1, 0, none⟩ = some (.int .i64 m)
  sz : 8 ≤ w.heap.size
theorem Glml.keep {w0 w : World} {L : List Blk} (g : Glml w0) (h : Mem w0 [] L w) : Glml w :=
  have hk : ∀ b, b < w0.heap.size → w.heap[b]? = w0.heap[b]? := fun b hb => h.old b hb (by simp)
  ⟨(by simpa only [World.cell?, hk 1 (by have := g.sz; omega)] using g.ml),
   Nat.le_trans g.sz h.size⟩

/-- what is known of package-level variables -/
structure Glpw (w : World) : Prop where
  pw : Go.Lib.TabIs Tryd.prog w "internal/strconv.uint64pow10" .u64 Go.Lib.pow10Tab
  sz : 8 ≤ w.heap.size
theorem Glpw.keep {w0 w : World} {L : List Blk} (g : Glpw w0) (h : Mem w0 [] L w) : Glpw w :=
  have hk : ∀ b, b < w0.heap.size → w.heap[b]? = w0.heap[b]? := fun b hb => h.old b hb (by simp)
  ⟨(by
    have h1 := g.pw
    have hg : Tryd.prog.globalNamed "internal/strconv.uint64pow10" = some 0 := by kernel_rfl
    unfold Go.Lib.TabIs World.var? at h1 ⊢
    rw [hg] at h1 ⊢
    simp only [Option.bind_some, hk 0 (by have := g.sz; omega)] at h1 ⊢
    exact h1),
   Nat.le_trans g.sz h.size⟩

/-- what is known of package-level variables -/
structure Gler (w : World) : Prop where
  es : ∃ ev, w.cell? ⟨2, 0, none⟩ = some ev ∧ (ev = .nilIface ∨ ∃ te pe, ev = .iface te pe)
  er : ∃ ev, w.cell? ⟨3, 0, none⟩ = some ev ∧ (ev = .nilIface ∨ ∃ te pe, ev = .iface te pe)
  sz : 8 ≤ w.heap.size
theorem Gler.keep {w0 w : World} {L : List Blk} (g : Gler w0) (h : Mem w0 [] L w) : Gler w :=
  have hk : ∀ b, b < w0.heap.size → w.heap[b]? = w0.heap[b]? := fun b hb => h.old b hb (by simp)
  ⟨(by simpa only [World.cell?, hk 2 (by have := g.sz; omega)] using g.es),
   (by simpa only [World.cell?, hk 3 (by have := g.sz; omega)] using g.er),
   Nat.le_trans g.sz h.size⟩

end Go.Proofs.YtplklknkkaeniaaDoor
