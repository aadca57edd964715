/- The plain types, and how a value of each lies in memory. Printed by a program. -/
import Derived.Test.YtpmndjejabjniaaDoorProg
import Derived.Test.YtpmndjejabjniaaDoorEng
import Derived.Test.YtpmndjejabjniaaDoorStr
import Derived.Test.YtpmndjejabjniaaDoorShelf
namespace Go.Proofs.YtpmndjejabjniaaDoor
open Eng
set_option linter.unusedVariables false

structure GChoice where
  fAway : Bool
  fLate : Int
  fOctave : Int
  fTrack : Int
  deriving DecidableEq

def encGChoice (x : GChoice) : List Value := [(.bool x.fAway), (.int .i8 x.fLate), (.int .i8 x.fOctave), (.int .i8 x.fTrack)]
theorem encGChoice_len (x : GChoice) : (encGChoice x).length = 4 := rfl
theorem encGChoice_cell (x : GChoice) : (encGChoice x).all isCell = true := rfl

def encStr (x : ByteArray) : List Value := [(.string x)]
theorem encStr_len (x : ByteArray) : (encStr x).length = 1 := rfl
theorem encStr_cell (x : ByteArray) : (encStr x).all isCell = true := rfl

structure GChange where
  fStep : Int
  fTrack : Int
  fPut : Bool
  deriving DecidableEq

def encGChange (x : GChange) : List Value := [(.int .i16 x.fStep), (.int .i8 x.fTrack), (.bool x.fPut)]
theorem encGChange_len (x : GChange) : (encGChange x).length = 3 := rfl
theorem encGChange_cell (x : GChange) : (encGChange x).all isCell = true := rfl
/-- what is known of package-level variables -/
structure Glml (w : World) : Prop where
  ml : ∃ m, w.cell? ⟨0, 0, none⟩ = some (.int .i64 m)
  sz : 8 ≤ w.heap.size
theorem Glml.keep {w0 w : World} {L : List Blk} (g : Glml w0) (h : Mem w0 [] L w) : Glml w :=
  have hk : ∀ b, b < w0.heap.size → w.heap[b]? = w0.heap[b]? := fun b hb => h.old b hb (by simp)
  ⟨(by simpa only [World.cell?, hk 0 (by have := g.sz; omega)] using g.ml),
   Nat.le_trans g.sz h.size⟩

/-- what is known of package-level variables -/
structure Glpw (w : World) : Prop where
  pw : Go.Lib.TabIs Tryd.prog w "internal/strconv.uint64pow10" .u64 Go.Lib.pow10Tab
  sz : 8 ≤ w.heap.size
theorem Glpw.keep {w0 w : World} {L : List Blk} (g : Glpw w0) (h : Mem w0 [] L w) : Glpw w :=
  have hk : ∀ b, b < w0.heap.size → w.heap[b]? = w0.heap[b]? := fun b hb => h.old b hb (by simp)
  ⟨(by
    have h1 := g.pw
    have hg : Tryd.prog.globalNamed "internal/strconv.uint64pow10" = some 1 := by kernel_rfl
    unfold Go.Lib.TabIs World.var? at h1 ⊢
    rw [hg] at h1 ⊢
    simp only [Option.bind_some, hk 1 (by have := g.sz; omega)] at h1 ⊢
    exact h1),
   Nat.le_trans g.sz h.size⟩

/-- what is known of package-level variables -/
structure Gler (w : World) : Prop where
  es : ∃ ev, w.cell? ⟨2, 0, none⟩ = some ev ∧ (ev = .nilIface ∨ ∃ te pe, ev = .iface te pe)
  er : ∃ ev, w.cell? ⟨3, 0, none⟩ = some ev ∧ (ev = .nilIface ∨ ∃ te pe, ev = .iface te pe)
  sz : 8 ≤ w.heap.size
theorem Gler.keep {w0 w : World} {L : List Blk} (g : Gler w0) (h : Mem w0 [] L w) : Gler w :=
  have hk : ∀ b, b < w0.heap.size → w.heap[b]? = w0.heap[b]? := fun b hb => h.old b hb (by simp)
  ⟨(by simpa only [World.cell?, hk 2 (by have := g.sz; omega)] using g.es),
   (by simpa only [World.cell?, hk 3 (by have := g.sz; omega)] using g.er),
   Nat.le_trans g.sz h.size⟩

end Go.Proofs.YtpmndjejabjniaaDoor
