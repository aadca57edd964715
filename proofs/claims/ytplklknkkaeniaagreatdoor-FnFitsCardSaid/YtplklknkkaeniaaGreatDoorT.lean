/- The plain types, and how a value of each lies in memory. Printed by a program. -/
import Derived.Test.YtplklknkkaeniaaGreatDoorProg
import Derived.Test.YtplklknkkaeniaaGreatDoorEng
import Derived.Test.YtplklknkkaeniaaGreatDoorStr
import Derived.Test.YtplklknkkaeniaaGreatDoorShelf
namespace Go.Proofs.YtplklknkkaeniaaGreatDoor
open Eng
set_option linter.unusedVariables false

def encU8 (x : Int) : List Value := [(.int .u8 x)]
theorem encU8_len (x : Int) : (encU8 x).length = 1 := rfl
theorem encU8_cell (x : Int) : (encU8 x).all isCell = true := rfl

structure GHammer where
  fPitch : Int
  fReady : Int
  deriving DecidableEq

structure GFrame where
  fSteps : Int
  fHammers : List GHammer
  deriving DecidableEq

structure GNote where
  fAt : Int
  fPitch : Int
  deriving DecidableEq

structure Gl00Src where
  fcode : List Int
  fat : Int
  fseed : Int
  deriving DecidableEq

def encI64 (x : Int) : List Value := [(.int .i64 x)]
theorem encI64_len (x : Int) : (encI64 x).length = 1 := rfl
theorem encI64_cell (x : Int) : (encI64 x).all isCell = true := rfl

def encGHammer (x : GHammer) : List Value := [(.int .i8 x.fPitch), (.int .i8 x.fReady)]
theorem encGHammer_len (x : GHammer) : (encGHammer x).length = 2 := rfl
theorem encGHammer_cell (x : GHammer) : (encGHammer x).all isCell = true := rfl

def encGNote (x : GNote) : List Value := [(.int .i16 x.fAt), (.int .i8 x.fPitch)]
theorem encGNote_len (x : GNote) : (encGNote x).length = 2 := rfl
theorem encGNote_cell (x : GNote) : (encGNote x).all isCell = true := rfl

structure GChoice where
  fAway : Bool
  fLate : Int
  fOctave : Int
  fTrack : Int
  deriving DecidableEq

def encU32 (x : Int) : List Value := [(.int .u32 x)]
theorem encU32_len (x : Int) : (encU32 x).length = 1 := rfl
theorem encU32_cell (x : Int) : (encU32 x).all isCell = true := rfl

def encGChoice (x : GChoice) : List Value := [(.bool x.fAway), (.int .i8 x.fLate), (.int .i8 x.fOctave), (.int .i8 x.fTrack)]
theorem encGChoice_len (x : GChoice) : (encGChoice x).length = 4 := rfl
theorem encGChoice_cell (x : GChoice) : (encGChoice x).all isCell = true := rfl

def encI8 (x : Int) : List Value := [(.int .i8 x)]
theorem encI8_len (x : Int) : (encI8 x).length = 1 := rfl
theorem encI8_cell (x : Int) : (encI8 x).all isCell = true := rfl

def encStr (x : ByteArray) : List Value := [(.string x)]
theorem encStr_len (x : ByteArray) : (encStr x).length = 1 := rfl
theorem encStr_cell (x : ByteArray) : (encStr x).all isCell = true := rfl

def encA96U32 (x : Arr 96 Int) : List Value := row encU32 x.1 []
theorem encA96U32_len (x : Arr 96 Int) : (encA96U32 x).length = 96 := row_len encU32_len x
theorem encA96U32_cell (x : Arr 96 Int) : (encA96U32 x).all isCell = true := List.all_eq_true.2 (row_cell encU32_cell x.1)

def encA2I64 (x : Arr 2 Int) : List Value := row encI64 x.1 []
theorem encA2I64_len (x : Arr 2 Int) : (encA2I64 x).length = 2 := row_len encI64_len x
theorem encA2I64_cell (x : Arr 2 Int) : (encA2I64 x).all isCell = true := List.all_eq_true.2 (row_cell encI64_cell x.1)
set_option linter.unusedSectionVars false
variable [dsW : DrwS]
/-- what is known of package-level variables -/
structure Glml (w : World) : Prop where
  ml : ∃ m, w.cell? ⟨0, 0, none⟩ = some (.int .i64 m)
  sz : 8 ≤ w.heap.size
theorem Glml.keep {w0 w : World} {L : List Blk} (g : Glml w0) (h : Mem w0 [] L w) : Glml w :=
  have hk : ∀ b, b < w0.heap.size → w.heap[b]? = w0.heap[b]? := fun b hb => h.old b hb (by simp)
  ⟨(by simpa only [World.cell?, hk 0 (by have := g.sz; omega)] using g.ml),
   Nat.le_trans g.sz h.size⟩

/-- what is known of package-level variables -/
structure Glpw (w : World) : Prop where
  pw : Go.Lib.TabIs Tryz.prog w "internal/strconv.uint64pow10" .u64 Go.Lib.pow10Tab
  sz : 8 ≤ w.heap.size
theorem Glpw.keep {w0 w : World} {L : List Blk} (g : Glpw w0) (h : Mem w0 [] L w) : Glpw w :=
  have hk : ∀ b, b < w0.heap.size → w.heap[b]? = w0.heap[b]? := fun b hb => h.old b hb (by simp)
  ⟨(by
    have h1 := g.pw
    have hg : Tryz.prog.globalNamed "internal/strconv.uint64pow10" = some 3 := by kernel_rfl
    unfold Go.Lib.TabIs World.var? at h1 ⊢
    rw [hg] at h1 ⊢
    simp only [Option.bind_some, hk 3 (by have := g.sz; omega)] at h1 ⊢
    exact h1),
   Nat.le_trans g.sz h.size⟩

/-- what is known of package-level variables -/
structure Gler (w : World) : Prop where
  es : ∃ ev, w.cell? ⟨1, 0, none⟩ = some ev ∧ (ev = .nilIface ∨ ∃ te pe, ev = .iface te pe)
  er : ∃ ev, w.cell? ⟨2, 0, none⟩ = some ev ∧ (ev = .nilIface ∨ ∃ te pe, ev = .iface te pe)
  sz : 8 ≤ w.heap.size
theorem Gler.keep {w0 w : World} {L : List Blk} (g : Gler w0) (h : Mem w0 [] L w) : Gler w :=
  have hk : ∀ b, b < w0.heap.size → w.heap[b]? = w0.heap[b]? := fun b hb => h.old b hb (by simp)
  ⟨(by simpa only [World.cell?, hk 1 (by have := g.sz; omega)] using g.es),
   (by simpa only [World.cell?, hk 2 (by have := g.sz; omega)] using g.er),
   Nat.le_trans g.sz h.size⟩

end Go.Proofs.YtplklknkkaeniaaGreatDoor
