/- The plain types, and how a value of each lies in memory. Printed by a program. -/
import Derived.Test.YtgmmeokkgcbkdaaGreatDoorProg
import Derived.Test.YtgmmeokkgcbkdaaGreatDoorEng
import Derived.Test.YtgmmeokkgcbkdaaGreatDoorStr
import Derived.Test.YtgmmeokkgcbkdaaGreatDoorShelf
namespace Go.Proofs.YtgmmeokkgcbkdaaGreatDoor
open Eng
set_option linter.unusedVariables false

def encU8 (x : Int) : List Value := [(.int .u8 x)]
theorem encU8_len (x : Int) : (encU8 x).length = 1 := rfl
theorem encU8_cell (x : Int) : (encU8 x).all isCell = true := rfl

structure GHammer where
  fPitch : Int
  fReady : Int
  deriving DecidableEq

structure GFrame where
  fSteps : Int
  fHammers : List GHammer
  deriving DecidableEq

structure Gl00Src where
  fcode : List Int
  fat : Int
  fseed : Int
  deriving DecidableEq

def encGHammer (x : GHammer) : List Value := [(.int .i8 x.fPitch), (.int .i8 x.fReady)]
theorem encGHammer_len (x : GHammer) : (encGHammer x).length = 2 := rfl
theorem encGHammer_cell (x : GHammer) : (encGHammer x).all isCell = true := rfl

def encU32 (x : Int) : List Value := [(.int .u32 x)]
theorem encU32_len (x : Int) : (encU32 x).length = 1 := rfl
theorem encU32_cell (x : Int) : (encU32 x).all isCell = true := rfl

structure GChange where
  fStep : Int
  fTrack : Int
  fPut : Bool
  deriving DecidableEq

def encA96U32 (x : Arr 96 Int) : List Value := row encU32 x.1 []
theorem encA96U32_len (x : Arr 96 Int) : (encA96U32 x).length = 96 := row_len encU32_len x
def encI64 (x : Int) : List Value := [(.int .i64 x)]
theorem encI64_len (x : Int) : (encI64 x).length = 1 := rfl
theorem encI64_cell (x : Int) : (encI64 x).all isCell = true := rfl

def encA2I64 (x : Arr 2 Int) : List Value := row encI64 x.1 []
theorem encA2I64_len (x : Arr 2 Int) : (encA2I64 x).length = 2 := row_len encI64_len x
theorem encA2I64_cell (x : Arr 2 Int) : (encA2I64 x).all isCell = true := List.all_eq_true.2 (row_cell encI64_cell x.1)

def encGChange (x : GChange) : List Value := [(.int .i16 x.fStep), (.int .i8 x.fTrack), (.bool x.fPut)]
theorem encGChange_len (x : GChange) : (encGChange x).length = 3 := rfl
theorem encGChange_cell (x : GChange) : (encGChange x).all isCell = true := rfl

def encStr (x : ByteArray) : List Value := [(.string x)]
theorem encStr_len (x : ByteArray) : (encStr x).length = 1 := rfl
theorem encStr_cell (x : ByteArray) : (encStr x).all isCell = true := rfl
set_option linter.unusedSectionVars false
variable [dsW : DrwS]
/-- what is known of package-level variables -/
structure Glml (w : World) : Prop where
  ml : ∃ m, w.cell? ⟨0, 0, none⟩ = some (.int .i64 m)
  sz : 8 ≤ w.heap.size
theorem Glml.keepB {w0 w : World} (g : Glml w0) (h : KeepW w0 w) : Glml w :=
  have hk : ∀ b, b < w0.heap.size → w.heap[b]? = w0.heap[b]? := h.1
  ⟨(by simpa only [World.cell?, hk 0 (by have := g.sz; omega)] using g.ml),
   Nat.le_trans g.sz h.2⟩
theorem Glml.keep {w0 w : World} {L : List Blk} (g : Glml w0) (h : Mem w0 [] L w) : Glml w := g.keepB h.keepW

/-- what is known of package-level variables -/
structure Glpw (w : World) : Prop where
  pw : Go.Lib.TabIs Tryz.prog w "internal/strconv.uint64pow10" .u64 Go.Lib.pow10Tab
  sz : 8 ≤ w.heap.size
theorem Glpw.keepB {w0 w : World} (g : Glpw w0) (h : KeepW w0 w) : Glpw w :=
  have hk : ∀ b, b < w0.heap.size → w.heap[b]? = w0.heap[b]? := h.1
  ⟨(by
    have h1 := g.pw
    have hg : Tryz.prog.globalNamed "internal/strconv.uint64pow10" = some 3 := by kernel_rfl
    unfold Go.Lib.TabIs World.var? at h1 ⊢
    rw [hg] at h1 ⊢
    simp only [Option.bind_some, hk 3 (by have := g.sz; omega)] at h1 ⊢
    exact h1),
   Nat.le_trans g.sz h.2⟩
theorem Glpw.keep {w0 w : World} {L : List Blk} (g : Glpw w0) (h : Mem w0 [] L w) : Glpw w := g.keepB h.keepW

/-- what is known of package-level variables -/
structure Gler (w : World) : Prop where
  es : ∃ ev, w.cell? ⟨1, 0, none⟩ = some ev ∧ (ev = .nilIface ∨ ∃ te pe, ev = .iface te pe)
  er : ∃ ev, w.cell? ⟨2, 0, none⟩ = some ev ∧ (ev = .nilIface ∨ ∃ te pe, ev = .iface te pe)
  sz : 8 ≤ w.heap.size
theorem Gler.keepB {w0 w : World} (g : Gler w0) (h : KeepW w0 w) : Gler w :=
  have hk : ∀ b, b < w0.heap.size → w.heap[b]? = w0.heap[b]? := h.1
  ⟨(by simpa only [World.cell?, hk 1 (by have := g.sz; omega)] using g.es),
   (by simpa only [World.cell?, hk 2 (by have := g.sz; omega)] using g.er),
   Nat.le_trans g.sz h.2⟩
theorem Gler.keep {w0 w : World} {L : List Blk} (g : Gler w0) (h : Mem w0 [] L w) : Gler w := g.keepB h.keepW

end Go.Proofs.YtgmmeokkgcbkdaaGreatDoor
