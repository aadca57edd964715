/- The plain types, and how a value of each lies in memory. Printed by a program. -/
import Derived.Test.YtolfkfjjifdmeaaProg
import Derived.Test.YtolfkfjjifdmeaaEng
import Derived.Test.YtolfkfjjifdmeaaStr
namespace Go.Proofs.Ytolfkfjjifdmeaa
open Eng
set_option linter.unusedVariables false

def encU8 (x : Int) : List Value := [(.int .u8 x)]
theorem encU8_len (x : Int) : (encU8 x).length = 1 := rfl
theorem encU8_cell (x : Int) : (encU8 x).all isCell = true := rfl

structure GHammer where
  fPitch : Int
  fReady : Int
  deriving DecidableEq

structure GFrame where
  fSteps : Int
  fHammers : List GHammer
  deriving DecidableEq

structure Gl00Src where
  fcode : List Int
  fat : Int
  fseed : Int
  deriving DecidableEq

def encGHammer (x : GHammer) : List Value := [(.int .i8 x.fPitch), (.int .i8 x.fReady)]
theorem encGHammer_len (x : GHammer) : (encGHammer x).length = 2 := rfl
theorem encGHammer_cell (x : GHammer) : (encGHammer x).all isCell = true := rfl

def encU32 (x : Int) : List Value := [(.int .u32 x)]
theorem encU32_len (x : Int) : (encU32 x).length = 1 := rfl
theorem encU32_cell (x : Int) : (encU32 x).all isCell = true := rfl

def encA96U32 (x : Arr 96 Int) : List Value := row encU32 x.1 []
theorem encA96U32_len (x : Arr 96 Int) : (encA96U32 x).length = 96 := row_len encU32_len x
theorem encA96U32_cell (x : Arr 96 Int) : (encA96U32 x).all isCell = true := List.all_eq_true.2 (row_cell encU32_cell x.1)

def encI64 (x : Int) : List Value := [(.int .i64 x)]
theorem encI64_len (x : Int) : (encI64 x).length = 1 := rfl
theorem encI64_cell (x : Int) : (encI64 x).all isCell = true := rfl

def encA2I64 (x : Arr 2 Int) : List Value := row encI64 x.1 []
theorem encA2I64_len (x : Arr 2 Int) : (encA2I64 x).length = 2 := row_len encI64_len x
theorem encA2I64_cell (x : Arr 2 Int) : (encA2I64 x).all isCell = true := List.all_eq_true.2 (row_cell encI64_cell x.1)

end Go.Proofs.Ytolfkfjjifdmeaa
