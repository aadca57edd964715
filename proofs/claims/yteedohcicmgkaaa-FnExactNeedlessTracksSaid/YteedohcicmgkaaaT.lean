/- The plain types, and how a value of each lies in memory. Printed by a program. -/
import Derived.Test.YteedohcicmgkaaaProg
import Derived.Test.YteedohcicmgkaaaEng
namespace Go.Proofs.Yteedohcicmgkaaa
open Eng
set_option linter.unusedVariables false

structure GHammer where
  fPitch : Int
  fReady : Int
  deriving DecidableEq

structure GFrame where
  fSteps : Int
  fHammers : List GHammer
  deriving DecidableEq

structure GNote where
  fAt : Int
  fPitch : Int
  deriving DecidableEq

def encGHammer (x : GHammer) : List Value := [(.int .i8 x.fPitch), (.int .i8 x.fReady)]
theorem encGHammer_len (x : GHammer) : (encGHammer x).length = 2 := rfl
theorem encGHammer_cell (x : GHammer) : (encGHammer x).all isCell = true := rfl

def encGNote (x : GNote) : List Value := [(.int .i16 x.fAt), (.int .i8 x.fPitch)]
theorem encGNote_len (x : GNote) : (encGNote x).length = 2 := rfl
theorem encGNote_cell (x : GNote) : (encGNote x).all isCell = true := rfl

def encI64 (x : Int) : List Value := [(.int .i64 x)]
theorem encI64_len (x : Int) : (encI64 x).length = 1 := rfl
theorem encI64_cell (x : Int) : (encI64 x).all isCell = true := rfl

def encU32 (x : Int) : List Value := [(.int .u32 x)]
theorem encU32_len (x : Int) : (encU32 x).length = 1 := rfl
theorem encU32_cell (x : Int) : (encU32 x).all isCell = true := rfl

structure Gl03Pinner where
  fframe : GFrame
  ftune : List GNote
  fold : Arr 96 Int
  flike : Bool
  fbudget : Int
  ftries : Int
  fover : Bool
  fdrum : Arr 96 Int
  ffound : Bool
  fbest : Arr 96 Int
  fleast : Int
  deriving DecidableEq

def encA96U32 (x : Arr 96 Int) : List Value := row encU32 x.1 []
theorem encA96U32_len (x : Arr 96 Int) : (encA96U32 x).length = 96 := row_len encU32_len x
theorem encA96U32_cell (x : Arr 96 Int) : (encA96U32 x).all isCell = true := List.all_eq_true.2 (row_cell encU32_cell x.1)

structure Gpinner where
  ff : GFrame
  ft : List GNote
  fold : Arr 96 Int
  fbudget : Int
  ftries : Int
  fover : Bool
  ffound : Bool
  fmost : Int
  fbest : Arr 96 Int
  fall : Bool
  deriving DecidableEq

end Go.Proofs.Yteedohcicmgkaaa
