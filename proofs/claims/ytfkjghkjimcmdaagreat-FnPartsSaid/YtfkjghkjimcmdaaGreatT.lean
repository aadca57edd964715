/- The plain types, and how a value of each lies in memory. Printed by a program. -/
import Derived.Test.YtfkjghkjimcmdaaGreatProg
import Derived.Test.YtfkjghkjimcmdaaGreatEng
namespace Go.Proofs.YtfkjghkjimcmdaaGreat
open Eng
set_option linter.unusedVariables false

def encU8 (x : Int) : List Value := [(.int .u8 x)]
theorem encU8_len (x : Int) : (encU8 x).length = 1 := rfl
theorem encU8_cell (x : Int) : (encU8 x).all isCell = true := rfl

structure GHammer where
  fPitch : Int
  fReady : Int
  deriving DecidableEq

structure GFrame where
  fSteps : Int
  fHammers : List GHammer
  deriving DecidableEq

structure Gl00Src where
  fcode : List Int
  fat : Int
  fseed : Int
  deriving DecidableEq

def encGHammer (x : GHammer) : List Value := [(.int .i8 x.fPitch), (.int .i8 x.fReady)]
theorem encGHammer_len (x : GHammer) : (encGHammer x).length = 2 := rfl
theorem encGHammer_cell (x : GHammer) : (encGHammer x).all isCell = true := rfl

structure GWornPin where
  fStep : Int
  fTrack : Int
  fTurns : Int
  deriving DecidableEq

structure GWear where
  fPins : List GWornPin
  fStrokes : List Int
  deriving DecidableEq

def encU32 (x : Int) : List Value := [(.int .u32 x)]
theorem encU32_len (x : Int) : (encU32 x).length = 1 := rfl
theorem encU32_cell (x : Int) : (encU32 x).all isCell = true := rfl

def encGWornPin (x : GWornPin) : List Value := [(.int .i8 x.fStep), (.int .i8 x.fTrack), (.int .i64 x.fTurns)]
theorem encGWornPin_len (x : GWornPin) : (encGWornPin x).length = 3 := rfl
theorem encGWornPin_cell (x : GWornPin) : (encGWornPin x).all isCell = true := rfl

def encI64 (x : Int) : List Value := [(.int .i64 x)]
theorem encI64_len (x : Int) : (encI64 x).length = 1 := rfl
theorem encI64_cell (x : Int) : (encI64 x).all isCell = true := rfl

structure GLives where
  fPin : Int
  fHammer : Int
  deriving DecidableEq

def encGLives (x : GLives) : List Value := [(.int .i64 x.fPin), (.int .i64 x.fHammer)]
theorem encGLives_len (x : GLives) : (encGLives x).length = 2 := rfl
theorem encGLives_cell (x : GLives) : (encGLives x).all isCell = true := rfl

structure Gpart where
  fmade : Int
  feach : Int
  flife : Int
  fstep : Int
  ftrack : Int
  deriving DecidableEq

def encGpart (x : Gpart) : List Value := [(.int .i64 x.fmade), (.int .i64 x.feach), (.int .i64 x.flife), (.int .i64 x.fstep), (.int .i64 x.ftrack)]
theorem encGpart_len (x : Gpart) : (encGpart x).length = 5 := rfl
theorem encGpart_cell (x : Gpart) : (encGpart x).all isCell = true := rfl

def encA2I64 (x : Arr 2 Int) : List Value := row encI64 x.1 []
theorem encA2I64_len (x : Arr 2 Int) : (encA2I64 x).length = 2 := row_len encI64_len x
theorem encA2I64_cell (x : Arr 2 Int) : (encA2I64 x).all isCell = true := List.all_eq_true.2 (row_cell encI64_cell x.1)

end Go.Proofs.YtfkjghkjimcmdaaGreat
