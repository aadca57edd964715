/- The plain types, and how a value of each lies in memory. Printed by a program. -/
import Derived.Test.YtilackblefjgdaaProg
import Derived.Test.YtilackblefjgdaaEng
namespace Go.Proofs.Ytilackblefjgdaa
open Eng
set_option linter.unusedVariables false

structure GHammer where
  fPitch : Int
  fReady : Int
  deriving DecidableEq

structure GFrame where
  fSteps : Int
  fHammers : List GHammer
  deriving DecidableEq

structure GWornPin where
  fStep : Int
  fTrack : Int
  fTurns : Int
  deriving DecidableEq

structure GWear where
  fPins : List GWornPin
  fStrokes : List Int
  deriving DecidableEq

def encGHammer (x : GHammer) : List Value := [(.int .i8 x.fPitch), (.int .i8 x.fReady)]
theorem encGHammer_len (x : GHammer) : (encGHammer x).length = 2 := rfl
theorem encGHammer_cell (x : GHammer) : (encGHammer x).all isCell = true := rfl

def encGWornPin (x : GWornPin) : List Value := [(.int .i8 x.fStep), (.int .i8 x.fTrack), (.int .i64 x.fTurns)]
theorem encGWornPin_len (x : GWornPin) : (encGWornPin x).length = 3 := rfl
theorem encGWornPin_cell (x : GWornPin) : (encGWornPin x).all isCell = true := rfl

def encI64 (x : Int) : List Value := [(.int .i64 x)]
theorem encI64_len (x : Int) : (encI64 x).length = 1 := rfl
theorem encI64_cell (x : Int) : (encI64 x).all isCell = true := rfl

def encA2I64 (x : Arr 2 Int) : List Value := row encI64 x.1 []
theorem encA2I64_len (x : Arr 2 Int) : (encA2I64 x).length = 2 := row_len encI64_len x
theorem encA2I64_cell (x : Arr 2 Int) : (encA2I64 x).all isCell = true := List.all_eq_true.2 (row_cell encI64_cell x.1)

structure GLives where
  fPin : Int
  fHammer : Int
  deriving DecidableEq

def encGLives (x : GLives) : List Value := [(.int .i64 x.fPin), (.int .i64 x.fHammer)]
theorem encGLives_len (x : GLives) : (encGLives x).length = 2 := rfl
theorem encGLives_cell (x : GLives) : (encGLives x).all isCell = true := rfl

end Go.Proofs.Ytilackblefjgdaa
