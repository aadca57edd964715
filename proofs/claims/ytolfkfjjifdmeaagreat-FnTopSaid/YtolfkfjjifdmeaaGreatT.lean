/- The plain types, and how a value of each lies in memory. Printed by a program. -/
import Derived.Test.YtolfkfjjifdmeaaGreatProg
import Derived.Test.YtolfkfjjifdmeaaGreatEng
import Derived.Test.YtolfkfjjifdmeaaGreatStr
namespace Go.Proofs.YtolfkfjjifdmeaaGreat
open Eng
set_option linter.unusedVariables false
def encU8(x:Int):List Value:= [(.int .u8 x)]
structure GHammer where
 fPitch:Int
 fReady:Int
 deriving DecidableEq
structure GFrame where
 fSteps:Int
 fHammers:List GHammer
 deriving DecidableEq
structure GNote where
 fAt:Int
 fPitch:Int
 deriving DecidableEq
structure Gl00Src where
 fcode:List Int
 fat:Int
 fseed:Int
 deriving DecidableEq
def encI64(x:Int):List Value:= [(.int .i64 x)]
theorem encI64_len(x:Int):(encI64 x).length=1:=rfl
theorem encI64_cell(x:Int):(encI64 x).all isCell=true:=rfl
def encGHammer(x:GHammer):List Value:= [(.int .i8 x.fPitch),(.int .i8 x.fReady)]
theorem encGHammer_len(x:GHammer):(encGHammer x).length=2:=rfl
theorem encGHammer_cell(x:GHammer):(encGHammer x).all isCell=true:=rfl
def encGNote(x:GNote):List Value:= [(.int .i16 x.fAt),(.int .i8 x.fPitch)]
theorem encGNote_len(x:GNote):(encGNote x).length=2:=rfl
theorem encGNote_cell(x:GNote):(encGNote x).all isCell=true:=rfl
structure GCosts where
 fAway:Int
 fOctave:Int
 fStep:Int
 deriving DecidableEq
structure GChoice where
 fAway:Bool
 fLate:Int
 fOctave:Int
 fTrack:Int
 deriving DecidableEq
def encGChoice(x:GChoice):List Value:= [(.bool x.fAway),(.int .i8 x.fLate),(.int .i8 x.fOctave),(.int .i8 x.fTrack)]
theorem encGChoice_len(x:GChoice):(encGChoice x).length=4:=rfl
theorem encGChoice_cell(x:GChoice):(encGChoice x).all isCell=true:=rfl
def encU32(x:Int):List Value:= [(.int .u32 x)]
theorem encU32_len(x:Int):(encU32 x).length=1:=rfl
theorem encU32_cell(x:Int):(encU32 x).all isCell=true:=rfl
def encI8(x:Int):List Value:= [(.int .i8 x)]
theorem encI8_len(x:Int):(encI8 x).length=1:=rfl
theorem encI8_cell(x:Int):(encI8 x).all isCell=true:=rfl
def encA96U32(x:Arr 96 Int):List Value:=row encU32 x.1 []
theorem encA96U32_len(x:Arr 96 Int):(encA96U32 x).length=96:=row_len encU32_len x
theorem encA96U32_cell(x:Arr 96 Int):(encA96U32 x).all isCell=true:=List.all_eq_true.2 (row_cell encU32_cell x.1)
def encA2I64(x:Arr 2 Int):List Value:=row encI64 x.1 []
theorem encA2I64_len(x:Arr 2 Int):(encA2I64 x).length=2:=row_len encI64_len x
theorem encA2I64_cell(x:Arr 2 Int):(encA2I64 x).all isCell=true:=List.all_eq_true.2 (row_cell encI64_cell x.1)
structure Garranger where
 ff:GFrame
 ft:List GNote
 fc:GCosts
 fchoices:List (List GChoice)
 fbounds:List Int
 fbudget:Int
 flooks:Int
 fover:Bool
 fbest:List GChoice
 fleast:Int
 deriving DecidableEq
structure Gl07Search where
 ff:GFrame
 ft:List GNote
 fc:GCosts
 fall:List (List GChoice)
 fbounds:List Int
 fbudget:Int
 flooks:Int
 ffound:Bool
 fbest:List GChoice
 fleast:Int
 deriving DecidableEq
end Go.Proofs.YtolfkfjjifdmeaaGreat
