/- The plain types, and how a value of each lies in memory. Printed by a program. -/
import Derived.Test.YtplklknkkaeniaaGreatProg
import Derived.Test.YtplklknkkaeniaaGreatEng
import Derived.Test.YtplklknkkaeniaaGreatStr
namespace Go.Proofs.YtplklknkkaeniaaGreat
open Eng
set_option linter.unusedVariables false
def jS(x:Int):List Value:= [(.int .u8 x)]
structure a_ where
 aJ:List Int
 dy:Int
 deriving DecidableEq
structure bq where
 aD:Int
 fg:Int
 deriving DecidableEq
structure ae where
 ag:Int
 aa:List bq
 deriving DecidableEq
def ay(x:bq):List Value:= [(.int .i8 x.aD),(.int .i8 x.fg)]
theorem cW(x:bq):(ay x).length=2:=rfl
theorem kv(x:bq):(ay x).all il=true:=rfl
structure ai where
 cd:Int
 aD:Int
 deriving DecidableEq
def aF(x:ai):List Value:= [(.int .i16 x.cd),(.int .i8 x.aD)]
theorem br(x:ai):(aF x).length=2:=rfl
theorem iZ(x:ai):(aF x).all il=true:=rfl
def aj(x:Int):List Value:= [(.int .u32 x)]
theorem an(x:Int):(aj x).length=1:=rfl
theorem bk(x:Int):(aj x).all il=true:=rfl
def da(x:av 96 Int):List Value:=row aj x.1 []
theorem dD(x:av 96 Int):(da x).length=96:=gG an x
theorem wE(x:av 96 Int):(da x).all il=true:=gP.2 (zU bk x.1)
def aG(x:Int):List Value:= [(.int .i64 x)]
theorem bf(x:Int):(aG x).length=1:=rfl
theorem fT(x:Int):(aG x).all il=true:=rfl
structure ab where
 bJ:Bool
 cP:Int
 ba:Int
 eU:Int
 deriving DecidableEq
def af(x:ab):List Value:= [(.bool x.bJ),(.int .i8 x.cP),(.int .i8 x.ba),(.int .i8 x.eU)]
theorem az(x:ab):(af x).length=4:=rfl
theorem eI(x:ab):(af x).all il=true:=rfl
structure dx where
 ff:ae
 ft:List ai
 fold:av 96 Int
 bA:Int
 eD:Int
 ez:Bool
 c7:Bool
 j6:Int
 bp:av 96 Int
 gN:Bool
 deriving DecidableEq
structure bZ where
 eR:ae
 kh:List ai
 fold:av 96 Int
 nv:Bool
 bA:Int
 eD:Int
 ez:Bool
 jx:av 96 Int
 c7:Bool
 bp:av 96 Int
 d_:Int
 deriving DecidableEq
def ca(x:av 2 Int):List Value:=row aG x.1 []
theorem jO(x:av 2 Int):(ca x).length=2:=gG bf x
theorem tA(x:av 2 Int):(ca x).all il=true:=gP.2 (zU fT x.1)
def f_(x:Int):List Value:= [(.int .i8 x)]
theorem jy(x:Int):(f_ x).length=1:=rfl
theorem yS(x:Int):(f_ x).all il=true:=rfl
structure aQ where
 bJ:Int
 ba:Int
 du:Int
 deriving DecidableEq
structure cz where
 ff:ae
 ft:List ai
 fc:aQ
 fp:List (List ab)
 b9:List Int
 bA:Int
 gi:Int
 ez:Bool
 bp:List ab
 d_:Int
 deriving DecidableEq
structure bS where
 ff:ae
 ft:List ai
 fc:aQ
 gN:List (List ab)
 b9:List Int
 bA:Int
 gi:Int
 c7:Bool
 bp:List ab
 d_:Int
 deriving DecidableEq
structure a6 where
 aJ:List Int
 dy:Int
 bF:Int
 deriving DecidableEq
abbrev Cr(f:FuncId)(a:Array Value)(w:World)(R:Value→World→Prop):Prop:=Calls Tryz.prog f a w fun e w'=>∃v,e= .returned v∧R v w'
abbrev Cq [gj:wu](f:FuncId)(a:Array Value)(w:World)(V:Value)(W:List Nat)(N:List dJ):Prop:=Calls Tryz.prog f a w fun e w'=>∃v,e= .returned v∧(v=V∧Mem w W N w')
abbrev cG(f:ae)(a:Option Addr)(n b:Nat):List Value:= [(vH f.ag),(.slice a n b)]
abbrev cF(f:ae)(a:Option Addr)(b:Nat):List Value:= [(vH f.ag),(.slice a f.aa.length b)]
abbrev aC(c:aQ):Array Value:= #[(vH c.bJ),(vH c.ba),(vH c.du)]
abbrev cC(c:aQ):List Value:= [(vH c.bJ),(vH c.ba),(vH c.du)]
abbrev aN(n:ai):Array Value:= #[(vH n.cd),(vB n.aD)]
abbrev cN(n:ai):List Value:= [(vH n.cd),(vB n.aD)]
abbrev aY(x:ab):Array Value:= #[(.bool x.bJ),(vB x.cP),(vB x.ba),(vB x.eU)]
abbrev cY(x:ab):List Value:= [(.bool x.bJ),(vB x.cP),(vB x.ba),(vB x.eU)]
end Go.Proofs.YtplklknkkaeniaaGreat
