/- The cost of an order, as the program tells it. -/
import Derived.Test.YtolfkfjjifdmeaaGreatM0
import Derived.Test.YtolfkfjjifdmeaaGreatM4
import Derived.Test.YtolfkfjjifdmeaaGreatPFrame
import Derived.Test.YtolfkfjjifdmeaaGreatPDrum
import Derived.Test.YtolfkfjjifdmeaaGreatPCodes
import Derived.Test.YtolfkfjjifdmeaaGreatPPut
import Derived.Test.YtolfkfjjifdmeaaGreatPBits
import Derived.Test.YtolfkfjjifdmeaaGreatPCost
import Derived.Test.YtolfkfjjifdmeaaGreatPDTab
import Derived.Test.YtolfkfjjifdmeaaGreatPDraw
import Derived.Test.YtolfkfjjifdmeaaGreatPDrawDrum
import Derived.Test.YtolfkfjjifdmeaaGreatPBPath
import Derived.Test.YtolfkfjjifdmeaaGreatPOrdImpl
import Derived.Test.YtolfkfjjifdmeaaGreatPOrdSpec
import Derived.Test.YtolfkfjjifdmeaaGreatPDTabC
import Derived.Test.YtolfkfjjifdmeaaGreatPBestOrd
import Derived.Test.YtolfkfjjifdmeaaGreatPOrdLaw
import Derived.Test.YtolfkfjjifdmeaaGreatPDrawOrd
import Derived.Test.YtolfkfjjifdmeaaGreatPure
namespace Go.Proofs.YtolfkfjjifdmeaaGreat
open Eng
set_option linter.unusedVariables false
set_option linter.unusedSimpArgs false
theorem orderCost_one{f:GFrame}{ds:List (Arr 96 Int)}(hi:FIn f)(hl:f.fHammers.length≤9223372036854775807)(hd:∀d∈ds,DIn d)(hv:listV f ds=0)(hT:TabC (tabD ds) ds.length (cstD ds)){o:List Nat}(ho:IsO ds.length o):
  Fbp f ds (cst o)=some (((costO (cstD ds) o:Nat):Int),0):=by
 have h8:=hT.n8
 have hds:ds.length≤4294967296:=by omega
 have hol:=ho.len
 have hc:=orderCost_is hT o (fun x hx=>(ho.2 x).1 hx) (by omega)
 have hio:=isOrder_is ho (show ds.length≤1000 by omega)
 simp only [Fbp,listCode_is f hi hl ds (by omega) hd,hv,hio,FQ,if_true,Option.bind_some,firstOf2,costs_is ds hds hd,hc]
 simp
end Go.Proofs.YtolfkfjjifdmeaaGreat
