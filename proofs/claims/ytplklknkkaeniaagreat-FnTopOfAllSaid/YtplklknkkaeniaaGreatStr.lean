/- Strings, in the engine’s words. -/
import Derived.Test.YtplklknkkaeniaaGreatEng
namespace Go.Proofs.YtplklknkkaeniaaGreat.Eng
open Go
set_option linter.unusedSimpArgs false
set_option linter.unusedVariables false
variable {P:Program} {E:Env}
def Pl(s:ByteArray)(i:Int):Option Int:=if 0≤i then(s[i.toNat]?).map fun b=>(b.toNat:Int) else none
theorem Rr{s:ByteArray}{i x:Int}(h:Pl s i=some x):0≤i∧i<s.size∧∃b:UInt8,s[i.toNat]?=some b∧x=(b.toNat:Int):=by
 unfold Pl at h
 split at h
 ·rename_i h0
  rw [iF] at h
  obtain⟨b,hb,rfl⟩:=h
  have hl:i.toNat<s.size:=by
   rcases jw i.toNat s.size with h' | h'
   ·exact h'
   ·rw [getElem?_neg s i.toNat (by omega)] at hb;cases hb
  exact⟨h0,by omega,b,hb,rfl⟩
 ·cases h
def acB(P:Program)(E:Env):Op→Option (ByteArray×Int)
 | .index T x i=>match nc E [] x,nc E [] i,P.underlying T with
  | some (.string s),some (.int _ j),some .string=>some (s,j)
  | _,_,_=>none
 | _=>none
theorem CB{o:Oper}{s:ByteArray}{j x:Int}{w:World}(hq:acB P E o.op=some (s,j))(hx:Pl s j=some x):(execOp (ev E []) o).run P w= .ok (.value (.int .u8 x)) w:=by
 obtain⟨h0,h1,b,hb,rfl⟩:=Rr hx
 unfold acB at hq
 split at hq
 ·rename_i T y i ho
  split at hq
  ·rename_i s' k j' hy hi hT
   cases hq
   have ey:ev E [] y= .string s:=by simp [ev,hy]
   have ei:ev E [] i= .int k j:=by simp [ev,hi]
   simp only [execOp,ho,Instr.index,ey,ei,asIntOf,underlying,program,Sem.run_bind,Sem.run,hT,Result.andThen_ok,Sem.run_pure,ak h0,hb]
  ·cases hq
 ·cases hq
end Go.Proofs.YtplklknkkaeniaaGreat.Eng
