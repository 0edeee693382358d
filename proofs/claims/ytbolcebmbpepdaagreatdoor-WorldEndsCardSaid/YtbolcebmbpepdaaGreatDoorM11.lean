/- Contracts. Conditions: those each states. -/
import Derived.Laws.CopyOwn
import Derived.Lib.AppendZerosOnto
import Derived.Shelf.Spec.SlicesInsert
import Derived.Test.YtbolcebmbpepdaaGreatDoorM01
namespace Go.Proofs.YtbolcebmbpepdaaGreatDoor
set_option maxRecDepth 100000
set_option maxHeartbeats 8000000
set_option linter.all false
open Go.RowKit Tryz
theorem zFh{P:Program}(w:World)(dT sT ty elem:TypeId)(i:TypeInfo)(size m g o dLen dCap:Nat)(a:Addr)(sLen sCap:Nat)(cur:List Value)(t:TypeId)(cs:List Value)(hu:P.underlying dT=some (.slice elem))(hi:P.info? elem=some i)(hs:i.size=size)(hg:Blk w g t cur.toArray)(hm:Nat.min sLen dLen=m)(hn:cs.length=m*size)(hsrc:∀j v,cs[j]? =some v->w.cell? (a.add j)=some v)(hfit:o+cs.length<=cur.length)(h1:∀v∈cs,v.oneCell'=true):(Builtin.copy_ #[dT,sT] ty #[.slice (some ⟨g,o,none⟩) dLen dCap,.slice (some a) sLen sCap]).run P w= .ok (goInt m) (w.setRow g (cur.take o++cs++cur.drop (o+cs.length)).toArray):=by have hl:=run_loadCells_list (P:=P) w a cs hsrc;have hst:=run_storeCells_at P g o t cs 0 cur.toArray w hg (by simpa using hfit) h1;rw[hn]at hl;simp[Builtin.copy_,run_underlying hu,Builtin.lenOf,Builtin.firstCells,sizeOf,typeInfo,hi,hs,hm,hl,hst]
theorem zIf{w:World}{g:Nat}{t:TypeId}{cs:Array Value}(h:Blk w g t cs)(cs':Array Value):Blk (w.setRow g cs') g t cs':=setRow_heap w g _ _ t _ h
theorem zEz{D:Nat->Prop}{a w:World}{g:Nat}(h:Only D a w)(hg:g<a.heap.size->D g)(cs:Array Value):Only D a (w.setRow g cs):=
 ⟨h.os,h.tape,h.output,by simpa[World.setRow]using h.size,λk hk hn=>(setRow_other w g k cs λe=>hn (e▸hg (e▸hk))).trans (h.block k hk hn)⟩
end Go.Proofs.YtbolcebmbpepdaaGreatDoor
