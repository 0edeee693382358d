/- Contracts. Conditions: those each states. -/
import Derived.Lib.SliceRun
import Derived.Test.YtbolcebmbpepdaaGreatDoorM01
namespace Go.Proofs.YtbolcebmbpepdaaGreatDoor
set_option maxRecDepth 100000
set_option maxHeartbeats 8000000
set_option linter.all false
open Go.RowKit Tryz
theorem Blk.setCells_{g:Nat}{t:TypeId}:∀(vs:List Value) (A X C:List Value) (w:World),Blk w g t (A++X++C).toArray->X.length=vs.length->Blk (w.setCells g A.length vs) g t (A++vs++C).toArray
 |[],A,X,C,w,h,hx=>by obtain rfl:X=[]:=uC hx;exact h
 |v::vs,A,x::X,C,w,h,hx=>by
  unfold World.setCells;have h1:=h.set_ A.length v;have e:((A++(x::X)++C).toArray).setIfInBounds A.length v=((A++[v])++X++C).toArray:=by rw[<-uD];simp
  rw[e]at h1;have h2:=Blk.setCells_ vs (A++[v]) X C _ h1 (by simpa using hx);simpa using h2
theorem zKr{P:Program}(w:World)(t e:TypeId)(i:TypeInfo)(z:Value)(size:Nat)(ht:P.underlying t=some (.slice e))(hi:P.info? e=some i)(hz:i.zero=some z)(hs:z.cells.size=size)(h1:∀u∈z.cells.toList,u.oneCell'=true)(b o n c:Nat)(hn:0<n)(hc:∀j,j<n*size->(w.cell? ⟨b,o+j,none⟩).isSome=true)(hf:∀j,j<n*size->w.frozen? ⟨b,o+j,none⟩=false):∃zs:List Value,zs.length=n*size/\∀ty,(Builtin.clear_ #[t] ty #[.slice (some ⟨b,o,none⟩) n c]).run P w= .ok (.tuple #[]) (w.setCells b o zs):=by
 have hv:∀w,(zeroValue e).run P w= .ok z w:=λw=>by simp[zeroValue,typeInfo,hi,hz]
 have hlen:(Builtin.zeroCells z.cells n).toList.length=n*size:=by simp[Builtin.zeroCells,hs]
 refine⟨(Builtin.zeroCells z.cells n).toList,hlen,λty=> ?_⟩;have hst:=run_storeCells_cells (P:=P) b o (Builtin.zeroCells z.cells n).toList 0 w (by rw[hlen];simpa using hc) (by rw[hlen];simpa using hf) (by
  intro v hv';simp only[Builtin.zeroCells,Array.toList_map,jC]at hv';obtain⟨k,hk,rfl⟩:=hv';have hsz:0<z.cells.size:=by
   rcases Nat.eq_zero_or_pos z.cells.size with h|h
   ·simp[h]at hk
   ·exact h
  have hlt:=Nat.mod_lt k hsz;rw[getElem!_pos z.cells _ hlt];exact h1 _ (by simp))
 simp only[Nat.add_zero]at hst;obtain⟨m,rfl⟩:∃m,n=m+1:=⟨n-1,by omega⟩;simp[Builtin.clear_,run_underlying ht,hv,hst]
end Go.Proofs.YtbolcebmbpepdaaGreatDoor
