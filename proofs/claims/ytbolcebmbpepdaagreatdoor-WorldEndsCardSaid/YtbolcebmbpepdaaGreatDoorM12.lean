/- Contracts. Conditions: those each states. -/
import Derived.ProofKit
import Derived.Deep.Fields
import Derived.SizedLaws
import Derived.Test.YtbolcebmbpepdaaGreatDoorM01
namespace Go.Proofs.YtbolcebmbpepdaaGreatDoor
set_option maxRecDepth 100000
set_option maxHeartbeats 8000000
set_option linter.all false
open Go.RowKit Tryz
section
open Go.RowKit Go.ChangeShapes Go.WideShapes Go.Deep
section
variable {H:Type}{enc:TypeId×Value->H}{P:Program}{w:World}{base:Nat}{spare:Nat->Bool}{held:Bool}
theorem zKk{α β:Type}(f:α->β)(G:α->Prop):∀(l:List β),(∀b∈l,∃a,b=f a/\G a)->∃aS:List α,l=aS.map f/\∀a∈aS,G a
 |[],_=>⟨[],rfl,λ_ h=>by cases h⟩
 |b::l,h=>by obtain⟨a,ha,hg⟩:=h b (by simp);obtain⟨aS,has,hgs⟩:=zKk f G l (λb hb=>h b (by simp[hb]));exact⟨a::aS,by simp[ha,has],λx hx=>by rcases jD.1 hx with rfl|hx;exact hg;exact hgs x hx⟩
theorem zOu{t e:TypeId}{fuel size:Nat}{A:Option Addr}{len cap:Nat}{x:DataW H×List MemPlace}{E:List Value->DataW H->Prop}(ht:P.underlying t=some (.slice e))(hsz:P.cellsOf e=size)(hs0:0<size)(hE:∀n cs y,DataW.trod enc P w base spare held n e cs=some y->cs.length=size/\E cs y.1)(h:DataW.trod enc P w base spare held fuel t [.slice A len cap]=some x):len<=cap/\cap<=maxLen/\∃(css:List (List Value)) (D:List (DataW H)),css.length=len/\D.length=len/\(∃sp,x.1= .slice D sp\/(x.1= .nil/\D=[]))/\(∀(i:Nat) (cs:List Value) (d:DataW H),css[i]? =some cs->D[i]? =some d->E cs d)/\(∀cs∈css,cs.length=size)/\Reads w w.heap.size size A len css.flatten:=by
 have hplt:=DataW.trod_lt _ _ _ _ h;rcases open_slice ht h with⟨hcs,hx⟩|⟨a,len',cap',m,n,D,Pl,hcs,hb,hl,hm,hmm,hx,hi⟩
 ·simp at hcs;obtain⟨rfl,rfl,rfl⟩:=hcs;subst hx;exact⟨qA _,by unfold maxLen;omega,[],[],rfl,rfl,⟨[],.inr ⟨rfl,rfl⟩⟩,λi cs d h=>by simp at h,λcs h=>by simp at h,by simpa using Reads.none_⟩
 ·simp at hcs;obtain⟨rfl,rfl,rfl⟩:=hcs;have hlm:len<=m:=by rw[hmm];split<;>omega
  refine⟨hl,hm,?_⟩;obtain⟨C,hC⟩:∃C:Nat->List Value,∀i,i<len->w.cells? base (a.add (i*P.cellsOf e)) (P.cellsOf e)=some (C i)/\DataW.trod enc P w base spare held n e (C i)=some (D i,Pl i):=by
   have:∀i,∃c,i<len->w.cells? base (a.add (i*P.cellsOf e)) (P.cellsOf e)=some c/\DataW.trod enc P w base spare held n e c=some (D i,Pl i):=by
    intro i;by_cases h:i<len
    ·obtain⟨c,h1,h2⟩:=hi i (by omega);exact⟨c,λ_=>⟨h1,h2⟩⟩
    ·exact⟨[],λh'=>absurd h' h⟩
   exact⟨λi=>(this i).choose,λi=>(this i).choose_spec⟩
  have hlenC:∀i,i<len->(C i).length=size:=λi h=>(hE _ _ _ (hC i h).2).1
  refine⟨(List.range len).map C,(List.range len).map D,by simp,by simp,⟨_,.inl (by rw[hx])⟩,?_,?_,?_⟩
  ·intro i cs d h1 h2;have hi':i<len:=by
    rcases Nat.lt_or_ge i len with h|h
    ·exact h
    ·rw[qU (by simpa using h)]at h1;cases h1
   simp[hi']at h1 h2;subst h1 h2;exact(hE _ _ _ (hC i hi').2).2
  ·intro cs hcs;simp at hcs;obtain⟨i,hi',rfl⟩:=hcs;exact hlenC i hi'
  ·have hflat:∀k,k<=len->(((List.range k).map C).flatten).length=k*size:=by
    intro k hk
    induction k with
    |zero=>simp
    |succ k ih=>rw[List.range_succ,jA,List.flatten_append,qM,ih (by omega)];simp[hlenC k (by omega),Nat.succ_mul]
   refine⟨hflat len (qA _),λhpos=>⟨a,rfl,?_,?_⟩⟩
   ·have:MemPlace.cell a.block a.off∈x.2:=by
     rw[hx];simp only[jI]
     left
     unfold MemPlace.row;rw[jC];refine⟨0,?_,by simp⟩;rw[jZ,hsz];exact Nat.mul_pos (by omega) (by omega)
    exact hplt _ this
   ·intro j u hj;have hj':j<len*size:=by
     rcases Nat.lt_or_ge j (len*size)with h|h
     ·exact h
     ·rw[qU (by rw[hflat len (qA _)];exact h)]at hj;cases hj
    have hi':j/size<len:=(Nat.div_lt_iff_lt_mul hs0).2 hj';have hr:j%size<size:=Nat.mod_lt _ hs0;have e:j=(j/size)*size+j%size:=by rw[Nat.mul_comm];exact(Nat.div_add_mod j size).symm
    rw[e,zDw size _ (by intro cs hcs;simp at hcs;obtain⟨i,hi2,rfl⟩:=hcs;exact hlenC i hi2) _ _ hr]at hj;simp[hi']at hj;have h2:=(World.cells?_some (hC _ hi').1).2.2 (j%size) (by rw[hsz];exact hr);rw[zSi,hsz,<-e]at h2;rw[h2,<-hj]
theorem zNv{t:TypeId}{fs:Array Field}{n:Nat}{cs:List Value}{y:DataW H×List MemPlace}(hs:P.underlying t=some (.struct fs))(hone:oneCellFields P fs=true)(hC:P.cellsOf t=fs.size)(h:DataW.trod enc P w base spare held n t cs=some y):cs.length=fs.size/\∃ys:List (DataW H×List MemPlace),y.1= .agg (ys.map (·.1))/\ys.length=fs.size/\∃m,∀(j:Nat) (f:Field),fs[j]? =some f->∃v yj,cs[j]? =some v/\ys[j]? =some yj/\DataW.trod enc P w base spare held m f.type [v]=some yj:=by
 obtain⟨ys,m,hn,hy,hlen,hyl,hf⟩:=DataW.trod_struct hs h;rw[hC]at hlen;refine⟨hlen,ys,by rw[hy],hyl,m,λj f hj=> ?_⟩;obtain⟨ho,hk⟩:=hone_of hone j f hj;have hjl:j<fs.size:=(Array.getElem?_eq_some_iff.1 hj).1;have h1:=hf j f hj;rw[ho,hk]at h1;have hone':(cs.drop j).take 1=[cs[j]'(by omega)]:=by rw[List.drop_eq_getElem_cons (by omega)];rfl
 rw[hone']at h1;exact⟨cs[j]'(by omega),ys[j]'(by omega),qI (by omega),qI (by omega),h1.trans (qI (by omega))⟩
theorem yEk{t e:TypeId}{k:IntKind}{fuel:Nat}{A:Option Addr}{len cap:Nat}{x:DataW H×List MemPlace}(ht:P.underlying t=some (.slice e))(he:P.underlying e=some (.int k))(hc:P.cellsOf e=1)(h:DataW.trod enc P w base spare held fuel t [.slice A len cap]=some x):len<=cap/\cap<=maxLen/\∃zs:List Int,zs.length=len/\Reads w w.heap.size 1 A len (zs.map (.int k))/\∀z∈zs,(Lit.int k z).wf=true:=by
 obtain⟨h1,h2,css,D,hcl,_,_,hE,_,hr⟩:=zOu (E:=λcs _=>∃z,cs=[.int k z]/\(Lit.int k z).wf=true) ht hc (by omega)
  (λn cs y hy=>by obtain⟨z,rfl,_,hw⟩:=DataW.trod_int he hy;exact⟨rfl,z,rfl,hw⟩) h
 have hD:∀cs∈css,∃z:Int,cs=[Value.int k z]/\(Lit.int k z).wf=true:=by intro cs hcs;obtain⟨i,hi⟩:=jY.1 hcs;have hil:i<css.length:=(qK.1 hi).1;have hdl:D[i]? =some (D[i]'(by omega)):=qI (by omega);exact hE i cs _ hi hdl
 obtain⟨zs,rfl,hz⟩:=zKk (λz:Int=>[Value.int k z]) _ css hD;refine⟨h1,h2,zs,by simpa using hcl,?_,hz⟩;rw[zSo]at hr;exact hr
def SliceD(d:DataW H)(len:Nat):Prop:=(∃D sp,d= .slice D sp/\D.length=len)\/(d= .nil/\len=0)
theorem yDu{α:Type}(cells:α->List Value)(G:α->Prop){t e:TypeId}{fuel size:Nat}{A:Option Addr}{len cap:Nat}{x:DataW H×List MemPlace}(ht:P.underlying t=some (.slice e))(hc:P.cellsOf e=size)(hs0:0<size)(hE:∀n cs y,DataW.trod enc P w base spare held n e cs=some y->cs.length=size/\∃a,cs=cells a/\G a)(h:DataW.trod enc P w base spare held fuel t [.slice A len cap]=some x):len<=cap/\cap<=maxLen/\SliceD x.1 len/\∃l:List α,l.length=len/\Reads w w.heap.size size A len (l.flatMap cells)/\∀a∈l,G a:=by
 obtain⟨h1,h2,css,D,hcl,hDl,hd,hE',_,hr⟩:=zOu (E:=λcs _=>∃a,cs=cells a/\G a) ht hc hs0 hE h;have hD:∀cs∈css,∃a,cs=cells a/\G a:=by intro cs hcs;obtain⟨i,hi⟩:=jY.1 hcs;have hil:i<css.length:=(qK.1 hi).1;exact hE' i cs _ hi (qI (show i<D.length by omega))
 obtain⟨aS,rfl,ha⟩:=zKk cells G css hD;refine⟨h1,h2,?_,aS,by simpa using hcl,by rw[List.flatMap_def];exact hr,ha⟩;obtain⟨sp,hd|⟨hd,hD0⟩⟩:=hd
 ·exact .inl ⟨D,sp,hd,hDl⟩
 ·exact .inr ⟨hd,by rw[<-hDl,hD0];rfl⟩
end
end
end Go.Proofs.YtbolcebmbpepdaaGreatDoor
