/- Contracts. Conditions: those each states. -/
import Derived.Deep.AppendLies
import Derived.Deep.OwnRows
import Derived.Deep.RegionLaw
import Derived.Deep.RegionHeld3
import Derived.BigQuiet
import Derived.StillTailTactics
import Derived.Deep.DeepCutAuto
import Derived.Deep.CutBlock
import Derived.Deep.DeepFit
import Derived.Test.YtbolcebmbpepdaaGreatDoorM00
namespace Go.Proofs.YtbolcebmbpepdaaGreatDoor
set_option maxRecDepth 100000
set_option maxHeartbeats 8000000
set_option linter.all false
open Go.RowKit Tryz
theorem zNp(a:Addr)(n:Nat):(a.add n).block=a.block:=by unfold Addr.add;split<;>rfl
theorem zRr(a:Addr)(i j:Nat):(a.add i).add j=a.add (i+j):=by unfold Addr.add;by_cases hi:i=0<;>by_cases hj:j=0<;>simp[hi,hj,Nat.add_assoc]
def Reads(w:World)(B size:Nat)(A:Option Addr)(n:Nat)(xs:List Value):Prop:=
 xs.length=n*size/\(0<n->∃ad,A=some ad/\ad.block<B/\∀j u,xs[j]? =some u->w.cell? (ad.add j)=some u)
section
variable {w w':World}{B B' size n:Nat}{A:Option Addr}{xs:List Value}
theorem Reads.none_:Reads w B size A 0 []:=⟨by simp,λh=>absurd h (by omega)⟩
theorem Reads.at_{k:Nat}(h:Reads w B 1 A n xs)(hk:k<n):∃ad u,A=some ad/\ad.block<B/\xs[k]? =some u/\w.cell? (ad.add k)=some u:=by
 obtain⟨ad,e,hb,hc⟩:=h.2 (by omega);have hl:k<xs.length:=by have:=h.1;omega
 exact⟨ad,xs[k],e,hb,qI hl,hc k _ (qI hl)⟩
theorem Reads.keep(h:Reads w B size A n xs)(hk:∀p:Addr,p.block<B->w'.cell? p=w.cell? p):Reads w' B size A n xs:=
 ⟨h.1,λhn=>by obtain⟨ad,e,hb,hc⟩:=h.2 hn;exact⟨ad,e,hb,λj u hu=>(hk _ (by rw[zNp];exact hb)).trans (hc j u hu)⟩⟩
theorem Reads.more(h:Reads w B size A n xs)(hB:B<=B'):Reads w B' size A n xs:=
 ⟨h.1,λhn=>by obtain⟨ad,e,hb,hc⟩:=h.2 hn;exact⟨ad,e,by omega,hc⟩⟩
theorem Reads.below(h:Reads w B size A n xs)(hb:Below B w w'):Reads w' B size A n xs:=h.keep λ_ hp=>hb.cell hp
theorem Reads.drewN(h:Reads w B size A n xs)(k:Nat):Reads (w.drewN k) B size A n xs:=h
theorem Reads.alloc(h:Reads w B size A n xs)(hB:B<=w.heap.size)(o:Obj):Reads (w.alloc o) B size A n xs:=h.keep λp hp=>World.cell?_alloc_lt w o p (by omega)
theorem Reads.cut(h:Reads w B size A n xs){k cap:Nat}(hk:k<=n)(hc:n<=cap):Reads w B size (if cap=k then A else A.map (·.add (k*size))) (n-k) (xs.drop (k*size)):=by refine⟨by rw[List.length_drop,h.1,Nat.sub_mul],λhn=> ?_⟩;obtain⟨ad,rfl,hb,hcell⟩:=h.2 (by omega);rw[if_neg (by omega)];refine⟨ad.add (k*size),rfl,by rw[zNp];exact hb,λj u hu=> ?_⟩;rw[zRr];exact hcell _ u (by rw[<-hu,List.getElem?_drop])
theorem Reads.of_own{base:Nat}{e:TypeId}{c:Nat}(h:w.ownsRow base e size (.slice A n c) n xs):Reads w w.heap.size size A n xs:=by
 refine⟨h.1,λhn=> ?_⟩;obtain⟨g,cap,hv,_,hlt⟩:=h.form hn;have hA:A=some ⟨g,0,none⟩:=by injection hv
 subst hA;exact⟨_,rfl,hlt,h.cells (g:=g) rfl⟩
end
def Blk(w:World)(g:Nat)(t:TypeId)(cs:Array Value):Prop:=w.heap[g]? =some (.cells cs t (0,0))
section
variable {w w':World}{g:Nat}{t:TypeId}{cs:Array Value}
theorem Blk.lt(h:Blk w g t cs):g<w.heap.size:=by
 rcases Nat.lt_or_ge g w.heap.size with hlt|hge
 ·exact hlt
 ·unfold Blk at h;rw[Array.getElem?_eq_none hge]at h;cases h
theorem Blk.cell(h:Blk w g t cs)(i:Nat):w.cell? ⟨g,i,none⟩=cs[i]? :=cell_of_row w g i cs t (0,0) h
theorem Blk.frozen(h:Blk w g t cs)(i:Nat):w.frozen? ⟨g,i,none⟩=false:=by unfold Blk at h;simp[World.frozen?,h]
theorem Blk.new(w:World)(t:TypeId)(cs:Array Value):Blk (w.alloc (.cells cs t)) w.heap.size t cs:=heap_alloc_new w _
theorem Blk.drew(h:Blk w g t cs):Blk w.drew g t cs:=h
theorem Blk.drewN(h:Blk w g t cs)(n:Nat):Blk (w.drewN n) g t cs:=h
theorem Blk.alloc(h:Blk w g t cs)(o:Obj):Blk (w.alloc o) g t cs:=(Below.heap_alloc w o g h.lt).trans h
theorem Blk.set_(h:Blk w g t cs)(i:Nat)(u:Value):Blk (w.setCell ⟨g,i,none⟩ u) g t (cs.setIfInBounds i u):=by unfold Blk at h⊢;simp[World.setCell,Array.getElem?_modify,h]
theorem Blk.far(h:Blk w g t cs){p:Addr}(hp:g≠p.block)(u:Value):Blk (w.setCell p u) g t cs:=(Below.heap_setCell w p u g hp).trans h
theorem Blk.below{B:Nat}(h:Blk w g t cs)(hb:Below B w w')(hg:g<B):Blk w' g t cs:=(hb.block g hg).trans h
theorem Blk.grown{row:Option Nat}(h:Blk w g t cs)(hb:w.grownBy w' row)(hg:some g≠row):Blk w' g t cs:=(hb.block g h.lt hg).trans h
theorem Blk.ne_{g':Nat}{t':TypeId}{cs':Array Value}(h:Blk w g t cs)(h':Blk w g' t' cs')(hne:t≠t'):g≠g':=by rintro rfl;unfold Blk at h h';rw[h]at h';injection h' with h';injection h' with _ ht;exact hne ht
theorem bB{base:Nat}{e:TypeId}{size n:Nat}{v:Value}{xs:List Value}(h:w.ownsRow base e size v n xs)(hg:Blk w g t cs)(hne:e≠t):v.ownBlock≠some g:=by
 rcases h.2 with⟨rfl,_⟩|⟨g',cap,cur,rfl,_,hh,_⟩
 ·simp[Value.ownBlock]
 ·intro he;have:g'=g:=by simpa[Value.ownBlock]using he
  subst this;exact Blk.ne_ (t:=e) hh hg hne rfl
end
section
variable {P:Program}(w:World)
theorem zOe(base:Nat)(t ty e:TypeId)(i:TypeInfo)(size:Nat)(ht:P.underlying t=some (.slice e))(hi:P.info? e=some i)(v:Value)(n:Nat)(xs:List Value)(hown:w.ownsRow base e size v n xs)(c:Nat):(Builtin.append_ #[t,t] ty #[v,.slice none 0 c]).run P w= .ok v w:=by
 rcases hown.2 with⟨rfl,rfl⟩|⟨g,cap,cur,rfl,_,_,hnc,_⟩
 ·simp[Builtin.append_,run_underlying ht,sizeOf,typeInfo,hi,Builtin.lenOf,Builtin.firstCells]
 ·simp[Builtin.append_,run_underlying ht,sizeOf,typeInfo,hi,Builtin.lenOf,Builtin.firstCells,hnc,storeCells]
theorem zSr(base:Nat)(t ty e:TypeId)(i:TypeInfo)(z:Value)(size bytes:Nat)(ht:P.underlying t=some (.slice e))(hi:P.info? e=some i)(hz:i.zero=some z)(hsize:i.size=size)(hby:i.bytes=bytes)(hzs:z.cells.size=size)(hsz:0<size)(v:Value)(n:Nat)(xs:List Value)(hown:w.ownsRow base e size v n xs)(B:Nat)(A:Option Addr)(m c:Nat)(news:List Value)(hr:Reads w B size A m news)(h1:∀u∈news,u.oneCell'=true)(h63:n+m<=maxLen)(hbytes:(n+m)*bytes<=140737488355328)(hbase:base<=w.heap.size):∃v' w',(Builtin.append_ #[t,t] ty #[v,.slice A m c]).run P w= .ok v' w'/\w'.ownsRow base e size v' (n+m) (xs++news)/\w.grownBy w' v.ownBlock/\ (v'.ownBlock=v.ownBlock\/v'.ownBlock=some w.heap.size):=by
 rcases A with _|ad
 ·have hm:m=0:=by
   rcases Nat.eq_zero_or_pos m with h0|h0
   ·exact h0
   ·obtain⟨ad,h,_⟩:=hr.2 h0;cases h
  subst hm;have hn:news=[]:=uC (by simpa using hr.1);subst hn;exact⟨v,w,zOe w base t ty e i size ht hi v n xs hown c,by simpa using hown,World.grownBy.refl w _,.inl rfl⟩
 ·have hcells:∀j u,news[j]? =some u->w.cell? (ad.add j)=some u:=by
   intro j u hu;rcases Nat.eq_zero_or_pos m with h0|h0
   ·subst h0;have hn:news=[]:=uC (by simpa using hr.1);subst hn;simp at hu
   ·obtain⟨ad',h,_,hc⟩:=hr.2 h0;injection h with h;subst h;exact hc j u hu
  obtain⟨v',w',hrun,h2,h3,_,h5⟩:=run_append_own_at (P:=P) w base t ty e i z size bytes ht hi hz hsize hby hzs hsz v n xs hown ad m c news hr.1 hcells h1 h63 hbytes hbase;exact⟨v',w',hrun,h2,h3,h5⟩
theorem zLy{o:Oper}{a:Act}{K:Act->World->Prop}{Q:Exit->Act->World->Prop}(s x:Operand)(t:TypeId)(ho:o.op= .call {callee:= .builtin .append,args:=#[s,x],argTypes:=#[t,t]})(base:Nat)(e:TypeId)(i:TypeInfo)(z:Value)(size bytes:Nat)(ht:P.underlying t=some (.slice e))(hi:P.info? e=some i)(hz:i.zero=some z)(hsize:i.size=size)(hby:i.bytes=bytes)(hzs:z.cells.size=size)(hsz:0<size)(v:Value)(n:Nat)(xs:List Value)(hs:a.eval s=v)(hown:w.ownsRow base e size v n xs)(B:Nat)(A:Option Addr)(m c:Nat)(news:List Value)(hx:a.eval x= .slice A m c)(hr:Reads w B size A m news)(h1:∀u∈news,u.oneCell'=true)(h63:n+m<=maxLen)(hbytes:(n+m)*bytes<=140737488355328)(hbase:base<=w.heap.size)(h:∀v' w',w'.ownsRow base e size v' (n+m) (xs++news)->w.grownBy w' v.ownBlock->(v'.ownBlock=v.ownBlock\/v'.ownBlock=some w.heap.size)->K (a.put o.dst v') w'):o.wp P a w K Q:=by obtain⟨v',w',hrun,h2,h3,h4⟩:=zSr (P:=P) w base t o.type e i z size bytes ht hi hz hsize hby hzs hsz v n xs hown B A m c news hr h1 h63 hbytes hbase;unfold Oper.wp execOp;simp only[ho,resolve,invoke,builtin,Sem.run_bind,Sem.run_pure,Result.andThen_ok,List.map_toArray,qK,qN,hs,hx,hrun];exact h v' w' h2 h3 h4
theorem gA{ops:Array Oper}{rest:List Oper}{o:Oper}{a:Act}{Q:Exit->Act->World->Prop}(hgd:o.guard=none)(s x:Operand)(t:TypeId)(ho:o.op= .call {callee:= .builtin .append,args:=#[s,x],argTypes:=#[t,t]})(base:Nat)(e:TypeId)(i:TypeInfo)(z:Value)(size bytes:Nat)(ht:P.underlying t=some (.slice e))(hi:P.info? e=some i)(hz:i.zero=some z)(hsize:i.size=size)(hby:i.bytes=bytes)(hzs:z.cells.size=size)(hsz:0<size)(v:Value)(n:Nat)(xs:List Value)(hs:a.eval s=v)(hown:w.ownsRow base e size v n xs)(B:Nat)(A:Option Addr)(m c:Nat)(news:List Value)(hx:a.eval x= .slice A m c)(hr:Reads w B size A m news)(h1:∀u∈news,u.oneCell'=true)(h63:n+m<=maxLen)(hbytes:(n+m)*bytes<=140737488355328)(hbase:base<=w.heap.size)(h:∀v' w',w'.ownsRow base e size v' (n+m) (xs++news)->w.grownBy w' v.ownBlock->(v'.ownBlock=v.ownBlock\/v'.ownBlock=some w.heap.size)->wpList P ops Q rest (a.put o.dst v') w'):wpList P ops Q (o::rest) a w:=
 wpList_plain hgd λ_ hK=>zLy w s x t ho base e i z size bytes ht hi hz hsize hby hzs hsz v n xs hs hown B A m c news hx hr h1 h63 hbytes hbase λv' w' h2 h3 h4=>hK _ _ (h v' w' h2 h3 h4)
end
theorem zSp{P:Program}{f:FuncId}{args:Array Value}{w:World}{a n:Nat}{v:Value}(h:Calls P f args (w.drewN (a+n)) λe w'=>e= .returned v/\w.drewN (a+n)=w'):Calls P f args (w.drewN (a+n)) λe w''=>e= .returned v/\∃m,w''=w.drewN (a+m):=
 h.mono λ_ _ ⟨he,hm⟩=>⟨he,n,hm.symm⟩
theorem yDs{P:Program}{f:FuncId}{args:Array Value}{w:World}{n:Nat}{v:Value}(h:Calls P f args (w.drewN n) λe w'=>e= .returned v/\w.drewN n=w'):Calls P f args (w.drewN n) λe w''=>e= .returned v/\∃m,w''=w.drewN m:=
 h.mono λ_ _ ⟨he,hm⟩=>⟨he,n,hm.symm⟩
theorem below_drewN{B:Nat}{a w:World}(h:Below B a w)(n:Nat):Below B a (w.drewN n):=⟨h.os,h.tape,h.output,h.size,h.block⟩
theorem yGi{a w:World}{row:Option Nat}(h:a.grownBy w row):a.grownBy w.drew row:=⟨h.os,h.tape,h.output,h.size,h.block⟩
theorem fR{a w:World}{g:Nat}(h:a.grownBy w (some g)){p:Addr}(hp:p.block=g\/a.heap.size<=p.block)(u:Value):a.grownBy (w.setCell p u) (some g):=
 ⟨h.os,h.tape,h.output,by simpa[World.setCell]using h.size,λi hi hne=>(Below.heap_setCell w p u i (by
  rintro rfl;rcases hp with hp|hp
  ·exact hne (by rw[hp])
  ·omega)).trans (h.block i hi hne)⟩
theorem dN{P:Program}(t e:TypeId)(i:TypeInfo)(z:Value)(ht:P.underlying t=some (.slice e))(hi:P.info? e=some i)(hz:i.zero=some z)(kl kc:IntKind)(n c:Nat)(hnc:n<=c)(hbytes:i.bytes*c<=281474976710656)(h63:c<=9223372036854775807)(w:World):(Instr.makeSlice t (.int kl (n:Int)) (.int kc (c:Int))).run P w= .ok (.slice (some ⟨w.heap.size,0,none⟩) n c) (w.alloc (.cells (madeCells z.cells (c*i.size)) e)):=by
 have hb:(i.bytes:Int)*(c:Int)<=281474976710656:=by
  have h:((i.bytes*c:Nat):Int)<=281474976710656:=by omega
  rwa[Int.natCast_mul]at h
 have hr:=run_make (P:=P) w t e i z ht hi hz kl kc n c (by omega) (by omega) hb (by omega);simp only[qQ]at hr;exact hr
theorem zWx{a b c:World}{row:Option Nat}(h:a.grownBy b none)(k:b.grownBy c row):a.grownBy c row:=
 ⟨k.os.trans h.os,k.tape.trans h.tape,k.output.trans h.output,qL h.size k.size,λi hi hne=>(k.block i (jW hi h.size) hne).trans (h.block i hi (by simp))⟩
theorem zMf{P:Program}{o:Oper}{a:Act}{K:Act->World->Prop}{Q:Exit->Act->World->Prop}(w0:World)(s x:Operand)(t:TypeId)(ho:o.op= .call {callee:= .builtin .append,args:=#[s,x],argTypes:=#[t,t]})(base:Nat)(e:TypeId)(i:TypeInfo)(z:Value)(size bytes:Nat)(ht:P.underlying t=some (.slice e))(hi:P.info? e=some i)(hz:i.zero=some z)(hsize:i.size=size)(hby:i.bytes=bytes)(hzs:z.cells.size=size)(hsz:0<size)(hb0:0<bytes)(v:Value)(n:Nat)(xs:List Value)(hown:w0.ownsRow base e size v n xs)(hs:a.eval s=v)(cs:Array Value)(c g0:Nat)(hx:a.eval x= .slice (some ⟨g0,0,none⟩) 1 c)(hg0:w0.heap.size=g0)(hcs:cs.size=size)(h1:∀u∈cs.toList,u.oneCell'=true)(hbytes:(n+1)*bytes<=140737488355328)(hbase:base<=g0)(h:∀g cap w',base<=g->w'.ownsRow base e size (.slice (some ⟨g,0,none⟩) (n+1) cap) (n+1) (xs++cs.toList)->(∀B A,B<=base->Below B A w0->Below B A w')->w0.grownBy w' v.ownBlock-> (some g=v.ownBlock\/g=g0+1)->K (a.put o.dst (.slice (some ⟨g,0,none⟩) (n+1) cap)) w'):o.wp P a (w0.alloc (.cells cs e)) K Q:=by
 subst hg0;have hblk:=Blk.new w0 e cs;have hsize':(w0.alloc (.cells cs e)).heap.size=w0.heap.size+1:=by simp
 have hr:Reads (w0.alloc (.cells cs e)) (w0.heap.size+1) size (some ⟨w0.heap.size,0,none⟩) 1 cs.toList:=by
  refine⟨by simpa using hcs,λ_=>⟨_,rfl,by simp,λj u hj=> ?_⟩⟩;have:(⟨w0.heap.size,0,none⟩:Addr).add j=⟨w0.heap.size,j,none⟩:=by unfold Addr.add;split<;>simp_all
  rw[this,hblk.cell];simpa using hj
 have hn:n+1<=maxLen:=by have:n+1<=(n+1)*bytes:=Nat.le_mul_of_pos_right _ hb0;unfold maxLen;omega
 refine zLy (w0.alloc (.cells cs e)) s x t ho base e i z size bytes ht hi hz hsize hby hzs hsz v n xs hs (hown.alloc _) (w0.heap.size+1) (some ⟨w0.heap.size,0,none⟩) 1 c cs.toList hx hr h1 hn hbytes (by omega) ?_;intro v' w' hown' hg hat;have hg0:w0.grownBy w' v.ownBlock:=zWx (World.grownBy_alloc w0 _ none) hg;have hlt:=hown.lt;obtain⟨g,cap,hv,hgb,hglt⟩:=hown'.form (by omega);subst hv;refine h g cap w' hgb hown' (λB A hB hA=>hA.grown hg0 (by omega) λk hk=>by have:=(hlt k hk).1;omega) hg0 ?_;rcases hat with e1|e1
 ·exact .inl (by simpa[Value.ownBlock]using e1)
 ·exact .inr (by simpa[Value.ownBlock]using e1)
theorem bE{P:Program}{ops:Array Oper}{rest:List Oper}{o:Oper}{a:Act}{Q:Exit->Act->World->Prop}(w0:World)(hgd:o.guard=none)(s x:Operand)(t:TypeId)(ho:o.op= .call {callee:= .builtin .append,args:=#[s,x],argTypes:=#[t,t]})(base:Nat)(e:TypeId)(i:TypeInfo)(z:Value)(size bytes:Nat)(ht:P.underlying t=some (.slice e))(hi:P.info? e=some i)(hz:i.zero=some z)(hsize:i.size=size)(hby:i.bytes=bytes)(hzs:z.cells.size=size)(hsz:0<size)(hb0:0<bytes)(v:Value)(n:Nat)(xs:List Value)(hown:w0.ownsRow base e size v n xs)(hs:a.eval s=v)(cs:Array Value)(c g0:Nat)(hx:a.eval x= .slice (some ⟨g0,0,none⟩) 1 c)(hg0:w0.heap.size=g0)(hcs:cs.size=size)(h1:∀u∈cs.toList,u.oneCell'=true)(hbytes:(n+1)*bytes<=140737488355328)(hbase:base<=g0)(h:∀g cap w',base<=g->w'.ownsRow base e size (.slice (some ⟨g,0,none⟩) (n+1) cap) (n+1) (xs++cs.toList)->(∀B A,B<=base->Below B A w0->Below B A w')->w0.grownBy w' v.ownBlock-> (some g=v.ownBlock\/g=g0+1)->wpList P ops Q rest (a.put o.dst (.slice (some ⟨g,0,none⟩) (n+1) cap)) w'):wpList P ops Q (o::rest) a (w0.alloc (.cells cs e)):=
 wpList_plain hgd λ_ hK=>zMf w0 s x t ho base e i z size bytes ht hi hz hsize hby hzs hsz hb0 v n xs hown hs cs c g0 hx hg0 hcs h1 hbytes hbase λg cap w' h2 h3 h4 h5 h6=>hK _ _ (h g cap w' h2 h3 h4 h5 h6)
theorem zQd{P:Program}{ops:Array Oper}{o:Oper}{a:Act}{K:Act->World->Prop}{Q:Exit->Act->World->Prop}{E:Prop}(w0:World)(hgd:o.guard=none)(s x:Operand)(t:TypeId)(ho:o.op= .call {callee:= .builtin .append,args:=#[s,x],argTypes:=#[t,t]})(base:Nat)(e:TypeId)(i:TypeInfo)(z:Value)(size bytes:Nat)(ht:P.underlying t=some (.slice e))(hi:P.info? e=some i)(hz:i.zero=some z)(hsize:i.size=size)(hby:i.bytes=bytes)(hzs:z.cells.size=size)(hsz:0<size)(hb0:0<bytes)(v:Value)(n:Nat)(xs:List Value)(hown:w0.ownsRow base e size v n xs)(hs:a.eval s=v)(cs:Array Value)(c g0:Nat)(hx:a.eval x= .slice (some ⟨g0,0,none⟩) 1 c)(hg0:w0.heap.size=g0)(hcs:cs.size=size)(h1:∀u∈cs.toList,u.oneCell'=true)(hbytes:(n+1)*bytes<=140737488355328)(hbase:base<=g0)(h:∀g cap w',base<=g->w'.ownsRow base e size (.slice (some ⟨g,0,none⟩) (n+1) cap) (n+1) (xs++cs.toList)->(∀B A,B<=base->Below B A w0->Below B A w')->w0.grownBy w' v.ownBlock-> (some g=v.ownBlock\/g=g0+1)->K (a.put o.dst (.slice (some ⟨g,0,none⟩) (n+1) cap)) w'):if Region.wanted o (yielded ops a.tmps)=true then Oper.wp P o a (w0.alloc (.cells cs e)) K Q else E:=by
 have hw:Region.wanted o (yielded ops a.tmps)=true:=by simp[Region.wanted,hgd]
 rw[if_pos hw];exact zMf w0 s x t ho base e i z size bytes ht hi hz hsize hby hzs hsz hb0 v n xs hown hs cs c g0 hx hg0 hcs h1 hbytes hbase h
theorem dU{w:World}{base base' size size' n n':Nat}{e e':TypeId}{v v':Value}{xs xs':List Value}(h:w.ownsRow base e size v n xs)(h':w.ownsRow base' e' size' v' n' xs')(hne:e≠e'):v.ownBlock=none\/v.ownBlock≠v'.ownBlock:=by
 rcases h.2 with⟨rfl,_⟩|⟨g,cap,cur,rfl,_,hh,_⟩
 ·exact .inl rfl
 ·right
  intro he;exact bB (g:=g) h' hh (Ne.symm hne) (by rw[<-he];rfl)
def lenOf:Value->Nat
 | .slice _ n _=>n
 |_=>0
theorem bG{w:World}{base size n:Nat}{e:TypeId}{v:Value}{xs:List Value}(h:w.ownsRow base e size v n xs):∃A c,v= .slice A n c/\n<=c:=by
 rcases h.2 with⟨rfl,rfl⟩|⟨g,cap,cur,rfl,_,_,hn,_⟩
 ·exact⟨none,0,rfl,qA _⟩
 ·exact⟨_,cap,rfl,hn⟩
theorem cZ{α:Type}(l:List α)(k:Nat)(x:α)(h:l[k]? =some x):l.take (k+1)=l.take k++[x]:=by rw[List.take_add_one,h];rfl
theorem zSl{α β:Type}(f:α->β)(l:List α):(l.map λz=>[f z]).flatten=l.map f:=by
 induction l with
 |nil=>rfl
 |cons z zs ih=>simp[ih]
theorem zDv{α:Type}(size:Nat):∀(css:List (List α)),(∀cs∈css,cs.length=size)->∀i r,r<size->css.flatten[i*size+r]? =(css[i]?).bind (·[r]?)
 |[],_,i,r,_=>by simp
 |c::css,h,0,r,hr=>by have hc:=h c (by simp);simp[List.getElem?_append_left (show r<c.length by omega)]
 |c::css,h,i+1,r,hr=>by
  have hc:=h c (by simp);rw[List.flatten_cons,uG (by rw[hc,Nat.succ_mul];omega),show(i+1)*size+r-c.length=i*size+r from by rw[hc,Nat.succ_mul];omega,
   zDv size css (λcs hcs=>h cs (by simp[hcs])) i r hr]
  simp
theorem zBf{α:Type}(cells:α->List Value)(size:Nat)(hs:∀x,(cells x).length=size)(xs:List α)(k j:Nat)(hj:j<size):(xs.flatMap cells)[k*size+j]? =(xs[k]?).bind λx=>(cells x)[j]? :=by rw[List.flatMap_def,zDv size _ (by intro cs hcs;simp at hcs;obtain⟨x,_,rfl⟩:=hcs;exact hs x) k j hj,qV];cases xs[k]? <;>rfl
theorem zLp{w:World}{B size n:Nat}{A:Option Addr}{xs:List Value}(h:Reads w B size A n xs)(hn:0<n)(hs:0<size):∃b o,A=some ⟨b,o,none⟩/\b<B/\∀j u,xs[j]? =some u->w.cell? ⟨b,o+j,none⟩=some u:=by
 obtain⟨⟨b,o,sp⟩,e,hb,hc⟩:=h.2 hn;have hl:0<xs.length:=by rw[h.1];exact Nat.mul_pos hn hs
 have h0:=hc 0 _ (qI hl);have hsp:sp=none:=by simpa[Addr.add]using World.cell?_spot h0
 subst hsp;refine⟨b,o,e,hb,λj u hj=> ?_⟩;have:=hc j u hj;unfold Addr.add at this
 split at this
 ·rename_i h0;subst h0;exact this
 ·exact this
theorem dV{α:Type}{cells:α->List Value}{size:Nat}(hs:∀x,(cells x).length=size)(h0:0<size){w:World}{B n:Nat}{A:Option Addr}{xs:List α}(h:Reads w B size A n (xs.flatMap cells)){k:Nat}(hk:k<n)(hl:xs.length=n):∃b o x,A=some ⟨b,o,none⟩/\b<B/\xs[k]? =some x/\∀j u,(cells x)[j]? =some u->w.cell? ⟨b,o+k*size+j,none⟩=some u:=by
 obtain⟨b,o,e,hb,hc⟩:=zLp h (by omega) h0;have hx:xs[k]? =some (xs[k]'(by omega)):=qI (by omega);refine⟨b,o,_,e,hb,hx,λj u hj=> ?_⟩;have hjs:j<size:=by
  rcases Nat.lt_or_ge j size with h|h
  ·exact h
  ·rw[qU (by rw[hs];exact h)]at hj;cases hj
 rw[Nat.add_assoc];refine hc _ _ ?_;rw[zBf cells size hs xs k j hjs,hx];exact hj
theorem yBt{kd:IntKind}{w:World}{B n:Nat}{A:Option Addr}{zs:List Int}(h:Reads w B 1 A n (zs.map (.int kd))){k:Nat}(hk:k<n):∃ad z,A=some ad/\ad.block<B/\zs[k]? =some z/\w.cell? (ad.add k)=some (.int kd z):=by
 obtain⟨ad,u,rfl,hb,hx,hc⟩:=h.at_ hk;rw[qV]at hx;cases hz:zs[k]? with
 |none=>rw[hz]at hx;cases hx
 |some z=>rw[hz]at hx;injection hx with hx;exact⟨ad,z,rfl,hb,rfl,by rw[hc,<-hx]⟩
theorem dQ{kd:IntKind}{w:World}{B n:Nat}{A:Option Addr}{zs:List Int}(h:Reads w B 1 A n (zs.map (.int kd))){k:Nat}(hk:k<n):∃b o z,A=some ⟨b,o,none⟩/\b<B/\zs[k]? =some z/\w.cell? ⟨b,o+k,none⟩=some (.int kd z):=by
 obtain⟨b,o,e,hb,hc⟩:=zLp h (by omega) (by omega);have hl:k<zs.length:=by have:=h.1;simp at this;omega
 exact⟨b,o,zs[k],e,hb,qI hl,hc k _ (by simp[hl])⟩
theorem dA{α:Type}(l:List α)(k:Nat)(x:α)(h:l[k]? =some x):l.drop k=x::l.drop (k+1):=by obtain⟨hl,rfl⟩:=qJ.1 h;exact List.drop_eq_getElem_cons hl
def zHf(a b:List Int):Bool:=decide (a=b)
theorem yEb(a:List Int):zHf a a=true:=by simp[zHf]
structure Stk where
 code:Int
 id:Int
 free:Int
 held:Int
 used:Int
def Stk.val(s:Stk):Value:= .agg #[.int .i64 s.code,.int .i64 s.id,.int .i64 s.free,.int .i64 s.held,.int .i64 s.used]
def Stk.none:Stk:=⟨0,0,0,0,0⟩
structure Ordr where
 kind:Int
 count:Int
 life:Int
 id:Int
def Ordr.cells(o:Ordr):List Value:=[.int .i64 o.kind,.int .i64 o.count,.int .i64 o.life,.int .i64 o.id]
def Ordr.val(o:Ordr):Value:= .agg #[.int .i64 o.kind,.int .i64 o.count,.int .i64 o.life,.int .i64 o.id]
structure Hd where
 id:Int
 count:Int
 life:Int
def Hd.cells(h:Hd):List Value:=[.int .i64 h.id,.int .i64 h.count,.int .i64 h.life]
theorem Hd.cells_len(h:Hd):h.cells.length=3:=rfl
def cV:List Hd->Int
 |[]=>0
 |h::l=>h.count+cV l
structure Shf where
 free:Int
 used:Int
 made:Int
 opn:List Hd
def Shf.new:Shf:=⟨0,0,0,[]⟩
def Shf.stock(s:Shf)(id code:Int):Stk:=⟨code,id,s.free,cV s.opn,s.used⟩
def aged(h:Hd):Hd:=⟨h.id,h.count,h.life-1⟩
def fJ:List Hd->Int
 |[]=>0
 |h::l=>(if h.life=0 then h.count else 0)+fJ l
def stays(l:List Hd):List Hd:=l.filter λh=> !(h.life==0)
def zBi(s:Shf)(id:Int)(toUsed:Bool):Shf×Int:=
 if id<1\/s.made<id then(s,6)
 else match s.opn.find? (λh=>h.id==id)with
  |none=>(s,10)
  |some h=>(⟨if toUsed then s.free else s.free+h.count,if toUsed then s.used+h.count else s.used,s.made,s.opn.filter λh=> !(h.id==id)⟩,0)
def gQ(o:Ordr):Bool:=decide (1<=o.count)&&decide (o.count<=1048576)
def dG(k:Int):Bool:=k==1||k==2||k==3||k==6
def Shf.order(s:Shf)(o:Ordr):Shf×Int×Int:=
 if dG o.kind&& !gQ o then(s,0,2)
 else if o.kind=1 then(if 1048576<s.free+cV s.opn+s.used+o.count then(s,0,12)else(⟨s.free+o.count,s.used,s.made,s.opn⟩,0,0))
 else if o.kind=2 then(if s.free<o.count then(s,0,9)else(⟨s.free-o.count,s.used+o.count,s.made,s.opn⟩,0,0))
 else if o.kind=6 then(if s.used<o.count then(s,0,9)else(⟨s.free+o.count,s.used-o.count,s.made,s.opn⟩,0,0))
 else if o.kind=3 then
  (if o.life<1\/20<o.life then(s,0,2)else if s.opn.length=4 then(s,0,8)else if s.free<o.count then(s,0,9)
   else(⟨s.free-o.count,s.used,s.made+1,s.opn++[⟨s.made+1,o.count,o.life⟩]⟩,s.made+1,0))
 else if o.kind=4 then((zBi s o.id true).1,0,(zBi s o.id true).2)
 else if o.kind=5 then((zBi s o.id false).1,0,(zBi s o.id false).2)
 else if o.kind=7 then(⟨s.free+fJ (s.opn.map aged),s.used,s.made,stays (s.opn.map aged)⟩,0,0)
 else(s,0,3)
def Shf.does(s:Shf)(o:Ordr):Shf×Stk:=let r:=s.order o;(r.1,r.1.stock r.2.1 r.2.2)
structure Shf.ok(s:Shf)(K:Int):Prop where
 free0:0<=s.free
 used0:0<=s.used
 made0:0<=s.made
 madeK:s.made<=K
 all:s.free+cV s.opn+s.used<=1048576
 len:s.opn.length<=4
 each:∀h∈s.opn,1<=h.id/\h.id<=s.made/\1<=h.count/\h.count<=1048576/\1<=h.life/\h.life<=20
 ids:(s.opn.map (·.id)).Pairwise (· < ·)
theorem zGj(a b:List Hd):cV (a++b)=cV a+cV b:=by
 induction a with
 |nil=>simp[cV]
 |cons h l ih=>simp[cV,ih];omega
theorem zEi{l:List Hd}(h:∀x∈l,0<=x.count):0<=cV l:=by
 induction l with
 |nil=>simp[cV]
 |cons x l ih=>have:=h x (by simp);have:=ih (λy hy=>h y (by simp[hy]));simp[cV];omega
theorem zLd(l:List Hd):cV (l.map aged)=cV l:=by
 induction l with
 |nil=>rfl
 |cons x l ih=>simp[cV,ih,aged]
theorem zOp(l:List Hd):cV (stays l)+fJ l=cV l:=by
 induction l with
 |nil=>rfl
 |cons x l ih=>
  by_cases h:x.life=0
  ·have e:stays (x::l)=stays l:=by simp[stays,h]
   rw[e];simp[fJ,cV,h];omega
  ·have e:stays (x::l)=x::stays l:=by simp[stays,h]
   rw[e];simp[fJ,cV,h];omega
theorem zJg{l:List Hd}(h:∀x∈l,0<=x.count):0<=fJ l:=by
 induction l with
 |nil=>simp[fJ]
 |cons x l ih=>have:=h x (by simp);have:=ih (λy hy=>h y (by simp[hy]));simp[fJ];split<;>omega
theorem yEl{l:List Hd}{id:Int}{h:Hd}(hp:(l.map (·.id)).Pairwise (· < ·))(hf:l.find? (λh=>h.id==id)=some h):∃a b,l=a++h::b/\h.id=id/\(l.filter λh=> !(h.id==id))=a++b/\(∀x∈a,(x.id==id)=false):=by
 induction l with
 |nil=>cases hf
 |cons x l ih=>
  rw[qK,List.pairwise_cons]at hp;rw[List.find?_cons]at hf;cases hx:x.id==id with
  |true=>
   rw[hx]at hf;injection hf with hf;subst hf;have hid:x.id=id:=by simpa using hx
   refine⟨[],l,rfl,hid,?_,by simp⟩;rw[List.filter_cons,hx];simp only[Bool.not_true,Bool.false_eq_true,if_false,List.nil_append];refine List.filter_eq_self.2 λy hy=> ?_
   have:=hp.1 y.id (jF.2 ⟨y,hy,rfl⟩);have:(y.id==id)=false:=by simp;omega
   rw[this];rfl
  |false=>
   rw[hx]at hf;obtain⟨a,b,e1,e2,e3,e4⟩:=ih hp.2 hf;refine⟨x::a,b,by rw[e1];rfl,e2,?_,λy hy=> ?_⟩
   ·rw[List.filter_cons,hx,e3];rfl
   ·rcases jB.1 hy with rfl|hy
    ·exact hx
    ·exact e4 y hy
theorem zOd{s:Shf}{K:Int}(h:s.ok K)(id:Int)(b:Bool):(zBi s id b).1.ok K:=by
 unfold zBi
 split
 ·exact h
 ·cases hf:s.opn.find? (λh=>h.id==id)with
  |none=>exact h
  |some x=>
   obtain⟨a,c,e1,e2,e3,e4⟩:=yEl h.ids hf;have hx:=h.each x (by rw[e1];simp);have hh:cV s.opn=cV (a++c)+x.count:=by rw[e1,zGj,zGj];simp[cV];omega
   have hall:=h.all;have hsub:(a++c).Sublist s.opn:=by rw[e1];exact List.Sublist.append (List.Sublist.refl _) (List.sublist_cons_self _ _)
   have h1:=h.free0;have h2:=h.used0;dsimp only;rw[e3];refine⟨?_,?_,h.made0,h.madeK,?_,qL hsub.length_le h.len,λy hy=>h.each y (hsub.subset hy),List.Pairwise.sublist (hsub.map _) h.ids⟩
   ·cases b<;>simp<;>omega
   ·cases b<;>simp<;>omega
   ·cases b<;>simp<;>omega
theorem zXu{s:Shf}{K:Int}(h:s.ok K)(o:Ordr):(s.order o).1.ok (K+1):=by
 have hK:s.ok (K+1):={h with madeK:=by have:=h.madeK;omega};have hh:0<=cV s.opn:=zEi λx hx=>by have:=h.each x hx;omega
 have h1:=h.free0;have h2:=h.used0;have h3:=h.all;have hcb:dG o.kind=true->gQ o=true->1<=o.count/\o.count<=1048576:=λ_ hc=>by simpa[gQ]using hc
 unfold Shf.order;by_cases c0:(dG o.kind&& !gQ o)=true
 ·rw[if_pos c0];exact hK
 rw[if_neg c0];have hc:dG o.kind=true->1<=o.count/\o.count<=1048576:=λha=>hcb ha (by cases hb:gQ o with|true=>rfl|false=>rw[ha,hb]at c0;simp at c0)
 by_cases c1:o.kind=1
 ·rw[if_pos c1];have:=hc (by rw[c1];rfl)
  split
  ·exact hK
  ·exact{hK with free0:=by dsimp only;omega,all:=by dsimp only;omega}
 rw[if_neg c1];by_cases c2:o.kind=2
 ·rw[if_pos c2];have:=hc (by rw[c2];rfl)
  split
  ·exact hK
  ·exact{hK with free0:=by dsimp only;omega,used0:=by dsimp only;omega,all:=by dsimp only;omega}
 rw[if_neg c2];by_cases c6:o.kind=6
 ·rw[if_pos c6];have:=hc (by rw[c6];rfl)
  split
  ·exact hK
  ·exact{hK with free0:=by dsimp only;omega,used0:=by dsimp only;omega,all:=by dsimp only;omega}
 rw[if_neg c6];by_cases c3:o.kind=3
 ·rw[if_pos c3];have hcn:=hc (by rw[c3];rfl)
  split
  ·exact hK
  ·rename_i hl
   split
   ·exact hK
   ·rename_i h4
    split
    ·exact hK
    ·refine⟨by dsimp only;omega,h2,by have:=h.made0;dsimp only;omega,by have:=h.madeK;dsimp only;omega,?_,?_,?_,?_⟩
     ·dsimp only;rw[zGj];simp[cV];omega
     ·have:=h.len;dsimp only;simp;omega
     ·intro x hx;dsimp only at hx⊢;rcases jL.1 hx with hx|hx
      ·have:=h.each x hx;omega
      ·rw[jN]at hx;subst hx;have:=h.made0;dsimp only;omega
     ·dsimp only;rw[jG,List.pairwise_append];refine⟨h.ids,by simp,λa ha b hb=> ?_⟩;obtain⟨x,hx,rfl⟩:=jF.1 ha;simp at hb;subst hb;have:=h.each x hx;omega
 rw[if_neg c3];by_cases c4:o.kind=4
 ·rw[if_pos c4];exact{zOd h o.id true with madeK:=by have:=(zOd h o.id true).madeK;dsimp only;omega}
 rw[if_neg c4];by_cases c5:o.kind=5
 ·rw[if_pos c5];exact{zOd h o.id false with madeK:=by have:=(zOd h o.id false).madeK;dsimp only;omega}
 rw[if_neg c5];by_cases c7:o.kind=7
 ·rw[if_pos c7];have e1:=zOp (s.opn.map aged);rw[zLd]at e1;have e2:0<=fJ (s.opn.map aged):=zJg λx hx=>by obtain⟨y,hy,rfl⟩:=jF.1 hx;have:=h.each y hy;simp[aged];omega
  have hsub:(stays (s.opn.map aged)).Sublist (s.opn.map aged):=List.filter_sublist;refine⟨by dsimp only;omega,h2,h.made0,by have:=h.madeK;dsimp only;omega,by dsimp only;omega,?_,?_,?_⟩
  ·have:=hsub.length_le;rw[qR]at this;have:=h.len;dsimp only;omega
  ·intro x hx;dsimp only at hx⊢;have hx0:=(List.mem_filter.1 hx).2;obtain⟨y,hy,rfl⟩:=jF.1 (hsub.subset hx);have:=h.each y hy;simp[aged]at hx0⊢;omega
  ·dsimp only;have:=List.Pairwise.sublist (hsub.map (·.id)) (by
    rw[List.map_map];have e:((λx:Hd=>x.id)∘aged)=λx:Hd=>x.id:=rfl
    rw[e];exact h.ids)
   exact this
 rw[if_neg c7];exact hK
structure Rk where
 free:Int
 used:Int
 rows:List (Int×Int)
def Rk.new:Rk:=⟨0,0,[]⟩
def cJ:List (Int×Int)->Int
 |[]=>0
 |(c,l)::t=>(if 0<l then c else 0)+cJ t
def fG:List (Int×Int)->Nat
 |[]=>0
 |(_,l)::t=>(if 0<l then 1 else 0)+fG t
def Rk.stock(r:Rk)(id code:Int):Stk:=⟨code,id,r.free,cJ r.rows,r.used⟩
def zBm(x:Int×Int):Int×Int:=(x.1,if 0<x.2 then x.2-1 else x.2)
def gI:List (Int×Int)->Int
 |[]=>0
 |(c,l)::t=>(if l=1 then c else 0)+gI t
def Rk.order(r:Rk)(o:Ordr):Rk×Int×Int:=
 if o.kind<1\/7<o.kind then(r,0,3)
 else if dG o.kind&& !gQ o then(r,0,2)
 else if o.kind=1 then(if 1048576<r.free+cJ r.rows+r.used+o.count then(r,0,12)else(⟨r.free+o.count,r.used,r.rows⟩,0,0))
 else if o.kind=2 then(if r.free<o.count then(r,0,9)else(⟨r.free-o.count,r.used+o.count,r.rows⟩,0,0))
 else if o.kind=6 then(if r.used<o.count then(r,0,9)else(⟨r.free+o.count,r.used-o.count,r.rows⟩,0,0))
 else if o.kind=3 then
  (if o.life<1\/20<o.life then(r,0,2)else if 4<=fG r.rows then(r,0,8)else if r.free<o.count then(r,0,9)
   else(⟨r.free-o.count,r.used,r.rows++[(o.count,o.life)]⟩,((r.rows.length+1:Nat):Int),0))
 else if o.kind=4\/o.kind=5 then
  (if o.id<1\/r.rows.length<o.id then(r,0,6)
   else match r.rows[o.id.toNat-1]? with
    |none=>(r,0,6)
    |some x=>if x.2=0 then(r,0,10)
     else(⟨if o.kind=4 then r.free else r.free+x.1,if o.kind=4 then r.used+x.1 else r.used,r.rows.set (o.id.toNat-1) (x.1,0)⟩,0,0))
 else(⟨r.free+gI r.rows,r.used,r.rows.map zBm⟩,0,0)
def Rk.does(r:Rk)(o:Ordr):Rk×Stk:=let x:=r.order o;(x.1,x.1.stock x.2.1 x.2.2)
def fC:List (Int×Int)->Int->List Hd
 |[],_=>[]
 |(c,l)::t,i=>if 0<l then⟨i,c,l⟩::fC t (i+1)else fC t (i+1)
theorem zOt(c t:Int)(l:List (Int×Int))(i:Int):fC ((c,t)::l) i=if 0<t then⟨i,c,t⟩::fC l (i+1)else fC l (i+1):=rfl
structure zIf(s:Shf)(r:Rk):Prop where
 free:s.free=r.free
 used:s.used=r.used
 made:s.made=r.rows.length
 opn:s.opn=fC r.rows 1
 left:∀x∈r.rows,0<=x.2
theorem zPf(l:List (Int×Int)):∀i,cV (fC l i)=cJ l:=by
 induction l with
 |nil=>intro i;rfl
 |cons x l ih=>intro i;obtain⟨c,t⟩:=x;unfold fC cJ;split<;>simp[cV,ih]
theorem zRg(l:List (Int×Int)):∀i,(fC l i).length=fG l:=by
 induction l with
 |nil=>intro i;rfl
 |cons x l ih=>intro i;obtain⟨c,t⟩:=x;unfold fC fG;split<;>simp[ih];omega
theorem zVt(a b:List (Int×Int)):∀i,fC (a++b) i=fC a i++fC b (i+a.length):=by
 induction a with
 |nil=>intro i;simp[fC]
 |cons x l ih=>
  intro i;obtain⟨c,t⟩:=x;rw[List.cons_append,zOt,zOt,ih (i+1),show i+1+(l.length:Int)=i+(((c,t)::l).length:Int)by simp;omega]
  split<;>rfl
theorem yCi(l:List (Int×Int)):∀i,∀h∈fC l i,i<=h.id/\h.id<i+l.length:=by
 induction l with
 |nil=>intro i h hh;cases hh
 |cons x l ih=>
  intro i h hh;obtain⟨c,t⟩:=x;unfold fC at hh;rw[jE]
  split at hh
  ·rcases jB.1 hh with rfl|hh
   ·dsimp only;omega
   ·have:=ih (i+1) h hh;omega
  ·have:=ih (i+1) h hh;omega
theorem zZm(l:List (Int×Int))(h0:∀x∈l,0<=x.2):∀i,stays ((fC l i).map aged)=fC (l.map zBm) i/\fJ ((fC l i).map aged)=gI l:=by
 induction l with
 |nil=>intro i;exact⟨rfl,rfl⟩
 |cons x l ih=>
  intro i;obtain⟨c,t⟩:=x;have ht:=h0 (c,t) (by simp);dsimp only at ht;obtain⟨e1,e2⟩:=ih (λy hy=>h0 y (by simp[hy])) (i+1);rw[qK];by_cases hp:0<t
  ·have ea:zBm (c,t)=(c,t-1):=by simp[zBm,hp]
   rw[ea];unfold fC gI;rw[if_pos hp,qK];by_cases h1:t=1
   ·subst h1;refine⟨?_,?_⟩
    ·rw[if_neg (by omega),<-e1];simp[stays,aged]
    ·rw[fJ,if_pos rfl,e2];simp[aged]
   ·refine⟨?_,?_⟩
    ·rw[if_pos (by omega),<-e1];have hne:(t-1==0)=false:=by simp;omega
     simp[stays,aged,hne]
    ·rw[fJ,if_neg h1,e2];simp[aged];omega
  ·have ea:zBm (c,t)=(c,t):=by simp[zBm,hp]
   rw[ea];unfold fC gI;rw[if_neg hp,if_neg hp,e1,e2,if_neg (by omega)];exact⟨rfl,by omega⟩
theorem zZv(l:List (Int×Int))(h0:∀x∈l,0<=x.2)(k:Nat)(x:Int×Int)(hx:l[k]? =some x):∀i,(fC l i).find? (λh=>h.id==i+k)=(if x.2=0 then none else some ⟨i+k,x.1,x.2⟩)/\ ((fC l i).filter λh=> !(h.id==i+k))=fC (l.set k (x.1,0)) i:=by
 induction l generalizing k with
 |nil=>simp at hx
 |cons y l ih=>
  intro i;obtain⟨c,t⟩:=y;have ht:=h0 (c,t) (by simp);dsimp only at ht;cases k with
  |zero=>
   simp at hx;subst hx;have hrest:∀h∈fC l (i+1),(h.id==i+((0:Nat):Int))=false:=λh hh=>by have:=yCi l (i+1) h hh;simp;omega
   have hf:(fC l (i+1)).find? (λh=>h.id==i+((0:Nat):Int))=none:=List.find?_eq_none.2 λh hh=>by rw[hrest h hh];simp
   have hg:((fC l (i+1)).filter λh=> !(h.id==i+((0:Nat):Int)))=fC l (i+1):=List.filter_eq_self.2 λh hh=>by rw[hrest h hh];rfl
   rw[List.set_cons_zero];unfold fC;rw[if_neg (by omega:¬ (0:Int)<0)];by_cases hp:0<t
   ·rw[if_pos hp,if_neg (by dsimp only;omega),List.find?_cons,List.filter_cons,hg];simp
   ·rw[if_neg hp,if_pos (by dsimp only;omega)];exact⟨hf,hg⟩
  |succ k=>
   simp at hx;obtain⟨e1,e2⟩:=ih (λy hy=>h0 y (by simp[hy])) k hx (i+1);have e:i+1+(k:Int)=i+((k+1:Nat):Int):=by simp;omega
   rw[e]at e1 e2;rw[List.set_cons_succ];unfold fC;by_cases hp:0<t
   ·rw[if_pos hp,if_pos hp,List.find?_cons,List.filter_cons];have hne:(i==i+((k+1:Nat):Int))=false:=by simp;omega
    simp only[hne];exact⟨e1,by rw[e2];rfl⟩
   ·rw[if_neg hp,if_neg hp];exact⟨e1,e2⟩
theorem yEg{s:Shf}{r:Rk}{K:Int}(h:zIf s r)(hk:s.ok K)(o:Ordr):zIf (s.order o).1 (r.order o).1/\(s.order o).2=(r.order o).2:=by
 obtain⟨sf,su,sm,so⟩:=s;obtain⟨rf,ru,rr⟩:=r;obtain⟨h1,h2,h3,h4,h5⟩:=h;dsimp only at h1 h2 h3 h4 h5;subst h1 h2 h3 h4;have hlen:=hk.len;dsimp only at hlen;rw[zRg]at hlen;unfold Shf.order Rk.order;dsimp only;simp only[zPf,zRg];have base:zIf ⟨sf,su,rr.length,fC rr 1⟩ ⟨sf,su,rr⟩:=⟨rfl,rfl,rfl,rfl,h5⟩;by_cases ck:o.kind<1\/7<o.kind
 ·rw[if_pos ck];have ha:dG o.kind=false:=by unfold dG;simp;omega
  rw[ha];simp only[Bool.false_and,Bool.false_eq_true,if_false];rw[if_neg (by omega),if_neg (by omega),if_neg (by omega),if_neg (by omega),if_neg (by omega),if_neg (by omega),if_neg (by omega)];exact⟨base,rfl⟩
 rw[if_neg ck];by_cases c0:(dG o.kind&& !gQ o)=true
 ·rw[if_pos c0,if_pos c0];exact⟨base,rfl⟩
 rw[if_neg c0,if_neg c0];by_cases c1:o.kind=1
 ·rw[if_pos c1,if_pos c1]
  split
  ·exact⟨base,rfl⟩
  ·exact⟨⟨rfl,rfl,rfl,rfl,h5⟩,rfl⟩
 rw[if_neg c1,if_neg c1];by_cases c2:o.kind=2
 ·rw[if_pos c2,if_pos c2]
  split
  ·exact⟨base,rfl⟩
  ·exact⟨⟨rfl,rfl,rfl,rfl,h5⟩,rfl⟩
 rw[if_neg c2,if_neg c2];by_cases c6:o.kind=6
 ·rw[if_pos c6,if_pos c6]
  split
  ·exact⟨base,rfl⟩
  ·exact⟨⟨rfl,rfl,rfl,rfl,h5⟩,rfl⟩
 rw[if_neg c6,if_neg c6];by_cases c3:o.kind=3
 ·rw[if_pos c3,if_pos c3];by_cases l1:o.life<1\/20<o.life
  ·rw[if_pos l1,if_pos l1];exact⟨base,rfl⟩
  rw[if_neg l1,if_neg l1];by_cases l2:fG rr=4
  ·have l2':4<=fG rr:=by omega
   rw[if_pos l2,if_pos l2'];exact⟨base,rfl⟩
  have l2':¬ 4<=fG rr:=by omega
  rw[if_neg l2,if_neg l2'];by_cases l3:sf<o.count
  ·rw[if_pos l3,if_pos l3];exact⟨base,rfl⟩
  rw[if_neg l3,if_neg l3];refine⟨⟨rfl,rfl,by simp,?_,λx hx=> ?_⟩,by simp⟩
  ·dsimp only;rw[zVt];have e:fC [(o.count,o.life)] (1+(rr.length:Int))=[⟨1+rr.length,o.count,o.life⟩]:=by unfold fC;rw[if_pos (by omega)];rfl
   rw[e,show(1:Int)+rr.length=rr.length+1 by omega]
  ·rcases jL.1 hx with hx|hx
   ·exact h5 x hx
   ·rw[jN]at hx;subst hx;dsimp only;omega
 rw[if_neg c3,if_neg c3];have shut:∀b:Bool,(o.kind=4↔b=true)->zIf (zBi ⟨sf,su,rr.length,fC rr 1⟩ o.id b).1 (if o.id<1\/(rr.length:Int)<o.id then((⟨sf,su,rr⟩:Rk),(0:Int),(6:Int))
    else match rr[o.id.toNat-1]? with
     |none=>(⟨sf,su,rr⟩,0,6)
     |some x=>if x.2=0 then(⟨sf,su,rr⟩,0,10)
      else(⟨if o.kind=4 then sf else sf+x.1,if o.kind=4 then su+x.1 else su,rr.set (o.id.toNat-1) (x.1,0)⟩,0,0)).1/\((0:Int),(zBi ⟨sf,su,rr.length,fC rr 1⟩ o.id b).2)=(if o.id<1\/(rr.length:Int)<o.id then((⟨sf,su,rr⟩:Rk),(0:Int),(6:Int))
    else match rr[o.id.toNat-1]? with
     |none=>(⟨sf,su,rr⟩,0,6)
     |some x=>if x.2=0 then(⟨sf,su,rr⟩,0,10)
      else(⟨if o.kind=4 then sf else sf+x.1,if o.kind=4 then su+x.1 else su,rr.set (o.id.toNat-1) (x.1,0)⟩,0,0)).2:=by
  intro b hb;unfold zBi;dsimp only;by_cases hr:o.id<1\/(rr.length:Int)<o.id
  ·rw[if_pos hr,if_pos hr];exact⟨base,rfl⟩
  rw[if_neg hr,if_neg hr];obtain⟨k,hk1⟩:∃k:Nat,o.id=((1:Int)+(k:Int)):=⟨o.id.toNat-1,by omega⟩;have hkl:k<rr.length:=by omega
  have e1:o.id.toNat-1=k:=by omega
  rw[e1,hk1];have hx:rr[k]? =some rr[k]:=qI hkl;obtain⟨f1,f2⟩:=zZv rr h5 k rr[k] hx 1;have hx0:=h5 rr[k] (List.getElem_mem _);rw[f1,hx,f2];dsimp only;by_cases hz:rr[k].2=0
  ·rw[if_pos hz,if_pos hz];exact⟨base,rfl⟩
  ·rw[if_neg hz,if_neg hz];refine⟨⟨?_,?_,by simp,rfl,λy hy=> ?_⟩,rfl⟩
   ·cases b
    ·have h4:¬ o.kind=4:=by intro h;simpa using hb.1 h
     simp[h4]
    ·simp[hb.2 rfl]
   ·cases b
    ·have h4:¬ o.kind=4:=by intro h;simpa using hb.1 h
     simp[h4]
    ·simp[hb.2 rfl]
   ·rcases jM hy with hy|rfl
    ·exact h5 y hy
    ·exact Int.le_refl 0
 by_cases c4:o.kind=4
 ·rw[if_pos c4,if_pos (.inl c4)];exact shut true (by simp[c4])
 rw[if_neg c4];by_cases c5:o.kind=5
 ·rw[if_pos c5,if_pos (.inr c5)];exact shut false (by simp[c4])
 have c7:o.kind=7:=by omega
 have c45:¬ (o.kind=4\/o.kind=5):=by omega
 rw[if_neg c5,if_pos c7,if_neg c45];obtain⟨e1,e2⟩:=zZm rr h5 1;rw[e1,e2];refine⟨⟨rfl,rfl,by simp,rfl,λx hx=> ?_⟩,rfl⟩;obtain⟨y,hy,rfl⟩:=jF.1 hx;have:=h5 y hy;unfold zBm;dsimp only
 split<;>omega
theorem yDy{s:Shf}{r:Rk}(h:zIf s r)(id code:Int):s.stock id code=r.stock id code:=by unfold Shf.stock Rk.stock;rw[h.free,h.used,h.opn,zPf]
theorem yFl{s:Shf}{r:Rk}{K:Int}(h:zIf s r)(hk:s.ok K)(o:Ordr):zIf (s.does o).1 (r.does o).1/\(s.does o).2=(r.does o).2:=by obtain⟨h1,h2⟩:=yEg h hk o;refine⟨h1,?_⟩;unfold Shf.does Rk.does;dsimp only;rw[h2];exact yDy h1 _ _
theorem new_same:zIf Shf.new Rk.new:=⟨rfl,rfl,rfl,rfl,λ_ h=>by cases h⟩
theorem new_ok:Shf.new.ok 0:=⟨Int.le_refl _,Int.le_refl _,Int.le_refl _,Int.le_refl _,by simp[Shf.new,cV],by simp[Shf.new],(λ_ h=>by cases h),by simp[Shf.new]⟩
structure Only(D:Nat->Prop)(w w':World):Prop where
 os:w'.os=w.os
 tape:w'.tape=w.tape
 output:w'.output=w.output
 size:w.heap.size<=w'.heap.size
 block:∀k,k<w.heap.size->¬ D k->w'.heap[k]? =w.heap[k]?
section
variable {D D':Nat->Prop}{a w w':World}
theorem Only.refl(D:Nat->Prop)(w:World):Only D w w:=⟨rfl,rfl,rfl,qA _,λ_ _ _=>rfl⟩
theorem Only.trans(h:Only D a w)(k:Only D' w w')(hD:∀x,x<a.heap.size->D' x->D x):Only D a w':=
 ⟨k.os.trans h.os,k.tape.trans h.tape,k.output.trans h.output,qL h.size k.size,λx hx hn=>(k.block x (jW hx h.size) λhd=>hn (hD x hx hd)).trans (h.block x hx hn)⟩
theorem Only.mono(h:Only D w w')(hD:∀x,x<w.heap.size->D x->D' x):Only D' w w':=⟨h.os,h.tape,h.output,h.size,λx hx hn=>h.block x hx λhd=>hn (hD x hx hd)⟩
theorem Only.drew(h:Only D a w):Only D a w.drew:=⟨h.os,h.tape,h.output,h.size,h.block⟩
theorem Only.drewN(h:Only D a w)(n:Nat):Only D a (w.drewN n):=⟨h.os,h.tape,h.output,h.size,h.block⟩
theorem Only.alloc(h:Only D a w)(o:Obj):Only D a (w.alloc o):=
 ⟨h.os,h.tape,h.output,qL h.size (by simp),λx hx hn=>(Below.heap_alloc w o x (jW hx h.size)).trans (h.block x hx hn)⟩
theorem Only.setCell(h:Only D a w){p:Addr}(hp:p.block<a.heap.size->D p.block)(u:Value):Only D a (w.setCell p u):=
 ⟨h.os,h.tape,h.output,by simpa[World.setCell]using h.size,λx hx hn=>(Below.heap_setCell w p u x λe=>hn (e▸hp (e▸hx))).trans (h.block x hx hn)⟩
theorem Only.grown(h:Only D a w){row:Option Nat}(hg:w.grownBy w' row)(hr:∀g,row=some g->g<a.heap.size->D g):Only D a w':=
 ⟨hg.os.trans h.os,hg.tape.trans h.tape,hg.output.trans h.output,qL h.size hg.size,λx hx hn=>(hg.block x (jW hx h.size) λe=>hn (hr x e.symm hx)).trans (h.block x hx hn)⟩
theorem Only.below(h:Only D a w){B:Nat}(hb:Below B w w')(hB:∀x,x<a.heap.size->B<=x->D x):Only D a w':=
 ⟨hb.os.trans h.os,hb.tape.trans h.tape,hb.output.trans h.output,qL h.size hb.size,λx hx hn=>(hb.block x (Nat.not_le.1 λe=>hn (hB x hx e))).trans (h.block x hx hn)⟩
theorem Only.calm(h:Only D a w)(hb:uR w w'):Only D a w':=h.below hb λx hx hB=>absurd h.size (by omega)
theorem Only.of_below{B:Nat}(hb:Below B w w')(hB:∀x,x<w.heap.size->B<=x->D x):Only D w w':=(Only.refl D w).below hb hB
theorem Only.to_below{B:Nat}(h:Only D w w')(hD:∀x,x<B->x<w.heap.size->¬ D x)(hB:B<=w.heap.size):Below B w w':=⟨h.os,h.tape,h.output,h.size,λx hx=>h.block x (by omega) (hD x hx (by omega))⟩
theorem Below.only{B:Nat}(hb:Below B a w)(h:Only D w w')(hD:∀x,x<B->¬ D x)(hB:B<=w.heap.size):Below B a w':=hb.trans (h.to_below (λx hx _=>hD x hx) hB)
theorem Blk.only{g:Nat}{t:TypeId}{cs:Array Value}(h:Blk w g t cs)(ho:Only D w w')(hn:¬ D g):Blk w' g t cs:=(ho.block g h.lt hn).trans h
theorem bK{base size n:Nat}{e:TypeId}{v:Value}{xs:List Value}(h:w.ownsRow base e size v n xs)(ho:Only D w w')(hn:∀g,v.ownBlock=some g->¬ D g):w'.ownsRow base e size v n xs:=by
 obtain⟨h1,h2⟩:=h;refine⟨h1,?_⟩;rcases h2 with h2|⟨g,cap,cur,hv,hg,hh,r⟩
 ·exact .inl h2
 ·refine .inr ⟨g,cap,cur,hv,hg,(ho.block g (Blk.lt (t:=e) (cs:=cur) hh) (hn g (by rw[hv];rfl))).trans hh,r⟩
end
def Has(cs:Array Value)(o:Nat)(l:List Value):Prop:=∀j u,l[j]? =some u->cs[o+j]? =some u
def putAt(cs:Array Value)(o:Nat):List Value->Array Value
 |[]=>cs
 |v::l=>putAt (cs.setIfInBounds o v) (o+1) l
theorem yDq(l:List Value):∀(cs:Array Value) (o:Nat),(putAt cs o l).size=cs.size:=by
 induction l with
 |nil=>intro cs o;rfl
 |cons v l ih=>intro cs o;rw[putAt,ih];simp
theorem zEf(l:List Value):∀(cs:Array Value) (o i:Nat),(putAt cs o l)[i]? =if o<=i/\i<o+l.length/\i<cs.size then l[i-o]? else cs[i]? :=by
 induction l with
 |nil=>intro cs o i;rw[putAt,if_neg (by simp;omega)]
 |cons v l ih=>
  intro cs o i;rw[putAt,ih,Array.size_setIfInBounds,Array.getElem?_setIfInBounds,jE];by_cases h0:i=o
  ·subst h0;rw[if_neg (by omega)];by_cases hs:i<cs.size
   ·rw[if_pos rfl,if_pos hs,if_pos (by omega)];simp
   ·rw[if_pos rfl,if_neg hs,if_neg (by omega)];simp;omega
  ·have e0:(if o=i then if o<cs.size then some v else none else cs[i]?)=cs[i]? :=if_neg (λe=>h0 e.symm);rw[e0];by_cases h1:o+1<=i/\i<o+1+l.length/\i<cs.size
   ·rw[if_pos h1,if_pos (by omega),show i-o=(i-(o+1))+1 by omega];rfl
   ·rw[if_neg h1,if_neg (by omega)]
theorem Has.putAt(cs:Array Value)(o:Nat)(l:List Value)(h:o+l.length<=cs.size):Has (putAt cs o l) o l:=by intro j u hj;have hl:=(qJ.1 hj).1;rw[zEf,if_pos (by omega),Nat.add_sub_cancel_left];exact hj
theorem Has.le{cs:Array Value}{o:Nat}{l:List Value}(h:Has cs o l)(hl:0<l.length):o+l.length<=cs.size:=by have:=h (l.length-1) _ (qI (by omega));have:=(Array.getElem?_eq_some_iff.1 this).1;omega
theorem zFq{a b:Array Value}(h:∀i:Nat,a[i]? =b[i]?):a=b:=by rw[<-uD];apply List.ext_getElem?;intro i;simpa using h i
theorem zBl(cs:Array Value)(o:Nat)(l l':List Value)(h:l.length=l'.length):putAt (putAt cs o l) o l'=putAt cs o l':=by
 apply zFq;intro i;rw[zEf,zEf,zEf,yDq];by_cases h1:o<=i/\i<o+l'.length/\i<cs.size
 ·rw[if_pos h1,if_pos h1]
 ·rw[if_neg h1,if_neg (by omega),if_neg h1]
theorem zGe(cs:Array Value)(o:Nat)(l:List Value)(h:Has cs o l):putAt cs o l=cs:=by
 apply zFq;intro i;rw[zEf]
 split
 ·rename_i h1;have:=h (i-o) _ (qI (by omega));rw[show o+(i-o)=i by omega]at this;rw[this,qI (by omega)]
 ·rfl
theorem yHk(cs:Array Value)(o j:Nat)(l:List Value)(hl:Has cs o l)(hj:j<l.length)(u:Value):cs.setIfInBounds (o+j) u=putAt cs o (l.set j u):=by
 apply zFq;intro i;have hle:=hl.le (by omega);rw[zEf,Array.getElem?_setIfInBounds,List.length_set];by_cases h0:o+j=i
 ·subst h0;rw[if_pos rfl,if_pos (by omega),if_pos (by omega),Nat.add_sub_cancel_left,jK hj]
 ·rw[if_neg h0]
  split
  ·rename_i h1;rw[jX (by omega)];have:=hl (i-o) _ (qI (by omega));rw[show o+(i-o)=i by omega]at this;rw[this,qI (by omega)]
  ·rfl
theorem Blk.put_{w:World}{g:Nat}{t:TypeId}{cs:Array Value}(h:Blk w g t cs){o j:Nat}{l:List Value}(hl:Has cs o l)(hj:j<l.length)(u:Value):Blk (w.setCell ⟨g,o+j,none⟩ u) g t (putAt cs o (l.set j u)):=by
 have:=h.set_ (o+j) u
 rwa[yHk cs o j l hl hj u]at this
theorem Blk.at_{w:World}{g:Nat}{t:TypeId}{cs:Array Value}(h:Blk w g t cs){o:Nat}{l:List Value}(hl:Has cs o l)(j:Nat){u:Value}(hj:l[j]? =some u):w.cell? ⟨g,o+j,none⟩=some u:=(h.cell (o+j)).trans (hl j u hj)
theorem bM{w w':World}{base size n:Nat}{e:TypeId}{v:Value}{xs:List Value}(h:w.ownsRow base e size v n xs)(hb:uR w w'):w'.ownsRow base e size v n xs:=by
 refine jR h (only_of_below' hb) ?_;cases v.ownBlock with
 |none=>exact .inl rfl
 |some g=>exact .inr (by simp)
where only_of_below' {a w:World} (h:uR a w):a.grownBy w none:=⟨h.os,h.tape,h.output,h.size,λi hi _=>h.block i hi⟩
theorem fK{w:World}{base base' size n:Nat}{e:TypeId}{v:Value}{xs:List Value}(h:w.ownsRow base e size v n xs)(hb:base'<=base):w.ownsRow base' e size v n xs:=by
 refine⟨h.1,?_⟩;rcases h.2 with h2|⟨g,cap,cur,h2,h3,h4⟩
 ·exact .inl h2
 ·exact .inr ⟨g,cap,cur,h2,qL hb h3,h4⟩
theorem dY{w:World}{base size n m c:Nat}{A:Option Addr}{e:TypeId}{xs:List Value}(h:w.ownsRow base e size (.slice A m c) n xs):m=n/\n<=c/\c<=maxLen:=by
 rcases h.2 with⟨e1,e2⟩|⟨g,cap,cur,e1,_,_,h1,h2,_⟩
 ·injection e1 with _ e3 e4;subst e3 e4;exact⟨by omega,by omega,qO _⟩
 ·injection e1 with _ e3 e4;subst e3 e4;exact⟨rfl,h1,h2⟩
theorem zEd{α:Type}{cells:α->List Value}{size:Nat}(hs:∀x,(cells x).length=size)(l:List α):(l.flatMap cells).length=l.length*size:=by
 induction l with
 |nil=>simp
 |cons x l ih=>simp[jT,hs,ih,Nat.succ_mul,Nat.add_comm]
theorem zNd{α:Type}{cells:α->List Value}{size:Nat}(hs:∀x,(cells x).length=size):∀(l:List α) (k:Nat),(l.flatMap cells).take (k*size)=(l.take k).flatMap cells
 |[],k=>by simp
 |x::l,0=>by simp
 |x::l,k+1=>by rw[jT,qX,jT,<-zNd hs l k,Nat.succ_mul,Nat.add_comm,<-hs x,List.take_length_add_append]
theorem zNc{α:Type}{cells:α->List Value}{size:Nat}(hs:∀x,(cells x).length=size):∀(l:List α) (k:Nat),(l.flatMap cells).drop (k*size)=(l.drop k).flatMap cells
 |[],k=>by simp
 |x::l,0=>by simp
 |x::l,k+1=>by rw[jT,qZ,<-zNc hs l k,Nat.succ_mul,Nat.add_comm,<-hs x,List.drop_length_add_append]
theorem own_take{w:World}{base g n c size k:Nat}{e:TypeId}{xs:List Value}(h:w.ownsRow base e size (.slice (some ⟨g,0,none⟩) n c) n xs)(hk:k<=n):w.ownsRow base e size (.slice (some ⟨g,0,none⟩) k c) k (xs.take (k*size)):=by
 have hks:k*size<=n*size:=Nat.mul_le_mul_right _ hk;refine⟨by rw[qY,h.1];omega,?_⟩;rcases h.2 with⟨h1,_⟩|⟨g',cap,cur,h1,hb,hh,h2,h3,h4,h5⟩
 ·simp at h1
 ·injection h1 with e1 e2 e3;injection e1 with e1;injection e1 with e1;subst e1 e3;exact .inr ⟨g,c,cur,rfl,hb,hh,by omega,h3,h4,by rw[<-h5,List.take_take];congr 1;omega⟩
theorem zAo{w:World}{base g n c size:Nat}{e:TypeId}{xs:List Value}(h:w.ownsRow base e size (.slice (some ⟨g,0,none⟩) n c) n xs)(j:Nat){u:Value}(hj:xs[j]? =some u):w.cell? ⟨g,j,none⟩=some u:=by
 have:=(h.cells (g:=g) rfl) j u hj;have e:(⟨g,0,none⟩:Addr).add j=⟨g,j,none⟩:=by unfold Addr.add;split<;>simp_all
 rwa[e]at this
theorem bI{G:Nat}{a w:World}(h:Only (λk=>k=G) a w)(j:Nat)(u:Value):Only (λk=>k=G) a (w.setCell ⟨G,j,none⟩ u):=h.setCell (λ_=>rfl) u
theorem zDj{w:World}{base g n cap size:Nat}{e:TypeId}{xs:List Value}(h:w.ownsRow base e size (.slice (some ⟨g,0,none⟩) n cap) n xs)(j:Nat)(hj:j<cap*size):(w.cell? ⟨g,j,none⟩).isSome=true/\w.frozen? ⟨g,j,none⟩=false:=by
 rcases h.2 with⟨h1,_⟩|⟨g',cap',cur,h1,_,hb,_,_,hs,_⟩
 ·simp at h1
 ·injection h1 with e1 e2 e3;injection e1 with e1;injection e1 with e1;subst e1 e3;have hb':Blk w g e cur:=hb;exact⟨by rw[hb'.cell,Array.getElem?_eq_getElem (by omega)];rfl,hb'.frozen j⟩
theorem zEj{α:Type}{cells:α->List Value}{size:Nat}(hs:∀x,(cells x).length=size):∀(l:List α) (k j:Nat) (x y:α) (u:Value),l[k]? =some x->j<size->(cells x).set j u=cells y->(l.flatMap cells).set (k*size+j) u=(l.set k y).flatMap cells
 |[],k,j,x,y,u,hx,_,_=>by simp at hx
 |z::l,0,j,x,y,u,hx,hj,hc=>by simp at hx;subst hx;rw[jT,List.set_cons_zero,jT,Nat.zero_mul,Nat.zero_add,List.set_append_left _ _ (by rw[hs];exact hj),hc]
 |z::l,k+1,j,x,y,u,hx,hj,hc=>by simp at hx;rw[jT,List.set_cons_succ,jT,List.set_append_right _ _ (by rw[hs,Nat.succ_mul];omega),hs,show(k+1)*size+j-size=k*size+j by rw[Nat.succ_mul];omega,zEj hs l k j x y u hx hj hc]
theorem zCk{w w':World}{base base' e e' size size' n n':Nat}{v v':Value}{xs xs':List Value}(h:w.ownsRow base e size v n xs)(h':w.ownsRow base' e' size' v' n' xs')(he:e≠e')(hg:w.grownBy w' v'.ownBlock):w'.ownsRow base e size v n xs:=
 bK h ((Only.refl _ _).grown hg (D:=λk=>v'.ownBlock=some k) λg hg _=>hg) λg hg hd=>by
  rcases dU h h' he with e1|e1
  ·rw[e1]at hg;cases hg
  ·exact e1 (by rw[hg,hd])
theorem gU{t:TypeId}{z:Value}{s b:Nat}(h:(prog.info? t).map (λi=>(i.zero,i.size,i.bytes))=some (some z,s,b)):∃i,prog.info? t=some i/\i.zero=some z/\i.size=s/\i.bytes=b:=by
 cases hi:prog.info? t with
 |none=>rw[hi]at h;simp at h
 |some i=>rw[hi]at h;simp at h;exact⟨i,rfl,h.1,h.2.1,h.2.2⟩
theorem gY{t:TypeId}{cs:List Value}{s b:Nat}(h:(prog.info? t).map (λi=>(i.zero.map λz=>z.cells.toList,i.size,i.bytes))=some (some cs,s,b)):∃i,prog.info? t=some i/\∃z,i.zero=some z/\z.cells.toList=cs/\i.size=s/\i.bytes=b:=by
 cases hi:prog.info? t with
 |none=>rw[hi]at h;simp at h
 |some i=>
  rw[hi]at h;simp only[Option.map_some,Option.some.injEq,Prod.mk.injEq]at h;obtain⟨h1,h2,h3⟩:=h;cases hz:i.zero with
  |none=>rw[hz]at h1;cases h1
  |some z=>rw[hz]at h1;simp at h1;exact⟨i,rfl,z,hz,h1,h2,h3⟩
def zAs(n:Nat):Array Value:=(List.replicate n (Value.slice none 0 0)).toArray
theorem zIu(z:Array Value)(N i:Nat)(hz:0<z.size)(h:i<N):(madeCells z N)[i]? =z[i%z.size]? :=by unfold madeCells;rw[Array.getElem?_map,Array.getElem?_range,if_pos h];have:=Nat.mod_lt i hz;simp[this]
theorem zGw(n:Nat)(z:Array Value)(hc:z.toList=[Value.slice none 0 0]):madeCells z n=zAs n:=by
 unfold zAs;have hs:z.size=1:=by have:=congrArg List.length hc;simpa using this
 apply zFq;intro i;rcases Nat.lt_or_ge i n with h|h
 ·have e:z[0]? =z.toList[0]? :=by simp
  rw[zIu z _ i (by omega) h,hs,Nat.mod_one,e,hc];simp[h]
 ·rw[Array.getElem?_eq_none (by rw[size_madeCells];exact h),Array.getElem?_eq_none (by simpa using h)]
end Go.Proofs.YtbolcebmbpepdaaGreatDoor
